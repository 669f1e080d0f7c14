/- agenda: AgendaOnce, walked. Conditions: none. -/
import Derived.Test.YtiknkeakielncaaAgU
namespace Go.Proofs.Ytiknkeakielncaa.Ag
open Go Go.Proofs Sx
set_option maxRecDepth 100000
set_option linter.unusedVariables false
set_option linter.unusedSimpArgs false
set_option maxHeartbeats 4000000

theorem len_two {l : List En} {k : Nat} {x y : En} (hx : l[k]? = some x) (hy : l[k + 1]? = some y) (h : l.Pairwise (fun a b => ltE b a = false)) : ltE y x = false := by
  obtain ⟨h1, e1⟩ := List.getElem?_eq_some_iff.1 hx
  obtain ⟨h2, e2⟩ := List.getElem?_eq_some_iff.1 hy
  subst e1; subst e2
  exact List.pairwise_iff_getElem.1 h k (k + 1) h1 h2 (by omega)
/-- What came out, what is in, what came in. -/
structure Cut (In M O : List En) : Prop where
  perm : (O ++ M).Perm In
theorem place_no (A : Option Addr) (cp : Nat) (l : List En) (id : Int) (hl : l.length ≤ 1000000) (h : ∀ t ∈ l, t.id ≠ id) :
    Does Try.prog 34 #[.slice A l.length cp, .int .i64 id] (fun f => Reads f A (TL.flat l)) [] (fun v p => v = .int .i64 (-1) ∧ p = []) := by
  refine (place_spec A cp l id hl).mono ?_
  rintro v p ⟨r, rfl, hf, rfl⟩
  rcases hf with ⟨rfl, _⟩ | ⟨i, x, rfl, hx, hid⟩
  · exact ⟨rfl, rfl⟩
  · exact absurd hid (h x (List.mem_of_getElem? hx))
theorem place_yes (A : Option Addr) (cp : Nat) (l : List En) (id : Int) (hl : l.length ≤ 1000000) (h : ∃ t ∈ l, t.id = id) :
    Does Try.prog 34 #[.slice A l.length cp, .int .i64 id] (fun f => Reads f A (TL.flat l)) [] (fun v p => ∃ r : Int, v = .int .i64 r ∧ 0 ≤ r ∧ p = []) := by
  refine (place_spec A cp l id hl).mono ?_
  rintro v p ⟨r, rfl, hf, rfl⟩
  rcases hf with ⟨rfl, hn⟩ | ⟨i, x, rfl, hx, hid⟩
  · obtain ⟨t, ht, e⟩ := h; exact absurd e (hn t ht)
  · exact ⟨i, rfl, by omega, rfl⟩
theorem filter_split (x : Int) (M : List En) : (M.filter (isLate x) ++ ahead x M).Perm M := by
  unfold ahead
  exact List.filter_append_perm _ _
theorem all_late {M : List En} {x : Int} (h : ∀ t ∈ M, t.at_ ≤ x) : M.filter (isLate x) = M := by
  rw [List.filter_eq_self]; intro t ht; simpa [isLate] using h t ht
theorem ahead_late {M : List En} {x : Int} (h : ∀ t ∈ M, t.at_ ≤ x) : ahead x M = [] := by
  unfold ahead; rw [List.filter_eq_nil_iff]; intro t ht; simpa [isLate] using h t ht
theorem once_spec (B C : Option Addr) (cp cq : Nat) (l : List En) (ticks : List Int) (hl1 : l.length ≤ 9223372036854775807) (hl2 : ticks.length ≤ 9223372036854775807) (hat : ∀ x ∈ l, x.at_ ≤ 9223372036854775807) :
    Does Try.prog 8 #[.slice B l.length cp, .slice C ticks.length cq] (fun f => Reads f B (TL.flat l) ∧ Reads f C (IL.flat ticks)) [] (fun v p => v = .bool true ∧ p = []) := by
  refine Does.ofJ Try.func8 Try.call8 rfl [.raw (.slice B l.length cp), .raw (.slice C ticks.length cq)] [] 0 [] rfl rfl (fun h k => k) (fun f hR => ?_)
  obtain ⟨hR, hS⟩ := hR
  refine RegOb.go ?_
  refine Br.mk (fun g => ?_) (fun g => ?_)
  · refine useP .tt live_spec rfl rfl ?_
    exact FinOb.mk [.bool true] [] rfl (fun h k => trivial) ⟨rfl, rfl⟩
  refine CondOb.split (fun g2 => ?_) (fun g2 => ?_)
  · refine useP .tt live_spec rfl rfl ?_
    exact FinOb.mk [.bool true] [] rfl (fun h k => trivial) ⟨rfl, rfl⟩
  replace g : l.length ≤ 150 := by
    have g := of_decide_eq_false g
    omega
  replace g2 : ticks.length ≤ 100 := by
    have g := of_decide_eq_false g2
    omega
  refine call_ix (anew_spec 200 (by decide) (by decide)) rfl [] (fun h k => k) (fun _ _ _ _ => trivial) ?_
  rintro v post ⟨b, rfl, rfl⟩
  refine ⟨.tuple [.raw (ap b), .int .i64 0], _, 0, [.asn (AA b 200 0 [])], NmExt.refl _, rfl, (fun h k => sat_pick 0 rfl (by first | exact fun _ k => k | exact fun _ k => blk_to rfl rfl k | exact fun _ k => vec_to rfl k | exact fun _ k => blk_of rfl rfl k | exact fun _ k => vec_of rfl k | exact fun _ k => blk_of rfl rfl (blk_to rfl rfl k) | exact fun _ k => vec_of rfl (vec_to rfl k) | exact fun _ k => mp_to rfl k | exact fun _ k => mp_of rfl k | exact fun _ k => mp_of rfl (mp_to rfl k)) (fun h k => sat_nil k) k), ?_⟩
  refine RegOb.go ?_
  refine useP (.int .i64 0) (code_spec 0) rfl rfl ?_
  refine Br.mk (fun h => absurd h (by decide)) (fun _ => ?_)
  refine LoopOb.mk { z : Nat × Int × List En × Plc × Nat // z.1 ≤ l.length ∧ PM 200 z.2.1 z.2.2.1 ∧ z.2.2.1.length ≤ z.2.2.2.2 ∧ z.2.1 ≤ z.1 ∧ (∀ x ∈ z.2.2.1, x.at_ ≤ 9223372036854775807) } (fun z => ⟨174, [(0, .raw (.slice B l.length cp)), (1, .raw (.slice C ticks.length cq)), (5, .raw (ap b)), (7, .sl 0 0 z.1.2.2.1.length z.1.2.2.2.2), (8, .int .i64 z.1.1)], [(0, z.1.2.2.2.1)], 1, [.asn (AA b 200 z.1.2.1 z.1.2.2.1), .vec 0 65 3 z.1.2.2.2.2 (TL.flat z.1.2.2.1)]⟩) (fun z => l.length - z.1.1)
    ⟨(0, 0, [], .nil, 0), Nat.zero_le _, PM.emp (by decide) (by decide), Nat.le_refl _, Int.le_refl _, by simp⟩ ?_ ?_
  · exact Le.of rfl ⟨⟨_, rfl, rfl⟩, ⟨_, rfl, rfl⟩, ⟨_, rfl, rfl⟩, ⟨_, rfl, rfl⟩, ⟨_, rfl, rfl⟩, trivial⟩ (fun h k => sat_pick 0 rfl (by first | exact fun _ k => k | exact fun _ k => blk_to rfl rfl k | exact fun _ k => vec_to rfl k | exact fun _ k => blk_of rfl rfl k | exact fun _ k => vec_of rfl k | exact fun _ k => blk_of rfl rfl (blk_to rfl rfl k) | exact fun _ k => vec_of rfl (vec_to rfl k) | exact fun _ k => mp_to rfl k | exact fun _ k => mp_of rfl k | exact fun _ k => mp_of rfl (mp_to rfl k)) (fun h k => sat_add (vec_of rfl vec_emp) ((fun h k => sat_nil k) h k)) k)
  rintro ⟨⟨i, no, M, pl, c⟩, hi, hp, hMc, hno, hMa⟩
  simp only at hi hp hMc hno hMa
  refine CondOb.split (fun gg => ?_) (fun gg => ?_)
  · have gi : i < l.length := by
      have g := of_decide_eq_true gg
      have : (i : Int) < l.length := g
      omega
    have hx := List.getElem?_eq_getElem gi
    have hxm := hat _ (List.getElem_mem gi)
    generalize l[i] = a at hx hxm
    obtain ⟨bb, o, hA, hca⟩ := hR.lay (by decide) hx
    have hn2 : 0 ≤ (i : Int) ∧ (i : Int) < l.length := by omega
    have ei : IntKind.i64.wrap ((i : Int) + 1) = ((i + 1 : Nat) : Int) := by rw [w64 (by omega) (by omega)]; omega
    have hlt := hp.lt
    refine Need.mk hn2 (RawAt.mk bb o hA ?_)
    refine RdF.mk a.itsv a.item rfl rfl (fun q v hq => by rw [Int.toNat_natCast]; exact hca q v hq) ?_
    by_cases hc : pushC M 200 a.id = 0
    · refine call_ix (apush_ok b 200 no M hp (by omega) a hc) rfl [0] (fun h k => sat_pick 0 rfl (by first | exact fun _ k => k | exact fun _ k => blk_to rfl rfl k | exact fun _ k => vec_to rfl k | exact fun _ k => blk_of rfl rfl k | exact fun _ k => vec_of rfl k | exact fun _ k => blk_of rfl rfl (blk_to rfl rfl k) | exact fun _ k => vec_of rfl (vec_to rfl k) | exact fun _ k => mp_to rfl k | exact fun _ k => mp_of rfl k | exact fun _ k => mp_of rfl (mp_to rfl k)) (fun h k => sat_pick 0 rfl (by first | exact fun _ k => k | exact fun _ k => blk_to rfl rfl k | exact fun _ k => vec_to rfl k | exact fun _ k => blk_of rfl rfl k | exact fun _ k => vec_of rfl k | exact fun _ k => blk_of rfl rfl (blk_to rfl rfl k) | exact fun _ k => vec_of rfl (vec_to rfl k) | exact fun _ k => mp_to rfl k | exact fun _ k => mp_of rfl k | exact fun _ k => mp_of rfl (mp_to rfl k)) (fun h k => sat_nil k) k) k) (fun _ _ _ _ => trivial) ?_
      rintro v post ⟨cb, rfl, rfl⟩
      refine ⟨.int .i64 0, _, 1, [.asn (AA b 200 (no + 1) (M ++ [⟨cb, a.id, a.at_, a.rank, no⟩]))], NmExt.refl _, rfl, (fun h k => sat_pick 0 rfl (by first | exact fun _ k => k | exact fun _ k => blk_to rfl rfl k | exact fun _ k => vec_to rfl k | exact fun _ k => blk_of rfl rfl k | exact fun _ k => vec_of rfl k | exact fun _ k => blk_of rfl rfl (blk_to rfl rfl k) | exact fun _ k => vec_of rfl (vec_to rfl k) | exact fun _ k => mp_to rfl k | exact fun _ k => mp_of rfl k | exact fun _ k => mp_of rfl (mp_to rfl k)) (fun h k => sat_nil k) k), ?_⟩
      refine useP (.int .i64 0) (code_spec _) rfl rfl ?_
      refine CondOb.split (fun _ => ?_) (fun h => absurd h (by decide))
      have hp2 := pm_push hp hc cb
      have hMa2 : ∀ x ∈ M ++ [⟨cb, a.id, a.at_, a.rank, no⟩], x.at_ ≤ 9223372036854775807 := fun x hx => by
        rcases List.mem_append.1 hx with h | h
        · exact hMa x h
        · simp at h; subst h; exact hxm
      have eL : (M ++ [(⟨cb, a.id, a.at_, a.rank, no⟩ : En)]).length = M.length + 1 := by simp
      have eF : List.take (M.length * 3) (List.drop 0 (TL.flat M)) ++ TL.cells a = TL.flat (M ++ [⟨cb, a.id, a.at_, a.rank, no⟩]) := by
        rw [List.drop_zero, List.take_of_length_le (by rw [lT]; exact Nat.le_refl _), TL.flat_append, TL.flat_one]; rfl
      generalize M ++ [⟨cb, a.id, a.at_, a.rank, no⟩] = M2 at *
      have hF : (TL.flat M).length = M.length * 3 := lT M
      refine Need.mk hn2 (RawAt.mk bb o hA ?_)
      refine RdF.mk a.itsv a.item rfl rfl (fun q v hq => by rw [Int.toNat_natCast]; exact hca q v hq) ?_
      intro b3
      refine StOb.mk (TL.cells a) rfl (Need.mk rfl ?_)
      refine Need.mk ⟨by dsimp only; rw [hF]; omega, by dsimp only; omega, hMc⟩ ?_
      refine Need.mk ⟨by dsimp only; omega, by dsimp only; simp only [maxLen]; omega, TL.one _⟩ ?_
      refine NewSl.pos (Nat.succ_pos _) (fun b7 o7 c7 hc7 => ?_)
      exact ⟨⟨(i + 1, no + 1, M2, .at b7 o7, c7), gi, hp2, by show M2.length ≤ c7; rw [eL]; exact hc7, by show no + 1 ≤ ((i + 1 : Nat) : Int); omega, hMa2⟩, by show l.length - (i + 1) < l.length - i; omega, Le.of rfl ⟨⟨_, rfl, rfl⟩, ⟨_, rfl, rfl⟩, ⟨_, rfl, rfl⟩, ⟨_, rfl, (congrArg (fun q : Nat => some (Value.slice (some ⟨b7, o7, none⟩) q c7)) eL.symm)⟩, ⟨_, rfl, congrArg (fun z => some (Value.int .i64 z)) ei⟩, trivial⟩ (fun h k => sat_pick 2 rfl (by first | exact fun _ k => k | exact fun _ k => blk_to rfl rfl k | exact fun _ k => vec_to rfl k | exact fun _ k => blk_of rfl rfl k | exact fun _ k => vec_of rfl k | exact fun _ k => blk_of rfl rfl (blk_to rfl rfl k) | exact fun _ k => vec_of rfl (vec_to rfl k) | exact fun _ k => mp_to rfl k | exact fun _ k => mp_of rfl k | exact fun _ k => mp_of rfl (mp_to rfl k)) (fun h k => sat_pick 0 rfl (fun _ k => vec_of rfl (vec_cast eF (vec_to (l := .at b7 o7) rfl k))) (fun h k => sat_nil k) k) k)⟩
    · refine call_ix (apush_no b 200 no M hp a hc) rfl [0] (fun h k => sat_pick 0 rfl (by first | exact fun _ k => k | exact fun _ k => blk_to rfl rfl k | exact fun _ k => vec_to rfl k | exact fun _ k => blk_of rfl rfl k | exact fun _ k => vec_of rfl k | exact fun _ k => blk_of rfl rfl (blk_to rfl rfl k) | exact fun _ k => vec_of rfl (vec_to rfl k) | exact fun _ k => mp_to rfl k | exact fun _ k => mp_of rfl k | exact fun _ k => mp_of rfl (mp_to rfl k)) (fun h k => sat_pick 0 rfl (by first | exact fun _ k => k | exact fun _ k => blk_to rfl rfl k | exact fun _ k => vec_to rfl k | exact fun _ k => blk_of rfl rfl k | exact fun _ k => vec_of rfl k | exact fun _ k => blk_of rfl rfl (blk_to rfl rfl k) | exact fun _ k => vec_of rfl (vec_to rfl k) | exact fun _ k => mp_to rfl k | exact fun _ k => mp_of rfl k | exact fun _ k => mp_of rfl (mp_to rfl k)) (fun h k => sat_nil k) k) k) (fun _ _ _ _ => trivial) ?_
      rintro v post ⟨rfl, rfl⟩
      refine ⟨.int .i64 (pushC M 200 a.id), _, 1, [.asn (AA b 200 no M)], NmExt.refl _, rfl, (fun h k => sat_pick 0 rfl (by first | exact fun _ k => k | exact fun _ k => blk_to rfl rfl k | exact fun _ k => vec_to rfl k | exact fun _ k => blk_of rfl rfl k | exact fun _ k => vec_of rfl k | exact fun _ k => blk_of rfl rfl (blk_to rfl rfl k) | exact fun _ k => vec_of rfl (vec_to rfl k) | exact fun _ k => mp_to rfl k | exact fun _ k => mp_of rfl k | exact fun _ k => mp_of rfl (mp_to rfl k)) (fun h k => sat_nil k) k), ?_⟩
      refine useP (.int .i64 (pushC M 200 a.id)) (code_spec _) rfl rfl ?_
      refine CondOb.split (fun h => absurd (by simpa using h) hc) (fun _ => ?_)
      exact ⟨⟨(i + 1, no, M, pl, c), gi, hp, hMc, by show no ≤ ((i + 1 : Nat) : Int); omega, hMa⟩, by show l.length - (i + 1) < l.length - i; omega, Le.of rfl ⟨⟨_, rfl, rfl⟩, ⟨_, rfl, rfl⟩, ⟨_, rfl, rfl⟩, ⟨_, rfl, rfl⟩, ⟨_, rfl, congrArg (fun z => some (Value.int .i64 z)) ei⟩, trivial⟩ (fun h k => sat_pick 0 rfl (by first | exact fun _ k => k | exact fun _ k => blk_to rfl rfl k | exact fun _ k => vec_to rfl k | exact fun _ k => blk_of rfl rfl k | exact fun _ k => vec_of rfl k | exact fun _ k => blk_of rfl rfl (blk_to rfl rfl k) | exact fun _ k => vec_of rfl (vec_to rfl k) | exact fun _ k => mp_to rfl k | exact fun _ k => mp_of rfl k | exact fun _ k => mp_of rfl (mp_to rfl k)) (fun h k => sat_pick 0 rfl (by first | exact fun _ k => k | exact fun _ k => blk_to rfl rfl k | exact fun _ k => vec_to rfl k | exact fun _ k => blk_of rfl rfl k | exact fun _ k => vec_of rfl k | exact fun _ k => blk_of rfl rfl (blk_to rfl rfl k) | exact fun _ k => vec_of rfl (vec_to rfl k) | exact fun _ k => mp_to rfl k | exact fun _ k => mp_of rfl k | exact fun _ k => mp_of rfl (mp_to rfl k)) (fun h k => sat_nil k) k) k)⟩
  have hinlt := hp.lt
  have hIds := hp.ids
  refine LoopOb.mk { z : Nat × List En × List En × Plc × Nat // z.1 ≤ ticks.length ∧ PM 200 no z.2.1 ∧ z.2.2.1.length ≤ z.2.2.2.2 ∧ (z.2.2.1 ++ z.2.1).Perm M } (fun z => ⟨174, [(0, .raw (.slice B l.length cp)), (1, .raw (.slice C ticks.length cq)), (5, .raw (ap b)), (7, .sl 0 0 M.length c), (9, .sl 1 0 z.1.2.2.1.length z.1.2.2.2.2), (10, .int .i64 z.1.1)], [(1, z.1.2.2.2.1), (0, pl)], 2, [.asn (AA b 200 no z.1.2.1), .vec 0 65 3 c (TL.flat M), .vec 1 65 3 z.1.2.2.2.2 (TL.flat z.1.2.2.1)]⟩) (fun z => ticks.length - z.1.1)
    ⟨(0, M, [], .nil, 0), Nat.zero_le _, hp, Nat.le_refl _, List.Perm.refl _⟩ ?_ ?_
  · exact Le.of rfl ⟨⟨_, rfl, rfl⟩, ⟨_, rfl, rfl⟩, ⟨_, rfl, rfl⟩, ⟨_, rfl, rfl⟩, ⟨_, rfl, rfl⟩, ⟨_, rfl, rfl⟩, trivial⟩ (fun h k => sat_pick 0 rfl (by first | exact fun _ k => k | exact fun _ k => blk_to rfl rfl k | exact fun _ k => vec_to rfl k | exact fun _ k => blk_of rfl rfl k | exact fun _ k => vec_of rfl k | exact fun _ k => blk_of rfl rfl (blk_to rfl rfl k) | exact fun _ k => vec_of rfl (vec_to rfl k) | exact fun _ k => mp_to rfl k | exact fun _ k => mp_of rfl k | exact fun _ k => mp_of rfl (mp_to rfl k)) (fun h k => sat_pick 0 rfl (by first | exact fun _ k => k | exact fun _ k => blk_to rfl rfl k | exact fun _ k => vec_to rfl k | exact fun _ k => blk_of rfl rfl k | exact fun _ k => vec_of rfl k | exact fun _ k => blk_of rfl rfl (blk_to rfl rfl k) | exact fun _ k => vec_of rfl (vec_to rfl k) | exact fun _ k => mp_to rfl k | exact fun _ k => mp_of rfl k | exact fun _ k => mp_of rfl (mp_to rfl k)) (fun h k => sat_add (vec_of rfl vec_emp) ((fun h k => sat_nil k) h k)) k) k)
  rintro ⟨⟨j, N, O, pl2, c2⟩, hj, hpN, hOc, hperm⟩
  simp only at hj hpN hOc hperm
  have hlenO : O.length + N.length = M.length := by have := hperm.length_eq; rw [List.length_append] at this; exact this
  refine CondOb.split (fun gg => ?_) (fun gg => ?_)
  rotate_left
  · have hNa : ∀ t ∈ N, t.at_ ≤ 9223372036854775807 := fun t ht => hMa t (hperm.mem_iff.1 (List.mem_append_right _ ht))
    have h := apop_at b 200 no N hpN 9223372036854775807
    rw [all_late hNa, ahead_late hNa] at h
    refine call_ix h rfl [0] (fun h k => sat_pick 0 rfl (by first | exact fun _ k => k | exact fun _ k => blk_to rfl rfl k | exact fun _ k => vec_to rfl k | exact fun _ k => blk_of rfl rfl k | exact fun _ k => vec_of rfl k | exact fun _ k => blk_of rfl rfl (blk_to rfl rfl k) | exact fun _ k => vec_of rfl (vec_to rfl k) | exact fun _ k => mp_to rfl k | exact fun _ k => mp_of rfl k | exact fun _ k => mp_of rfl (mp_to rfl k)) (fun h k => sat_pick 0 rfl (by first | exact fun _ k => k | exact fun _ k => blk_to rfl rfl k | exact fun _ k => vec_to rfl k | exact fun _ k => blk_of rfl rfl k | exact fun _ k => vec_of rfl k | exact fun _ k => blk_of rfl rfl (blk_to rfl rfl k) | exact fun _ k => vec_of rfl (vec_to rfl k) | exact fun _ k => mp_to rfl k | exact fun _ k => mp_of rfl k | exact fun _ k => mp_of rfl (mp_to rfl k)) (fun h k => sat_pick 0 rfl (by first | exact fun _ k => k | exact fun _ k => blk_to rfl rfl k | exact fun _ k => vec_to rfl k | exact fun _ k => blk_of rfl rfl k | exact fun _ k => vec_of rfl k | exact fun _ k => blk_of rfl rfl (blk_to rfl rfl k) | exact fun _ k => vec_of rfl (vec_to rfl k) | exact fun _ k => mp_to rfl k | exact fun _ k => mp_of rfl k | exact fun _ k => mp_of rfl (mp_to rfl k)) (fun h k => sat_nil k) k) k) k) (fun _ _ _ _ => trivial) ?_
    rintro v post ⟨S, pl3, c3, rfl, hS', hc3, hat3, rfl⟩
    refine ⟨.sl 2 0 S.length c3, (2, pl3) :: _, 3, [.asn (AA b 200 no []), .vec 2 65 3 c3 (TL.flat S)], NmExt.push rfl, rfl, (fun h k => sat_pick 0 rfl (by first | exact fun _ k => k | exact fun _ k => blk_to rfl rfl k | exact fun _ k => vec_to rfl k | exact fun _ k => blk_of rfl rfl k | exact fun _ k => vec_of rfl k | exact fun _ k => blk_of rfl rfl (blk_to rfl rfl k) | exact fun _ k => vec_of rfl (vec_to rfl k) | exact fun _ k => mp_to rfl k | exact fun _ k => mp_of rfl k | exact fun _ k => mp_of rfl (mp_to rfl k)) (fun h k => sat_pick 0 rfl (fun _ k => vec_of rfl k) (fun h k => sat_nil k) k) k), ?_⟩
    have hSl : S.length = N.length := hS'.perm.length_eq
    have e1 : IntKind.i64.wrap ((O.length : Int) + S.length) = M.length := by rw [w64 (by omega) (by omega)]; omega
    refine RegOb.go ?_
    refine Br.mk (fun _ => ?_) (fun h => absurd h (by simp [e1]))
    refine useA [] [_, _, _] (.int .i64 0) (alen_spec b 200 no []) rfl rfl rfl ?_
    refine Br.mk (fun _ => ?_) (fun h => absurd h (by decide))
    refine useP .tt live_spec rfl rfl ?_
    exact FinOb.mk [.bool true] [] rfl (fun h k => trivial) ⟨rfl, rfl⟩
  have gj : j < ticks.length := by
    have g := of_decide_eq_true gg
    have : (j : Int) < ticks.length := g
    omega
  have hy := List.getElem?_eq_getElem gj
  generalize ticks[j] = y at hy
  obtain ⟨bb, o, hC, hcy⟩ := hS.lay (by decide) hy
  have hnj : 0 ≤ (j : Int) ∧ (j : Int) < ticks.length := by omega
  have ej : IntKind.i64.wrap ((j : Int) + 1) = ((j + 1 : Nat) : Int) := by rw [w64 (by omega) (by omega)]; omega
  refine Need.mk hnj (RawAt.mk bb o hC ?_)
  refine RdRaw.mk (.int .i64 y) _ rfl (by rw [Int.toNat_natCast]; exact hcy 0 _ rfl) ?_
  refine call_ix (apop_at b 200 no N hpN y) rfl [0] (fun h k => sat_pick 0 rfl (by first | exact fun _ k => k | exact fun _ k => blk_to rfl rfl k | exact fun _ k => vec_to rfl k | exact fun _ k => blk_of rfl rfl k | exact fun _ k => vec_of rfl k | exact fun _ k => blk_of rfl rfl (blk_to rfl rfl k) | exact fun _ k => vec_of rfl (vec_to rfl k) | exact fun _ k => mp_to rfl k | exact fun _ k => mp_of rfl k | exact fun _ k => mp_of rfl (mp_to rfl k)) (fun h k => sat_pick 0 rfl (by first | exact fun _ k => k | exact fun _ k => blk_to rfl rfl k | exact fun _ k => vec_to rfl k | exact fun _ k => blk_of rfl rfl k | exact fun _ k => vec_of rfl k | exact fun _ k => blk_of rfl rfl (blk_to rfl rfl k) | exact fun _ k => vec_of rfl (vec_to rfl k) | exact fun _ k => mp_to rfl k | exact fun _ k => mp_of rfl k | exact fun _ k => mp_of rfl (mp_to rfl k)) (fun h k => sat_pick 0 rfl (by first | exact fun _ k => k | exact fun _ k => blk_to rfl rfl k | exact fun _ k => vec_to rfl k | exact fun _ k => blk_of rfl rfl k | exact fun _ k => vec_of rfl k | exact fun _ k => blk_of rfl rfl (blk_to rfl rfl k) | exact fun _ k => vec_of rfl (vec_to rfl k) | exact fun _ k => mp_to rfl k | exact fun _ k => mp_of rfl k | exact fun _ k => mp_of rfl (mp_to rfl k)) (fun h k => sat_nil k) k) k) k) (fun _ _ _ _ => trivial) ?_
  rintro v post ⟨S, pl3, c3, rfl, hS', hc3, hat3, rfl⟩
  refine ⟨.sl 2 0 S.length c3, (2, pl3) :: _, 3, [.asn (AA b 200 no (ahead y N)), .vec 2 65 3 c3 (TL.flat S)], NmExt.push rfl, rfl, (fun h k => sat_pick 0 rfl (by first | exact fun _ k => k | exact fun _ k => blk_to rfl rfl k | exact fun _ k => vec_to rfl k | exact fun _ k => blk_of rfl rfl k | exact fun _ k => vec_of rfl k | exact fun _ k => blk_of rfl rfl (blk_to rfl rfl k) | exact fun _ k => vec_of rfl (vec_to rfl k) | exact fun _ k => mp_to rfl k | exact fun _ k => mp_of rfl k | exact fun _ k => mp_of rfl (mp_to rfl k)) (fun h k => sat_pick 0 rfl (fun _ k => vec_of rfl k) (fun h k => sat_nil k) k) k), ?_⟩
  have hperm2 : ((O ++ S) ++ ahead y N).Perm M := by
    rw [List.append_assoc]
    refine List.Perm.trans (List.Perm.append_left O ?_) hperm
    exact (List.Perm.append_right _ hS'.perm).trans (filter_split y N)
  have hSN : S.length ≤ N.length := by rw [hS'.perm.length_eq]; exact List.length_filter_le _ _
  refine LoopOb.mk { z : Nat × Plc × Nat // z.1 ≤ S.length ∧ O.length + z.1 ≤ z.2.2 } (fun z => ⟨174, [(0, .raw (.slice B l.length cp)), (1, .raw (.slice C ticks.length cq)), (5, .raw (ap b)), (7, .sl 0 0 M.length c), (9, .sl 1 0 (O.length + z.1.1) z.1.2.2), (10, .int .i64 j), (11, .sl 2 0 S.length c3), (12, .int .i64 z.1.1)], [(2, pl3), (1, z.1.2.1), (0, pl)], 3, [.asn (AA b 200 no (ahead y N)), .vec 0 65 3 c (TL.flat M), .vec 1 65 3 z.1.2.2 (TL.flat (O ++ S.take z.1.1)), .vec 2 65 3 c3 (TL.flat S)]⟩) (fun z => S.length - z.1.1)
    ⟨(0, pl2, c2), Nat.zero_le _, hOc⟩ ?_ ?_
  · exact Le.of rfl ⟨⟨_, rfl, rfl⟩, ⟨_, rfl, rfl⟩, ⟨_, rfl, rfl⟩, ⟨_, rfl, rfl⟩, ⟨_, rfl, rfl⟩, ⟨_, rfl, rfl⟩, ⟨_, rfl, rfl⟩, ⟨_, rfl, rfl⟩, trivial⟩ (fun h k => sat_pick 0 rfl (by first | exact fun _ k => k | exact fun _ k => blk_to rfl rfl k | exact fun _ k => vec_to rfl k | exact fun _ k => blk_of rfl rfl k | exact fun _ k => vec_of rfl k | exact fun _ k => blk_of rfl rfl (blk_to rfl rfl k) | exact fun _ k => vec_of rfl (vec_to rfl k) | exact fun _ k => mp_to rfl k | exact fun _ k => mp_of rfl k | exact fun _ k => mp_of rfl (mp_to rfl k)) (fun h k => sat_pick 1 rfl (by first | exact fun _ k => k | exact fun _ k => blk_to rfl rfl k | exact fun _ k => vec_to rfl k | exact fun _ k => blk_of rfl rfl k | exact fun _ k => vec_of rfl k | exact fun _ k => blk_of rfl rfl (blk_to rfl rfl k) | exact fun _ k => vec_of rfl (vec_to rfl k) | exact fun _ k => mp_to rfl k | exact fun _ k => mp_of rfl k | exact fun _ k => mp_of rfl (mp_to rfl k)) (fun h k => sat_pick 1 rfl (fun _ k => vec_of rfl (vec_cast (by rw [List.take_zero, List.append_nil]) (vec_to rfl k))) (fun h k => sat_pick 0 rfl (fun _ k => vec_of rfl (vec_to rfl k)) (fun h k => sat_nil k) k) k) k) k)
  rintro ⟨⟨k, pl4, c4⟩, hk0, hc4⟩
  simp only at hk0 hc4
  refine CondOb.split (fun gk => ?_) (fun gk => ?_)
  rotate_left
  · have gk : k = S.length := by
      have g := of_decide_eq_false gk
      have : ¬ (k : Int) < S.length := g
      omega
    subst gk
    exact ⟨⟨(j + 1, ahead y N, O ++ S, pl4, c4), gj, pm_ahead hpN y, by show (O ++ S).length ≤ c4; rw [List.length_append]; exact hc4, hperm2⟩, by show ticks.length - (j + 1) < ticks.length - j; omega, Le.of rfl ⟨⟨_, rfl, rfl⟩, ⟨_, rfl, rfl⟩, ⟨_, rfl, rfl⟩, ⟨_, rfl, rfl⟩, ⟨_, rfl, (congrArg (fun q : Nat => some (Value.slice (locAddr 0 pl4) q c4)) (show O.length + S.length = (O ++ S).length from List.length_append.symm))⟩, ⟨_, rfl, congrArg (fun z => some (Value.int .i64 z)) ej⟩, trivial⟩ (fun h k => sat_pick 0 rfl (by first | exact fun _ k => k | exact fun _ k => blk_to rfl rfl k | exact fun _ k => vec_to rfl k | exact fun _ k => blk_of rfl rfl k | exact fun _ k => vec_of rfl k | exact fun _ k => blk_of rfl rfl (blk_to rfl rfl k) | exact fun _ k => vec_of rfl (vec_to rfl k) | exact fun _ k => mp_to rfl k | exact fun _ k => mp_of rfl k | exact fun _ k => mp_of rfl (mp_to rfl k)) (fun h k => sat_pick 0 rfl (by first | exact fun _ k => k | exact fun _ k => blk_to rfl rfl k | exact fun _ k => vec_to rfl k | exact fun _ k => blk_of rfl rfl k | exact fun _ k => vec_of rfl k | exact fun _ k => blk_of rfl rfl (blk_to rfl rfl k) | exact fun _ k => vec_of rfl (vec_to rfl k) | exact fun _ k => mp_to rfl k | exact fun _ k => mp_of rfl k | exact fun _ k => mp_of rfl (mp_to rfl k)) (fun h k => sat_pick 0 rfl (fun _ k => vec_of rfl (vec_cast (by rw [List.take_length]) (vec_to rfl k))) (fun h k => sat_nil k) k) k) k)⟩
  have gk : k < S.length := by
    have g := of_decide_eq_true gk
    have : (k : Int) < S.length := g
    omega
  obtain ⟨q3, o3, rfl⟩ := hat3 (by omega)
  have hx := List.getElem?_eq_getElem gk
  generalize S[k] = x at hx
  have hxS : x ∈ S := List.mem_of_getElem? hx
  have hk : (0 : Int) ≤ (k : Int) ∧ (k : Int) < S.length := by omega
  have ek : IntKind.i64.wrap ((k : Int) + 1) = ((k + 1 : Nat) : Int) := by rw [w64 (by omega) (by omega)]; omega
  have hlate : x.at_ ≤ y := by
    have := (List.mem_filter.1 (hS'.perm.mem_iff.1 hxS)).2
    simpa [isLate] using this
  have hO2 : ∀ t ∈ O ++ S.take k, t.id ≠ x.id := fun t ht e => by
    have h1 := (hIds.perm hperm2.symm)
    unfold Ids at h1
    rw [List.pairwise_append, List.pairwise_append] at h1
    rcases List.mem_append.1 ht with h | h
    · exact h1.1.2.2 t h x hxS e
    · have h2 := h1.1.2.1
      obtain ⟨n, hn, rfl⟩ := List.getElem_of_mem h
      rw [List.getElem_take] at e
      rw [List.length_take] at hn
      have hkk := (List.getElem?_eq_some_iff.1 hx).2
      rw [← hkk] at e
      exact List.pairwise_iff_getElem.1 h2 n k (by omega) gk (by omega) e
  have hIn : ∃ t ∈ M, t.id = x.id := ⟨x, hperm2.mem_iff.1 (List.mem_append_left _ (List.mem_append_right _ hxS)), rfl⟩
  have eO : (O ++ S.take k).length = O.length + k := by rw [List.length_append, List.length_take]; omega
  refine RegOb.go ?_
  refine DrawOb.mk [] (.run [0, 1, 2, 3, 4, 5, 6, 7, 8, 9, 10, 11, 12, 13, 14, 15, 16, 17, 18, 19, 20, 21, 22, 23, 24, 25, 26, 27, 28, 29, 30, 31, 32, 33, 34, 35, 36, 37, 38, 39, 40, 41, 42, 43, 44, 45, 46, 47, 48, 49, 50, 51, 52, 53, 54, 55, 56, 57, 58, 59, 60, 61, 62, 63, 64, 65, 66, 67, 68, 69, 70, 71, 72, 73, 74, 75] .nil) (by kernel_rfl) ?_
  refine Need.mk hk ?_
  refine RdOb.mk (.int .i64 x.at_) _ rfl (by rw [Int.toNat_natCast, Nat.zero_add]; exact TL.flat_at hx (j := 1) rfl) ?_
  refine Need.mk hnj (RawAt.mk bb o hC ?_)
  refine RdRaw.mk (.int .i64 y) _ rfl (by rw [Int.toNat_natCast]; exact hcy 0 _ rfl) ?_
  refine Br.mk (fun h => absurd (of_decide_eq_true h) (by omega)) (fun _ => ?_)
  refine Need.mk hk ?_
  refine RdOb.mk (.int .i64 x.id) _ rfl (by rw [Int.toNat_natCast, Nat.zero_add]; exact TL.flat_at hx (j := 0) rfl) ?_
  have hpn := place_no (locAddr 0 pl4) c4 (O ++ S.take k) x.id (by omega) hO2
  rw [eO] at hpn
  refine useR (.int .i64 (-1)) hpn rfl (fun f' b' hs kb => vec_reads 2 hs kb rfl rfl) rfl ?_
  refine Br.mk (fun h => absurd h (by decide)) (fun _ => ?_)
  refine Need.mk hk ?_
  refine RdOb.mk (.int .i64 x.id) _ rfl (by rw [Int.toNat_natCast, Nat.zero_add]; exact TL.flat_at hx (j := 0) rfl) ?_
  refine call_ix (place_yes (locAddr 0 pl) c M x.id (by omega) hIn) rfl [] (fun h k => k) (fun f' b' hs kb => vec_reads 1 hs kb rfl rfl) ?_
  rintro v post ⟨r, rfl, hr0, rfl⟩
  refine ⟨.int .i64 r, _, 3, [], NmExt.refl _, rfl, fun h k => trivial, ?_⟩
  refine Br.mk (fun h => absurd (of_decide_eq_true h) (by omega)) (fun _ => ?_)
  have eF : List.take ((O.length + k) * 3) (List.drop 0 (TL.flat (O ++ S.take k))) ++ TL.cells x = TL.flat (O ++ S.take (k + 1)) := by
    rw [List.drop_zero, List.take_of_length_le (by rw [lT, eO]; exact Nat.le_refl _), List.take_add_one, hx, ← List.append_assoc, TL.flat_append (O ++ S.take k)]
    show _ = _ ++ TL.flat [x]
    rw [TL.flat_one]
  refine Br.mk (fun g5 => ?_) (fun _ => ?_)
  · have g5 : (k : Int) > 0 := of_decide_eq_true g5
    have ek1 : IntKind.i64.wrap ((k : Int) - 1) = ((k - 1 : Nat) : Int) := by rw [w64 (by omega) (by omega)]; omega
    have hz := List.getElem?_eq_getElem (show k - 1 < S.length by omega)
    generalize S[k - 1] = z at hz
    have hle : LeE z x := ltE_no.1 (len_two hz (by rw [show k - 1 + 1 = k by omega]; exact hx) hS'.ord)
    unfold LeE LtE at hle
    refine Need.mk (by rw [ek1]; omega) ?_
    refine RdOb.mk (.int .i64 z.at_) _ rfl (by rw [ek1, Int.toNat_natCast, Nat.zero_add]; exact TL.flat_at hz (j := 1) rfl) ?_
    refine Need.mk hk ?_
    refine RdOb.mk (.int .i64 x.at_) _ rfl (by rw [Int.toNat_natCast, Nat.zero_add]; exact TL.flat_at hx (j := 1) rfl) ?_
    refine Br.mk (fun h => absurd (of_decide_eq_true h) (by omega)) (fun _ => ?_)
    refine Need.mk (by rw [ek1]; omega) ?_
    refine RdOb.mk (.int .i64 z.at_) _ rfl (by rw [ek1, Int.toNat_natCast, Nat.zero_add]; exact TL.flat_at hz (j := 1) rfl) ?_
    refine Need.mk hk ?_
    refine RdOb.mk (.int .i64 x.at_) _ rfl (by rw [Int.toNat_natCast, Nat.zero_add]; exact TL.flat_at hx (j := 1) rfl) ?_
    refine Br.mk (fun g6 => ?_) (fun _ => ?_)
    · have g6 : z.at_ = x.at_ := by simpa using g6
      refine Need.mk (by rw [ek1]; omega) ?_
      refine RdOb.mk (.int .i64 z.rank) _ rfl (by rw [ek1, Int.toNat_natCast, Nat.zero_add]; exact TL.flat_at hz (j := 2) rfl) ?_
      refine Need.mk hk ?_
      refine RdOb.mk (.int .i64 x.rank) _ rfl (by rw [Int.toNat_natCast, Nat.zero_add]; exact TL.flat_at hx (j := 2) rfl) ?_
      refine CondOb.split (fun h => absurd (of_decide_eq_true h) (by omega)) (fun _ => ?_)
      refine Need.mk hk ?_
      refine RdObL.mk x.itsv (by decide) (by rw [lT, Int.toNat_natCast]; show 0 + k * 3 + 3 ≤ S.length * 3; omega) (by rw [Int.toNat_natCast, Nat.zero_add, show ((TL.flat S).drop (k * 3)).take 3 = TL.cells x from TL.flat_get hx]; rfl) ?_
      intro b3
      refine StOb.mk (TL.cells x) rfl (Need.mk rfl ?_)
      refine Need.mk ⟨by dsimp only; rw [lT, eO]; omega, by dsimp only; omega, hc4⟩ ?_
      refine Need.mk ⟨by dsimp only; omega, by dsimp only; simp only [maxLen]; omega, TL.one _⟩ ?_
      refine NewSl.pos (Nat.succ_pos _) (fun b7 o7 c7 hc7 => ?_)
      exact ⟨⟨(k + 1, .at b7 o7, c7), gk, by show O.length + (k + 1) ≤ c7; omega⟩, by show S.length - (k + 1) < S.length - k; omega, Le.of rfl ⟨⟨_, rfl, rfl⟩, ⟨_, rfl, rfl⟩, ⟨_, rfl, rfl⟩, ⟨_, rfl, rfl⟩, ⟨_, rfl, rfl⟩, ⟨_, rfl, rfl⟩, ⟨_, rfl, rfl⟩, ⟨_, rfl, congrArg (fun z => some (Value.int .i64 z)) ek⟩, trivial⟩ (fun h k => sat_pick 2 rfl (by first | exact fun _ k => k | exact fun _ k => blk_to rfl rfl k | exact fun _ k => vec_to rfl k | exact fun _ k => blk_of rfl rfl k | exact fun _ k => vec_of rfl k | exact fun _ k => blk_of rfl rfl (blk_to rfl rfl k) | exact fun _ k => vec_of rfl (vec_to rfl k) | exact fun _ k => mp_to rfl k | exact fun _ k => mp_of rfl k | exact fun _ k => mp_of rfl (mp_to rfl k)) (fun h k => sat_pick 2 rfl (by first | exact fun _ k => k | exact fun _ k => blk_to rfl rfl k | exact fun _ k => vec_to rfl k | exact fun _ k => blk_of rfl rfl k | exact fun _ k => vec_of rfl k | exact fun _ k => blk_of rfl rfl (blk_to rfl rfl k) | exact fun _ k => vec_of rfl (vec_to rfl k) | exact fun _ k => mp_to rfl k | exact fun _ k => mp_of rfl k | exact fun _ k => mp_of rfl (mp_to rfl k)) (fun h k => sat_pick 0 rfl (fun _ kk => vec_of rfl (vec_cast eF (vec_to (l := .at b7 o7) rfl kk))) (fun h k => sat_pick 1 rfl (by first | exact fun _ k => k | exact fun _ k => blk_to rfl rfl k | exact fun _ k => vec_to rfl k | exact fun _ k => blk_of rfl rfl k | exact fun _ k => vec_of rfl k | exact fun _ k => blk_of rfl rfl (blk_to rfl rfl k) | exact fun _ k => vec_of rfl (vec_to rfl k) | exact fun _ k => mp_to rfl k | exact fun _ k => mp_of rfl k | exact fun _ k => mp_of rfl (mp_to rfl k)) (fun h k => sat_nil k) k) k) k) k)⟩
    · refine Need.mk hk ?_
      refine RdObL.mk x.itsv (by decide) (by rw [lT, Int.toNat_natCast]; show 0 + k * 3 + 3 ≤ S.length * 3; omega) (by rw [Int.toNat_natCast, Nat.zero_add, show ((TL.flat S).drop (k * 3)).take 3 = TL.cells x from TL.flat_get hx]; rfl) ?_
      intro b3
      refine StOb.mk (TL.cells x) rfl (Need.mk rfl ?_)
      refine Need.mk ⟨by dsimp only; rw [lT, eO]; omega, by dsimp only; omega, hc4⟩ ?_
      refine Need.mk ⟨by dsimp only; omega, by dsimp only; simp only [maxLen]; omega, TL.one _⟩ ?_
      refine NewSl.pos (Nat.succ_pos _) (fun b7 o7 c7 hc7 => ?_)
      exact ⟨⟨(k + 1, .at b7 o7, c7), gk, by show O.length + (k + 1) ≤ c7; omega⟩, by show S.length - (k + 1) < S.length - k; omega, Le.of rfl ⟨⟨_, rfl, rfl⟩, ⟨_, rfl, rfl⟩, ⟨_, rfl, rfl⟩, ⟨_, rfl, rfl⟩, ⟨_, rfl, rfl⟩, ⟨_, rfl, rfl⟩, ⟨_, rfl, rfl⟩, ⟨_, rfl, congrArg (fun z => some (Value.int .i64 z)) ek⟩, trivial⟩ (fun h k => sat_pick 2 rfl (by first | exact fun _ k => k | exact fun _ k => blk_to rfl rfl k | exact fun _ k => vec_to rfl k | exact fun _ k => blk_of rfl rfl k | exact fun _ k => vec_of rfl k | exact fun _ k => blk_of rfl rfl (blk_to rfl rfl k) | exact fun _ k => vec_of rfl (vec_to rfl k) | exact fun _ k => mp_to rfl k | exact fun _ k => mp_of rfl k | exact fun _ k => mp_of rfl (mp_to rfl k)) (fun h k => sat_pick 2 rfl (by first | exact fun _ k => k | exact fun _ k => blk_to rfl rfl k | exact fun _ k => vec_to rfl k | exact fun _ k => blk_of rfl rfl k | exact fun _ k => vec_of rfl k | exact fun _ k => blk_of rfl rfl (blk_to rfl rfl k) | exact fun _ k => vec_of rfl (vec_to rfl k) | exact fun _ k => mp_to rfl k | exact fun _ k => mp_of rfl k | exact fun _ k => mp_of rfl (mp_to rfl k)) (fun h k => sat_pick 0 rfl (fun _ kk => vec_of rfl (vec_cast eF (vec_to (l := .at b7 o7) rfl kk))) (fun h k => sat_pick 1 rfl (by first | exact fun _ k => k | exact fun _ k => blk_to rfl rfl k | exact fun _ k => vec_to rfl k | exact fun _ k => blk_of rfl rfl k | exact fun _ k => vec_of rfl k | exact fun _ k => blk_of rfl rfl (blk_to rfl rfl k) | exact fun _ k => vec_of rfl (vec_to rfl k) | exact fun _ k => mp_to rfl k | exact fun _ k => mp_of rfl k | exact fun _ k => mp_of rfl (mp_to rfl k)) (fun h k => sat_nil k) k) k) k) k)⟩
  · refine Need.mk hk ?_
    refine RdObL.mk x.itsv (by decide) (by rw [lT, Int.toNat_natCast]; show 0 + k * 3 + 3 ≤ S.length * 3; omega) (by rw [Int.toNat_natCast, Nat.zero_add, show ((TL.flat S).drop (k * 3)).take 3 = TL.cells x from TL.flat_get hx]; rfl) ?_
    intro b3
    refine StOb.mk (TL.cells x) rfl (Need.mk rfl ?_)
    refine Need.mk ⟨by dsimp only; rw [lT, eO]; omega, by dsimp only; omega, hc4⟩ ?_
    refine Need.mk ⟨by dsimp only; omega, by dsimp only; simp only [maxLen]; omega, TL.one _⟩ ?_
    refine NewSl.pos (Nat.succ_pos _) (fun b7 o7 c7 hc7 => ?_)
    exact ⟨⟨(k + 1, .at b7 o7, c7), gk, by show O.length + (k + 1) ≤ c7; omega⟩, by show S.length - (k + 1) < S.length - k; omega, Le.of rfl ⟨⟨_, rfl, rfl⟩, ⟨_, rfl, rfl⟩, ⟨_, rfl, rfl⟩, ⟨_, rfl, rfl⟩, ⟨_, rfl, rfl⟩, ⟨_, rfl, rfl⟩, ⟨_, rfl, rfl⟩, ⟨_, rfl, congrArg (fun z => some (Value.int .i64 z)) ek⟩, trivial⟩ (fun h k => sat_pick 2 rfl (by first | exact fun _ k => k | exact fun _ k => blk_to rfl rfl k | exact fun _ k => vec_to rfl k | exact fun _ k => blk_of rfl rfl k | exact fun _ k => vec_of rfl k | exact fun _ k => blk_of rfl rfl (blk_to rfl rfl k) | exact fun _ k => vec_of rfl (vec_to rfl k) | exact fun _ k => mp_to rfl k | exact fun _ k => mp_of rfl k | exact fun _ k => mp_of rfl (mp_to rfl k)) (fun h k => sat_pick 2 rfl (by first | exact fun _ k => k | exact fun _ k => blk_to rfl rfl k | exact fun _ k => vec_to rfl k | exact fun _ k => blk_of rfl rfl k | exact fun _ k => vec_of rfl k | exact fun _ k => blk_of rfl rfl (blk_to rfl rfl k) | exact fun _ k => vec_of rfl (vec_to rfl k) | exact fun _ k => mp_to rfl k | exact fun _ k => mp_of rfl k | exact fun _ k => mp_of rfl (mp_to rfl k)) (fun h k => sat_pick 0 rfl (fun _ kk => vec_of rfl (vec_cast eF (vec_to (l := .at b7 o7) rfl kk))) (fun h k => sat_pick 1 rfl (by first | exact fun _ k => k | exact fun _ k => blk_to rfl rfl k | exact fun _ k => vec_to rfl k | exact fun _ k => blk_of rfl rfl k | exact fun _ k => vec_of rfl k | exact fun _ k => blk_of rfl rfl (blk_to rfl rfl k) | exact fun _ k => vec_of rfl (vec_to rfl k) | exact fun _ k => mp_to rfl k | exact fun _ k => mp_of rfl k | exact fun _ k => mp_of rfl (mp_to rfl k)) (fun h k => sat_nil k) k) k) k) k)⟩
end Go.Proofs.Ytiknkeakielncaa.Ag
