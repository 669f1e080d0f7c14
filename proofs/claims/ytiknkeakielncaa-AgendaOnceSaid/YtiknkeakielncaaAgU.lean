/- agenda: AgendaPlays, walked. Conditions: none. -/
import Derived.Test.YtiknkeakielncaaAgT
namespace Go.Proofs.Ytiknkeakielncaa.Ag
open Go Go.Proofs Sx
set_option maxRecDepth 100000
set_option linter.unusedVariables false
set_option linter.unusedSimpArgs false
set_option maxHeartbeats 4000000

structure A where
  do_ : Int
  x : En
def A.vals (a : A) : List Value := [.int .i64 a.do_, .int .i64 a.x.id, .int .i64 a.x.at_, .int .i64 a.x.rank]
def A.svs (a : A) : List SV := [.int .i64 a.do_, .int .i64 a.x.id, .int .i64 a.x.at_, .int .i64 a.x.rank]
def AL : Lay A where
  cells := A.vals
  sz := 4
  len _ := rfl
  one e v hv := by
    simp only [A.vals, List.mem_cons, List.not_mem_nil, or_false] at hv
    rcases hv with rfl | rfl | rfl | rfl <;> rfl
theorem PM.emp {most : Int} (h0 : 1 ≤ most) (h1 : most ≤ 4096) : PM most 0 [] := ⟨h0, h1, Int.le_refl _, .nil, .nil, by simp, by show (0 : Int) ≤ most; omega⟩
theorem PM.lt {most no : Int} {M : List En} (h : PM most no M) : M.length ≤ 4096 := by have := h.few; have := h.m1; omega
theorem pm_ahead {most no : Int} {M : List En} (h : PM most no M) (x : Int) : PM most no (ahead x M) :=
  ⟨h.m0, h.m1, h.no0, h.ord.filter _, h.ids.filter _, fun t ht => h.nb t (List.mem_filter.1 ht).1, by have := h.few; have : (ahead x M).length ≤ M.length := List.length_filter_le _ _; omega⟩
theorem atop_at (b : Nat) (most no : Int) (M S : List En) (hp : PM most no M) (hS : Sorted M S) : Does Try.prog 62 #[ap b] (fun _ => True) [AA b most no M]
    (fun v p => v = .tuple #[.agg (S.head?.getD E0).item.toArray, .bool (decide (0 < S.length))] ∧ p = [AA b most no M]) := by
  cases S with
  | nil =>
    have e : M = [] := List.nil_perm.1 hS.perm
    subst e
    exact (atop_none b most no).mono (by rintro v p ⟨rfl, rfl⟩; exact ⟨rfl, rfl⟩)
  | cons s S =>
    refine (atop_some b most no M (fun e => by subst e; have := hS.perm.length_eq; simp at this)).mono ?_
    rintro v p ⟨x, rfl, hx, hmin, rfl⟩
    refine ⟨?_, rfl⟩
    have hs : s ∈ M := hS.perm.mem_iff.1 (by simp)
    have h1 := hmin s hs
    have h2 : LeE s x := by
      rcases List.mem_cons.1 (hS.perm.mem_iff.2 hx) with e | e
      · subst e; unfold LeE LtE; omega
      · exact ltE_no.1 ((List.pairwise_cons.1 hS.ord).1 x e)
    have : x = s := nos_inj hp.ord x hx s hs (by unfold LeE LtE at h1 h2; omega)
    subst this
    simp
theorem ref_push_ok (A : Option Addr) (cp : Nat) (l l2 : List En) (most : Int) (x : En) (hf : (l.length : Int) ≤ most) (hl : l.length ≤ 90000) (hc : pushC l most x.id = 0) (e : TL.flat (l ++ [x]) = TL.flat l2) (e2 : l.length + 1 = l2.length) :
    Does Try.prog 54 #[.slice A l.length cp, .int .i64 most, .agg x.item.toArray] (fun f => Reads f A (TL.flat l)) []
      (fun v p => ∃ pl c, v = .tuple #[.slice (locAddr 0 pl) l2.length c, .int .i64 0] ∧ l2.length ≤ c ∧ p = [Vec pl 65 3 c (TL.flat l2)]) := by
  refine (ref_push A cp l most x hf hl).mono ?_
  rintro v p (⟨_, h, _⟩ | ⟨pl, c, _, rfl, h, rfl⟩)
  · exact absurd hc h
  · rw [e, e2]; rw [e2] at h
    exact ⟨pl, c, rfl, h, rfl⟩
theorem ref_push_no (A : Option Addr) (cp : Nat) (l : List En) (most : Int) (x : En) (hf : (l.length : Int) ≤ most) (hl : l.length ≤ 90000) (hc : pushC l most x.id ≠ 0) :
    Does Try.prog 54 #[.slice A l.length cp, .int .i64 most, .agg x.item.toArray] (fun f => Reads f A (TL.flat l)) [] (fun v p => v = .tuple #[.slice A l.length cp, .int .i64 (pushC l most x.id)] ∧ p = []) := by
  refine (ref_push A cp l most x hf hl).mono ?_
  rintro v p (⟨rfl, h, rfl⟩ | ⟨pl, c, h, rfl, _, rfl⟩)
  · exact ⟨rfl, rfl⟩
  · exact absurd h hc
theorem head_cells {S : List En} (h : 0 < S.length) (nm : List (Nat × Plc)) : denL nm (S.head?.getD E0).itsv = some (((TL.flat S).drop (0 + (0 : Int).toNat * 3)).take 3) := by
  cases S with
  | nil => simp at h
  | cons s S => rfl
theorem erase_without {l : List En} {i : Nat} {t : En} (hi : Ids l) (h : l[i]? = some t) : l.eraseIdx i = without t.id l := by
  unfold without
  have e : l = l.take i ++ (t :: l.drop (i + 1)) := by
    have := (List.getElem?_eq_some_iff.1 h).2
    rw [← this, List.getElem_cons_drop, List.take_append_drop]
  have h2 := hi
  unfold Ids at h2
  rw [e, List.pairwise_append] at h2
  rw [List.eraseIdx_eq_take_drop_succ]
  conv => rhs; rw [e]
  rw [List.filter_append, List.filter_cons_of_neg (by simp)]
  congr 1
  · symm; rw [List.filter_eq_self]
    intro a ha
    simpa using h2.2.2 a ha t (by simp)
  · symm; rw [List.filter_eq_self]
    intro a ha
    have := (List.pairwise_cons.1 h2.2.1).1 a ha
    simpa using fun q : a.id = t.id => this q.symm
def ZA (most : Int) (acts : List A) : Type := { z : Nat × Int × List En × Plc × Nat // z.1 ≤ acts.length ∧ PM most z.2.1 z.2.2.1 ∧ z.2.2.1.length ≤ z.2.2.2.2 ∧ z.2.1 ≤ z.1 }
theorem plays_spec (B : Option Addr) (cp : Nat) (acts : List A) (most : Int) (hlen0 : acts.length ≤ 9223372036854775807) :
    Does Try.prog 13 #[.int .i64 most, .slice B acts.length cp] (fun f => Reads f B (AL.flat acts)) [] (fun v p => v = .bool true ∧ p = []) := by
  refine Does.ofJ Try.func13 Try.call13 rfl [.int .i64 most, .raw (.slice B acts.length cp)] [] 0 [] rfl rfl (fun h k => k) (fun f hR => ?_)
  refine CondOb.split (fun g => ?_) (fun g => ?_)
  · refine useP .tt live_spec rfl rfl ?_
    exact FinOb.mk [.bool true] [] rfl (fun h k => trivial) ⟨rfl, rfl⟩
  have g : acts.length ≤ 150 := by
    have g := of_decide_eq_false g
    have : ¬ (150 : Int) < acts.length := g
    omega
  by_cases hmost : most < 1 ∨ 4096 < most
  · refine useP (.tuple [.nilp, .int .i64 1]) (new_bad most hmost) rfl rfl ?_
    refine RegOb.join Unit (fun _ => ⟨181, [(5, .nilp), (6, .int .i64 1), (35, .tt)], [], 0, []⟩) ?_ (fun _ => ?_)
    · refine Br.mk (fun h => ?_) (fun h => ?_)
      · exact ⟨(), Le.of rfl ⟨⟨_, rfl, rfl⟩, ⟨_, rfl, rfl⟩, ⟨_, rfl, rfl⟩, trivial⟩ (fun h k => k)⟩
      · have h := of_decide_eq_false h
        exact ⟨(), Le.of rfl ⟨⟨_, rfl, rfl⟩, ⟨_, rfl, rfl⟩, ⟨_, rfl, (congrArg (fun x => some (Value.bool x)) (decide_eq_true (show most > 4096 by have : ¬ most < 1 := h; omega)))⟩, trivial⟩ (fun h k => k)⟩
    refine RegOb.go ?_
    refine useP (.int .i64 1) (code_spec 1) rfl rfl ?_
    refine Br.mk (fun _ => ?_) (fun h => absurd h (by decide))
    refine useP .tt live_spec rfl rfl ?_
    exact FinOb.mk [.bool true] [] rfl (fun h k => trivial) ⟨rfl, rfl⟩
  have m0 : 1 ≤ most := by omega
  have m1 : most ≤ 4096 := by omega
  refine call_ix (anew_spec most m0 m1) rfl [] (fun h k => k) (fun _ _ _ _ => trivial) ?_
  rintro v post ⟨b, rfl, rfl⟩
  refine ⟨.tuple [.raw (ap b), .int .i64 0], _, 0, [.asn (AA b most 0 [])], NmExt.refl _, rfl, (fun h k => sat_pick 0 rfl (by first | exact fun _ k => k | exact fun _ k => blk_to rfl rfl k | exact fun _ k => vec_to rfl k | exact fun _ k => blk_of rfl rfl k | exact fun _ k => vec_of rfl k | exact fun _ k => blk_of rfl rfl (blk_to rfl rfl k) | exact fun _ k => vec_of rfl (vec_to rfl k) | exact fun _ k => mp_to rfl k | exact fun _ k => mp_of rfl k | exact fun _ k => mp_of rfl (mp_to rfl k)) (fun h k => sat_nil k) k), ?_⟩
  refine RegOb.go ?_
  refine Br.mk (fun h => absurd (of_decide_eq_true h) (by omega)) (fun _ => ?_)
  refine CondOb.split (fun h => absurd (of_decide_eq_true h) (by omega)) (fun _ => ?_)
  refine RegOb.go ?_
  refine useP (.int .i64 0) (code_spec 0) rfl rfl ?_
  refine Br.mk (fun h => absurd h (by decide)) (fun _ => ?_)
  refine LoopOb.mk (ZA most acts) (fun z => ⟨181, [(0, .int .i64 most), (1, .raw (.slice B acts.length cp)), (5, .raw (ap b)), (7, .sl 0 0 z.1.2.2.1.length z.1.2.2.2.2), (8, .int .i64 z.1.1)], [(0, z.1.2.2.2.1)], 1, [.asn (AA b most z.1.2.1 z.1.2.2.1), .vec 0 65 3 z.1.2.2.2.2 (TL.flat z.1.2.2.1)]⟩) (fun z => acts.length - z.1.1)
    ⟨(0, 0, [], .nil, 0), Nat.zero_le _, PM.emp m0 m1, Nat.le_refl _, Int.le_refl _⟩ ?_ ?_
  · exact Le.of rfl ⟨⟨_, rfl, rfl⟩, ⟨_, rfl, rfl⟩, ⟨_, rfl, rfl⟩, ⟨_, rfl, rfl⟩, ⟨_, rfl, rfl⟩, trivial⟩ (fun h k => sat_pick 0 rfl (by first | exact fun _ k => k | exact fun _ k => blk_to rfl rfl k | exact fun _ k => vec_to rfl k | exact fun _ k => blk_of rfl rfl k | exact fun _ k => vec_of rfl k | exact fun _ k => blk_of rfl rfl (blk_to rfl rfl k) | exact fun _ k => vec_of rfl (vec_to rfl k) | exact fun _ k => mp_to rfl k | exact fun _ k => mp_of rfl k | exact fun _ k => mp_of rfl (mp_to rfl k)) (fun h k => sat_add (vec_of rfl vec_emp) ((fun h k => sat_nil k) h k)) k)
  rintro ⟨⟨i, no, M, pl, c⟩, hi, hp, hMc, hno⟩
  simp only at hi hp hMc hno
  refine CondOb.split (fun gg => ?_) (fun gg => ?_)
  rotate_left
  · refine useP .tt live_spec rfl rfl ?_
    exact FinOb.mk [.bool true] [] rfl (fun h k => trivial) ⟨rfl, rfl⟩
  have gi : i < acts.length := by
    have g := of_decide_eq_true gg
    have : (i : Int) < acts.length := g
    omega
  have hx := List.getElem?_eq_getElem gi
  generalize acts[i] = a at hx
  obtain ⟨bb, o, hA, hca⟩ := hR.lay (by decide) hx
  have hn2 : 0 ≤ (i : Int) ∧ (i : Int) < acts.length := by omega
  have ei : IntKind.i64.wrap ((i : Int) + 1) = ((i + 1 : Nat) : Int) := by rw [w64 (by omega) (by omega)]; omega
  refine Need.mk hn2 (RawAt.mk bb o hA ?_)
  refine RdF.mk a.x.itsv a.x.item rfl rfl (fun q v hq => by rw [Int.toNat_natCast, Nat.add_assoc, Nat.add_comm 1 q]; exact hca (q + 1) v hq) ?_
  intro b9
  refine Need.mk hn2 (RawAt.mk bb o hA ?_)
  refine RdRaw.mk (.int .i64 a.do_) _ rfl (by rw [Int.toNat_natCast]; exact hca 0 _ rfl) ?_
  refine CondOb.join { z : Int × List En × Plc × Nat × Int // PM most z.1 z.2.1 ∧ z.2.1.length ≤ z.2.2.2.1 ∧ z.1 ≤ ((i + 1 : Nat) : Int) } (fun z => ⟨181, [(0, .int .i64 most), (1, .raw (.slice B acts.length cp)), (5, .raw (ap b)), (7, .sl 0 0 z.1.2.1.length z.1.2.2.2.1), (8, .int .i64 i), (10, .int .i64 z.1.2.2.2.2), (11, .int .i64 z.1.2.2.2.2)], [(0, z.1.2.2.1)], 1, [.asn (AA b most z.1.1 z.1.2.1), .vec 0 65 3 z.1.2.2.2.1 (TL.flat z.1.2.1)]⟩) (fun g0 => ?_) (fun g0 => ?_) ?_
  · have hno3 : no ≤ ((i + 1 : Nat) : Int) := by omega
    by_cases hc : pushC M most a.x.id = 0
    · refine call_ix (apush_ok b most no M hp (by omega) a.x hc) rfl [1] (fun h k => sat_pick 1 rfl (by first | exact fun _ k => k | exact fun _ k => blk_to rfl rfl k | exact fun _ k => vec_to rfl k | exact fun _ k => blk_of rfl rfl k | exact fun _ k => vec_of rfl k | exact fun _ k => blk_of rfl rfl (blk_to rfl rfl k) | exact fun _ k => vec_of rfl (vec_to rfl k) | exact fun _ k => mp_to rfl k | exact fun _ k => mp_of rfl k | exact fun _ k => mp_of rfl (mp_to rfl k)) (fun h k => sat_pick 0 rfl (by first | exact fun _ k => k | exact fun _ k => blk_to rfl rfl k | exact fun _ k => vec_to rfl k | exact fun _ k => blk_of rfl rfl k | exact fun _ k => vec_of rfl k | exact fun _ k => blk_of rfl rfl (blk_to rfl rfl k) | exact fun _ k => vec_of rfl (vec_to rfl k) | exact fun _ k => mp_to rfl k | exact fun _ k => mp_of rfl k | exact fun _ k => mp_of rfl (mp_to rfl k)) (fun h k => sat_pick 0 rfl (by first | exact fun _ k => k | exact fun _ k => blk_to rfl rfl k | exact fun _ k => vec_to rfl k | exact fun _ k => blk_of rfl rfl k | exact fun _ k => vec_of rfl k | exact fun _ k => blk_of rfl rfl (blk_to rfl rfl k) | exact fun _ k => vec_of rfl (vec_to rfl k) | exact fun _ k => mp_to rfl k | exact fun _ k => mp_of rfl k | exact fun _ k => mp_of rfl (mp_to rfl k)) (fun h k => sat_nil k) k) k) k) (fun _ _ _ _ => trivial) ?_
      rintro v post ⟨cb, rfl, rfl⟩
      refine ⟨.int .i64 0, _, 2, [.asn (AA b most (no + 1) (M ++ [⟨cb, a.x.id, a.x.at_, a.x.rank, no⟩]))], NmExt.refl _, rfl, (fun h k => sat_pick 0 rfl (by first | exact fun _ k => k | exact fun _ k => blk_to rfl rfl k | exact fun _ k => vec_to rfl k | exact fun _ k => blk_of rfl rfl k | exact fun _ k => vec_of rfl k | exact fun _ k => blk_of rfl rfl (blk_to rfl rfl k) | exact fun _ k => vec_of rfl (vec_to rfl k) | exact fun _ k => mp_to rfl k | exact fun _ k => mp_of rfl k | exact fun _ k => mp_of rfl (mp_to rfl k)) (fun h k => sat_nil k) k), ?_⟩
      refine useP (.int .i64 0) (code_spec _) rfl rfl ?_
      have hp2 := pm_push hp hc cb
      have hno2 : no + 1 ≤ ((i + 1 : Nat) : Int) := by omega
      obtain ⟨M2, hM2⟩ : ∃ M2, M2 = M ++ [⟨cb, a.x.id, a.x.at_, a.x.rank, no⟩] := ⟨_, rfl⟩
      rw [← hM2] at hp2 ⊢
      refine call_ix (ref_push_ok (locAddr 0 pl) c M M2 most a.x hp.few (by have := hp.lt; omega) hc (by rw [hM2, TL.flat_append, TL.flat_append]; rfl) (by rw [hM2]; simp)) rfl [] (fun h k => k) (fun f' b' hs kb => vec_reads 2 hs kb rfl rfl) ?_
      rintro v post ⟨pl2, c2, rfl, hc2, rfl⟩
      refine ⟨.tuple [.sl 2 0 M2.length c2, .int .i64 0], (2, pl2) :: _, 3, [.vec 2 65 3 c2 (TL.flat M2)], NmExt.push rfl, rfl, (fun h k => sat_pick 0 rfl (fun _ k => vec_of rfl k) (fun h k => sat_nil k) k), ?_⟩
      exact ⟨⟨(no + 1, M2, pl2, c2, 0), hp2, hc2, hno2⟩, Le.of rfl ⟨⟨_, rfl, rfl⟩, ⟨_, rfl, rfl⟩, ⟨_, rfl, rfl⟩, ⟨_, rfl, rfl⟩, ⟨_, rfl, rfl⟩, ⟨_, rfl, rfl⟩, ⟨_, rfl, rfl⟩, trivial⟩ (fun h k => sat_pick 1 rfl (by first | exact fun _ k => k | exact fun _ k => blk_to rfl rfl k | exact fun _ k => vec_to rfl k | exact fun _ k => blk_of rfl rfl k | exact fun _ k => vec_of rfl k | exact fun _ k => blk_of rfl rfl (blk_to rfl rfl k) | exact fun _ k => vec_of rfl (vec_to rfl k) | exact fun _ k => mp_to rfl k | exact fun _ k => mp_of rfl k | exact fun _ k => mp_of rfl (mp_to rfl k)) (fun h k => sat_pick 0 rfl (fun _ k => vec_of rfl (vec_to rfl k)) (fun h k => sat_nil k) k) k)⟩
    · refine call_ix (apush_no b most no M hp a.x hc) rfl [1] (fun h k => sat_pick 1 rfl (by first | exact fun _ k => k | exact fun _ k => blk_to rfl rfl k | exact fun _ k => vec_to rfl k | exact fun _ k => blk_of rfl rfl k | exact fun _ k => vec_of rfl k | exact fun _ k => blk_of rfl rfl (blk_to rfl rfl k) | exact fun _ k => vec_of rfl (vec_to rfl k) | exact fun _ k => mp_to rfl k | exact fun _ k => mp_of rfl k | exact fun _ k => mp_of rfl (mp_to rfl k)) (fun h k => sat_pick 0 rfl (by first | exact fun _ k => k | exact fun _ k => blk_to rfl rfl k | exact fun _ k => vec_to rfl k | exact fun _ k => blk_of rfl rfl k | exact fun _ k => vec_of rfl k | exact fun _ k => blk_of rfl rfl (blk_to rfl rfl k) | exact fun _ k => vec_of rfl (vec_to rfl k) | exact fun _ k => mp_to rfl k | exact fun _ k => mp_of rfl k | exact fun _ k => mp_of rfl (mp_to rfl k)) (fun h k => sat_pick 0 rfl (by first | exact fun _ k => k | exact fun _ k => blk_to rfl rfl k | exact fun _ k => vec_to rfl k | exact fun _ k => blk_of rfl rfl k | exact fun _ k => vec_of rfl k | exact fun _ k => blk_of rfl rfl (blk_to rfl rfl k) | exact fun _ k => vec_of rfl (vec_to rfl k) | exact fun _ k => mp_to rfl k | exact fun _ k => mp_of rfl k | exact fun _ k => mp_of rfl (mp_to rfl k)) (fun h k => sat_nil k) k) k) k) (fun _ _ _ _ => trivial) ?_
      rintro v post ⟨rfl, rfl⟩
      refine ⟨.int .i64 (pushC M most a.x.id), _, 2, [.asn (AA b most no M)], NmExt.refl _, rfl, (fun h k => sat_pick 0 rfl (by first | exact fun _ k => k | exact fun _ k => blk_to rfl rfl k | exact fun _ k => vec_to rfl k | exact fun _ k => blk_of rfl rfl k | exact fun _ k => vec_of rfl k | exact fun _ k => blk_of rfl rfl (blk_to rfl rfl k) | exact fun _ k => vec_of rfl (vec_to rfl k) | exact fun _ k => mp_to rfl k | exact fun _ k => mp_of rfl k | exact fun _ k => mp_of rfl (mp_to rfl k)) (fun h k => sat_nil k) k), ?_⟩
      refine useP (.int .i64 (pushC M most a.x.id)) (code_spec _) rfl rfl ?_
      refine useR (.tuple [.sl 0 0 M.length c, .int .i64 (pushC M most a.x.id)]) (ref_push_no (locAddr 0 pl) c M most a.x hp.few (by have := hp.lt; omega) hc) rfl (fun f' b' hs kb => vec_reads 2 hs kb rfl rfl) rfl ?_
      exact ⟨⟨(no, M, pl, c, pushC M most a.x.id), hp, hMc, hno3⟩, Le.of rfl ⟨⟨_, rfl, rfl⟩, ⟨_, rfl, rfl⟩, ⟨_, rfl, rfl⟩, ⟨_, rfl, rfl⟩, ⟨_, rfl, rfl⟩, ⟨_, rfl, rfl⟩, ⟨_, rfl, rfl⟩, trivial⟩ (fun h k => sat_pick 0 rfl (by first | exact fun _ k => k | exact fun _ k => blk_to rfl rfl k | exact fun _ k => vec_to rfl k | exact fun _ k => blk_of rfl rfl k | exact fun _ k => vec_of rfl k | exact fun _ k => blk_of rfl rfl (blk_to rfl rfl k) | exact fun _ k => vec_of rfl (vec_to rfl k) | exact fun _ k => mp_to rfl k | exact fun _ k => mp_of rfl k | exact fun _ k => mp_of rfl (mp_to rfl k)) (fun h k => sat_pick 1 rfl (by first | exact fun _ k => k | exact fun _ k => blk_to rfl rfl k | exact fun _ k => vec_to rfl k | exact fun _ k => blk_of rfl rfl k | exact fun _ k => vec_of rfl k | exact fun _ k => blk_of rfl rfl (blk_to rfl rfl k) | exact fun _ k => vec_of rfl (vec_to rfl k) | exact fun _ k => mp_to rfl k | exact fun _ k => mp_of rfl k | exact fun _ k => mp_of rfl (mp_to rfl k)) (fun h k => sat_nil k) k) k)⟩
  · have hno3 : no ≤ ((i + 1 : Nat) : Int) := by omega
    refine CondOb.split (fun g1 => ?_) (fun g1 => ?_)
    · have hp2 := pm_move hp a.x.id a.x.at_ a.x.rank
      refine call_ix (amove_spec b most no M hp a.x.id a.x.at_ a.x.rank) rfl [1] (fun h k => sat_pick 1 rfl (by first | exact fun _ k => k | exact fun _ k => blk_to rfl rfl k | exact fun _ k => vec_to rfl k | exact fun _ k => blk_of rfl rfl k | exact fun _ k => vec_of rfl k | exact fun _ k => blk_of rfl rfl (blk_to rfl rfl k) | exact fun _ k => vec_of rfl (vec_to rfl k) | exact fun _ k => mp_to rfl k | exact fun _ k => mp_of rfl k | exact fun _ k => mp_of rfl (mp_to rfl k)) (fun h k => sat_pick 0 rfl (by first | exact fun _ k => k | exact fun _ k => blk_to rfl rfl k | exact fun _ k => vec_to rfl k | exact fun _ k => blk_of rfl rfl k | exact fun _ k => vec_of rfl k | exact fun _ k => blk_of rfl rfl (blk_to rfl rfl k) | exact fun _ k => vec_of rfl (vec_to rfl k) | exact fun _ k => mp_to rfl k | exact fun _ k => mp_of rfl k | exact fun _ k => mp_of rfl (mp_to rfl k)) (fun h k => sat_pick 0 rfl (by first | exact fun _ k => k | exact fun _ k => blk_to rfl rfl k | exact fun _ k => vec_to rfl k | exact fun _ k => blk_of rfl rfl k | exact fun _ k => vec_of rfl k | exact fun _ k => blk_of rfl rfl (blk_to rfl rfl k) | exact fun _ k => vec_of rfl (vec_to rfl k) | exact fun _ k => mp_to rfl k | exact fun _ k => mp_of rfl k | exact fun _ k => mp_of rfl (mp_to rfl k)) (fun h k => sat_nil k) k) k) k) (fun _ _ _ _ => trivial) ?_
      rintro v post ⟨rfl, rfl⟩
      refine ⟨.int .i64 (if (M.find? (fun t => a.x.id == t.id)).isSome then 0 else 6), _, 2, [.asn (AA b most no (M.map (mv a.x.id a.x.at_ a.x.rank)))], NmExt.refl _, rfl, (fun h k => sat_pick 0 rfl (by first | exact fun _ k => k | exact fun _ k => blk_to rfl rfl k | exact fun _ k => vec_to rfl k | exact fun _ k => blk_of rfl rfl k | exact fun _ k => vec_of rfl k | exact fun _ k => blk_of rfl rfl (blk_to rfl rfl k) | exact fun _ k => vec_of rfl (vec_to rfl k) | exact fun _ k => mp_to rfl k | exact fun _ k => mp_of rfl k | exact fun _ k => mp_of rfl (mp_to rfl k)) (fun h k => sat_nil k) k), ?_⟩
      refine useP (.int .i64 (if (M.find? (fun t => a.x.id == t.id)).isSome then 0 else 6)) (code_spec _) rfl rfl ?_
      refine call_ix (ref_move (locAddr 0 pl) c M a.x.id a.x.at_ a.x.rank hp.ids (by have := hp.lt; omega)) rfl [] (fun h k => k) (fun f' b' hs kb => vec_reads 2 hs kb rfl rfl) ?_
      rintro v post (⟨rfl, hf, rfl⟩ | ⟨pl2, c2, hf, rfl, hc2, rfl⟩)
      · refine ⟨.tuple [.sl 0 0 M.length c, .int .i64 6], _, 2, [], NmExt.refl _, rfl, fun h k => trivial, ?_⟩
        have e : M.map (mv a.x.id a.x.at_ a.x.rank) = M := mv_miss hf
        have ec : (if (M.find? (fun t => a.x.id == t.id)).isSome then (0 : Int) else 6) = 6 := by rw [hf]; rfl
        rw [e, ec]
        exact ⟨⟨(no, M, pl, c, 6), hp, hMc, hno3⟩, Le.of rfl ⟨⟨_, rfl, rfl⟩, ⟨_, rfl, rfl⟩, ⟨_, rfl, rfl⟩, ⟨_, rfl, rfl⟩, ⟨_, rfl, rfl⟩, ⟨_, rfl, rfl⟩, ⟨_, rfl, rfl⟩, trivial⟩ (fun h k => sat_pick 0 rfl (by first | exact fun _ k => k | exact fun _ k => blk_to rfl rfl k | exact fun _ k => vec_to rfl k | exact fun _ k => blk_of rfl rfl k | exact fun _ k => vec_of rfl k | exact fun _ k => blk_of rfl rfl (blk_to rfl rfl k) | exact fun _ k => vec_of rfl (vec_to rfl k) | exact fun _ k => mp_to rfl k | exact fun _ k => mp_of rfl k | exact fun _ k => mp_of rfl (mp_to rfl k)) (fun h k => sat_pick 1 rfl (by first | exact fun _ k => k | exact fun _ k => blk_to rfl rfl k | exact fun _ k => vec_to rfl k | exact fun _ k => blk_of rfl rfl k | exact fun _ k => vec_of rfl k | exact fun _ k => blk_of rfl rfl (blk_to rfl rfl k) | exact fun _ k => vec_of rfl (vec_to rfl k) | exact fun _ k => mp_to rfl k | exact fun _ k => mp_of rfl k | exact fun _ k => mp_of rfl (mp_to rfl k)) (fun h k => sat_nil k) k) k)⟩
      · have ec : (if (M.find? (fun t => a.x.id == t.id)).isSome then (0 : Int) else 6) = 0 := by rw [hf]; rfl
        rw [ec]
        have eL : (M.map (mv a.x.id a.x.at_ a.x.rank)).length = M.length := List.length_map _
        refine ⟨.tuple [.sl 2 0 M.length c2, .int .i64 0], (2, pl2) :: _, 3, [.vec 2 65 3 c2 (TL.flat (M.map (mv a.x.id a.x.at_ a.x.rank)))], NmExt.push rfl, rfl, (fun h k => sat_pick 0 rfl (fun _ k => vec_of rfl k) (fun h k => sat_nil k) k), ?_⟩
        exact ⟨⟨(no, M.map (mv a.x.id a.x.at_ a.x.rank), pl2, c2, 0), hp2, by show (M.map (mv a.x.id a.x.at_ a.x.rank)).length ≤ c2; rw [eL]; exact hc2, hno3⟩, Le.of rfl ⟨⟨_, rfl, rfl⟩, ⟨_, rfl, rfl⟩, ⟨_, rfl, rfl⟩, ⟨_, rfl, (congrArg (fun q : Nat => some (Value.slice (locAddr 0 pl2) q c2)) eL.symm)⟩, ⟨_, rfl, rfl⟩, ⟨_, rfl, rfl⟩, ⟨_, rfl, rfl⟩, trivial⟩ (fun h k => sat_pick 1 rfl (by first | exact fun _ k => k | exact fun _ k => blk_to rfl rfl k | exact fun _ k => vec_to rfl k | exact fun _ k => blk_of rfl rfl k | exact fun _ k => vec_of rfl k | exact fun _ k => blk_of rfl rfl (blk_to rfl rfl k) | exact fun _ k => vec_of rfl (vec_to rfl k) | exact fun _ k => mp_to rfl k | exact fun _ k => mp_of rfl k | exact fun _ k => mp_of rfl (mp_to rfl k)) (fun h k => sat_pick 0 rfl (fun _ k => vec_of rfl (vec_to rfl k)) (fun h k => sat_nil k) k) k)⟩
    refine CondOb.split (fun g2 => ?_) (fun g2 => ?_)
    · have hp2 := pm_drop hp a.x.id
      refine call_ix (adrop_spec b most no M hp a.x.id) rfl [1] (fun h k => sat_pick 1 rfl (by first | exact fun _ k => k | exact fun _ k => blk_to rfl rfl k | exact fun _ k => vec_to rfl k | exact fun _ k => blk_of rfl rfl k | exact fun _ k => vec_of rfl k | exact fun _ k => blk_of rfl rfl (blk_to rfl rfl k) | exact fun _ k => vec_of rfl (vec_to rfl k) | exact fun _ k => mp_to rfl k | exact fun _ k => mp_of rfl k | exact fun _ k => mp_of rfl (mp_to rfl k)) (fun h k => sat_pick 0 rfl (by first | exact fun _ k => k | exact fun _ k => blk_to rfl rfl k | exact fun _ k => vec_to rfl k | exact fun _ k => blk_of rfl rfl k | exact fun _ k => vec_of rfl k | exact fun _ k => blk_of rfl rfl (blk_to rfl rfl k) | exact fun _ k => vec_of rfl (vec_to rfl k) | exact fun _ k => mp_to rfl k | exact fun _ k => mp_of rfl k | exact fun _ k => mp_of rfl (mp_to rfl k)) (fun h k => sat_pick 0 rfl (by first | exact fun _ k => k | exact fun _ k => blk_to rfl rfl k | exact fun _ k => vec_to rfl k | exact fun _ k => blk_of rfl rfl k | exact fun _ k => vec_of rfl k | exact fun _ k => blk_of rfl rfl (blk_to rfl rfl k) | exact fun _ k => vec_of rfl (vec_to rfl k) | exact fun _ k => mp_to rfl k | exact fun _ k => mp_of rfl k | exact fun _ k => mp_of rfl (mp_to rfl k)) (fun h k => sat_nil k) k) k) k) (fun _ _ _ _ => trivial) ?_
      rintro v post ⟨rfl, rfl⟩
      refine ⟨.bool (M.find? (fun t => a.x.id == t.id)).isSome, _, 2, [.asn (AA b most no (without a.x.id M))], NmExt.refl _, rfl, (fun h k => sat_pick 0 rfl (by first | exact fun _ k => k | exact fun _ k => blk_to rfl rfl k | exact fun _ k => vec_to rfl k | exact fun _ k => blk_of rfl rfl k | exact fun _ k => vec_of rfl k | exact fun _ k => blk_of rfl rfl (blk_to rfl rfl k) | exact fun _ k => vec_of rfl (vec_to rfl k) | exact fun _ k => mp_to rfl k | exact fun _ k => mp_of rfl k | exact fun _ k => mp_of rfl (mp_to rfl k)) (fun h k => sat_nil k) k), ?_⟩
      refine call_ix (rdrop_spec (locAddr 0 pl) c M a.x.id hMc (by have := hp.lt; omega)) rfl [] (fun h k => k) (fun f' b' hs kb => vec_reads 2 hs kb rfl rfl) ?_
      rintro v post (⟨rfl, rfl, hn⟩ | ⟨q, y, pl2, c2, hy, hyi, rfl, hc2, rfl⟩)
      · have hf : M.find? (fun t => a.x.id == t.id) = none := find_none.2 hn
        refine ⟨.tuple [.sl 0 0 M.length c, .bool false], _, 2, [], NmExt.refl _, rfl, fun h k => trivial, ?_⟩
        rw [hf]
        refine CondOb.split (fun h => absurd h (by simp)) (fun _ => ?_)
        rw [without_none hn]
        exact ⟨⟨(no, M, pl, c, 0), hp, hMc, hno3⟩, Le.of rfl ⟨⟨_, rfl, rfl⟩, ⟨_, rfl, rfl⟩, ⟨_, rfl, rfl⟩, ⟨_, rfl, rfl⟩, ⟨_, rfl, rfl⟩, ⟨_, rfl, rfl⟩, ⟨_, rfl, rfl⟩, trivial⟩ (fun h k => sat_pick 0 rfl (by first | exact fun _ k => k | exact fun _ k => blk_to rfl rfl k | exact fun _ k => vec_to rfl k | exact fun _ k => blk_of rfl rfl k | exact fun _ k => vec_of rfl k | exact fun _ k => blk_of rfl rfl (blk_to rfl rfl k) | exact fun _ k => vec_of rfl (vec_to rfl k) | exact fun _ k => mp_to rfl k | exact fun _ k => mp_of rfl k | exact fun _ k => mp_of rfl (mp_to rfl k)) (fun h k => sat_pick 1 rfl (by first | exact fun _ k => k | exact fun _ k => blk_to rfl rfl k | exact fun _ k => vec_to rfl k | exact fun _ k => blk_of rfl rfl k | exact fun _ k => vec_of rfl k | exact fun _ k => blk_of rfl rfl (blk_to rfl rfl k) | exact fun _ k => vec_of rfl (vec_to rfl k) | exact fun _ k => mp_to rfl k | exact fun _ k => mp_of rfl k | exact fun _ k => mp_of rfl (mp_to rfl k)) (fun h k => sat_nil k) k) k)⟩
      · have hf : (M.find? (fun t => a.x.id == t.id)).isSome = true := by
          rw [List.find?_isSome]; exact ⟨y, List.mem_of_getElem? hy, by simp [hyi]⟩
        rw [hf]
        refine ⟨.tuple [.sl 2 0 (M.length - 1) c2, .bool true], (2, pl2) :: _, 3, [.vec 2 65 3 c2 (TL.flat (M.eraseIdx q))], NmExt.push rfl, rfl, (fun h k => sat_pick 0 rfl (fun _ k => vec_of rfl k) (fun h k => sat_nil k) k), ?_⟩
        refine CondOb.split (fun h => absurd h (by simp)) (fun _ => ?_)
        have eW : M.eraseIdx q = without a.x.id M := by rw [← hyi]; exact erase_without hp.ids hy
        have eL : (without a.x.id M).length = M.length - 1 := by rw [← eW, List.length_eraseIdx]; simp [(List.getElem?_eq_some_iff.1 hy).1]
        exact ⟨⟨(no, without a.x.id M, pl2, c2, 0), hp2, by show (without a.x.id M).length ≤ c2; rw [eL]; exact hc2, hno3⟩, Le.of rfl ⟨⟨_, rfl, rfl⟩, ⟨_, rfl, rfl⟩, ⟨_, rfl, rfl⟩, ⟨_, rfl, (congrArg (fun q : Nat => some (Value.slice (locAddr 0 pl2) q c2)) eL.symm)⟩, ⟨_, rfl, rfl⟩, ⟨_, rfl, rfl⟩, ⟨_, rfl, rfl⟩, trivial⟩ (fun h k => sat_pick 1 rfl (by first | exact fun _ k => k | exact fun _ k => blk_to rfl rfl k | exact fun _ k => vec_to rfl k | exact fun _ k => blk_of rfl rfl k | exact fun _ k => vec_of rfl k | exact fun _ k => blk_of rfl rfl (blk_to rfl rfl k) | exact fun _ k => vec_of rfl (vec_to rfl k) | exact fun _ k => mp_to rfl k | exact fun _ k => mp_of rfl k | exact fun _ k => mp_of rfl (mp_to rfl k)) (fun h k => sat_pick 0 rfl (fun _ k => vec_of rfl (vec_cast (by rw [eW]) (vec_to rfl k))) (fun h k => sat_nil k) k) k)⟩
    refine CondOb.split (fun g3 => ?_) (fun g3 => ?_)
    rotate_left
    · exact ⟨⟨(no, M, pl, c, 0), hp, hMc, hno3⟩, Le.of rfl ⟨⟨_, rfl, rfl⟩, ⟨_, rfl, rfl⟩, ⟨_, rfl, rfl⟩, ⟨_, rfl, rfl⟩, ⟨_, rfl, rfl⟩, ⟨_, rfl, rfl⟩, ⟨_, rfl, rfl⟩, trivial⟩ (fun h k => sat_pick 1 rfl (by first | exact fun _ k => k | exact fun _ k => blk_to rfl rfl k | exact fun _ k => vec_to rfl k | exact fun _ k => blk_of rfl rfl k | exact fun _ k => vec_of rfl k | exact fun _ k => blk_of rfl rfl (blk_to rfl rfl k) | exact fun _ k => vec_of rfl (vec_to rfl k) | exact fun _ k => mp_to rfl k | exact fun _ k => mp_of rfl k | exact fun _ k => mp_of rfl (mp_to rfl k)) (fun h k => sat_pick 1 rfl (by first | exact fun _ k => k | exact fun _ k => blk_to rfl rfl k | exact fun _ k => vec_to rfl k | exact fun _ k => blk_of rfl rfl k | exact fun _ k => vec_of rfl k | exact fun _ k => blk_of rfl rfl (blk_to rfl rfl k) | exact fun _ k => vec_of rfl (vec_to rfl k) | exact fun _ k => mp_to rfl k | exact fun _ k => mp_of rfl k | exact fun _ k => mp_of rfl (mp_to rfl k)) (fun h k => sat_nil k) k) k)⟩
    have hp2 := pm_ahead hp a.x.at_
    refine call_ix (apop_at b most no M hp a.x.at_) rfl [1] (fun h k => sat_pick 1 rfl (by first | exact fun _ k => k | exact fun _ k => blk_to rfl rfl k | exact fun _ k => vec_to rfl k | exact fun _ k => blk_of rfl rfl k | exact fun _ k => vec_of rfl k | exact fun _ k => blk_of rfl rfl (blk_to rfl rfl k) | exact fun _ k => vec_of rfl (vec_to rfl k) | exact fun _ k => mp_to rfl k | exact fun _ k => mp_of rfl k | exact fun _ k => mp_of rfl (mp_to rfl k)) (fun h k => sat_pick 0 rfl (by first | exact fun _ k => k | exact fun _ k => blk_to rfl rfl k | exact fun _ k => vec_to rfl k | exact fun _ k => blk_of rfl rfl k | exact fun _ k => vec_of rfl k | exact fun _ k => blk_of rfl rfl (blk_to rfl rfl k) | exact fun _ k => vec_of rfl (vec_to rfl k) | exact fun _ k => mp_to rfl k | exact fun _ k => mp_of rfl k | exact fun _ k => mp_of rfl (mp_to rfl k)) (fun h k => sat_pick 0 rfl (by first | exact fun _ k => k | exact fun _ k => blk_to rfl rfl k | exact fun _ k => vec_to rfl k | exact fun _ k => blk_of rfl rfl k | exact fun _ k => vec_of rfl k | exact fun _ k => blk_of rfl rfl (blk_to rfl rfl k) | exact fun _ k => vec_of rfl (vec_to rfl k) | exact fun _ k => mp_to rfl k | exact fun _ k => mp_of rfl k | exact fun _ k => mp_of rfl (mp_to rfl k)) (fun h k => sat_nil k) k) k) k) (fun _ _ _ _ => trivial) ?_
    rintro v post ⟨S, pl1, c1, rfl, hS, hc1, hat1, rfl⟩
    refine ⟨.sl 2 0 S.length c1, (2, pl1) :: _, 3, [.asn (AA b most no (ahead a.x.at_ M)), .vec 2 65 3 c1 (TL.flat S)], NmExt.push rfl, rfl, (fun h k => sat_pick 0 rfl (by first | exact fun _ k => k | exact fun _ k => blk_to rfl rfl k | exact fun _ k => vec_to rfl k | exact fun _ k => blk_of rfl rfl k | exact fun _ k => vec_of rfl k | exact fun _ k => blk_of rfl rfl (blk_to rfl rfl k) | exact fun _ k => vec_of rfl (vec_to rfl k) | exact fun _ k => mp_to rfl k | exact fun _ k => mp_of rfl k | exact fun _ k => mp_of rfl (mp_to rfl k)) (fun h k => sat_pick 0 rfl (fun _ k => vec_of rfl k) (fun h k => sat_nil k) k) k), ?_⟩
    refine call_ix (ref_pop (locAddr 0 pl) c M a.x.at_ hp.ord (by have := hp.lt; omega)) rfl [] (fun h k => k) (fun f' b' hs kb => vec_reads 3 hs kb rfl rfl) ?_
    rintro v post ⟨S2, pl2, c2, pl3, c3, rfl, hS2, hc2, hc3, rfl⟩
    obtain rfl : S = S2 := hS.same (fun a ha b hb e => nos_inj hp.ord a (List.mem_filter.1 ha).1 b (List.mem_filter.1 hb).1 e) hS2
    have hSl : S.length ≤ M.length := by rw [hS.perm.length_eq]; exact List.length_filter_le _ _
    refine ⟨.tuple [.sl 3 0 (ahead a.x.at_ M).length c2, .sl 4 0 S.length c3], (4, pl3) :: (3, pl2) :: _, 5, [.vec 3 65 3 c2 (TL.flat (ahead a.x.at_ M)), .vec 4 65 3 c3 (TL.flat S)], (NmExt.push rfl).trans (NmExt.push rfl), rfl, (fun h k => sat_pick 0 rfl (fun _ k => vec_of rfl k) (fun h k => sat_pick 0 rfl (fun _ k => vec_of rfl k) (fun h k => sat_nil k) k) k), ?_⟩
    refine useR .tt (same_self (locAddr 0 pl1) (locAddr 0 pl3) c1 c3 S (by have := hp.lt; omega)) rfl (fun f' b' hs kb => ⟨vec_reads 3 hs kb rfl rfl, vec_reads 1 hs kb rfl rfl⟩) rfl ?_
    exact ⟨⟨(no, ahead a.x.at_ M, pl2, c2, 0), hp2, hc2, hno3⟩, Le.of rfl ⟨⟨_, rfl, rfl⟩, ⟨_, rfl, rfl⟩, ⟨_, rfl, rfl⟩, ⟨_, rfl, rfl⟩, ⟨_, rfl, rfl⟩, ⟨_, rfl, rfl⟩, ⟨_, rfl, rfl⟩, trivial⟩ (fun h k => sat_pick 2 rfl (by first | exact fun _ k => k | exact fun _ k => blk_to rfl rfl k | exact fun _ k => vec_to rfl k | exact fun _ k => blk_of rfl rfl k | exact fun _ k => vec_of rfl k | exact fun _ k => blk_of rfl rfl (blk_to rfl rfl k) | exact fun _ k => vec_of rfl (vec_to rfl k) | exact fun _ k => mp_to rfl k | exact fun _ k => mp_of rfl k | exact fun _ k => mp_of rfl (mp_to rfl k)) (fun h k => sat_pick 0 rfl (fun _ k => vec_of rfl (vec_to rfl k)) (fun h k => sat_nil k) k) k)⟩
  rintro ⟨⟨no2, M2, pl2, c2, cd⟩, hp2, hc2, hno2⟩
  simp only at hp2 hc2 hno2
  refine call_ix (ref_all (locAddr 0 pl2) c2 M2 hp2.ord (by have := hp2.lt; omega)) rfl [] (fun h k => k) (fun f' b' hs kb => vec_reads 1 hs kb rfl rfl) ?_
  rintro v post ⟨S, pl6, c6, rfl, hS, hSc, hat6, rfl⟩
  refine ⟨.sl 1 0 S.length c6, (1, pl6) :: _, 2, [.vec 1 65 3 c6 (TL.flat S)], NmExt.push rfl, rfl, (fun h k => sat_pick 0 rfl (fun _ k => vec_of rfl k) (fun h k => sat_nil k) k), ?_⟩
  have hSl : S.length = M2.length := hS.perm.length_eq
  have hMl := hp2.lt
  refine call_ix (atop_at b most no2 M2 S hp2 hS) rfl [1] (fun h k => sat_pick 1 rfl (by first | exact fun _ k => k | exact fun _ k => blk_to rfl rfl k | exact fun _ k => vec_to rfl k | exact fun _ k => blk_of rfl rfl k | exact fun _ k => vec_of rfl k | exact fun _ k => blk_of rfl rfl (blk_to rfl rfl k) | exact fun _ k => vec_of rfl (vec_to rfl k) | exact fun _ k => mp_to rfl k | exact fun _ k => mp_of rfl k | exact fun _ k => mp_of rfl (mp_to rfl k)) (fun h k => sat_pick 0 rfl (by first | exact fun _ k => k | exact fun _ k => blk_to rfl rfl k | exact fun _ k => vec_to rfl k | exact fun _ k => blk_of rfl rfl k | exact fun _ k => vec_of rfl k | exact fun _ k => blk_of rfl rfl (blk_to rfl rfl k) | exact fun _ k => vec_of rfl (vec_to rfl k) | exact fun _ k => mp_to rfl k | exact fun _ k => mp_of rfl k | exact fun _ k => mp_of rfl (mp_to rfl k)) (fun h k => sat_pick 0 rfl (by first | exact fun _ k => k | exact fun _ k => blk_to rfl rfl k | exact fun _ k => vec_to rfl k | exact fun _ k => blk_of rfl rfl k | exact fun _ k => vec_of rfl k | exact fun _ k => blk_of rfl rfl (blk_to rfl rfl k) | exact fun _ k => vec_of rfl (vec_to rfl k) | exact fun _ k => mp_to rfl k | exact fun _ k => mp_of rfl k | exact fun _ k => mp_of rfl (mp_to rfl k)) (fun h k => sat_nil k) k) k) k) (fun _ _ _ _ => trivial) ?_
  rintro v post ⟨rfl, rfl⟩
  refine ⟨.tuple [.agg (S.head?.getD E0).itsv, .bool (decide (0 < S.length))], _, 2, [.asn (AA b most no2 M2)], NmExt.refl _, rfl, (fun h k => sat_pick 0 rfl (by first | exact fun _ k => k | exact fun _ k => blk_to rfl rfl k | exact fun _ k => vec_to rfl k | exact fun _ k => blk_of rfl rfl k | exact fun _ k => vec_of rfl k | exact fun _ k => blk_of rfl rfl (blk_to rfl rfl k) | exact fun _ k => vec_of rfl (vec_to rfl k) | exact fun _ k => mp_to rfl k | exact fun _ k => mp_of rfl k | exact fun _ k => mp_of rfl (mp_to rfl k)) (fun h k => sat_nil k) k), ?_⟩
  intro b19
  refine RegOb.go ?_
  refine DrawOb.mk [(5, [6]), (12, [13, 14])] (.run [0, 1, 2, 3, 4, 6, 5, 7, 8, 9, 10, 11, 13, 14, 12, 15, 16, 17, 18, 19, 20, 21, 22, 23, 24, 25, 26, 27, 28, 29, 30, 31, 32, 33] .nil) (by kernel_rfl) ?_
  refine Br.mk (fun h => absurd h (by simp)) (fun _ => ?_)
  refine call_ix (aall_spec b most no2 M2 hp2) rfl [1] (fun h k => sat_pick 1 rfl (by first | exact fun _ k => k | exact fun _ k => blk_to rfl rfl k | exact fun _ k => vec_to rfl k | exact fun _ k => blk_of rfl rfl k | exact fun _ k => vec_of rfl k | exact fun _ k => blk_of rfl rfl (blk_to rfl rfl k) | exact fun _ k => vec_of rfl (vec_to rfl k) | exact fun _ k => mp_to rfl k | exact fun _ k => mp_of rfl k | exact fun _ k => mp_of rfl (mp_to rfl k)) (fun h k => sat_pick 0 rfl (by first | exact fun _ k => k | exact fun _ k => blk_to rfl rfl k | exact fun _ k => vec_to rfl k | exact fun _ k => blk_of rfl rfl k | exact fun _ k => vec_of rfl k | exact fun _ k => blk_of rfl rfl (blk_to rfl rfl k) | exact fun _ k => vec_of rfl (vec_to rfl k) | exact fun _ k => mp_to rfl k | exact fun _ k => mp_of rfl k | exact fun _ k => mp_of rfl (mp_to rfl k)) (fun h k => sat_pick 0 rfl (by first | exact fun _ k => k | exact fun _ k => blk_to rfl rfl k | exact fun _ k => vec_to rfl k | exact fun _ k => blk_of rfl rfl k | exact fun _ k => vec_of rfl k | exact fun _ k => blk_of rfl rfl (blk_to rfl rfl k) | exact fun _ k => vec_of rfl (vec_to rfl k) | exact fun _ k => mp_to rfl k | exact fun _ k => mp_of rfl k | exact fun _ k => mp_of rfl (mp_to rfl k)) (fun h k => sat_pick 0 rfl (by first | exact fun _ k => k | exact fun _ k => blk_to rfl rfl k | exact fun _ k => vec_to rfl k | exact fun _ k => blk_of rfl rfl k | exact fun _ k => vec_of rfl k | exact fun _ k => blk_of rfl rfl (blk_to rfl rfl k) | exact fun _ k => vec_of rfl (vec_to rfl k) | exact fun _ k => mp_to rfl k | exact fun _ k => mp_of rfl k | exact fun _ k => mp_of rfl (mp_to rfl k)) (fun h k => sat_nil k) k) k) k) k) (fun _ _ _ _ => trivial) ?_
  rintro v post ⟨S2, pl7, c7, rfl, hS2, hSc2, rfl⟩
  obtain rfl : S = S2 := hS.same (nos_inj hp2.ord) hS2
  refine ⟨.sl 3 0 S.length c7, (3, pl7) :: _, 4, [.asn (AA b most no2 M2), .vec 3 65 3 c7 (TL.flat S)], NmExt.push rfl, rfl, (fun h k => sat_pick 0 rfl (by first | exact fun _ k => k | exact fun _ k => blk_to rfl rfl k | exact fun _ k => vec_to rfl k | exact fun _ k => blk_of rfl rfl k | exact fun _ k => vec_of rfl k | exact fun _ k => blk_of rfl rfl (blk_to rfl rfl k) | exact fun _ k => vec_of rfl (vec_to rfl k) | exact fun _ k => mp_to rfl k | exact fun _ k => mp_of rfl k | exact fun _ k => mp_of rfl (mp_to rfl k)) (fun h k => sat_pick 0 rfl (fun _ k => vec_of rfl k) (fun h k => sat_nil k) k) k), ?_⟩
  refine useR .tt (same_self (locAddr 0 pl7) (locAddr 0 pl6) c7 c6 S (by omega)) rfl (fun f' b' hs kb => ⟨vec_reads 1 hs kb rfl rfl, vec_reads 3 hs kb rfl rfl⟩) rfl ?_
  refine useA [] [_, _, _, _] (.int .i64 M2.length) (alen_spec b most no2 M2) rfl rfl rfl ?_
  refine Br.mk (fun h => absurd h (by simp)) (fun _ => ?_)
  refine Br.mk (fun h => absurd h (by rw [hSl]; simp)) (fun _ => ?_)
  refine Br.mk (fun g8 => ?_) (fun _ => ?_)
  · have g8 : 0 < S.length := of_decide_eq_true g8
    obtain ⟨q6, o6, rfl⟩ := hat6 g8
    refine Need.mk ⟨by decide, by omega⟩ ?_
    refine RdObL.mk (S.head?.getD E0).itsv (by decide) (by rw [lT]; show 0 + 0 * 3 + 3 ≤ S.length * 3; omega) (head_cells g8 _) ?_
    refine BinOb.eqs 3 (by kernel_rfl) ?_ rfl rfl
    refine CondOb.split (fun h => absurd h (by simp)) (fun _ => ?_)
    exact ⟨⟨(i + 1, no2, M2, pl2, c2), gi, hp2, hc2, hno2⟩, by show acts.length - (i + 1) < acts.length - i; omega, Le.of rfl ⟨⟨_, rfl, rfl⟩, ⟨_, rfl, rfl⟩, ⟨_, rfl, rfl⟩, ⟨_, rfl, rfl⟩, ⟨_, rfl, congrArg (fun z => some (Value.int .i64 z)) ei⟩, trivial⟩ (fun h k => sat_pick 0 rfl (by first | exact fun _ k => k | exact fun _ k => blk_to rfl rfl k | exact fun _ k => vec_to rfl k | exact fun _ k => blk_of rfl rfl k | exact fun _ k => vec_of rfl k | exact fun _ k => blk_of rfl rfl (blk_to rfl rfl k) | exact fun _ k => vec_of rfl (vec_to rfl k) | exact fun _ k => mp_to rfl k | exact fun _ k => mp_of rfl k | exact fun _ k => mp_of rfl (mp_to rfl k)) (fun h k => sat_pick 3 rfl (by first | exact fun _ k => k | exact fun _ k => blk_to rfl rfl k | exact fun _ k => vec_to rfl k | exact fun _ k => blk_of rfl rfl k | exact fun _ k => vec_of rfl k | exact fun _ k => blk_of rfl rfl (blk_to rfl rfl k) | exact fun _ k => vec_of rfl (vec_to rfl k) | exact fun _ k => mp_to rfl k | exact fun _ k => mp_of rfl k | exact fun _ k => mp_of rfl (mp_to rfl k)) (fun h k => sat_nil k) k) k)⟩
  · exact ⟨⟨(i + 1, no2, M2, pl2, c2), gi, hp2, hc2, hno2⟩, by show acts.length - (i + 1) < acts.length - i; omega, Le.of rfl ⟨⟨_, rfl, rfl⟩, ⟨_, rfl, rfl⟩, ⟨_, rfl, rfl⟩, ⟨_, rfl, rfl⟩, ⟨_, rfl, congrArg (fun z => some (Value.int .i64 z)) ei⟩, trivial⟩ (fun h k => sat_pick 0 rfl (by first | exact fun _ k => k | exact fun _ k => blk_to rfl rfl k | exact fun _ k => vec_to rfl k | exact fun _ k => blk_of rfl rfl k | exact fun _ k => vec_of rfl k | exact fun _ k => blk_of rfl rfl (blk_to rfl rfl k) | exact fun _ k => vec_of rfl (vec_to rfl k) | exact fun _ k => mp_to rfl k | exact fun _ k => mp_of rfl k | exact fun _ k => mp_of rfl (mp_to rfl k)) (fun h k => sat_pick 3 rfl (by first | exact fun _ k => k | exact fun _ k => blk_to rfl rfl k | exact fun _ k => vec_to rfl k | exact fun _ k => blk_of rfl rfl k | exact fun _ k => vec_of rfl k | exact fun _ k => blk_of rfl rfl (blk_to rfl rfl k) | exact fun _ k => vec_of rfl (vec_to rfl k) | exact fun _ k => mp_to rfl k | exact fun _ k => mp_of rfl k | exact fun _ k => mp_of rfl (mp_to rfl k)) (fun h k => sat_nil k) k) k)⟩
end Go.Proofs.Ytiknkeakielncaa.Ag
