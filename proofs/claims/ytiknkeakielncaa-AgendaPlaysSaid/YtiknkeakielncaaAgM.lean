/- agenda: nil agendas; code, live. Conditions: none. -/
import Derived.Test.YtiknkeakielncaaAgL
namespace Go.Proofs.Ytiknkeakielncaa.Ag
open Go Go.Proofs Sx
set_option maxRecDepth 100000
set_option linter.unusedVariables false
set_option linter.unusedSimpArgs false
set_option maxHeartbeats 4000000

theorem code_spec (x : Int) : Does Try.prog 31 #[.int .i64 x] (fun _ => True) [] (fun v p => v = .int .i64 x ∧ p = []) := by
  refine Does.ofJ Try.func31 Try.call31 rfl [.int .i64 x] [] 0 [] rfl rfl (fun h k => k) (fun f hR => ?_)
  exact FinOb.mk _ [] rfl (fun h k => trivial) ⟨rfl, rfl⟩
theorem top_nil : Does Try.prog 62 #[.pointer none] (fun _ => True) [] (fun v p => v = .tuple #[.agg E0.item.toArray, .bool false] ∧ p = []) := by
  refine Does.ofJ Try.func62 Try.call62 rfl [.raw (.pointer none)] [] 0 [] rfl rfl (fun h k => k) (fun f hR => ?_)
  intro b2
  refine RegOb.go ?_
  exact FinOb.mk [.agg E0.item.toArray, .bool false] [] rfl (fun h k => trivial) ⟨rfl, rfl⟩
theorem drop_nil (id : Int) : Does Try.prog 57 #[.pointer none, .int .i64 id] (fun _ => True) [] (fun v p => v = .bool false ∧ p = []) := by
  refine Does.ofJ Try.func57 Try.call57 rfl [.raw (.pointer none), .int .i64 id] [] 0 [] rfl rfl (fun h k => k) (fun f hR => ?_)
  exact FinOb.mk [.bool false] [] rfl (fun h k => trivial) ⟨rfl, rfl⟩
theorem len_nil : Does Try.prog 35 #[.pointer none] (fun _ => True) [] (fun v p => v = .int .i64 0 ∧ p = []) := by
  refine Does.ofJ Try.func35 Try.call35 rfl [.raw (.pointer none)] [] 0 [] rfl rfl (fun h k => k) (fun f hR => ?_)
  exact FinOb.mk [.int .i64 0] [] rfl (fun h k => trivial) ⟨rfl, rfl⟩
theorem all_nil : Does Try.prog 63 #[.pointer none] (fun _ => True) [] (fun v p => v = .slice none 0 0 ∧ p = []) := by
  refine Does.ofJ Try.func63 Try.call63 rfl [.raw (.pointer none)] [] 0 [] rfl rfl (fun h k => k) (fun f hR => ?_)
  exact FinOb.mk [.slice none 0 0] [] rfl (fun h k => trivial) ⟨rfl, rfl⟩
theorem push_nil (x : En) : Does Try.prog 32 #[.pointer none, .agg x.item.toArray] (fun _ => True) [] (fun v p => v = .int .i64 7 ∧ p = []) := by
  refine Does.ofJ Try.func32 Try.call32 rfl [.raw (.pointer none), .agg x.itsv] [] 0 [] rfl rfl (fun h k => k) (fun f hR => ?_)
  intro b3
  exact FinOb.mk [.int .i64 7] [] rfl (fun h k => trivial) ⟨rfl, rfl⟩
theorem move_nil (id x r : Int) : Does Try.prog 55 #[.pointer none, .int .i64 id, .int .i64 x, .int .i64 r] (fun _ => True) [] (fun v p => v = .int .i64 7 ∧ p = []) := by
  refine Does.ofJ Try.func55 Try.call55 rfl [.raw (.pointer none), .int .i64 id, .int .i64 x, .int .i64 r] [] 0 [] rfl rfl (fun h k => k) (fun f hR => ?_)
  exact FinOb.mk [.int .i64 7] [] rfl (fun h k => trivial) ⟨rfl, rfl⟩
theorem pop_nil (x : Int) : Does Try.prog 33 #[.pointer none, .int .i64 x] (fun _ => True) [] (fun v p => v = .slice none 0 0 ∧ p = []) := by
  refine Does.ofJ Try.func33 Try.call33 rfl [.raw (.pointer none), .int .i64 x] [] 0 [] rfl rfl (fun h k => k) (fun f hR => ?_)
  refine useP (.tuple [.agg E0.itsv, .ff]) top_nil rfl rfl ?_
  intro b6
  refine LoopOb.mk Unit (fun z => ⟨35, [(5, .raw (.slice none 0 0)), (7, .ff)], [], 0, []⟩) (fun z => 0) () ?_ ?_
  · exact Le.of rfl ⟨⟨_, rfl, rfl⟩, ⟨_, rfl, rfl⟩, trivial⟩ (fun h k => trivial)
  rintro ⟨⟩
  refine RegOb.go ?_
  exact FinOb.mk [.slice none 0 0] [] rfl (fun h k => trivial) ⟨rfl, rfl⟩
theorem Sorted.same {H S T : List En} (hn : ∀ a ∈ H, ∀ b ∈ H, a.no = b.no → a = b) (hc : Sorted H S) (hd : Sorted H T) : S = T := by
  refine List.Perm.eq_of_pairwise (le := fun a b => ltE b a = false) (fun a b ha hb h1 h2 => ?_) hc.ord hd.ord (hc.perm.trans hd.perm.symm)
  have ha' := hc.perm.mem_iff.1 ha
  have hb' := hd.perm.mem_iff.1 hb
  have h1 := ltE_no.1 h1
  have h2 := ltE_no.1 h2
  unfold LeE LtE at h1 h2
  exact hn a ha' b hb' (by omega)
theorem nos_inj {M : List En} (h : M.Pairwise (fun a b => a.no < b.no)) : ∀ a ∈ M, ∀ b ∈ M, a.no = b.no → a = b := fun a ha b hb e => by
  induction h with
  | nil => simp at ha
  | cons hx _ ih =>
    rcases List.mem_cons.1 ha with rfl | h1 <;> rcases List.mem_cons.1 hb with rfl | h2
    · rfl
    · have := hx _ h2; omega
    · have := hx _ h1; omega
    · exact ih h1 h2
theorem apop_at (b : Nat) (most no : Int) (M : List En) (hp : PM most no M) (x : Int) : Does Try.prog 33 #[ap b, .int .i64 x] (fun _ => True) [AA b most no M]
    (fun v p => ∃ S pl c, v = .slice (locAddr 0 pl) S.length c ∧ Sorted (M.filter (isLate x)) S ∧ S.length ≤ c ∧ (0 < S.length → ∃ q o, pl = .at q o) ∧ p = [AA b most no (ahead x M), Vec pl 65 3 c (TL.flat S)]) :=
  (apop_spec b most no M hp x).sure (by
    rintro v p h ⟨S, pl, c, rfl, h1, h2, rfl⟩ hs
    refine ⟨S, pl, c, rfl, h1, h2, fun h0 => ?_, rfl⟩
    obtain ⟨y, _, _, hx, _⟩ := sat_tail hs
    exact vec_at (fun e => by
      have := congrArg List.length e
      rw [lT] at this
      have : S.length * 3 = 0 := this
      omega) hx)
theorem live_spec : Does Try.prog 29 #[] (fun _ => True) [] (fun v p => v = .bool true ∧ p = []) := by
  refine Does.ofJ Try.func29 Try.call29 rfl [] [] 0 [] rfl rfl (fun h k => k) (fun f hR => ?_)
  refine call_ix (anew_spec 9 (by decide) (by decide)) rfl [] (fun h k => k) (fun _ _ _ _ => trivial) ?_
  rintro v post ⟨b, rfl, rfl⟩
  refine ⟨.tuple [.raw (ap b), .int .i64 0], _, 0, [.asn (AA b 9 0 [])], NmExt.refl _, rfl, (fun h k => sat_pick 0 rfl (by first | exact fun _ k => k | exact fun _ k => blk_to rfl rfl k | exact fun _ k => vec_to rfl k | exact fun _ k => blk_of rfl rfl k | exact fun _ k => vec_of rfl k | exact fun _ k => blk_of rfl rfl (blk_to rfl rfl k) | exact fun _ k => vec_of rfl (vec_to rfl k) | exact fun _ k => mp_to rfl k | exact fun _ k => mp_of rfl k | exact fun _ k => mp_of rfl (mp_to rfl k)) (fun h k => sat_nil k) k), ?_⟩
  have p0 : PM 9 0 [] := ⟨by decide, by decide, by decide, .nil, .nil, by simp, by simp⟩
  refine RegOb.go ?_
  refine useP (.int .i64 0) (code_spec 0) rfl rfl ?_
  refine Br.mk (fun h => absurd h (by decide)) (fun _ => ?_)
  have k1 : pushC [] 9 1 = 0 := by simp [pushC]
  refine call_ix (apush_ok b 9 0 [] p0 (by decide) ⟨0, 1, 5, 0, 0⟩ k1) rfl [0] (fun h k => sat_pick 0 rfl (by first | exact fun _ k => k | exact fun _ k => blk_to rfl rfl k | exact fun _ k => vec_to rfl k | exact fun _ k => blk_of rfl rfl k | exact fun _ k => vec_of rfl k | exact fun _ k => blk_of rfl rfl (blk_to rfl rfl k) | exact fun _ k => vec_of rfl (vec_to rfl k) | exact fun _ k => mp_to rfl k | exact fun _ k => mp_of rfl k | exact fun _ k => mp_of rfl (mp_to rfl k)) (fun h k => sat_nil k) k) (fun _ _ _ _ => trivial) ?_
  rintro v post ⟨c1, rfl, rfl⟩
  have p1 := pm_push (x := ⟨0, 1, 5, 0, 0⟩) p0 k1 c1
  refine ⟨.int .i64 0, _, 0, [.asn (AA b 9 1 [⟨c1, 1, 5, 0, 0⟩])], NmExt.refl _, rfl, (fun h k => sat_pick 0 rfl (by first | exact fun _ k => k | exact fun _ k => blk_to rfl rfl k | exact fun _ k => vec_to rfl k | exact fun _ k => blk_of rfl rfl k | exact fun _ k => vec_of rfl k | exact fun _ k => blk_of rfl rfl (blk_to rfl rfl k) | exact fun _ k => vec_of rfl (vec_to rfl k) | exact fun _ k => mp_to rfl k | exact fun _ k => mp_of rfl k | exact fun _ k => mp_of rfl (mp_to rfl k)) (fun h k => sat_nil k) k), ?_⟩
  have k2 : pushC [⟨c1, 1, 5, 0, 0⟩] 9 2 = 0 := by simp [pushC]
  refine call_ix (apush_ok b 9 1 [⟨c1, 1, 5, 0, 0⟩] p1 (by decide) ⟨0, 2, 3, 0, 0⟩ k2) rfl [0] (fun h k => sat_pick 0 rfl (by first | exact fun _ k => k | exact fun _ k => blk_to rfl rfl k | exact fun _ k => vec_to rfl k | exact fun _ k => blk_of rfl rfl k | exact fun _ k => vec_of rfl k | exact fun _ k => blk_of rfl rfl (blk_to rfl rfl k) | exact fun _ k => vec_of rfl (vec_to rfl k) | exact fun _ k => mp_to rfl k | exact fun _ k => mp_of rfl k | exact fun _ k => mp_of rfl (mp_to rfl k)) (fun h k => sat_nil k) k) (fun _ _ _ _ => trivial) ?_
  rintro v post ⟨c2, rfl, rfl⟩
  have p2 := pm_push (x := ⟨0, 2, 3, 0, 0⟩) p1 k2 c2
  refine ⟨.int .i64 0, _, 0, [.asn (AA b 9 2 [⟨c1, 1, 5, 0, 0⟩, ⟨c2, 2, 3, 0, 1⟩])], NmExt.refl _, rfl, (fun h k => sat_pick 0 rfl (by first | exact fun _ k => k | exact fun _ k => blk_to rfl rfl k | exact fun _ k => vec_to rfl k | exact fun _ k => blk_of rfl rfl k | exact fun _ k => vec_of rfl k | exact fun _ k => blk_of rfl rfl (blk_to rfl rfl k) | exact fun _ k => vec_of rfl (vec_to rfl k) | exact fun _ k => mp_to rfl k | exact fun _ k => mp_of rfl k | exact fun _ k => mp_of rfl (mp_to rfl k)) (fun h k => sat_nil k) k), ?_⟩
  have k3 : pushC [⟨c1, 1, 5, 0, 0⟩, ⟨c2, 2, 3, 0, 1⟩] 9 3 = 0 := by simp [pushC]
  refine call_ix (apush_ok b 9 2 [⟨c1, 1, 5, 0, 0⟩, ⟨c2, 2, 3, 0, 1⟩] p2 (by decide) ⟨0, 3, 5, 0, 0⟩ k3) rfl [0] (fun h k => sat_pick 0 rfl (by first | exact fun _ k => k | exact fun _ k => blk_to rfl rfl k | exact fun _ k => vec_to rfl k | exact fun _ k => blk_of rfl rfl k | exact fun _ k => vec_of rfl k | exact fun _ k => blk_of rfl rfl (blk_to rfl rfl k) | exact fun _ k => vec_of rfl (vec_to rfl k) | exact fun _ k => mp_to rfl k | exact fun _ k => mp_of rfl k | exact fun _ k => mp_of rfl (mp_to rfl k)) (fun h k => sat_nil k) k) (fun _ _ _ _ => trivial) ?_
  rintro v post ⟨c3, rfl, rfl⟩
  have p3 := pm_push (x := ⟨0, 3, 5, 0, 0⟩) p2 k3 c3
  refine ⟨.int .i64 0, _, 0, [.asn (AA b 9 3 [⟨c1, 1, 5, 0, 0⟩, ⟨c2, 2, 3, 0, 1⟩, ⟨c3, 3, 5, 0, 2⟩])], NmExt.refl _, rfl, (fun h k => sat_pick 0 rfl (by first | exact fun _ k => k | exact fun _ k => blk_to rfl rfl k | exact fun _ k => vec_to rfl k | exact fun _ k => blk_of rfl rfl k | exact fun _ k => vec_of rfl k | exact fun _ k => blk_of rfl rfl (blk_to rfl rfl k) | exact fun _ k => vec_of rfl (vec_to rfl k) | exact fun _ k => mp_to rfl k | exact fun _ k => mp_of rfl k | exact fun _ k => mp_of rfl (mp_to rfl k)) (fun h k => sat_nil k) k), ?_⟩
  have p3' : PM 9 3 [⟨c1, 1, 5, 0, 0⟩, ⟨c2, 2, 3, 0, 1⟩, ⟨c3, 3, 5, 0, 2⟩] := p3
  refine call_ix (apop_at b 9 3 [⟨c1, 1, 5, 0, 0⟩, ⟨c2, 2, 3, 0, 1⟩, ⟨c3, 3, 5, 0, 2⟩] p3' 4) rfl [0] (fun h k => sat_pick 0 rfl (by first | exact fun _ k => k | exact fun _ k => blk_to rfl rfl k | exact fun _ k => vec_to rfl k | exact fun _ k => blk_of rfl rfl k | exact fun _ k => vec_of rfl k | exact fun _ k => blk_of rfl rfl (blk_to rfl rfl k) | exact fun _ k => vec_of rfl (vec_to rfl k) | exact fun _ k => mp_to rfl k | exact fun _ k => mp_of rfl k | exact fun _ k => mp_of rfl (mp_to rfl k)) (fun h k => sat_nil k) k) (fun _ _ _ _ => trivial) ?_
  rintro v post ⟨S, pl1, d1, rfl, hS, hd1, hat1, rfl⟩
  have e1 : S = [⟨c2, 2, 3, 0, 1⟩] := hS.same (fun a ha b hb e => nos_inj p3'.ord a (List.mem_filter.1 ha).1 b (List.mem_filter.1 hb).1 e) ⟨List.Perm.refl _, by simp⟩
  subst e1
  obtain ⟨q1, o1, rfl⟩ := hat1 (by simp)
  refine ⟨.sl 0 0 1 d1, [(0, .at q1 o1)], 1, [.asn (AA b 9 3 [⟨c1, 1, 5, 0, 0⟩, ⟨c3, 3, 5, 0, 2⟩]), .vec 0 65 3 d1 (TL.flat [⟨c2, 2, 3, 0, 1⟩])], NmExt.push rfl, rfl, (fun h k => sat_pick 0 rfl (by first | exact fun _ k => k | exact fun _ k => blk_to rfl rfl k | exact fun _ k => vec_to rfl k | exact fun _ k => blk_of rfl rfl k | exact fun _ k => vec_of rfl k | exact fun _ k => blk_of rfl rfl (blk_to rfl rfl k) | exact fun _ k => vec_of rfl (vec_to rfl k) | exact fun _ k => mp_to rfl k | exact fun _ k => mp_of rfl k | exact fun _ k => mp_of rfl (mp_to rfl k)) (fun h k => sat_pick 0 rfl (fun _ k => vec_of rfl k) (fun h k => sat_nil k) k) k), ?_⟩
  have p4 : PM 9 3 [⟨c1, 1, 5, 0, 0⟩, ⟨c3, 3, 5, 0, 2⟩] := pm_drop p3' 2
  refine call_ix ((apop_at b 9 3 [⟨c1, 1, 5, 0, 0⟩, ⟨c3, 3, 5, 0, 2⟩] p4 5).mono (Q' := fun v p => ∃ S pl c, v = .slice (locAddr 0 pl) S.length c ∧ Sorted ([⟨c1, 1, 5, 0, 0⟩, ⟨c3, 3, 5, 0, 2⟩] : List En) S ∧ (0 < S.length → ∃ q o, pl = .at q o) ∧ p = [AA b 9 3 [], Vec pl 65 3 c (TL.flat S)]) (by
    rintro v p ⟨S, pl, c, rfl, h1, h2, h3, rfl⟩
    exact ⟨S, pl, c, rfl, h1, h3, rfl⟩)) rfl [0] (fun h k => sat_pick 0 rfl (by first | exact fun _ k => k | exact fun _ k => blk_to rfl rfl k | exact fun _ k => vec_to rfl k | exact fun _ k => blk_of rfl rfl k | exact fun _ k => vec_of rfl k | exact fun _ k => blk_of rfl rfl (blk_to rfl rfl k) | exact fun _ k => vec_of rfl (vec_to rfl k) | exact fun _ k => mp_to rfl k | exact fun _ k => mp_of rfl k | exact fun _ k => mp_of rfl (mp_to rfl k)) (fun h k => sat_pick 0 rfl (by first | exact fun _ k => k | exact fun _ k => blk_to rfl rfl k | exact fun _ k => vec_to rfl k | exact fun _ k => blk_of rfl rfl k | exact fun _ k => vec_of rfl k | exact fun _ k => blk_of rfl rfl (blk_to rfl rfl k) | exact fun _ k => vec_of rfl (vec_to rfl k) | exact fun _ k => mp_to rfl k | exact fun _ k => mp_of rfl k | exact fun _ k => mp_of rfl (mp_to rfl k)) (fun h k => sat_nil k) k) k) (fun _ _ _ _ => trivial) ?_
  rintro v post ⟨S, pl2, d2, rfl, hS2, hat2, rfl⟩
  have e2 : S = [⟨c1, 1, 5, 0, 0⟩, ⟨c3, 3, 5, 0, 2⟩] := hS2.same (nos_inj p4.ord) ⟨List.Perm.refl _, by rw [List.pairwise_cons]; exact ⟨fun a ha => by simp at ha; subst ha; exact ltE_no.2 (by unfold LeE LtE; simp), by simp⟩⟩
  subst e2
  obtain ⟨q2, o2, rfl⟩ := hat2 (by simp)
  refine ⟨.sl 1 0 2 d2, (1, .at q2 o2) :: _, 2, [.asn (AA b 9 3 []), .vec 1 65 3 d2 (TL.flat [⟨c1, 1, 5, 0, 0⟩, ⟨c3, 3, 5, 0, 2⟩])], NmExt.push rfl, rfl, (fun h k => sat_pick 0 rfl (by first | exact fun _ k => k | exact fun _ k => blk_to rfl rfl k | exact fun _ k => vec_to rfl k | exact fun _ k => blk_of rfl rfl k | exact fun _ k => vec_of rfl k | exact fun _ k => blk_of rfl rfl (blk_to rfl rfl k) | exact fun _ k => vec_of rfl (vec_to rfl k) | exact fun _ k => mp_to rfl k | exact fun _ k => mp_of rfl k | exact fun _ k => mp_of rfl (mp_to rfl k)) (fun h k => sat_pick 0 rfl (fun _ k => vec_of rfl k) (fun h k => sat_nil k) k) k), ?_⟩
  refine RegOb.go ?_
  refine useP (.int .i64 0) (code_spec 0) rfl rfl ?_
  refine useP (.int .i64 0) (code_spec 0) rfl rfl ?_
  refine useP (.int .i64 0) (code_spec 0) rfl rfl ?_
  refine Br.mk (fun _ => ?_) (fun h => absurd h (by decide))
  refine Br.mk (fun _ => ?_) (fun h => absurd h (by decide))
  refine Need.mk (by decide) ?_
  refine RdOb.mk (.int .i64 2) _ rfl rfl ?_
  refine Br.mk (fun _ => ?_) (fun h => absurd h (by decide))
  refine Br.mk (fun _ => ?_) (fun h => absurd h (by decide))
  refine Need.mk (by decide) ?_
  refine RdOb.mk (.int .i64 1) _ rfl rfl ?_
  refine Br.mk (fun _ => ?_) (fun h => absurd h (by decide))
  refine Need.mk (by decide) ?_
  refine RdOb.mk (.int .i64 3) _ rfl rfl ?_
  exact FinOb.mk [.bool true] [] rfl (fun h k => trivial) ⟨rfl, rfl⟩
end Go.Proofs.Ytiknkeakielncaa.Ag
