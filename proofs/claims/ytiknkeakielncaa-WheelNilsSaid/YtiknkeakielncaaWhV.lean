/- wheel: WheelSteps, walked. Conditions: none. -/
import Derived.Test.YtiknkeakielncaaWhU
namespace Go.Proofs.Ytiknkeakielncaa.Wh
open Go Go.Proofs Sx
set_option maxRecDepth 100000
set_option linter.unusedVariables false
set_option linter.unusedSimpArgs false
set_option maxHeartbeats 4000000

theorem ahead_two {x y : Int} (h : x ≤ y) (L : List T) : ahead y (ahead x L) = ahead y L := by
  unfold ahead
  rw [List.filter_filter]
  refine List.filter_congr fun t _ => ?_
  unfold isLate
  by_cases q : t.at_ ≤ y
  · simp [q]
  · have : ¬ t.at_ ≤ x := by omega
    simp [q, this]
theorem told_two {x y : Int} (h : x ≤ y) {L c d : List T} (hc : Told x L c) (hd : Told y (ahead x L) d) : Told y L (c ++ d) := by
  refine ⟨?_, ?_⟩
  · refine (hc.perm.append hd.perm).trans ?_
    have e1 : L.filter (isLate x) = (L.filter (isLate y)).filter (isLate x) := by
      rw [List.filter_filter]
      refine List.filter_congr fun t _ => ?_
      unfold isLate
      by_cases q : t.at_ ≤ x
      · have : t.at_ ≤ y := by omega
        simp [q, this]
      · simp [q]
    have e2 : (ahead x L).filter (isLate y) = (L.filter (isLate y)).filter (fun t => !isLate x t) := by
      unfold ahead; rw [filter_swap]
    rw [e1, e2]
    exact List.filter_append_perm _ _
  · rw [List.pairwise_append]
    refine ⟨hc.ord, hd.ord, fun a ha b hb => ?_⟩
    have h1 := (List.mem_filter.1 (hc.perm.mem_iff.1 ha)).2
    have h2 := (List.mem_filter.1 (List.mem_filter.1 (hd.perm.mem_iff.1 hb)).1).2
    unfold isLate at h1 h2
    rw [ltT_no]
    have h1 : a.at_ ≤ x := by simpa using h1
    have h2 : x < b.at_ := by simpa using h2
    omega
theorem told_none {x : Int} {L d : List T} (h : Told x (ahead x L) d) : d = [] := by
  have e : (ahead x L).filter (isLate x) = [] := by
    unfold ahead
    rw [List.filter_filter, List.filter_eq_nil_iff]
    intro t _; simp
  have := h.perm
  rw [e] at this
  exact this.eq_nil
def Stp (L : List T) (at_ : Int) (c M : List T) : Prop := (at_ = 0 ∧ c = [] ∧ M = L) ∨ (Told at_ L c ∧ M = ahead at_ L)
theorem Stp.tick {L : List T} {at_ y : Int} {c M d : List T} (h : Stp L at_ c M) (hy : at_ ≤ y) (hd : Told y M d) : Stp L y (c ++ d) (ahead y M) := by
  rcases h with ⟨rfl, rfl, rfl⟩ | ⟨hc, rfl⟩
  · exact .inr ⟨by rw [List.nil_append]; exact hd, rfl⟩
  · exact .inr ⟨told_two hy hc hd, ahead_two hy L⟩
theorem Stp.few {L : List T} {at_ : Int} {c M : List T} (h : Stp L at_ c M) (hL : L.length ≤ 4096) : c.length ≤ 4096 ∧ M.length ≤ 4096 := by
  rcases h with ⟨rfl, rfl, rfl⟩ | ⟨hc, rfl⟩
  · exact ⟨Nat.zero_le _, hL⟩
  · exact ⟨told_len hc hL, Nat.le_trans (List.length_filter_le _ _) hL⟩
theorem steps_spec (B C : Option Addr) (cp cq : Nat) (acts : List A) (steps : List Int) (hl1 : acts.length ≤ 9223372036854775807) (hl2 : steps.length ≤ 9223372036854775807) :
    Does Try.prog 6 #[.slice B acts.length cp, .slice C steps.length cq] (fun f => Reads f B (AL.flat acts) ∧ Reads f C (IL.flat steps)) [] (fun v p => v = .bool true ∧ p = []) := by
  refine Does.ofJ Try.func6 Try.call6 rfl [.raw (.slice B acts.length cp), .raw (.slice C steps.length cq)] [] 0 [] rfl rfl (fun h k => k) (fun f hR => ?_)
  obtain ⟨hR, hS⟩ := hR
  refine RegOb.go ?_
  refine Br.mk (fun g => ?_) (fun g => ?_)
  · refine useP .tt live_spec rfl rfl ?_
    exact FinOb.mk [.bool true] [] rfl (fun h k => trivial) ⟨rfl, rfl⟩
  refine CondOb.split (fun g2 => ?_) (fun g2 => ?_)
  · refine useP .tt live_spec rfl rfl ?_
    exact FinOb.mk [.bool true] [] rfl (fun h k => trivial) ⟨rfl, rfl⟩
  replace g : acts.length ≤ 200 := by
    have g := of_decide_eq_false g
    omega
  replace g2 : steps.length ≤ 100 := by
    have g := of_decide_eq_false g2
    omega
  refine call_ix (wnew_spec 0 (by decide) (by decide)) rfl [] (fun h k => k) (fun _ _ _ _ => trivial) ?_
  rintro v post ⟨bv, rfl, rfl⟩
  refine ⟨.tuple [.raw (.pointer (some ⟨bv, 0, none⟩)), .int .i64 0], _, 0, [.asn (WrA bv 0 0 [])], NmExt.refl _, rfl, (fun h k => sat_pick 0 rfl (by first | exact fun _ k => k | exact fun _ k => blk_to rfl rfl k | exact fun _ k => vec_to rfl k | exact fun _ k => blk_of rfl rfl k | exact fun _ k => vec_of rfl k | exact fun _ k => blk_of rfl rfl (blk_to rfl rfl k) | exact fun _ k => vec_of rfl (vec_to rfl k) | exact fun _ k => mp_to rfl k | exact fun _ k => mp_of rfl k | exact fun _ k => mp_of rfl (mp_to rfl k)) (fun h k => sat_nil k) k), ?_⟩
  refine call_ix (wnew_spec 0 (by decide) (by decide)) rfl [] (fun h k => k) (fun _ _ _ _ => trivial) ?_
  rintro v post ⟨bw, rfl, rfl⟩
  refine ⟨.tuple [.raw (.pointer (some ⟨bw, 0, none⟩)), .int .i64 0], _, 0, [.asn (WrA bw 0 0 [])], NmExt.refl _, rfl, (fun h k => sat_pick 0 rfl (by first | exact fun _ k => k | exact fun _ k => blk_to rfl rfl k | exact fun _ k => vec_to rfl k | exact fun _ k => blk_of rfl rfl k | exact fun _ k => vec_of rfl k | exact fun _ k => blk_of rfl rfl (blk_to rfl rfl k) | exact fun _ k => vec_of rfl (vec_to rfl k) | exact fun _ k => mp_to rfl k | exact fun _ k => mp_of rfl k | exact fun _ k => mp_of rfl (mp_to rfl k)) (fun h k => sat_nil k) k), ?_⟩
  refine RegOb.go ?_
  refine useP (.int .i64 0) (code_spec 0) rfl rfl ?_
  refine useP (.int .i64 0) (code_spec 0) rfl rfl ?_
  refine Br.mk (fun h => absurd h (by decide)) (fun _ => ?_)
  refine LoopOb.mk { z : Nat × Int × List T // z.1 ≤ acts.length ∧ PL 0 z.2.1 z.2.2 ∧ z.2.1 ≤ z.1 } (fun z => ⟨155, [(0, .raw (.slice B acts.length cp)), (1, .raw (.slice C steps.length cq)), (5, .raw (.pointer (some ⟨bv, 0, none⟩))), (7, .raw (.pointer (some ⟨bw, 0, none⟩))), (9, .int .i64 z.1.1)], [], 0, [.asn (WrA bv 0 z.1.2.1 z.1.2.2), .asn (WrA bw 0 z.1.2.1 z.1.2.2)]⟩) (fun z => acts.length - z.1.1)
    ⟨(0, 0, []), Nat.zero_le _, PL.emp (x := 0) (by decide) (by decide), Int.le_refl _⟩ ?_ ?_
  · exact Le.of rfl ⟨⟨_, rfl, rfl⟩, ⟨_, rfl, rfl⟩, ⟨_, rfl, rfl⟩, ⟨_, rfl, rfl⟩, ⟨_, rfl, rfl⟩, trivial⟩ (fun h k => sat_pick 1 rfl (by first | exact fun _ k => k | exact fun _ k => blk_to rfl rfl k | exact fun _ k => vec_to rfl k | exact fun _ k => blk_of rfl rfl k | exact fun _ k => vec_of rfl k | exact fun _ k => blk_of rfl rfl (blk_to rfl rfl k) | exact fun _ k => vec_of rfl (vec_to rfl k) | exact fun _ k => mp_to rfl k | exact fun _ k => mp_of rfl k | exact fun _ k => mp_of rfl (mp_to rfl k)) (fun h k => sat_pick 0 rfl (by first | exact fun _ k => k | exact fun _ k => blk_to rfl rfl k | exact fun _ k => vec_to rfl k | exact fun _ k => blk_of rfl rfl k | exact fun _ k => vec_of rfl k | exact fun _ k => blk_of rfl rfl (blk_to rfl rfl k) | exact fun _ k => vec_of rfl (vec_to rfl k) | exact fun _ k => mp_to rfl k | exact fun _ k => mp_of rfl k | exact fun _ k => mp_of rfl (mp_to rfl k)) (fun h k => sat_nil k) k) k)
  rintro ⟨⟨i, no, L⟩, hi, hp, hno⟩
  simp only at hi hp hno
  refine CondOb.split (fun gg => ?_) (fun gg => ?_)
  · have gi : i < acts.length := by
      have g := of_decide_eq_true gg
      have : (i : Int) < acts.length := g
      omega
    have hx := List.getElem?_eq_getElem gi
    generalize acts[i] = a at hx
    obtain ⟨bb, o, hA, hca⟩ := hR.lay (by decide) hx
    have hn2 : 0 ≤ (i : Int) ∧ (i : Int) < acts.length := by omega
    have ei : IntKind.i64.wrap ((i : Int) + 1) = ((i + 1 : Nat) : Int) := by rw [w64 (by omega) (by omega)]; omega
    have hno2 : setN L a.id a.at_ no ≤ (i + 1 : Nat) := by unfold setN; split <;> omega
    refine DrawOb.mk [(11, [13, 14, 15, 16, 17, 18, 19, 20, 21, 22, 23]), (12, [13, 14, 15, 16, 17, 18, 19, 20, 21, 22, 23])] (.run [0, 1, 2, 3, 4, 5, 6, 7, 8, 9, 10, 13, 14, 15, 16, 17, 18, 19, 20, 21, 22, 23, 11, 12, 24, 25, 26] .nil) (by kernel_rfl) ?_
    refine Need.mk hn2 (RawAt.mk bb o hA ?_)
    refine RdRaw.mk (.int .i64 a.id) _ rfl (by rw [Int.toNat_natCast]; exact hca 1 _ rfl) ?_
    refine Need.mk hn2 (RawAt.mk bb o hA ?_)
    refine RdRaw.mk (.int .i64 a.at_) _ rfl (by rw [Int.toNat_natCast]; exact hca 2 _ rfl) ?_
    refine Need.mk hn2 (RawAt.mk bb o hA ?_)
    refine RdRaw.mk (.int .i64 a.id) _ rfl (by rw [Int.toNat_natCast]; exact hca 1 _ rfl) ?_
    refine Need.mk hn2 (RawAt.mk bb o hA ?_)
    refine RdRaw.mk (.int .i64 a.at_) _ rfl (by rw [Int.toNat_natCast]; exact hca 2 _ rfl) ?_
    refine call_ix (wset_spec bv 0 no L hp (by show no ≤ 4611686018427387904; omega) a.id a.at_) rfl [0] (fun h k => sat_pick 0 rfl (by first | exact fun _ k => k | exact fun _ k => blk_to rfl rfl k | exact fun _ k => vec_to rfl k | exact fun _ k => blk_of rfl rfl k | exact fun _ k => vec_of rfl k | exact fun _ k => blk_of rfl rfl (blk_to rfl rfl k) | exact fun _ k => vec_of rfl (vec_to rfl k) | exact fun _ k => mp_to rfl k | exact fun _ k => mp_of rfl k | exact fun _ k => mp_of rfl (mp_to rfl k)) (fun h k => sat_pick 0 rfl (by first | exact fun _ k => k | exact fun _ k => blk_to rfl rfl k | exact fun _ k => vec_to rfl k | exact fun _ k => blk_of rfl rfl k | exact fun _ k => vec_of rfl k | exact fun _ k => blk_of rfl rfl (blk_to rfl rfl k) | exact fun _ k => vec_of rfl (vec_to rfl k) | exact fun _ k => mp_to rfl k | exact fun _ k => mp_of rfl k | exact fun _ k => mp_of rfl (mp_to rfl k)) (fun h k => sat_nil k) k) k) (fun _ _ _ _ => trivial) ?_
    rintro v post ⟨rfl, rfl⟩
    refine ⟨.int .i64 (setC L a.id a.at_), _, 0, [.asn (WrA bv 0 (setN L a.id a.at_ no) (setL L a.id a.at_ no))], NmExt.refl _, rfl, (fun h k => sat_pick 0 rfl (by first | exact fun _ k => k | exact fun _ k => blk_to rfl rfl k | exact fun _ k => vec_to rfl k | exact fun _ k => blk_of rfl rfl k | exact fun _ k => vec_of rfl k | exact fun _ k => blk_of rfl rfl (blk_to rfl rfl k) | exact fun _ k => vec_of rfl (vec_to rfl k) | exact fun _ k => mp_to rfl k | exact fun _ k => mp_of rfl k | exact fun _ k => mp_of rfl (mp_to rfl k)) (fun h k => sat_nil k) k), ?_⟩
    refine RdRaw.mk (.int .i64 a.at_) _ rfl (by rw [Int.toNat_natCast]; exact hca 2 _ rfl) ?_
    refine Need.mk rfl ?_
    refine RdRaw.mk (.int .i64 a.id) _ rfl (by rw [Int.toNat_natCast]; exact hca 1 _ rfl) ?_
    refine Need.mk rfl ?_
    refine useP (.int .i64 (setC L a.id a.at_)) (code_spec _) rfl rfl ?_
    refine RdRaw.mk (.int .i64 a.at_) _ rfl (by rw [Int.toNat_natCast]; exact hca 2 _ rfl) ?_
    refine Need.mk rfl ?_
    refine RdRaw.mk (.int .i64 a.id) _ rfl (by rw [Int.toNat_natCast]; exact hca 1 _ rfl) ?_
    refine Need.mk rfl ?_
    refine call_ix (wset_spec bw 0 no L hp (by show no ≤ 4611686018427387904; omega) a.id a.at_) rfl [1] (fun h k => sat_pick 1 rfl (by first | exact fun _ k => k | exact fun _ k => blk_to rfl rfl k | exact fun _ k => vec_to rfl k | exact fun _ k => blk_of rfl rfl k | exact fun _ k => vec_of rfl k | exact fun _ k => blk_of rfl rfl (blk_to rfl rfl k) | exact fun _ k => vec_of rfl (vec_to rfl k) | exact fun _ k => mp_to rfl k | exact fun _ k => mp_of rfl k | exact fun _ k => mp_of rfl (mp_to rfl k)) (fun h k => sat_pick 0 rfl (by first | exact fun _ k => k | exact fun _ k => blk_to rfl rfl k | exact fun _ k => vec_to rfl k | exact fun _ k => blk_of rfl rfl k | exact fun _ k => vec_of rfl k | exact fun _ k => blk_of rfl rfl (blk_to rfl rfl k) | exact fun _ k => vec_of rfl (vec_to rfl k) | exact fun _ k => mp_to rfl k | exact fun _ k => mp_of rfl k | exact fun _ k => mp_of rfl (mp_to rfl k)) (fun h k => sat_nil k) k) k) (fun _ _ _ _ => trivial) ?_
    rintro v post ⟨rfl, rfl⟩
    refine ⟨.int .i64 (setC L a.id a.at_), _, 0, [.asn (WrA bw 0 (setN L a.id a.at_ no) (setL L a.id a.at_ no))], NmExt.refl _, rfl, (fun h k => sat_pick 0 rfl (by first | exact fun _ k => k | exact fun _ k => blk_to rfl rfl k | exact fun _ k => vec_to rfl k | exact fun _ k => blk_of rfl rfl k | exact fun _ k => vec_of rfl k | exact fun _ k => blk_of rfl rfl (blk_to rfl rfl k) | exact fun _ k => vec_of rfl (vec_to rfl k) | exact fun _ k => mp_to rfl k | exact fun _ k => mp_of rfl k | exact fun _ k => mp_of rfl (mp_to rfl k)) (fun h k => sat_nil k) k), ?_⟩
    refine useP (.int .i64 (setC L a.id a.at_)) (code_spec _) rfl rfl ?_
    refine CondOb.split (fun h => absurd h (by simp)) (fun _ => ?_)
    exact ⟨⟨(i + 1, setN L a.id a.at_ no, setL L a.id a.at_ no), gi, pl_set hp a.id a.at_, hno2⟩, by show acts.length - (i + 1) < acts.length - i; omega, Le.of rfl ⟨⟨_, rfl, rfl⟩, ⟨_, rfl, rfl⟩, ⟨_, rfl, rfl⟩, ⟨_, rfl, rfl⟩, ⟨_, rfl, congrArg (fun z => some (Value.int .i64 z)) ei⟩, trivial⟩ (fun h k => sat_pick 1 rfl (by first | exact fun _ k => k | exact fun _ k => blk_to rfl rfl k | exact fun _ k => vec_to rfl k | exact fun _ k => blk_of rfl rfl k | exact fun _ k => vec_of rfl k | exact fun _ k => blk_of rfl rfl (blk_to rfl rfl k) | exact fun _ k => vec_of rfl (vec_to rfl k) | exact fun _ k => mp_to rfl k | exact fun _ k => mp_of rfl k | exact fun _ k => mp_of rfl (mp_to rfl k)) (fun h k => sat_pick 0 rfl (by first | exact fun _ k => k | exact fun _ k => blk_to rfl rfl k | exact fun _ k => vec_to rfl k | exact fun _ k => blk_of rfl rfl k | exact fun _ k => vec_of rfl k | exact fun _ k => blk_of rfl rfl (blk_to rfl rfl k) | exact fun _ k => vec_of rfl (vec_to rfl k) | exact fun _ k => mp_to rfl k | exact fun _ k => mp_of rfl k | exact fun _ k => mp_of rfl (mp_to rfl k)) (fun h k => sat_nil k) k) k)⟩
  have hLf := hp.few
  refine LoopOb.mk { z : Nat × Int × List T × List T × Plc × Nat // z.1 ≤ steps.length ∧ Stp L z.2.1 z.2.2.1 z.2.2.2.1 ∧ PL z.2.1 no z.2.2.2.1 ∧ z.2.2.1.length ≤ z.2.2.2.2.2 } (fun z => ⟨155, [(1, .raw (.slice C steps.length cq)), (5, .raw (.pointer (some ⟨bv, 0, none⟩))), (7, .raw (.pointer (some ⟨bw, 0, none⟩))), (10, .sl 0 0 z.1.2.2.1.length z.1.2.2.2.2.2), (11, .int .i64 z.1.2.1), (12, .int .i64 z.1.1)], [(0, z.1.2.2.2.2.1)], 1, [.asn (WrA bv z.1.2.1 no z.1.2.2.2.1), .asn (WrA bw 0 no L), .vec 0 3 1 z.1.2.2.2.2.2 (IL.flat (z.1.2.2.1.map T.id))]⟩) (fun z => steps.length - z.1.1)
    ⟨(0, 0, [], L, .nil, 0), Nat.zero_le _, .inl ⟨rfl, rfl, rfl⟩, hp, Nat.le_refl _⟩ ?_ ?_
  · exact Le.of rfl ⟨⟨_, rfl, rfl⟩, ⟨_, rfl, rfl⟩, ⟨_, rfl, rfl⟩, ⟨_, rfl, rfl⟩, ⟨_, rfl, rfl⟩, ⟨_, rfl, rfl⟩, trivial⟩ (fun h k => sat_pick 0 rfl (by first | exact fun _ k => k | exact fun _ k => blk_to rfl rfl k | exact fun _ k => vec_to rfl k | exact fun _ k => blk_of rfl rfl k | exact fun _ k => vec_of rfl k | exact fun _ k => blk_of rfl rfl (blk_to rfl rfl k) | exact fun _ k => vec_of rfl (vec_to rfl k) | exact fun _ k => mp_to rfl k | exact fun _ k => mp_of rfl k | exact fun _ k => mp_of rfl (mp_to rfl k)) (fun h k => sat_pick 0 rfl (by first | exact fun _ k => k | exact fun _ k => blk_to rfl rfl k | exact fun _ k => vec_to rfl k | exact fun _ k => blk_of rfl rfl k | exact fun _ k => vec_of rfl k | exact fun _ k => blk_of rfl rfl (blk_to rfl rfl k) | exact fun _ k => vec_of rfl (vec_to rfl k) | exact fun _ k => mp_to rfl k | exact fun _ k => mp_of rfl k | exact fun _ k => mp_of rfl (mp_to rfl k)) (fun h k => sat_add (vec_of rfl vec_emp) ((fun h k => sat_nil k) h k)) k) k)
  rintro ⟨⟨j, at_, c, M, pl, cap⟩, hj, hst, hpM, hcc⟩
  simp only at hj hst hpM hcc
  obtain ⟨hcf, hMf⟩ := hst.few hLf
  refine CondOb.split (fun gg => ?_) (fun gg => ?_)
  · have gj : j < steps.length := by
      have g := of_decide_eq_true gg
      have : (j : Int) < steps.length := g
      omega
    have hx := List.getElem?_eq_getElem gj
    generalize steps[j] = y at hx
    obtain ⟨bb, o, hC, hcy⟩ := hS.lay (by decide) hx
    have hn2 : 0 ≤ (j : Int) ∧ (j : Int) < steps.length := by omega
    have ej : IntKind.i64.wrap ((j : Int) + 1) = ((j + 1 : Nat) : Int) := by rw [w64 (by omega) (by omega)]; omega
    refine RegOb.go ?_
    refine Need.mk hn2 (RawAt.mk bb o hC ?_)
    refine RdRaw.mk (.int .i64 y) _ rfl (by rw [Int.toNat_natCast]; exact hcy 0 _ rfl) ?_
    refine Br.mk (fun h => ?_) (fun h => ?_)
    · exact ⟨⟨(j + 1, at_, c, M, pl, cap), gj, hst, hpM, hcc⟩, by show steps.length - (j + 1) < steps.length - j; omega, Le.of rfl ⟨⟨_, rfl, rfl⟩, ⟨_, rfl, rfl⟩, ⟨_, rfl, rfl⟩, ⟨_, rfl, rfl⟩, ⟨_, rfl, rfl⟩, ⟨_, rfl, congrArg (fun z => some (Value.int .i64 z)) ej⟩, trivial⟩ (fun h k => sat_pick 0 rfl (by first | exact fun _ k => k | exact fun _ k => blk_to rfl rfl k | exact fun _ k => vec_to rfl k | exact fun _ k => blk_of rfl rfl k | exact fun _ k => vec_of rfl k | exact fun _ k => blk_of rfl rfl (blk_to rfl rfl k) | exact fun _ k => vec_of rfl (vec_to rfl k) | exact fun _ k => mp_to rfl k | exact fun _ k => mp_of rfl k | exact fun _ k => mp_of rfl (mp_to rfl k)) (fun h k => sat_pick 0 rfl (by first | exact fun _ k => k | exact fun _ k => blk_to rfl rfl k | exact fun _ k => vec_to rfl k | exact fun _ k => blk_of rfl rfl k | exact fun _ k => vec_of rfl k | exact fun _ k => blk_of rfl rfl (blk_to rfl rfl k) | exact fun _ k => vec_of rfl (vec_to rfl k) | exact fun _ k => mp_to rfl k | exact fun _ k => mp_of rfl k | exact fun _ k => mp_of rfl (mp_to rfl k)) (fun h k => sat_pick 0 rfl (by first | exact fun _ k => k | exact fun _ k => blk_to rfl rfl k | exact fun _ k => vec_to rfl k | exact fun _ k => blk_of rfl rfl k | exact fun _ k => vec_of rfl k | exact fun _ k => blk_of rfl rfl (blk_to rfl rfl k) | exact fun _ k => vec_of rfl (vec_to rfl k) | exact fun _ k => mp_to rfl k | exact fun _ k => mp_of rfl k | exact fun _ k => mp_of rfl (mp_to rfl k)) (fun h k => sat_nil k) k) k) k)⟩
    have h : ¬ y < at_ := of_decide_eq_false h
    refine Need.mk hn2 (RawAt.mk bb o hC ?_)
    refine RdRaw.mk (.int .i64 y) _ rfl (by rw [Int.toNat_natCast]; exact hcy 0 _ rfl) ?_
    refine CondOb.split (fun h2 => ?_) (fun h2 => ?_)
    · exact ⟨⟨(j + 1, at_, c, M, pl, cap), gj, hst, hpM, hcc⟩, by show steps.length - (j + 1) < steps.length - j; omega, Le.of rfl ⟨⟨_, rfl, rfl⟩, ⟨_, rfl, rfl⟩, ⟨_, rfl, rfl⟩, ⟨_, rfl, rfl⟩, ⟨_, rfl, rfl⟩, ⟨_, rfl, congrArg (fun z => some (Value.int .i64 z)) ej⟩, trivial⟩ (fun h k => sat_pick 0 rfl (by first | exact fun _ k => k | exact fun _ k => blk_to rfl rfl k | exact fun _ k => vec_to rfl k | exact fun _ k => blk_of rfl rfl k | exact fun _ k => vec_of rfl k | exact fun _ k => blk_of rfl rfl (blk_to rfl rfl k) | exact fun _ k => vec_of rfl (vec_to rfl k) | exact fun _ k => mp_to rfl k | exact fun _ k => mp_of rfl k | exact fun _ k => mp_of rfl (mp_to rfl k)) (fun h k => sat_pick 0 rfl (by first | exact fun _ k => k | exact fun _ k => blk_to rfl rfl k | exact fun _ k => vec_to rfl k | exact fun _ k => blk_of rfl rfl k | exact fun _ k => vec_of rfl k | exact fun _ k => blk_of rfl rfl (blk_to rfl rfl k) | exact fun _ k => vec_of rfl (vec_to rfl k) | exact fun _ k => mp_to rfl k | exact fun _ k => mp_of rfl k | exact fun _ k => mp_of rfl (mp_to rfl k)) (fun h k => sat_pick 0 rfl (by first | exact fun _ k => k | exact fun _ k => blk_to rfl rfl k | exact fun _ k => vec_to rfl k | exact fun _ k => blk_of rfl rfl k | exact fun _ k => vec_of rfl k | exact fun _ k => blk_of rfl rfl (blk_to rfl rfl k) | exact fun _ k => vec_of rfl (vec_to rfl k) | exact fun _ k => mp_to rfl k | exact fun _ k => mp_of rfl k | exact fun _ k => mp_of rfl (mp_to rfl k)) (fun h k => sat_nil k) k) k) k)⟩
    have h2 : ¬ y > 1099511627776 := of_decide_eq_false h2
    refine Need.mk hn2 (RawAt.mk bb o hC ?_)
    refine RdRaw.mk (.int .i64 y) _ rfl (by rw [Int.toNat_natCast]; exact hcy 0 _ rfl) ?_
    refine call_ix (wtick_spec bv at_ no M hpM y (by omega) (by show y ≤ 1099511627776; omega)) rfl [0] (fun h k => sat_pick 0 rfl (by first | exact fun _ k => k | exact fun _ k => blk_to rfl rfl k | exact fun _ k => vec_to rfl k | exact fun _ k => blk_of rfl rfl k | exact fun _ k => vec_of rfl k | exact fun _ k => blk_of rfl rfl (blk_to rfl rfl k) | exact fun _ k => vec_of rfl (vec_to rfl k) | exact fun _ k => mp_to rfl k | exact fun _ k => mp_of rfl k | exact fun _ k => mp_of rfl (mp_to rfl k)) (fun h k => sat_pick 0 rfl (by first | exact fun _ k => k | exact fun _ k => blk_to rfl rfl k | exact fun _ k => vec_to rfl k | exact fun _ k => blk_of rfl rfl k | exact fun _ k => vec_of rfl k | exact fun _ k => blk_of rfl rfl (blk_to rfl rfl k) | exact fun _ k => vec_of rfl (vec_to rfl k) | exact fun _ k => mp_to rfl k | exact fun _ k => mp_of rfl k | exact fun _ k => mp_of rfl (mp_to rfl k)) (fun h k => sat_pick 0 rfl (by first | exact fun _ k => k | exact fun _ k => blk_to rfl rfl k | exact fun _ k => vec_to rfl k | exact fun _ k => blk_of rfl rfl k | exact fun _ k => vec_of rfl k | exact fun _ k => blk_of rfl rfl (blk_to rfl rfl k) | exact fun _ k => vec_of rfl (vec_to rfl k) | exact fun _ k => mp_to rfl k | exact fun _ k => mp_of rfl k | exact fun _ k => mp_of rfl (mp_to rfl k)) (fun h k => sat_nil k) k) k) k) (fun _ _ _ _ => trivial) ?_
    rintro v post ⟨pl2, c2, d, rfl, hd, hdc, rfl⟩
    refine ⟨.tuple [.sl 1 0 d.length c2, .int .i64 0], (1, pl2) :: _, 2, [.asn (WrA bv y no (ahead y M)), .vec 1 3 1 c2 (IL.flat (d.map T.id))], NmExt.push rfl, rfl, (fun h k => sat_pick 0 rfl (by first | exact fun _ k => k | exact fun _ k => blk_to rfl rfl k | exact fun _ k => vec_to rfl k | exact fun _ k => blk_of rfl rfl k | exact fun _ k => vec_of rfl k | exact fun _ k => blk_of rfl rfl (blk_to rfl rfl k) | exact fun _ k => vec_of rfl (vec_to rfl k) | exact fun _ k => mp_to rfl k | exact fun _ k => mp_of rfl k | exact fun _ k => mp_of rfl (mp_to rfl k)) (fun h k => sat_pick 0 rfl (fun _ k => vec_of rfl k) (fun h k => sat_nil k) k) k), ?_⟩
    refine useP (.int .i64 0) (code_spec _) rfl rfl ?_
    refine CondOb.split (fun h => absurd h (by decide)) (fun _ => ?_)
    have hst2 := hst.tick (by omega) hd
    have hdf := told_len hd hMf
    have hF1 : (IL.flat (c.map T.id)).length = c.length * 1 := by rw [lI, List.length_map, Nat.mul_one]
    have hF2 : (IL.flat (d.map T.id)).length = d.length * 1 := by rw [lI, List.length_map, Nat.mul_one]
    refine Need.mk (by rw [hF2]; omega) ?_
    refine Need.mk ⟨by dsimp only; rw [hF1]; omega, by dsimp only; omega, hcc⟩ ?_
    refine Need.mk ⟨by dsimp only; omega, by dsimp only; simp only [maxLen]; omega, fun v hv => IL.flat_one' _ v (List.mem_of_mem_drop (List.mem_of_mem_take hv))⟩ ?_
    refine NewSl.any (fun l3 c3 hc3 => ?_)
    dsimp only at hc3
    have eL : (c ++ d).length = c.length + d.length := List.length_append
    refine ⟨⟨(j + 1, y, c ++ d, ahead y M, l3, c3), gj, hst2, pl_tick (x := y) hpM (show at_ ≤ y by omega) (show y ≤ 1099511627776 by omega), by show (c ++ d).length ≤ c3; omega⟩, by show steps.length - (j + 1) < steps.length - j; omega, Le.of rfl ⟨⟨_, rfl, rfl⟩, ⟨_, rfl, rfl⟩, ⟨_, rfl, rfl⟩, ⟨_, rfl, (congrArg (fun q : Nat => some (Value.slice (locAddr 0 l3) q c3)) eL.symm)⟩, ⟨_, rfl, rfl⟩, ⟨_, rfl, congrArg (fun z => some (Value.int .i64 z)) ej⟩, trivial⟩ (fun h k => sat_pick 1 rfl (by first | exact fun _ k => k | exact fun _ k => blk_to rfl rfl k | exact fun _ k => vec_to rfl k | exact fun _ k => blk_of rfl rfl k | exact fun _ k => vec_of rfl k | exact fun _ k => blk_of rfl rfl (blk_to rfl rfl k) | exact fun _ k => vec_of rfl (vec_to rfl k) | exact fun _ k => mp_to rfl k | exact fun _ k => mp_of rfl k | exact fun _ k => mp_of rfl (mp_to rfl k)) (fun h k => sat_pick 2 rfl (by first | exact fun _ k => k | exact fun _ k => blk_to rfl rfl k | exact fun _ k => vec_to rfl k | exact fun _ k => blk_of rfl rfl k | exact fun _ k => vec_of rfl k | exact fun _ k => blk_of rfl rfl (blk_to rfl rfl k) | exact fun _ k => vec_of rfl (vec_to rfl k) | exact fun _ k => mp_to rfl k | exact fun _ k => mp_of rfl k | exact fun _ k => mp_of rfl (mp_to rfl k)) (fun h k => sat_pick 0 rfl (fun _ k9 => vec_of rfl ?_) (fun h k => sat_nil k) k) k) k)⟩
    have kk := vec_to (l := l3) rfl k9
    rw [List.drop_zero, List.drop_zero, List.take_of_length_le (by dsimp only; rw [hF1]; exact Nat.le_refl _), List.take_of_length_le (by rw [hF2]; exact Nat.le_refl _)] at kk
    show Vec l3 3 1 c3 (IL.flat ((c ++ d).map T.id)) _
    rw [List.map_append, IL.flat_append]
    exact kk
  have hn0 := hpM.n0
  have hn1 := hpM.n1
  have hn1' : at_ ≤ 1099511627776 := hn1
  refine call_ix (wtick_spec bw 0 no L hp at_ hn0 hn1) rfl [1] (fun h k => sat_pick 1 rfl (by first | exact fun _ k => k | exact fun _ k => blk_to rfl rfl k | exact fun _ k => vec_to rfl k | exact fun _ k => blk_of rfl rfl k | exact fun _ k => vec_of rfl k | exact fun _ k => blk_of rfl rfl (blk_to rfl rfl k) | exact fun _ k => vec_of rfl (vec_to rfl k) | exact fun _ k => mp_to rfl k | exact fun _ k => mp_of rfl k | exact fun _ k => mp_of rfl (mp_to rfl k)) (fun h k => sat_pick 0 rfl (by first | exact fun _ k => k | exact fun _ k => blk_to rfl rfl k | exact fun _ k => vec_to rfl k | exact fun _ k => blk_of rfl rfl k | exact fun _ k => vec_of rfl k | exact fun _ k => blk_of rfl rfl (blk_to rfl rfl k) | exact fun _ k => vec_of rfl (vec_to rfl k) | exact fun _ k => mp_to rfl k | exact fun _ k => mp_of rfl k | exact fun _ k => mp_of rfl (mp_to rfl k)) (fun h k => sat_pick 0 rfl (by first | exact fun _ k => k | exact fun _ k => blk_to rfl rfl k | exact fun _ k => vec_to rfl k | exact fun _ k => blk_of rfl rfl k | exact fun _ k => vec_of rfl k | exact fun _ k => blk_of rfl rfl (blk_to rfl rfl k) | exact fun _ k => vec_of rfl (vec_to rfl k) | exact fun _ k => mp_to rfl k | exact fun _ k => mp_of rfl k | exact fun _ k => mp_of rfl (mp_to rfl k)) (fun h k => sat_nil k) k) k) k) (fun _ _ _ _ => trivial) ?_
  rintro v post ⟨pl2, c2, d, rfl, hd, hdc, rfl⟩
  refine ⟨.tuple [.sl 1 0 d.length c2, .int .i64 0], (1, pl2) :: _, 2, [.asn (WrA bw at_ no (ahead at_ L)), .vec 1 3 1 c2 (IL.flat (d.map T.id))], NmExt.push rfl, rfl, (fun h k => sat_pick 0 rfl (by first | exact fun _ k => k | exact fun _ k => blk_to rfl rfl k | exact fun _ k => vec_to rfl k | exact fun _ k => blk_of rfl rfl k | exact fun _ k => vec_of rfl k | exact fun _ k => blk_of rfl rfl (blk_to rfl rfl k) | exact fun _ k => vec_of rfl (vec_to rfl k) | exact fun _ k => mp_to rfl k | exact fun _ k => mp_of rfl k | exact fun _ k => mp_of rfl (mp_to rfl k)) (fun h k => sat_pick 0 rfl (fun _ k => vec_of rfl k) (fun h k => sat_nil k) k) k), ?_⟩
  have hdf := told_len hd hLf
  have hsm : ∀ pl c, Does Try.prog 27 #[.slice (locAddr 0 pl) d.length c, .slice (locAddr 0 pl2) d.length c2] (fun f => Reads f (locAddr 0 pl) (IL.flat (d.map T.id)) ∧ Reads f (locAddr 0 pl2) (IL.flat (d.map T.id))) [] (fun v p => v = .bool true ∧ p = []) := fun pl c => by
    have h := same_spec (locAddr 0 pl) (locAddr 0 pl2) c c2 (d.map T.id) (d.map T.id) (by rw [List.length_map]; omega)
    rw [List.length_map] at h
    exact h.mono (by rintro v p ⟨rfl, rfl⟩; simp)
  have hside : (c ≠ [] ∨ at_ ≠ 0) → c = d ∧ M = ahead at_ L := fun h => by
    rcases hst with ⟨h1, h2, _⟩ | ⟨h1, h2⟩
    · rcases h with h | h
      · exact absurd h2 h
      · exact absurd h1 h
    · exact ⟨h1.same hp.ord hd, h2⟩
  refine RegOb.go ?_
  refine Br.mk (fun h1 => ?_) (fun h1 => ?_)
  · refine CondOb.split (fun h2 => ?_) (fun h2 => ?_)
    · have h2 : at_ = 0 := by simpa using h2
      subst h2
      have h1 : c = [] := by
        have : (c.length : Int) = 0 := by simpa using h1
        exact List.length_eq_zero_iff.1 (by omega)
      subst h1
      refine call_ix (wtick_spec bv 0 no M hpM 0 (by decide) (by decide)) rfl [2] (fun h k => sat_pick 2 rfl (by first | exact fun _ k => k | exact fun _ k => blk_to rfl rfl k | exact fun _ k => vec_to rfl k | exact fun _ k => blk_of rfl rfl k | exact fun _ k => vec_of rfl k | exact fun _ k => blk_of rfl rfl (blk_to rfl rfl k) | exact fun _ k => vec_of rfl (vec_to rfl k) | exact fun _ k => mp_to rfl k | exact fun _ k => mp_of rfl k | exact fun _ k => mp_of rfl (mp_to rfl k)) (fun h k => sat_pick 0 rfl (by first | exact fun _ k => k | exact fun _ k => blk_to rfl rfl k | exact fun _ k => vec_to rfl k | exact fun _ k => blk_of rfl rfl k | exact fun _ k => vec_of rfl k | exact fun _ k => blk_of rfl rfl (blk_to rfl rfl k) | exact fun _ k => vec_of rfl (vec_to rfl k) | exact fun _ k => mp_to rfl k | exact fun _ k => mp_of rfl k | exact fun _ k => mp_of rfl (mp_to rfl k)) (fun h k => sat_pick 0 rfl (by first | exact fun _ k => k | exact fun _ k => blk_to rfl rfl k | exact fun _ k => vec_to rfl k | exact fun _ k => blk_of rfl rfl k | exact fun _ k => vec_of rfl k | exact fun _ k => blk_of rfl rfl (blk_to rfl rfl k) | exact fun _ k => vec_of rfl (vec_to rfl k) | exact fun _ k => mp_to rfl k | exact fun _ k => mp_of rfl k | exact fun _ k => mp_of rfl (mp_to rfl k)) (fun h k => sat_pick 0 rfl (by first | exact fun _ k => k | exact fun _ k => blk_to rfl rfl k | exact fun _ k => vec_to rfl k | exact fun _ k => blk_of rfl rfl k | exact fun _ k => vec_of rfl k | exact fun _ k => blk_of rfl rfl (blk_to rfl rfl k) | exact fun _ k => vec_of rfl (vec_to rfl k) | exact fun _ k => mp_to rfl k | exact fun _ k => mp_of rfl k | exact fun _ k => mp_of rfl (mp_to rfl k)) (fun h k => sat_nil k) k) k) k) k) (fun _ _ _ _ => trivial) ?_
      rintro v post ⟨pl3, c3, z, rfl, hz, hzc, rfl⟩
      have hzd : z = d ∧ ahead 0 M = ahead 0 L := by
        rcases hst with ⟨_, _, rfl⟩ | ⟨q1, rfl⟩
        · exact ⟨hz.same hp.ord hd, rfl⟩
        · exact ⟨(told_none hz).trans (q1.same hp.ord hd), ahead_two (Int.le_refl _) L⟩
      obtain ⟨rfl, hah⟩ := hzd
      rw [hah]
      refine ⟨.tuple [.sl 2 0 z.length c3, .int .i64 0], (2, pl3) :: _, 3, [.asn (WrA bv 0 no (ahead 0 L)), .vec 2 3 1 c3 (IL.flat (z.map T.id))], NmExt.push rfl, rfl, (fun h k => sat_pick 0 rfl (by first | exact fun _ k => k | exact fun _ k => blk_to rfl rfl k | exact fun _ k => vec_to rfl k | exact fun _ k => blk_of rfl rfl k | exact fun _ k => vec_of rfl k | exact fun _ k => blk_of rfl rfl (blk_to rfl rfl k) | exact fun _ k => vec_of rfl (vec_to rfl k) | exact fun _ k => mp_to rfl k | exact fun _ k => mp_of rfl k | exact fun _ k => mp_of rfl (mp_to rfl k)) (fun h k => sat_pick 0 rfl (fun _ k => vec_of rfl k) (fun h k => sat_nil k) k) k), ?_⟩
      refine RegOb.go ?_
      refine useP (.int .i64 0) (code_spec _) rfl rfl ?_
      refine Br.mk (fun _ => ?_) (fun h => absurd h (by decide))
      refine useR .tt (hsm pl3 c3) rfl (fun f' b' hs kb => ⟨vec_reads 1 hs kb rfl rfl, vec_reads 3 hs kb rfl rfl⟩) rfl ?_
      refine useA [] [_, _, _, _] (.int .i64 (ahead 0 L).length) (wlen_spec bv 0 no (ahead 0 L)) rfl rfl rfl ?_
      refine useA [_, _] [_, _] (.int .i64 (ahead 0 L).length) (wlen_spec bw 0 no (ahead 0 L)) rfl rfl rfl ?_
      refine Br.mk (fun _ => ?_) (fun h => absurd h (by simp))
      refine useP .tt live_spec rfl rfl ?_
      exact FinOb.mk [.bool true] [] rfl (fun h k => trivial) ⟨rfl, rfl⟩
    · have h2 : ¬ at_ = 0 := by simpa using h2
      obtain ⟨rfl, rfl⟩ := hside (.inr h2)
      refine RegOb.go ?_
      refine useP (.int .i64 0) (code_spec _) rfl rfl ?_
      refine Br.mk (fun _ => ?_) (fun h => absurd h (by decide))
      refine useR .tt (hsm pl cap) rfl (fun f' b' hs kb => ⟨vec_reads 3 hs kb rfl rfl, vec_reads 1 hs kb rfl rfl⟩) rfl ?_
      refine useA [_, _] [_] (.int .i64 (ahead at_ L).length) (wlen_spec bv at_ no (ahead at_ L)) rfl rfl rfl ?_
      refine useA [] [_, _, _] (.int .i64 (ahead at_ L).length) (wlen_spec bw at_ no (ahead at_ L)) rfl rfl rfl ?_
      refine Br.mk (fun _ => ?_) (fun h => absurd h (by simp))
      refine useP .tt live_spec rfl rfl ?_
      exact FinOb.mk [.bool true] [] rfl (fun h k => trivial) ⟨rfl, rfl⟩
  · have h1 : c ≠ [] := fun e => by subst e; simp at h1
    obtain ⟨rfl, rfl⟩ := hside (.inl h1)
    refine RegOb.go ?_
    refine useP (.int .i64 0) (code_spec _) rfl rfl ?_
    refine Br.mk (fun _ => ?_) (fun h => absurd h (by decide))
    refine useR .tt (hsm pl cap) rfl (fun f' b' hs kb => ⟨vec_reads 3 hs kb rfl rfl, vec_reads 1 hs kb rfl rfl⟩) rfl ?_
    refine useA [_, _] [_] (.int .i64 (ahead at_ L).length) (wlen_spec bv at_ no (ahead at_ L)) rfl rfl rfl ?_
    refine useA [] [_, _, _] (.int .i64 (ahead at_ L).length) (wlen_spec bw at_ no (ahead at_ L)) rfl rfl rfl ?_
    refine Br.mk (fun _ => ?_) (fun h => absurd h (by simp))
    refine useP .tt live_spec rfl rfl ?_
    exact FinOb.mk [.bool true] [] rfl (fun h k => trivial) ⟨rfl, rfl⟩
end Go.Proofs.Ytiknkeakielncaa.Wh
