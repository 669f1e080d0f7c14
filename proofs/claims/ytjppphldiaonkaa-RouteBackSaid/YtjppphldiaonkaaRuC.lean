/- route: the law's own functions: code, live, played; nil tables. Conditions: none. -/
import Derived.Test.YtjppphldiaonkaaRuB
namespace Go.Proofs.Ytjppphldiaonkaa.Rt
open Go Go.Proofs Sx
set_option maxRecDepth 100000
set_option linter.unusedVariables false
set_option linter.unusedSimpArgs false
set_option maxHeartbeats 4000000

theorem code_spec (x : Int) : Does Try.prog 14 #[.int .i64 x] (fun _ => True) [] (fun v p => v = .int .i64 x ∧ p = []) := by
  refine Does.ofJ Try.func14 Try.call14 rfl [.int .i64 x] [] 0 [] rfl rfl (fun h k => k) (fun f hR => ?_)
  exact FinOb.mk _ [] rfl (fun h k => trivial) ⟨rfl, rfl⟩
def ra : R := ⟨167772160, 8, 0, 1, 0⟩
def rb : R := ⟨167837696, 16, 0, 2, 0⟩
theorem live_spec : Does Try.prog 10 #[] (fun _ => True) [] (fun v p => v = .bool true ∧ p = []) := by
  refine Does.ofJ Try.func10 Try.call10 rfl [] [] 0 [] rfl rfl (fun h k => k) (fun f hR => ?_)
  refine call_ix new_spec rfl [] (fun h k => k) (fun _ _ _ _ => trivial) ?_
  rintro v post ⟨tb, rfl, rfl⟩
  refine ⟨.raw (.pointer (some ⟨tb, 0, none⟩)), _, 0, [.asn (Bs ((0 : Nat) : Int) [rootNd tb]), .asn (Vs [rootNd tb])], NmExt.refl _, rfl, (fun h k => sat_pick 0 rfl (by first | exact fun _ k => k | exact fun _ k => blk_to rfl rfl k | exact fun _ k => vec_to rfl k | exact fun _ k => blk_of rfl rfl k | exact fun _ k => vec_of rfl k | exact fun _ k => blk_of rfl rfl (blk_to rfl rfl k) | exact fun _ k => vec_of rfl (vec_to rfl k) | exact fun _ k => mp_to rfl k | exact fun _ k => mp_of rfl k | exact fun _ k => mp_of rfl (mp_to rfl k)) (fun h k => sat_pick 0 rfl (by first | exact fun _ k => k | exact fun _ k => blk_to rfl rfl k | exact fun _ k => vec_to rfl k | exact fun _ k => blk_of rfl rfl k | exact fun _ k => vec_of rfl k | exact fun _ k => blk_of rfl rfl (blk_to rfl rfl k) | exact fun _ k => vec_of rfl (vec_to rfl k) | exact fun _ k => mp_to rfl k | exact fun _ k => mp_of rfl k | exact fun _ k => mp_of rfl (mp_to rfl k)) (fun h k => sat_nil k) k) k), ?_⟩
  refine call_ix (add_spec tb 0 [rootNd tb] (tj_new tb) ra ⟨by decide, by decide⟩) rfl [0, 0] (fun h k => sat_pick 0 rfl (by first | exact fun _ k => k | exact fun _ k => blk_to rfl rfl k | exact fun _ k => vec_to rfl k | exact fun _ k => blk_of rfl rfl k | exact fun _ k => vec_of rfl k | exact fun _ k => blk_of rfl rfl (blk_to rfl rfl k) | exact fun _ k => vec_of rfl (vec_to rfl k) | exact fun _ k => mp_to rfl k | exact fun _ k => mp_of rfl k | exact fun _ k => mp_of rfl (mp_to rfl k)) (fun h k => sat_pick 0 rfl (by first | exact fun _ k => k | exact fun _ k => blk_to rfl rfl k | exact fun _ k => vec_to rfl k | exact fun _ k => blk_of rfl rfl k | exact fun _ k => vec_of rfl k | exact fun _ k => blk_of rfl rfl (blk_to rfl rfl k) | exact fun _ k => vec_of rfl (vec_to rfl k) | exact fun _ k => mp_to rfl k | exact fun _ k => mp_of rfl k | exact fun _ k => mp_of rfl (mp_to rfl k)) (fun h k => sat_nil k) k) k) (fun _ _ _ _ => trivial) ?_
  rintro v post ⟨e, T1, n1, rfl, ht1, hj1, rfl⟩
  obtain ⟨rfl, hr1⟩ := rt_add (by decide) (rt_new tb) ht1 (RAdd.new (by decide +kernel) (by simp) (by decide))
  refine ⟨.int .i64 0, _, 0, [.asn (Bs n1 T1), .asn (Vs T1)], NmExt.refl _, rfl, (fun h k => sat_pick 0 rfl (by first | exact fun _ k => k | exact fun _ k => blk_to rfl rfl k | exact fun _ k => vec_to rfl k | exact fun _ k => blk_of rfl rfl k | exact fun _ k => vec_of rfl k | exact fun _ k => blk_of rfl rfl (blk_to rfl rfl k) | exact fun _ k => vec_of rfl (vec_to rfl k) | exact fun _ k => mp_to rfl k | exact fun _ k => mp_of rfl k | exact fun _ k => mp_of rfl (mp_to rfl k)) (fun h k => sat_pick 0 rfl (by first | exact fun _ k => k | exact fun _ k => blk_to rfl rfl k | exact fun _ k => vec_to rfl k | exact fun _ k => blk_of rfl rfl k | exact fun _ k => vec_of rfl k | exact fun _ k => blk_of rfl rfl (blk_to rfl rfl k) | exact fun _ k => vec_of rfl (vec_to rfl k) | exact fun _ k => mp_to rfl k | exact fun _ k => mp_of rfl k | exact fun _ k => mp_of rfl (mp_to rfl k)) (fun h k => sat_nil k) k) k), ?_⟩
  refine call_ix (add_spec tb n1 T1 hj1 rb ⟨by decide, by decide⟩) rfl [0, 0] (fun h k => sat_pick 0 rfl (by first | exact fun _ k => k | exact fun _ k => blk_to rfl rfl k | exact fun _ k => vec_to rfl k | exact fun _ k => blk_of rfl rfl k | exact fun _ k => vec_of rfl k | exact fun _ k => blk_of rfl rfl (blk_to rfl rfl k) | exact fun _ k => vec_of rfl (vec_to rfl k) | exact fun _ k => mp_to rfl k | exact fun _ k => mp_of rfl k | exact fun _ k => mp_of rfl (mp_to rfl k)) (fun h k => sat_pick 0 rfl (by first | exact fun _ k => k | exact fun _ k => blk_to rfl rfl k | exact fun _ k => vec_to rfl k | exact fun _ k => blk_of rfl rfl k | exact fun _ k => vec_of rfl k | exact fun _ k => blk_of rfl rfl (blk_to rfl rfl k) | exact fun _ k => vec_of rfl (vec_to rfl k) | exact fun _ k => mp_to rfl k | exact fun _ k => mp_of rfl k | exact fun _ k => mp_of rfl (mp_to rfl k)) (fun h k => sat_nil k) k) k) (fun _ _ _ _ => trivial) ?_
  rintro v post ⟨e, T2, n2, rfl, ht2, hj2, rfl⟩
  obtain ⟨rfl, hr2⟩ := rt_add hj1.le hr1 ht2 (RAdd.new (by decide +kernel) (by intro y hy; simp at hy; subst hy; decide +kernel) (by decide))
  refine ⟨.int .i64 0, _, 0, [.asn (Bs n2 T2), .asn (Vs T2)], NmExt.refl _, rfl, (fun h k => sat_pick 0 rfl (by first | exact fun _ k => k | exact fun _ k => blk_to rfl rfl k | exact fun _ k => vec_to rfl k | exact fun _ k => blk_of rfl rfl k | exact fun _ k => vec_of rfl k | exact fun _ k => blk_of rfl rfl (blk_to rfl rfl k) | exact fun _ k => vec_of rfl (vec_to rfl k) | exact fun _ k => mp_to rfl k | exact fun _ k => mp_of rfl k | exact fun _ k => mp_of rfl (mp_to rfl k)) (fun h k => sat_pick 0 rfl (by first | exact fun _ k => k | exact fun _ k => blk_to rfl rfl k | exact fun _ k => vec_to rfl k | exact fun _ k => blk_of rfl rfl k | exact fun _ k => vec_of rfl k | exact fun _ k => blk_of rfl rfl (blk_to rfl rfl k) | exact fun _ k => vec_of rfl (vec_to rfl k) | exact fun _ k => mp_to rfl k | exact fun _ k => mp_of rfl k | exact fun _ k => mp_of rfl (mp_to rfl k)) (fun h k => sat_nil k) k) k), ?_⟩
  have e1 : accW T2 167838211 33 = [rb, ra] := (ways_eq hj2.ti hr2 _).trans (by decide +kernel)
  have e2 : accW T2 167903233 33 = [ra] := (ways_eq hj2.ti hr2 _).trans (by decide +kernel)
  have f1 := find_spec tb n2 T2 hj2.ti hj2.few 167838211 (by decide) (by decide)
  have f2 := find_spec tb n2 T2 hj2.ti hj2.few 167903233 (by decide) (by decide)
  rw [e1] at f1
  rw [e2] at f2
  refine call_ix f1 rfl [0, 0] (fun h k => sat_pick 0 rfl (by first | exact fun _ k => k | exact fun _ k => blk_to rfl rfl k | exact fun _ k => vec_to rfl k | exact fun _ k => blk_of rfl rfl k | exact fun _ k => vec_of rfl k | exact fun _ k => blk_of rfl rfl (blk_to rfl rfl k) | exact fun _ k => vec_of rfl (vec_to rfl k) | exact fun _ k => mp_to rfl k | exact fun _ k => mp_of rfl k | exact fun _ k => mp_of rfl (mp_to rfl k)) (fun h k => sat_pick 0 rfl (by first | exact fun _ k => k | exact fun _ k => blk_to rfl rfl k | exact fun _ k => vec_to rfl k | exact fun _ k => blk_of rfl rfl k | exact fun _ k => vec_of rfl k | exact fun _ k => blk_of rfl rfl (blk_to rfl rfl k) | exact fun _ k => vec_of rfl (vec_to rfl k) | exact fun _ k => mp_to rfl k | exact fun _ k => mp_of rfl k | exact fun _ k => mp_of rfl (mp_to rfl k)) (fun h k => sat_nil k) k) k) (fun _ _ _ _ => trivial) ?_
  rintro v post ⟨rfl, rfl⟩
  refine ⟨.tuple [.agg rb.svs, .int .i64 0], _, 0, [.asn (Bs n2 T2), .asn (Vs T2)], NmExt.refl _, rfl, (fun h k => sat_pick 0 rfl (by first | exact fun _ k => k | exact fun _ k => blk_to rfl rfl k | exact fun _ k => vec_to rfl k | exact fun _ k => blk_of rfl rfl k | exact fun _ k => vec_of rfl k | exact fun _ k => blk_of rfl rfl (blk_to rfl rfl k) | exact fun _ k => vec_of rfl (vec_to rfl k) | exact fun _ k => mp_to rfl k | exact fun _ k => mp_of rfl k | exact fun _ k => mp_of rfl (mp_to rfl k)) (fun h k => sat_pick 0 rfl (by first | exact fun _ k => k | exact fun _ k => blk_to rfl rfl k | exact fun _ k => vec_to rfl k | exact fun _ k => blk_of rfl rfl k | exact fun _ k => vec_of rfl k | exact fun _ k => blk_of rfl rfl (blk_to rfl rfl k) | exact fun _ k => vec_of rfl (vec_to rfl k) | exact fun _ k => mp_to rfl k | exact fun _ k => mp_of rfl k | exact fun _ k => mp_of rfl (mp_to rfl k)) (fun h k => sat_nil k) k) k), ?_⟩
  intro b4
  refine call_ix f2 rfl [1, 1] (fun h k => sat_pick 1 rfl (by first | exact fun _ k => k | exact fun _ k => blk_to rfl rfl k | exact fun _ k => vec_to rfl k | exact fun _ k => blk_of rfl rfl k | exact fun _ k => vec_of rfl k | exact fun _ k => blk_of rfl rfl (blk_to rfl rfl k) | exact fun _ k => vec_of rfl (vec_to rfl k) | exact fun _ k => mp_to rfl k | exact fun _ k => mp_of rfl k | exact fun _ k => mp_of rfl (mp_to rfl k)) (fun h k => sat_pick 1 rfl (by first | exact fun _ k => k | exact fun _ k => blk_to rfl rfl k | exact fun _ k => vec_to rfl k | exact fun _ k => blk_of rfl rfl k | exact fun _ k => vec_of rfl k | exact fun _ k => blk_of rfl rfl (blk_to rfl rfl k) | exact fun _ k => vec_of rfl (vec_to rfl k) | exact fun _ k => mp_to rfl k | exact fun _ k => mp_of rfl k | exact fun _ k => mp_of rfl (mp_to rfl k)) (fun h k => sat_pick 0 rfl (by first | exact fun _ k => k | exact fun _ k => blk_to rfl rfl k | exact fun _ k => vec_to rfl k | exact fun _ k => blk_of rfl rfl k | exact fun _ k => vec_of rfl k | exact fun _ k => blk_of rfl rfl (blk_to rfl rfl k) | exact fun _ k => vec_of rfl (vec_to rfl k) | exact fun _ k => mp_to rfl k | exact fun _ k => mp_of rfl k | exact fun _ k => mp_of rfl (mp_to rfl k)) (fun h k => sat_nil k) k) k) k) (fun _ _ _ _ => trivial) ?_
  rintro v post ⟨rfl, rfl⟩
  refine ⟨.tuple [.agg ra.svs, .int .i64 0], _, 1, [], NmExt.refl _, rfl, fun h k => trivial, ?_⟩
  intro b6
  refine RegOb.go ?_
  refine useP (.int .i64 0) (code_spec 0) rfl rfl ?_
  refine useP (.int .i64 0) (code_spec 0) rfl rfl ?_
  refine useP (.int .i64 0) (code_spec 0) rfl rfl ?_
  refine useP (.int .i64 0) (code_spec 0) rfl rfl ?_
  refine Br.mk (fun _ => ?_) (fun h => absurd h (by decide))
  refine Br.mk (fun _ => ?_) (fun h => absurd h (by decide))
  exact FinOb.mk [.bool true] [] rfl (fun h k => trivial) ⟨rfl, rfl⟩
/-! ### Nil tables -/
theorem find_nil (a : Int) : Does Try.prog 12 #[.pointer none, .int .u32 a] (fun _ => True) [] (fun v p => v = .tuple #[.agg (R.mk 0 0 0 0 0).vals.toArray, .int .i64 7] ∧ p = []) := by
  refine Does.ofJ Try.func12 Try.call12 rfl [.raw (.pointer none), .int .u32 a] [] 0 [] rfl rfl (fun h k => k) (fun f hR => ?_)
  intro b4
  exact FinOb.mk [.agg (R.mk 0 0 0 0 0).vals.toArray, .int .i64 7] [] rfl (fun h k => trivial) ⟨rfl, rfl⟩
theorem add_nil (x : R) : Does Try.prog 13 #[.pointer none, .agg x.vals.toArray] (fun _ => True) [] (fun v p => v = .int .i64 7 ∧ p = []) := by
  refine Does.ofJ Try.func13 Try.call13 rfl [.raw (.pointer none), .agg x.svs] [] 0 [] rfl rfl (fun h k => k) (fun f hR => ?_)
  intro b3
  exact FinOb.mk [.int .i64 7] [] rfl (fun h k => trivial) ⟨rfl, rfl⟩
theorem remove_nil (a b c : Int) : Does Try.prog 20 #[.pointer none, .int .u32 a, .int .i64 b, .int .i64 c] (fun _ => True) [] (fun v p => v = .int .i64 7 ∧ p = []) := by
  refine Does.ofJ Try.func20 Try.call20 rfl [.raw (.pointer none), .int .u32 a, .int .i64 b, .int .i64 c] [] 0 [] rfl rfl (fun h k => k) (fun f hR => ?_)
  exact FinOb.mk [.int .i64 7] [] rfl (fun h k => trivial) ⟨rfl, rfl⟩
theorem len_nil : Does Try.prog 21 #[.pointer none] (fun _ => True) [] (fun v p => v = .int .i64 0 ∧ p = []) := by
  refine Does.ofJ Try.func21 Try.call21 rfl [.raw (.pointer none)] [] 0 [] rfl rfl (fun h k => k) (fun f hR => ?_)
  exact FinOb.mk [.int .i64 0] [] rfl (fun h k => trivial) ⟨rfl, rfl⟩
theorem all_nil : Does Try.prog 17 #[.pointer none] (fun _ => True) [] (fun v p => v = .slice none 0 0 ∧ p = []) := by
  refine Does.ofJ Try.func17 Try.call17 rfl [.raw (.pointer none)] [] 0 [] rfl rfl (fun h k => k) (fun f hR => ?_)
  exact FinOb.mk [.slice none 0 0] [] rfl (fun h k => trivial) ⟨rfl, rfl⟩
theorem ways_nil (a : Int) : Does Try.prog 19 #[.pointer none, .int .u32 a] (fun _ => True) [] (fun v p => v = .slice none 0 0 ∧ p = []) := by
  refine Does.ofJ Try.func19 Try.call19 rfl [.raw (.pointer none), .int .u32 a] [] 0 [] rfl rfl (fun h k => k) (fun f hR => ?_)
  exact FinOb.mk [.slice none 0 0] [] rfl (fun h k => trivial) ⟨rfl, rfl⟩
theorem nils_spec (x : R) (a : Int) : Does Try.prog 6 #[.agg x.vals.toArray, .int .u32 a] (fun _ => True) [] (fun v p => v = .bool true ∧ p = []) := by
  refine Does.ofJ Try.func6 Try.call6 rfl [.agg x.svs, .int .u32 a] [] 0 [] rfl rfl (fun h k => k) (fun f hR => ?_)
  intro b2
  refine useP (.tuple [.agg (R.mk 0 0 0 0 0).svs, .int .i64 7]) (find_nil a) rfl rfl ?_
  intro b6
  refine RegOb.go ?_
  refine BinOb.eqs 3 (by kernel_rfl) ?_ rfl rfl
  refine Br.mk (fun _ => ?_) (fun h => absurd h (by decide))
  refine useP (.int .i64 7) (code_spec 7) rfl rfl ?_
  refine Br.mk (fun _ => ?_) (fun h => absurd h (by decide))
  refine useP (.int .i64 7) (add_nil x) rfl rfl ?_
  refine useP (.int .i64 7) (code_spec 7) rfl rfl ?_
  refine Br.mk (fun _ => ?_) (fun h => absurd h (by decide))
  refine useP (.int .i64 7) (remove_nil x.net x.bits x.cost) rfl rfl ?_
  refine useP (.int .i64 7) (code_spec 7) rfl rfl ?_
  refine Br.mk (fun _ => ?_) (fun h => absurd h (by decide))
  refine useP (.int .i64 0) len_nil rfl rfl ?_
  refine useP (.raw (.slice none 0 0)) all_nil rfl rfl ?_
  refine useP (.raw (.slice none 0 0)) (ways_nil a) rfl rfl ?_
  refine Br.mk (fun _ => ?_) (fun h => absurd h (by decide))
  refine useP .tt live_spec rfl rfl ?_
  exact FinOb.mk [.bool true] [] rfl (fun h k => trivial) ⟨rfl, rfl⟩
/-! ### Calls played -/
structure A where
  gone : Bool
  r : R
def A.vals (a : A) : List Value := .bool a.gone :: a.r.vals
def AL : Lay A where
  cells := A.vals
  sz := 6
  len _ := rfl
  one e v hv := by
    rcases List.mem_cons.1 hv with rfl | hv
    · rfl
    · exact RL.one e.r v hv
theorem played_spec (B : Option Addr) (cp : Nat) (acts : List A) (hok : ∀ a ∈ acts, a.r.Ok) (hlen : acts.length ≤ 1000) :
    Does Try.prog 11 #[.slice B acts.length cp] (fun f => Reads f B (AL.flat acts)) []
      (fun v p => ∃ (tb n : Nat) (T : List Nd) (l : List R) (pl : Plc) (c : Nat), v = .tuple #[.pointer (some ⟨tb, 0, none⟩), .slice (locAddr 0 pl) l.length c, .bool true] ∧ TJ tb n T ∧ RT T l n ∧ l.length ≤ c ∧ p = [Bs n T, Vs T, Vec pl 26 5 c (RL.flat l)]) := by
  refine Does.ofJ Try.func11 Try.call11 rfl [.raw (.slice B acts.length cp)] [] 0 [] rfl rfl (fun h k => k) (fun f hR => ?_)
  refine call_ix new_spec rfl [] (fun h k => k) (fun _ _ _ _ => trivial) ?_
  rintro v post ⟨tb, rfl, rfl⟩
  refine ⟨.raw (.pointer (some ⟨tb, 0, none⟩)), _, 0, [.asn (Bs ((0 : Nat) : Int) [rootNd tb]), .asn (Vs [rootNd tb])], NmExt.refl _, rfl, (fun h k => sat_pick 0 rfl (by first | exact fun _ k => k | exact fun _ k => blk_to rfl rfl k | exact fun _ k => vec_to rfl k | exact fun _ k => blk_of rfl rfl k | exact fun _ k => vec_of rfl k | exact fun _ k => blk_of rfl rfl (blk_to rfl rfl k) | exact fun _ k => vec_of rfl (vec_to rfl k) | exact fun _ k => mp_to rfl k | exact fun _ k => mp_of rfl k | exact fun _ k => mp_of rfl (mp_to rfl k)) (fun h k => sat_pick 0 rfl (by first | exact fun _ k => k | exact fun _ k => blk_to rfl rfl k | exact fun _ k => vec_to rfl k | exact fun _ k => blk_of rfl rfl k | exact fun _ k => vec_of rfl k | exact fun _ k => blk_of rfl rfl (blk_to rfl rfl k) | exact fun _ k => vec_of rfl (vec_to rfl k) | exact fun _ k => mp_to rfl k | exact fun _ k => mp_of rfl k | exact fun _ k => mp_of rfl (mp_to rfl k)) (fun h k => sat_nil k) k) k), ?_⟩
  refine LoopOb.mk { z : Nat × List Nd × Nat × List R × Plc × Nat // z.1 ≤ acts.length ∧ TJ tb z.2.2.1 z.2.1 ∧ RT z.2.1 z.2.2.2.1 z.2.2.1 ∧ z.2.2.2.1.length ≤ z.2.2.2.2.2 }
    (fun z => ⟨72, [(0, .raw (.slice B acts.length cp)), (5, .raw (.pointer (some ⟨tb, 0, none⟩))), (6, .sl 0 0 z.1.2.2.2.1.length z.1.2.2.2.2.2), (7, .int .i64 z.1.1)], [(0, z.1.2.2.2.2.1)], 1, [.asn (Bs z.1.2.2.1 z.1.2.1), .asn (Vs z.1.2.1), .vec 0 26 5 z.1.2.2.2.2.2 (RL.flat z.1.2.2.2.1)]⟩) (fun z => acts.length - z.1.1)
    ⟨(0, [rootNd tb], 0, [], .nil, 0), Nat.zero_le _, tj_new tb, rt_new tb, Nat.le_refl _⟩ ?_ ?_
  · exact Le.of rfl ⟨⟨_, rfl, rfl⟩, ⟨_, rfl, rfl⟩, ⟨_, rfl, rfl⟩, ⟨_, rfl, rfl⟩, trivial⟩ (fun h k => sat_pick 0 rfl (by first | exact fun _ k => k | exact fun _ k => blk_to rfl rfl k | exact fun _ k => vec_to rfl k | exact fun _ k => blk_of rfl rfl k | exact fun _ k => vec_of rfl k | exact fun _ k => blk_of rfl rfl (blk_to rfl rfl k) | exact fun _ k => vec_of rfl (vec_to rfl k) | exact fun _ k => mp_to rfl k | exact fun _ k => mp_of rfl k | exact fun _ k => mp_of rfl (mp_to rfl k)) (fun h k => sat_pick 0 rfl (by first | exact fun _ k => k | exact fun _ k => blk_to rfl rfl k | exact fun _ k => vec_to rfl k | exact fun _ k => blk_of rfl rfl k | exact fun _ k => vec_of rfl k | exact fun _ k => blk_of rfl rfl (blk_to rfl rfl k) | exact fun _ k => vec_of rfl (vec_to rfl k) | exact fun _ k => mp_to rfl k | exact fun _ k => mp_of rfl k | exact fun _ k => mp_of rfl (mp_to rfl k)) (fun h k => sat_add (vec_of rfl vec_emp) ((fun h k => sat_nil k) h k)) k) k)
  rintro ⟨⟨i, T, n, l, pl, c⟩, hi, hj, hr, hlc⟩
  simp only at hi hj hr hlc
  have hl64 : l.length ≤ 64 := by have := hr.len; have := hj.le; omega
  refine CondOb.split (fun g => ?_) (fun g => ?_)
  rotate_left
  · exact FinOb.mk [.pointer (some ⟨tb, 0, none⟩), .slice (locAddr 0 pl) l.length c, .bool true] [Bs n T, Vs T, Vec pl 26 5 c (RL.flat l)] rfl (fun h k => sat_pick 0 rfl (by first | exact fun _ k => k | exact fun _ k => blk_to rfl rfl k | exact fun _ k => vec_to rfl k | exact fun _ k => blk_of rfl rfl k | exact fun _ k => vec_of rfl k | exact fun _ k => blk_of rfl rfl (blk_to rfl rfl k) | exact fun _ k => vec_of rfl (vec_to rfl k) | exact fun _ k => mp_to rfl k | exact fun _ k => mp_of rfl k | exact fun _ k => mp_of rfl (mp_to rfl k)) (fun h k => sat_pick 0 rfl (by first | exact fun _ k => k | exact fun _ k => blk_to rfl rfl k | exact fun _ k => vec_to rfl k | exact fun _ k => blk_of rfl rfl k | exact fun _ k => vec_of rfl k | exact fun _ k => blk_of rfl rfl (blk_to rfl rfl k) | exact fun _ k => vec_of rfl (vec_to rfl k) | exact fun _ k => mp_to rfl k | exact fun _ k => mp_of rfl k | exact fun _ k => mp_of rfl (mp_to rfl k)) (fun h k => sat_pick 0 rfl (fun _ k => vec_to rfl k) (fun h k => sat_nil k) k) k) k) ⟨tb, n, T, l, pl, c, rfl, hj, hr, hlc, rfl⟩
  have gi : i < acts.length := by
    have g := of_decide_eq_true g
    have : (i : Int) < acts.length := g
    omega
  have hx := List.getElem?_eq_getElem gi
  generalize acts[i] = a at hx
  have hao := hok a (List.mem_of_getElem? hx)
  obtain ⟨b, o, hA, hca⟩ := hR.lay (by decide) hx
  have hn2 : 0 ≤ (i : Int) ∧ (i : Int) < acts.length := by omega
  have ei : IntKind.i64.wrap ((i : Int) + 1) = ((i + 1 : Nat) : Int) := by rw [w64 (by omega) (by omega)]; omega
  refine Need.mk hn2 (RawAt.mk b o hA ?_)
  refine RdF.mk a.r.svs a.r.vals rfl rfl (fun q v hq => by rw [Int.toNat_natCast, Nat.add_assoc]; exact hca (1 + q) v (by rw [Nat.add_comm]; exact hq)) ?_
  intro b8
  refine Need.mk hn2 (RawAt.mk b o hA ?_)
  refine RdRaw.mk (.bool a.gone) _ rfl (by rw [Int.toNat_natCast]; exact hca 0 _ rfl) ?_
  refine CondOb.split (fun gg => ?_) (fun gg => ?_)
  · refine call_ix (remove_spec tb n T hj a.r.net a.r.bits a.r.cost hao.n0 hao.n1) rfl [1, 1] (fun h k => sat_pick 1 rfl (by first | exact fun _ k => k | exact fun _ k => blk_to rfl rfl k | exact fun _ k => vec_to rfl k | exact fun _ k => blk_of rfl rfl k | exact fun _ k => vec_of rfl k | exact fun _ k => blk_of rfl rfl (blk_to rfl rfl k) | exact fun _ k => vec_of rfl (vec_to rfl k) | exact fun _ k => mp_to rfl k | exact fun _ k => mp_of rfl k | exact fun _ k => mp_of rfl (mp_to rfl k)) (fun h k => sat_pick 1 rfl (by first | exact fun _ k => k | exact fun _ k => blk_to rfl rfl k | exact fun _ k => vec_to rfl k | exact fun _ k => blk_of rfl rfl k | exact fun _ k => vec_of rfl k | exact fun _ k => blk_of rfl rfl (blk_to rfl rfl k) | exact fun _ k => vec_of rfl (vec_to rfl k) | exact fun _ k => mp_to rfl k | exact fun _ k => mp_of rfl k | exact fun _ k => mp_of rfl (mp_to rfl k)) (fun h k => sat_pick 0 rfl (by first | exact fun _ k => k | exact fun _ k => blk_to rfl rfl k | exact fun _ k => vec_to rfl k | exact fun _ k => blk_of rfl rfl k | exact fun _ k => vec_of rfl k | exact fun _ k => blk_of rfl rfl (blk_to rfl rfl k) | exact fun _ k => vec_of rfl (vec_to rfl k) | exact fun _ k => mp_to rfl k | exact fun _ k => mp_of rfl k | exact fun _ k => mp_of rfl (mp_to rfl k)) (fun h k => sat_pick 0 rfl (by first | exact fun _ k => k | exact fun _ k => blk_to rfl rfl k | exact fun _ k => vec_to rfl k | exact fun _ k => blk_of rfl rfl k | exact fun _ k => vec_of rfl k | exact fun _ k => blk_of rfl rfl (blk_to rfl rfl k) | exact fun _ k => vec_of rfl (vec_to rfl k) | exact fun _ k => mp_to rfl k | exact fun _ k => mp_of rfl k | exact fun _ k => mp_of rfl (mp_to rfl k)) (fun h k => sat_nil k) k) k) k) k) (fun _ _ _ _ => trivial) ?_
    rintro v post ⟨e, T', n', rfl, ht, hj', rfl⟩
    obtain ⟨hd1, hd2⟩ := rt_del hr ht
    refine ⟨.int .i64 e, _, 2, [.asn (Bs n' T'), .asn (Vs T')], NmExt.refl _, rfl, (fun h k => sat_pick 0 rfl (by first | exact fun _ k => k | exact fun _ k => blk_to rfl rfl k | exact fun _ k => vec_to rfl k | exact fun _ k => blk_of rfl rfl k | exact fun _ k => vec_of rfl k | exact fun _ k => blk_of rfl rfl (blk_to rfl rfl k) | exact fun _ k => vec_of rfl (vec_to rfl k) | exact fun _ k => mp_to rfl k | exact fun _ k => mp_of rfl k | exact fun _ k => mp_of rfl (mp_to rfl k)) (fun h k => sat_pick 0 rfl (by first | exact fun _ k => k | exact fun _ k => blk_to rfl rfl k | exact fun _ k => vec_to rfl k | exact fun _ k => blk_of rfl rfl k | exact fun _ k => vec_of rfl k | exact fun _ k => blk_of rfl rfl (blk_to rfl rfl k) | exact fun _ k => vec_of rfl (vec_to rfl k) | exact fun _ k => mp_to rfl k | exact fun _ k => mp_of rfl k | exact fun _ k => mp_of rfl (mp_to rfl k)) (fun h k => sat_nil k) k) k), ?_⟩
    refine useP (.int .i64 e) (code_spec e) rfl rfl ?_
    refine call_ix (rremove_spec (locAddr 0 pl) c l a.r.net a.r.bits a.r.cost hlc (by omega)) rfl [] (fun h k => k) (fun f' b' hs kb => vec_reads 3 hs kb rfl rfl) ?_
    rintro v post (⟨rfl, rfl, hno⟩ | ⟨j, y, pl2, c2, hy, hh, rfl, hc2, rfl⟩)
    · obtain ⟨rfl, rfl, rfl⟩ := hd1 hno
      have hj' := hj
      have hr' := hr
      refine ⟨.tuple [.sl 0 0 l.length c, .int .i64 6], _, 2, [], NmExt.refl _, rfl, fun h k => trivial, ?_⟩
      refine RegOb.go ?_
      refine Br.mk (fun h => absurd h (by simp)) (fun _ => ?_)
      refine useA [] [_, _, _] (.int .i64 n') (len_spec tb n' T' hj'.ti) rfl rfl rfl ?_
      refine CondOb.split (fun h => ?_) (fun _ => ?_)
      · have h : ((n' : Int) != (l.length : Nat)) = true := h
        rw [show (l.length : Nat) = n' from hr'.len] at h
        simp at h
      exact ⟨⟨(i + 1, T', n', l, pl, c), gi, hj', hr', hlc⟩, by show acts.length - (i + 1) < acts.length - i; omega, Le.of rfl ⟨⟨_, rfl, rfl⟩, ⟨_, rfl, rfl⟩, ⟨_, rfl, rfl⟩, ⟨_, rfl, congrArg (fun z => some (Value.int .i64 z)) ei⟩, trivial⟩ (fun h k => sat_pick 0 rfl (by first | exact fun _ k => k | exact fun _ k => blk_to rfl rfl k | exact fun _ k => vec_to rfl k | exact fun _ k => blk_of rfl rfl k | exact fun _ k => vec_of rfl k | exact fun _ k => blk_of rfl rfl (blk_to rfl rfl k) | exact fun _ k => vec_of rfl (vec_to rfl k) | exact fun _ k => mp_to rfl k | exact fun _ k => mp_of rfl k | exact fun _ k => mp_of rfl (mp_to rfl k)) (fun h k => sat_pick 0 rfl (by first | exact fun _ k => k | exact fun _ k => blk_to rfl rfl k | exact fun _ k => vec_to rfl k | exact fun _ k => blk_of rfl rfl k | exact fun _ k => vec_of rfl k | exact fun _ k => blk_of rfl rfl (blk_to rfl rfl k) | exact fun _ k => vec_of rfl (vec_to rfl k) | exact fun _ k => mp_to rfl k | exact fun _ k => mp_of rfl k | exact fun _ k => mp_of rfl (mp_to rfl k)) (fun h k => sat_pick 1 rfl (by first | exact fun _ k => k | exact fun _ k => blk_to rfl rfl k | exact fun _ k => vec_to rfl k | exact fun _ k => blk_of rfl rfl k | exact fun _ k => vec_of rfl k | exact fun _ k => blk_of rfl rfl (blk_to rfl rfl k) | exact fun _ k => vec_of rfl (vec_to rfl k) | exact fun _ k => mp_to rfl k | exact fun _ k => mp_of rfl k | exact fun _ k => mp_of rfl (mp_to rfl k)) (fun h k => sat_nil k) k) k) k)⟩
    · obtain ⟨rfl, hr'⟩ := hd2 j y hy hh
      have hjl := (List.getElem?_eq_some_iff.1 hy).1
      have hll : (l.eraseIdx j).length = l.length - 1 := by rw [List.length_eraseIdx, if_pos hjl]
      refine ⟨.tuple [.sl 2 0 (l.length - 1) c2, .int .i64 0], (2, pl2) :: _, 3, [.vec 2 26 5 c2 (RL.flat (l.eraseIdx j))], NmExt.push rfl, rfl, (fun h k => sat_pick 0 rfl (fun _ k => vec_of rfl k) (fun h k => sat_nil k) k), ?_⟩
      refine RegOb.go ?_
      refine Br.mk (fun h => absurd h (by simp)) (fun _ => ?_)
      refine useA [_] [_, _, _] (.int .i64 n') (len_spec tb n' T' hj'.ti) rfl rfl rfl ?_
      refine CondOb.split (fun h => ?_) (fun _ => ?_)
      · have h : ((n' : Int) != (l.length - 1 : Nat)) = true := h
        rw [show (l.length - 1 : Nat) = n' from (by rw [← hll]; exact hr'.len)] at h
        simp at h
      refine ⟨⟨(i + 1, T', n', l.eraseIdx j, pl2, c2), gi, hj', hr', by show (l.eraseIdx j).length ≤ c2; omega⟩, by show acts.length - (i + 1) < acts.length - i; omega, Le.of rfl ⟨⟨_, rfl, rfl⟩, ⟨_, rfl, rfl⟩, ⟨_, rfl, (congrArg (fun q : Nat => some (Value.slice (locAddr 0 pl2) q c2)) hll.symm)⟩, ⟨_, rfl, congrArg (fun z => some (Value.int .i64 z)) ei⟩, trivial⟩ (fun h k => sat_pick 1 rfl (by first | exact fun _ k => k | exact fun _ k => blk_to rfl rfl k | exact fun _ k => vec_to rfl k | exact fun _ k => blk_of rfl rfl k | exact fun _ k => vec_of rfl k | exact fun _ k => blk_of rfl rfl (blk_to rfl rfl k) | exact fun _ k => vec_of rfl (vec_to rfl k) | exact fun _ k => mp_to rfl k | exact fun _ k => mp_of rfl k | exact fun _ k => mp_of rfl (mp_to rfl k)) (fun h k => sat_pick 1 rfl (by first | exact fun _ k => k | exact fun _ k => blk_to rfl rfl k | exact fun _ k => vec_to rfl k | exact fun _ k => blk_of rfl rfl k | exact fun _ k => vec_of rfl k | exact fun _ k => blk_of rfl rfl (blk_to rfl rfl k) | exact fun _ k => vec_of rfl (vec_to rfl k) | exact fun _ k => mp_to rfl k | exact fun _ k => mp_of rfl k | exact fun _ k => mp_of rfl (mp_to rfl k)) (fun h k => sat_pick 0 rfl (fun _ k => vec_of rfl (vec_to rfl k)) (fun h k => sat_nil k) k) k) k)⟩
  · refine call_ix (add_spec tb n T hj a.r hao) rfl [1, 1] (fun h k => sat_pick 1 rfl (by first | exact fun _ k => k | exact fun _ k => blk_to rfl rfl k | exact fun _ k => vec_to rfl k | exact fun _ k => blk_of rfl rfl k | exact fun _ k => vec_of rfl k | exact fun _ k => blk_of rfl rfl (blk_to rfl rfl k) | exact fun _ k => vec_of rfl (vec_to rfl k) | exact fun _ k => mp_to rfl k | exact fun _ k => mp_of rfl k | exact fun _ k => mp_of rfl (mp_to rfl k)) (fun h k => sat_pick 1 rfl (by first | exact fun _ k => k | exact fun _ k => blk_to rfl rfl k | exact fun _ k => vec_to rfl k | exact fun _ k => blk_of rfl rfl k | exact fun _ k => vec_of rfl k | exact fun _ k => blk_of rfl rfl (blk_to rfl rfl k) | exact fun _ k => vec_of rfl (vec_to rfl k) | exact fun _ k => mp_to rfl k | exact fun _ k => mp_of rfl k | exact fun _ k => mp_of rfl (mp_to rfl k)) (fun h k => sat_pick 0 rfl (by first | exact fun _ k => k | exact fun _ k => blk_to rfl rfl k | exact fun _ k => vec_to rfl k | exact fun _ k => blk_of rfl rfl k | exact fun _ k => vec_of rfl k | exact fun _ k => blk_of rfl rfl (blk_to rfl rfl k) | exact fun _ k => vec_of rfl (vec_to rfl k) | exact fun _ k => mp_to rfl k | exact fun _ k => mp_of rfl k | exact fun _ k => mp_of rfl (mp_to rfl k)) (fun h k => sat_pick 0 rfl (by first | exact fun _ k => k | exact fun _ k => blk_to rfl rfl k | exact fun _ k => vec_to rfl k | exact fun _ k => blk_of rfl rfl k | exact fun _ k => vec_of rfl k | exact fun _ k => blk_of rfl rfl (blk_to rfl rfl k) | exact fun _ k => vec_of rfl (vec_to rfl k) | exact fun _ k => mp_to rfl k | exact fun _ k => mp_of rfl k | exact fun _ k => mp_of rfl (mp_to rfl k)) (fun h k => sat_nil k) k) k) k) k) (fun _ _ _ _ => trivial) ?_
    rintro v post ⟨e, T', n', rfl, ht, hj', rfl⟩
    refine ⟨.int .i64 e, _, 2, [.asn (Bs n' T'), .asn (Vs T')], NmExt.refl _, rfl, (fun h k => sat_pick 0 rfl (by first | exact fun _ k => k | exact fun _ k => blk_to rfl rfl k | exact fun _ k => vec_to rfl k | exact fun _ k => blk_of rfl rfl k | exact fun _ k => vec_of rfl k | exact fun _ k => blk_of rfl rfl (blk_to rfl rfl k) | exact fun _ k => vec_of rfl (vec_to rfl k) | exact fun _ k => mp_to rfl k | exact fun _ k => mp_of rfl k | exact fun _ k => mp_of rfl (mp_to rfl k)) (fun h k => sat_pick 0 rfl (by first | exact fun _ k => k | exact fun _ k => blk_to rfl rfl k | exact fun _ k => vec_to rfl k | exact fun _ k => blk_of rfl rfl k | exact fun _ k => vec_of rfl k | exact fun _ k => blk_of rfl rfl (blk_to rfl rfl k) | exact fun _ k => vec_of rfl (vec_to rfl k) | exact fun _ k => mp_to rfl k | exact fun _ k => mp_of rfl k | exact fun _ k => mp_of rfl (mp_to rfl k)) (fun h k => sat_nil k) k) k), ?_⟩
    refine useP (.int .i64 e) (code_spec e) rfl rfl ?_
    refine call_ix (radd_spec (locAddr 0 pl) c l a.r hao hlc (by omega)) rfl [] (fun h k => k) (fun f' b' hs kb => vec_reads 3 hs kb rfl rfl) ?_
    rintro v post ⟨code, l', hra, hh⟩
    obtain ⟨rfl, hr'⟩ := rt_add hj.le hr ht hra
    rcases hh with ⟨rfl, rfl, rfl⟩ | ⟨pl2, c2, rfl, hc2, rfl⟩
    · refine ⟨.tuple [.sl 0 0 l'.length c, .int .i64 e], _, 2, [], NmExt.refl _, rfl, fun h k => trivial, ?_⟩
      refine RegOb.go ?_
      refine Br.mk (fun h => absurd h (by simp)) (fun _ => ?_)
      refine useA [] [_, _, _] (.int .i64 n') (len_spec tb n' T' hj'.ti) rfl rfl rfl ?_
      refine CondOb.split (fun h => ?_) (fun _ => ?_)
      · have h : ((n' : Int) != (l'.length : Nat)) = true := h
        rw [show (l'.length : Nat) = n' from hr'.len] at h
        simp at h
      exact ⟨⟨(i + 1, T', n', l', pl, c), gi, hj', hr', hlc⟩, by show acts.length - (i + 1) < acts.length - i; omega, Le.of rfl ⟨⟨_, rfl, rfl⟩, ⟨_, rfl, rfl⟩, ⟨_, rfl, rfl⟩, ⟨_, rfl, congrArg (fun z => some (Value.int .i64 z)) ei⟩, trivial⟩ (fun h k => sat_pick 0 rfl (by first | exact fun _ k => k | exact fun _ k => blk_to rfl rfl k | exact fun _ k => vec_to rfl k | exact fun _ k => blk_of rfl rfl k | exact fun _ k => vec_of rfl k | exact fun _ k => blk_of rfl rfl (blk_to rfl rfl k) | exact fun _ k => vec_of rfl (vec_to rfl k) | exact fun _ k => mp_to rfl k | exact fun _ k => mp_of rfl k | exact fun _ k => mp_of rfl (mp_to rfl k)) (fun h k => sat_pick 0 rfl (by first | exact fun _ k => k | exact fun _ k => blk_to rfl rfl k | exact fun _ k => vec_to rfl k | exact fun _ k => blk_of rfl rfl k | exact fun _ k => vec_of rfl k | exact fun _ k => blk_of rfl rfl (blk_to rfl rfl k) | exact fun _ k => vec_of rfl (vec_to rfl k) | exact fun _ k => mp_to rfl k | exact fun _ k => mp_of rfl k | exact fun _ k => mp_of rfl (mp_to rfl k)) (fun h k => sat_pick 1 rfl (by first | exact fun _ k => k | exact fun _ k => blk_to rfl rfl k | exact fun _ k => vec_to rfl k | exact fun _ k => blk_of rfl rfl k | exact fun _ k => vec_of rfl k | exact fun _ k => blk_of rfl rfl (blk_to rfl rfl k) | exact fun _ k => vec_of rfl (vec_to rfl k) | exact fun _ k => mp_to rfl k | exact fun _ k => mp_of rfl k | exact fun _ k => mp_of rfl (mp_to rfl k)) (fun h k => sat_nil k) k) k) k)⟩
    · refine ⟨.tuple [.sl 2 0 l'.length c2, .int .i64 e], (2, pl2) :: _, 3, [.vec 2 26 5 c2 (RL.flat l')], NmExt.push rfl, rfl, (fun h k => sat_pick 0 rfl (fun _ k => vec_of rfl k) (fun h k => sat_nil k) k), ?_⟩
      refine RegOb.go ?_
      refine Br.mk (fun h => absurd h (by simp)) (fun _ => ?_)
      refine useA [_] [_, _, _] (.int .i64 n') (len_spec tb n' T' hj'.ti) rfl rfl rfl ?_
      refine CondOb.split (fun h => ?_) (fun _ => ?_)
      · have h : ((n' : Int) != (l'.length : Nat)) = true := h
        rw [show (l'.length : Nat) = n' from hr'.len] at h
        simp at h
      exact ⟨⟨(i + 1, T', n', l', pl2, c2), gi, hj', hr', hc2⟩, by show acts.length - (i + 1) < acts.length - i; omega, Le.of rfl ⟨⟨_, rfl, rfl⟩, ⟨_, rfl, rfl⟩, ⟨_, rfl, rfl⟩, ⟨_, rfl, congrArg (fun z => some (Value.int .i64 z)) ei⟩, trivial⟩ (fun h k => sat_pick 1 rfl (by first | exact fun _ k => k | exact fun _ k => blk_to rfl rfl k | exact fun _ k => vec_to rfl k | exact fun _ k => blk_of rfl rfl k | exact fun _ k => vec_of rfl k | exact fun _ k => blk_of rfl rfl (blk_to rfl rfl k) | exact fun _ k => vec_of rfl (vec_to rfl k) | exact fun _ k => mp_to rfl k | exact fun _ k => mp_of rfl k | exact fun _ k => mp_of rfl (mp_to rfl k)) (fun h k => sat_pick 1 rfl (by first | exact fun _ k => k | exact fun _ k => blk_to rfl rfl k | exact fun _ k => vec_to rfl k | exact fun _ k => blk_of rfl rfl k | exact fun _ k => vec_of rfl k | exact fun _ k => blk_of rfl rfl (blk_to rfl rfl k) | exact fun _ k => vec_of rfl (vec_to rfl k) | exact fun _ k => mp_to rfl k | exact fun _ k => mp_of rfl k | exact fun _ k => mp_of rfl (mp_to rfl k)) (fun h k => sat_pick 0 rfl (fun _ k => vec_of rfl (vec_to rfl k)) (fun h k => sat_nil k) k) k) k)⟩
end Go.Proofs.Ytjppphldiaonkaa.Rt
