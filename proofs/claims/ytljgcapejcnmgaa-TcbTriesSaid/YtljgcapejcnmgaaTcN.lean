/- tcb: Tick in SynSent; what a closed one answers. Conditions: none. -/
import Derived.Test.YtljgcapejcnmgaaTcM
namespace Go.Proofs.Ytljgcapejcnmgaa.Tc
open Go Go.Proofs Sx
set_option maxRecDepth 100000
set_option linter.unusedVariables false
set_option linter.unusedSimpArgs false
set_option maxHeartbeats 4000000

def X.outed (x : X) : X := { x with out := [], po := .nil, co := 0 }
theorem outed_of {b : Nat} {x : X} {h : HP} (k : sat [pt b (.cells x.outed.vals.toArray 63 (0, 0)), CP x] h) : CA b x.outed h := by
  obtain ⟨a, c, t, ha, d, e, t2, hd, _⟩ := k
  exact ⟨a, c, t, ha, sat_add vec_emp (sat_more t2.comm hd)⟩
theorem out_spec (b : Nat) (x : X) : Does Try.prog 9 #[pp b] (fun _ => True) [CA b x] (fun v p => v = .slice (locAddr 0 x.po) x.out.length x.co ∧ p = [CA b x.outed, Vec x.po 49 9 x.co (SL.flat x.out)]) := by
  refine Does.ofJ Try.func9 Try.call9 rfl [.ptr 0 0] [(1, x.po), (0, .at b 0)] 2 [.blk 0 63 (x.svs 1), .vec 1 49 9 x.co (SL.flat x.out), .asn (CP x)] rfl rfl (fun h k => ca_names rfl rfl rfl k) (fun f hR => ?_)
  refine FinOb.mk [.slice (locAddr 0 x.po) x.out.length x.co] [CA b x.outed, Vec x.po 49 9 x.co (SL.flat x.out)] rfl (fun h k => ?_) ⟨rfl, rfl⟩
  exact (fun h k => sat_pick2 0 1 rfl rfl (fun h k => outed_of (b := b) (x := x) (sat_cons (fun h k => blk_to rfl rfl k) (fun h k => k) k)) (fun h k => sat_pick 0 rfl (fun h k => vec_to rfl k) (fun h k => sat_nil k) k) k) h k
theorem state_spec (b : Nat) (x : X) : Does Try.prog 12 #[pp b] (Fr (CA b x)) [] (fun v p => v = .int .i64 x.state ∧ p = []) := by
  refine Does.ofJ Try.func12 Try.call12 rfl [.raw (pp b)] [] 0 [] rfl rfl (fun h k => k) (fun f hR => ?_)
  refine RdRaw.mk (.int .i64 x.state) _ rfl (hR.own 13 _ rfl) ?_
  exact FinOb.mk [.int .i64 x.state] [] rfl (fun h k => trivial) ⟨rfl, rfl⟩
theorem fault_spec (b : Nat) (x : X) : Does Try.prog 50 #[pp b] (Fr (CA b x)) [] (fun v p => v = .int .i64 x.fault ∧ p = []) := by
  refine Does.ofJ Try.func50 Try.call50 rfl [.raw (pp b)] [] 0 [] rfl rfl (fun h k => k) (fun f hR => ?_)
  refine RdRaw.mk (.int .i64 x.fault) _ rfl (hR.own 15 _ rfl) ?_
  exact FinOb.mk [.int .i64 x.fault] [] rfl (fun h k => trivial) ⟨rfl, rfl⟩
theorem quad_spec (i : Int) (hi : i = 0) : Does Try.prog 5 #[.int .i64 i] (fun _ => True) [] (fun v p => v = .agg (Qd.mk 1 1000 2 80).vals.toArray ∧ p = []) := by
  subst hi
  refine Does.ofJ Try.func5 Try.call5 rfl [.int .i64 0] [] 0 [] rfl rfl (fun h k => k) (fun f hR => ?_)
  intro b2 b3 b4
  refine CondOb.split (fun _ => ?_) (fun g => absurd g (by decide))
  exact FinOb.mk [.agg (Qd.mk 1 1000 2 80).vals.toArray] [] rfl (fun h k => trivial) ⟨rfl, rfl⟩
theorem tick_idle (b : Nat) (x : X) (n : Int) (h1 : (x.at n).user.due (x.at n).now = false) (h2 : (x.at n).wait.due (x.at n).now = false) (h3 : (x.at n).again.due (x.at n).now = false) (h4 : (x.at n).probe.due (x.at n).now = false) :
    Does Try.prog 11 #[pp b, .int .i64 n] (fun _ => True) [CA b x] (fun v p => v = .tuple #[] ∧ p = [CA b (x.at n)]) := by
  refine Does.ofJ Try.func11 Try.call11 rfl [.raw (pp b), .int .i64 n] [] 0 [.asn (CA b x)] rfl rfl (fun h k => k) (fun f hR => ?_)
  refine call_ix (at_spec b x n) rfl [0] (fun h k => sat_pick 0 rfl (by first | exact fun _ k => k | exact fun _ k => blk_to rfl rfl k | exact fun _ k => vec_to rfl k | exact fun _ k => blk_of rfl rfl k | exact fun _ k => vec_of rfl k | exact fun _ k => blk_of rfl rfl (blk_to rfl rfl k) | exact fun _ k => vec_of rfl (vec_to rfl k) | exact fun _ k => mp_to rfl k | exact fun _ k => mp_of rfl k | exact fun _ k => mp_of rfl (mp_to rfl k)) (fun h k => sat_nil k) k) (fun _ _ _ _ => trivial) ?_
  rintro v post ⟨rfl, rfl⟩
  refine ⟨.tuple [], _, 0, [.asn (CA b (x.at n))], NmExt.refl _, rfl, (fun h k => sat_pick 0 rfl (by first | exact fun _ k => k | exact fun _ k => blk_to rfl rfl k | exact fun _ k => vec_to rfl k | exact fun _ k => blk_of rfl rfl k | exact fun _ k => vec_of rfl k | exact fun _ k => blk_of rfl rfl (blk_to rfl rfl k) | exact fun _ k => vec_of rfl (vec_to rfl k) | exact fun _ k => mp_to rfl k | exact fun _ k => mp_of rfl k | exact fun _ k => mp_of rfl (mp_to rfl k)) (fun h k => sat_nil k) k), ?_⟩
  generalize x.at n = y at *
  refine DrawOb.mk [] (.run [0, 1, 2, 3, 4, 5, 6, 7, 8] .nil) (by kernel_rfl) ?_
  refine RdRaw.told (.int .i64 y.now) _ rfl (fun h k => sat_rd k 0 rfl 14 _ rfl) ?_
  refine useR (.bool (y.user.due y.now)) (due_spec b y 50 y.user y.now rfl rfl) rfl (fun f' b' hs kb => Fr.told 0 rfl hs kb) rfl ?_
  refine CondOb.split (fun g => absurd g (by rw [h1]; decide)) (fun _ => ?_)
  refine DrawOb.mk [] (.run [0, 1, 2, 3, 4, 5, 6, 7, 8] .nil) (by kernel_rfl) ?_
  refine RdRaw.told (.int .i64 y.now) _ rfl (fun h k => sat_rd k 0 rfl 14 _ rfl) ?_
  refine useR (.bool (y.wait.due y.now)) (due_spec b y 48 y.wait y.now rfl rfl) rfl (fun f' b' hs kb => Fr.told 0 rfl hs kb) rfl ?_
  refine CondOb.split (fun g => absurd g (by rw [h2]; decide)) (fun _ => ?_)
  refine DrawOb.mk [] (.run [0, 1, 2, 3, 4, 5, 6, 7, 8] .nil) (by kernel_rfl) ?_
  refine RdRaw.told (.int .i64 y.now) _ rfl (fun h k => sat_rd k 0 rfl 14 _ rfl) ?_
  refine useR (.bool (y.again.due y.now)) (due_spec b y 44 y.again y.now rfl rfl) rfl (fun f' b' hs kb => Fr.told 0 rfl hs kb) rfl ?_
  refine CondOb.split (fun g => absurd g (by rw [h3]; decide)) (fun _ => ?_)
  refine DrawOb.mk [] (.run [0, 1, 2, 3, 4, 5, 6, 7, 8] .nil) (by kernel_rfl) ?_
  refine RdRaw.told (.int .i64 y.now) _ rfl (fun h k => sat_rd k 0 rfl 14 _ rfl) ?_
  refine useR (.bool (y.probe.due y.now)) (due_spec b y 46 y.probe y.now rfl rfl) rfl (fun f' b' hs kb => Fr.told 0 rfl hs kb) rfl ?_
  refine CondOb.split (fun g => absurd g (by rw [h4]; decide)) (fun _ => ?_)
  exact FinOb.mk [] [CA b y] rfl (fun h k => sat_pick 0 rfl (by first | exact fun _ k => k | exact fun _ k => blk_to rfl rfl k | exact fun _ k => vec_to rfl k | exact fun _ k => blk_of rfl rfl k | exact fun _ k => vec_of rfl k | exact fun _ k => blk_of rfl rfl (blk_to rfl rfl k) | exact fun _ k => vec_of rfl (vec_to rfl k) | exact fun _ k => mp_to rfl k | exact fun _ k => mp_of rfl k | exact fun _ k => mp_of rfl (mp_to rfl k)) (fun h k => sat_nil k) k) ⟨rfl, rfl⟩
theorem tick_user (b : Nat) (x : X) (n : Int) (h1 : (x.at n).user.due (x.at n).now = true) :
    Does Try.prog 11 #[pp b, .int .i64 n] (fun _ => True) [CA b x] (fun v p => v = .tuple #[] ∧ p = [CA b ((x.at n).close 222)]) := by
  refine Does.ofJ Try.func11 Try.call11 rfl [.raw (pp b), .int .i64 n] [] 0 [.asn (CA b x)] rfl rfl (fun h k => k) (fun f hR => ?_)
  refine call_ix (at_spec b x n) rfl [0] (fun h k => sat_pick 0 rfl (by first | exact fun _ k => k | exact fun _ k => blk_to rfl rfl k | exact fun _ k => vec_to rfl k | exact fun _ k => blk_of rfl rfl k | exact fun _ k => vec_of rfl k | exact fun _ k => blk_of rfl rfl (blk_to rfl rfl k) | exact fun _ k => vec_of rfl (vec_to rfl k) | exact fun _ k => mp_to rfl k | exact fun _ k => mp_of rfl k | exact fun _ k => mp_of rfl (mp_to rfl k)) (fun h k => sat_nil k) k) (fun _ _ _ _ => trivial) ?_
  rintro v post ⟨rfl, rfl⟩
  refine ⟨.tuple [], _, 0, [.asn (CA b (x.at n))], NmExt.refl _, rfl, (fun h k => sat_pick 0 rfl (by first | exact fun _ k => k | exact fun _ k => blk_to rfl rfl k | exact fun _ k => vec_to rfl k | exact fun _ k => blk_of rfl rfl k | exact fun _ k => vec_of rfl k | exact fun _ k => blk_of rfl rfl (blk_to rfl rfl k) | exact fun _ k => vec_of rfl (vec_to rfl k) | exact fun _ k => mp_to rfl k | exact fun _ k => mp_of rfl k | exact fun _ k => mp_of rfl (mp_to rfl k)) (fun h k => sat_nil k) k), ?_⟩
  generalize x.at n = y at *
  refine DrawOb.mk [] (.run [0, 1, 2, 3, 4, 5, 6, 7, 8] .nil) (by kernel_rfl) ?_
  refine RdRaw.told (.int .i64 y.now) _ rfl (fun h k => sat_rd k 0 rfl 14 _ rfl) ?_
  refine useR (.bool (y.user.due y.now)) (due_spec b y 50 y.user y.now rfl rfl) rfl (fun f' b' hs kb => Fr.told 0 rfl hs kb) rfl ?_
  refine CondOb.split (fun _ => ?_) (fun g => absurd g (by rw [h1]; decide))
  refine call_ix (close_spec b y 222) rfl [0] (fun h k => sat_pick 0 rfl (by first | exact fun _ k => k | exact fun _ k => blk_to rfl rfl k | exact fun _ k => vec_to rfl k | exact fun _ k => blk_of rfl rfl k | exact fun _ k => vec_of rfl k | exact fun _ k => blk_of rfl rfl (blk_to rfl rfl k) | exact fun _ k => vec_of rfl (vec_to rfl k) | exact fun _ k => mp_to rfl k | exact fun _ k => mp_of rfl k | exact fun _ k => mp_of rfl (mp_to rfl k)) (fun h k => sat_nil k) k) (fun _ _ _ _ => trivial) ?_
  rintro v post ⟨rfl, rfl⟩
  refine ⟨.tuple [], _, 0, [.asn (CA b (y.close 222))], NmExt.refl _, rfl, (fun h k => sat_pick 0 rfl (by first | exact fun _ k => k | exact fun _ k => blk_to rfl rfl k | exact fun _ k => vec_to rfl k | exact fun _ k => blk_of rfl rfl k | exact fun _ k => vec_of rfl k | exact fun _ k => blk_of rfl rfl (blk_to rfl rfl k) | exact fun _ k => vec_of rfl (vec_to rfl k) | exact fun _ k => mp_to rfl k | exact fun _ k => mp_of rfl k | exact fun _ k => mp_of rfl (mp_to rfl k)) (fun h k => sat_nil k) k), ?_⟩
  exact FinOb.mk [] [CA b (y.close 222)] rfl (fun h k => sat_pick 0 rfl (by first | exact fun _ k => k | exact fun _ k => blk_to rfl rfl k | exact fun _ k => vec_to rfl k | exact fun _ k => blk_of rfl rfl k | exact fun _ k => vec_of rfl k | exact fun _ k => blk_of rfl rfl (blk_to rfl rfl k) | exact fun _ k => vec_of rfl (vec_to rfl k) | exact fun _ k => mp_to rfl k | exact fun _ k => mp_of rfl k | exact fun _ k => mp_of rfl (mp_to rfl k)) (fun h k => sat_nil k) k) ⟨rfl, rfl⟩
/-- Too late, in SynSent. -/
def X.tried (x : X) : X := { x with tries := IntKind.i64.wrap (x.tries + 1) }
def X.backed (x : X) : X := { x.tried with rto := x.rto.back, timed := false }
theorem late_end (b : Nat) (x : X) (h : IntKind.i64.wrap (x.tries + 1) > x.cfg.tries) :
    Does Try.prog 24 #[pp b] (fun _ => True) [CA b x] (fun v p => v = .tuple #[] ∧ p = [CA b (x.tried.close 222)]) := by
  refine Does.ofJ Try.func24 Try.call24 rfl [.raw (pp b)] [] 0 [.asn (CA b x)] rfl rfl (fun h k => k) (fun f hR => ?_)
  refine RdRaw.told (.int .i64 x.tries) _ rfl (fun h k => sat_rd k 0 rfl 36 _ rfl) ?_
  refine StRaw.on 0 (CA b x.tried) [.int .i64 (IntKind.i64.wrap (x.tries + 1))] rfl rfl (fun h k => ca_st k (Nat.le_of_ble_eq_true rfl) rfl rfl) ?_
  refine DrawOb.mk [] (.run [0, 1, 2, 3, 4, 5, 6, 7, 8, 9] .nil) (by kernel_rfl) ?_
  refine RdRaw.told (.int .i64 (IntKind.i64.wrap (x.tries + 1))) _ rfl (fun h k => sat_rd k 0 rfl 36 _ rfl) ?_
  refine RdRaw.told (.int .i64 x.cfg.tries) _ rfl (fun h k => sat_rd k 0 rfl 6 _ rfl) ?_
  refine CondOb.split (fun _ => ?_) (fun g => absurd h (of_decide_eq_false g))
  refine call_ix (close_spec b x.tried 222) rfl [0] (fun h k => sat_pick 0 rfl (by first | exact fun _ k => k | exact fun _ k => blk_to rfl rfl k | exact fun _ k => vec_to rfl k | exact fun _ k => blk_of rfl rfl k | exact fun _ k => vec_of rfl k | exact fun _ k => blk_of rfl rfl (blk_to rfl rfl k) | exact fun _ k => vec_of rfl (vec_to rfl k) | exact fun _ k => mp_to rfl k | exact fun _ k => mp_of rfl k | exact fun _ k => mp_of rfl (mp_to rfl k)) (fun h k => sat_nil k) k) (fun _ _ _ _ => trivial) ?_
  rintro v post ⟨rfl, rfl⟩
  refine ⟨.tuple [], _, 0, [.asn (CA b (x.tried.close 222))], NmExt.refl _, rfl, (fun h k => sat_pick 0 rfl (by first | exact fun _ k => k | exact fun _ k => blk_to rfl rfl k | exact fun _ k => vec_to rfl k | exact fun _ k => blk_of rfl rfl k | exact fun _ k => vec_of rfl k | exact fun _ k => blk_of rfl rfl (blk_to rfl rfl k) | exact fun _ k => vec_of rfl (vec_to rfl k) | exact fun _ k => mp_to rfl k | exact fun _ k => mp_of rfl k | exact fun _ k => mp_of rfl (mp_to rfl k)) (fun h k => sat_nil k) k), ?_⟩
  exact FinOb.mk [] [CA b (x.tried.close 222)] rfl (fun h k => sat_pick 0 rfl (by first | exact fun _ k => k | exact fun _ k => blk_to rfl rfl k | exact fun _ k => vec_to rfl k | exact fun _ k => blk_of rfl rfl k | exact fun _ k => vec_of rfl k | exact fun _ k => blk_of rfl rfl (blk_to rfl rfl k) | exact fun _ k => vec_of rfl (vec_to rfl k) | exact fun _ k => mp_to rfl k | exact fun _ k => mp_of rfl k | exact fun _ k => mp_of rfl (mp_to rfl k)) (fun h k => sat_nil k) k) ⟨rfl, rfl⟩
theorem late_syn (b : Nat) (x : X) (h : ¬ IntKind.i64.wrap (x.tries + 1) > x.cfg.tries) (hs : x.state = 1) (hsi : 0 ≤ x.si) (ho : x.out.length ≤ x.co) (hl : x.out.length ≤ 1000000) (hr0 : 0 ≤ x.cfg.rcv) (hr1 : x.cfg.rcv ≤ 1048576) :
    Does Try.prog 24 #[pp b] (fun _ => True) [CA b x] (fun v p => ∃ q o co, v = .tuple #[] ∧ x.out.length + 1 ≤ co ∧ p = [CA b (x.backed.hello true q o co)]) := by
  refine Does.ofJ Try.func24 Try.call24 rfl [.raw (pp b)] [] 0 [.asn (CA b x)] rfl rfl (fun h k => k) (fun f hR => ?_)
  refine RdRaw.told (.int .i64 x.tries) _ rfl (fun h k => sat_rd k 0 rfl 36 _ rfl) ?_
  refine StRaw.on 0 (CA b x.tried) [.int .i64 (IntKind.i64.wrap (x.tries + 1))] rfl rfl (fun h k => ca_st k (Nat.le_of_ble_eq_true rfl) rfl rfl) ?_
  refine DrawOb.mk [] (.run [0, 1, 2, 3, 4, 5, 6, 7, 8, 9] .nil) (by kernel_rfl) ?_
  refine RdRaw.told (.int .i64 (IntKind.i64.wrap (x.tries + 1))) _ rfl (fun h k => sat_rd k 0 rfl 36 _ rfl) ?_
  refine RdRaw.told (.int .i64 x.cfg.tries) _ rfl (fun h k => sat_rd k 0 rfl 6 _ rfl) ?_
  refine CondOb.split (fun g => absurd (of_decide_eq_true g) h) (fun _ => ?_)
  refine RdRaw.told (.raw (pp x.br)) _ rfl (fun h k => sat_rd k 0 rfl 32 _ rfl) ?_
  refine call_ix (back_spec b x.tried) rfl [0] (fun h k => sat_pick 0 rfl (by first | exact fun _ k => k | exact fun _ k => blk_to rfl rfl k | exact fun _ k => vec_to rfl k | exact fun _ k => blk_of rfl rfl k | exact fun _ k => vec_of rfl k | exact fun _ k => blk_of rfl rfl (blk_to rfl rfl k) | exact fun _ k => vec_of rfl (vec_to rfl k) | exact fun _ k => mp_to rfl k | exact fun _ k => mp_of rfl k | exact fun _ k => mp_of rfl (mp_to rfl k)) (fun h k => sat_nil k) k) (fun _ _ _ _ => trivial) ?_
  rintro v post ⟨rfl, rfl⟩
  refine ⟨.tuple [], _, 0, [.asn (CA b { x.tried with rto := x.rto.back })], NmExt.refl _, rfl, (fun h k => sat_pick 0 rfl (by first | exact fun _ k => k | exact fun _ k => blk_to rfl rfl k | exact fun _ k => vec_to rfl k | exact fun _ k => blk_of rfl rfl k | exact fun _ k => vec_of rfl k | exact fun _ k => blk_of rfl rfl (blk_to rfl rfl k) | exact fun _ k => vec_of rfl (vec_to rfl k) | exact fun _ k => mp_to rfl k | exact fun _ k => mp_of rfl k | exact fun _ k => mp_of rfl (mp_to rfl k)) (fun h k => sat_nil k) k), ?_⟩
  refine StRaw.on 0 (CA b x.backed) [.bool false] rfl rfl (fun h k => ca_st k (Nat.le_of_ble_eq_true rfl) rfl rfl) ?_
  refine RegOb.join Unit (fun _ => ⟨74, [(0, .raw (pp b)), (40, .tt)], [], 0, [.asn (CA b x.backed)]⟩) ?_ (fun _ => ?_)
  · refine RdRaw.told (.int .i64 x.state) _ rfl (fun h k => sat_rd k 0 rfl 13 _ rfl) ?_
    refine Br.mk (fun _ => ?_) (fun g => absurd g (by rw [hs]; decide))
    exact ⟨(), Le.of rfl ⟨⟨_, rfl, rfl⟩, ⟨_, rfl, rfl⟩, trivial⟩ (fun h k => sat_pick 0 rfl (by first | exact fun _ k => k | exact fun _ k => blk_to rfl rfl k | exact fun _ k => vec_to rfl k | exact fun _ k => blk_of rfl rfl k | exact fun _ k => vec_of rfl k | exact fun _ k => blk_of rfl rfl (blk_to rfl rfl k) | exact fun _ k => vec_of rfl (vec_to rfl k) | exact fun _ k => mp_to rfl k | exact fun _ k => mp_of rfl k | exact fun _ k => mp_of rfl (mp_to rfl k)) (fun h k => sat_nil k) k)⟩
  refine RegOb.go ?_
  refine RdRaw.told (.int .i64 x.state) _ rfl (fun h k => sat_rd k 0 rfl 13 _ rfl) ?_
  refine Br.mk (fun _ => ?_) (fun g => absurd g (by rw [hs]; decide))
  refine call_ix (hello_spec b x.backed true hsi ho hl hr0 hr1) rfl [0] (fun h k => sat_pick 0 rfl (by first | exact fun _ k => k | exact fun _ k => blk_to rfl rfl k | exact fun _ k => vec_to rfl k | exact fun _ k => blk_of rfl rfl k | exact fun _ k => vec_of rfl k | exact fun _ k => blk_of rfl rfl (blk_to rfl rfl k) | exact fun _ k => vec_of rfl (vec_to rfl k) | exact fun _ k => mp_to rfl k | exact fun _ k => mp_of rfl k | exact fun _ k => mp_of rfl (mp_to rfl k)) (fun h k => sat_nil k) k) (fun _ _ _ _ => trivial) ?_
  rintro v post ⟨q, o, co, rfl, hco, rfl⟩
  refine ⟨.tuple [], _, 0, [.asn (CA b (x.backed.hello true q o co))], NmExt.refl _, rfl, (fun h k => sat_pick 0 rfl (by first | exact fun _ k => k | exact fun _ k => blk_to rfl rfl k | exact fun _ k => vec_to rfl k | exact fun _ k => blk_of rfl rfl k | exact fun _ k => vec_of rfl k | exact fun _ k => blk_of rfl rfl (blk_to rfl rfl k) | exact fun _ k => vec_of rfl (vec_to rfl k) | exact fun _ k => mp_to rfl k | exact fun _ k => mp_of rfl k | exact fun _ k => mp_of rfl (mp_to rfl k)) (fun h k => sat_nil k) k), ?_⟩
  exact FinOb.mk [] [CA b (x.backed.hello true q o co)] rfl (fun h k => sat_pick 0 rfl (by first | exact fun _ k => k | exact fun _ k => blk_to rfl rfl k | exact fun _ k => vec_to rfl k | exact fun _ k => blk_of rfl rfl k | exact fun _ k => vec_of rfl k | exact fun _ k => blk_of rfl rfl (blk_to rfl rfl k) | exact fun _ k => vec_of rfl (vec_to rfl k) | exact fun _ k => mp_to rfl k | exact fun _ k => mp_of rfl k | exact fun _ k => mp_of rfl (mp_to rfl k)) (fun h k => sat_nil k) k) ⟨q, o, co, rfl, hco, rfl⟩
theorem tick_end (b : Nat) (x : X) (n : Int) (h1 : (x.at n).user.due (x.at n).now = false) (h2 : (x.at n).wait.due (x.at n).now = false) (h3 : (x.at n).again.due (x.at n).now = true) (h : IntKind.i64.wrap ((x.at n).tries + 1) > (x.at n).cfg.tries) :
    Does Try.prog 11 #[pp b, .int .i64 n] (fun _ => True) [CA b x] (fun v p => v = .tuple #[] ∧ p = [CA b ((x.at n).tried.close 222)]) := by
  refine Does.ofJ Try.func11 Try.call11 rfl [.raw (pp b), .int .i64 n] [] 0 [.asn (CA b x)] rfl rfl (fun h k => k) (fun f hR => ?_)
  refine call_ix (at_spec b x n) rfl [0] (fun h k => sat_pick 0 rfl (by first | exact fun _ k => k | exact fun _ k => blk_to rfl rfl k | exact fun _ k => vec_to rfl k | exact fun _ k => blk_of rfl rfl k | exact fun _ k => vec_of rfl k | exact fun _ k => blk_of rfl rfl (blk_to rfl rfl k) | exact fun _ k => vec_of rfl (vec_to rfl k) | exact fun _ k => mp_to rfl k | exact fun _ k => mp_of rfl k | exact fun _ k => mp_of rfl (mp_to rfl k)) (fun h k => sat_nil k) k) (fun _ _ _ _ => trivial) ?_
  rintro v post ⟨rfl, rfl⟩
  refine ⟨.tuple [], _, 0, [.asn (CA b (x.at n))], NmExt.refl _, rfl, (fun h k => sat_pick 0 rfl (by first | exact fun _ k => k | exact fun _ k => blk_to rfl rfl k | exact fun _ k => vec_to rfl k | exact fun _ k => blk_of rfl rfl k | exact fun _ k => vec_of rfl k | exact fun _ k => blk_of rfl rfl (blk_to rfl rfl k) | exact fun _ k => vec_of rfl (vec_to rfl k) | exact fun _ k => mp_to rfl k | exact fun _ k => mp_of rfl k | exact fun _ k => mp_of rfl (mp_to rfl k)) (fun h k => sat_nil k) k), ?_⟩
  generalize x.at n = y at *
  refine DrawOb.mk [] (.run [0, 1, 2, 3, 4, 5, 6, 7, 8] .nil) (by kernel_rfl) ?_
  refine RdRaw.told (.int .i64 y.now) _ rfl (fun h k => sat_rd k 0 rfl 14 _ rfl) ?_
  refine useR (.bool (y.user.due y.now)) (due_spec b y 50 y.user y.now rfl rfl) rfl (fun f' b' hs kb => Fr.told 0 rfl hs kb) rfl ?_
  refine CondOb.split (fun g => absurd g (by rw [h1]; decide)) (fun _ => ?_)
  refine DrawOb.mk [] (.run [0, 1, 2, 3, 4, 5, 6, 7, 8] .nil) (by kernel_rfl) ?_
  refine RdRaw.told (.int .i64 y.now) _ rfl (fun h k => sat_rd k 0 rfl 14 _ rfl) ?_
  refine useR (.bool (y.wait.due y.now)) (due_spec b y 48 y.wait y.now rfl rfl) rfl (fun f' b' hs kb => Fr.told 0 rfl hs kb) rfl ?_
  refine CondOb.split (fun g => absurd g (by rw [h2]; decide)) (fun _ => ?_)
  refine DrawOb.mk [] (.run [0, 1, 2, 3, 4, 5, 6, 7, 8] .nil) (by kernel_rfl) ?_
  refine RdRaw.told (.int .i64 y.now) _ rfl (fun h k => sat_rd k 0 rfl 14 _ rfl) ?_
  refine useR (.bool (y.again.due y.now)) (due_spec b y 44 y.again y.now rfl rfl) rfl (fun f' b' hs kb => Fr.told 0 rfl hs kb) rfl ?_
  refine CondOb.split (fun _ => ?_) (fun g => absurd g (by rw [h3]; decide))
  refine call_ix (late_end b y h) rfl [0] (fun h k => sat_pick 0 rfl (by first | exact fun _ k => k | exact fun _ k => blk_to rfl rfl k | exact fun _ k => vec_to rfl k | exact fun _ k => blk_of rfl rfl k | exact fun _ k => vec_of rfl k | exact fun _ k => blk_of rfl rfl (blk_to rfl rfl k) | exact fun _ k => vec_of rfl (vec_to rfl k) | exact fun _ k => mp_to rfl k | exact fun _ k => mp_of rfl k | exact fun _ k => mp_of rfl (mp_to rfl k)) (fun h k => sat_nil k) k) (fun _ _ _ _ => trivial) ?_
  rintro v post ⟨rfl, rfl⟩
  refine ⟨.tuple [], _, 0, [.asn (CA b (y.tried.close 222))], NmExt.refl _, rfl, (fun h k => sat_pick 0 rfl (by first | exact fun _ k => k | exact fun _ k => blk_to rfl rfl k | exact fun _ k => vec_to rfl k | exact fun _ k => blk_of rfl rfl k | exact fun _ k => vec_of rfl k | exact fun _ k => blk_of rfl rfl (blk_to rfl rfl k) | exact fun _ k => vec_of rfl (vec_to rfl k) | exact fun _ k => mp_to rfl k | exact fun _ k => mp_of rfl k | exact fun _ k => mp_of rfl (mp_to rfl k)) (fun h k => sat_nil k) k), ?_⟩
  exact FinOb.mk [] [CA b (y.tried.close 222)] rfl (fun h k => sat_pick 0 rfl (by first | exact fun _ k => k | exact fun _ k => blk_to rfl rfl k | exact fun _ k => vec_to rfl k | exact fun _ k => blk_of rfl rfl k | exact fun _ k => vec_of rfl k | exact fun _ k => blk_of rfl rfl (blk_to rfl rfl k) | exact fun _ k => vec_of rfl (vec_to rfl k) | exact fun _ k => mp_to rfl k | exact fun _ k => mp_of rfl k | exact fun _ k => mp_of rfl (mp_to rfl k)) (fun h k => sat_nil k) k) ⟨rfl, rfl⟩
theorem tick_syn (b : Nat) (x : X) (n : Int) (h1 : (x.at n).user.due (x.at n).now = false) (h2 : (x.at n).wait.due (x.at n).now = false) (h3 : (x.at n).again.due (x.at n).now = true) (h : ¬ IntKind.i64.wrap ((x.at n).tries + 1) > (x.at n).cfg.tries)
    (hs : (x.at n).state = 1) (hsi : 0 ≤ (x.at n).si) (ho : (x.at n).out.length ≤ (x.at n).co) (hl : (x.at n).out.length ≤ 1000000) (hr0 : 0 ≤ (x.at n).cfg.rcv) (hr1 : (x.at n).cfg.rcv ≤ 1048576) :
    Does Try.prog 11 #[pp b, .int .i64 n] (fun _ => True) [CA b x] (fun v p => ∃ q o co, v = .tuple #[] ∧ (x.at n).out.length + 1 ≤ co ∧ p = [CA b ((x.at n).backed.hello true q o co)]) := by
  refine Does.ofJ Try.func11 Try.call11 rfl [.raw (pp b), .int .i64 n] [] 0 [.asn (CA b x)] rfl rfl (fun h k => k) (fun f hR => ?_)
  refine call_ix (at_spec b x n) rfl [0] (fun h k => sat_pick 0 rfl (by first | exact fun _ k => k | exact fun _ k => blk_to rfl rfl k | exact fun _ k => vec_to rfl k | exact fun _ k => blk_of rfl rfl k | exact fun _ k => vec_of rfl k | exact fun _ k => blk_of rfl rfl (blk_to rfl rfl k) | exact fun _ k => vec_of rfl (vec_to rfl k) | exact fun _ k => mp_to rfl k | exact fun _ k => mp_of rfl k | exact fun _ k => mp_of rfl (mp_to rfl k)) (fun h k => sat_nil k) k) (fun _ _ _ _ => trivial) ?_
  rintro v post ⟨rfl, rfl⟩
  refine ⟨.tuple [], _, 0, [.asn (CA b (x.at n))], NmExt.refl _, rfl, (fun h k => sat_pick 0 rfl (by first | exact fun _ k => k | exact fun _ k => blk_to rfl rfl k | exact fun _ k => vec_to rfl k | exact fun _ k => blk_of rfl rfl k | exact fun _ k => vec_of rfl k | exact fun _ k => blk_of rfl rfl (blk_to rfl rfl k) | exact fun _ k => vec_of rfl (vec_to rfl k) | exact fun _ k => mp_to rfl k | exact fun _ k => mp_of rfl k | exact fun _ k => mp_of rfl (mp_to rfl k)) (fun h k => sat_nil k) k), ?_⟩
  generalize x.at n = y at *
  refine DrawOb.mk [] (.run [0, 1, 2, 3, 4, 5, 6, 7, 8] .nil) (by kernel_rfl) ?_
  refine RdRaw.told (.int .i64 y.now) _ rfl (fun h k => sat_rd k 0 rfl 14 _ rfl) ?_
  refine useR (.bool (y.user.due y.now)) (due_spec b y 50 y.user y.now rfl rfl) rfl (fun f' b' hs kb => Fr.told 0 rfl hs kb) rfl ?_
  refine CondOb.split (fun g => absurd g (by rw [h1]; decide)) (fun _ => ?_)
  refine DrawOb.mk [] (.run [0, 1, 2, 3, 4, 5, 6, 7, 8] .nil) (by kernel_rfl) ?_
  refine RdRaw.told (.int .i64 y.now) _ rfl (fun h k => sat_rd k 0 rfl 14 _ rfl) ?_
  refine useR (.bool (y.wait.due y.now)) (due_spec b y 48 y.wait y.now rfl rfl) rfl (fun f' b' hs kb => Fr.told 0 rfl hs kb) rfl ?_
  refine CondOb.split (fun g => absurd g (by rw [h2]; decide)) (fun _ => ?_)
  refine DrawOb.mk [] (.run [0, 1, 2, 3, 4, 5, 6, 7, 8] .nil) (by kernel_rfl) ?_
  refine RdRaw.told (.int .i64 y.now) _ rfl (fun h k => sat_rd k 0 rfl 14 _ rfl) ?_
  refine useR (.bool (y.again.due y.now)) (due_spec b y 44 y.again y.now rfl rfl) rfl (fun f' b' hs kb => Fr.told 0 rfl hs kb) rfl ?_
  refine CondOb.split (fun _ => ?_) (fun g => absurd g (by rw [h3]; decide))
  refine call_ix (late_syn b y h hs hsi ho hl hr0 hr1) rfl [0] (fun h k => sat_pick 0 rfl (by first | exact fun _ k => k | exact fun _ k => blk_to rfl rfl k | exact fun _ k => vec_to rfl k | exact fun _ k => blk_of rfl rfl k | exact fun _ k => vec_of rfl k | exact fun _ k => blk_of rfl rfl (blk_to rfl rfl k) | exact fun _ k => vec_of rfl (vec_to rfl k) | exact fun _ k => mp_to rfl k | exact fun _ k => mp_of rfl k | exact fun _ k => mp_of rfl (mp_to rfl k)) (fun h k => sat_nil k) k) (fun _ _ _ _ => trivial) ?_
  rintro v post ⟨q, o, co, rfl, hco, rfl⟩
  refine ⟨.tuple [], _, 0, [.asn (CA b (y.backed.hello true q o co))], NmExt.refl _, rfl, (fun h k => sat_pick 0 rfl (by first | exact fun _ k => k | exact fun _ k => blk_to rfl rfl k | exact fun _ k => vec_to rfl k | exact fun _ k => blk_of rfl rfl k | exact fun _ k => vec_of rfl k | exact fun _ k => blk_of rfl rfl (blk_to rfl rfl k) | exact fun _ k => vec_of rfl (vec_to rfl k) | exact fun _ k => mp_to rfl k | exact fun _ k => mp_of rfl k | exact fun _ k => mp_of rfl (mp_to rfl k)) (fun h k => sat_nil k) k), ?_⟩
  exact FinOb.mk [] [CA b (y.backed.hello true q o co)] rfl (fun h k => sat_pick 0 rfl (by first | exact fun _ k => k | exact fun _ k => blk_to rfl rfl k | exact fun _ k => vec_to rfl k | exact fun _ k => blk_of rfl rfl k | exact fun _ k => vec_of rfl k | exact fun _ k => blk_of rfl rfl (blk_to rfl rfl k) | exact fun _ k => vec_of rfl (vec_to rfl k) | exact fun _ k => mp_to rfl k | exact fun _ k => mp_of rfl k | exact fun _ k => mp_of rfl (mp_to rfl k)) (fun h k => sat_nil k) k) ⟨q, o, co, rfl, hco, rfl⟩
end Go.Proofs.Ytljgcapejcnmgaa.Tc
