/- tcb: small functions; what makes a connection. Conditions: none. -/
import Derived.Test.YtljgcapejcnmgaaTcC
namespace Go.Proofs.Ytljgcapejcnmgaa.Tc
open Go Go.Proofs Sx
set_option maxRecDepth 100000
set_option linter.unusedVariables false
set_option linter.unusedSimpArgs false
set_option maxHeartbeats 4000000

/-- What a part tells is in the frame. -/
def Fr (A : Asn) (f : HP) : Prop := ∀ c i v, (∀ h, A h → fcell h c i = some v) → fcell f c i = some v
theorem Fr.mono {A : Asn} {f f' b : HP} (s : Split f' b f) (h : Fr A f) : Fr A f' := fun c i v g => frame_cell s (h c i v g)
theorem Fr.told {A : Asn} {f f' b : HP} {nm : List (Nat × Plc)} {es : List Ent} (n : Nat) (hA : es[n]? = some (.asn A)) (s : Split f' b f) (k : sat (es.map (entDen nm)) b) : Fr A f' := fun c i v g => told_fr n hA s k g
theorem Fr.part {b : Nat} {x : X} {f : HP} (n : Nat) {A : Asn} (e : x.rest[n]? = some A) (h : Fr (CA b x) f) : Fr A f := fun c i v g => h c i v fun y ky => ca_in n e i v g y ky
theorem Fr.own {b : Nat} {x : X} {f : HP} (h : Fr (CA b x) f) (i : Nat) (v : Value) (e : x.vals[i]? = some v) : fcell f b i = some v := h b i v (ca_at i v e)
theorem Fr.ho {b : Nat} {x : Ho} {f : HP} (h : Fr (hoA b x) f) (i : Nat) (v : Value) (e : x.vals[i]? = some v) : fcell f b i = some v := h b i v (ho_at i v e)
theorem Fr.ro {b : Nat} {x : Ro} {f : HP} (h : Fr (roA b x) f) (i : Nat) (v : Value) (e : x.vals[i]? = some v) : fcell f b i = some v := h b i v (ro_at i v e)
theorem Fr.co {b : Nat} {x : Co} {f : HP} (h : Fr (coA b x) f) (i : Nat) (v : Value) (e : x.vals[i]? = some v) : fcell f b i = some v := h b i v (co_at i v e)

def diffQ (x y : Int) : Int := IntKind.i64.wrap (IntKind.i32.wrap (IntKind.u32.wrap (x - y)))
theorem diff_spec (x y : Int) : Does Try.prog 53 #[.int .u32 x, .int .u32 y] (fun _ => True) [] (fun v p => v = .int .i64 (diffQ x y) ∧ p = []) := by
  refine Does.ofJ Try.func53 Try.call53 rfl [.int .u32 x, .int .u32 y] [] 0 [] rfl rfl (fun h k => k) (fun f hR => ?_)
  exact FinOb.mk [.int .i64 (diffQ x y)] [] rfl (fun h k => trivial) ⟨rfl, rfl⟩
def lessQ (x y : Int) : Bool := decide (diffQ x y < 0)
theorem less_spec (x y : Int) : Does Try.prog 62 #[.int .u32 x, .int .u32 y] (fun _ => True) [] (fun v p => v = .bool (lessQ x y) ∧ p = []) := by
  refine Does.ofJ Try.func62 Try.call62 rfl [.int .u32 x, .int .u32 y] [] 0 [] rfl rfl (fun h k => k) (fun f hR => ?_)
  refine useP (.int .i64 (diffQ x y)) (diff_spec x y) rfl rfl ?_
  exact FinOb.mk [.bool (lessQ x y)] [] rfl (fun h k => trivial) ⟨rfl, rfl⟩
def maxQ (x y : Int) : Int := if lessQ x y then y else x
theorem max_spec (x y : Int) : Does Try.prog 46 #[.int .u32 x, .int .u32 y] (fun _ => True) [] (fun v p => v = .int .u32 (maxQ x y) ∧ p = []) := by
  refine Does.ofJ Try.func46 Try.call46 rfl [.int .u32 x, .int .u32 y] [] 0 [] rfl rfl (fun h k => k) (fun f hR => ?_)
  refine useP (.bool (lessQ x y)) (less_spec x y) rfl rfl ?_
  refine CondOb.split (fun g => ?_) (fun g => ?_)
  · exact FinOb.mk [.int .u32 y] [] rfl (fun h k => trivial) ⟨by unfold maxQ; rw [g]; rfl, rfl⟩
  · exact FinOb.mk [.int .u32 x] [] rfl (fun h k => trivial) ⟨by unfold maxQ; rw [g]; rfl, rfl⟩
theorem room_spec (b : Nat) (h : Ho) : Does Try.prog 33 #[pp b] (Fr (hoA b h)) [] (fun v p => v = .int .i64 (IntKind.i64.wrap (h.room - h.n)) ∧ p = []) := by
  refine Does.ofJ Try.func33 Try.call33 rfl [.raw (pp b)] [] 0 [] rfl rfl (fun h k => k) (fun f hR => ?_)
  refine DrawOb.mk [] (.run [0, 1, 2, 3, 4, 5, 6, 7, 8, 9] .nil) (by kernel_rfl) ?_
  refine RdRaw.mk (.int .i64 h.room) _ rfl (hR.ho 0 _ rfl) ?_
  refine RdRaw.mk (.int .i64 h.n) _ rfl (hR.ho 3 _ rfl) ?_
  exact FinOb.mk [.int .i64 (IntKind.i64.wrap (h.room - h.n))] [] rfl (fun h k => trivial) ⟨rfl, rfl⟩
theorem hlen_spec (b : Nat) (h : Ho) : Does Try.prog 32 #[pp b] (Fr (hoA b h)) [] (fun v p => v = .int .i64 h.n ∧ p = []) := by
  refine Does.ofJ Try.func32 Try.call32 rfl [.raw (pp b)] [] 0 [] rfl rfl (fun h k => k) (fun f hR => ?_)
  refine RdRaw.mk (.int .i64 h.n) _ rfl (hR.ho 3 _ rfl) ?_
  exact FinOb.mk [.int .i64 h.n] [] rfl (fun h k => trivial) ⟨rfl, rfl⟩
theorem passed_spec (b : Nat) (h : Ho) : Does Try.prog 64 #[pp b] (Fr (hoA b h)) [] (fun v p => v = .tuple #[.int .i64 h.in_, .int .i64 h.out] ∧ p = []) := by
  refine Does.ofJ Try.func64 Try.call64 rfl [.raw (pp b)] [] 0 [] rfl rfl (fun h k => k) (fun f hR => ?_)
  refine DrawOb.mk [] (.run [0, 1, 2, 3, 4, 5, 6, 7, 8, 9] .nil) (by kernel_rfl) ?_
  refine RdRaw.mk (.int .i64 h.in_) _ rfl (hR.ho 4 _ rfl) ?_
  refine RdRaw.mk (.int .i64 h.out) _ rfl (hR.ho 5 _ rfl) ?_
  exact FinOb.mk [.int .i64 h.in_, .int .i64 h.out] [] rfl (fun h k => trivial) ⟨rfl, rfl⟩
theorem rnow_spec (b : Nat) (r : Ro) : Does Try.prog 28 #[pp b] (Fr (roA b r)) [] (fun v p => v = .int .i64 r.now ∧ p = []) := by
  refine Does.ofJ Try.func28 Try.call28 rfl [.raw (pp b)] [] 0 [] rfl rfl (fun h k => k) (fun f hR => ?_)
  refine RdRaw.mk (.int .i64 r.now) _ rfl (hR.ro 5 _ rfl) ?_
  exact FinOb.mk [.int .i64 r.now] [] rfl (fun h k => trivial) ⟨rfl, rfl⟩

/-! ### New ones -/
theorem ho_new {b : Nat} {n : Int} (h : HP) (k : pt b (.cells (Ho.new n).vals.toArray 93 (0, 0)) h) : hoA b (Ho.new n) h := ⟨h, HP.emp, .emp_right h, k, HP.emp, HP.emp, .emp_right _, vec_emp, trivial⟩
theorem hnew_ok (n : Int) (h0 : 1 ≤ n) (h1 : n ≤ 1048576) : Does Try.prog 40 #[.int .i64 n] (fun _ => True) [] (fun v p => ∃ b, v = .tuple #[pp b, .int .i64 0] ∧ p = [hoA b (Ho.new n)]) := by
  refine Does.ofJ Try.func40 Try.call40 rfl [.int .i64 n] [] 0 [] rfl rfl (fun h k => k) (fun f hR => ?_)
  refine RegOb.go ?_
  refine Br.mk (fun g => absurd (of_decide_eq_true g) (by omega)) (fun _ => ?_)
  refine CondOb.split (fun g => absurd (of_decide_eq_true g) (by omega)) (fun _ => ?_)
  intro b
  exact FinOb.mk [pp b, .int .i64 0] [hoA b (Ho.new n)] rfl (fun h k => sat_pick 0 rfl (fun h k => ho_new h (blk_to rfl rfl k)) (fun h k => sat_nil k) k) ⟨b, rfl, rfl⟩
theorem pa_new {b : Nat} {n : Int} (h : HP) (k : pt b (.cells (Pa.new n).vals.toArray 101 (0, 0)) h) : paA b (Pa.new n) h := ⟨h, HP.emp, .emp_right h, k, HP.emp, HP.emp, .emp_right _, vec_emp, HP.emp, HP.emp, .emp_right _, alls_nil, trivial⟩
theorem pnew_ok (n : Int) (h0 : 1 ≤ n) (h1 : n ≤ 1048576) : Does Try.prog 41 #[.int .i64 n] (fun _ => True) [] (fun v p => ∃ b, v = .tuple #[pp b, .int .i64 0] ∧ p = [paA b (Pa.new n)]) := by
  refine Does.ofJ Try.func41 Try.call41 rfl [.int .i64 n] [] 0 [] rfl rfl (fun h k => k) (fun f hR => ?_)
  refine RegOb.go ?_
  refine Br.mk (fun g => absurd (of_decide_eq_true g) (by omega)) (fun _ => ?_)
  refine CondOb.split (fun g => absurd (of_decide_eq_true g) (by omega)) (fun _ => ?_)
  intro b
  exact FinOb.mk [pp b, .int .i64 0] [paA b (Pa.new n)] rfl (fun h k => sat_pick 0 rfl (fun h k => pa_new h (blk_to rfl rfl k)) (fun h k => sat_nil k) k) ⟨b, rfl, rfl⟩
/-- Which times may be. -/
def Tm (l m f : Int) : Prop := 1 ≤ l ∧ l ≤ f ∧ f ≤ m ∧ m ≤ 1073741824
instance (l m f : Int) : Decidable (Tm l m f) := by unfold Tm; infer_instance
def Ro.new (l m f : Int) : Ro := ⟨l, m, 0, 0, false, f, 0⟩
theorem tnew_ok (l m f : Int) (h : Tm l m f) : Does Try.prog 42 #[.int .i64 l, .int .i64 m, .int .i64 f] (fun _ => True) [] (fun v p => ∃ b, v = .tuple #[pp b, .int .i64 0] ∧ p = [roA b (Ro.new l m f)]) := by
  obtain ⟨h0, h1, h2, h3⟩ := h
  refine Does.ofJ Try.func42 Try.call42 rfl [.int .i64 l, .int .i64 m, .int .i64 f] [] 0 [] rfl rfl (fun h k => k) (fun f hR => ?_)
  refine RegOb.go ?_
  refine Br.mk (fun g => absurd (of_decide_eq_true g) (by omega)) (fun _ => ?_)
  refine Br.mk (fun g => absurd (of_decide_eq_true g) (by omega)) (fun _ => ?_)
  refine Br.mk (fun g => absurd (of_decide_eq_true g) (by omega)) (fun _ => ?_)
  refine CondOb.split (fun g => absurd (of_decide_eq_true g) (by omega)) (fun _ => ?_)
  intro b
  exact FinOb.mk [pp b, .int .i64 0] [roA b (Ro.new l m _)] rfl (fun h k => sat_pick 0 rfl (fun h k => blk_to rfl rfl k) (fun h k => sat_nil k) k) ⟨b, rfl, rfl⟩
theorem tnew_bad (l m f : Int) (h : ¬ Tm l m f) : Does Try.prog 42 #[.int .i64 l, .int .i64 m, .int .i64 f] (fun _ => True) [] (fun v p => v = .tuple #[.pointer none, .int .i64 1] ∧ p = []) := by
  refine Does.ofJ Try.func42 Try.call42 rfl [.int .i64 l, .int .i64 m, .int .i64 f] [] 0 [] rfl rfl (fun h k => k) (fun f hR => ?_)
  refine RegOb.go ?_
  refine Br.mk (fun _ => ?_) (fun g0 => ?_)
  · exact FinOb.mk [.pointer none, .int .i64 1] [] rfl (fun h k => trivial) ⟨rfl, rfl⟩
  refine Br.mk (fun _ => ?_) (fun g1 => ?_)
  · exact FinOb.mk [.pointer none, .int .i64 1] [] rfl (fun h k => trivial) ⟨rfl, rfl⟩
  refine Br.mk (fun _ => ?_) (fun g2 => ?_)
  · exact FinOb.mk [.pointer none, .int .i64 1] [] rfl (fun h k => trivial) ⟨rfl, rfl⟩
  refine CondOb.split (fun _ => ?_) (fun g3 => ?_)
  · exact FinOb.mk [.pointer none, .int .i64 1] [] rfl (fun h k => trivial) ⟨rfl, rfl⟩
  have g0 := of_decide_eq_false g0
  have g1 := of_decide_eq_false g1
  have g2 := of_decide_eq_false g2
  have g3 := of_decide_eq_false g3
  exact absurd (show Tm l m _ from ⟨by omega, by omega, by omega, by omega⟩) h
def mn (x y : Int) : Int := if y < x then y else x
def mx (x y : Int) : Int := if y > x then y else x
def Co.new (n : Int) : Co := ⟨n, mn (IntKind.i64.wrap (4 * n)) (mx (IntKind.i64.wrap (2 * n)) 4380), 1073741824, 0, false⟩
theorem cnew_ok (n : Int) (h0 : 1 ≤ n) (h1 : n ≤ 65535) : Does Try.prog 43 #[.int .i64 n] (fun _ => True) [] (fun v p => ∃ b, v = .tuple #[pp b, .int .i64 0] ∧ p = [coA b (Co.new n)]) := by
  refine Does.ofJ Try.func43 Try.call43 rfl [.int .i64 n] [] 0 [] rfl rfl (fun h k => k) (fun f hR => ?_)
  refine RegOb.go ?_
  refine Br.mk (fun g => absurd (of_decide_eq_true g) (by omega)) (fun _ => ?_)
  refine CondOb.split (fun g => absurd (of_decide_eq_true g) (by omega)) (fun _ => ?_)
  intro b
  exact FinOb.mk [pp b, .int .i64 0] [coA b (Co.new n)] rfl (fun h k => sat_pick 0 rfl (fun h k => blk_to rfl rfl k) (fun h k => sat_nil k) k) ⟨b, rfl, rfl⟩
theorem chk_spec (n l h : Int) : Does Try.prog 61 #[.int .i64 n, .int .i64 l, .int .i64 h] (fun _ => True) [] (fun v p => v = .bool (decide (l ≤ n ∧ n ≤ h)) ∧ p = []) := by
  refine Does.ofJ Try.func61 Try.call61 rfl [.int .i64 n, .int .i64 l, .int .i64 h] [] 0 [] rfl rfl (fun h k => k) (fun f hR => ?_)
  refine RegOb.go ?_
  refine Br.mk (fun g => ?_) (fun g => ?_)
  · have g := of_decide_eq_true g
    exact FinOb.mk _ [] rfl (fun h k => trivial) ⟨by simp only [ret1]; congr 1; exact decide_eq_decide.2 ⟨fun q => ⟨g, q⟩, fun q => q.2⟩, rfl⟩
  · have g := of_decide_eq_false g
    exact FinOb.mk [.bool false] [] rfl (fun h k => trivial) ⟨by simp only [ret1]; congr 1; exact (decide_eq_false fun q => g q.1).symm, rfl⟩
/-- Which settings may be. -/
def Cf.Ok (c : Cf) : Prop := (88 ≤ c.mss ∧ c.mss ≤ 65455) ∧ (1 ≤ c.snd ∧ c.snd ≤ 1048576) ∧ (1 ≤ c.rcv ∧ c.rcv ≤ 1048576) ∧ Tm c.least c.most c.first ∧ c.most ≤ 1048576 ∧ (1 ≤ c.tries ∧ c.tries ≤ 30) ∧ (1 ≤ c.msl ∧ c.msl ≤ 1048576) ∧ (1 ≤ c.user ∧ c.user ≤ 1048576)
instance (c : Cf) : Decidable c.Ok := by unfold Cf.Ok; infer_instance
theorem nd {P : Prop} [Decidable P] (g : (!decide P) = true) : ¬ P := by simpa using g
theorem yd {P : Prop} [Decidable P] (g : (!decide P) = false) : P := by simpa using g
theorem check_spec (c : Cf) : Does Try.prog 39 #[.agg c.vals.toArray] (fun _ => True) [] (fun v p => v = .int .i64 (if c.Ok then 0 else 1) ∧ p = []) := by
  refine Does.ofJ Try.func39 Try.call39 rfl [.agg c.svs] [] 0 [] rfl rfl (fun h k => k) (fun f hR => ?_)
  intro b1
  refine RegOb.go ?_
  refine useP (.bool _) (chk_spec c.mss 88 65455) rfl rfl ?_
  refine Br.mk (fun g => ?_) (fun g1 => ?_)
  · exact FinOb.mk [.int .i64 1] [] rfl (fun h k => trivial) ⟨by rw [if_neg (fun q => nd g q.1)]; rfl, rfl⟩
  refine useP (.bool _) (chk_spec c.snd 1 1048576) rfl rfl ?_
  refine Br.mk (fun g => ?_) (fun g2 => ?_)
  · exact FinOb.mk [.int .i64 1] [] rfl (fun h k => trivial) ⟨by rw [if_neg (fun q => nd g q.2.1)]; rfl, rfl⟩
  refine useP (.bool _) (chk_spec c.rcv 1 1048576) rfl rfl ?_
  refine CondOb.split (fun g => ?_) (fun g3 => ?_)
  · exact FinOb.mk [.int .i64 1] [] rfl (fun h k => trivial) ⟨by rw [if_neg (fun q => nd g q.2.2.1)]; rfl, rfl⟩
  by_cases hT : Tm c.least c.most c.first
  rotate_left
  · refine useP (.tuple [.nilp, .int .i64 1]) (tnew_bad _ _ _ hT) rfl rfl ?_
    refine RegOb.go ?_
    refine Br.mk (fun _ => ?_) (fun h => absurd h (by decide))
    exact FinOb.mk [.int .i64 1] [] rfl (fun h k => trivial) ⟨by rw [if_neg (fun q => hT q.2.2.2.1)]; rfl, rfl⟩
  refine call_ix (tnew_ok _ _ _ hT) rfl [] (fun h k => k) (fun _ _ _ _ => trivial) ?_
  rintro v post ⟨b9, rfl, rfl⟩
  refine ⟨.tuple [.raw (pp b9), .int .i64 0], _, 1, [], NmExt.refl _, rfl, fun h k => trivial, ?_⟩
  refine RegOb.go ?_
  refine Br.mk (fun h => absurd h (by decide)) (fun _ => ?_)
  refine CondOb.split (fun g => ?_) (fun g4 => ?_)
  · exact FinOb.mk [.int .i64 1] [] rfl (fun h k => trivial) ⟨by rw [if_neg (fun q => (by have g := of_decide_eq_true g; have := q.2.2.2.2.1; omega))]; rfl, rfl⟩
  refine RegOb.go ?_
  refine useP (.bool _) (chk_spec c.tries 1 30) rfl rfl ?_
  refine Br.mk (fun g => ?_) (fun g5 => ?_)
  · exact FinOb.mk [.int .i64 1] [] rfl (fun h k => trivial) ⟨by rw [if_neg (fun q => nd g q.2.2.2.2.2.1)]; rfl, rfl⟩
  refine useP (.bool _) (chk_spec c.msl 1 1048576) rfl rfl ?_
  refine Br.mk (fun g => ?_) (fun g6 => ?_)
  · exact FinOb.mk [.int .i64 1] [] rfl (fun h k => trivial) ⟨by rw [if_neg (fun q => nd g q.2.2.2.2.2.2.1)]; rfl, rfl⟩
  refine useP (.bool _) (chk_spec c.user 1 1048576) rfl rfl ?_
  refine CondOb.split (fun g => ?_) (fun g7 => ?_)
  · exact FinOb.mk [.int .i64 1] [] rfl (fun h k => trivial) ⟨by rw [if_neg (fun q => nd g q.2.2.2.2.2.2.2)]; rfl, rfl⟩
  exact FinOb.mk [.int .i64 0] [] rfl (fun h k => trivial) ⟨by rw [if_pos ⟨yd g1, yd g2, yd g3, hT, by have g4 := of_decide_eq_false g4; omega, yd g5, yd g6, yd g7⟩]; rfl, rfl⟩
end Go.Proofs.Ytljgcapejcnmgaa.Tc
