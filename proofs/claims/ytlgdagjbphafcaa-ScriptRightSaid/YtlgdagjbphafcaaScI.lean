/- script: the setup is right. Conditions: none. -/
import Derived.Test.YtlgdagjbphafcaaScH
namespace Go.Proofs.Ytlgdagjbphafcaa.Sc
open Go Go.Proofs Sx
set_option maxRecDepth 100000
set_option linter.unusedVariables false
set_option linter.unusedSimpArgs false
set_option maxHeartbeats 4000000

theorem in_spec (n m : Int) (h0 : 1 ≤ n) (h1 : n ≤ m) : Does Try.prog 96 #[.int .i64 n, .int .i64 m] (fun _ => True) [] (fun v q => v = .bool true ∧ q = []) := by
  refine Does.of Try.func96 Try.call96 rfl [.int .i64 n, .int .i64 m] [] 0 [] rfl rfl (fun h k => k) (fun f hR => ?_)
  refine Br.mk (fun _ => ?_) (fun h => absurd h (by simp; omega))
  exact FinOb.mk _ [] rfl (fun h k => trivial) ⟨by simp [ret1]; omega, rfl⟩
theorem in3_spec (n a m : Int) (h0 : a ≤ n) (h1 : n ≤ m) : Does Try.prog 116 #[.int .i64 n, .int .i64 a, .int .i64 m] (fun _ => True) [] (fun v q => v = .bool true ∧ q = []) := by
  refine Does.of Try.func116 Try.call116 rfl [.int .i64 n, .int .i64 a, .int .i64 m] [] 0 [] rfl rfl (fun h k => k) (fun f hR => ?_)
  refine Br.mk (fun _ => ?_) (fun h => absurd h (by simp; omega))
  exact FinOb.mk _ [] rfl (fun h k => trivial) ⟨by simp [ret1]; omega, rfl⟩
theorem rto_spec (n : Int) (h0 : 1 ≤ n) (h1 : n ≤ 64) : Does Try.prog 117 #[.int .i64 1, .int .i64 64, .int .i64 n] (fun _ => True) [] (fun v q => v = .bool true ∧ q = []) := by
  refine Does.of Try.func117 Try.call117 rfl [.int .i64 1, .int .i64 64, .int .i64 n] [] 0 [] rfl rfl (fun h k => k) (fun f hR => ?_)
  refine Br.mk (fun _ => ?_) (fun h => absurd h (by simp))
  refine Br.mk (fun _ => ?_) (fun h => absurd h (by simp; omega))
  refine Br.mk (fun _ => ?_) (fun h => absurd h (by simp; omega))
  exact FinOb.mk _ [] rfl (fun h k => trivial) ⟨rfl, rfl⟩
theorem cfg_spec (L : List Int) (hb : ∀ x ∈ L, 0 ≤ x ∧ x ≤ 255) :
    Does Try.prog 97 #[.agg #[.int .i64 (88 + 2 * L.getD 3 0), .int .i64 (1 + 4 * L.getD 4 0), .int .i64 (1 + 4 * L.getD 5 0), .int .i64 1, .int .i64 64, .int .i64 (1 + L.getD 6 0 % 16), .int .i64 3, .int .i64 10, .int .i64 100]] (fun _ => True) [] (fun v q => v = .int .i64 0 ∧ q = []) := by
  refine Does.of Try.func97 Try.call97 rfl [.agg [.int .i64 (88 + 2 * L.getD 3 0), .int .i64 (1 + 4 * L.getD 4 0), .int .i64 (1 + 4 * L.getD 5 0), .int .i64 1, .int .i64 64, .int .i64 (1 + L.getD 6 0 % 16), .int .i64 3, .int .i64 10, .int .i64 100]] [] 0 [] rfl rfl (fun h k => k) (fun f hR => ?_)
  have u := byte hb
  have u3 := u 3
  have u4 := u 4
  have u5 := u 5
  have u6 := u 6
  intro b1
  refine useP (.bool true) (in3_spec _ 88 65455 (by omega) (by omega)) rfl rfl ?_
  refine Br.mk (fun _ => ?_) (fun h => absurd h (by decide))
  refine useP (.bool true) (in3_spec _ 1 1048576 (by omega) (by omega)) rfl rfl ?_
  refine Br.mk (fun _ => ?_) (fun h => absurd h (by decide))
  refine useP (.bool true) (in3_spec _ 1 1048576 (by omega) (by omega)) rfl rfl ?_
  refine Br.mk (fun _ => ?_) (fun h => absurd h (by decide))
  refine useP (.bool true) (rto_spec _ (by omega) (by omega)) rfl rfl ?_
  refine Br.mk (fun _ => ?_) (fun h => absurd h (by decide))
  refine Br.mk (fun _ => ?_) (fun h => absurd h (by decide))
  refine useP (.bool true) (in3_spec _ 1 30 (by omega) (by omega)) rfl rfl ?_
  refine Br.mk (fun _ => ?_) (fun h => absurd h (by decide))
  refine useP (.bool true) (in3_spec _ 1 1048576 (by omega) (by omega)) rfl rfl ?_
  refine Br.mk (fun _ => ?_) (fun h => absurd h (by decide))
  refine useP (.bool true) (in3_spec _ 1 1048576 (by omega) (by omega)) rfl rfl ?_
  refine CondOb.split (fun _ => ?_) (fun h => absurd h (by decide))
  exact FinOb.mk [.int .i64 0] [] rfl (fun h k => trivial) ⟨rfl, rfl⟩
def setS (L : List Int) : List SV :=
  [.int .i64 (1 + L.getD 0 0 % 3), .int .i64 (1 + L.getD 1 0 % 2), .int .i64 (128 + 8 * L.getD 2 0),
   .int .i64 (88 + 2 * L.getD 3 0), .int .i64 (1 + 4 * L.getD 4 0), .int .i64 (1 + 4 * L.getD 5 0), .int .i64 1, .int .i64 64, .int .i64 (1 + L.getD 6 0 % 16), .int .i64 3, .int .i64 10, .int .i64 100,
   .int .i64 8, .int .i64 (1 + L.getD 7 0 % 8), .int .u32 4294967232]
theorem right_spec (L : List Int) (hb : ∀ x ∈ L, 0 ≤ x ∧ x ≤ 255) :
    Does Try.prog 67 #[.agg (setV L).toArray] (fun _ => True) [] (fun v q => v = .bool true ∧ q = []) := by
  refine Does.of Try.func67 Try.call67 rfl [.agg (setS L)] [] 0 [] rfl rfl (fun h k => k) (fun f hR => ?_)
  have u := byte hb
  have u0 := u 0
  have u1 := u 1
  have u2 := u 2
  have u7 := u 7
  intro b1
  refine useP (.bool true) (in_spec _ 4 (by omega) (by omega)) rfl rfl ?_
  refine Br.mk (fun _ => ?_) (fun h => absurd h (by decide))
  refine useP (.bool true) (in_spec _ 4 (by omega) (by omega)) rfl rfl ?_
  refine Br.mk (fun _ => ?_) (fun h => absurd h (by decide))
  refine Br.mk (fun _ => ?_) (fun h => absurd h (by simp [-List.getD_eq_getElem?_getD]; omega))
  refine Br.mk (fun _ => ?_) (fun h => absurd h (by simp [-List.getD_eq_getElem?_getD]; omega))
  refine useP (.int .i64 0) (cfg_spec L hb) rfl rfl ?_
  refine Br.mk (fun _ => ?_) (fun h => absurd h (by decide))
  refine useP (.bool true) (in_spec _ 1024 (by omega) (by omega)) rfl rfl ?_
  refine Br.mk (fun _ => ?_) (fun h => absurd h (by decide))
  refine useP (.bool true) (in_spec _ 1024 (by omega) (by omega)) rfl rfl ?_
  exact FinOb.mk _ [] rfl (fun h k => trivial) ⟨rfl, rfl⟩
end Go.Proofs.Ytlgdagjbphafcaa.Sc
