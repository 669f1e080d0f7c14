/- script: which flags an entry may have. Conditions: none. -/
import Derived.Test.YtlgdagjbphafcaaScA
namespace Go.Proofs.Ytlgdagjbphafcaa.Sc
open Go Go.Proofs Sx
set_option maxRecDepth 100000
set_option linter.unusedVariables false
set_option maxHeartbeats 2000000

def allow (op : Int) : Int := if op = 5 then 4 else if op = 7 then 12 else if op = 12 then 16 else 0
theorem allow_spec (op : Int) : Does Try.prog 126 #[.int .u8 op] (fun _ => True) [] (fun v q => v = .int .u8 (allow op) ∧ q = []) := by
  refine Does.of Try.func126 Try.call126 rfl [.int .u8 op] [] 0 [] rfl rfl (fun h k => k) (fun f hR => ?_)
  refine CondOb.split (fun g => ?_) (fun g => ?_)
  · have g : op = 5 := by simpa using g
    exact FinOb.mk [.int .u8 4] [] rfl (fun h k => k) ⟨by subst g; rfl, rfl⟩
  have g : op ≠ 5 := by simpa using g
  refine CondOb.split (fun g2 => ?_) (fun g2 => ?_)
  · have g2 : op = 7 := by simpa using g2
    exact FinOb.mk [.int .u8 12] [] rfl (fun h k => k) ⟨by subst g2; rfl, rfl⟩
  have g2 : op ≠ 7 := by simpa using g2
  refine CondOb.split (fun g3 => ?_) (fun g3 => ?_)
  · have g3 : op = 12 := by simpa using g3
    exact FinOb.mk [.int .u8 16] [] rfl (fun h k => k) ⟨by subst g3; rfl, rfl⟩
  have g3 : op ≠ 12 := by simpa using g3
  exact FinOb.mk [.int .u8 0] [] rfl (fun h k => k) ⟨by simp [allow, g, g2, g3, ret1], rfl⟩
def okb (op bit : Int) : Bool := if bit = 4 then op == 5 || op == 7 else if bit = 8 then op == 7 else op == 12
theorem bit_ok : ∀ n : Nat, n < 14 → ∀ m : Nat, m < 3 → (bitsOf .u8 (fun a b => a &&& ~~~b) (4 * 2 ^ m : Nat) (bitsOf .u8 (· ||| ·) 3 (allow n)) != 0) = !okb n (4 * 2 ^ m : Nat) := by decide +kernel
theorem chk_spec (op bit : Int) (h0 : 0 ≤ op) (h1 : op < 14) (hb : bit = 4 ∨ bit = 8 ∨ bit = 16) :
    Does Try.prog 119 #[.agg #[.int .u8 op, .int .u8 bit, .int .i64 0, .int .u32 0, .int .u16 0, .int .i64 1, .int .i64 0, .int .i64 0, .int .u64 0, .int .u64 0, .slice none 0 0]] (fun _ => True) [] (fun v q => v = .int .i64 (if okb op bit = true then 0 else 260) ∧ q = []) := by
  have hw : (bitsOf .u8 (fun a b => a &&& ~~~b) bit (bitsOf .u8 (· ||| ·) 3 (allow op)) != 0) = !okb op bit := by
    obtain ⟨n, rfl⟩ : ∃ n : Nat, op = n := ⟨op.toNat, by omega⟩
    rcases hb with rfl | rfl | rfl
    · exact bit_ok n (by omega) 0 (by omega)
    · exact bit_ok n (by omega) 1 (by omega)
    · exact bit_ok n (by omega) 2 (by omega)
  have h3 : (bitsOf .u8 (· &&& ·) bit 3 == 3) = false := by rcases hb with rfl | rfl | rfl <;> decide +kernel
  have h31 : bit ≤ 31 := by omega
  refine Does.of Try.func119 Try.call119 rfl [.agg [.int .u8 op, .int .u8 bit, .int .i64 0, .int .u32 0, .int .u16 0, .int .i64 1, .int .i64 0, .int .i64 0, .int .u64 0, .int .u64 0, .nils]] [] 0 [] rfl rfl (fun h k => k) (fun f hR => ?_)
  intro b1
  refine DrawOb.mk [(19, [15, 16])] (.run [0, 1, 2, 3, 4, 5, 6, 7, 8, 9, 10, 11, 12, 13, 14, 15, 16, 17, 18, 19, 20, 21, 22, 23, 24] .nil) (by kernel_rfl) ?_
  refine Br.mk (fun h => absurd h (by simp; omega)) (fun _ => ?_)
  refine Br.mk (fun h => absurd h (by simp; omega)) (fun _ => ?_)
  refine Br.mk (fun h => absurd h (by rw [h3]; decide)) (fun _ => ?_)
  refine useP (.int .u8 (allow op)) (allow_spec op) rfl rfl ?_
  refine Need.mk rfl ?_
  refine CondOb.split (fun g7 => ?_) (fun g7 => ?_)
  · have g7 : op = 7 := by simpa using g7
    refine CondOb.split (fun g8 => ?_) (fun g8 => ?_)
    · refine Br.mk (fun h => ?_) (fun h => ?_)
      · refine CondOb.split (fun g => absurd g (by simp; omega)) (fun _ => ?_)
        have okF : okb op bit = false := by rw [hw] at h; simpa using h
        exact FinOb.mk [.int .i64 260] [] rfl (fun h k => trivial) ⟨by rw [okF]; rfl, rfl⟩
      · refine Br.mk (fun h => absurd h (by decide)) (fun _ => ?_)
        refine CondOb.split (fun g => absurd g (by simp; omega)) (fun _ => ?_)
        refine Br.mk (fun h => absurd h (by decide)) (fun _ => ?_)
        refine CondOb.split (fun g => absurd g (by decide)) (fun _ => ?_)
        have okT : okb op bit = true := by rw [hw] at h; simpa using h
        exact FinOb.mk [.int .i64 0] [] rfl (fun h k => trivial) ⟨by rw [okT]; rfl, rfl⟩
    · refine Br.mk (fun h => ?_) (fun h => ?_)
      · refine CondOb.split (fun g => absurd g (by simp; omega)) (fun _ => ?_)
        have okF : okb op bit = false := by rw [hw] at h; simpa using h
        exact FinOb.mk [.int .i64 260] [] rfl (fun h k => trivial) ⟨by rw [okF]; rfl, rfl⟩
      · refine Br.mk (fun h => absurd h (by decide)) (fun _ => ?_)
        refine CondOb.split (fun g => absurd g (by simp; omega)) (fun _ => ?_)
        refine Br.mk (fun h => absurd h (by decide)) (fun _ => ?_)
        refine CondOb.split (fun g => absurd g (by decide)) (fun _ => ?_)
        have okT : okb op bit = true := by rw [hw] at h; simpa using h
        exact FinOb.mk [.int .i64 0] [] rfl (fun h k => trivial) ⟨by rw [okT]; rfl, rfl⟩
  have g7 : op ≠ 7 := by simpa using g7
  refine CondOb.split (fun g10 => ?_) (fun g10 => ?_)
  · refine CondOb.split (fun _ => ?_) (fun h => absurd g10 (by rw [h]; decide))
    have g10 : op = 10 := by simpa using g10
    refine Br.mk (fun h => ?_) (fun h => ?_)
    · refine CondOb.split (fun g => absurd g (by simp; omega)) (fun _ => ?_)
      have okF : okb op bit = false := by rw [hw] at h; simpa using h
      exact FinOb.mk [.int .i64 260] [] rfl (fun h k => trivial) ⟨by rw [okF]; rfl, rfl⟩
    · refine CondOb.split (fun g => absurd g (by simp; omega)) (fun _ => ?_)
      refine Br.mk (fun h => absurd h (by decide)) (fun _ => ?_)
      refine CondOb.split (fun g => absurd g (by decide)) (fun _ => ?_)
      have okT : okb op bit = true := by rw [hw] at h; simpa using h
      exact FinOb.mk [.int .i64 0] [] rfl (fun h k => trivial) ⟨by rw [okT]; rfl, rfl⟩
  refine CondOb.split (fun g11 => ?_) (fun g11 => ?_)
  · have g11 : op = 11 := by simpa using g11
    refine Br.mk (fun h => ?_) (fun h => ?_)
    · refine CondOb.split (fun g => absurd g (by simp; omega)) (fun _ => ?_)
      have okF : okb op bit = false := by rw [hw] at h; simpa using h
      exact FinOb.mk [.int .i64 260] [] rfl (fun h k => trivial) ⟨by rw [okF]; rfl, rfl⟩
    · refine CondOb.split (fun g => absurd g (by simp; omega)) (fun _ => ?_)
      refine Br.mk (fun h => absurd h (by decide)) (fun _ => ?_)
      refine CondOb.split (fun g => absurd g (by decide)) (fun _ => ?_)
      have okT : okb op bit = true := by rw [hw] at h; simpa using h
      exact FinOb.mk [.int .i64 0] [] rfl (fun h k => trivial) ⟨by rw [okT]; rfl, rfl⟩
  refine CondOb.split (fun g6 => ?_) (fun g6 => ?_)
  · refine Br.mk (fun h => ?_) (fun h => ?_)
    · have okF : okb op bit = false := by rw [hw] at h; simpa using h
      exact FinOb.mk [.int .i64 260] [] rfl (fun h k => trivial) ⟨by rw [okF]; rfl, rfl⟩
    · refine CondOb.split (fun g => absurd g (by decide)) (fun _ => ?_)
      have okT : okb op bit = true := by rw [hw] at h; simpa using h
      exact FinOb.mk [.int .i64 0] [] rfl (fun h k => trivial) ⟨by rw [okT]; rfl, rfl⟩
  · refine Br.mk (fun h => ?_) (fun h => ?_)
    · have okF : okb op bit = false := by rw [hw] at h; simpa using h
      exact FinOb.mk [.int .i64 260] [] rfl (fun h k => trivial) ⟨by rw [okF]; rfl, rfl⟩
    · refine CondOb.split (fun g => absurd g (by decide)) (fun _ => ?_)
      have okT : okb op bit = true := by rw [hw] at h; simpa using h
      exact FinOb.mk [.int .i64 0] [] rfl (fun h k => trivial) ⟨by rw [okT]; rfl, rfl⟩
end Go.Proofs.Ytlgdagjbphafcaa.Sc
