/- script: the law of ScriptRight over the frame of a row. Conditions: none. -/
import Derived.Test.YtlgdagjbphafcaaScL
namespace Go.Proofs.Ytlgdagjbphafcaa.Sc
open Go Go.Proofs Sx
set_option maxRecDepth 100000
set_option linter.unusedVariables false
theorem c5 : Try.prog.cellsOf 5 = 1 := by kernel_rfl
/-- A slice of small numbers. -/
theorem u8_list {f : HP} {A : Option Addr} {len cap : Nat} (h : RdS Try.prog f 3 23 [.slice A len cap]) : ∃ L : List Int, L.length = len ∧ len ≤ cap ∧ cap ≤ 140737488355328 ∧ (∀ x ∈ L, 0 ≤ x ∧ x ≤ 255) ∧ Reads f A (U8.flat L) := by
  obtain ⟨L, h1, h2, h3, h4⟩ := RdS.list (φ := fun f cs (x : Int) => cs = [.int .u8 x] ∧ 0 ≤ x ∧ x ≤ 255) Try.underlying23 c5 (by omega) (of_decide_eq_true (by kernel_rfl)) h (fun cs hl hr => by
    obtain ⟨m, e1, e2⟩ := RdS.int Try.underlying5 hr
    have hm : 0 ≤ m ∧ m ≤ 255 := by simp [Lit.wf] at e2; exact e2
    exact ⟨m, e1, hm⟩)
  refine ⟨L, h1, h2, Nat.le_trans h3 (by unfold reachBytes; omega), fun x hx => ?_, fun i v hv => ?_⟩
  · obtain ⟨i, hi, rfl⟩ := List.getElem_of_mem hx
    obtain ⟨_, _, _, _, _, _, h5⟩ := h4 i _ (List.getElem?_eq_getElem hi)
    exact h5
  · have hl : i < L.length := by have := (List.getElem?_eq_some_iff.1 hv).1; rw [lU] at this; exact this
    have hx := List.getElem?_eq_getElem hl
    obtain ⟨b, o, cs, e1, e2, e3, _⟩ := h4 i _ hx
    refine ⟨b, o, e1, ?_⟩
    have e4 := U8.flat_at hx (j := 0) rfl
    have e5 : i * U8.sz + 0 = i := by simp [ints]
    rw [e5, hv] at e4
    have := e2 0 (.int .u8 L[i]) (by rw [e3]; rfl)
    rw [Nat.mul_one, Nat.add_zero] at this
    rw [this, e4]
theorem right_law (A : Option Addr) (len cap : Nat) : Does Try.prog 12 #[.slice A len cap] (fun f => RdS Try.prog f 3 23 [.slice A len cap]) [] (fun v q => v = .bool true ∧ q = []) := by
  refine ⟨Try.call12, fun f w hR hat => ?_⟩
  obtain ⟨L, rfl, h1, h2, h3, h4⟩ := u8_list hR
  exact (right_walk A cap L h1 h3 (by omega)).run f w h4 hat
end Go.Proofs.Ytlgdagjbphafcaa.Sc
