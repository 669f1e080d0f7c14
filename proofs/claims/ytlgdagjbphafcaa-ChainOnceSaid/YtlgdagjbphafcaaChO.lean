/- The law of ChainOnce over the frame of a row. Conditions: none. -/
import Derived.Test.YtlgdagjbphafcaaChN
import Derived.Test.YtlgdagjbphafcaaChG
namespace Go.Proofs.Ytlgdagjbphafcaa.Ch
open Go Go.Proofs Sx
set_option maxRecDepth 100000
set_option linter.unusedVariables false
theorem c5' : Try.prog.cellsOf 5 = 1 := by kernel_rfl
/-- A slice of small numbers. -/
theorem u8_list {f : HP} {A : Option Addr} {len cap : Nat} (h : RdS Try.prog f 3 23 [.slice A len cap]) : ∃ L : List Int, L.length = len ∧ (∀ x ∈ L, 0 ≤ x ∧ x ≤ 255) ∧ Reads f A (U8.flat L) := by
  obtain ⟨L, h1, h2, h3, h4⟩ := RdS.list (φ := fun f cs (x : Int) => cs = [.int .u8 x] ∧ 0 ≤ x ∧ x ≤ 255) Try.underlying23 c5' (by omega) (of_decide_eq_true (by kernel_rfl)) h (fun cs hl hr => by
    obtain ⟨m, e1, e2⟩ := RdS.int Try.underlying5 hr
    have hm : 0 ≤ m ∧ m ≤ 255 := by simp [Lit.wf] at e2; exact e2
    exact ⟨m, e1, hm⟩)
  refine ⟨L, h1, fun x hx => ?_, fun i v hv => ?_⟩
  · obtain ⟨i, hi⟩ := mem_at hx
    obtain ⟨_, _, _, _, _, _, h5⟩ := h4 i x hi
    exact h5
  · have hl : i < L.length := by have := (List.getElem?_eq_some_iff.1 hv).1; rw [U8.flat_length] at this; simpa [ints] using this
    have hx := List.getElem?_eq_getElem hl
    obtain ⟨b, o, cs, e1, e2, e3, _⟩ := h4 i _ hx
    refine ⟨b, o, e1, ?_⟩
    have e4 := U8.flat_at hx (j := 0) rfl
    have e5 : i * U8.sz + 0 = i := by simp [ints]
    rw [e5, hv] at e4
    have := e2 0 (.int .u8 L[i]) (by rw [e3]; rfl)
    rw [Nat.mul_one, Nat.add_zero] at this
    rw [this, e4]
theorem bool_list {f : HP} {A : Option Addr} {len cap : Nat} (h : RdS Try.prog f 3 24 [.slice A len cap]) : ∃ L : List Bool, L.length = len ∧ Reads f A (bools.flat L) := by
  obtain ⟨L, h1, h2, h3, h4⟩ := RdS.list (φ := fun f cs (x : Bool) => cs = [.bool x]) Try.underlying24 c4 (by omega) (of_decide_eq_true (by kernel_rfl)) h (fun cs hl hr => RdS.bool Try.underlying4 hr)
  refine ⟨L, h1, fun i v hv => ?_⟩
  have hl : i < L.length := by have := (List.getElem?_eq_some_iff.1 hv).1; rw [bools.flat_length] at this; simpa [bools] using this
  have hx := List.getElem?_eq_getElem hl
  obtain ⟨b, o, cs, e1, e2, e3⟩ := h4 i _ hx
  refine ⟨b, o, e1, ?_⟩
  have e4 := bools.flat_at hx (j := 0) rfl
  have e5 : i * bools.sz + 0 = i := by simp [bools]
  rw [e5, hv] at e4
  have := e2 0 (.bool L[i]) (by rw [e3]; rfl)
  rw [Nat.mul_one, Nat.add_zero] at this
  rw [this, e4]
theorem once_law (A : Option Addr) (len cap : Nat) (E : Option Addr) (le ce : Nat) (O : Option Addr) (lo co : Nat) :
    Does Try.prog 8 #[.slice A len cap, .slice E le ce, .slice O lo co] (fun f => RdS Try.prog f 3 23 [.slice A len cap] ∧ RdS Try.prog f 3 24 [.slice E le ce] ∧ RdS Try.prog f 3 24 [.slice O lo co]) [] (fun v q => v = .bool true ∧ q = []) := by
  refine ⟨Try.call8, fun f w hR hat => ?_⟩
  obtain ⟨fl, rfl, h1, h2⟩ := u8_list hR.1
  obtain ⟨nd, rfl, h3⟩ := bool_list hR.2.1
  obtain ⟨oks, rfl, h4⟩ := bool_list hR.2.2
  exact (once_spec fl nd oks A E O cap ce co h1).run f w ⟨h2, h3, h4⟩ hat
end Go.Proofs.Ytlgdagjbphafcaa.Ch
