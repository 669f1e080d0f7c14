/- The law of ChainPlays over the frame of a row. Conditions: none. -/
import Derived.Test.YtlgdagjbphafcaaChV
namespace Go.Proofs.Ytlgdagjbphafcaa.Ch
open Go Go.Proofs Sx
set_option maxRecDepth 100000
set_option linter.unusedVariables false
theorem act_list {f : HP} {A : Option Addr} {len cap : Nat} (h : RdS Try.prog f 4 113 [.slice A len cap]) : ∃ L : List Act, L.length = len ∧ (∀ x ∈ L, 0 ≤ x.fl ∧ x.fl ≤ 255) ∧ Reads f A (AL.flat L) := by
  obtain ⟨L, h1, h2, h3, h4⟩ := RdS.list (φ := fun f cs (x : Act) => cs = AL.cells x ∧ 0 ≤ x.fl ∧ x.fl ≤ 255) Try.underlying113 c118 (by omega) (of_decide_eq_true (by kernel_rfl)) h (fun cs hl hr => by
    obtain ⟨d, id, fl, ok, e1, e2⟩ := act_reads (n := 1) hr
    exact ⟨⟨d, id, fl, ok⟩, e1, e2⟩)
  refine ⟨L, h1, fun x hx => ?_, fun i v hv => ?_⟩
  · obtain ⟨i, hi⟩ := mem_at hx
    obtain ⟨_, _, _, _, _, _, h5⟩ := h4 i x hi
    exact h5
  · have hl : i < L.length * 4 := by have := (List.getElem?_eq_some_iff.1 hv).1; rw [AL.flat_length] at this; exact this
    have hx := List.getElem?_eq_getElem (show i / 4 < L.length by omega)
    obtain ⟨b, o, cs, e1, e2, e3, _⟩ := h4 (i / 4) _ hx
    refine ⟨b, o, e1, ?_⟩
    have hj : i % 4 < (AL.cells L[i / 4]).length := by rw [AL.len]; show i % 4 < 4; omega
    have e4 := AL.flat_at hx (List.getElem?_eq_getElem hj)
    have e5 : i / 4 * AL.sz + i % 4 = i := by show i / 4 * 4 + i % 4 = i; omega
    rw [e5, hv] at e4
    have := e2 (i % 4) _ (by rw [e3]; exact List.getElem?_eq_getElem hj)
    have e6 : o + i / 4 * 4 + i % 4 = o + i := by omega
    rw [e6] at this
    rw [this, ← e4]
theorem plays_law (A : Option Addr) (len cap : Nat) : Does Try.prog 13 #[.slice A len cap] (fun f => RdS Try.prog f 4 113 [.slice A len cap]) [] (fun v q => v = .bool true ∧ q = []) := by
  refine ⟨Try.call13, fun f w hR hat => ?_⟩
  obtain ⟨L, rfl, h1, h2⟩ := act_list hR
  exact (plays_spec L A cap h1).run f w h2 hat
end Go.Proofs.Ytlgdagjbphafcaa.Ch
