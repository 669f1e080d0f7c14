/- agenda: the arguments of the laws. Conditions: none. -/
import Derived.Test.YtiknkeakielncaaAgV
namespace Go.Proofs.Ytiknkeakielncaa.Ag
open Go Go.Proofs Sx
set_option maxRecDepth 100000
set_option linter.unusedVariables false
set_option linter.unusedSimpArgs false

theorem b3 : 0 < Try.prog.bytesOf 3 := of_decide_eq_true (by kernel_rfl)
theorem c103 : Try.prog.cellsOf 103 = 4 := by kernel_rfl
theorem b103 : 0 < Try.prog.bytesOf 103 := of_decide_eq_true (by kernel_rfl)
theorem it_reads2 {f : HP} {n : Nat} {cs : List Value} (h : RdS Try.prog f (n + 2) 65 cs) : ∃ a : En, cs = a.item ∧ a.at_ ≤ 9223372036854775807 := by
  have hl := RdS.cells Try.underlying65 h
  rw [c65] at hl
  match cs, hl with
  | [x0, x1, x2], _ =>
  obtain ⟨a0, h0, _⟩ := RdS.int Try.underlying3 (RdS.field Try.underlying65 h 0 rfl (ds := [x0]) (by simp only [c3]; rfl))
  obtain ⟨a1, h1, w⟩ := RdS.int Try.underlying3 (RdS.field Try.underlying65 h 1 rfl (ds := [x1]) (by simp only [c3]; rfl))
  obtain ⟨a2, h2, _⟩ := RdS.int Try.underlying3 (RdS.field Try.underlying65 h 2 rfl (ds := [x2]) (by simp only [c3]; rfl))
  simp only [List.cons.injEq, and_true] at h0 h1 h2
  subst h0; subst h1; subst h2
  exact ⟨⟨0, a0, a1, a2, 0⟩, rfl, by simp [Lit.wf] at w; exact w.2⟩
theorem a_reads {f : HP} {n : Nat} {cs : List Value} (h : RdS Try.prog f (n + 3) 103 cs) : ∃ a : A, cs = a.vals := by
  have hl := RdS.cells Try.underlying103 h
  rw [c103] at hl
  match cs, hl with
  | [x0, x1, x2, x3], _ =>
  obtain ⟨a0, h0, _⟩ := RdS.int Try.underlying3 (RdS.field Try.underlying103 h 0 rfl (ds := [x0]) (by simp only [c3]; rfl))
  obtain ⟨x, hx⟩ := it_reads (n := n) (RdS.field Try.underlying103 h 1 rfl (ds := [x1, x2, x3]) (by simp only [c65]; rfl))
  simp only [List.cons.injEq, and_true] at h0
  subst h0
  exact ⟨⟨a0, x⟩, by rw [hx]; rfl⟩
theorem acts_of {f : HP} {A0 : Option Addr} {len cap : Nat} (h : RdS Try.prog f 6 101 [.slice A0 len cap]) : ∃ acts : List A, acts.length = len ∧ len ≤ reachBytes ∧ Reads f A0 (AL.flat acts) := by
  obtain ⟨ms, h1, h2, h3, h4⟩ := RdS.list (φ := fun f cs (m : A) => cs = m.vals) Try.underlying101 c103 (by omega) b103 h (fun cs hl hr => a_reads (n := 2) hr)
  refine ⟨ms, h1, by omega, reads_of (by decide) (fun i x hx => ?_)⟩
  obtain ⟨b, o, cs, e1, e2, e3⟩ := h4 i x hx
  subst e3
  exact ⟨b, o, e1, e2⟩
theorem items_of {f : HP} {A0 : Option Addr} {len cap : Nat} (h : RdS Try.prog f 6 59 [.slice A0 len cap]) : ∃ l : List En, l.length = len ∧ len ≤ reachBytes ∧ (∀ x ∈ l, x.at_ ≤ 9223372036854775807) ∧ Reads f A0 (TL.flat l) := by
  obtain ⟨ms, h1, h2, h3, h4⟩ := RdS.list (φ := fun f cs (m : En) => cs = m.item ∧ m.at_ ≤ 9223372036854775807) Try.underlying59 c65 (by omega) b65 h (fun cs hl hr => it_reads2 (n := 3) hr)
  refine ⟨ms, h1, by omega, fun m hm => ?_, reads_of (by decide) (fun i x hx => ?_)⟩
  · obtain ⟨i, hi, rfl⟩ := List.getElem_of_mem hm
    obtain ⟨_, _, _, _, _, _, w⟩ := h4 i _ (List.getElem?_eq_getElem hi)
    exact w
  · obtain ⟨b, o, cs, e1, e2, e3, _⟩ := h4 i x hx
    subst e3
    exact ⟨b, o, e1, e2⟩
theorem ints_of {f : HP} {A0 : Option Addr} {len cap : Nat} (h : RdS Try.prog f 6 32 [.slice A0 len cap]) : ∃ l : List Int, l.length = len ∧ len ≤ reachBytes ∧ Reads f A0 (IL.flat l) := by
  obtain ⟨ms, h1, h2, h3, h4⟩ := RdS.list (φ := fun f cs (m : Int) => cs = [.int .i64 m]) Try.underlying32 c3 (by omega) b3 h (fun cs hl hr => by obtain ⟨m, e, _⟩ := RdS.int (n := 4) Try.underlying3 hr; exact ⟨m, e⟩)
  refine ⟨ms, h1, by omega, reads_of (by decide) (fun i x hx => ?_)⟩
  obtain ⟨b, o, cs, e1, e2, e3⟩ := h4 i x hx
  subst e3
  exact ⟨b, o, e1, e2⟩
theorem reach_lt : reachBytes ≤ 9223372036854775807 := by unfold reachBytes; decide
theorem plays_law (a : Int) (A0 : Option Addr) (len cap : Nat) : Does Try.prog 13 #[.int .i64 a, .slice A0 len cap] (fun f => RdS Try.prog f 6 101 [.slice A0 len cap]) [] (fun v q => v = .bool true ∧ q = []) := by
  refine ⟨Try.call13, fun f w0 hR hat => ?_⟩
  obtain ⟨acts, rfl, hl, hr⟩ := acts_of hR
  exact (plays_spec A0 cap acts a (Nat.le_trans hl reach_lt)).run f w0 hr hat
theorem once_law (A0 : Option Addr) (len cap : Nat) (B0 : Option Addr) (lb cb : Nat) : Does Try.prog 8 #[.slice A0 len cap, .slice B0 lb cb] (fun f => RdS Try.prog f 6 59 [.slice A0 len cap] ∧ RdS Try.prog f 6 32 [.slice B0 lb cb]) [] (fun v q => v = .bool true ∧ q = []) := by
  refine ⟨Try.call8, fun f w0 hR hat => ?_⟩
  obtain ⟨l1, rfl, hl, hg, hr⟩ := items_of hR.1
  obtain ⟨l2, rfl, hl2, hr2⟩ := ints_of hR.2
  exact (once_spec A0 B0 cap cb l1 l2 (Nat.le_trans hl reach_lt) (Nat.le_trans hl2 reach_lt) hg).run f w0 ⟨hr, hr2⟩ hat
end Go.Proofs.Ytiknkeakielncaa.Ag
