/- wheel: the arguments of the laws. Conditions: none. -/
import Derived.Test.YtiknkeakielncaaWhW
namespace Go.Proofs.Ytiknkeakielncaa.Wh
open Go Go.Proofs Sx
set_option maxRecDepth 100000
set_option linter.unusedVariables false
set_option linter.unusedSimpArgs false

theorem c3 : Try.prog.cellsOf 3 = 1 := by kernel_rfl
theorem b3 : 0 < Try.prog.bytesOf 3 := of_decide_eq_true (by kernel_rfl)
theorem c31 : Try.prog.cellsOf 31 = 1 := by kernel_rfl
theorem b31 : 0 < Try.prog.bytesOf 31 := of_decide_eq_true (by kernel_rfl)
theorem c55 : Try.prog.cellsOf 55 = 3 := by kernel_rfl
theorem b55 : 0 < Try.prog.bytesOf 55 := of_decide_eq_true (by kernel_rfl)
theorem a_reads {f : HP} {n : Nat} {cs : List Value} (h : RdS Try.prog f (n + 2) 55 cs) : ∃ a : A, cs = a.vals := by
  have hl := RdS.cells Try.underlying55 h
  rw [c55] at hl
  match cs, hl with
  | [x0, x1, x2], _ =>
  obtain ⟨a0, h0, _⟩ := RdS.int Try.underlying3 (RdS.field Try.underlying55 h 0 rfl (ds := [x0]) (by simp only [c3]; rfl))
  obtain ⟨a1, h1, _⟩ := RdS.int Try.underlying3 (RdS.field Try.underlying55 h 1 rfl (ds := [x1]) (by simp only [c3]; rfl))
  obtain ⟨a2, h2, _⟩ := RdS.int Try.underlying3 (RdS.field Try.underlying55 h 2 rfl (ds := [x2]) (by simp only [c3]; rfl))
  simp only [List.cons.injEq, and_true] at h0 h1 h2
  subst h0; subst h1; subst h2
  exact ⟨⟨a0, a1, a2⟩, rfl⟩
theorem acts_of {f : HP} {A0 : Option Addr} {len cap : Nat} (h : RdS Try.prog f 6 53 [.slice A0 len cap]) : ∃ acts : List A, acts.length = len ∧ len ≤ reachBytes ∧ Reads f A0 (AL.flat acts) := by
  obtain ⟨ms, h1, h2, h3, h4⟩ := RdS.list (φ := fun f cs (m : A) => cs = m.vals) Try.underlying53 c55 (by omega) b55 h (fun cs hl hr => a_reads (n := 3) hr)
  refine ⟨ms, h1, by omega, reads_of (by decide) (fun i x hx => ?_)⟩
  obtain ⟨b, o, cs, e1, e2, e3⟩ := h4 i x hx
  subst e3
  exact ⟨b, o, e1, e2⟩
theorem ints_of {f : HP} {A0 : Option Addr} {len cap : Nat} (h : RdS Try.prog f 6 32 [.slice A0 len cap]) : ∃ l : List Int, l.length = len ∧ len ≤ reachBytes ∧ Reads f A0 (IL.flat l) := by
  obtain ⟨ms, h1, h2, h3, h4⟩ := RdS.list (φ := fun f cs (m : Int) => cs = [.int .i64 m]) Try.underlying32 c3 (by omega) b3 h (fun cs hl hr => by obtain ⟨m, e, _⟩ := RdS.int (n := 4) Try.underlying3 hr; exact ⟨m, e⟩)
  refine ⟨ms, h1, by omega, reads_of (by decide) (fun i x hx => ?_)⟩
  obtain ⟨b, o, cs, e1, e2, e3⟩ := h4 i x hx
  subst e3
  exact ⟨b, o, e1, e2⟩
theorem u32s_of {f : HP} {A0 : Option Addr} {len cap : Nat} (h : RdS Try.prog f 6 22 [.slice A0 len cap]) : ∃ l : List Int, l.length = len ∧ len ≤ reachBytes ∧ (∀ x ∈ l, 0 ≤ x ∧ x ≤ 4294967295) ∧ Reads f A0 (UI.flat l) := by
  obtain ⟨ms, h1, h2, h3, h4⟩ := RdS.list (φ := fun f cs (m : Int) => cs = [.int .u32 m] ∧ (Lit.int .u32 m).wf = true) Try.underlying22 c31 (by omega) b31 h (fun cs hl hr => by obtain ⟨m, e, w⟩ := RdS.int (n := 4) Try.underlying31 hr; exact ⟨m, e, w⟩)
  refine ⟨ms, h1, by omega, fun m hm => ?_, reads_of (by decide) (fun i x hx => ?_)⟩
  · obtain ⟨i, hi, rfl⟩ := List.getElem_of_mem hm
    obtain ⟨_, _, _, _, _, _, w⟩ := h4 i _ (List.getElem?_eq_getElem hi)
    simp [Lit.wf] at w; exact w
  · obtain ⟨b, o, cs, e1, e2, e3, _⟩ := h4 i x hx
    subst e3
    exact ⟨b, o, e1, e2⟩
theorem reach_lt : reachBytes ≤ 9223372036854775807 := by unfold reachBytes; decide
theorem plays_law (a : Int) (A0 : Option Addr) (len cap : Nat) : Does Try.prog 9 #[.int .i64 a, .slice A0 len cap] (fun f => RdS Try.prog f 6 53 [.slice A0 len cap]) [] (fun v q => v = .bool true ∧ q = []) := by
  refine ⟨Try.call9, fun f w0 hR hat => ?_⟩
  obtain ⟨acts, rfl, hl, hr⟩ := acts_of hR
  exact (plays_spec A0 cap acts a (Nat.le_trans hl reach_lt)).run f w0 hr hat
theorem steps_law (A0 : Option Addr) (len cap : Nat) (B0 : Option Addr) (lb cb : Nat) : Does Try.prog 6 #[.slice A0 len cap, .slice B0 lb cb] (fun f => RdS Try.prog f 6 53 [.slice A0 len cap] ∧ RdS Try.prog f 6 32 [.slice B0 lb cb]) [] (fun v q => v = .bool true ∧ q = []) := by
  refine ⟨Try.call6, fun f w0 hR hat => ?_⟩
  obtain ⟨acts, rfl, hl, hr⟩ := acts_of hR.1
  obtain ⟨l, rfl, hl2, hr2⟩ := ints_of hR.2
  exact (steps_spec A0 B0 cap cb acts l (Nat.le_trans hl reach_lt) (Nat.le_trans hl2 reach_lt)).run f w0 ⟨hr, hr2⟩ hat
theorem once_law (A0 : Option Addr) (len cap : Nat) (B0 : Option Addr) (lb cb : Nat) : Does Try.prog 3 #[.slice A0 len cap, .slice B0 lb cb] (fun f => RdS Try.prog f 6 22 [.slice A0 len cap] ∧ RdS Try.prog f 6 22 [.slice B0 lb cb]) [] (fun v q => v = .bool true ∧ q = []) := by
  refine ⟨Try.call3, fun f w0 hR hat => ?_⟩
  obtain ⟨l1, rfl, hl, hg, hr⟩ := u32s_of hR.1
  obtain ⟨l2, rfl, hl2, hg2, hr2⟩ := u32s_of hR.2
  exact (once_spec A0 B0 cap cb l1 l2 hg hg2 (Nat.le_trans hl reach_lt) (Nat.le_trans hl2 reach_lt)).run f w0 ⟨hr, hr2⟩ hat
theorem u16_of {a : Int} (w : (Lit.int .u16 a).wf = true) : 0 ≤ a ∧ a ≤ 65535 := by simp [Lit.wf] at w; exact w
theorem full_law (a b : Int) (wa : (Lit.int .u16 a).wf = true) (wb : (Lit.int .u16 b).wf = true) : Does Try.prog 7 #[.int .u16 a, .int .u16 b] (fun _ => True) [] (fun v q => v = .bool true ∧ q = []) :=
  full_spec a b (u16_of wa).1 (u16_of wa).2 (u16_of wb).1 (u16_of wb).2
theorem nils_law (x : Array Value) : Does Try.prog 10 #[.agg x] (fun f => RdS Try.prog f 6 55 x.toList) [] (fun v q => v = .bool true ∧ q = []) := by
  refine ⟨Try.call10, fun f w0 hR hat => ?_⟩
  obtain ⟨a, e⟩ := a_reads (n := 4) hR
  obtain rfl : x = a.vals.toArray := by rw [← e]
  exact (nils_spec a).run f w0 trivial hat
end Go.Proofs.Ytiknkeakielncaa.Wh
