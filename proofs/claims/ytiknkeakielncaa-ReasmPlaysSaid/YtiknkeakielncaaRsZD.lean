/- reasm: the arguments of ReasmPlays. Conditions: none. -/
import Derived.Test.YtiknkeakielncaaRsZC
namespace Go.Proofs.Ytiknkeakielncaa.Rs
open Go Go.Proofs Sx
set_option maxRecDepth 100000
set_option linter.unusedVariables false
set_option linter.unusedSimpArgs false

theorem cAct : Try.prog.cellsOf 90 = 13 := by kernel_rfl
theorem bAct : 0 < Try.prog.bytesOf 90 := of_decide_eq_true (by kernel_rfl)
structure Ac.Good (f : HP) (a : Ac) : Prop where
  s : a.i.Sees f
  o : a.i.p.opts.length ≤ a.i.co
  d : a.i.p.data.length ≤ a.i.cd
theorem ac_reads {f : HP} {n : Nat} {cs : List Value} (h : RdS Try.prog f (n + 4) 90 cs) : ∃ a : Ac, cs = a.vals ∧ a.Good f := by
  have hl := RdS.cells Try.underlying90 h
  rw [cAct] at hl
  match cs, hl with
  | [y0, y1, x0, x1, x2, x3, x4, x5, x6, x7, x8, x9, x10], _ =>
  obtain ⟨a0, h0⟩ := RdS.bool Try.underlying4 (RdS.field Try.underlying90 h 0 rfl (ds := [y0]) (by simp only [cbo]; rfl))
  obtain ⟨a1, h1, _⟩ := RdS.int Try.underlying3 (RdS.field Try.underlying90 h 1 rfl (ds := [y1]) (by simp only [c3]; rfl))
  obtain ⟨i, hi, hs, ho, hd, _, _⟩ := ip_reads (n := n) (RdS.field Try.underlying90 h 2 rfl (ds := [x0, x1, x2, x3, x4, x5, x6, x7, x8, x9, x10]) (by simp only [cIP]; rfl))
  simp only [List.cons.injEq, and_true] at h0 h1
  subst h0; subst h1
  exact ⟨⟨a0, a1, i⟩, by rw [hi]; rfl, hs, ho, hd⟩
theorem acts_of {f : HP} {A0 : Option Addr} {len cap : Nat} (h : RdS Try.prog f 7 84 [.slice A0 len cap]) : ∃ acts : List Ac, acts.length = len ∧ len ≤ reachBytes ∧ (∀ a ∈ acts, a.Good f) ∧ Reads f A0 (AcL.flat acts) := by
  obtain ⟨ms, h1, h2, h3, h4⟩ := RdS.list (φ := fun f cs (m : Ac) => cs = m.vals ∧ m.Good f) Try.underlying84 cAct (by omega) bAct h (fun cs hl hr => ac_reads (n := 2) hr)
  refine ⟨ms, h1, by omega, fun m hm => ?_, reads_of (by decide) (fun i x hx => ?_)⟩
  · obtain ⟨i, hi, rfl⟩ := List.getElem_of_mem hm
    obtain ⟨_, _, _, _, _, _, w⟩ := h4 i _ (List.getElem?_eq_getElem hi)
    exact w
  · obtain ⟨b, o, cs, e1, e2, e3, _⟩ := h4 i x hx
    subst e3
    exact ⟨b, o, e1, e2⟩
theorem reach_lt : reachBytes ≤ 9223372036854775807 := by unfold reachBytes; decide
theorem plays_law (most life : Int) (A0 : Option Addr) (len cap : Nat) : Does Try.prog 11 #[.int .i64 most, .int .i64 life, .slice A0 len cap] (fun f => RdS Try.prog f 7 84 [.slice A0 len cap]) [] (fun v q => v = .bool true ∧ q = []) := by
  refine ⟨Try.call11, fun f w0 hR hat => ?_⟩
  obtain ⟨acts, rfl, hl, hg, hr⟩ := acts_of hR
  exact (plays_spec A0 cap acts most life (Nat.le_trans hl reach_lt) (fun a ha => ⟨(hg a ha).o, (hg a ha).d⟩)).run f w0 ⟨hr, fun a ha => (hg a ha).s⟩ hat
end Go.Proofs.Ytiknkeakielncaa.Rs
