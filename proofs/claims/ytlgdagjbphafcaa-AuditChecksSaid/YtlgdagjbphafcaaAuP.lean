/- audit: the law AuditChecks over the frame of a row. Conditions: none. -/
import Derived.Test.YtlgdagjbphafcaaAuO
namespace Go.Proofs.Ytlgdagjbphafcaa.Au
open Go Go.Proofs Sx
set_option maxRecDepth 100000
set_option linter.unusedVariables false
set_option linter.unusedSimpArgs false

theorem c3 : Try.prog.cellsOf 3 = 1 := by kernel_rfl
theorem c5 : Try.prog.cellsOf 5 = 1 := by kernel_rfl
theorem c22 : Try.prog.cellsOf 22 = 1 := by kernel_rfl
theorem c23 : Try.prog.cellsOf 23 = 1 := by kernel_rfl
theorem c33 : Try.prog.cellsOf 33 = 1 := by kernel_rfl
theorem c100 : Try.prog.cellsOf 100 = 1 := by kernel_rfl
theorem c102 : Try.prog.cellsOf 102 = 11 := by kernel_rfl
theorem c139 : Try.prog.cellsOf 139 = 5 := by kernel_rfl
theorem c141 : Try.prog.cellsOf 141 = 23 := by kernel_rfl
theorem b141 : 0 < Try.prog.bytesOf 141 := of_decide_eq_true (by kernel_rfl)
theorem q_reads {f : HP} {n : Nat} {cs : List Value} (hl : cs.length = 11) (h : RdS Try.prog f (n + 2) 102 cs) : ∃ q : Q, cs = q.vals ∧ q.Ok := by
  match cs, hl with
  | [x0, x1, x2, x3, x4, x5, x6, x7, x8, x9, x10], _ =>
  obtain ⟨a0, h0, w0⟩ := RdS.int Try.underlying5 (RdS.field Try.underlying102 h 0 rfl (ds := [x0]) (by simp only [c5]; rfl))
  obtain ⟨a1, h1, w1⟩ := RdS.int Try.underlying5 (RdS.field Try.underlying102 h 1 rfl (ds := [x1]) (by simp only [c5]; rfl))
  obtain ⟨a2, h2, _⟩ := RdS.int Try.underlying3 (RdS.field Try.underlying102 h 2 rfl (ds := [x2]) (by simp only [c3]; rfl))
  obtain ⟨a3, h3, _⟩ := RdS.int Try.underlying33 (RdS.field Try.underlying102 h 3 rfl (ds := [x3]) (by simp only [c33]; rfl))
  obtain ⟨a4, h4, _⟩ := RdS.int Try.underlying22 (RdS.field Try.underlying102 h 4 rfl (ds := [x4]) (by simp only [c22]; rfl))
  obtain ⟨a5, h5, _⟩ := RdS.int Try.underlying3 (RdS.field Try.underlying102 h 5 rfl (ds := [x5]) (by simp only [c3]; rfl))
  obtain ⟨a6, h6, _⟩ := RdS.int Try.underlying3 (RdS.field Try.underlying102 h 6 rfl (ds := [x6]) (by simp only [c3]; rfl))
  obtain ⟨a7, h7, _⟩ := RdS.int Try.underlying3 (RdS.field Try.underlying102 h 7 rfl (ds := [x7]) (by simp only [c3]; rfl))
  obtain ⟨a8, h8, _⟩ := RdS.int Try.underlying100 (RdS.field Try.underlying102 h 8 rfl (ds := [x8]) (by simp only [c100]; rfl))
  obtain ⟨a9, h9, _⟩ := RdS.int Try.underlying100 (RdS.field Try.underlying102 h 9 rfl (ds := [x9]) (by simp only [c100]; rfl))
  obtain ⟨A, n, c, h10⟩ := RdS.sl Try.underlying23 (RdS.field Try.underlying102 h 10 rfl (ds := [x10]) (by simp only [c23]; rfl))
  simp only [List.cons.injEq, and_true] at h0 h1 h2 h3 h4 h5 h6 h7 h8 h9
  subst h0; subst h1; subst h2; subst h3; subst h4; subst h5; subst h6; subst h7; subst h8; subst h9; subst h10
  have e0 : 0 ≤ a0 ∧ a0 ≤ 255 := by simp [Lit.wf] at w0; exact w0
  have e1 : 0 ≤ a1 ∧ a1 ≤ 255 := by simp [Lit.wf] at w1; exact w1
  exact ⟨⟨a0, a1, a2, a3, a4, a5, a6, a7, a8, a9, A, n, c⟩, rfl, e0.1, e0.2, e1.1, e1.2⟩
theorem c_reads {f : HP} {n : Nat} {cs : List Value} (hl : cs.length = 5) (h : RdS Try.prog f (n + 2) 139 cs) : ∃ c : C, cs = c.vals ∧ 0 ≤ c.fl ∧ c.fl ≤ 255 := by
  match cs, hl with
  | [x0, x1, x2, x3, x4], _ =>
  obtain ⟨a0, h0, _⟩ := RdS.int Try.underlying100 (RdS.field Try.underlying139 h 0 rfl (ds := [x0]) (by simp only [c100]; rfl))
  obtain ⟨a1, h1, _⟩ := RdS.int Try.underlying3 (RdS.field Try.underlying139 h 1 rfl (ds := [x1]) (by simp only [c3]; rfl))
  obtain ⟨a2, h2, w2⟩ := RdS.int Try.underlying5 (RdS.field Try.underlying139 h 2 rfl (ds := [x2]) (by simp only [c5]; rfl))
  obtain ⟨a3, h3, _⟩ := RdS.int Try.underlying3 (RdS.field Try.underlying139 h 3 rfl (ds := [x3]) (by simp only [c3]; rfl))
  obtain ⟨A, n, c, h4⟩ := RdS.sl Try.underlying23 (RdS.field Try.underlying139 h 4 rfl (ds := [x4]) (by simp only [c23]; rfl))
  simp only [List.cons.injEq, and_true] at h0 h1 h2 h3
  subst h0; subst h1; subst h2; subst h3; subst h4
  have e2 : 0 ≤ a2 ∧ a2 ≤ 255 := by simp [Lit.wf] at w2; exact w2
  exact ⟨⟨a0, a1, a2, a3, A, n, c⟩, rfl, e2.1, e2.2⟩
theorem m_reads {f : HP} {n : Nat} {cs : List Value} (hl : cs.length = 23) (h : RdS Try.prog f (n + 3) 141 cs) : ∃ m : M, cs = m.vals ∧ m.Ok := by
  match cs, hl with
  | [x0, x1, x2, x3, q0, q1, q2, q3, q4, q5, q6, q7, q8, q9, q10, y0, y1, y2, y3, y4, z0, z1, z2], _ =>
  obtain ⟨a0, h0, _⟩ := RdS.int Try.underlying3 (RdS.field Try.underlying141 h 0 rfl (ds := [x0]) (by simp only [c3]; rfl))
  obtain ⟨a1, h1, _⟩ := RdS.int Try.underlying3 (RdS.field Try.underlying141 h 1 rfl (ds := [x1]) (by simp only [c3]; rfl))
  obtain ⟨a2, h2, _⟩ := RdS.int Try.underlying3 (RdS.field Try.underlying141 h 2 rfl (ds := [x2]) (by simp only [c3]; rfl))
  obtain ⟨a3, h3, _⟩ := RdS.int Try.underlying3 (RdS.field Try.underlying141 h 3 rfl (ds := [x3]) (by simp only [c3]; rfl))
  obtain ⟨q, hq, ok⟩ := q_reads (n := n) rfl (RdS.field Try.underlying141 h 4 rfl (ds := [q0, q1, q2, q3, q4, q5, q6, q7, q8, q9, q10]) (by simp only [c102]; rfl))
  obtain ⟨c, hc, c0, c1⟩ := c_reads (n := n) rfl (RdS.field Try.underlying141 h 5 rfl (ds := [y0, y1, y2, y3, y4]) (by simp only [c139]; rfl))
  obtain ⟨a6, h6, _⟩ := RdS.int Try.underlying3 (RdS.field Try.underlying141 h 6 rfl (ds := [z0]) (by simp only [c3]; rfl))
  obtain ⟨a7, h7, _⟩ := RdS.int Try.underlying3 (RdS.field Try.underlying141 h 7 rfl (ds := [z1]) (by simp only [c3]; rfl))
  obtain ⟨A, n, c', h8⟩ := RdS.sl Try.underlying23 (RdS.field Try.underlying141 h 8 rfl (ds := [z2]) (by simp only [c23]; rfl))
  simp only [Q.vals, List.cons.injEq, and_true] at hq
  simp only [C.vals, List.cons.injEq, and_true] at hc
  simp only [List.cons.injEq, and_true] at h0 h1 h2 h3 h6 h7
  obtain ⟨rfl, rfl, rfl, rfl, rfl, rfl, rfl, rfl, rfl, rfl, rfl⟩ := hq
  obtain ⟨rfl, rfl, rfl, rfl, rfl⟩ := hc
  subst h0; subst h1; subst h2; subst h3; subst h6; subst h7; subst h8
  exact ⟨⟨a0, a1, a2, a3, q, c, a6, a7, A, n, c'⟩, rfl, ok, c0, c1⟩
theorem checks_law (A : Option Addr) (len cap : Nat) : Does Try.prog 6 #[.slice A len cap] (fun f => RdS Try.prog f 6 59 [.slice A len cap]) [] (fun v q => v = .bool true ∧ q = []) := by
  refine ⟨Try.call6, fun f w hR hat => ?_⟩
  obtain ⟨ms, h1, h2, h3, h4⟩ := RdS.list (φ := fun f cs (m : M) => cs = m.vals ∧ m.Ok) Try.underlying59 c141 (by omega) b141 hR (fun cs hl hr => m_reads (n := 2) hl hr)
  subst h1
  have hok : ∀ m ∈ ms, m.Ok := fun m hm => by
    obtain ⟨i, hi, rfl⟩ := List.getElem_of_mem hm
    obtain ⟨_, _, _, _, _, _, h5⟩ := h4 i _ (List.getElem?_eq_getElem hi)
    exact h5
  refine (audit_walk A cap ms hok h2).run f w (fun j v hv => ?_) hat
  have hl : j < ms.length * 23 := by have := (List.getElem?_eq_some_iff.1 hv).1; rw [lM] at this; exact this
  have hi : j / 23 < ms.length := by omega
  have hx := List.getElem?_eq_getElem hi
  obtain ⟨b, o, cs, e1, e2, e3, _⟩ := h4 (j / 23) _ hx
  refine ⟨b, o, e1, ?_⟩
  have e5 : j / 23 * 23 + j % 23 = j := by omega
  have hlt : j % 23 < cs.length := by rw [e3]; show j % 23 < 23; omega
  have e4 := ML.flat_at hx (j := j % 23) (v := cs[j % 23]) (by rw [show ML.cells ms[j / 23] = cs from e3.symm, List.getElem?_eq_getElem hlt])
  have e6 : (ML.flat ms)[j]? = some cs[j % 23] := by rw [← e4]; congr 1; exact e5.symm
  rw [hv] at e6
  have := e2 (j % 23) cs[j % 23] (List.getElem?_eq_getElem hlt)
  rw [e6, ← this]; congr 1; omega
end Go.Proofs.Ytlgdagjbphafcaa.Au
