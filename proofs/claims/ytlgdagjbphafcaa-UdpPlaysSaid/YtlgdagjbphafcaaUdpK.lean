/- The law of any datagrams, at the arguments. Conditions: none. -/
import Derived.Test.YtlgdagjbphafcaaUdpQ
import Derived.Test.YtlgdagjbphafcaaE17
namespace Go.Proofs.Ytlgdagjbphafcaa.Udp
open Go Go.Proofs Sx
set_option maxRecDepth 100000
set_option linter.unusedVariables false

theorem b5 : 0 < Try.prog.bytesOf 5 := of_decide_eq_true (by kernel_rfl)
theorem b79 : 0 < Try.prog.bytesOf 79 := of_decide_eq_true (by kernel_rfl)
/-- What a call reads. -/
theorem act_reads {f : HP} {cs : List Value} {n : Nat} (h : RdS Try.prog f (n + 4) 79 cs) : ∃ a : Act, cs = a.cells ∧ QOk f a.q ∧ a.q.xs.length ≤ reachBytes := by
  have hl := RdS.cells Try.underlying79 h
  rw [c79] at hl
  match cs, hl with
  | [x1, x2, x3, x4, x5], _ =>
  obtain ⟨d, h1, _⟩ := RdS.int Try.underlying3 (RdS.field Try.underlying79 h 0 rfl (ds := [x1]) (by simp only [c3]; rfl))
  obtain ⟨k, h2, _⟩ := RdS.int Try.underlying3 (RdS.field Try.underlying79 h 1 rfl (ds := [x2]) (by simp only [c3]; rfl))
  have hm := RdS.field Try.underlying79 h 2 rfl (ds := [x3, x4, x5]) (by simp only [c37]; rfl)
  have he := RdS.field Try.underlying37 hm 0 rfl (ds := [x3, x4]) (by simp only [c35]; rfl)
  obtain ⟨a, h3, _⟩ := RdS.int Try.underlying33 (RdS.field Try.underlying35 he 0 rfl (ds := [x3]) (by simp only [c33]; rfl))
  obtain ⟨p, h4, _⟩ := RdS.int Try.underlying22 (RdS.field Try.underlying35 he 1 rfl (ds := [x4]) (by simp only [c22]; rfl))
  simp only [List.cons.injEq, and_true] at h1 h2 h3 h4
  subst h1; subst h2; subst h3; subst h4
  have hs := RdS.field Try.underlying37 hm 1 rfl (ds := [x5]) (by simp only [c23]; rfl)
  obtain ⟨A, len, cap, rfl⟩ := RdS.sl Try.underlying23 hs
  obtain ⟨s, g1, g2, g3, g4⟩ := RdS.bytes Try.underlying23 Try.underlying5 c5 b5 hs
  subst g1
  exact ⟨⟨d, k, ⟨a, p, A, cap, bytesV s⟩⟩, rfl, ⟨g2, ⟨s, rfl⟩, g3⟩, by simp only; omega⟩
theorem plays_law (most room : Int) (A : Option Addr) (len cap : Nat) :
    Does Try.prog 9 #[.int .i64 most, .int .i64 room, .slice A len cap] (fun f => RdS Try.prog f 6 73 [.slice A len cap]) [] (fun v q => v = .bool true ∧ q = []) := by
  refine ⟨Try.call9, fun f' w hR hat => ?_⟩
  obtain ⟨L', h1', h2', h3', h4'⟩ := RdS.list (φ := fun f cs (a : Act) => cs = a.cells ∧ QOk f a.q ∧ a.q.xs.length ≤ reachBytes) Try.underlying73 c79 (by decide) b79 hR (fun cs _ hr => act_reads (n := 1) hr)
  have hL' : ∀ a ∈ L', a.q.xs.length ≤ 4611686018427387904 := fun a ha => by
    obtain ⟨i, hi, e⟩ := List.getElem_of_mem ha
    obtain ⟨_, _, _, _, _, _, _, h5⟩ := h4' i a (by rw [List.getElem?_eq_getElem hi, e])
    exact Nat.le_trans h5 (by decide)
  rw [← h1']
  refine (plays_spec most room A cap L' hL').run f' w ⟨fun i a ha => ?_, fun a ha => ?_⟩ hat
  · obtain ⟨b, o, cs, g1, g2, g3, _⟩ := h4' i a ha
    subst g3
    exact ⟨b, o, g1, g2⟩
  · obtain ⟨i, hi, e⟩ := List.getElem_of_mem ha
    obtain ⟨_, _, _, _, _, _, h5, _⟩ := h4' i a (by rw [List.getElem?_eq_getElem hi, e])
    exact h5
end Go.Proofs.Ytlgdagjbphafcaa.Udp
