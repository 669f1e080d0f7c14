/- agenda: AgendaNils, walked; arguments. Conditions: none. -/
import Derived.Test.YtiknkeakielncaaAgM
namespace Go.Proofs.Ytiknkeakielncaa.Ag
open Go Go.Proofs Sx
set_option maxRecDepth 100000
set_option linter.unusedVariables false
set_option linter.unusedSimpArgs false
set_option maxHeartbeats 4000000

theorem nils_spec (x : En) : Does Try.prog 14 #[.agg x.item.toArray] (fun _ => True) [] (fun v p => v = .bool true ∧ p = []) := by
  refine Does.ofJ Try.func14 Try.call14 rfl [.agg x.itsv] [] 0 [] rfl rfl (fun h k => k) (fun f hR => ?_)
  intro b1
  refine useP (.tuple [.agg E0.itsv, .ff]) top_nil rfl rfl ?_
  intro b4
  refine RegOb.go ?_
  refine DrawOb.mk [(16, [17, 21, 22, 23]), (18, [21, 22, 23]), (24, [19, 20])] (.run [0, 1, 2, 3, 4, 5, 6, 7, 8, 9, 10, 11, 12, 13, 14, 15, 17, 21, 22, 23, 16, 18, 19, 20, 24, 25, 26, 27, 28, 29, 30, 31, 32, 33, 34, 35, 36, 37, 38, 39, 40, 41, 42, 43, 44, 45, 46, 47, 48, 49, 50, 51] .nil) (by kernel_rfl) ?_
  refine BinOb.eqs 3 (by kernel_rfl) ?_ rfl rfl
  refine Br.mk (fun _ => ?_) (fun h => absurd h (by decide))
  refine useP .ff (drop_nil x.id) rfl rfl ?_
  refine useP (.int .i64 0) len_nil rfl rfl ?_
  refine Need.mk rfl ?_
  refine useP (.raw (.slice none 0 0)) all_nil rfl rfl ?_
  refine Need.mk rfl ?_
  refine useP (.raw (.slice none 0 0)) (pop_nil x.at_) rfl rfl ?_
  refine Br.mk (fun _ => ?_) (fun h => absurd h (by decide))
  refine useP (.int .i64 7) (push_nil x) rfl rfl ?_
  refine useP (.int .i64 7) (code_spec 7) rfl rfl ?_
  refine Br.mk (fun _ => ?_) (fun h => absurd h (by decide))
  refine useP (.int .i64 7) (move_nil x.id x.at_ x.rank) rfl rfl ?_
  refine useP (.int .i64 7) (code_spec 7) rfl rfl ?_
  refine Br.mk (fun _ => ?_) (fun h => absurd h (by decide))
  refine useP .tt live_spec rfl rfl ?_
  exact FinOb.mk [.bool true] [] rfl (fun h k => trivial) ⟨rfl, rfl⟩
theorem c3 : Try.prog.cellsOf 3 = 1 := by kernel_rfl
theorem c65 : Try.prog.cellsOf 65 = 3 := by kernel_rfl
theorem b65 : 0 < Try.prog.bytesOf 65 := of_decide_eq_true (by kernel_rfl)
theorem it_reads {f : HP} {n : Nat} {cs : List Value} (h : RdS Try.prog f (n + 2) 65 cs) : ∃ a : En, cs = a.item := by
  have hl := RdS.cells Try.underlying65 h
  rw [c65] at hl
  match cs, hl with
  | [x0, x1, x2], _ =>
  obtain ⟨a0, h0, _⟩ := RdS.int Try.underlying3 (RdS.field Try.underlying65 h 0 rfl (ds := [x0]) (by simp only [c3]; rfl))
  obtain ⟨a1, h1, _⟩ := RdS.int Try.underlying3 (RdS.field Try.underlying65 h 1 rfl (ds := [x1]) (by simp only [c3]; rfl))
  obtain ⟨a2, h2, _⟩ := RdS.int Try.underlying3 (RdS.field Try.underlying65 h 2 rfl (ds := [x2]) (by simp only [c3]; rfl))
  simp only [List.cons.injEq, and_true] at h0 h1 h2
  subst h0; subst h1; subst h2
  exact ⟨⟨0, a0, a1, a2, 0⟩, rfl⟩
theorem nils_law (x : Array Value) : Does Try.prog 14 #[.agg x] (fun f => RdS Try.prog f 6 65 x.toList) [] (fun v q => v = .bool true ∧ q = []) := by
  refine ⟨Try.call14, fun f w0 hR hat => ?_⟩
  obtain ⟨a, e⟩ := it_reads (n := 4) hR
  obtain rfl : x = a.item.toArray := by rw [← e]
  exact (nils_spec a).run f w0 trivial hat
end Go.Proofs.Ytiknkeakielncaa.Ag
