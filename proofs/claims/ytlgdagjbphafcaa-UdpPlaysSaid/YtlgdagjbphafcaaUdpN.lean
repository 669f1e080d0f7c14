/- The law of a box that is nil: its walk. Conditions: none. -/
import Derived.Test.YtlgdagjbphafcaaUdpO
namespace Go.Proofs.Ytlgdagjbphafcaa.Udp
open Go Go.Proofs Sx
set_option maxRecDepth 100000
set_option linter.unusedVariables false

theorem take_nil (n : Int) : Does Try.prog 19 #[.pointer none, .int .i64 n] (fun _ => True) [] (fun v p => v = .tuple #[zeroM, .int .i64 0, .int .i64 7] ∧ p = []) := by
  refine Does.of Try.func19 Try.call19 rfl [.nilp, .int .i64 n] [] 0 [] rfl rfl (fun h k => k) (fun f hR => ?_)
  intro b
  exact FinOb.mk [zeroM, .int .i64 0, .int .i64 7] [] rfl (fun h k => trivial) ⟨rfl, rfl⟩
theorem peer_nil : Does Try.prog 56 #[.pointer none] (fun _ => True) [] (fun v p => v = .tuple #[.agg #[.int .u32 0, .int .u16 0], .bool false] ∧ p = []) := by
  refine Does.of Try.func56 Try.call56 rfl [.nilp] [] 0 [] rfl rfl (fun h k => k) (fun f hR => ?_)
  intro b
  exact FinOb.mk [.agg #[.int .u32 0, .int .u16 0], .bool false] [] rfl (fun h k => trivial) ⟨rfl, rfl⟩
theorem tell_nil (n : Int) : Does Try.prog 55 #[.pointer none, .int .i64 n] (fun _ => True) [] (fun v p => v = .tuple #[] ∧ p = []) := by
  refine Does.of Try.func55 Try.call55 rfl [.nilp, .int .i64 n] [] 0 [] rfl rfl (fun h k => k) (fun f hR => ?_)
  exact FinOb.mk [] [] rfl (fun h k => trivial) ⟨rfl, rfl⟩
theorem ready_nil : Does Try.prog 59 #[.pointer none] (fun _ => True) [] (fun v p => v = .bool false ∧ p = []) := by
  refine Does.of Try.func59 Try.call59 rfl [.nilp] [] 0 [] rfl rfl (fun h k => k) (fun f hR => ?_)
  exact FinOb.mk _ [] rfl (fun h k => trivial) ⟨rfl, rfl⟩
theorem len_nil : Does Try.prog 20 #[.pointer none] (fun _ => True) [] (fun v p => v = .int .i64 0 ∧ p = []) := by
  refine Does.of Try.func20 Try.call20 rfl [.nilp] [] 0 [] rfl rfl (fun h k => k) (fun f hR => ?_)
  exact FinOb.mk _ [] rfl (fun h k => trivial) ⟨rfl, rfl⟩
theorem held_nil : Does Try.prog 57 #[.pointer none] (fun _ => True) [] (fun v p => v = .int .i64 0 ∧ p = []) := by
  refine Does.of Try.func57 Try.call57 rfl [.nilp] [] 0 [] rfl rfl (fun h k => k) (fun f hR => ?_)
  exact FinOb.mk _ [] rfl (fun h k => trivial) ⟨rfl, rfl⟩
theorem lost_nil : Does Try.prog 21 #[.pointer none] (fun _ => True) [] (fun v p => v = .int .i64 0 ∧ p = []) := by
  refine Does.of Try.func21 Try.call21 rfl [.nilp] [] 0 [] rfl rfl (fun h k => k) (fun f hR => ?_)
  exact FinOb.mk _ [] rfl (fun h k => trivial) ⟨rfl, rfl⟩
theorem put_nil (a p : Int) (v : Value) : Does Try.prog 18 #[.pointer none, .agg #[.int .u32 a, .int .u16 p, v]] (fun _ => True) [] (fun v p => v = .int .i64 7 ∧ p = []) := by
  refine Does.of Try.func18 Try.call18 rfl [.nilp, .agg [.int .u32 a, .int .u16 p, .raw v]] [] 0 [] rfl rfl (fun h k => k) (fun f hR => ?_)
  intro b
  exact FinOb.mk _ [] rfl (fun h k => trivial) ⟨rfl, rfl⟩
theorem meet_nil (a p : Int) : Does Try.prog 53 #[.pointer none, .agg #[.int .u32 a, .int .u16 p]] (fun _ => True) [] (fun v p => v = .int .i64 7 ∧ p = []) := by
  refine Does.of Try.func53 Try.call53 rfl [.nilp, .agg [.int .u32 a, .int .u16 p]] [] 0 [] rfl rfl (fun h k => k) (fun f hR => ?_)
  intro b b2
  exact FinOb.mk _ [] rfl (fun h k => trivial) ⟨rfl, rfl⟩
theorem same_zero : Does Try.prog 52 #[zeroM, zeroM] (fun _ => True) [] (fun v p => v = .bool true ∧ p = []) := by
  refine Does.of Try.func52 Try.call52 rfl [.agg [.int .u32 0, .int .u16 0, .nils], .agg [.int .u32 0, .int .u16 0, .nils]] [] 0 [] rfl rfl (fun h k => k) (fun f hR => ?_)
  intro b b2
  refine BinOb.eqs 3 (by kernel_rfl) ?_ rfl rfl
  refine Br.mk (fun _ => ?_) (fun h => absurd h (by simp))
  refine StrOb.mk .empty rfl (StrOb.mk .empty rfl ?_)
  exact FinOb.mk _ [] rfl (fun h k => trivial) ⟨congrArg Value.bool (by simp), rfl⟩
theorem c22 : Try.prog.cellsOf 22 = 1 := by kernel_rfl
theorem c3 : Try.prog.cellsOf 3 = 1 := by kernel_rfl
theorem c33 : Try.prog.cellsOf 33 = 1 := by kernel_rfl
theorem c23 : Try.prog.cellsOf 23 = 1 := by kernel_rfl
theorem c35 : Try.prog.cellsOf 35 = 2 := by kernel_rfl
theorem c37 : Try.prog.cellsOf 37 = 3 := by kernel_rfl
theorem c79 : Try.prog.cellsOf 79 = 5 := by kernel_rfl
/-- What a call reads. -/
theorem act_shape {f : HP} {cs : List Value} {n : Nat} (h : Rd Try.prog f (n + 4) 79 cs) : ∃ d k a p v, cs = [.int .i64 d, .int .i64 k, .int .u32 a, .int .u16 p, v] ∧ Rd Try.prog f (n + 2) 23 [v] := by
  have hl := Rd.cells Try.underlying79 h
  rw [c79] at hl
  match cs, hl with
  | [x1, x2, x3, x4, x5], _ =>
  obtain ⟨d, h1, _⟩ := Rd.int Try.underlying3 (Rd.field Try.underlying79 h 0 rfl (ds := [x1]) (by simp only [c3]; rfl))
  obtain ⟨k, h2, _⟩ := Rd.int Try.underlying3 (Rd.field Try.underlying79 h 1 rfl (ds := [x2]) (by simp only [c3]; rfl))
  have hm := Rd.field Try.underlying79 h 2 rfl (ds := [x3, x4, x5]) (by simp only [c37]; rfl)
  have he := Rd.field Try.underlying37 hm 0 rfl (ds := [x3, x4]) (by simp only [c35]; rfl)
  obtain ⟨a, h3, _⟩ := Rd.int Try.underlying33 (Rd.field Try.underlying35 he 0 rfl (ds := [x3]) (by simp only [c33]; rfl))
  obtain ⟨p, h4, _⟩ := Rd.int Try.underlying22 (Rd.field Try.underlying35 he 1 rfl (ds := [x4]) (by simp only [c22]; rfl))
  simp only [List.cons.injEq, and_true] at h1 h2 h3 h4
  subst h1; subst h2; subst h3; subst h4
  exact ⟨d, k, a, p, x5, rfl, Rd.field Try.underlying37 hm 1 rfl (by simp only [c23]; rfl)⟩
theorem nils_spec (d k a p : Int) (v : Value) : Does Try.prog 10 #[.agg #[.int .i64 d, .int .i64 k, .int .u32 a, .int .u16 p, v]] (fun _ => True) [] (fun v p => v = .bool true ∧ p = []) := by
  refine Does.of Try.func10 Try.call10 rfl [.agg [.int .i64 d, .int .i64 k, .int .u32 a, .int .u16 p, .raw v]] [] 0 [] rfl rfl (fun h k => k) (fun f hR => ?_)
  intro b
  refine useP (.tuple [.agg [.int .u32 0, .int .u16 0, .nils], .int .i64 0, .int .i64 7]) (take_nil k) rfl rfl ?_
  intro b2
  refine useP (.tuple [.agg [.int .u32 0, .int .u16 0], .ff]) peer_nil rfl rfl ?_
  intro b3
  refine useP (.tuple []) (tell_nil k) rfl rfl ?_
  refine useP .tt same_zero rfl rfl ?_
  refine BinOb.eqs 3 (by kernel_rfl) ?_ rfl rfl
  refine Br.mk (fun _ => ?_) (fun h => absurd h (by simp))
  refine useP .ff ready_nil rfl rfl ?_
  refine useP (.int .i64 0) len_nil rfl rfl ?_
  refine useP (.int .i64 0) held_nil rfl rfl ?_
  refine useP (.int .i64 0) lost_nil rfl rfl ?_
  refine Br.mk (fun _ => ?_) (fun h => absurd h (by decide))
  refine useP (.int .i64 7) (code_spec 7) rfl rfl ?_
  refine Br.mk (fun _ => ?_) (fun h => absurd h (by decide))
  refine useP (.int .i64 7) (put_nil a p v) rfl rfl ?_
  refine useP (.int .i64 7) (code_spec 7) rfl rfl ?_
  refine Br.mk (fun _ => ?_) (fun h => absurd h (by decide))
  refine useP (.int .i64 7) (meet_nil a p) rfl rfl ?_
  refine useP (.int .i64 7) (code_spec 7) rfl rfl ?_
  refine Br.mk (fun _ => ?_) (fun h => absurd h (by decide))
  refine useP .tt live_spec rfl rfl ?_
  exact FinOb.mk _ [] rfl (fun h k => trivial) ⟨rfl, rfl⟩
theorem nils_law (cs : Array Value) : Does Try.prog 10 #[.agg cs] (fun f => Rd Try.prog f 4 79 cs.toList) [] (fun v p => v = .bool true ∧ p = []) := by
  refine Does.ofR Try.call10 (fun f h => ?_)
  obtain ⟨d, k, a, p, v, e, _⟩ := act_shape (n := 0) h
  have : cs = #[.int .i64 d, .int .i64 k, .int .u32 a, .int .u16 p, v] := by rw [← Array.toArray_toList (xs := cs), e]
  subst this
  exact ⟨(nils_spec d k a p v).enters, fun f w _ hat => (nils_spec d k a p v).run f w trivial hat⟩
end Go.Proofs.Ytlgdagjbphafcaa.Udp
