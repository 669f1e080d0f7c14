/- tcb: Same; a nil connection; TcbStrays. Conditions: none. -/
import Derived.Test.YtljgcapejcnmgaaTcA
namespace Go.Proofs.Ytljgcapejcnmgaa.Tc
open Go Go.Proofs Sx
set_option maxRecDepth 100000
set_option linter.unusedVariables false
set_option linter.unusedSimpArgs false
set_option maxHeartbeats 4000000

theorem same_nil (a b c d e f g h : Int) : Does Try.prog 20 #[.agg (Sg.mk a b c d e f g h none 0 0).vals.toArray, .agg (Sg.mk a b c d e f g h none 0 0).vals.toArray] (fun _ => True) [] (fun v p => v = .bool true ∧ p = []) := by
  refine Does.ofJ Try.func20 Try.call20 rfl [.agg (Sg.mk a b c d e f g h none 0 0).svs, .agg (Sg.mk a b c d e f g h none 0 0).svs] [] 0 [] rfl rfl (fun h k => k) (fun f hR => ?_)
  intro b1 b2
  refine RegOb.go ?_
  refine Br.mk (fun _ => ?_) (fun h => absurd h (by simp))
  refine Br.mk (fun _ => ?_) (fun h => absurd h (by simp))
  refine Br.mk (fun _ => ?_) (fun h => absurd h (by simp))
  refine Br.mk (fun _ => ?_) (fun h => absurd h (by simp))
  refine Br.mk (fun _ => ?_) (fun h => absurd h (by simp))
  refine Br.mk (fun _ => ?_) (fun h => absurd h (by simp))
  refine Br.mk (fun _ => ?_) (fun h => absurd h (by simp))
  refine Br.mk (fun _ => ?_) (fun h => absurd h (by simp))
  refine SrcF.mk [] rfl (fun i v h => by simp at h) (StrOb.mk ByteArray.empty rfl ?_)
  refine SrcF.mk [] rfl (fun i v h => by simp at h) (StrOb.mk ByteArray.empty rfl ?_)
  exact FinOb.mk _ [] rfl (fun h k => trivial) ⟨by simp [ret1], rfl⟩
theorem code_spec (x : Int) : Does Try.prog 6 #[.int .i64 x] (fun _ => True) [] (fun v p => v = .int .i64 x ∧ p = []) := by
  refine Does.ofJ Try.func6 Try.call6 rfl [.int .i64 x] [] 0 [] rfl rfl (fun h k => k) (fun f hR => ?_)
  exact FinOb.mk _ [] rfl (fun h k => trivial) ⟨rfl, rfl⟩
theorem live_spec : Does Try.prog 7 #[] (fun _ => True) [] (fun v p => v = .bool true ∧ p = []) := by
  refine Does.ofJ Try.func7 Try.call7 rfl [] [] 0 [] rfl rfl (fun h k => k) (fun f hR => ?_)
  refine useP (.tuple [.agg (Sg.mk 6 5 0 8 20 0 0 0 none 0 0).svs, .tt]) (stray_spec ⟨5, 6, 7, 0, 2, 0, 0, 0, none, 0, 0⟩ ⟨by decide, by decide, by decide⟩) rfl (by kernel_rfl) ?_
  intro b1
  refine RegOb.go ?_
  refine useP .tt (same_nil 6 5 0 8 20 0 0 0) rfl rfl ?_
  exact FinOb.mk [.bool true] [] rfl (fun h k => trivial) ⟨rfl, rfl⟩
/-! ### A connection that is nil -/
theorem nil_tick (now : Int) : Does Try.prog 11 #[.pointer none, .int .i64 now] (fun _ => True) [] (fun v p => v = .tuple #[] ∧ p = []) := by
  refine Does.ofJ Try.func11 Try.call11 rfl [.raw (.pointer none), .int .i64 now] [] 0 [] rfl rfl (fun h k => k) (fun f hR => ?_)
  exact FinOb.mk [] [] rfl (fun h k => trivial) ⟨rfl, rfl⟩
theorem nil_send (now : Int) (A : Option Addr) (len cap : Nat) : Does Try.prog 13 #[.pointer none, .int .i64 now, .slice A len cap] (fun _ => True) [] (fun v p => v = .tuple #[.int .i64 0, .int .i64 7] ∧ p = []) := by
  refine Does.ofJ Try.func13 Try.call13 rfl [.raw (.pointer none), .int .i64 now, .raw (.slice A len cap)] [] 0 [] rfl rfl (fun h k => k) (fun f hR => ?_)
  exact FinOb.mk [.int .i64 0, .int .i64 7] [] rfl (fun h k => trivial) ⟨rfl, rfl⟩
theorem nil_recv (now n : Int) : Does Try.prog 14 #[.pointer none, .int .i64 now, .int .i64 n] (fun _ => True) [] (fun v p => v = .tuple #[.slice none 0 0, .bool false, .int .i64 7] ∧ p = []) := by
  refine Does.ofJ Try.func14 Try.call14 rfl [.raw (.pointer none), .int .i64 now, .int .i64 n] [] 0 [] rfl rfl (fun h k => k) (fun f hR => ?_)
  exact FinOb.mk [.slice none 0 0, .bool false, .int .i64 7] [] rfl (fun h k => trivial) ⟨rfl, rfl⟩
theorem nil_next : Does Try.prog 10 #[.pointer none] (fun _ => True) [] (fun v p => v = .tuple #[.int .i64 0, .bool false] ∧ p = []) := by
  refine Does.ofJ Try.func10 Try.call10 rfl [.raw (.pointer none)] [] 0 [] rfl rfl (fun h k => k) (fun f hR => ?_)
  exact FinOb.mk [.int .i64 0, .bool false] [] rfl (fun h k => trivial) ⟨rfl, rfl⟩
theorem nil_out : Does Try.prog 9 #[.pointer none] (fun _ => True) [] (fun v p => v = .slice none 0 0 ∧ p = []) := by
  refine Does.ofJ Try.func9 Try.call9 rfl [.raw (.pointer none)] [] 0 [] rfl rfl (fun h k => k) (fun f hR => ?_)
  exact FinOb.mk [.slice none 0 0] [] rfl (fun h k => trivial) ⟨rfl, rfl⟩
theorem nil_state : Does Try.prog 12 #[.pointer none] (fun _ => True) [] (fun v p => v = .int .i64 0 ∧ p = []) := by
  refine Does.ofJ Try.func12 Try.call12 rfl [.raw (.pointer none)] [] 0 [] rfl rfl (fun h k => k) (fun f hR => ?_)
  exact FinOb.mk [.int .i64 0] [] rfl (fun h k => trivial) ⟨rfl, rfl⟩
theorem nil_fault : Does Try.prog 50 #[.pointer none] (fun _ => True) [] (fun v p => v = .int .i64 7 ∧ p = []) := by
  refine Does.ofJ Try.func50 Try.call50 rfl [.raw (.pointer none)] [] 0 [] rfl rfl (fun h k => k) (fun f hR => ?_)
  exact FinOb.mk [.int .i64 7] [] rfl (fun h k => trivial) ⟨rfl, rfl⟩
theorem nil_shut (now : Int) : Does Try.prog 15 #[.pointer none, .int .i64 now] (fun _ => True) [] (fun v p => v = .int .i64 7 ∧ p = []) := by
  refine Does.ofJ Try.func15 Try.call15 rfl [.raw (.pointer none), .int .i64 now] [] 0 [] rfl rfl (fun h k => k) (fun f hR => ?_)
  exact FinOb.mk [.int .i64 7] [] rfl (fun h k => trivial) ⟨rfl, rfl⟩
def V0 : List Value := [.int .u32 0, .int .u32 0, .int .u32 0, .int .u32 0, .int .u32 0, .int .u32 0, .int .i64 0, .int .i64 0, .int .i64 0, .int .i64 0]
def V0s : List SV := [.int .u32 0, .int .u32 0, .int .u32 0, .int .u32 0, .int .u32 0, .int .u32 0, .int .i64 0, .int .i64 0, .int .i64 0, .int .i64 0]
def Q0 : List Value := [.int .u32 0, .int .u16 0, .int .u32 0, .int .u16 0]
def Q0s : List SV := [.int .u32 0, .int .u16 0, .int .u32 0, .int .u16 0]
theorem nil_take : Does Try.prog 29 #[.pointer none] (fun _ => True) [] (fun v p => v = .int .i64 7 ∧ p = []) := by
  refine Does.ofJ Try.func29 Try.call29 rfl [.raw (.pointer none)] [] 0 [] rfl rfl (fun h k => k) (fun f hR => ?_)
  refine useP (.int .i64 7) nil_fault rfl rfl ?_
  exact FinOb.mk [.int .i64 7] [] rfl (fun h k => trivial) ⟨rfl, rfl⟩
theorem c3 : Try.prog.cellsOf 3 = 1 := by kernel_rfl
theorem c5 : Try.prog.cellsOf 5 = 1 := by kernel_rfl
theorem c24 : Try.prog.cellsOf 28 = 1 := by kernel_rfl
theorem c25 : Try.prog.cellsOf 30 = 1 := by kernel_rfl
theorem c26 : Try.prog.cellsOf 47 = 1 := by kernel_rfl
theorem cSeg : Try.prog.cellsOf 49 = 9 := by kernel_rfl
theorem u8_of {a : Int} (w : (Lit.int .u8 a).wf = true) : 0 ≤ a ∧ a ≤ 255 := by simp [Lit.wf] at w; exact w
theorem u16_of {a : Int} (w : (Lit.int .u16 a).wf = true) : 0 ≤ a ∧ a ≤ 65535 := by simp [Lit.wf] at w; exact w
theorem u32_of {a : Int} (w : (Lit.int .u32 a).wf = true) : 0 ≤ a ∧ a ≤ 4294967295 := by simp [Lit.wf] at w; exact w
theorem i64_of {a : Int} (w : (Lit.int .i64 a).wf = true) : -9223372036854775808 ≤ a ∧ a ≤ 9223372036854775807 := by simp [Lit.wf] at w; exact w
/-- What a segment's numbers are. -/
structure Sg.Fit (s : Sg) : Prop where
  src : 0 ≤ s.src ∧ s.src ≤ 65535
  dst : 0 ≤ s.dst ∧ s.dst ≤ 65535
  seq : 0 ≤ s.seq ∧ s.seq ≤ 4294967295
  ack : 0 ≤ s.ack ∧ s.ack ≤ 4294967295
  flags : 0 ≤ s.flags ∧ s.flags ≤ 255
  win : 0 ≤ s.win ∧ s.win ≤ 65535
  mss : -9223372036854775808 ≤ s.mss ∧ s.mss ≤ 9223372036854775807
  scale : -9223372036854775808 ≤ s.scale ∧ s.scale ≤ 9223372036854775807
theorem seg_reads {f : HP} {n : Nat} {cs : List Value} (h : RdS Try.prog f (n + 2) 49 cs) : ∃ s : Sg, cs = s.vals ∧ s.Fit ∧ RdS Try.prog f (n + 1) 47 [.slice s.A s.len s.cap] := by
  have hl := RdS.cells Try.underlying49 h
  rw [cSeg] at hl
  match cs, hl with
  | [x0, x1, x2, x3, x4, x5, x6, x7, x8], _ =>
  obtain ⟨a0, h0, w0⟩ := RdS.int Try.underlying30 (RdS.field Try.underlying49 h 0 rfl (ds := [x0]) (by simp only [c25]; rfl))
  obtain ⟨a1, h1, w1⟩ := RdS.int Try.underlying30 (RdS.field Try.underlying49 h 1 rfl (ds := [x1]) (by simp only [c25]; rfl))
  obtain ⟨a2, h2, w2⟩ := RdS.int Try.underlying28 (RdS.field Try.underlying49 h 2 rfl (ds := [x2]) (by simp only [c24]; rfl))
  obtain ⟨a3, h3, w3⟩ := RdS.int Try.underlying28 (RdS.field Try.underlying49 h 3 rfl (ds := [x3]) (by simp only [c24]; rfl))
  obtain ⟨a4, h4, w4⟩ := RdS.int Try.underlying5 (RdS.field Try.underlying49 h 4 rfl (ds := [x4]) (by simp only [c5]; rfl))
  obtain ⟨a5, h5, w5⟩ := RdS.int Try.underlying30 (RdS.field Try.underlying49 h 5 rfl (ds := [x5]) (by simp only [c25]; rfl))
  obtain ⟨a6, h6, w6⟩ := RdS.int Try.underlying3 (RdS.field Try.underlying49 h 6 rfl (ds := [x6]) (by simp only [c3]; rfl))
  obtain ⟨a7, h7, w7⟩ := RdS.int Try.underlying3 (RdS.field Try.underlying49 h 7 rfl (ds := [x7]) (by simp only [c3]; rfl))
  have h8 := RdS.field Try.underlying49 h 8 rfl (ds := [x8]) (by simp only [c26]; rfl)
  obtain ⟨A, len, cap, rfl⟩ := RdS.sl (P := Try.prog) (n := n) Try.underlying47 h8
  simp only [List.cons.injEq, and_true] at h0 h1 h2 h3 h4 h5 h6 h7
  subst h0; subst h1; subst h2; subst h3; subst h4; subst h5; subst h6; subst h7
  exact ⟨⟨a0, a1, a2, a3, a4, a5, a6, a7, A, len, cap⟩, rfl, ⟨u16_of w0, u16_of w1, u32_of w2, u32_of w3, u8_of w4, u16_of w5, i64_of w6, i64_of w7⟩, h8⟩
end Go.Proofs.Ytljgcapejcnmgaa.Tc
