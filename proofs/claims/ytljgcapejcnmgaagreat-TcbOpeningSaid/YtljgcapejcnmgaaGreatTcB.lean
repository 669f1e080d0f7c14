/- tcb: Same; a nil connection; TcbStrays. Conditions: none. -/
import Derived.Test.YtljgcapejcnmgaaGreatTcA
namespace Go.Proofs.YtljgcapejcnmgaaGreat.Tc
open Go Go.Proofs Sx
set_option maxRecDepth 100000
set_option linter.unusedVariables false
set_option linter.unusedSimpArgs false
set_option maxHeartbeats 4000000

theorem same_nil (a b c d e f g h : Int) : Does Tryz.prog 34 #[.agg (Sg.mk a b c d e f g h none 0 0).vals.toArray, .agg (Sg.mk a b c d e f g h none 0 0).vals.toArray] (fun _ => True) [] (fun v p => v = .bool true ∧ p = []) := by
  refine Does.ofJ Tryz.func34 Tryz.call34 rfl [.agg (Sg.mk a b c d e f g h none 0 0).svs, .agg (Sg.mk a b c d e f g h none 0 0).svs] [] 0 [] rfl rfl (fun h k => k) (fun f hR => ?_)
  intro b1 b2
  refine RegOb.go ?_
  refine Br.mk (fun _ => ?_) (fun h => absurd h (by simp))
  refine Br.mk (fun _ => ?_) (fun h => absurd h (by simp))
  refine Br.mk (fun _ => ?_) (fun h => absurd h (by simp))
  refine Br.mk (fun _ => ?_) (fun h => absurd h (by simp))
  refine Br.mk (fun _ => ?_) (fun h => absurd h (by simp))
  refine Br.mk (fun _ => ?_) (fun h => absurd h (by simp))
  refine Br.mk (fun _ => ?_) (fun h => absurd h (by simp))
  refine Br.mk (fun _ => ?_) (fun h => absurd h (by simp))
  refine SrcF.mk [] rfl (fun i v h => by simp at h) (StrOb.mk ByteArray.empty rfl ?_)
  refine SrcF.mk [] rfl (fun i v h => by simp at h) (StrOb.mk ByteArray.empty rfl ?_)
  exact FinOb.mk _ [] rfl (fun h k => trivial) ⟨by simp [ret1], rfl⟩
theorem code_spec (x : Int) : Does Tryz.prog 14 #[.int .i64 x] (fun _ => True) [] (fun v p => v = .int .i64 x ∧ p = []) := by
  refine Does.ofJ Tryz.func14 Tryz.call14 rfl [.int .i64 x] [] 0 [] rfl rfl (fun h k => k) (fun f hR => ?_)
  exact FinOb.mk _ [] rfl (fun h k => trivial) ⟨rfl, rfl⟩
theorem live_spec : Does Tryz.prog 11 #[] (fun _ => True) [] (fun v p => v = .bool true ∧ p = []) := by
  refine Does.ofJ Tryz.func11 Tryz.call11 rfl [] [] 0 [] rfl rfl (fun h k => k) (fun f hR => ?_)
  refine useP (.tuple [.agg (Sg.mk 6 5 0 8 20 0 0 0 none 0 0).svs, .tt]) (stray_spec ⟨5, 6, 7, 0, 2, 0, 0, 0, none, 0, 0⟩ ⟨by decide, by decide, by decide⟩) rfl (by kernel_rfl) ?_
  intro b1
  refine RegOb.go ?_
  refine useP .tt (same_nil 6 5 0 8 20 0 0 0) rfl rfl ?_
  exact FinOb.mk [.bool true] [] rfl (fun h k => trivial) ⟨rfl, rfl⟩
theorem rstray_spec (s : Sg) (h : s.Ok) (hs : 0 ≤ s.seq ∧ s.seq ≤ 4294967295) : Does Tryz.prog 24 #[.agg s.vals.toArray] (fun _ => True) [] (fun v p => v = strayV s ∧ p = []) := by
  refine Does.ofJ Tryz.func24 Tryz.call24 rfl [.agg s.svs] [] 0 [] rfl rfl (fun h k => k) (fun f hR => ?_)
  intro b1 b2
  refine CondOb.split (fun g => ?_) (fun g => ?_)
  · have g : bit s.flags 4 = true := g
    exact FinOb.mk [.agg S0.vals.toArray, .bool false] [] rfl (fun h k => trivial) ⟨by unfold strayV strayS; rw [g]; rfl, rfl⟩
  have g : bit s.flags 4 = false := g
  refine CondOb.split (fun g2 => ?_) (fun g2 => ?_)
  · have g2 : bit s.flags 16 = true := g2
    exact FinOb.mk [.agg (strayS s).vals.toArray, .bool true] [] (by unfold strayS; rw [g, g2]; rfl) (fun h k => trivial) ⟨by unfold strayV; rw [g]; rfl, rfl⟩
  have g2 : bit s.flags 16 = false := g2
  refine DrawOb.mk [(7, [0, 1, 2, 3, 4, 5]), (8, [0, 1, 2, 3])] (.run [0, 1, 2, 3, 4, 5, 6, 7, 8, 9, 10, 11] .nil) (by kernel_rfl) ?_
  refine useP (.int .i64 s.n) (rlen_spec s h) rfl rfl ?_
  refine Need.mk rfl (Need.mk rfl (Need.mk rfl ?_))
  have hn : 0 ≤ s.n ∧ s.n ≤ 9223372036854775807 := by have := h.f0; have := h.f1; have := h.l1; unfold Sg.n; omega
  refine useP (.int .u32 (addQ s.seq s.n)) (radd_spec _ _ hs hn) rfl rfl ?_
  refine Need.mk rfl (Need.mk rfl ?_)
  exact FinOb.mk [.agg (strayS s).vals.toArray, .bool true] [] (by unfold strayS; rw [g, g2]; rfl) (fun h k => trivial) ⟨by unfold strayV; rw [g]; rfl, rfl⟩

/-! ### A connection that is nil -/
theorem nil_input (s : Sg) (now : Int) : Does Tryz.prog 17 #[.pointer none, .int .i64 now, .agg s.vals.toArray] (fun _ => True) [] (fun v p => v = .tuple #[] ∧ p = []) := by
  refine Does.ofJ Tryz.func17 Tryz.call17 rfl [.raw (.pointer none), .int .i64 now, .agg s.svs] [] 0 [] rfl rfl (fun h k => k) (fun f hR => ?_)
  intro b1
  refine RegOb.go ?_
  exact FinOb.mk [] [] rfl (fun h k => trivial) ⟨rfl, rfl⟩
theorem nil_tick (now : Int) : Does Tryz.prog 25 #[.pointer none, .int .i64 now] (fun _ => True) [] (fun v p => v = .tuple #[] ∧ p = []) := by
  refine Does.ofJ Tryz.func25 Tryz.call25 rfl [.raw (.pointer none), .int .i64 now] [] 0 [] rfl rfl (fun h k => k) (fun f hR => ?_)
  exact FinOb.mk [] [] rfl (fun h k => trivial) ⟨rfl, rfl⟩
theorem nil_leave (now : Int) : Does Tryz.prog 26 #[.pointer none, .int .i64 now] (fun _ => True) [] (fun v p => v = .tuple #[] ∧ p = []) := by
  refine Does.ofJ Tryz.func26 Tryz.call26 rfl [.raw (.pointer none), .int .i64 now] [] 0 [] rfl rfl (fun h k => k) (fun f hR => ?_)
  exact FinOb.mk [] [] rfl (fun h k => trivial) ⟨rfl, rfl⟩
theorem nil_abort (now : Int) : Does Tryz.prog 27 #[.pointer none, .int .i64 now] (fun _ => True) [] (fun v p => v = .tuple #[] ∧ p = []) := by
  refine Does.ofJ Tryz.func27 Tryz.call27 rfl [.raw (.pointer none), .int .i64 now] [] 0 [] rfl rfl (fun h k => k) (fun f hR => ?_)
  refine RegOb.go ?_
  exact FinOb.mk [] [] rfl (fun h k => trivial) ⟨rfl, rfl⟩
theorem nil_send (now : Int) (A : Option Addr) (len cap : Nat) : Does Tryz.prog 28 #[.pointer none, .int .i64 now, .slice A len cap] (fun _ => True) [] (fun v p => v = .tuple #[.int .i64 0, .int .i64 7] ∧ p = []) := by
  refine Does.ofJ Tryz.func28 Tryz.call28 rfl [.raw (.pointer none), .int .i64 now, .raw (.slice A len cap)] [] 0 [] rfl rfl (fun h k => k) (fun f hR => ?_)
  exact FinOb.mk [.int .i64 0, .int .i64 7] [] rfl (fun h k => trivial) ⟨rfl, rfl⟩
theorem nil_recv (now n : Int) : Does Tryz.prog 29 #[.pointer none, .int .i64 now, .int .i64 n] (fun _ => True) [] (fun v p => v = .tuple #[.slice none 0 0, .bool false, .int .i64 7] ∧ p = []) := by
  refine Does.ofJ Tryz.func29 Tryz.call29 rfl [.raw (.pointer none), .int .i64 now, .int .i64 n] [] 0 [] rfl rfl (fun h k => k) (fun f hR => ?_)
  exact FinOb.mk [.slice none 0 0, .bool false, .int .i64 7] [] rfl (fun h k => trivial) ⟨rfl, rfl⟩
theorem nil_next : Does Tryz.prog 30 #[.pointer none] (fun _ => True) [] (fun v p => v = .tuple #[.int .i64 0, .bool false] ∧ p = []) := by
  refine Does.ofJ Tryz.func30 Tryz.call30 rfl [.raw (.pointer none)] [] 0 [] rfl rfl (fun h k => k) (fun f hR => ?_)
  exact FinOb.mk [.int .i64 0, .bool false] [] rfl (fun h k => trivial) ⟨rfl, rfl⟩
theorem nil_out : Does Tryz.prog 16 #[.pointer none] (fun _ => True) [] (fun v p => v = .slice none 0 0 ∧ p = []) := by
  refine Does.ofJ Tryz.func16 Tryz.call16 rfl [.raw (.pointer none)] [] 0 [] rfl rfl (fun h k => k) (fun f hR => ?_)
  exact FinOb.mk [.slice none 0 0] [] rfl (fun h k => trivial) ⟨rfl, rfl⟩
theorem nil_state : Does Tryz.prog 19 #[.pointer none] (fun _ => True) [] (fun v p => v = .int .i64 0 ∧ p = []) := by
  refine Does.ofJ Tryz.func19 Tryz.call19 rfl [.raw (.pointer none)] [] 0 [] rfl rfl (fun h k => k) (fun f hR => ?_)
  exact FinOb.mk [.int .i64 0] [] rfl (fun h k => trivial) ⟨rfl, rfl⟩
theorem nil_fault : Does Tryz.prog 20 #[.pointer none] (fun _ => True) [] (fun v p => v = .int .i64 7 ∧ p = []) := by
  refine Does.ofJ Tryz.func20 Tryz.call20 rfl [.raw (.pointer none)] [] 0 [] rfl rfl (fun h k => k) (fun f hR => ?_)
  exact FinOb.mk [.int .i64 7] [] rfl (fun h k => trivial) ⟨rfl, rfl⟩
theorem nil_shut (now : Int) : Does Tryz.prog 31 #[.pointer none, .int .i64 now] (fun _ => True) [] (fun v p => v = .int .i64 7 ∧ p = []) := by
  refine Does.ofJ Tryz.func31 Tryz.call31 rfl [.raw (.pointer none), .int .i64 now] [] 0 [] rfl rfl (fun h k => k) (fun f hR => ?_)
  exact FinOb.mk [.int .i64 7] [] rfl (fun h k => trivial) ⟨rfl, rfl⟩
def V0 : List Value := [.int .u32 0, .int .u32 0, .int .u32 0, .int .u32 0, .int .u32 0, .int .u32 0, .int .i64 0, .int .i64 0, .int .i64 0, .int .i64 0]
def V0s : List SV := [.int .u32 0, .int .u32 0, .int .u32 0, .int .u32 0, .int .u32 0, .int .u32 0, .int .i64 0, .int .i64 0, .int .i64 0, .int .i64 0]
def Q0 : List Value := [.int .u32 0, .int .u16 0, .int .u32 0, .int .u16 0]
def Q0s : List SV := [.int .u32 0, .int .u16 0, .int .u32 0, .int .u16 0]
theorem nil_vars : Does Tryz.prog 22 #[.pointer none] (fun _ => True) [] (fun v p => v = .agg V0.toArray ∧ p = []) := by
  refine Does.ofJ Tryz.func22 Tryz.call22 rfl [.raw (.pointer none)] [] 0 [] rfl rfl (fun h k => k) (fun f hR => ?_)
  intro b1
  exact FinOb.mk [.agg V0.toArray] [] rfl (fun h k => trivial) ⟨rfl, rfl⟩
theorem nil_quad : Does Tryz.prog 32 #[.pointer none] (fun _ => True) [] (fun v p => v = .agg Q0.toArray ∧ p = []) := by
  refine Does.ofJ Tryz.func32 Tryz.call32 rfl [.raw (.pointer none)] [] 0 [] rfl rfl (fun h k => k) (fun f hR => ?_)
  intro b1
  exact FinOb.mk [.agg Q0.toArray] [] rfl (fun h k => trivial) ⟨rfl, rfl⟩
theorem nil_take : Does Tryz.prog 33 #[.pointer none] (fun _ => True) [] (fun v p => v = .int .i64 7 ∧ p = []) := by
  refine Does.ofJ Tryz.func33 Tryz.call33 rfl [.raw (.pointer none)] [] 0 [] rfl rfl (fun h k => k) (fun f hR => ?_)
  refine useP (.int .i64 7) nil_fault rfl rfl ?_
  exact FinOb.mk [.int .i64 7] [] rfl (fun h k => trivial) ⟨rfl, rfl⟩
/-! ### TcbStrays -/
structure Ac where
  do_ : Int
  to : Int
  n : Int
def Ac.svs (a : Ac) : List SV := [.int .i64 a.do_, .int .i64 a.to, .int .i64 a.n]
def Ac.vals (a : Ac) : List Value := [.int .i64 a.do_, .int .i64 a.to, .int .i64 a.n]
theorem stray_nil (s : Sg) : ∃ a b c d e f g h, strayS s = ⟨a, b, c, d, e, f, g, h, none, 0, 0⟩ := by
  unfold strayS S0; split <;> (try split) <;> exact ⟨_, _, _, _, _, _, _, _, rfl⟩
theorem strays_spec (s : Sg) (a : Ac) (hf : 0 ≤ s.flags ∧ s.flags ≤ 255) (hs : 0 ≤ s.seq ∧ s.seq ≤ 4294967295) : Does Tryz.prog 4 #[.agg s.vals.toArray, .agg a.vals.toArray] (fun _ => True) [] (fun v p => v = .bool true ∧ p = []) := by
  refine Does.ofJ Tryz.func4 Tryz.call4 rfl [.agg s.svs, .agg a.svs] [] 0 [] rfl rfl (fun h k => k) (fun f hR => ?_)
  intro b1 b2
  refine CondOb.split (fun g => ?_) (fun g => ?_)
  · refine useP .tt live_spec rfl rfl ?_
    exact FinOb.mk [.bool true] [] rfl (fun h k => trivial) ⟨rfl, rfl⟩
  have g : ¬ (s.len : Int) > 1000 := of_decide_eq_false g
  have hok : s.Ok := ⟨hf.1, hf.2, by omega⟩
  refine useP (.tuple [.agg (strayS s).svs, .bool (!bit s.flags 4)]) (stray_spec s hok) rfl rfl ?_
  intro b3
  refine useP (.tuple [.agg (strayS s).svs, .bool (!bit s.flags 4)]) (rstray_spec s hok hs) rfl rfl ?_
  intro b4
  refine useP (.tuple []) (nil_input s 0) rfl rfl ?_
  refine useP (.tuple []) (nil_tick 9) rfl rfl ?_
  refine useP (.tuple []) (nil_leave 9) rfl rfl ?_
  refine useP (.tuple []) (nil_abort 9) rfl rfl ?_
  refine useP (.tuple [.int .i64 0, .int .i64 7]) (nil_send 0 s.A s.len s.cap) rfl rfl ?_
  refine useP (.tuple [.raw (.slice none 0 0), .ff, .int .i64 7]) (nil_recv 0 a.n) rfl rfl ?_
  refine useP (.tuple [.int .i64 0, .ff]) nil_next rfl rfl ?_
  refine RegOb.join Unit (fun _ => ⟨138, [(5, .ptr 2 0), (6, .bool (!bit s.flags 4)), (7, .ptr 3 0), (8, .bool (!bit s.flags 4)), (17, .tt)], [(3, .at b4 0), (2, .at b3 0)], 4, [.blk 2 28 (strayS s).svs, .blk 3 28 (strayS s).svs]⟩) ?_ (fun _ => ?_)
  · refine useP (.raw (.slice none 0 0)) nil_out rfl rfl ?_
    refine useP (.int .i64 0) nil_state rfl rfl ?_
    refine Br.mk (fun _ => ?_) (fun h => absurd h (by decide))
    refine useP (.int .i64 7) (code_spec 7) rfl rfl ?_
    refine Br.mk (fun _ => ?_) (fun h => absurd h (by decide))
    refine useP (.int .i64 7) (code_spec 7) rfl rfl ?_
    refine Br.mk (fun _ => ?_) (fun h => absurd h (by decide))
    refine useP (.int .i64 7) (nil_shut 1) rfl rfl ?_
    refine useP (.int .i64 7) (code_spec 7) rfl rfl ?_
    refine Br.mk (fun _ => ?_) (fun h => absurd h (by decide))
    refine useP (.agg V0s) nil_vars rfl rfl ?_
    refine BinOb.eqs 3 (by kernel_rfl) ?_ rfl rfl
    refine Br.mk (fun _ => ?_) (fun h => absurd h (by decide))
    refine useP (.agg Q0s) nil_quad rfl rfl ?_
    refine BinOb.eqs 4 (by kernel_rfl) ?_ rfl rfl
    refine Br.mk (fun _ => ?_) (fun h => absurd h (by decide))
    refine useP (.int .i64 7) nil_fault rfl rfl ?_
    refine useP (.int .i64 7) (code_spec 7) rfl rfl ?_
    refine Br.mk (fun _ => ?_) (fun h => absurd h (by decide))
    refine useP (.int .i64 7) nil_take rfl rfl ?_
    refine useP (.int .i64 7) (code_spec 7) rfl rfl ?_
    exact ⟨(), Le.of rfl ⟨⟨_, rfl, rfl⟩, ⟨_, rfl, rfl⟩, ⟨_, rfl, rfl⟩, ⟨_, rfl, rfl⟩, ⟨_, rfl, rfl⟩, trivial⟩ (fun h k => sat_pick 1 rfl (by first | exact fun _ k => k | exact fun _ k => blk_to rfl rfl k | exact fun _ k => vec_to rfl k | exact fun _ k => blk_of rfl rfl k | exact fun _ k => vec_of rfl k | exact fun _ k => blk_of rfl rfl (blk_to rfl rfl k) | exact fun _ k => vec_of rfl (vec_to rfl k) | exact fun _ k => mp_to rfl k | exact fun _ k => mp_of rfl k | exact fun _ k => mp_of rfl (mp_to rfl k)) (fun h k => sat_pick 0 rfl (by first | exact fun _ k => k | exact fun _ k => blk_to rfl rfl k | exact fun _ k => vec_to rfl k | exact fun _ k => blk_of rfl rfl k | exact fun _ k => vec_of rfl k | exact fun _ k => blk_of rfl rfl (blk_to rfl rfl k) | exact fun _ k => vec_of rfl (vec_to rfl k) | exact fun _ k => mp_to rfl k | exact fun _ k => mp_of rfl k | exact fun _ k => mp_of rfl (mp_to rfl k)) (fun h k => sat_nil k) k) k)⟩
  refine RegOb.go ?_
  refine Br.mk (fun _ => ?_) (fun h => absurd h (by simp))
  obtain ⟨x1, x2, x3, x4, x5, x6, x7, x8, e⟩ := stray_nil s
  refine useP .tt (show Does Tryz.prog 34 #[.agg (strayS s).vals.toArray, .agg (strayS s).vals.toArray] (fun _ => True) [] (fun v p => v = .bool true ∧ p = []) by rw [e]; exact same_nil x1 x2 x3 x4 x5 x6 x7 x8) rfl rfl ?_
  refine useP .tt live_spec rfl rfl ?_
  exact FinOb.mk [.bool true] [] rfl (fun h k => trivial) ⟨rfl, rfl⟩
theorem c3 : Tryz.prog.cellsOf 3 = 1 := by kernel_rfl
theorem c5 : Tryz.prog.cellsOf 5 = 1 := by kernel_rfl
theorem c24 : Tryz.prog.cellsOf 24 = 1 := by kernel_rfl
theorem c25 : Tryz.prog.cellsOf 25 = 1 := by kernel_rfl
theorem c26 : Tryz.prog.cellsOf 26 = 1 := by kernel_rfl
theorem cSeg : Tryz.prog.cellsOf 28 = 9 := by kernel_rfl
theorem cAct : Tryz.prog.cellsOf 55 = 3 := by kernel_rfl
theorem u8_of {a : Int} (w : (Lit.int .u8 a).wf = true) : 0 ≤ a ∧ a ≤ 255 := by simp [Lit.wf] at w; exact w
theorem u16_of {a : Int} (w : (Lit.int .u16 a).wf = true) : 0 ≤ a ∧ a ≤ 65535 := by simp [Lit.wf] at w; exact w
theorem u32_of {a : Int} (w : (Lit.int .u32 a).wf = true) : 0 ≤ a ∧ a ≤ 4294967295 := by simp [Lit.wf] at w; exact w
theorem i64_of {a : Int} (w : (Lit.int .i64 a).wf = true) : -9223372036854775808 ≤ a ∧ a ≤ 9223372036854775807 := by simp [Lit.wf] at w; exact w
/-- What a segment's numbers are. -/
structure Sg.Fit (s : Sg) : Prop where
  src : 0 ≤ s.src ∧ s.src ≤ 65535
  dst : 0 ≤ s.dst ∧ s.dst ≤ 65535
  seq : 0 ≤ s.seq ∧ s.seq ≤ 4294967295
  ack : 0 ≤ s.ack ∧ s.ack ≤ 4294967295
  flags : 0 ≤ s.flags ∧ s.flags ≤ 255
  win : 0 ≤ s.win ∧ s.win ≤ 65535
  mss : -9223372036854775808 ≤ s.mss ∧ s.mss ≤ 9223372036854775807
  scale : -9223372036854775808 ≤ s.scale ∧ s.scale ≤ 9223372036854775807
theorem seg_reads {f : HP} {n : Nat} {cs : List Value} (h : RdS Tryz.prog f (n + 2) 28 cs) : ∃ s : Sg, cs = s.vals ∧ s.Fit ∧ RdS Tryz.prog f (n + 1) 26 [.slice s.A s.len s.cap] := by
  have hl := RdS.cells Tryz.underlying28 h
  rw [cSeg] at hl
  match cs, hl with
  | [x0, x1, x2, x3, x4, x5, x6, x7, x8], _ =>
  obtain ⟨a0, h0, w0⟩ := RdS.int Tryz.underlying25 (RdS.field Tryz.underlying28 h 0 rfl (ds := [x0]) (by simp only [c25]; rfl))
  obtain ⟨a1, h1, w1⟩ := RdS.int Tryz.underlying25 (RdS.field Tryz.underlying28 h 1 rfl (ds := [x1]) (by simp only [c25]; rfl))
  obtain ⟨a2, h2, w2⟩ := RdS.int Tryz.underlying24 (RdS.field Tryz.underlying28 h 2 rfl (ds := [x2]) (by simp only [c24]; rfl))
  obtain ⟨a3, h3, w3⟩ := RdS.int Tryz.underlying24 (RdS.field Tryz.underlying28 h 3 rfl (ds := [x3]) (by simp only [c24]; rfl))
  obtain ⟨a4, h4, w4⟩ := RdS.int Tryz.underlying5 (RdS.field Tryz.underlying28 h 4 rfl (ds := [x4]) (by simp only [c5]; rfl))
  obtain ⟨a5, h5, w5⟩ := RdS.int Tryz.underlying25 (RdS.field Tryz.underlying28 h 5 rfl (ds := [x5]) (by simp only [c25]; rfl))
  obtain ⟨a6, h6, w6⟩ := RdS.int Tryz.underlying3 (RdS.field Tryz.underlying28 h 6 rfl (ds := [x6]) (by simp only [c3]; rfl))
  obtain ⟨a7, h7, w7⟩ := RdS.int Tryz.underlying3 (RdS.field Tryz.underlying28 h 7 rfl (ds := [x7]) (by simp only [c3]; rfl))
  have h8 := RdS.field Tryz.underlying28 h 8 rfl (ds := [x8]) (by simp only [c26]; rfl)
  obtain ⟨A, len, cap, rfl⟩ := RdS.sl (P := Tryz.prog) (n := n) Tryz.underlying26 h8
  simp only [List.cons.injEq, and_true] at h0 h1 h2 h3 h4 h5 h6 h7
  subst h0; subst h1; subst h2; subst h3; subst h4; subst h5; subst h6; subst h7
  exact ⟨⟨a0, a1, a2, a3, a4, a5, a6, a7, A, len, cap⟩, rfl, ⟨u16_of w0, u16_of w1, u32_of w2, u32_of w3, u8_of w4, u16_of w5, i64_of w6, i64_of w7⟩, h8⟩
theorem act_reads {f : HP} {n : Nat} {cs : List Value} (h : RdS Tryz.prog f (n + 2) 55 cs) : ∃ a : Ac, cs = a.vals := by
  have hl := RdS.cells Tryz.underlying55 h
  rw [cAct] at hl
  match cs, hl with
  | [x0, x1, x2], _ =>
  obtain ⟨a0, h0, w0⟩ := RdS.int Tryz.underlying3 (RdS.field Tryz.underlying55 h 0 rfl (ds := [x0]) (by simp only [c3]; rfl))
  obtain ⟨a1, h1, w1⟩ := RdS.int Tryz.underlying3 (RdS.field Tryz.underlying55 h 1 rfl (ds := [x1]) (by simp only [c3]; rfl))
  obtain ⟨a2, h2, w2⟩ := RdS.int Tryz.underlying3 (RdS.field Tryz.underlying55 h 2 rfl (ds := [x2]) (by simp only [c3]; rfl))
  simp only [List.cons.injEq, and_true] at h0 h1 h2
  subst h0; subst h1; subst h2
  exact ⟨⟨a0, a1, a2⟩, rfl⟩
theorem strays_law (x y : Array Value) : Does Tryz.prog 4 #[.agg x, .agg y] (fun f => RdS Tryz.prog f 6 28 x.toList ∧ RdS Tryz.prog f 6 55 y.toList) [] (fun v q => v = .bool true ∧ q = []) := by
  refine ⟨Tryz.call4, fun f w0 hR hat => ?_⟩
  obtain ⟨s, e, hs, _⟩ := seg_reads (n := 4) hR.1
  obtain ⟨a, e2⟩ := act_reads (n := 4) hR.2
  obtain rfl : x = s.vals.toArray := by rw [← e]
  obtain rfl : y = a.vals.toArray := by rw [← e2]
  exact (strays_spec s a hs.flags hs.seq).run f w0 trivial hat
end Go.Proofs.YtljgcapejcnmgaaGreat.Tc
