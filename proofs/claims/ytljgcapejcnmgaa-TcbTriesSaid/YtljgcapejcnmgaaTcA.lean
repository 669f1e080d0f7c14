/- tcb: segments, numbers; Stray. Conditions: none. -/
import Derived.Test.YtljgcapejcnmgaaProg
import Derived.Test.YtljgcapejcnmgaaE22
namespace Go.Proofs.Ytljgcapejcnmgaa.Tc
open Go Go.Proofs Sx
set_option maxRecDepth 100000
set_option linter.unusedVariables false
set_option linter.unusedSimpArgs false
set_option maxHeartbeats 4000000

/-- A segment; where its bytes lie. -/
structure Sg where
  src : Int
  dst : Int
  seq : Int
  ack : Int
  flags : Int
  win : Int
  mss : Int
  scale : Int
  A : Option Addr
  len : Nat
  cap : Nat
def Sg.svs (s : Sg) : List SV := [.int .u16 s.src, .int .u16 s.dst, .int .u32 s.seq, .int .u32 s.ack, .int .u8 s.flags, .int .u16 s.win, .int .i64 s.mss, .int .i64 s.scale, .raw (.slice s.A s.len s.cap)]
def Sg.vals (s : Sg) : List Value := [.int .u16 s.src, .int .u16 s.dst, .int .u32 s.seq, .int .u32 s.ack, .int .u8 s.flags, .int .u16 s.win, .int .i64 s.mss, .int .i64 s.scale, .slice s.A s.len s.cap]
def S0 : Sg := ⟨0, 0, 0, 0, 0, 0, 0, 0, none, 0, 0⟩
/-- Has a byte a bit? -/
def bit (n m : Int) : Bool := bitsOf .u8 (· &&& ·) n m != 0
theorem bits_fact : ∀ n : Fin 256, (bitsOf .u8 (· &&& ·) (n.val : Int) 1 = (n.val : Int) % 2) ∧ (bitsOf .u8 (· &&& ·) (n.val : Int) 2 = 2 * ((n.val : Int) / 2 % 2)) := by decide +kernel
theorem bit1 {n : Int} (h0 : 0 ≤ n) (h1 : n ≤ 255) : bitsOf .u8 (· &&& ·) n 1 = n % 2 := by
  obtain ⟨m, rfl⟩ := Int.eq_ofNat_of_zero_le h0
  exact (bits_fact ⟨m, by omega⟩).1
theorem bit2 {n : Int} (h0 : 0 ≤ n) (h1 : n ≤ 255) : bitsOf .u8 (· &&& ·) n 2 = 2 * (n / 2 % 2) := by
  obtain ⟨m, rfl⟩ := Int.eq_ofNat_of_zero_le h0
  exact (bits_fact ⟨m, by omega⟩).2
def addQ (x n : Int) : Int := IntKind.u32.wrap (x + IntKind.u32.wrap n)
theorem add_spec (x n : Int) : Does Try.prog 27 #[.int .u32 x, .int .i64 n] (fun _ => True) [] (fun v p => v = .int .u32 (addQ x n) ∧ p = []) := by
  refine Does.ofJ Try.func27 Try.call27 rfl [.int .u32 x, .int .i64 n] [] 0 [] rfl rfl (fun h k => k) (fun f hR => ?_)
  exact FinOb.mk [.int .u32 (addQ x n)] [] rfl (fun h k => trivial) ⟨rfl, rfl⟩
def Sg.n (s : Sg) : Int := s.len + s.flags / 2 % 2 + s.flags % 2
/-- What may lie in a segment. -/
structure Sg.Ok (s : Sg) : Prop where
  f0 : 0 ≤ s.flags
  f1 : s.flags ≤ 255
  l1 : s.len ≤ 1000000
theorem slen_spec (s : Sg) (h : s.Ok) : Does Try.prog 47 #[.agg s.vals.toArray] (fun _ => True) [] (fun v p => v = .int .i64 s.n ∧ p = []) := by
  refine Does.ofJ Try.func47 Try.call47 rfl [.agg s.svs] [] 0 [] rfl rfl (fun h k => k) (fun f hR => ?_)
  intro b1 b2
  refine LoopOb.mk { i : Nat // i ≤ 2 } (fun z => ⟨24, [(1, .ptr 0 0), (3, .int .i64 (s.len + (if 1 ≤ z.1 then s.flags / 2 % 2 else 0) + (if 2 ≤ z.1 then s.flags % 2 else 0))), (9, .sl 1 0 2 2), (10, .int .i64 2), (11, .int .i64 z.1)], [(1, .at b2 0), (0, .at b1 0)], 2, [.blk 0 49 s.svs, .blk 1 5 [.int .u8 2, .int .u8 1]]⟩) (fun z => 2 - z.1) ⟨0, by omega⟩ ?_ ?_
  · exact Le.of rfl ⟨⟨_, rfl, rfl⟩, ⟨_, rfl, (congrArg (fun z => some (Value.int .i64 z)) (by simp))⟩, ⟨_, rfl, rfl⟩, ⟨_, rfl, rfl⟩, ⟨_, rfl, rfl⟩, trivial⟩ (fun h k => sat_pick 1 rfl (by first | exact fun _ k => k | exact fun _ k => blk_to rfl rfl k | exact fun _ k => vec_to rfl k | exact fun _ k => blk_of rfl rfl k | exact fun _ k => vec_of rfl k | exact fun _ k => blk_of rfl rfl (blk_to rfl rfl k) | exact fun _ k => vec_of rfl (vec_to rfl k) | exact fun _ k => mp_to rfl k | exact fun _ k => mp_of rfl k | exact fun _ k => mp_of rfl (mp_to rfl k)) (fun h k => sat_pick 0 rfl (by first | exact fun _ k => k | exact fun _ k => blk_to rfl rfl k | exact fun _ k => vec_to rfl k | exact fun _ k => blk_of rfl rfl k | exact fun _ k => vec_of rfl k | exact fun _ k => blk_of rfl rfl (blk_to rfl rfl k) | exact fun _ k => vec_of rfl (vec_to rfl k) | exact fun _ k => mp_to rfl k | exact fun _ k => mp_of rfl k | exact fun _ k => mp_of rfl (mp_to rfl k)) (fun h k => sat_nil k) k) k)
  rintro ⟨i, hi⟩
  have hl := h.l1
  have hb1 := bit1 h.f0 h.f1
  have hb2 := bit2 h.f0 h.f1
  have hm1 : s.flags % 2 = 0 ∨ s.flags % 2 = 1 := by omega
  have hm2 : s.flags / 2 % 2 = 0 ∨ s.flags / 2 % 2 = 1 := by omega
  match i, hi with
  | 0, _ =>
    refine CondOb.split (fun _ => ?_) (fun g => absurd g (by simp))
    refine Need.mk (by simp) ?_
    refine CondOb.split (fun g => ?_) (fun g => ?_)
    · have g : s.flags / 2 % 2 = 1 := by
        have g : (bitsOf .u8 (· &&& ·) s.flags 2 != 0) = true := g
        rw [hb2] at g
        rcases hm2 with e | e
        · rw [e] at g; cases g
        · exact e
      exact ⟨⟨1, by omega⟩, by show 2 - 1 < 2 - 0; omega, Le.of rfl ⟨⟨_, rfl, rfl⟩, ⟨_, rfl, (congrArg (fun z => some (Value.int .i64 z)) (by simp [g]; rw [w64 (by omega) (by omega)]))⟩, ⟨_, rfl, rfl⟩, ⟨_, rfl, rfl⟩, ⟨_, rfl, rfl⟩, trivial⟩ (fun h k => sat_pick 0 rfl (by first | exact fun _ k => k | exact fun _ k => blk_to rfl rfl k | exact fun _ k => vec_to rfl k | exact fun _ k => blk_of rfl rfl k | exact fun _ k => vec_of rfl k | exact fun _ k => blk_of rfl rfl (blk_to rfl rfl k) | exact fun _ k => vec_of rfl (vec_to rfl k) | exact fun _ k => mp_to rfl k | exact fun _ k => mp_of rfl k | exact fun _ k => mp_of rfl (mp_to rfl k)) (fun h k => sat_pick 0 rfl (by first | exact fun _ k => k | exact fun _ k => blk_to rfl rfl k | exact fun _ k => vec_to rfl k | exact fun _ k => blk_of rfl rfl k | exact fun _ k => vec_of rfl k | exact fun _ k => blk_of rfl rfl (blk_to rfl rfl k) | exact fun _ k => vec_of rfl (vec_to rfl k) | exact fun _ k => mp_to rfl k | exact fun _ k => mp_of rfl k | exact fun _ k => mp_of rfl (mp_to rfl k)) (fun h k => sat_nil k) k) k)⟩
    · have g : s.flags / 2 % 2 = 0 := by
        have g : (bitsOf .u8 (· &&& ·) s.flags 2 != 0) = false := g
        rw [hb2] at g
        rcases hm2 with e | e
        · exact e
        · rw [e] at g; cases g
      exact ⟨⟨1, by omega⟩, by show 2 - 1 < 2 - 0; omega, Le.of rfl ⟨⟨_, rfl, rfl⟩, ⟨_, rfl, (congrArg (fun z => some (Value.int .i64 z)) (by simp [g]))⟩, ⟨_, rfl, rfl⟩, ⟨_, rfl, rfl⟩, ⟨_, rfl, rfl⟩, trivial⟩ (fun h k => sat_pick 0 rfl (by first | exact fun _ k => k | exact fun _ k => blk_to rfl rfl k | exact fun _ k => vec_to rfl k | exact fun _ k => blk_of rfl rfl k | exact fun _ k => vec_of rfl k | exact fun _ k => blk_of rfl rfl (blk_to rfl rfl k) | exact fun _ k => vec_of rfl (vec_to rfl k) | exact fun _ k => mp_to rfl k | exact fun _ k => mp_of rfl k | exact fun _ k => mp_of rfl (mp_to rfl k)) (fun h k => sat_pick 0 rfl (by first | exact fun _ k => k | exact fun _ k => blk_to rfl rfl k | exact fun _ k => vec_to rfl k | exact fun _ k => blk_of rfl rfl k | exact fun _ k => vec_of rfl k | exact fun _ k => blk_of rfl rfl (blk_to rfl rfl k) | exact fun _ k => vec_of rfl (vec_to rfl k) | exact fun _ k => mp_to rfl k | exact fun _ k => mp_of rfl k | exact fun _ k => mp_of rfl (mp_to rfl k)) (fun h k => sat_nil k) k) k)⟩
  | 1, _ =>
    refine CondOb.split (fun _ => ?_) (fun g => absurd g (by simp))
    refine Need.mk (by simp) ?_
    refine CondOb.split (fun g => ?_) (fun g => ?_)
    · have g : s.flags % 2 = 1 := by
        have g : (bitsOf .u8 (· &&& ·) s.flags 1 != 0) = true := g
        rw [hb1] at g
        rcases hm1 with e | e
        · rw [e] at g; cases g
        · exact e
      exact ⟨⟨2, by omega⟩, by show 2 - 2 < 2 - 1; omega, Le.of rfl ⟨⟨_, rfl, rfl⟩, ⟨_, rfl, (congrArg (fun z => some (Value.int .i64 z)) (by simp [g]; rw [w64 (by omega) (by omega)]))⟩, ⟨_, rfl, rfl⟩, ⟨_, rfl, rfl⟩, ⟨_, rfl, rfl⟩, trivial⟩ (fun h k => sat_pick 0 rfl (by first | exact fun _ k => k | exact fun _ k => blk_to rfl rfl k | exact fun _ k => vec_to rfl k | exact fun _ k => blk_of rfl rfl k | exact fun _ k => vec_of rfl k | exact fun _ k => blk_of rfl rfl (blk_to rfl rfl k) | exact fun _ k => vec_of rfl (vec_to rfl k) | exact fun _ k => mp_to rfl k | exact fun _ k => mp_of rfl k | exact fun _ k => mp_of rfl (mp_to rfl k)) (fun h k => sat_pick 0 rfl (by first | exact fun _ k => k | exact fun _ k => blk_to rfl rfl k | exact fun _ k => vec_to rfl k | exact fun _ k => blk_of rfl rfl k | exact fun _ k => vec_of rfl k | exact fun _ k => blk_of rfl rfl (blk_to rfl rfl k) | exact fun _ k => vec_of rfl (vec_to rfl k) | exact fun _ k => mp_to rfl k | exact fun _ k => mp_of rfl k | exact fun _ k => mp_of rfl (mp_to rfl k)) (fun h k => sat_nil k) k) k)⟩
    · have g : s.flags % 2 = 0 := by
        have g : (bitsOf .u8 (· &&& ·) s.flags 1 != 0) = false := g
        rw [hb1] at g
        rcases hm1 with e | e
        · exact e
        · rw [e] at g; cases g
      exact ⟨⟨2, by omega⟩, by show 2 - 2 < 2 - 1; omega, Le.of rfl ⟨⟨_, rfl, rfl⟩, ⟨_, rfl, (congrArg (fun z => some (Value.int .i64 z)) (by simp [g]))⟩, ⟨_, rfl, rfl⟩, ⟨_, rfl, rfl⟩, ⟨_, rfl, rfl⟩, trivial⟩ (fun h k => sat_pick 0 rfl (by first | exact fun _ k => k | exact fun _ k => blk_to rfl rfl k | exact fun _ k => vec_to rfl k | exact fun _ k => blk_of rfl rfl k | exact fun _ k => vec_of rfl k | exact fun _ k => blk_of rfl rfl (blk_to rfl rfl k) | exact fun _ k => vec_of rfl (vec_to rfl k) | exact fun _ k => mp_to rfl k | exact fun _ k => mp_of rfl k | exact fun _ k => mp_of rfl (mp_to rfl k)) (fun h k => sat_pick 0 rfl (by first | exact fun _ k => k | exact fun _ k => blk_to rfl rfl k | exact fun _ k => vec_to rfl k | exact fun _ k => blk_of rfl rfl k | exact fun _ k => vec_of rfl k | exact fun _ k => blk_of rfl rfl (blk_to rfl rfl k) | exact fun _ k => vec_of rfl (vec_to rfl k) | exact fun _ k => mp_to rfl k | exact fun _ k => mp_of rfl k | exact fun _ k => mp_of rfl (mp_to rfl k)) (fun h k => sat_nil k) k) k)⟩
  | 2, _ =>
    refine CondOb.split (fun g => absurd g (by simp)) (fun _ => ?_)
    exact FinOb.mk [.int .i64 s.n] [] (by unfold Sg.n; simp; rfl) (fun h k => trivial) ⟨rfl, rfl⟩
/-- The answer to what belongs to nobody. -/
def strayS (s : Sg) : Sg := if bit s.flags 4 then S0 else if bit s.flags 16 then ⟨s.dst, s.src, s.ack, 0, 4, 0, 0, 0, none, 0, 0⟩ else ⟨s.dst, s.src, 0, addQ s.seq s.n, 20, 0, 0, 0, none, 0, 0⟩
def strayV (s : Sg) : Value := .tuple #[.agg (strayS s).vals.toArray, .bool (!bit s.flags 4)]
theorem stray_spec (s : Sg) (h : s.Ok) : Does Try.prog 19 #[.agg s.vals.toArray] (fun _ => True) [] (fun v p => v = strayV s ∧ p = []) := by
  refine Does.ofJ Try.func19 Try.call19 rfl [.agg s.svs] [] 0 [] rfl rfl (fun h k => k) (fun f hR => ?_)
  intro b1 b2
  refine CondOb.split (fun g => ?_) (fun g => ?_)
  · have g : bit s.flags 4 = true := g
    exact FinOb.mk [.agg S0.vals.toArray, .bool false] [] rfl (fun h k => trivial) ⟨by unfold strayV strayS; rw [g]; rfl, rfl⟩
  have g : bit s.flags 4 = false := g
  intro b4
  refine CondOb.split (fun g2 => ?_) (fun g2 => ?_)
  · have g2 : bit s.flags 16 = false := by unfold bit; rw [bne, g2]; rfl
    refine DrawOb.mk [(3, [0, 1, 5]), (4, [5])] (.run [0, 1, 2, 5, 3, 4, 6, 7, 8, 9, 10] .nil) (by kernel_rfl) ?_
    refine useP (.int .i64 s.n) (slen_spec s h) rfl rfl ?_
    refine Need.mk rfl ?_
    refine useP (.int .u32 (addQ s.seq s.n)) (add_spec _ _) rfl rfl ?_
    exact FinOb.mk [.agg (strayS s).vals.toArray, .bool true] [] (by unfold strayS; rw [g, g2]; rfl) (fun h k => trivial) ⟨by unfold strayV; rw [g]; rfl, rfl⟩
  · have g2 : bit s.flags 16 = true := by unfold bit; rw [bne, g2]; rfl
    exact FinOb.mk [.agg (strayS s).vals.toArray, .bool true] [] (by unfold strayS; rw [g, g2]; rfl) (fun h k => trivial) ⟨by unfold strayV; rw [g]; rfl, rfl⟩
end Go.Proofs.Ytljgcapejcnmgaa.Tc
