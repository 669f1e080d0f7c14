/- reasm: the reference's copied, without. Conditions: none. -/
import Derived.Test.YtiknkeakielncaaRsU
namespace Go.Proofs.Ytiknkeakielncaa.Rs
open Go Go.Proofs Sx
set_option maxRecDepth 100000
set_option linter.unusedVariables false
set_option linter.unusedSimpArgs false
set_option maxHeartbeats 4000000

theorem slice_rdL {α : Type} {e : Lay α} {f : HP} {A : Option Addr} {d : List α} {cap n : Nat} (h : Reads f A (e.flat d)) (hc : d.length ≤ cap) : Reads f (if cap = n then A else A.map (·.add (n * e.sz))) (e.flat (d.drop n)) := by
  by_cases e1 : cap = n
  · subst e1
    rw [List.drop_eq_nil_of_le hc]
    exact Reads.nil _ _
  · rw [if_neg e1]
    rw [← e.flat_drops d n]
    intro i v hv
    rw [List.getElem?_drop] at hv
    obtain ⟨b, o, rfl, h2⟩ := h (n * e.sz + i) v hv
    exact ⟨b, o + n * e.sz, by simp [Addr.add], by rw [Nat.add_assoc]; exact h2⟩
theorem take_rdL {α : Type} {e : Lay α} {f : HP} {A : Option Addr} {d : List α} {n : Nat} (h : Reads f A (e.flat d)) : Reads f A (e.flat (d.take n)) := by
  rw [← e.flat_take d n]
  exact Reads.take h _
/-- New memory, long enough. -/
def RP.pad (x : RP) (m : Nat) (pd : Plc) (cd : Nat) (pf : Plc) (cf : Nat) : RP := { x with d := x.d ++ List.replicate m 0, pd := pd, cd := cd, hs := x.hs ++ List.replicate m false, pf := pf, cf := cf }
def zP : List SV := [.int .u32 0, .int .u32 0, .int .u8 0, .int .u16 0, .nils, .nils, .int .i64 0, .ff, .int .u8 0, .int .u16 0, .ff, .ff, .int .i64 0, .int .u8 0, .int .u8 0, .int .u32 0, .int .u32 0, .nils, .nils, .int .i64 0]
theorem rcopied_spec (x : RP) (n : Nat) (hd : x.d.length ≤ 1000000) (hh : x.hs.length = x.d.length) (hn : n ≤ 1000000) :
    Does Try.prog 94 #[.agg x.vals.toArray, .int .i64 n] (fun f => Reads f (locAddr 0 x.pd) (U.flat x.d) ∧ Reads f (locAddr 0 x.pf) (BL.flat x.hs)) []
      (fun v q => ∃ m pd cd pf cf, v = .agg (x.pad m pd cd pf cf).vals.toArray ∧ n ≤ x.d.length + m ∧ (x.d.length < n → x.d.length + m = n) ∧ (n ≤ x.d.length → m = 0) ∧ x.d.length + m ≤ cd ∧ x.d.length + m ≤ cf ∧ q = (x.pad m pd cd pf cf).own) := by
  refine Does.ofJ Try.func94 Try.call94 rfl [.agg x.svs, .int .i64 n] [] 0 [] rfl rfl (fun h k => k) (fun f hR => ?_)
  intro b2 b4 b7
  have hU := lU x.d
  have hB := lBL x.hs
  refine SrcF.mk (U.flat x.d) (by rw [hU, Nat.mul_one]) hR.1 ?_
  refine StOb.mk [] rfl (Need.mk (by simp) (Need.mk ⟨by omega, by simp only [maxLen]; omega, U.flat_one' _⟩ ?_))
  refine NewSl.any (fun pd cd hcd => ?_)
  intro b11
  refine SrcF.mk (BL.flat x.hs) (by rw [hB, Nat.mul_one]) hR.2 ?_
  refine StOb.mk [] rfl (Need.mk (by simp) (Need.mk ⟨by omega, by simp only [maxLen]; omega, BL.flat_one' _⟩ ?_))
  refine NewSl.any (fun pf cf hcf => ?_)
  refine LoopOb.mk { z : (Plc × Nat) × (Plc × Nat) × Nat // (x.d.length < n → x.d.length + z.2.2 ≤ n) ∧ (n ≤ x.d.length → z.2.2 = 0) ∧ x.d.length + z.2.2 ≤ z.1.2 ∧ x.d.length + z.2.2 ≤ z.2.1.2 } (fun z => ⟨30, [(1, .int .i64 n), (2, .ptr 0 0), (4, .ptr 1 0), (5, .sl 2 0 (x.d ++ List.replicate z.1.2.2 0).length z.1.1.2), (6, .sl 3 0 (x.hs ++ List.replicate z.1.2.2 false).length z.1.2.1.2)], [(0, .at b2 0), (1, .at b4 0), (2, z.1.1.1), (3, z.1.2.1.1)], 4, [.blk 0 178 x.svs, .blk 1 178 zP, .vec 2 5 1 z.1.1.2 (U.flat (x.d ++ List.replicate z.1.2.2 0)), .vec 3 4 1 z.1.2.1.2 (BL.flat (x.hs ++ List.replicate z.1.2.2 false))]⟩) (fun z => n - (x.d.length + z.1.2.2)) ⟨((pd, cd), (pf, cf), 0), fun h => by show x.d.length + 0 ≤ n; omega, fun _ => rfl, by show x.d.length + 0 ≤ cd; omega, by show x.d.length + 0 ≤ cf; omega⟩ ?_ ?_
  · have e1 : 0 + x.d.length = (x.d ++ List.replicate 0 (0 : UInt8)).length := by simp
    have e2 : 0 + x.hs.length = (x.hs ++ List.replicate 0 false).length := by simp
    have e3 : U.flat x.d = U.flat (x.d ++ List.replicate 0 (0 : UInt8)) := by simp
    have e4 : BL.flat x.hs = BL.flat (x.hs ++ List.replicate 0 false) := by simp
    refine Le.of rfl ⟨⟨_, rfl, rfl⟩, ⟨_, rfl, rfl⟩, ⟨_, rfl, rfl⟩, ⟨_, rfl, (congrArg (fun z => some (Value.slice (locAddr 0 pd) z cd)) e1)⟩, ⟨_, rfl, (congrArg (fun z => some (Value.slice (locAddr 0 pf) z cf)) e2)⟩, trivial⟩ (fun h k => sat_pick 3 rfl (by first | exact fun _ k => k | exact fun _ k => blk_to rfl rfl k | exact fun _ k => vec_to rfl k | exact fun _ k => blk_of rfl rfl k | exact fun _ k => vec_of rfl k | exact fun _ k => blk_of rfl rfl (blk_to rfl rfl k) | exact fun _ k => vec_of rfl (vec_to rfl k) | exact fun _ k => mp_to rfl k | exact fun _ k => mp_of rfl k | exact fun _ k => mp_of rfl (mp_to rfl k)) (fun h k => sat_pick 2 rfl (by first | exact fun _ k => k | exact fun _ k => blk_to rfl rfl k | exact fun _ k => vec_to rfl k | exact fun _ k => blk_of rfl rfl k | exact fun _ k => vec_of rfl k | exact fun _ k => blk_of rfl rfl (blk_to rfl rfl k) | exact fun _ k => vec_of rfl (vec_to rfl k) | exact fun _ k => mp_to rfl k | exact fun _ k => mp_of rfl k | exact fun _ k => mp_of rfl (mp_to rfl k)) (fun h k => sat_pick 1 rfl (fun _ k9 => by exact vec_of rfl (vec_cast e3 (vec_to (l := pd) rfl k9))) (fun h k => sat_pick 0 rfl (fun _ k9 => by exact vec_of rfl (vec_cast e4 (vec_to (l := pf) rfl k9))) (fun h k => sat_nil k) k) k) k) k)
  rintro ⟨⟨⟨pd, cd⟩, ⟨pf, cf⟩, m⟩, h1, h2, h3, h4⟩
  simp only at h1 h2 h3 h4
  have hld : (x.d ++ List.replicate m (0 : UInt8)).length = x.d.length + m := by simp
  have hlh : (x.hs ++ List.replicate m false).length = x.d.length + m := by simp [hh]
  refine CondOb.split (fun g => ?_) (fun g => ?_)
  rotate_left
  · have g : ¬ ((x.d ++ List.replicate m (0 : UInt8)).length : Int) < n := of_decide_eq_false g
    rw [hld] at g
    exact FinOb.mk [.agg (x.pad m pd cd pf cf).vals.toArray] (x.pad m pd cd pf cf).own rfl (fun h k => sat_pick 2 rfl (fun _ k => vec_to rfl k) (fun h k => sat_pick 2 rfl (fun _ k => vec_to rfl k) (fun h k => sat_nil k) k) k) ⟨m, pd, cd, pf, cf, rfl, by omega, fun h => by have := h1 h; omega, h2, h3, h4, rfl⟩
  have g : ((x.d ++ List.replicate m (0 : UInt8)).length : Int) < n := of_decide_eq_true g
  rw [hld] at g
  have hm1 := h1 (by omega)
  have hUd := lU (x.d ++ List.replicate m 0)
  have hBd := lBL (x.hs ++ List.replicate m false)
  intro b20
  refine StOb.mk [.int .u8 0] rfl (Need.mk rfl ?_)
  refine Need.mk ⟨by dsimp only; omega, by dsimp only; omega, by rw [hld]; exact h3⟩ ?_
  refine Need.mk ⟨by dsimp only; simp; omega, by dsimp only; simp only [maxLen]; omega, by simp [Value.oneCell']⟩ ?_
  refine NewSl.pos (Nat.succ_pos _) (fun b9 o9 c9 hc9 => ?_)
  intro b23
  refine StOb.mk [.bool false] rfl (Need.mk rfl ?_)
  refine Need.mk ⟨by dsimp only; omega, by dsimp only; omega, by rw [hlh]; exact h4⟩ ?_
  refine Need.mk ⟨by dsimp only; simp; omega, by dsimp only; simp only [maxLen]; omega, by simp [Value.oneCell']⟩ ?_
  refine NewSl.pos (Nat.succ_pos _) (fun b8 o8 c8 hc8 => ?_)
  have e1 : (x.d ++ List.replicate m (0 : UInt8)).length + 1 = (x.d ++ List.replicate (m + 1) (0 : UInt8)).length := by simp; omega
  have e2 : (x.hs ++ List.replicate m false).length + 1 = (x.hs ++ List.replicate (m + 1) false).length := by simp; omega
  have e3 : List.take ((x.d ++ List.replicate m (0 : UInt8)).length * 1) (List.drop 0 (U.flat (x.d ++ List.replicate m (0 : UInt8)))) ++ [Value.int .u8 0] = U.flat (x.d ++ List.replicate (m + 1) (0 : UInt8)) := by
    rw [List.drop_zero, List.take_of_length_le (by omega), List.replicate_succ', ← List.append_assoc, U.flat_append _ [0]]
    rfl
  have e4 : List.take ((x.hs ++ List.replicate m false).length * 1) (List.drop 0 (BL.flat (x.hs ++ List.replicate m false))) ++ [Value.bool false] = BL.flat (x.hs ++ List.replicate (m + 1) false) := by
    rw [List.drop_zero, List.take_of_length_le (by omega), List.replicate_succ', ← List.append_assoc, BL.flat_append _ [false]]
    rfl
  refine ⟨⟨((.at b9 o9, c9), (.at b8 o8, c8), m + 1), fun _ => by show x.d.length + (m + 1) ≤ n; omega, fun h => by omega, by show x.d.length + (m + 1) ≤ c9; dsimp only at hc9; omega, by show x.d.length + (m + 1) ≤ c8; dsimp only at hc8; omega⟩, by show n - (x.d.length + (m + 1)) < n - (x.d.length + m); omega, Le.of rfl ⟨⟨_, rfl, rfl⟩, ⟨_, rfl, rfl⟩, ⟨_, rfl, rfl⟩, ⟨_, rfl, (congrArg (fun z => some (Value.slice (some ⟨b9, o9 + 0, none⟩) z c9)) e1)⟩, ⟨_, rfl, (congrArg (fun z => some (Value.slice (some ⟨b8, o8 + 0, none⟩) z c8)) e2)⟩, trivial⟩ (fun h k => sat_pick 4 rfl (by first | exact fun _ k => k | exact fun _ k => blk_to rfl rfl k | exact fun _ k => vec_to rfl k | exact fun _ k => blk_of rfl rfl k | exact fun _ k => vec_of rfl k | exact fun _ k => blk_of rfl rfl (blk_to rfl rfl k) | exact fun _ k => vec_of rfl (vec_to rfl k) | exact fun _ k => mp_to rfl k | exact fun _ k => mp_of rfl k | exact fun _ k => mp_of rfl (mp_to rfl k)) (fun h k => sat_pick 4 rfl (by first | exact fun _ k => k | exact fun _ k => blk_to rfl rfl k | exact fun _ k => vec_to rfl k | exact fun _ k => blk_of rfl rfl k | exact fun _ k => vec_of rfl k | exact fun _ k => blk_of rfl rfl (blk_to rfl rfl k) | exact fun _ k => vec_of rfl (vec_to rfl k) | exact fun _ k => mp_to rfl k | exact fun _ k => mp_of rfl k | exact fun _ k => mp_of rfl (mp_to rfl k)) (fun h k => sat_pick 2 rfl (fun _ k9 => by exact vec_of rfl (vec_cast e3 (vec_to (l := .at b9 o9) rfl k9))) (fun h k => sat_pick 0 rfl (fun _ k9 => by exact vec_of rfl (vec_cast e4 (vec_to (l := .at b8 o8) rfl k9))) (fun h k => sat_nil k) k) k) k) k)⟩
/-- All but one. -/
theorem without_spec (most life : Int) (A : Option Addr) (cap : Nat) (L : List RP) (hc : L.length ≤ cap) (hL : L.length ≤ 1000) (k : Nat) (hk : k < L.length) :
    Does Try.prog 91 #[.agg #[.int .i64 most, .int .i64 life, .slice A L.length cap], .int .i64 k] (fun f => Reads f A (RPL.flat L)) []
      (fun v q => ∃ pl c, v = .agg #[.int .i64 most, .int .i64 life, .slice (locAddr 0 pl) (L.length - 1) c] ∧ L.length - 1 ≤ c ∧ q = [Vec pl 178 20 c (RPL.flat (L.take k ++ L.drop (k + 1)))]) := by
  refine Does.ofJ Try.func91 Try.call91 rfl [.agg [.int .i64 most, .int .i64 life, .raw (.slice A L.length cap)], .int .i64 k] [] 0 [] rfl rfl (fun h k => k) (fun f hR => ?_)
  intro b2 b4
  refine DrawOb.mk [(0, [1, 2, 3, 4, 6, 7, 8, 9, 10]), (5, [6, 7, 8, 9, 10])] (.run [1, 2, 3, 4, 6, 7, 8, 9, 10, 0, 5, 11, 12, 13] .nil) (by kernel_rfl) ?_
  have hLp := lRPL L
  have ek : IntKind.i64.wrap ((k : Int) + 1) = ((k + 1 : Nat) : Int) := by rw [w64 (by omega) (by omega)]; omega
  have nk : (0 : Int) ≤ IntKind.i64.wrap ((k : Int) + 1) ∧ IntKind.i64.wrap ((k : Int) + 1) ≤ (L.length : Nat) := by rw [ek]; omega
  have lt1 : (RPL.flat (L.take k)).length = k * 20 := by rw [lRPL, List.length_take, Nat.min_eq_left (by omega)]
  have lt2 : (RPL.flat (L.drop (k + 1))).length = (L.length - (k + 1)) * 20 := by rw [lRPL, List.length_drop]
  refine Need.mk (show (0 : Int) ≤ (k : Int) ∧ (k : Int) ≤ (cap : Nat) from by omega) ?_
  refine Need.mk nk ?_
  intro b5
  refine Need.mk rfl ?_
  refine Need.mk rfl ?_
  refine SrcF.mk (RPL.flat (L.take k)) (by rw [lt1]; show k * 20 = (k : Int).toNat * 20; rw [Int.toNat_natCast]) (take_rdL hR) ?_
  refine StOb.mk [] rfl (Need.mk (by simp) (Need.mk ⟨by omega, by simp only [maxLen]; omega, RPL.flat_one' _⟩ ?_))
  refine NewSl.any (fun pl c hc1 => ?_)
  refine Need.mk rfl ?_
  have lt3 : (L.length - (IntKind.i64.wrap ((k : Int) + 1)).toNat) = L.length - (k + 1) := by rw [ek, Int.toNat_natCast]
  refine SrcF.mk (RPL.flat (L.drop (k + 1))) (by rw [lt2, lt3]) (by rw [ek, Int.toNat_natCast]; exact slice_rdL hR hc) ?_
  refine Need.mk ⟨by rw [show (List.take (0 * 20) (List.drop 0 ([] : List Value)) ++ RPL.flat (List.take k L)) = RPL.flat (L.take k) from by simp]; omega, by omega, by omega⟩ ?_
  refine Need.mk ⟨by rw [lt3]; omega, by rw [lt3]; simp only [maxLen]; omega, RPL.flat_one' _⟩ ?_
  refine NewSl.any (fun pl2 c2 hc2 => ?_)
  have hfl : List.take ((0 + (k : Int).toNat) * 20) (List.drop 0 (RPL.flat (L.take k))) ++ RPL.flat (L.drop (k + 1)) = RPL.flat (L.take k ++ L.drop (k + 1)) := by
    rw [List.drop_zero, List.take_of_length_le (by omega), RPL.flat_append]
  have hlen : 0 + (k : Int).toNat + (L.length - (IntKind.i64.wrap ((k : Int) + 1)).toNat) = L.length - 1 := by rw [lt3]; omega
  refine FinOb.mk [.agg #[.int .i64 most, .int .i64 life, .slice (locAddr 0 pl2) (L.length - 1) c2]] [Vec pl2 178 20 c2 (RPL.flat (L.take k ++ L.drop (k + 1)))] (congrArg (fun z => some [Value.agg #[.int .i64 most, .int .i64 life, .slice (locAddr 0 pl2) z c2]]) hlen) (fun h k => sat_pick 2 rfl (fun _ k9 => vec_cast hfl (vec_to (l := pl2) rfl k9)) (fun h k => sat_nil k) k) ⟨pl2, c2, rfl, by omega, rfl⟩
end Go.Proofs.Ytiknkeakielncaa.Rs
