/- wheel: the next spoke. Conditions: none. -/
import Derived.Test.YtiknkeakielncaaWhG
namespace Go.Proofs.Ytiknkeakielncaa.Wh
open Go Go.Proofs Sx
set_option maxRecDepth 100000
set_option linter.unusedVariables false
set_option linter.unusedSimpArgs false
set_option maxHeartbeats 4000000

def spl (w : W) (k s : Nat) : List T := ((w.S[k * 64 + s]?).map Sp.l).getD []
/-- When a spoke ahead begins. -/
def begOf (now : Int) (k : Nat) (s : Int) : Int := (now / 64 ^ (k + 1) * 64 + s) * 64 ^ k
/-- No timers hang there. -/
def Bare (w : W) (k : Nat) (s : Int) : Prop := ∀ s' : Nat, dig w.now k < s' → s' < s → spl w k s' = []
def TurnR (w : W) (at_ : Int) (ok : Bool) : Prop :=
  (at_ = 0 ∧ ok = false ∧ ∀ k, k < 7 → Bare w k 64) ∨
  (ok = true ∧ ∃ (k s : Nat), k < 7 ∧ s < 64 ∧ dig w.now k < s ∧ spl w k s ≠ [] ∧ (∀ j, j < k → Bare w j 64) ∧ Bare w k s ∧ at_ = begOf w.now k s)
theorem bits_or {q s : Int} (q0 : 0 ≤ q) (q1 : q ≤ 4611686018427387904) (s0 : 0 ≤ s) (s1 : s < 64) : bitsOf .i64 (· ||| ·) (q * 64) s = q * 64 + s ∨ 140737488355328 < q := by
  by_cases h : 140737488355328 < q
  · exact .inr h
  left
  obtain ⟨q, rfl⟩ := Int.eq_ofNat_of_zero_le q0
  obtain ⟨s, rfl⟩ := Int.eq_ofNat_of_zero_le s0
  have e : ((BitVec.ofInt 64 ((q : Int) * 64)) ||| (BitVec.ofInt 64 (s : Int))).toNat = q * 64 + s := by
    rw [BitVec.toNat_or, show ((q : Int) * 64) = ((q * 64 : Nat) : Int) by omega, show BitVec.ofInt 64 ((q * 64 : Nat) : Int) = BitVec.ofNat 64 (q * 64) from BitVec.ofInt_natCast .., show BitVec.ofInt 64 (s : Int) = BitVec.ofNat 64 s from BitVec.ofInt_natCast .., BitVec.toNat_ofNat, BitVec.toNat_ofNat]
    rw [Nat.mod_eq_of_lt (show q * 64 < 2 ^ 64 by omega), Nat.mod_eq_of_lt (show s < 2 ^ 64 by omega), Nat.mul_comm q 64]
    exact (Nat.two_pow_add_eq_or_of_lt (i := 6) (show s < 2 ^ 6 by omega) q).symm
  show IntKind.i64.wrap (((BitVec.ofInt 64 ((q : Int) * 64)) ||| (BitVec.ofInt 64 (s : Int))).toNat : Int) = (q : Int) * 64 + s
  rw [e, w64 (by omega) (by omega)]
  omega
theorem pow_le7 (k : Nat) (hk : k ≤ 7) : (64 : Int) ^ k ≤ 4398046511104 := by
  have h1 : (64 : Nat) ^ k ≤ 64 ^ 7 := Nat.pow_le_pow_right (by decide) hk
  have e : (((64 : Nat) ^ k : Nat) : Int) = (64 : Int) ^ k := by norm_cast
  rw [← e]
  have : (64 : Nat) ^ 7 = 4398046511104 := by decide
  omega
theorem beg_bound {now : Int} (n0 : 0 ≤ now) (n1 : now ≤ 1099511627776) {k : Nat} {s : Int} (hk : k < 7) (s0 : 0 ≤ s) (s1 : s < 64) : 0 ≤ begOf now k s ∧ begOf now k s ≤ 5497558138880 := by
  have hp := pow_pos64 k
  have hp1 := pow_pos64 (k + 1)
  have h7 := pow_le7 (k + 1) (by omega)
  have hq : now / 64 ^ (k + 1) * 64 ^ (k + 1) ≤ now := Int.ediv_mul_le _ (by omega)
  have hq0 : 0 ≤ now / 64 ^ (k + 1) := Int.ediv_nonneg n0 (by omega)
  have e : begOf now k s = now / 64 ^ (k + 1) * 64 ^ (k + 1) + s * 64 ^ k := by
    unfold begOf
    rw [Int.add_mul, Int.pow_succ, Int.mul_assoc, Int.mul_comm 64]
  have hs : s * 64 ^ k ≤ 64 ^ (k + 1) := by
    rw [Int.pow_succ, Int.mul_comm]
    exact Int.mul_le_mul_of_nonneg_left (by omega) (by omega)
  have hs0 : 0 ≤ s * 64 ^ k := Int.mul_nonneg s0 (by omega)
  have hm0 : 0 ≤ now / 64 ^ (k + 1) * 64 ^ (k + 1) := Int.mul_nonneg hq0 (by omega)
  omega
theorem turn_spec (b : Nat) (w : W) (hl : w.S.length = 448) (n0 : 0 ≤ w.now) (n1 : w.now ≤ 1099511627776) :
    Does Try.prog 65 #[.pointer (some ⟨b, 0, none⟩)] (fun _ => True) [Hd b w] (fun v p => ∃ at_ ok, v = .tuple #[.int .i64 at_, .bool ok] ∧ TurnR w at_ ok ∧ p = [Hd b w]) := by
  have rnow : ∀ h, Hd b w h → fcell h b (0 + 0) = some (.int .i64 w.now) := fun h k => hd_cell (j := 0) rfl h k
  have nB : w.now ≤ Big := by show w.now ≤ 4611686018427387904; omega
  refine Does.ofJ Try.func65 Try.call65 rfl [.raw (.pointer (some ⟨b, 0, none⟩))] [] 0 [.asn (Hd b w)] rfl rfl (fun h k => sat_pick 0 rfl (by first | exact fun _ k => k | exact fun _ k => blk_to rfl rfl k | exact fun _ k => vec_to rfl k | exact fun _ k => blk_of rfl rfl k | exact fun _ k => vec_of rfl k | exact fun _ k => blk_of rfl rfl (blk_to rfl rfl k) | exact fun _ k => vec_of rfl (vec_to rfl k) | exact fun _ k => mp_to rfl k | exact fun _ k => mp_of rfl k | exact fun _ k => mp_of rfl (mp_to rfl k)) (fun h k => sat_nil k) k) (fun f hR => ?_)
  refine LoopOb.mk { k : Nat // k ≤ 7 ∧ ∀ j, j < k → Bare w j 64 } (fun z => ⟨45, [(0, .raw (.pointer (some ⟨b, 0, none⟩))), (6, .int .i64 z.1)], [], 0, [.asn (Hd b w)]⟩) (fun z => 7 - z.1) ⟨0, by omega, fun j h => absurd h (by omega)⟩ ?_ ?_
  · exact Le.of rfl ⟨⟨_, rfl, rfl⟩, ⟨_, rfl, rfl⟩, trivial⟩ (fun h k => sat_pick 0 rfl (by first | exact fun _ k => k | exact fun _ k => blk_to rfl rfl k | exact fun _ k => vec_to rfl k | exact fun _ k => blk_of rfl rfl k | exact fun _ k => vec_of rfl k | exact fun _ k => blk_of rfl rfl (blk_to rfl rfl k) | exact fun _ k => vec_of rfl (vec_to rfl k) | exact fun _ k => mp_to rfl k | exact fun _ k => mp_of rfl k | exact fun _ k => mp_of rfl (mp_to rfl k)) (fun h k => sat_nil k) k)
  rintro ⟨k, hk7, hbare⟩
  refine CondOb.split (fun g => ?_) (fun g => ?_)
  rotate_left
  · have g : k = 7 := by
      have g := of_decide_eq_false g
      have : ¬ (k : Int) < 7 := g
      omega
    subst g
    exact FinOb.mk [.int .i64 0, .bool false] [Hd b w] rfl (fun h k => sat_pick 0 rfl (by first | exact fun _ k => k | exact fun _ k => blk_to rfl rfl k | exact fun _ k => vec_to rfl k | exact fun _ k => blk_of rfl rfl k | exact fun _ k => vec_of rfl k | exact fun _ k => blk_of rfl rfl (blk_to rfl rfl k) | exact fun _ k => vec_of rfl (vec_to rfl k) | exact fun _ k => mp_to rfl k | exact fun _ k => mp_of rfl k | exact fun _ k => mp_of rfl (mp_to rfl k)) (fun h k => sat_nil k) k) ⟨0, false, rfl, .inl ⟨rfl, rfl, hbare⟩, rfl⟩
  have hk : k < 7 := by
    have g := of_decide_eq_true g
    have : (k : Int) < 7 := g
    omega
  refine RdRaw.told (.int .i64 w.now) _ rfl (fun h k => sat_cell 0 rfl rnow k) ?_
  refine useP (.int .i64 (dig w.now k)) (spoke_spec w.now k n0 nB (by omega)) rfl rfl ?_
  obtain ⟨d0, d1⟩ := dig_range w.now k
  obtain ⟨dn, hdn⟩ := Int.eq_ofNat_of_zero_le d0
  have ed : IntKind.i64.wrap (dig w.now k + 1) = ((dn + 1 : Nat) : Int) := by rw [w64 (by omega) (by omega)]; omega
  refine LoopOb.mk { s : Nat // s ≤ 64 ∧ dig w.now k < s ∧ Bare w k s } (fun z => ⟨45, [(0, .raw (.pointer (some ⟨b, 0, none⟩))), (6, .int .i64 k), (4, .int .i64 k), (5, .int .i64 z.1)], [], 0, [.asn (Hd b w)]⟩) (fun z => 64 - z.1) ⟨dn + 1, by omega, by omega, fun s' h1 h2 => absurd h2 (by omega)⟩ ?_ ?_
  · exact Le.of rfl ⟨⟨_, rfl, rfl⟩, ⟨_, rfl, rfl⟩, ⟨_, rfl, rfl⟩, ⟨_, rfl, congrArg (fun z => some (Value.int .i64 z)) ed⟩, trivial⟩ (fun h k => sat_pick 0 rfl (by first | exact fun _ k => k | exact fun _ k => blk_to rfl rfl k | exact fun _ k => vec_to rfl k | exact fun _ k => blk_of rfl rfl k | exact fun _ k => vec_of rfl k | exact fun _ k => blk_of rfl rfl (blk_to rfl rfl k) | exact fun _ k => vec_of rfl (vec_to rfl k) | exact fun _ k => mp_to rfl k | exact fun _ k => mp_of rfl k | exact fun _ k => mp_of rfl (mp_to rfl k)) (fun h k => sat_nil k) k)
  rintro ⟨s, hs64, hds, hb⟩
  refine CondOb.split (fun g => ?_) (fun g => ?_)
  rotate_left
  · have g : s = 64 := by
      have g := of_decide_eq_false g
      have : ¬ (s : Int) < 64 := g
      omega
    subst g
    have ek : IntKind.i64.wrap ((k : Int) + 1) = ((k + 1 : Nat) : Int) := by rw [w64 (by omega) (by omega)]; omega
    refine ⟨⟨k + 1, by omega, fun j hj => ?_⟩, by show 7 - (k + 1) < 7 - k; omega, Le.of rfl ⟨⟨_, rfl, rfl⟩, ⟨_, rfl, congrArg (fun z => some (Value.int .i64 z)) ek⟩, trivial⟩ (fun h k => sat_pick 0 rfl (by first | exact fun _ k => k | exact fun _ k => blk_to rfl rfl k | exact fun _ k => vec_to rfl k | exact fun _ k => blk_of rfl rfl k | exact fun _ k => vec_of rfl k | exact fun _ k => blk_of rfl rfl (blk_to rfl rfl k) | exact fun _ k => vec_of rfl (vec_to rfl k) | exact fun _ k => mp_to rfl k | exact fun _ k => mp_of rfl k | exact fun _ k => mp_of rfl (mp_to rfl k)) (fun h k => sat_nil k) k)⟩
    by_cases e : j = k
    · subst e; exact hb
    · exact hbare j (by omega)
  have hs : s < 64 := by
    have g := of_decide_eq_true g
    have : (s : Int) < 64 := g
    omega
  have hil : k * 64 + s < w.S.length := by rw [hl]; omega
  have hix := List.getElem?_eq_getElem hil
  generalize w.S[k * 64 + s] = s0 at hix
  have hspl : spl w k s = s0.l := by unfold spl; rw [hix]; rfl
  refine Need.mk (show (0 : Int) ≤ (k : Int) ∧ (k : Int) < 7 from ⟨by omega, by omega⟩) ?_
  refine Need.mk (show (0 : Int) ≤ (s : Int) ∧ (s : Int) < 64 from ⟨by omega, by omega⟩) ?_
  refine RdRaw.told (.raw s0.val) _ rfl (fun h kk => sat_cell 0 rfl (fun x kx => ?_) kk) ?_
  · have : 0 + 3 + ((k : Nat) : Int).toNat * 64 + ((s : Nat) : Int).toNat * 1 = 3 + (k * 64 + s) := by omega
    rw [this]
    exact hd_cell (spoke_cell hix) x kx
  refine CondOb.split (fun g => ?_) (fun g => ?_)
  · have g : 0 < s0.l.length := by
      have g := of_decide_eq_true g
      have : ((s0.l.length : Nat) : Int) > 0 := g
      omega
    refine RdRaw.told (.int .i64 w.now) _ rfl (fun h k => sat_cell 0 rfl rnow k) ?_
    have e1 : IntKind.i64.wrap ((k : Int) + 1) = ((k + 1 : Nat) : Int) := by rw [w64 (by omega) (by omega)]; omega
    have e6 : IntKind.i64.wrap (6 * IntKind.i64.wrap ((k : Int) + 1)) = ((6 * (k + 1) : Nat) : Int) := by rw [e1, w64 (by omega) (by omega)]; omega
    have e7 : IntKind.i64.wrap (6 * (k : Int)) = ((6 * k : Nat) : Int) := by rw [w64 (by omega) (by omega)]; omega
    refine Need.mk (by rw [e6]; omega) ?_
    refine Need.mk (by decide) ?_
    refine Need.mk (by rw [e7]; omega) ?_
    have hat := beg_bound n0 n1 hk (s := (s : Int)) (by omega) (by omega)
    refine FinOb.mk _ [Hd b w] rfl (fun h k => sat_pick 0 rfl (by first | exact fun _ k => k | exact fun _ k => blk_to rfl rfl k | exact fun _ k => vec_to rfl k | exact fun _ k => blk_of rfl rfl k | exact fun _ k => vec_of rfl k | exact fun _ k => blk_of rfl rfl (blk_to rfl rfl k) | exact fun _ k => vec_of rfl (vec_to rfl k) | exact fun _ k => mp_to rfl k | exact fun _ k => mp_of rfl k | exact fun _ k => mp_of rfl (mp_to rfl k)) (fun h k => sat_nil k) k) ⟨begOf w.now k s, true, ?_, .inr ⟨rfl, k, s, hk, hs, hds, by rw [hspl]; intro e; rw [e] at g; simp at g, hbare, hb, rfl⟩, rfl⟩
    have hb6 : min (IntKind.i64.wrap (6 * IntKind.i64.wrap ((k : Int) + 1))).toNat IntKind.i64.bits = 6 * (k + 1) := by rw [e6]; exact Nat.min_eq_left (by show 6 * (k + 1) ≤ 64; omega)
    have hb7 : min (IntKind.i64.wrap (6 * (k : Int))).toNat IntKind.i64.bits = 6 * k := by rw [e7]; exact Nat.min_eq_left (by show 6 * k ≤ 64; omega)
    have hq := div_small n0 (k + 1)
    have hor := (bits_or (q := w.now / 64 ^ (k + 1)) (s := (s : Int)) hq.1 (by omega) (by omega) (by omega)).resolve_right (by omega)
    have e : IntKind.i64.wrap (bitsOf .i64 (· ||| ·) (IntKind.i64.wrap (w.now.fdiv (2 ^ min (IntKind.i64.wrap (6 * IntKind.i64.wrap ((k : Int) + 1))).toNat IntKind.i64.bits) * 2 ^ min (6 : Int).toNat IntKind.i64.bits)) (s : Int) * 2 ^ min (IntKind.i64.wrap (6 * (k : Int))).toNat IntKind.i64.bits) = begOf w.now k s := by
      rw [hb6, hb7, pow64, pow64, Int.fdiv_eq_ediv_of_nonneg _ (Int.le_of_lt (pow_pos64 (k + 1))), show (2 : Int) ^ min (6 : Int).toNat IntKind.i64.bits = 64 from rfl, w64 (x := w.now / 64 ^ (k + 1) * 64) (by omega) (by omega), hor]
      exact w64 (by unfold begOf at hat; omega) (by unfold begOf at hat; omega)
    exact congrArg (fun z => Value.tuple #[.int .i64 z, .bool true]) e
  · have g0 : s0.l.length = 0 := by
      have g := of_decide_eq_false g
      have : ¬ ((s0.l.length : Nat) : Int) > 0 := g
      omega
    have es : IntKind.i64.wrap ((s : Int) + 1) = ((s + 1 : Nat) : Int) := by rw [w64 (by omega) (by omega)]; omega
    refine ⟨⟨s + 1, by omega, by omega, fun s' h1 h2 => ?_⟩, by show 64 - (s + 1) < 64 - s; omega, Le.of rfl ⟨⟨_, rfl, rfl⟩, ⟨_, rfl, rfl⟩, ⟨_, rfl, rfl⟩, ⟨_, rfl, congrArg (fun z => some (Value.int .i64 z)) es⟩, trivial⟩ (fun h k => sat_pick 0 rfl (by first | exact fun _ k => k | exact fun _ k => blk_to rfl rfl k | exact fun _ k => vec_to rfl k | exact fun _ k => blk_of rfl rfl k | exact fun _ k => vec_of rfl k | exact fun _ k => blk_of rfl rfl (blk_to rfl rfl k) | exact fun _ k => vec_of rfl (vec_to rfl k) | exact fun _ k => mp_to rfl k | exact fun _ k => mp_of rfl k | exact fun _ k => mp_of rfl (mp_to rfl k)) (fun h k => sat_nil k) k)⟩
    by_cases e : s' = s
    · subst e; rw [hspl]; exact List.length_eq_zero_iff.1 g0
    · exact hb s' h1 (by omega)
end Go.Proofs.Ytiknkeakielncaa.Wh
