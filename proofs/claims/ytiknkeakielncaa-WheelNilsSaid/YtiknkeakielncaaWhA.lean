/- wheel: timers, digits, the wheel on which a tick hangs. Conditions: none. -/
import Derived.Test.YtiknkeakielncaaProg
import Derived.Test.YtiknkeakielncaaE22
namespace Go.Proofs.Ytiknkeakielncaa.Wh
open Go Go.Proofs Sx
set_option maxRecDepth 100000
set_option linter.unusedVariables false
set_option linter.unusedSimpArgs false
set_option maxHeartbeats 4000000

/-- A timer. -/
structure T where
  id : Int
  at_ : Int
  no : Int
deriving DecidableEq, Inhabited
def T.vals (t : T) : List Value := [.int .i64 t.id, .int .i64 t.at_, .int .i64 t.no]
def T.svs (t : T) : List SV := [.int .i64 t.id, .int .i64 t.at_, .int .i64 t.no]
def TL : Lay T where
  cells := T.vals
  sz := 3
  len _ := rfl
  one e v hv := by
    simp only [T.vals, List.mem_cons, List.not_mem_nil, or_false] at hv
    rcases hv with rfl | rfl | rfl <;> rfl
theorem lT (l : List T) : (TL.flat l).length = l.length * 3 := by rw [TL.flat_length]; rfl
/-! ### Digits -/
def dig (x : Int) (k : Nat) : Int := x / 64 ^ k % 64
theorem dig_range (x : Int) (k : Nat) : 0 ≤ dig x k ∧ dig x k < 64 := by unfold dig; omega
theorem bits_63 {x : Int} (h0 : 0 ≤ x) (h1 : x ≤ 4611686018427387904) : bitsOf .i64 (· &&& ·) x 63 = x % 64 := by
  obtain ⟨n, rfl⟩ := Int.eq_ofNat_of_zero_le h0
  have e : ((BitVec.ofInt 64 (n : Int)) &&& (BitVec.ofInt 64 63)).toNat = n % 64 := by
    rw [BitVec.toNat_and, show BitVec.ofInt 64 (63 : Int) = BitVec.ofNat 64 63 from rfl, show BitVec.ofInt 64 (n : Int) = BitVec.ofNat 64 n from BitVec.ofInt_natCast .., BitVec.toNat_ofNat, BitVec.toNat_ofNat]
    rw [Nat.mod_eq_of_lt (show n < 2 ^ 64 by omega), show 63 % 2 ^ 64 = 2 ^ 6 - 1 from rfl, Nat.and_two_pow_sub_one_eq_mod]
  show IntKind.i64.wrap (((BitVec.ofInt 64 (n : Int)) &&& (BitVec.ofInt 64 63)).toNat : Int) = (n : Int) % 64
  rw [e, w64 (by omega) (by omega)]
  omega
theorem pow64 (k : Nat) : (2 : Int) ^ (6 * k) = 64 ^ k := by
  rw [Int.pow_mul]; rfl
theorem pow_pos64 (k : Nat) : (0 : Int) < 64 ^ k := Int.pow_pos (by decide)
theorem div_small {x : Int} (h0 : 0 ≤ x) (k : Nat) : 0 ≤ x / 64 ^ k ∧ x / 64 ^ k ≤ x :=
  ⟨Int.ediv_nonneg h0 (Int.le_of_lt (pow_pos64 k)), Int.ediv_le_self _ h0⟩
/-- Far ticks. -/
abbrev Big : Int := 4611686018427387904
theorem spoke_spec (x : Int) (k : Nat) (h0 : 0 ≤ x) (h1 : x ≤ Big) (hk : k ≤ 10) : Does Try.prog 89 #[.int .i64 x, .int .i64 k] (fun _ => True) [] (fun v p => v = .int .i64 (dig x k) ∧ p = []) := by
  refine Does.ofJ Try.func89 Try.call89 rfl [.int .i64 x, .int .i64 k] [] 0 [] rfl rfl (fun h k => k) (fun f hR => ?_)
  have e6 : IntKind.i64.wrap (6 * (k : Int)) = ((6 * k : Nat) : Int) := by rw [w64 (by omega) (by omega)]; omega
  refine Need.mk (by rw [e6]; omega) ?_
  refine FinOb.mk _ [] rfl (fun h k => trivial) ⟨?_, rfl⟩
  have e2 : min (IntKind.i64.wrap (6 * (k : Int))).toNat IntKind.i64.bits = 6 * k := by rw [e6]; exact Nat.min_eq_left (by show 6 * k ≤ 64; omega)
  obtain ⟨d0, d1⟩ := div_small h0 k
  show Value.int .i64 (bitsOf .i64 (· &&& ·) (x.fdiv (2 ^ min (IntKind.i64.wrap (6 * (k : Int))).toNat IntKind.i64.bits)) 63) = _
  rw [e2, pow64, Int.fdiv_eq_ediv_of_nonneg _ (Int.le_of_lt (pow_pos64 k)), bits_63 d0 (by have : x ≤ 4611686018427387904 := h1; omega)]
  rfl
/-- The highest digit that is not now's. -/
def hw (now x : Int) : Nat → Nat
  | 0 => 0
  | i + 1 => if dig x i ≠ dig now i then i else hw now x i
abbrev hi (now x : Int) : Nat := hw now x 7
theorem hw_lt (now x : Int) : ∀ n, hw now x n ≤ n - 1
  | 0 => Nat.le_refl _
  | n + 1 => by
    unfold hw
    have := hw_lt now x n
    split <;> omega
/-- It is this one. -/
def Lvl (now x : Int) (k : Nat) : Prop := x / 64 ^ (k + 1) = now / 64 ^ (k + 1) ∧ now / 64 ^ k < x / 64 ^ k
theorem div_step (x : Int) (k : Nat) : x / 64 ^ (k + 1) = x / 64 ^ k / 64 := by
  rw [Int.pow_succ, Int.ediv_ediv_of_nonneg (Int.le_of_lt (pow_pos64 k))]
theorem eq_up {now x : Int} {k : Nat} (h : x / 64 ^ k = now / 64 ^ k) : ∀ d, x / 64 ^ (k + d) = now / 64 ^ (k + d)
  | 0 => h
  | d + 1 => by
    rw [← Nat.add_assoc, div_step, div_step, eq_up h d]
theorem hw_lvl {now x : Int} {k : Nat} (h : Lvl now x k) : ∀ n, k < n → hw now x n = k
  | 0, hk => by omega
  | n + 1, hk => by
    unfold hw
    by_cases e : n = k
    · subst e
      rw [if_pos]
      obtain ⟨h1, h2⟩ := h
      rw [div_step, div_step] at h1
      unfold dig
      omega
    · have h3 := eq_up h.1 (n - (k + 1))
      rw [show k + 1 + (n - (k + 1)) = n by omega] at h3
      rw [if_neg (by unfold dig; rw [h3]; simp)]
      exact hw_lvl h n (by omega)
theorem lvl_some {now x : Int} (h : now < x) : ∀ n, x / 64 ^ n = now / 64 ^ n → ∃ k, k < n ∧ Lvl now x k
  | 0, e => by simp at e; omega
  | n + 1, e => by
    by_cases e2 : x / 64 ^ n = now / 64 ^ n
    · obtain ⟨k, hk, hl⟩ := lvl_some h n e2
      exact ⟨k, by omega, hl⟩
    · have : now / 64 ^ n ≤ x / 64 ^ n := Int.ediv_le_ediv (pow_pos64 n) (by omega)
      exact ⟨n, by omega, e, by omega⟩
theorem top_zero {x : Int} (h0 : 0 ≤ x) (h1 : x ≤ 1099511627776) : x / 64 ^ 7 = 0 := Int.ediv_eq_zero_of_lt h0 (by show x < 4398046511104; omega)
theorem hi_lvl {now x : Int} (n0 : 0 ≤ now) (h : now < x) (h1 : x ≤ 1099511627776) : Lvl now x (hi now x) ∧ hi now x < 7 := by
  obtain ⟨k, hk, hl⟩ := lvl_some h 7 (by rw [top_zero (by omega) h1, top_zero n0 (by omega)])
  have := hw_lvl hl 7 hk
  unfold hi
  rw [this]
  exact ⟨hl, hk⟩
/-- The spoke, by its number. -/
def ix (now x : Int) : Nat := hi now x * 64 + (dig x (hi now x)).toNat
theorem hi_lt (now x : Int) : hi now x < 7 := by have := hw_lt now x 7; unfold hi; omega
theorem ix_lt (now x : Int) : ix now x < 448 := by
  have h1 := hi_lt now x
  have h2 := dig_range x (hi now x)
  unfold ix; omega
/-- When a tick's spoke begins. -/
def beg (now x : Int) : Int := x / 64 ^ hi now x * 64 ^ hi now x
theorem beg_le (now x : Int) : beg now x ≤ x := Int.ediv_mul_le _ (by have := pow_pos64 (hi now x); omega)
/-- Up to there the spoke stays. -/
theorem lvl_stays {now now' x : Int} {k : Nat} (h : Lvl now x k) (h1 : now ≤ now') (h2 : now' < x / 64 ^ k * 64 ^ k) : Lvl now' x k := by
  have hp := pow_pos64 k
  have hlt : now' / 64 ^ k < x / 64 ^ k := Int.ediv_lt_of_lt_mul hp h2
  refine ⟨?_, hlt⟩
  have a : now / 64 ^ (k + 1) ≤ now' / 64 ^ (k + 1) := Int.ediv_le_ediv (pow_pos64 (k + 1)) h1
  have b : now' / 64 ^ (k + 1) ≤ x / 64 ^ (k + 1) := by
    rw [div_step, div_step]
    omega
  have := h.1
  omega
theorem ix_stays {now now' x : Int} (n0 : 0 ≤ now) (h : now < x) (h1 : x ≤ 1099511627776) (h2 : now ≤ now') (h3 : now' < beg now x) : ix now' x = ix now x ∧ now' < x := by
  obtain ⟨hl, hk⟩ := hi_lvl n0 h h1
  have hl' := lvl_stays hl h2 h3
  have e : hi now' x = hi now x := hw_lvl hl' 7 hk
  refine ⟨by unfold ix; rw [e], ?_⟩
  have := beg_le now x
  omega
end Go.Proofs.Ytiknkeakielncaa.Wh
