/- route: numbers, nets, ways in order. Conditions: none. -/
import Derived.Test.YtjppphldiaonkaaProg
import Derived.Test.YtjppphldiaonkaaE20
namespace Go.Proofs.Ytjppphldiaonkaa.Rt
open Go Go.Proofs Sx
set_option maxRecDepth 100000
set_option linter.unusedVariables false
set_option linter.unusedSimpArgs false
set_option maxHeartbeats 4000000

/-- A way. -/
structure R where
  net : Int
  bits : Int
  via : Int
  iface : Int
  cost : Int
deriving DecidableEq
def R.vals (r : R) : List Value := [.int .u32 r.net, .int .i64 r.bits, .int .u32 r.via, .int .i64 r.iface, .int .i64 r.cost]
def R.svs (r : R) : List SV := [.int .u32 r.net, .int .i64 r.bits, .int .u32 r.via, .int .i64 r.iface, .int .i64 r.cost]
def RL : Lay R where
  cells := R.vals
  sz := 5
  len _ := rfl
  one e v hv := by
    simp only [R.vals, List.mem_cons, List.not_mem_nil, or_false] at hv
    rcases hv with rfl | rfl | rfl | rfl | rfl <;> rfl
theorem lR (l : List R) : (RL.flat l).length = l.length * 5 := by rw [RL.flat_length]; rfl
theorem nan_spec (x : Int) : Does Try.prog 76 #[.int .i64 x] (fun _ => True) [] (fun v p => v = .bool false ∧ p = []) := by
  refine Does.ofJ Try.func76 Try.call76 rfl [.int .i64 x] [] 0 [] rfl rfl (fun h k => k) (fun f hR => ?_)
  exact FinOb.mk _ [] rfl (fun h k => trivial) ⟨by simp [ret1], rfl⟩
def cmpI (x y : Int) : Int := if x < y then -1 else if y < x then 1 else 0
theorem cmp_spec (x y : Int) : Does Try.prog 64 #[.int .i64 x, .int .i64 y] (fun _ => True) [] (fun v p => v = .int .i64 (cmpI x y) ∧ p = []) := by
  refine Does.ofJ Try.func64 Try.call64 rfl [.int .i64 x, .int .i64 y] [] 0 [] rfl rfl (fun h k => k) (fun f hR => ?_)
  refine useP .ff (nan_spec x) rfl rfl ?_
  refine useP .ff (nan_spec y) rfl rfl ?_
  refine CondOb.split (fun g => ?_) (fun g => ?_)
  · have g : x < y := by simpa using g
    exact FinOb.mk _ [] rfl (fun h k => trivial) ⟨by simp [ret1, cmpI, g], rfl⟩
  have g : ¬ x < y := by simpa using g
  refine CondOb.split (fun g2 => ?_) (fun g2 => ?_)
  · have g2 : y < x := by simpa using g2
    exact FinOb.mk _ [] rfl (fun h k => trivial) ⟨by simp [ret1, cmpI, g, g2], rfl⟩
  have g2 : ¬ y < x := by simpa using g2
  exact FinOb.mk _ [] rfl (fun h k => trivial) ⟨by simp [ret1, cmpI, g, g2], rfl⟩
theorem against_spec (x y : R) : Does Try.prog 45 #[.agg x.vals.toArray, .agg y.vals.toArray] (fun _ => True) [] (fun v p => v = .int .i64 (cmpI x.cost y.cost) ∧ p = []) := by
  refine Does.ofJ Try.func45 Try.call45 rfl [.agg x.svs, .agg y.svs] [] 0 [] rfl rfl (fun h k => k) (fun f hR => ?_)
  intro b1 b2
  refine useP (.int .i64 (cmpI x.cost y.cost)) (cmp_spec x.cost y.cost) rfl rfl ?_
  exact FinOb.mk _ [] rfl (fun h k => trivial) ⟨rfl, rfl⟩
theorem bits_one {x : Int} (h0 : 0 ≤ x) (h1 : x ≤ 4294967295) : bitsOf .i64 (· &&& ·) x 1 = x % 2 := by
  obtain ⟨n, rfl⟩ := Int.eq_ofNat_of_zero_le h0
  have e : ((BitVec.ofInt 64 (n : Int)) &&& (BitVec.ofInt 64 1)).toNat = n % 2 := by
    rw [BitVec.toNat_and, show BitVec.ofInt 64 (1 : Int) = BitVec.ofNat 64 1 from rfl, show BitVec.ofInt 64 (n : Int) = BitVec.ofNat 64 n from BitVec.ofInt_natCast .., BitVec.toNat_ofNat, BitVec.toNat_ofNat]
    rw [Nat.mod_eq_of_lt (show n < 2 ^ 64 by omega), show 1 % 2 ^ 64 = 1 from rfl, Nat.and_one_is_mod]
  show IntKind.i64.wrap (((BitVec.ofInt 64 (n : Int)) &&& (BitVec.ofInt 64 1)).toNat : Int) = (n : Int) % 2
  rw [e, w64 (by omega) (by omega)]
  omega
/-- An address's net. -/
def netOf (a n : Int) : Int := a / 2 ^ (32 - n).toNat * 2 ^ (32 - n).toNat
theorem nat_mask (a k : Nat) (ha : a < 2 ^ 32) (hk : k ≤ 32) : a &&& (2 ^ 32 - 2 ^ k) = a / 2 ^ k * 2 ^ k := by
  have hp : 0 < 2 ^ k := Nat.two_pow_pos k
  have hle : 2 ^ k ≤ 2 ^ 32 := Nat.pow_le_pow_right (by decide) hk
  rw [← Nat.shiftRight_eq_div_pow, ← Nat.shiftLeft_eq]
  apply Nat.eq_of_testBit_eq
  intro i
  rw [Nat.testBit_and, Nat.testBit_shiftLeft, Nat.testBit_shiftRight, show 2 ^ 32 - 2 ^ k = 2 ^ 32 - ((2 ^ k - 1) + 1) by omega, Nat.testBit_two_pow_sub_succ (by omega), Nat.testBit_two_pow_sub_one]
  by_cases hi : i < 32
  · by_cases hki : k ≤ i
    · have : ¬ i < k := by omega
      simp [hi, hki, this]
    · have : i < k := by omega
      simp [hi, hki, this]
  · have : a.testBit i = false := Nat.testBit_lt_two_pow (Nat.lt_of_lt_of_le ha (Nat.pow_le_pow_right (by decide) (by omega)))
    by_cases hki : k ≤ i
    · have e : k + (i - k) = i := by omega
      simp [this, hi, hki]
    · simp [hi, hki]
theorem bits_mask {a n : Int} (a0 : 0 ≤ a) (a1 : a ≤ 4294967295) (h0 : 0 ≤ n) (h1 : n ≤ 32) : bitsOf .u32 (· &&& ·) a (4294967296 - 2 ^ (32 - n).toNat) = netOf a n := by
  obtain ⟨a, rfl⟩ := Int.eq_ofNat_of_zero_le a0
  generalize hk : (32 - n).toNat = k
  have hk32 : k ≤ 32 := by omega
  have hle : 2 ^ k ≤ 2 ^ 32 := Nat.pow_le_pow_right (by decide) hk32
  have hp : 0 < 2 ^ k := Nat.two_pow_pos k
  have em : (4294967296 - 2 ^ k : Int) = ((2 ^ 32 - 2 ^ k : Nat) : Int) := by
    have : ((2 ^ k : Nat) : Int) = (2 : Int) ^ k := by norm_cast
    rw [← this]; omega
  have e : ((BitVec.ofInt 32 (a : Int)) &&& (BitVec.ofInt 32 ((2 ^ 32 - 2 ^ k : Nat) : Int))).toNat = a / 2 ^ k * 2 ^ k := by
    rw [BitVec.toNat_and, show BitVec.ofInt 32 (a : Int) = BitVec.ofNat 32 a from BitVec.ofInt_natCast .., show BitVec.ofInt 32 ((2 ^ 32 - 2 ^ k : Nat) : Int) = BitVec.ofNat 32 (2 ^ 32 - 2 ^ k) from BitVec.ofInt_natCast .., BitVec.toNat_ofNat, BitVec.toNat_ofNat]
    rw [Nat.mod_eq_of_lt (show a < 2 ^ 32 by omega), Nat.mod_eq_of_lt (show 2 ^ 32 - 2 ^ k < 2 ^ 32 by omega), nat_mask a k (by omega) hk32]
  have hd : a / 2 ^ k * 2 ^ k ≤ a := Nat.div_mul_le_self a (2 ^ k)
  show IntKind.u32.wrap (((BitVec.ofInt 32 (a : Int)) &&& (BitVec.ofInt 32 (4294967296 - 2 ^ k : Int))).toNat : Int) = netOf a n
  rw [em, e, w32 (by omega) (by omega)]
  unfold netOf
  rw [hk]
  norm_cast
theorem bit_spec (a i : Int) (a0 : 0 ≤ a) (a1 : a ≤ 4294967295) (h0 : 0 ≤ i) (h1 : i ≤ 31) : Does Try.prog 54 #[.int .u32 a, .int .i64 i] (fun _ => True) [] (fun v p => v = .int .i64 (a / 2 ^ (31 - i).toNat % 2) ∧ p = []) := by
  refine Does.ofJ Try.func54 Try.call54 rfl [.int .u32 a, .int .i64 i] [] 0 [] rfl rfl (fun h k => k) (fun f hR => ?_)
  have e31 : IntKind.i64.wrap (31 - i) = 31 - i := w64 (by omega) (by omega)
  refine Need.mk (by rw [e31]; omega) ?_
  refine FinOb.mk _ [] rfl (fun h k => trivial) ⟨?_, rfl⟩
  obtain ⟨n, rfl⟩ := Int.eq_ofNat_of_zero_le h0
  have hn : n ≤ 31 := by omega
  have e1 : (31 - (n : Int)).toNat = 31 - n := by omega
  have e2 : min (IntKind.i64.wrap (31 - (n : Int))).toNat IntKind.u32.bits = 31 - n := by rw [e31, e1]; exact Nat.min_eq_left (by show 31 - n ≤ 32; omega)
  have hp : (0 : Int) < 2 ^ (31 - n) := Int.pow_pos (by decide)
  have e3 : a.fdiv (2 ^ (31 - n)) = a / 2 ^ (31 - n) := Int.fdiv_eq_ediv_of_nonneg _ (Int.le_of_lt hp)
  have d0 : 0 ≤ a / 2 ^ (31 - n) := Int.ediv_nonneg a0 (Int.le_of_lt hp)
  have d1 : a / 2 ^ (31 - n) ≤ a := Int.ediv_le_self _ a0
  show Value.int .i64 (bitsOf .i64 (· &&& ·) (IntKind.i64.wrap (a.fdiv (2 ^ min (IntKind.i64.wrap (31 - (n : Int))).toNat IntKind.u32.bits))) 1) = _
  rw [e2, e3, e1, w64 (by omega) (by omega), bits_one d0 (by omega)]
theorem aright_spec (n : Int) : Does Try.prog 69 #[.int .i64 n] (fun _ => True) [] (fun v p => v = .bool (decide (0 ≤ n) && decide (n ≤ 32)) ∧ p = []) := by
  refine Does.ofJ Try.func69 Try.call69 rfl [.int .i64 n] [] 0 [] rfl rfl (fun h k => k) (fun f hR => ?_)
  refine RegOb.go ?_
  refine Br.mk (fun h => ?_) (fun h => ?_)
  · exact FinOb.mk _ [] rfl (fun h k => trivial) ⟨by simp_all [ret1], rfl⟩
  · exact FinOb.mk _ [] rfl (fun h k => trivial) ⟨by simp_all [ret1] <;> omega, rfl⟩
theorem mask_tab : ∀ k : Nat, k < 33 → IntKind.u32.wrap (4294967295 * 2 ^ min (32 - (k : Int)).toNat IntKind.u32.bits) = 4294967296 - 2 ^ (32 - (k : Int)).toNat := by decide +kernel
theorem mask_spec (n : Int) (h0 : 0 ≤ n) (h1 : n ≤ 32) : Does Try.prog 70 #[.int .i64 n] (fun _ => True) [] (fun v p => v = .int .u32 (4294967296 - 2 ^ (32 - n).toNat) ∧ p = []) := by
  refine Does.ofJ Try.func70 Try.call70 rfl [.int .i64 n] [] 0 [] rfl rfl (fun h k => k) (fun f hR => ?_)
  have e31 : IntKind.i64.wrap (32 - n) = 32 - n := w64 (by omega) (by omega)
  refine Need.mk (by rw [e31]; omega) ?_
  refine FinOb.mk _ [] rfl (fun h k => trivial) ⟨?_, rfl⟩
  obtain ⟨k, rfl⟩ := Int.eq_ofNat_of_zero_le h0
  have hk : k < 33 := by omega
  show Value.int .u32 (IntKind.u32.wrap (4294967295 * 2 ^ min (IntKind.i64.wrap (32 - (k : Int))).toNat IntKind.u32.bits)) = _
  rw [e31, mask_tab k hk]
theorem anet_spec (a n : Int) (a0 : 0 ≤ a) (a1 : a ≤ 4294967295) : Does Try.prog 55 #[.int .u32 a, .int .i64 n] (fun _ => True) [] (fun v p => v = (if 0 ≤ n ∧ n ≤ 32 then .tuple #[.int .u32 (netOf a n), .int .i64 0] else .tuple #[.int .u32 0, .int .i64 1]) ∧ p = []) := by
  refine Does.ofJ Try.func55 Try.call55 rfl [.int .u32 a, .int .i64 n] [] 0 [] rfl rfl (fun h k => k) (fun f hR => ?_)
  refine useP (.bool (decide (0 ≤ n) && decide (n ≤ 32))) (aright_spec n) rfl rfl ?_
  refine CondOb.split (fun g => ?_) (fun g => ?_)
  · have g : ¬ (0 ≤ n ∧ n ≤ 32) := by simp at g; omega
    rw [if_neg g]
    exact FinOb.mk _ [] rfl (fun h k => trivial) ⟨rfl, rfl⟩
  have g : 0 ≤ n ∧ n ≤ 32 := by simp at g; omega
  rw [if_pos g]
  refine useP (.int .u32 (4294967296 - 2 ^ (32 - n).toNat)) (mask_spec n g.1 g.2) rfl rfl ?_
  refine FinOb.mk _ [] rfl (fun h k => trivial) ⟨?_, rfl⟩
  show Value.tuple #[.int .u32 (bitsOf .u32 (· &&& ·) a (4294967296 - 2 ^ (32 - n).toNat)), .int .i64 0] = _
  rw [bits_mask a0 a1 g.1 g.2]
end Go.Proofs.Ytjppphldiaonkaa.Rt
namespace Go.Proofs.Ytjppphldiaonkaa.Rt
open Go Go.Proofs Sx
set_option maxRecDepth 100000
set_option linter.unusedVariables false
set_option linter.unusedSimpArgs false
set_option maxHeartbeats 4000000

theorem pow_small (k : Nat) (h : k ≤ 32) : (2 : Int) ^ k ≤ 4294967296 ∧ 0 < (2 : Int) ^ k := by
  have h1 : (2 : Nat) ^ k ≤ 2 ^ 32 := Nat.pow_le_pow_right (by decide) h
  have h2 : 0 < (2 : Nat) ^ k := Nat.two_pow_pos k
  have e : (((2 : Nat) ^ k : Nat) : Int) = (2 : Int) ^ k := by norm_cast
  rw [← e]; omega
theorem size_spec (n : Int) (h0 : 0 ≤ n) (h1 : n ≤ 32) : Does Try.prog 67 #[.int .i64 n] (fun _ => True) [] (fun v p => v = .int .i64 (2 ^ (32 - n).toNat) ∧ p = []) := by
  refine Does.ofJ Try.func67 Try.call67 rfl [.int .i64 n] [] 0 [] rfl rfl (fun h k => k) (fun f hR => ?_)
  obtain ⟨n, rfl⟩ := Int.eq_ofNat_of_zero_le h0
  refine LoopOb.mk { k : Nat // n ≤ k ∧ k ≤ 32 } (fun z => ⟨13, [(3, .int .i64 (2 ^ (z.1 - n))), (4, .int .i64 z.1)], [], 0, []⟩) (fun z => 32 - z.1) ⟨n, by omega, by omega⟩ ?_ ?_
  · exact Le.of rfl ⟨⟨_, rfl, congrArg (fun z => some (Value.int .i64 z)) (by rw [Nat.sub_self]; rfl)⟩, ⟨_, rfl, rfl⟩, trivial⟩ (fun h k => k)
  rintro ⟨k, hk1, hk2⟩
  refine CondOb.split (fun g => ?_) (fun g => ?_)
  · simp only [decide_eq_true_eq] at g
    replace g : (k : Int) < 32 := g
    have hp := pow_small (k - n) (by omega)
    have hp1 := pow_small (k + 1 - n) (by omega)
    have e : (2 : Int) * 2 ^ (k - n) = 2 ^ (k + 1 - n) := by rw [show k + 1 - n = (k - n) + 1 by omega, Int.pow_succ]; omega
    have ei : IntKind.i64.wrap ((k : Int) + 1) = ((k + 1 : Nat) : Int) := by rw [w64 (by omega) (by omega)]; omega
    exact ⟨⟨k + 1, by omega, by omega⟩, by show 32 - (k + 1) < 32 - k; omega, Le.of rfl ⟨⟨_, rfl, congrArg (fun z => some (Value.int .i64 z)) (by rw [e, w64 (by omega) (by omega)])⟩, ⟨_, rfl, congrArg (fun z => some (Value.int .i64 z)) ei⟩, trivial⟩ (fun h k => k)⟩
  · simp only [decide_eq_false_iff_not] at g
    replace g : ¬ (k : Int) < 32 := g
    have e1 : k - n = (32 - (n : Int)).toNat := by omega
    exact FinOb.mk _ [] rfl (fun h k => trivial) ⟨by rw [← e1]; rfl, rfl⟩
theorem rnet_spec (a n : Int) (a0 : 0 ≤ a) (a1 : a ≤ 4294967295) (h0 : 0 ≤ n) (h1 : n ≤ 32) : Does Try.prog 47 #[.int .u32 a, .int .i64 n] (fun _ => True) [] (fun v p => v = .int .u32 (netOf a n) ∧ p = []) := by
  refine Does.ofJ Try.func47 Try.call47 rfl [.int .u32 a, .int .i64 n] [] 0 [] rfl rfl (fun h k => k) (fun f hR => ?_)
  have hp := pow_small (32 - n).toNat (by omega)
  refine DrawOb.mk [(3, [0, 1, 5]), (6, [0, 1, 4])] (.run [0, 1, 2, 5, 3, 4, 6, 7, 8, 9] .nil) (by kernel_rfl) ?_
  refine useP (.int .i64 (2 ^ (32 - n).toNat)) (size_spec n h0 h1) rfl rfl ?_
  refine Need.mk (by omega) ?_
  refine useP (.int .i64 (2 ^ (32 - n).toNat)) (size_spec n h0 h1) rfl rfl ?_
  refine FinOb.mk _ [] rfl (fun h k => trivial) ⟨?_, rfl⟩
  have hd0 : 0 ≤ a / 2 ^ (32 - n).toNat := Int.ediv_nonneg a0 (by omega)
  have hd1 : a / 2 ^ (32 - n).toNat ≤ a := Int.ediv_le_self _ a0
  have hm : a / 2 ^ (32 - n).toNat * 2 ^ (32 - n).toNat ≤ a := Int.ediv_mul_le _ (by omega)
  have hm0 : 0 ≤ a / 2 ^ (32 - n).toNat * 2 ^ (32 - n).toNat := Int.mul_nonneg hd0 (by omega)
  show Value.int .u32 (IntKind.u32.wrap (IntKind.i64.wrap (IntKind.i64.wrap ((IntKind.i64.wrap a).tdiv (2 ^ (32 - n).toNat)) * 2 ^ (32 - n).toNat))) = _
  rw [w64 (x := a) (by omega) (by omega), Int.tdiv_eq_ediv_of_nonneg a0, w64 (x := a / 2 ^ (32 - n).toNat) (by omega) (by omega), w64 (by omega) (by omega), w32 hm0 (by omega)]
  rfl
def okR (r : R) : Bool := decide (0 ≤ r.bits) && (decide (r.bits ≤ 32) && (decide (netOf r.net r.bits = r.net) && (decide (0 ≤ r.iface) && (decide (r.iface < 16) && (decide (0 ≤ r.cost) && decide (r.cost ≤ 65535))))))
structure R.Ok (r : R) : Prop where
  n0 : 0 ≤ r.net
  n1 : r.net ≤ 4294967295
theorem right_spec (r : R) (ok : r.Ok) : Does Try.prog 42 #[.agg r.vals.toArray] (fun _ => True) [] (fun v p => v = .bool (okR r) ∧ p = []) := by
  refine Does.ofJ Try.func42 Try.call42 rfl [.agg r.svs] [] 0 [] rfl rfl (fun h k => k) (fun f hR => ?_)
  intro b1
  have ha := anet_spec r.net r.bits ok.n0 ok.n1
  by_cases hb : 0 ≤ r.bits ∧ r.bits ≤ 32
  · rw [if_pos hb] at ha
    refine useP (.tuple [.int .u32 (netOf r.net r.bits), .int .i64 0]) ha rfl rfl ?_
    refine RegOb.join Unit (fun _ => ⟨41, [(2, .bool (okR r))], [], 0, []⟩) ?_ (fun _ => ?_)
    · refine Br.mk (fun _ => ?_) (fun h => absurd h (by simp))
      repeat' refine Br.mk (fun h => ?_) (fun h => ?_)
      all_goals refine ⟨(), Le.of rfl ⟨⟨_, rfl, (congrArg (fun x => some (Value.bool x)) ?_)⟩, trivial⟩ (fun h k => trivial)⟩
      all_goals (simp_all [okR] <;> try omega)
    exact FinOb.mk _ [] rfl (fun h k => trivial) ⟨rfl, rfl⟩
  · rw [if_neg hb] at ha
    have e : okR r = false := by
      unfold okR
      by_cases h : 0 ≤ r.bits
      · have : ¬ r.bits ≤ 32 := fun h2 => hb ⟨h, h2⟩
        simp [h, this]
      · simp [h]
    rw [e]
    refine useP (.tuple [.int .u32 0, .int .i64 1]) ha rfl rfl ?_
    refine RegOb.go ?_
    refine Br.mk (fun h => absurd h (by decide)) (fun _ => ?_)
    exact FinOb.mk _ [] rfl (fun h k => trivial) ⟨rfl, rfl⟩
end Go.Proofs.Ytjppphldiaonkaa.Rt
