/- audit: entries as they stand in marks; which may be. Conditions: none. -/
import Derived.Test.YtlgdagjbphafcaaProg
import Derived.Test.YtlgdagjbphafcaaE20
namespace Go.Proofs.Ytlgdagjbphafcaa.Au
open Go Go.Proofs Sx
set_option maxRecDepth 100000
set_option linter.unusedVariables false
set_option linter.unusedSimpArgs false
set_option maxHeartbeats 4000000

structure Q where
  op : Int
  fl : Int
  fd : Int
  addr : Int
  port : Int
  len : Int
  group : Int
  count : Int
  aux : Int
  user : Int
  A : Option Addr
  n : Nat
  c : Nat
def Q.vals (q : Q) : List Value := [.int .u8 q.op, .int .u8 q.fl, .int .i64 q.fd, .int .u32 q.addr, .int .u16 q.port, .int .i64 q.len, .int .i64 q.group, .int .i64 q.count, .int .u64 q.aux, .int .u64 q.user, .slice q.A q.n q.c]
def Q.svs (q : Q) : List SV := [.int .u8 q.op, .int .u8 q.fl, .int .i64 q.fd, .int .u32 q.addr, .int .u16 q.port, .int .i64 q.len, .int .i64 q.group, .int .i64 q.count, .int .u64 q.aux, .int .u64 q.user, .raw (.slice q.A q.n q.c)]
structure Q.Ok (q : Q) : Prop where
  op0 : 0 ≤ q.op
  op1 : q.op ≤ 255
  fl0 : 0 ≤ q.fl
  fl1 : q.fl ≤ 255
def bad1 (q : Q) : Bool := decide (13 < q.op ∨ 31 < q.fl ∨ (q.fl % 2 = 1 ∧ q.fl / 2 % 2 = 1))
def bad2 (q : Q) : Bool := decide ((q.fl / 4 % 2 = 1 ∧ q.op ≠ 5 ∧ q.op ≠ 7) ∨ (q.fl / 8 % 2 = 1 ∧ q.op ≠ 7) ∨ (q.fl / 16 % 2 = 1 ∧ q.op ≠ 12))
def bad3 (q : Q) : Bool := decide (q.op = 7 ∧ (q.len < 0 ∨ 65536 < q.len ∨ (q.len = 0 ∧ ¬ q.fl / 8 % 2 = 1)))
def bad4 (q : Q) : Bool := decide ((q.op = 6 ∧ 65536 < (q.n : Int)) ∨ (q.op ≠ 6 ∧ 0 < (q.n : Int)))
def bad5 (q : Q) : Bool := decide ((q.op = 10 ∨ q.op = 11) ∧ 1073741824 < q.aux)
def okQ (q : Q) : Bool := !(bad1 q || bad2 q || bad3 q || bad4 q || bad5 q)
def CS (b1 : Nat) (q : Q) (l : List (Nat × SV)) : St := ⟨126, (1, .ptr 0 0) :: l, [(0, .at b1 0)], 1, [.blk 0 102 q.svs]⟩
theorem bool_eq {a b : Bool} (h : a = true ↔ b = true) : some (Value.bool a) = some (Value.bool b) := by rw [Bool.eq_iff_iff.2 h]
theorem rcheck_spec (q : Q) (ok : q.Ok) : Does Try.prog 68 #[.agg q.vals.toArray] (fun _ => True) [] (fun v p => v = .int .i64 (if okQ q then 0 else 260) ∧ p = []) := by
  refine Does.ofJ Try.func68 Try.call68 rfl [.agg q.svs] [] 0 [] rfl rfl (fun h k => k) (fun f hR => ?_)
  intro b1
  iterate 9 refine Need.mk (by decide) ?_
  have h1 := ok.fl0
  have h2 := ok.fl1
  have ew : IntKind.i64.wrap q.fl = q.fl := w64 (by omega) (by omega)
  have et2 : q.fl.tmod 2 = q.fl % 2 := Int.tmod_eq_emod_of_nonneg h1
  have ed : ∀ k : Int, 0 < k → (IntKind.i64.wrap (q.fl.tdiv k)).tmod 2 = q.fl / k % 2 := fun k hk => by
    have h3 : 0 ≤ q.fl / k := Int.ediv_nonneg h1 (by omega)
    have h4 : q.fl / k ≤ q.fl := Int.ediv_le_self k h1
    rw [Int.tdiv_eq_ediv_of_nonneg h1, w64 (by omega) (by omega), Int.tmod_eq_emod_of_nonneg h3]
  have e2 := ed 2 (by decide)
  have e4 := ed 4 (by decide)
  have e8 := ed 8 (by decide)
  have e16 := ed 16 (by decide)
  refine RegOb.join Unit (fun _ => CS b1 q [(43, .bool (bad1 q)), (6, .bool (q.fl / 4 % 2 == 1)), (7, .bool (q.fl / 8 % 2 == 1)), (8, .bool (q.fl / 16 % 2 == 1))]) ?_ (fun _ => ?_)
  · repeat' refine Br.mk (fun h => ?_) (fun h => ?_)
    all_goals refine ⟨(), Le.of rfl ⟨⟨_, rfl, rfl⟩, ⟨_, rfl, (bool_eq ?_)⟩, ⟨_, rfl, (congrArg (fun x => some (Value.bool x)) (by rw [ew, e4]))⟩, ⟨_, rfl, (congrArg (fun x => some (Value.bool x)) (by rw [ew, e8]))⟩, ⟨_, rfl, (congrArg (fun x => some (Value.bool x)) (by rw [ew, e16]))⟩, trivial⟩ (fun h k => k)⟩
    all_goals (unfold bad1; simp only [ew, et2, e2, beq_iff_eq, bne_iff_ne, decide_eq_true_eq, decide_eq_false_iff_not, beq_eq_false_iff_ne, bne_eq_false_iff_eq, ne_eq, true_iff, false_iff, iff_true, iff_false, Bool.false_eq_true, Bool.not_eq_true', Bool.not_eq_false'] at * <;> omega)
  refine CondOb.split (fun g1 => ?_) (fun g1 => ?_)
  · exact FinOb.mk _ [] rfl (fun h k => trivial) ⟨by simp [okQ, g1, ret1], rfl⟩
  refine RegOb.join Unit (fun _ => CS b1 q [(70, .bool (bad2 q)), (7, .bool (q.fl / 8 % 2 == 1))]) ?_ (fun _ => ?_)
  · repeat' refine Br.mk (fun h => ?_) (fun h => ?_)
    all_goals refine ⟨(), Le.of rfl ⟨⟨_, rfl, rfl⟩, ⟨_, rfl, (bool_eq ?_)⟩, ⟨_, rfl, rfl⟩, trivial⟩ (fun h k => k)⟩
    all_goals (unfold bad2; simp only [ew, beq_iff_eq, bne_iff_ne, decide_eq_true_eq, decide_eq_false_iff_not, beq_eq_false_iff_ne, bne_eq_false_iff_eq, ne_eq, true_iff, false_iff, iff_true, iff_false, Bool.false_eq_true, Bool.not_eq_true', Bool.not_eq_false'] at * <;> omega)
  refine CondOb.split (fun g2 => ?_) (fun g2 => ?_)
  · exact FinOb.mk _ [] rfl (fun h k => trivial) ⟨by simp [okQ, g2, ret1], rfl⟩
  refine RegOb.join Unit (fun _ => CS b1 q [(92, .bool (bad3 q))]) ?_ (fun _ => ?_)
  · repeat' refine Br.mk (fun h => ?_) (fun h => ?_)
    all_goals refine ⟨(), Le.of rfl ⟨⟨_, rfl, rfl⟩, ⟨_, rfl, (bool_eq ?_)⟩, trivial⟩ (fun h k => k)⟩
    all_goals (unfold bad3; simp only [ew, beq_iff_eq, bne_iff_ne, decide_eq_true_eq, decide_eq_false_iff_not, beq_eq_false_iff_ne, bne_eq_false_iff_eq, ne_eq, true_iff, false_iff, iff_true, iff_false, Bool.false_eq_true, Bool.not_eq_true', Bool.not_eq_false'] at * <;> omega)
  refine CondOb.split (fun g3 => ?_) (fun g3 => ?_)
  · exact FinOb.mk _ [] rfl (fun h k => trivial) ⟨by simp [okQ, g3, ret1], rfl⟩
  refine RegOb.join Unit (fun _ => CS b1 q [(112, .bool (bad4 q))]) ?_ (fun _ => ?_)
  · repeat' refine Br.mk (fun h => ?_) (fun h => ?_)
    all_goals refine ⟨(), Le.of rfl ⟨⟨_, rfl, rfl⟩, ⟨_, rfl, (bool_eq ?_)⟩, trivial⟩ (fun h k => k)⟩
    all_goals (unfold bad4; simp only [ew, beq_iff_eq, bne_iff_ne, decide_eq_true_eq, decide_eq_false_iff_not, beq_eq_false_iff_ne, bne_eq_false_iff_eq, ne_eq, true_iff, false_iff, iff_true, iff_false, Bool.false_eq_true, Bool.not_eq_true', Bool.not_eq_false'] at * <;> omega)
  refine CondOb.split (fun g4 => ?_) (fun g4 => ?_)
  · exact FinOb.mk _ [] rfl (fun h k => trivial) ⟨by simp [okQ, g4, ret1], rfl⟩
  refine RegOb.join Unit (fun _ => CS b1 q [(125, .bool (bad5 q))]) ?_ (fun _ => ?_)
  · repeat' refine Br.mk (fun h => ?_) (fun h => ?_)
    all_goals refine ⟨(), Le.of rfl ⟨⟨_, rfl, rfl⟩, ⟨_, rfl, (bool_eq ?_)⟩, trivial⟩ (fun h k => k)⟩
    all_goals (unfold bad5; simp only [ew, beq_iff_eq, bne_iff_ne, decide_eq_true_eq, decide_eq_false_iff_not, beq_eq_false_iff_ne, bne_eq_false_iff_eq, ne_eq, true_iff, false_iff, iff_true, iff_false, Bool.false_eq_true, Bool.not_eq_true', Bool.not_eq_false'] at * <;> omega)
  refine CondOb.split (fun g5 => ?_) (fun g5 => ?_)
  · exact FinOb.mk _ [] rfl (fun h k => trivial) ⟨by simp [okQ, g5, ret1], rfl⟩
  exact FinOb.mk _ [] rfl (fun h k => trivial) ⟨by simp [okQ, g1, g2, g3, g4, g5, ret1], rfl⟩
/-! ### The program's check -/
def allow (op : Int) : Int := if op = 5 then 4 else if op = 7 then 12 else if op = 12 then 16 else 0
theorem allow_spec (op : Int) : Does Try.prog 126 #[.int .u8 op] (fun _ => True) [] (fun v q => v = .int .u8 (allow op) ∧ q = []) := by
  refine Does.of Try.func126 Try.call126 rfl [.int .u8 op] [] 0 [] rfl rfl (fun h k => k) (fun f hR => ?_)
  refine CondOb.split (fun g => ?_) (fun g => ?_)
  · have g : op = 5 := by simpa using g
    exact FinOb.mk [.int .u8 4] [] rfl (fun h k => k) ⟨by subst g; rfl, rfl⟩
  have g : op ≠ 5 := by simpa using g
  refine CondOb.split (fun g2 => ?_) (fun g2 => ?_)
  · have g2 : op = 7 := by simpa using g2
    exact FinOb.mk [.int .u8 12] [] rfl (fun h k => k) ⟨by subst g2; rfl, rfl⟩
  have g2 : op ≠ 7 := by simpa using g2
  refine CondOb.split (fun g3 => ?_) (fun g3 => ?_)
  · have g3 : op = 12 := by simpa using g3
    exact FinOb.mk [.int .u8 16] [] rfl (fun h k => k) ⟨by subst g3; rfl, rfl⟩
  have g3 : op ≠ 12 := by simpa using g3
  exact FinOb.mk [.int .u8 0] [] rfl (fun h k => k) ⟨by simp [allow, g, g2, g3, ret1], rfl⟩
theorem bits3 : ∀ n : Nat, n < 256 → bitsOf .u8 (· &&& ·) (n : Int) 3 = (n : Int) % 4 := by decide +kernel
theorem bits2 : ∀ n : Nat, n < 256 → bitsOf .u8 (· &&& ·) (n : Int) 2 = 2 * ((n : Int) / 2 % 2) := by decide +kernel
theorem bits1 : ∀ n : Nat, n < 256 → bitsOf .u8 (· &&& ·) (n : Int) 1 = (n : Int) % 2 := by decide +kernel
theorem bits4 : ∀ n : Nat, n < 256 → bitsOf .u8 (· &&& ·) (n : Int) 4 = 4 * ((n : Int) / 4 % 2) := by decide +kernel
theorem bits8 : ∀ n : Nat, n < 256 → bitsOf .u8 (· &&& ·) (n : Int) 8 = 8 * ((n : Int) / 8 % 2) := by decide +kernel
def badB (op fl : Int) : Bool := (fl / 4 % 2 == 1 && op != 5 && op != 7) || (fl / 8 % 2 == 1 && op != 7) || (fl / 16 % 2 == 1 && op != 12)
theorem bits_not : ∀ n : Nat, n < 14 → ∀ m : Nat, m < 32 → (bitsOf .u8 (fun a b => a &&& ~~~b) (m : Int) (bitsOf .u8 (· ||| ·) 3 (allow n)) != 0) = badB n m := by decide +kernel
theorem nat_of {x : Int} {k : Nat} (h0 : 0 ≤ x) (h1 : x < k) : ∃ n : Nat, x = n ∧ n < k := ⟨x.toNat, by omega, by omega⟩
theorem Q.Ok.b3 {q : Q} (ok : q.Ok) : bitsOf .u8 (· &&& ·) q.fl 3 = q.fl % 4 := by
  obtain ⟨n, e, h⟩ := nat_of (k := 256) ok.fl0 (by have := ok.fl1; omega)
  rw [e]; exact bits3 n h
theorem Q.Ok.b2 {q : Q} (ok : q.Ok) : bitsOf .u8 (· &&& ·) q.fl 2 = 2 * (q.fl / 2 % 2) := by
  obtain ⟨n, e, h⟩ := nat_of (k := 256) ok.fl0 (by have := ok.fl1; omega)
  rw [e]; exact bits2 n h
theorem Q.Ok.b4 {q : Q} (ok : q.Ok) : bitsOf .u8 (· &&& ·) q.fl 4 = 4 * (q.fl / 4 % 2) := by
  obtain ⟨n, e, h⟩ := nat_of (k := 256) ok.fl0 (by have := ok.fl1; omega)
  rw [e]; exact bits4 n h
theorem Q.Ok.b8 {q : Q} (ok : q.Ok) : bitsOf .u8 (· &&& ·) q.fl 8 = 8 * (q.fl / 8 % 2) := by
  obtain ⟨n, e, h⟩ := nat_of (k := 256) ok.fl0 (by have := ok.fl1; omega)
  rw [e]; exact bits8 n h
theorem Q.Ok.bn {q : Q} (ok : q.Ok) (h1 : q.op < 14) (h2 : q.fl < 32) : (bitsOf .u8 (fun a b => a &&& ~~~b) q.fl (bitsOf .u8 (· ||| ·) 3 (allow q.op)) != 0) = bad2 q := by
  obtain ⟨n, e, h⟩ := nat_of (k := 14) ok.op0 h1
  obtain ⟨m, e', h'⟩ := nat_of (k := 32) ok.fl0 h2
  have := bits_not n h m h'
  rw [← e, ← e'] at this
  rw [this]
  unfold badB bad2
  rw [Bool.eq_iff_iff]
  simp only [Bool.or_eq_true, Bool.and_eq_true, beq_iff_eq, bne_iff_ne, decide_eq_true_eq, ne_eq]
  omega
def KS (b1 : Nat) (q : Q) (l : List (Nat × SV)) : St := ⟨70, (1, .ptr 0 0) :: l, [(0, .at b1 0)], 1, [.blk 0 102 q.svs]⟩
theorem check_spec (q : Q) (ok : q.Ok) : Does Try.prog 119 #[.agg q.vals.toArray] (fun _ => True) [] (fun v p => v = .int .i64 (if okQ q then 0 else 260) ∧ p = []) := by
  refine Does.ofJ Try.func119 Try.call119 rfl [.agg q.svs] [] 0 [] rfl rfl (fun h k => k) (fun f hR => ?_)
  intro b1
  have hb3 := ok.b3
  have hb8 := ok.b8
  have f0 := ok.fl0
  have f1 := ok.fl1
  refine RegOb.join Unit (fun _ => KS b1 q [(3, .bool (bad1 q || bad2 q))]) ?_ (fun _ => ?_)
  · refine DrawOb.mk [(19, [15, 16])] (.run [0, 1, 2, 3, 4, 5, 6, 7, 8, 9, 10, 11, 12, 13, 14, 15, 16, 17, 18, 19, 20, 21, 22, 23, 24] .nil) (by kernel_rfl) ?_
    refine Br.mk (fun h1 => ?_) (fun h1 => ?_)
    · refine ⟨(), Le.of rfl ⟨⟨_, rfl, rfl⟩, ⟨_, rfl, (bool_eq ?_)⟩, trivial⟩ (fun h k => k)⟩
      simp only [bad1, hb3, Bool.or_eq_true, beq_iff_eq, bne_iff_ne, decide_eq_true_eq, decide_eq_false_iff_not, beq_eq_false_iff_ne, ne_eq, true_iff, false_iff, Bool.false_eq_true] at *
      omega
    refine Br.mk (fun h2 => ?_) (fun h2 => ?_)
    · refine ⟨(), Le.of rfl ⟨⟨_, rfl, rfl⟩, ⟨_, rfl, (bool_eq ?_)⟩, trivial⟩ (fun h k => k)⟩
      simp only [bad1, hb3, Bool.or_eq_true, beq_iff_eq, bne_iff_ne, decide_eq_true_eq, decide_eq_false_iff_not, beq_eq_false_iff_ne, ne_eq, true_iff, false_iff, Bool.false_eq_true] at *
      omega
    refine Br.mk (fun h3 => ?_) (fun h3 => ?_)
    · refine ⟨(), Le.of rfl ⟨⟨_, rfl, rfl⟩, ⟨_, rfl, (bool_eq ?_)⟩, trivial⟩ (fun h k => k)⟩
      simp only [bad1, hb3, Bool.or_eq_true, beq_iff_eq, bne_iff_ne, decide_eq_true_eq, decide_eq_false_iff_not, beq_eq_false_iff_ne, ne_eq, true_iff, false_iff, Bool.false_eq_true] at *
      omega
    refine useP (.int .u8 (allow q.op)) (allow_spec q.op) rfl rfl ?_
    refine Need.mk rfl ?_
    refine ⟨(), Le.of rfl ⟨⟨_, rfl, rfl⟩, ⟨_, rfl, (congrArg (fun x => some (Value.bool x)) ?_)⟩, trivial⟩ (fun h k => k)⟩
    simp only [hb3, decide_eq_false_iff_not, beq_eq_false_iff_ne, ne_eq] at h1 h2 h3
    have hb1 : bad1 q = false := by unfold bad1; simp only [decide_eq_false_iff_not]; omega
    rw [ok.bn (by omega) (by omega), hb1, Bool.false_or]
  generalize hw : (bad1 q || bad2 q) = w
  refine CondOb.join Unit (fun _ => KS b1 q [(3, .bool (w || bad3 q || bad5 q))]) (fun g7 => ?_) (fun g7 => ?_) (fun _ => ?_)
  · have g7 : q.op = 7 := by simpa using g7
    refine CondOb.join Unit (fun _ => KS b1 q [(3, .bool w), (4, .int .i64 (if q.fl / 8 % 2 = 1 then 0 else 1))]) (fun g8 => ?_) (fun g8 => ?_) (fun _ => ?_)
    · have g8 : q.fl / 8 % 2 = 1 := by simp only [hb8, bne_iff_ne, ne_eq] at g8; omega
      rw [if_pos g8]
      exact ⟨(), Le.of rfl ⟨⟨_, rfl, rfl⟩, ⟨_, rfl, rfl⟩, ⟨_, rfl, rfl⟩, trivial⟩ (fun h k => k)⟩
    · have g8 : ¬ q.fl / 8 % 2 = 1 := by simp only [hb8, bne_eq_false_iff_eq] at g8; omega
      rw [if_neg g8]
      exact ⟨(), Le.of rfl ⟨⟨_, rfl, rfl⟩, ⟨_, rfl, rfl⟩, ⟨_, rfl, rfl⟩, trivial⟩ (fun h k => k)⟩
    refine RegOb.go ?_
    repeat' refine Br.mk (fun h => ?_) (fun h => ?_)
    all_goals refine ⟨(), Le.of rfl ⟨⟨_, rfl, rfl⟩, ⟨_, rfl, (bool_eq ?_)⟩, trivial⟩ (fun h k => k)⟩
    all_goals (clear hw hb3 hb8; by_cases g8 : q.fl / 8 % 2 = 1 <;> cases w <;> simp_all [bad3, bad5] <;> omega)
  · have g7 : q.op ≠ 7 := by simpa using g7
    have hb3 : bad3 q = false := by simp [bad3, g7]
    refine CondOb.split (fun g10 => ?_) (fun g10 => ?_)
    · refine CondOb.split (fun _ => ?_) (fun h => absurd g10 (by rw [h]; decide))
      have g10 : q.op = 10 := by simpa using g10
      refine RegOb.go ?_
      refine Br.mk (fun h => ?_) (fun h => ?_)
      · exact ⟨(), Le.of rfl ⟨⟨_, rfl, rfl⟩, ⟨_, rfl, (bool_eq (by simp [h]))⟩, trivial⟩ (fun h k => k)⟩
      · exact ⟨(), Le.of rfl ⟨⟨_, rfl, rfl⟩, ⟨_, rfl, (bool_eq (by simp [h, hb3, bad5, g10]))⟩, trivial⟩ (fun h k => k)⟩
    refine CondOb.split (fun g11 => ?_) (fun g11 => ?_)
    · have g11 : q.op = 11 := by simpa using g11
      refine RegOb.go ?_
      refine Br.mk (fun h => ?_) (fun h => ?_)
      · exact ⟨(), Le.of rfl ⟨⟨_, rfl, rfl⟩, ⟨_, rfl, (bool_eq (by simp [h]))⟩, trivial⟩ (fun h k => k)⟩
      · exact ⟨(), Le.of rfl ⟨⟨_, rfl, rfl⟩, ⟨_, rfl, (bool_eq (by simp [h, hb3, bad5, g11]))⟩, trivial⟩ (fun h k => k)⟩
    have n10 : ¬ q.op = 10 := by simpa using g10
    have n11 : ¬ q.op = 11 := by simpa using g11
    exact ⟨(), Le.of rfl ⟨⟨_, rfl, rfl⟩, ⟨_, rfl, (bool_eq (by simp [hb3, bad5, n10, n11]))⟩, trivial⟩ (fun h k => k)⟩
  refine CondOb.join Unit (fun _ => KS b1 q [(3, .bool (w || bad3 q || bad5 q)), (5, .int .i64 (if q.op = 6 then 65536 else 0))]) (fun g6 => ?_) (fun g6 => ?_) (fun _ => ?_)
  · have g6 : q.op = 6 := by simpa using g6
    rw [if_pos g6]
    exact ⟨(), Le.of rfl ⟨⟨_, rfl, rfl⟩, ⟨_, rfl, rfl⟩, ⟨_, rfl, rfl⟩, trivial⟩ (fun h k => k)⟩
  · have g6 : ¬ q.op = 6 := by simpa using g6
    rw [if_neg g6]
    exact ⟨(), Le.of rfl ⟨⟨_, rfl, rfl⟩, ⟨_, rfl, rfl⟩, ⟨_, rfl, rfl⟩, trivial⟩ (fun h k => k)⟩
  have e4 : decide ((q.n : Int) > if q.op = 6 then 65536 else 0) = bad4 q := by
    unfold bad4
    split <;> simp [*]
  refine RegOb.join Unit (fun _ => KS b1 q [(69, .bool (!okQ q))]) ?_ (fun _ => ?_)
  · refine Br.mk (fun h => ?_) (fun h => ?_)
    · exact ⟨(), Le.of rfl ⟨⟨_, rfl, rfl⟩, ⟨_, rfl, (bool_eq (by simp only [okQ, hw, Bool.not_not]; simp only [Bool.or_eq_true] at h ⊢; simp only [true_iff]; rcases h with (h | h) | h <;> simp [h]))⟩, trivial⟩ (fun h k => k)⟩
    · exact ⟨(), Le.of rfl ⟨⟨_, rfl, rfl⟩, ⟨_, rfl, (congrArg (fun x => some (Value.bool x)) (by rw [e4]; simp only [okQ, hw, Bool.not_not]; simp only [Bool.or_eq_false_iff] at h; simp [h]))⟩, trivial⟩ (fun h k => k)⟩
  refine CondOb.split (fun g => ?_) (fun g => ?_)
  · exact FinOb.mk _ [] rfl (fun h k => trivial) ⟨by simp at g; simp [g, ret1], rfl⟩
  · exact FinOb.mk _ [] rfl (fun h k => trivial) ⟨by simp at g; simp [g, ret1], rfl⟩
end Go.Proofs.Ytlgdagjbphafcaa.Au
