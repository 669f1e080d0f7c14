/- script: flags. Conditions: none. -/
import Derived.Test.YtlgdagjbphafcaaScB
namespace Go.Proofs.Ytlgdagjbphafcaa.Sc
open Go Go.Proofs Sx
set_option maxRecDepth 100000
set_option linter.unusedVariables false
set_option maxHeartbeats 2000000

def nobit (f b : Int) : Int := bitsOf .u8 (fun a b => a &&& ~~~b) f b
def clr (op b f : Int) : Int := if okb op b = true then f else nobit f b
/-- The flags behind so many rounds. -/
def fst0 (f : Int) : Int := if (bitsOf .u8 (· &&& ·) f 3 == 3) = true then nobit f 2 else f
def fst' (op f : Int) : Nat → Int
  | 0 => fst0 f
  | 1 => clr op 4 (fst0 f)
  | 2 => clr op 8 (clr op 4 (fst0 f))
  | _ => clr op 16 (clr op 8 (clr op 4 (fst0 f)))
def prev : Nat → Int
  | 0 => 0
  | 1 => 4
  | 2 => 8
  | _ => 16
/-- The flags of an entry, as the document has them. -/
def flg (op n : Int) : Int :=
  let f := n % 32
  let f := if f % 4 = 3 then f - 2 else f
  let f := if f / 4 % 2 = 1 ∧ op ≠ 5 ∧ op ≠ 7 then f - 4 else f
  let f := if f / 8 % 2 = 1 ∧ op ≠ 7 then f - 8 else f
  if f / 16 % 2 = 1 ∧ op ≠ 12 then f - 16 else f
theorem fst_flg : ∀ n : Nat, n < 32 → ∀ op : Nat, op < 14 → fst' op n 3 = flg op n := by decide +kernel
theorem flags_spec (op n : Int) (h0 : 0 ≤ op) (h1 : op < 14) (hn0 : 0 ≤ n) (hn1 : n ≤ 255) :
    Does Try.prog 115 #[.agg #[.int .u8 op, .int .u8 0, .int .i64 0, .int .u32 0, .int .u16 0, .int .i64 0, .int .i64 0, .int .i64 0, .int .u64 0, .int .u64 0, .slice none 0 0], .int .i64 n] (fun _ => True) [] (fun v q => v = .int .u8 (flg op n) ∧ q = []) := by
  have e32 : IntKind.u8.wrap (n.tmod 32) = n % 32 := by rw [Int.tmod_eq_emod_of_nonneg hn0, w8 (by omega) (by omega)]
  have efl : fst' op (n % 32) 3 = flg op n := by
    obtain ⟨m, hm⟩ : ∃ m : Nat, n % 32 = m := ⟨(n % 32).toNat, by omega⟩
    obtain ⟨o, rfl⟩ : ∃ o : Nat, op = o := ⟨op.toNat, by omega⟩
    rw [hm, fst_flg m (by omega) o (by omega)]
    unfold flg
    have : (m : Int) % 32 = n % 32 := by omega
    rw [this]
  refine Does.of Try.func115 Try.call115 rfl [.agg [.int .u8 op, .int .u8 0, .int .i64 0, .int .u32 0, .int .u16 0, .int .i64 0, .int .i64 0, .int .i64 0, .int .u64 0, .int .u64 0, .nils], .int .i64 n] [] 0 [] rfl rfl (fun h k => k) (fun f hR => ?_)
  intro b1
  refine Need.mk (by decide) ?_
  refine CondOb.split (fun g => ?_) (fun g => ?_)
  · have e0 : bitsOf .u8 (fun a b => a &&& ~~~b) (IntKind.u8.wrap (n.tmod 32)) 2 = fst' op (n % 32) 0 := by
      rw [e32] at g ⊢
      simp only [fst', fst0, g, if_true, nobit]
    intro b2
    refine LoopOb.mk { i : Nat // i ≤ 3 } (fun z => ⟨33, [(2, .ptr 0 0), (5, .int .u8 (fst' op (n % 32) z.1)), (17, .sl 1 0 3 3), (18, .int .i64 3), (19, .int .i64 z.1)], [(1, .at b2 0), (0, .at b1 0)], 2,
      [.blk 0 102 [.int .u8 op, .int .u8 (prev z.1), .int .i64 0, .int .u32 0, .int .u16 0, .int .i64 1, .int .i64 0, .int .i64 0, .int .u64 0, .int .u64 0, .nils], .blk 1 5 [.int .u8 4, .int .u8 8, .int .u8 16]]⟩) (fun z => 3 - z.1) ⟨0, by omega⟩ ?_ ?_
    · exact Le.of rfl ⟨⟨_, rfl, rfl⟩, ⟨_, rfl, (congrArg (fun z => some (Value.int .u8 z)) e0)⟩, ⟨_, rfl, rfl⟩, ⟨_, rfl, rfl⟩, ⟨_, rfl, rfl⟩, trivial⟩ (fun h k => sat_pick 1 rfl (by first | exact fun _ k => k | exact fun _ k => blk_to rfl rfl k | exact fun _ k => vec_to rfl k | exact fun _ k => blk_of rfl rfl k | exact fun _ k => vec_of rfl k | exact fun _ k => blk_of rfl rfl (blk_to rfl rfl k) | exact fun _ k => vec_of rfl (vec_to rfl k) | exact fun _ k => mp_to rfl k | exact fun _ k => mp_of rfl k | exact fun _ k => mp_of rfl (mp_to rfl k)) (fun h k => sat_pick 0 rfl (by first | exact fun _ k => k | exact fun _ k => blk_to rfl rfl k | exact fun _ k => vec_to rfl k | exact fun _ k => blk_of rfl rfl k | exact fun _ k => vec_of rfl k | exact fun _ k => blk_of rfl rfl (blk_to rfl rfl k) | exact fun _ k => vec_of rfl (vec_to rfl k) | exact fun _ k => mp_to rfl k | exact fun _ k => mp_of rfl k | exact fun _ k => mp_of rfl (mp_to rfl k)) (fun h k => sat_nil k) k) k)
    rintro ⟨i, hi⟩
    refine CondOb.split (fun g => ?_) (fun g => ?_)
    rotate_left
    · simp only [decide_eq_false_iff_not] at g
      replace g : ¬ (i : Int) < 3 := g
      have ei : i = 3 := by omega
      subst ei
      exact FinOb.mk [.int .u8 (fst' op (n % 32) 3)] [] rfl (fun h k => trivial) ⟨by rw [efl]; rfl, rfl⟩
    simp only [decide_eq_true_eq] at g
    replace g : (i : Int) < 3 := g
    rcases (show i = 0 ∨ i = 1 ∨ i = 2 by omega) with rfl | rfl | rfl
    · refine Need.mk ⟨Int.natCast_nonneg 0, show ((0 : Nat) : Int) < ((3 : Nat) : Int) by decide⟩ ?_
      refine useP (.int .i64 _) (chk_spec op 4 h0 h1 (by simp)) rfl rfl ?_
      refine CondOb.split (fun g => ?_) (fun g => ?_)
      · have hk : okb op 4 = false := by
          cases h : okb op 4 with
          | false => rfl
          | true => rw [h] at g; simp at g
        refine ⟨⟨1, by omega⟩, by show 3 - 1 < 3 - (1 - 1); omega, Le.of rfl ⟨⟨_, rfl, rfl⟩, ⟨_, rfl, (congrArg (fun z => some (Value.int .u8 z)) (by show nobit (fst' op (n % 32) (1 - 1)) 4 = fst' op (n % 32) 1; simp only [fst', clr, hk]; simp))⟩, ⟨_, rfl, rfl⟩, ⟨_, rfl, rfl⟩, ⟨_, rfl, rfl⟩, trivial⟩ (fun h k => sat_pick 0 rfl (by first | exact fun _ k => k | exact fun _ k => blk_to rfl rfl k | exact fun _ k => vec_to rfl k | exact fun _ k => blk_of rfl rfl k | exact fun _ k => vec_of rfl k | exact fun _ k => blk_of rfl rfl (blk_to rfl rfl k) | exact fun _ k => vec_of rfl (vec_to rfl k) | exact fun _ k => mp_to rfl k | exact fun _ k => mp_of rfl k | exact fun _ k => mp_of rfl (mp_to rfl k)) (fun h k => sat_pick 0 rfl (by first | exact fun _ k => k | exact fun _ k => blk_to rfl rfl k | exact fun _ k => vec_to rfl k | exact fun _ k => blk_of rfl rfl k | exact fun _ k => vec_of rfl k | exact fun _ k => blk_of rfl rfl (blk_to rfl rfl k) | exact fun _ k => vec_of rfl (vec_to rfl k) | exact fun _ k => mp_to rfl k | exact fun _ k => mp_of rfl k | exact fun _ k => mp_of rfl (mp_to rfl k)) (fun h k => sat_nil k) k) k)⟩
      · have hk : okb op 4 = true := by
          cases h : okb op 4 with
          | true => rfl
          | false => rw [h] at g; simp at g
        refine ⟨⟨1, by omega⟩, by show 3 - 1 < 3 - (1 - 1); omega, Le.of rfl ⟨⟨_, rfl, rfl⟩, ⟨_, rfl, (congrArg (fun z => some (Value.int .u8 z)) (by show fst' op (n % 32) (1 - 1) = fst' op (n % 32) 1; simp only [fst', clr, hk]; simp))⟩, ⟨_, rfl, rfl⟩, ⟨_, rfl, rfl⟩, ⟨_, rfl, rfl⟩, trivial⟩ (fun h k => sat_pick 0 rfl (by first | exact fun _ k => k | exact fun _ k => blk_to rfl rfl k | exact fun _ k => vec_to rfl k | exact fun _ k => blk_of rfl rfl k | exact fun _ k => vec_of rfl k | exact fun _ k => blk_of rfl rfl (blk_to rfl rfl k) | exact fun _ k => vec_of rfl (vec_to rfl k) | exact fun _ k => mp_to rfl k | exact fun _ k => mp_of rfl k | exact fun _ k => mp_of rfl (mp_to rfl k)) (fun h k => sat_pick 0 rfl (by first | exact fun _ k => k | exact fun _ k => blk_to rfl rfl k | exact fun _ k => vec_to rfl k | exact fun _ k => blk_of rfl rfl k | exact fun _ k => vec_of rfl k | exact fun _ k => blk_of rfl rfl (blk_to rfl rfl k) | exact fun _ k => vec_of rfl (vec_to rfl k) | exact fun _ k => mp_to rfl k | exact fun _ k => mp_of rfl k | exact fun _ k => mp_of rfl (mp_to rfl k)) (fun h k => sat_nil k) k) k)⟩
    · refine Need.mk ⟨Int.natCast_nonneg 1, show ((1 : Nat) : Int) < ((3 : Nat) : Int) by decide⟩ ?_
      refine useP (.int .i64 _) (chk_spec op 8 h0 h1 (by simp)) rfl rfl ?_
      refine CondOb.split (fun g => ?_) (fun g => ?_)
      · have hk : okb op 8 = false := by
          cases h : okb op 8 with
          | false => rfl
          | true => rw [h] at g; simp at g
        refine ⟨⟨2, by omega⟩, by show 3 - 2 < 3 - (2 - 1); omega, Le.of rfl ⟨⟨_, rfl, rfl⟩, ⟨_, rfl, (congrArg (fun z => some (Value.int .u8 z)) (by show nobit (fst' op (n % 32) (2 - 1)) 8 = fst' op (n % 32) 2; simp only [fst', clr, hk]; simp))⟩, ⟨_, rfl, rfl⟩, ⟨_, rfl, rfl⟩, ⟨_, rfl, rfl⟩, trivial⟩ (fun h k => sat_pick 0 rfl (by first | exact fun _ k => k | exact fun _ k => blk_to rfl rfl k | exact fun _ k => vec_to rfl k | exact fun _ k => blk_of rfl rfl k | exact fun _ k => vec_of rfl k | exact fun _ k => blk_of rfl rfl (blk_to rfl rfl k) | exact fun _ k => vec_of rfl (vec_to rfl k) | exact fun _ k => mp_to rfl k | exact fun _ k => mp_of rfl k | exact fun _ k => mp_of rfl (mp_to rfl k)) (fun h k => sat_pick 0 rfl (by first | exact fun _ k => k | exact fun _ k => blk_to rfl rfl k | exact fun _ k => vec_to rfl k | exact fun _ k => blk_of rfl rfl k | exact fun _ k => vec_of rfl k | exact fun _ k => blk_of rfl rfl (blk_to rfl rfl k) | exact fun _ k => vec_of rfl (vec_to rfl k) | exact fun _ k => mp_to rfl k | exact fun _ k => mp_of rfl k | exact fun _ k => mp_of rfl (mp_to rfl k)) (fun h k => sat_nil k) k) k)⟩
      · have hk : okb op 8 = true := by
          cases h : okb op 8 with
          | true => rfl
          | false => rw [h] at g; simp at g
        refine ⟨⟨2, by omega⟩, by show 3 - 2 < 3 - (2 - 1); omega, Le.of rfl ⟨⟨_, rfl, rfl⟩, ⟨_, rfl, (congrArg (fun z => some (Value.int .u8 z)) (by show fst' op (n % 32) (2 - 1) = fst' op (n % 32) 2; simp only [fst', clr, hk]; simp))⟩, ⟨_, rfl, rfl⟩, ⟨_, rfl, rfl⟩, ⟨_, rfl, rfl⟩, trivial⟩ (fun h k => sat_pick 0 rfl (by first | exact fun _ k => k | exact fun _ k => blk_to rfl rfl k | exact fun _ k => vec_to rfl k | exact fun _ k => blk_of rfl rfl k | exact fun _ k => vec_of rfl k | exact fun _ k => blk_of rfl rfl (blk_to rfl rfl k) | exact fun _ k => vec_of rfl (vec_to rfl k) | exact fun _ k => mp_to rfl k | exact fun _ k => mp_of rfl k | exact fun _ k => mp_of rfl (mp_to rfl k)) (fun h k => sat_pick 0 rfl (by first | exact fun _ k => k | exact fun _ k => blk_to rfl rfl k | exact fun _ k => vec_to rfl k | exact fun _ k => blk_of rfl rfl k | exact fun _ k => vec_of rfl k | exact fun _ k => blk_of rfl rfl (blk_to rfl rfl k) | exact fun _ k => vec_of rfl (vec_to rfl k) | exact fun _ k => mp_to rfl k | exact fun _ k => mp_of rfl k | exact fun _ k => mp_of rfl (mp_to rfl k)) (fun h k => sat_nil k) k) k)⟩
    · refine Need.mk ⟨Int.natCast_nonneg 2, show ((2 : Nat) : Int) < ((3 : Nat) : Int) by decide⟩ ?_
      refine useP (.int .i64 _) (chk_spec op 16 h0 h1 (by simp)) rfl rfl ?_
      refine CondOb.split (fun g => ?_) (fun g => ?_)
      · have hk : okb op 16 = false := by
          cases h : okb op 16 with
          | false => rfl
          | true => rw [h] at g; simp at g
        refine ⟨⟨3, by omega⟩, by show 3 - 3 < 3 - (3 - 1); omega, Le.of rfl ⟨⟨_, rfl, rfl⟩, ⟨_, rfl, (congrArg (fun z => some (Value.int .u8 z)) (by show nobit (fst' op (n % 32) (3 - 1)) 16 = fst' op (n % 32) 3; simp only [fst', clr, hk]; simp))⟩, ⟨_, rfl, rfl⟩, ⟨_, rfl, rfl⟩, ⟨_, rfl, rfl⟩, trivial⟩ (fun h k => sat_pick 0 rfl (by first | exact fun _ k => k | exact fun _ k => blk_to rfl rfl k | exact fun _ k => vec_to rfl k | exact fun _ k => blk_of rfl rfl k | exact fun _ k => vec_of rfl k | exact fun _ k => blk_of rfl rfl (blk_to rfl rfl k) | exact fun _ k => vec_of rfl (vec_to rfl k) | exact fun _ k => mp_to rfl k | exact fun _ k => mp_of rfl k | exact fun _ k => mp_of rfl (mp_to rfl k)) (fun h k => sat_pick 0 rfl (by first | exact fun _ k => k | exact fun _ k => blk_to rfl rfl k | exact fun _ k => vec_to rfl k | exact fun _ k => blk_of rfl rfl k | exact fun _ k => vec_of rfl k | exact fun _ k => blk_of rfl rfl (blk_to rfl rfl k) | exact fun _ k => vec_of rfl (vec_to rfl k) | exact fun _ k => mp_to rfl k | exact fun _ k => mp_of rfl k | exact fun _ k => mp_of rfl (mp_to rfl k)) (fun h k => sat_nil k) k) k)⟩
      · have hk : okb op 16 = true := by
          cases h : okb op 16 with
          | true => rfl
          | false => rw [h] at g; simp at g
        refine ⟨⟨3, by omega⟩, by show 3 - 3 < 3 - (3 - 1); omega, Le.of rfl ⟨⟨_, rfl, rfl⟩, ⟨_, rfl, (congrArg (fun z => some (Value.int .u8 z)) (by show fst' op (n % 32) (3 - 1) = fst' op (n % 32) 3; simp only [fst', clr, hk]; simp))⟩, ⟨_, rfl, rfl⟩, ⟨_, rfl, rfl⟩, ⟨_, rfl, rfl⟩, trivial⟩ (fun h k => sat_pick 0 rfl (by first | exact fun _ k => k | exact fun _ k => blk_to rfl rfl k | exact fun _ k => vec_to rfl k | exact fun _ k => blk_of rfl rfl k | exact fun _ k => vec_of rfl k | exact fun _ k => blk_of rfl rfl (blk_to rfl rfl k) | exact fun _ k => vec_of rfl (vec_to rfl k) | exact fun _ k => mp_to rfl k | exact fun _ k => mp_of rfl k | exact fun _ k => mp_of rfl (mp_to rfl k)) (fun h k => sat_pick 0 rfl (by first | exact fun _ k => k | exact fun _ k => blk_to rfl rfl k | exact fun _ k => vec_to rfl k | exact fun _ k => blk_of rfl rfl k | exact fun _ k => vec_of rfl k | exact fun _ k => blk_of rfl rfl (blk_to rfl rfl k) | exact fun _ k => vec_of rfl (vec_to rfl k) | exact fun _ k => mp_to rfl k | exact fun _ k => mp_of rfl k | exact fun _ k => mp_of rfl (mp_to rfl k)) (fun h k => sat_nil k) k) k)⟩
  · have e0 : IntKind.u8.wrap (n.tmod 32) = fst' op (n % 32) 0 := by
      rw [e32] at g ⊢
      simp only [fst', fst0, g, Bool.false_eq_true, if_false]
    intro b2
    refine LoopOb.mk { i : Nat // i ≤ 3 } (fun z => ⟨33, [(2, .ptr 0 0), (5, .int .u8 (fst' op (n % 32) z.1)), (17, .sl 1 0 3 3), (18, .int .i64 3), (19, .int .i64 z.1)], [(1, .at b2 0), (0, .at b1 0)], 2,
      [.blk 0 102 [.int .u8 op, .int .u8 (prev z.1), .int .i64 0, .int .u32 0, .int .u16 0, .int .i64 1, .int .i64 0, .int .i64 0, .int .u64 0, .int .u64 0, .nils], .blk 1 5 [.int .u8 4, .int .u8 8, .int .u8 16]]⟩) (fun z => 3 - z.1) ⟨0, by omega⟩ ?_ ?_
    · exact Le.of rfl ⟨⟨_, rfl, rfl⟩, ⟨_, rfl, (congrArg (fun z => some (Value.int .u8 z)) e0)⟩, ⟨_, rfl, rfl⟩, ⟨_, rfl, rfl⟩, ⟨_, rfl, rfl⟩, trivial⟩ (fun h k => sat_pick 1 rfl (by first | exact fun _ k => k | exact fun _ k => blk_to rfl rfl k | exact fun _ k => vec_to rfl k | exact fun _ k => blk_of rfl rfl k | exact fun _ k => vec_of rfl k | exact fun _ k => blk_of rfl rfl (blk_to rfl rfl k) | exact fun _ k => vec_of rfl (vec_to rfl k) | exact fun _ k => mp_to rfl k | exact fun _ k => mp_of rfl k | exact fun _ k => mp_of rfl (mp_to rfl k)) (fun h k => sat_pick 0 rfl (by first | exact fun _ k => k | exact fun _ k => blk_to rfl rfl k | exact fun _ k => vec_to rfl k | exact fun _ k => blk_of rfl rfl k | exact fun _ k => vec_of rfl k | exact fun _ k => blk_of rfl rfl (blk_to rfl rfl k) | exact fun _ k => vec_of rfl (vec_to rfl k) | exact fun _ k => mp_to rfl k | exact fun _ k => mp_of rfl k | exact fun _ k => mp_of rfl (mp_to rfl k)) (fun h k => sat_nil k) k) k)
    rintro ⟨i, hi⟩
    refine CondOb.split (fun g => ?_) (fun g => ?_)
    rotate_left
    · simp only [decide_eq_false_iff_not] at g
      replace g : ¬ (i : Int) < 3 := g
      have ei : i = 3 := by omega
      subst ei
      exact FinOb.mk [.int .u8 (fst' op (n % 32) 3)] [] rfl (fun h k => trivial) ⟨by rw [efl]; rfl, rfl⟩
    simp only [decide_eq_true_eq] at g
    replace g : (i : Int) < 3 := g
    rcases (show i = 0 ∨ i = 1 ∨ i = 2 by omega) with rfl | rfl | rfl
    · refine Need.mk ⟨Int.natCast_nonneg 0, show ((0 : Nat) : Int) < ((3 : Nat) : Int) by decide⟩ ?_
      refine useP (.int .i64 _) (chk_spec op 4 h0 h1 (by simp)) rfl rfl ?_
      refine CondOb.split (fun g => ?_) (fun g => ?_)
      · have hk : okb op 4 = false := by
          cases h : okb op 4 with
          | false => rfl
          | true => rw [h] at g; simp at g
        refine ⟨⟨1, by omega⟩, by show 3 - 1 < 3 - (1 - 1); omega, Le.of rfl ⟨⟨_, rfl, rfl⟩, ⟨_, rfl, (congrArg (fun z => some (Value.int .u8 z)) (by show nobit (fst' op (n % 32) (1 - 1)) 4 = fst' op (n % 32) 1; simp only [fst', clr, hk]; simp))⟩, ⟨_, rfl, rfl⟩, ⟨_, rfl, rfl⟩, ⟨_, rfl, rfl⟩, trivial⟩ (fun h k => sat_pick 0 rfl (by first | exact fun _ k => k | exact fun _ k => blk_to rfl rfl k | exact fun _ k => vec_to rfl k | exact fun _ k => blk_of rfl rfl k | exact fun _ k => vec_of rfl k | exact fun _ k => blk_of rfl rfl (blk_to rfl rfl k) | exact fun _ k => vec_of rfl (vec_to rfl k) | exact fun _ k => mp_to rfl k | exact fun _ k => mp_of rfl k | exact fun _ k => mp_of rfl (mp_to rfl k)) (fun h k => sat_pick 0 rfl (by first | exact fun _ k => k | exact fun _ k => blk_to rfl rfl k | exact fun _ k => vec_to rfl k | exact fun _ k => blk_of rfl rfl k | exact fun _ k => vec_of rfl k | exact fun _ k => blk_of rfl rfl (blk_to rfl rfl k) | exact fun _ k => vec_of rfl (vec_to rfl k) | exact fun _ k => mp_to rfl k | exact fun _ k => mp_of rfl k | exact fun _ k => mp_of rfl (mp_to rfl k)) (fun h k => sat_nil k) k) k)⟩
      · have hk : okb op 4 = true := by
          cases h : okb op 4 with
          | true => rfl
          | false => rw [h] at g; simp at g
        refine ⟨⟨1, by omega⟩, by show 3 - 1 < 3 - (1 - 1); omega, Le.of rfl ⟨⟨_, rfl, rfl⟩, ⟨_, rfl, (congrArg (fun z => some (Value.int .u8 z)) (by show fst' op (n % 32) (1 - 1) = fst' op (n % 32) 1; simp only [fst', clr, hk]; simp))⟩, ⟨_, rfl, rfl⟩, ⟨_, rfl, rfl⟩, ⟨_, rfl, rfl⟩, trivial⟩ (fun h k => sat_pick 0 rfl (by first | exact fun _ k => k | exact fun _ k => blk_to rfl rfl k | exact fun _ k => vec_to rfl k | exact fun _ k => blk_of rfl rfl k | exact fun _ k => vec_of rfl k | exact fun _ k => blk_of rfl rfl (blk_to rfl rfl k) | exact fun _ k => vec_of rfl (vec_to rfl k) | exact fun _ k => mp_to rfl k | exact fun _ k => mp_of rfl k | exact fun _ k => mp_of rfl (mp_to rfl k)) (fun h k => sat_pick 0 rfl (by first | exact fun _ k => k | exact fun _ k => blk_to rfl rfl k | exact fun _ k => vec_to rfl k | exact fun _ k => blk_of rfl rfl k | exact fun _ k => vec_of rfl k | exact fun _ k => blk_of rfl rfl (blk_to rfl rfl k) | exact fun _ k => vec_of rfl (vec_to rfl k) | exact fun _ k => mp_to rfl k | exact fun _ k => mp_of rfl k | exact fun _ k => mp_of rfl (mp_to rfl k)) (fun h k => sat_nil k) k) k)⟩
    · refine Need.mk ⟨Int.natCast_nonneg 1, show ((1 : Nat) : Int) < ((3 : Nat) : Int) by decide⟩ ?_
      refine useP (.int .i64 _) (chk_spec op 8 h0 h1 (by simp)) rfl rfl ?_
      refine CondOb.split (fun g => ?_) (fun g => ?_)
      · have hk : okb op 8 = false := by
          cases h : okb op 8 with
          | false => rfl
          | true => rw [h] at g; simp at g
        refine ⟨⟨2, by omega⟩, by show 3 - 2 < 3 - (2 - 1); omega, Le.of rfl ⟨⟨_, rfl, rfl⟩, ⟨_, rfl, (congrArg (fun z => some (Value.int .u8 z)) (by show nobit (fst' op (n % 32) (2 - 1)) 8 = fst' op (n % 32) 2; simp only [fst', clr, hk]; simp))⟩, ⟨_, rfl, rfl⟩, ⟨_, rfl, rfl⟩, ⟨_, rfl, rfl⟩, trivial⟩ (fun h k => sat_pick 0 rfl (by first | exact fun _ k => k | exact fun _ k => blk_to rfl rfl k | exact fun _ k => vec_to rfl k | exact fun _ k => blk_of rfl rfl k | exact fun _ k => vec_of rfl k | exact fun _ k => blk_of rfl rfl (blk_to rfl rfl k) | exact fun _ k => vec_of rfl (vec_to rfl k) | exact fun _ k => mp_to rfl k | exact fun _ k => mp_of rfl k | exact fun _ k => mp_of rfl (mp_to rfl k)) (fun h k => sat_pick 0 rfl (by first | exact fun _ k => k | exact fun _ k => blk_to rfl rfl k | exact fun _ k => vec_to rfl k | exact fun _ k => blk_of rfl rfl k | exact fun _ k => vec_of rfl k | exact fun _ k => blk_of rfl rfl (blk_to rfl rfl k) | exact fun _ k => vec_of rfl (vec_to rfl k) | exact fun _ k => mp_to rfl k | exact fun _ k => mp_of rfl k | exact fun _ k => mp_of rfl (mp_to rfl k)) (fun h k => sat_nil k) k) k)⟩
      · have hk : okb op 8 = true := by
          cases h : okb op 8 with
          | true => rfl
          | false => rw [h] at g; simp at g
        refine ⟨⟨2, by omega⟩, by show 3 - 2 < 3 - (2 - 1); omega, Le.of rfl ⟨⟨_, rfl, rfl⟩, ⟨_, rfl, (congrArg (fun z => some (Value.int .u8 z)) (by show fst' op (n % 32) (2 - 1) = fst' op (n % 32) 2; simp only [fst', clr, hk]; simp))⟩, ⟨_, rfl, rfl⟩, ⟨_, rfl, rfl⟩, ⟨_, rfl, rfl⟩, trivial⟩ (fun h k => sat_pick 0 rfl (by first | exact fun _ k => k | exact fun _ k => blk_to rfl rfl k | exact fun _ k => vec_to rfl k | exact fun _ k => blk_of rfl rfl k | exact fun _ k => vec_of rfl k | exact fun _ k => blk_of rfl rfl (blk_to rfl rfl k) | exact fun _ k => vec_of rfl (vec_to rfl k) | exact fun _ k => mp_to rfl k | exact fun _ k => mp_of rfl k | exact fun _ k => mp_of rfl (mp_to rfl k)) (fun h k => sat_pick 0 rfl (by first | exact fun _ k => k | exact fun _ k => blk_to rfl rfl k | exact fun _ k => vec_to rfl k | exact fun _ k => blk_of rfl rfl k | exact fun _ k => vec_of rfl k | exact fun _ k => blk_of rfl rfl (blk_to rfl rfl k) | exact fun _ k => vec_of rfl (vec_to rfl k) | exact fun _ k => mp_to rfl k | exact fun _ k => mp_of rfl k | exact fun _ k => mp_of rfl (mp_to rfl k)) (fun h k => sat_nil k) k) k)⟩
    · refine Need.mk ⟨Int.natCast_nonneg 2, show ((2 : Nat) : Int) < ((3 : Nat) : Int) by decide⟩ ?_
      refine useP (.int .i64 _) (chk_spec op 16 h0 h1 (by simp)) rfl rfl ?_
      refine CondOb.split (fun g => ?_) (fun g => ?_)
      · have hk : okb op 16 = false := by
          cases h : okb op 16 with
          | false => rfl
          | true => rw [h] at g; simp at g
        refine ⟨⟨3, by omega⟩, by show 3 - 3 < 3 - (3 - 1); omega, Le.of rfl ⟨⟨_, rfl, rfl⟩, ⟨_, rfl, (congrArg (fun z => some (Value.int .u8 z)) (by show nobit (fst' op (n % 32) (3 - 1)) 16 = fst' op (n % 32) 3; simp only [fst', clr, hk]; simp))⟩, ⟨_, rfl, rfl⟩, ⟨_, rfl, rfl⟩, ⟨_, rfl, rfl⟩, trivial⟩ (fun h k => sat_pick 0 rfl (by first | exact fun _ k => k | exact fun _ k => blk_to rfl rfl k | exact fun _ k => vec_to rfl k | exact fun _ k => blk_of rfl rfl k | exact fun _ k => vec_of rfl k | exact fun _ k => blk_of rfl rfl (blk_to rfl rfl k) | exact fun _ k => vec_of rfl (vec_to rfl k) | exact fun _ k => mp_to rfl k | exact fun _ k => mp_of rfl k | exact fun _ k => mp_of rfl (mp_to rfl k)) (fun h k => sat_pick 0 rfl (by first | exact fun _ k => k | exact fun _ k => blk_to rfl rfl k | exact fun _ k => vec_to rfl k | exact fun _ k => blk_of rfl rfl k | exact fun _ k => vec_of rfl k | exact fun _ k => blk_of rfl rfl (blk_to rfl rfl k) | exact fun _ k => vec_of rfl (vec_to rfl k) | exact fun _ k => mp_to rfl k | exact fun _ k => mp_of rfl k | exact fun _ k => mp_of rfl (mp_to rfl k)) (fun h k => sat_nil k) k) k)⟩
      · have hk : okb op 16 = true := by
          cases h : okb op 16 with
          | true => rfl
          | false => rw [h] at g; simp at g
        refine ⟨⟨3, by omega⟩, by show 3 - 3 < 3 - (3 - 1); omega, Le.of rfl ⟨⟨_, rfl, rfl⟩, ⟨_, rfl, (congrArg (fun z => some (Value.int .u8 z)) (by show fst' op (n % 32) (3 - 1) = fst' op (n % 32) 3; simp only [fst', clr, hk]; simp))⟩, ⟨_, rfl, rfl⟩, ⟨_, rfl, rfl⟩, ⟨_, rfl, rfl⟩, trivial⟩ (fun h k => sat_pick 0 rfl (by first | exact fun _ k => k | exact fun _ k => blk_to rfl rfl k | exact fun _ k => vec_to rfl k | exact fun _ k => blk_of rfl rfl k | exact fun _ k => vec_of rfl k | exact fun _ k => blk_of rfl rfl (blk_to rfl rfl k) | exact fun _ k => vec_of rfl (vec_to rfl k) | exact fun _ k => mp_to rfl k | exact fun _ k => mp_of rfl k | exact fun _ k => mp_of rfl (mp_to rfl k)) (fun h k => sat_pick 0 rfl (by first | exact fun _ k => k | exact fun _ k => blk_to rfl rfl k | exact fun _ k => vec_to rfl k | exact fun _ k => blk_of rfl rfl k | exact fun _ k => vec_of rfl k | exact fun _ k => blk_of rfl rfl (blk_to rfl rfl k) | exact fun _ k => vec_of rfl (vec_to rfl k) | exact fun _ k => mp_to rfl k | exact fun _ k => mp_of rfl k | exact fun _ k => mp_of rfl (mp_to rfl k)) (fun h k => sat_nil k) k) k)⟩
end Go.Proofs.Ytlgdagjbphafcaa.Sc
