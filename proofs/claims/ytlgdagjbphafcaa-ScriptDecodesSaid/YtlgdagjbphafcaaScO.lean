/- script: the reference's flags. Conditions: none. -/
import Derived.Test.YtlgdagjbphafcaaScN
namespace Go.Proofs.Ytlgdagjbphafcaa.Sc
open Go Go.Proofs Sx
set_option maxRecDepth 100000
set_option linter.unusedVariables false
set_option linter.unusedSimpArgs false
set_option maxHeartbeats 4000000

def FS (op f : Int) : St := ⟨48, [(0, .int .i64 op), (5, .int .i64 f)], [], 0, []⟩
theorem rflags_spec (op n : Int) (h0 : 0 ≤ op) (h1 : op < 14) (hn0 : 0 ≤ n) (hn1 : n ≤ 255) :
    Does Try.prog 95 #[.int .i64 op, .int .i64 n] (fun _ => True) [] (fun v q => v = .int .i64 (flg op n) ∧ q = []) := by
  refine Does.of Try.func95 Try.call95 rfl [.int .i64 op, .int .i64 n] [] 0 [] rfl rfl (fun h k => k) (fun f hR => ?_)
  have e32 : n.tmod 32 = n % 32 := Int.tmod_eq_emod_of_nonneg hn0
  generalize hf0 : n % 32 = f0 at e32
  have b0 : 0 ≤ f0 ∧ f0 < 32 := by omega
  have t4 : f0.tmod 4 = f0 % 4 := Int.tmod_eq_emod_of_nonneg b0.1
  refine Need.mk (by decide) ?_
  refine Need.mk (by decide) ?_
  refine CondOb.join { f1 : Int // f1 = if f0 % 4 = 3 then f0 - 2 else f0 } (fun z => FS op z.1) (fun g => ?_) (fun g => ?_) (fun z => ?_)
  · rw [e32, t4] at g
    have g : f0 % 4 = 3 := by simpa using g
    refine ⟨⟨f0 - 2, by rw [if_pos g]⟩, Le.of rfl ⟨⟨_, rfl, rfl⟩, ⟨_, rfl, congrArg (fun z => some (Value.int .i64 z)) (by rw [e32, w64 (by omega) (by omega)])⟩, trivial⟩ (fun h k => k)⟩
  · rw [e32, t4] at g
    have g : ¬ f0 % 4 = 3 := by simpa using g
    refine ⟨⟨f0, by rw [if_neg g]⟩, Le.of rfl ⟨⟨_, rfl, rfl⟩, ⟨_, rfl, congrArg (fun z => some (Value.int .i64 z)) e32⟩, trivial⟩ (fun h k => k)⟩
  obtain ⟨f1, hf1⟩ := z
  have b1 : 0 ≤ f1 ∧ f1 < 32 := by rw [hf1]; split <;> omega
  have t1 : (IntKind.i64.wrap (f1.tdiv 4)).tmod 2 = f1 / 4 % 2 := by rw [Int.tdiv_eq_ediv_of_nonneg b1.1, w64 (by omega) (by omega), Int.tmod_eq_emod_of_nonneg (by omega)]
  refine Need.mk (by decide) ?_
  refine Need.mk (by decide) ?_
  refine Br.mk (fun g => ?_) (fun g => ?_)
  · rw [t1] at g
    have g : f1 / 4 % 2 = 1 := by simpa using g
    refine Br.mk (fun g5 => ?_) (fun g5 => ?_)
    · have g5 : op ≠ 5 := by simpa using g5
      refine CondOb.join { f2 : Int // f2 = if f1 / 4 % 2 = 1 ∧ op ≠ 5 ∧ op ≠ 7 then f1 - 4 else f1 } (fun z => FS op z.1) (fun g7 => ?_) (fun g7 => ?_) (fun z => ?_)
      · have g7 : op ≠ 7 := by simpa using g7
        exact ⟨⟨f1 - 4, by rw [if_pos ⟨g, g5, g7⟩]⟩, Le.of rfl ⟨⟨_, rfl, rfl⟩, ⟨_, rfl, congrArg (fun z => some (Value.int .i64 z)) (show IntKind.i64.wrap (f1 - 4) = f1 - 4 from w64 (by omega) (by omega))⟩, trivial⟩ (fun h k => k)⟩
      · have g7 : op = 7 := by simpa using g7
        exact ⟨⟨f1, by rw [if_neg (by simp [g7])]⟩, Le.of rfl ⟨⟨_, rfl, rfl⟩, ⟨_, rfl, rfl⟩, trivial⟩ (fun h k => k)⟩
      obtain ⟨f2, hf2⟩ := z
      have b2 : 0 ≤ f2 ∧ f2 < 32 := by have h9 := hf2; split at h9 <;> omega
      have t2 : (IntKind.i64.wrap (Int.tdiv f2 8)).tmod 2 = f2 / 8 % 2 := by rw [Int.tdiv_eq_ediv_of_nonneg b2.1, w64 (by omega) (by omega), Int.tmod_eq_emod_of_nonneg (by omega)]
      refine Need.mk (by decide) ?_
      refine Need.mk (by decide) ?_
      refine Br.mk (fun m => ?_) (fun m => ?_)
      · rw [t2] at m
        have m : f2 / 8 % 2 = 1 := by simpa using m
        refine CondOb.join { f3 : Int // f3 = if f2 / 8 % 2 = 1 ∧ op ≠ 7 then f2 - 8 else f2 } (fun z => FS op z.1) (fun m7 => ?_) (fun m7 => ?_) (fun z => ?_)
        · have m7 : op ≠ 7 := by simpa using m7
          exact ⟨⟨f2 - 8, by rw [if_pos ⟨m, m7⟩]⟩, Le.of rfl ⟨⟨_, rfl, rfl⟩, ⟨_, rfl, congrArg (fun z => some (Value.int .i64 z)) (show IntKind.i64.wrap (f2 - 8) = f2 - 8 from w64 (by omega) (by omega))⟩, trivial⟩ (fun h k => k)⟩
        · have m7 : op = 7 := by simpa using m7
          exact ⟨⟨f2, by rw [if_neg (by simp [m7])]⟩, Le.of rfl ⟨⟨_, rfl, rfl⟩, ⟨_, rfl, rfl⟩, trivial⟩ (fun h k => k)⟩
        obtain ⟨f3, hf3⟩ := z
        have b3 : 0 ≤ f3 ∧ f3 < 32 := by have h9 := hf3; split at h9 <;> omega
        have t3 : (IntKind.i64.wrap (Int.tdiv f3 16)).tmod 2 = f3 / 16 % 2 := by rw [Int.tdiv_eq_ediv_of_nonneg b3.1, w64 (by omega) (by omega), Int.tmod_eq_emod_of_nonneg (by omega)]
        have fin : flg op n = if f3 / 16 % 2 = 1 ∧ op ≠ 12 then f3 - 16 else f3 := by
          simp only [flg, hf0]
          rw [← hf1, ← hf2, ← hf3]
        refine Need.mk (by decide) ?_
        refine Need.mk (by decide) ?_
        refine Br.mk (fun k => ?_) (fun k => ?_)
        · rw [t3] at k
          have k : f3 / 16 % 2 = 1 := by simpa using k
          refine CondOb.split (fun k12 => ?_) (fun k12 => ?_)
          · have k12 : op ≠ 12 := by simpa using k12
            have ew : IntKind.i64.wrap (f3 - 16) = f3 - 16 := w64 (by omega) (by omega)
            exact FinOb.mk _ [] rfl (fun h k => trivial) ⟨congrArg (Value.int .i64) (ew.trans (fin.trans (if_pos ⟨k, k12⟩)).symm), rfl⟩
          · have k12 : op = 12 := by simpa using k12
            exact FinOb.mk _ [] rfl (fun h k => trivial) ⟨congrArg (Value.int .i64) (fin.trans (if_neg (by simp [k12]))).symm, rfl⟩
        · rw [t3] at k
          have k : f3 / 16 % 2 ≠ 1 := by simpa using k
          exact FinOb.mk _ [] rfl (fun h k => trivial) ⟨congrArg (Value.int .i64) (fin.trans (if_neg (by simp [k]))).symm, rfl⟩
      · rw [t2] at m
        have m : f2 / 8 % 2 ≠ 1 := by simpa using m
        have hf3 : f2 = if f2 / 8 % 2 = 1 ∧ op ≠ 7 then f2 - 8 else f2 := by rw [if_neg (by simp [m])]
        have b3 : 0 ≤ f2 ∧ f2 < 32 := by have h9 := hf3; split at h9 <;> omega
        have t3 : (IntKind.i64.wrap (Int.tdiv f2 16)).tmod 2 = f2 / 16 % 2 := by rw [Int.tdiv_eq_ediv_of_nonneg b3.1, w64 (by omega) (by omega), Int.tmod_eq_emod_of_nonneg (by omega)]
        have fin : flg op n = if f2 / 16 % 2 = 1 ∧ op ≠ 12 then f2 - 16 else f2 := by
          simp only [flg, hf0]
          rw [← hf1, ← hf2, ← hf3]
        refine Need.mk (by decide) ?_
        refine Need.mk (by decide) ?_
        refine Br.mk (fun k => ?_) (fun k => ?_)
        · rw [t3] at k
          have k : f2 / 16 % 2 = 1 := by simpa using k
          refine CondOb.split (fun k12 => ?_) (fun k12 => ?_)
          · have k12 : op ≠ 12 := by simpa using k12
            have ew : IntKind.i64.wrap (f2 - 16) = f2 - 16 := w64 (by omega) (by omega)
            exact FinOb.mk _ [] rfl (fun h k => trivial) ⟨congrArg (Value.int .i64) (ew.trans (fin.trans (if_pos ⟨k, k12⟩)).symm), rfl⟩
          · have k12 : op = 12 := by simpa using k12
            exact FinOb.mk _ [] rfl (fun h k => trivial) ⟨congrArg (Value.int .i64) (fin.trans (if_neg (by simp [k12]))).symm, rfl⟩
        · rw [t3] at k
          have k : f2 / 16 % 2 ≠ 1 := by simpa using k
          exact FinOb.mk _ [] rfl (fun h k => trivial) ⟨congrArg (Value.int .i64) (fin.trans (if_neg (by simp [k]))).symm, rfl⟩
    · have g5 : op = 5 := by simpa using g5
      have hf2 : f1 = if f1 / 4 % 2 = 1 ∧ op ≠ 5 ∧ op ≠ 7 then f1 - 4 else f1 := by rw [if_neg (by simp [g5])]
      have b2 : 0 ≤ f1 ∧ f1 < 32 := by have h9 := hf2; split at h9 <;> omega
      have t2 : (IntKind.i64.wrap (Int.tdiv f1 8)).tmod 2 = f1 / 8 % 2 := by rw [Int.tdiv_eq_ediv_of_nonneg b2.1, w64 (by omega) (by omega), Int.tmod_eq_emod_of_nonneg (by omega)]
      refine Need.mk (by decide) ?_
      refine Need.mk (by decide) ?_
      refine Br.mk (fun m => ?_) (fun m => ?_)
      · rw [t2] at m
        have m : f1 / 8 % 2 = 1 := by simpa using m
        refine CondOb.join { f3 : Int // f3 = if f1 / 8 % 2 = 1 ∧ op ≠ 7 then f1 - 8 else f1 } (fun z => FS op z.1) (fun m7 => ?_) (fun m7 => ?_) (fun z => ?_)
        · have m7 : op ≠ 7 := by simpa using m7
          exact ⟨⟨f1 - 8, by rw [if_pos ⟨m, m7⟩]⟩, Le.of rfl ⟨⟨_, rfl, rfl⟩, ⟨_, rfl, congrArg (fun z => some (Value.int .i64 z)) (show IntKind.i64.wrap (f1 - 8) = f1 - 8 from w64 (by omega) (by omega))⟩, trivial⟩ (fun h k => k)⟩
        · have m7 : op = 7 := by simpa using m7
          exact ⟨⟨f1, by rw [if_neg (by simp [m7])]⟩, Le.of rfl ⟨⟨_, rfl, rfl⟩, ⟨_, rfl, rfl⟩, trivial⟩ (fun h k => k)⟩
        obtain ⟨f3, hf3⟩ := z
        have b3 : 0 ≤ f3 ∧ f3 < 32 := by have h9 := hf3; split at h9 <;> omega
        have t3 : (IntKind.i64.wrap (Int.tdiv f3 16)).tmod 2 = f3 / 16 % 2 := by rw [Int.tdiv_eq_ediv_of_nonneg b3.1, w64 (by omega) (by omega), Int.tmod_eq_emod_of_nonneg (by omega)]
        have fin : flg op n = if f3 / 16 % 2 = 1 ∧ op ≠ 12 then f3 - 16 else f3 := by
          simp only [flg, hf0]
          rw [← hf1, ← hf2, ← hf3]
        refine Need.mk (by decide) ?_
        refine Need.mk (by decide) ?_
        refine Br.mk (fun k => ?_) (fun k => ?_)
        · rw [t3] at k
          have k : f3 / 16 % 2 = 1 := by simpa using k
          refine CondOb.split (fun k12 => ?_) (fun k12 => ?_)
          · have k12 : op ≠ 12 := by simpa using k12
            have ew : IntKind.i64.wrap (f3 - 16) = f3 - 16 := w64 (by omega) (by omega)
            exact FinOb.mk _ [] rfl (fun h k => trivial) ⟨congrArg (Value.int .i64) (ew.trans (fin.trans (if_pos ⟨k, k12⟩)).symm), rfl⟩
          · have k12 : op = 12 := by simpa using k12
            exact FinOb.mk _ [] rfl (fun h k => trivial) ⟨congrArg (Value.int .i64) (fin.trans (if_neg (by simp [k12]))).symm, rfl⟩
        · rw [t3] at k
          have k : f3 / 16 % 2 ≠ 1 := by simpa using k
          exact FinOb.mk _ [] rfl (fun h k => trivial) ⟨congrArg (Value.int .i64) (fin.trans (if_neg (by simp [k]))).symm, rfl⟩
      · rw [t2] at m
        have m : f1 / 8 % 2 ≠ 1 := by simpa using m
        have hf3 : f1 = if f1 / 8 % 2 = 1 ∧ op ≠ 7 then f1 - 8 else f1 := by rw [if_neg (by simp [m])]
        have b3 : 0 ≤ f1 ∧ f1 < 32 := by have h9 := hf3; split at h9 <;> omega
        have t3 : (IntKind.i64.wrap (Int.tdiv f1 16)).tmod 2 = f1 / 16 % 2 := by rw [Int.tdiv_eq_ediv_of_nonneg b3.1, w64 (by omega) (by omega), Int.tmod_eq_emod_of_nonneg (by omega)]
        have fin : flg op n = if f1 / 16 % 2 = 1 ∧ op ≠ 12 then f1 - 16 else f1 := by
          simp only [flg, hf0]
          rw [← hf1, ← hf2, ← hf3]
        refine Need.mk (by decide) ?_
        refine Need.mk (by decide) ?_
        refine Br.mk (fun k => ?_) (fun k => ?_)
        · rw [t3] at k
          have k : f1 / 16 % 2 = 1 := by simpa using k
          refine CondOb.split (fun k12 => ?_) (fun k12 => ?_)
          · have k12 : op ≠ 12 := by simpa using k12
            have ew : IntKind.i64.wrap (f1 - 16) = f1 - 16 := w64 (by omega) (by omega)
            exact FinOb.mk _ [] rfl (fun h k => trivial) ⟨congrArg (Value.int .i64) (ew.trans (fin.trans (if_pos ⟨k, k12⟩)).symm), rfl⟩
          · have k12 : op = 12 := by simpa using k12
            exact FinOb.mk _ [] rfl (fun h k => trivial) ⟨congrArg (Value.int .i64) (fin.trans (if_neg (by simp [k12]))).symm, rfl⟩
        · rw [t3] at k
          have k : f1 / 16 % 2 ≠ 1 := by simpa using k
          exact FinOb.mk _ [] rfl (fun h k => trivial) ⟨congrArg (Value.int .i64) (fin.trans (if_neg (by simp [k]))).symm, rfl⟩
  · rw [t1] at g
    have g : f1 / 4 % 2 ≠ 1 := by simpa using g
    have hf2 : f1 = if f1 / 4 % 2 = 1 ∧ op ≠ 5 ∧ op ≠ 7 then f1 - 4 else f1 := by rw [if_neg (by simp [g])]
    have b2 : 0 ≤ f1 ∧ f1 < 32 := by have h9 := hf2; split at h9 <;> omega
    have t2 : (IntKind.i64.wrap (Int.tdiv f1 8)).tmod 2 = f1 / 8 % 2 := by rw [Int.tdiv_eq_ediv_of_nonneg b2.1, w64 (by omega) (by omega), Int.tmod_eq_emod_of_nonneg (by omega)]
    refine Need.mk (by decide) ?_
    refine Need.mk (by decide) ?_
    refine Br.mk (fun m => ?_) (fun m => ?_)
    · rw [t2] at m
      have m : f1 / 8 % 2 = 1 := by simpa using m
      refine CondOb.join { f3 : Int // f3 = if f1 / 8 % 2 = 1 ∧ op ≠ 7 then f1 - 8 else f1 } (fun z => FS op z.1) (fun m7 => ?_) (fun m7 => ?_) (fun z => ?_)
      · have m7 : op ≠ 7 := by simpa using m7
        exact ⟨⟨f1 - 8, by rw [if_pos ⟨m, m7⟩]⟩, Le.of rfl ⟨⟨_, rfl, rfl⟩, ⟨_, rfl, congrArg (fun z => some (Value.int .i64 z)) (show IntKind.i64.wrap (f1 - 8) = f1 - 8 from w64 (by omega) (by omega))⟩, trivial⟩ (fun h k => k)⟩
      · have m7 : op = 7 := by simpa using m7
        exact ⟨⟨f1, by rw [if_neg (by simp [m7])]⟩, Le.of rfl ⟨⟨_, rfl, rfl⟩, ⟨_, rfl, rfl⟩, trivial⟩ (fun h k => k)⟩
      obtain ⟨f3, hf3⟩ := z
      have b3 : 0 ≤ f3 ∧ f3 < 32 := by have h9 := hf3; split at h9 <;> omega
      have t3 : (IntKind.i64.wrap (Int.tdiv f3 16)).tmod 2 = f3 / 16 % 2 := by rw [Int.tdiv_eq_ediv_of_nonneg b3.1, w64 (by omega) (by omega), Int.tmod_eq_emod_of_nonneg (by omega)]
      have fin : flg op n = if f3 / 16 % 2 = 1 ∧ op ≠ 12 then f3 - 16 else f3 := by
        simp only [flg, hf0]
        rw [← hf1, ← hf2, ← hf3]
      refine Need.mk (by decide) ?_
      refine Need.mk (by decide) ?_
      refine Br.mk (fun k => ?_) (fun k => ?_)
      · rw [t3] at k
        have k : f3 / 16 % 2 = 1 := by simpa using k
        refine CondOb.split (fun k12 => ?_) (fun k12 => ?_)
        · have k12 : op ≠ 12 := by simpa using k12
          have ew : IntKind.i64.wrap (f3 - 16) = f3 - 16 := w64 (by omega) (by omega)
          exact FinOb.mk _ [] rfl (fun h k => trivial) ⟨congrArg (Value.int .i64) (ew.trans (fin.trans (if_pos ⟨k, k12⟩)).symm), rfl⟩
        · have k12 : op = 12 := by simpa using k12
          exact FinOb.mk _ [] rfl (fun h k => trivial) ⟨congrArg (Value.int .i64) (fin.trans (if_neg (by simp [k12]))).symm, rfl⟩
      · rw [t3] at k
        have k : f3 / 16 % 2 ≠ 1 := by simpa using k
        exact FinOb.mk _ [] rfl (fun h k => trivial) ⟨congrArg (Value.int .i64) (fin.trans (if_neg (by simp [k]))).symm, rfl⟩
    · rw [t2] at m
      have m : f1 / 8 % 2 ≠ 1 := by simpa using m
      have hf3 : f1 = if f1 / 8 % 2 = 1 ∧ op ≠ 7 then f1 - 8 else f1 := by rw [if_neg (by simp [m])]
      have b3 : 0 ≤ f1 ∧ f1 < 32 := by have h9 := hf3; split at h9 <;> omega
      have t3 : (IntKind.i64.wrap (Int.tdiv f1 16)).tmod 2 = f1 / 16 % 2 := by rw [Int.tdiv_eq_ediv_of_nonneg b3.1, w64 (by omega) (by omega), Int.tmod_eq_emod_of_nonneg (by omega)]
      have fin : flg op n = if f1 / 16 % 2 = 1 ∧ op ≠ 12 then f1 - 16 else f1 := by
        simp only [flg, hf0]
        rw [← hf1, ← hf2, ← hf3]
      refine Need.mk (by decide) ?_
      refine Need.mk (by decide) ?_
      refine Br.mk (fun k => ?_) (fun k => ?_)
      · rw [t3] at k
        have k : f1 / 16 % 2 = 1 := by simpa using k
        refine CondOb.split (fun k12 => ?_) (fun k12 => ?_)
        · have k12 : op ≠ 12 := by simpa using k12
          have ew : IntKind.i64.wrap (f1 - 16) = f1 - 16 := w64 (by omega) (by omega)
          exact FinOb.mk _ [] rfl (fun h k => trivial) ⟨congrArg (Value.int .i64) (ew.trans (fin.trans (if_pos ⟨k, k12⟩)).symm), rfl⟩
        · have k12 : op = 12 := by simpa using k12
          exact FinOb.mk _ [] rfl (fun h k => trivial) ⟨congrArg (Value.int .i64) (fin.trans (if_neg (by simp [k12]))).symm, rfl⟩
      · rw [t3] at k
        have k : f1 / 16 % 2 ≠ 1 := by simpa using k
        exact FinOb.mk _ [] rfl (fun h k => trivial) ⟨congrArg (Value.int .i64) (fin.trans (if_neg (by simp [k]))).symm, rfl⟩
end Go.Proofs.Ytlgdagjbphafcaa.Sc
