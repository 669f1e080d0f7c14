/- script: what the reference checks of an entry. Conditions: none. -/
import Derived.Test.YtlgdagjbphafcaaScI
namespace Go.Proofs.Ytlgdagjbphafcaa.Sc
open Go Go.Proofs Sx
set_option maxRecDepth 100000
set_option linter.unusedVariables false
set_option linter.unusedSimpArgs false
set_option maxHeartbeats 40000000

def bitAt (fl d : Int) : Bool := (IntKind.i64.wrap ((IntKind.i64.wrap fl).tdiv d)).tmod 2 == 1
structure QOk (q : Sq) : Prop where
  op0 : 0 ≤ q.op
  op1 : q.op < 14
  f0 : 0 ≤ q.fl
  f1 : q.fl ≤ 31
  lh : ((IntKind.i64.wrap q.fl).tmod 2 == 1) = true → bitAt q.fl 2 = false
  mu : bitAt q.fl 4 = true → q.op = 5 ∨ q.op = 7
  se : bitAt q.fl 8 = true → q.op = 7
  bf : bitAt q.fl 16 = true → q.op = 12
  ln : q.op = 7 → 1 ≤ q.len ∧ q.len ≤ 65536
  d6 : q.op = 6 → q.data.length ≤ 65536
  d0 : q.op ≠ 6 → q.data = []
  au : q.aux ≤ 1073741824
theorem flg_ok : ∀ n : Nat, n < 32 → ∀ op : Nat, op < 14 → (0 ≤ flg op n ∧ flg op n ≤ 31) ∧ (((IntKind.i64.wrap (flg op n)).tmod 2 == 1) = true → bitAt (flg op n) 2 = false) ∧ (bitAt (flg op n) 4 = true → (op : Int) = 5 ∨ (op : Int) = 7) ∧ (bitAt (flg op n) 8 = true → (op : Int) = 7) ∧ (bitAt (flg op n) 16 = true → (op : Int) = 12) := by decide +kernel
theorem ent_ok {L : List Int} (hb : ∀ x ∈ L, 0 ≤ x ∧ x ≤ 255) (p : Nat) : QOk (ent L p) := by
  have u0 := byte hb p
  have u1 := byte hb (p + 1)
  have u4 := byte hb (p + 4)
  have key : (ent L p).op = L.getD p 0 % 14 ∧ (ent L p).fl = flg (L.getD p 0 % 14) (L.getD (p + 1) 0) := by
    unfold ent
    simp only
    (repeat' split) <;> exact ⟨rfl, rfl⟩
  obtain ⟨o, ho⟩ : ∃ o : Nat, L.getD p 0 % 14 = o := ⟨(L.getD p 0 % 14).toNat, by omega⟩
  obtain ⟨m, hm⟩ : ∃ m : Nat, L.getD (p + 1) 0 % 32 = m := ⟨(L.getD (p + 1) 0 % 32).toNat, by omega⟩
  have ef : flg (L.getD p 0 % 14) (L.getD (p + 1) 0) = flg o m := by
    rw [ho]
    have : (m : Int) % 32 = L.getD (p + 1) 0 % 32 := by omega
    simp only [flg, this]
  have hk := flg_ok m (by omega) o (by omega)
  rw [ef, ho] at key
  refine ⟨by rw [key.1]; omega, by rw [key.1]; omega, by rw [key.2]; exact hk.1.1, by rw [key.2]; exact hk.1.2, by rw [key.2]; exact hk.2.1, by rw [key.1, key.2]; exact hk.2.2.1, by rw [key.1, key.2]; exact hk.2.2.2.1, by rw [key.1, key.2]; exact hk.2.2.2.2, fun h => ?_, fun h => ?_, fun h => ?_, ?_⟩
  · rw [key.1, ← ho] at h
    have : (ent L p).len = L.getD (p + 4) 0 + 1 := by simp [ent, h, -List.getD_eq_getElem?_getD]
    omega
  · rw [key.1, ← ho] at h
    have : (ent L p).data = many (L.getD (p + 4) 0) (L.getD (p + 4) 0 % 64).toNat := by simp [ent, h, -List.getD_eq_getElem?_getD]
    rw [this]; simp [many, -List.getD_eq_getElem?_getD]; omega
  · rw [key.1, ← ho] at h
    unfold ent
    simp only [h, if_false]
    (repeat' split) <;> rfl
  · have : (ent L p).aux = 0 ∨ (ent L p).aux = L.getD (p + 4) 0 := by
      unfold ent
      simp only
      (repeat' split) <;> first | exact .inl rfl | exact .inr rfl
    omega
end Go.Proofs.Ytlgdagjbphafcaa.Sc
