/- script: the same entries. Conditions: none. -/
import Derived.Test.YtlgdagjbphafcaaScP
namespace Go.Proofs.Ytlgdagjbphafcaa.Sc
open Go Go.Proofs Sx
set_option maxRecDepth 100000
set_option linter.unusedVariables false
set_option linter.unusedSimpArgs false
set_option maxHeartbeats 4000000

theorem bytes_of (l : List Int) (h : ∀ x ∈ l, 0 ≤ x ∧ x ≤ 255) : ∃ s : ByteArray, bytesV s = U8.flat l ∧ s.size = l.length := by
  refine ⟨⟨(l.map fun x => UInt8.ofNat x.toNat).toArray⟩, ?_, by simp [ByteArray.size]⟩
  simp only [bytesV, List.map_map, Lay.flat]
  induction l with
  | nil => rfl
  | cons x l ih =>
    have hx := h x (by simp)
    simp only [List.map_cons, List.flatMap_cons, Function.comp]
    rw [ih (fun y hy => h y (List.mem_cons_of_mem _ hy))]
    have : (UInt8.ofNat x.toNat).toNat = x.toNat := by simp only [UInt8.toNat_ofNat']; omega
    rw [this]
    have : ((x.toNat : Nat) : Int) = x := by omega
    rw [this]; rfl
theorem many_bytes (n : Int) (k : Nat) : ∀ x ∈ many n k, 0 ≤ x ∧ x ≤ 255 := by
  intro x hx
  simp only [many, List.mem_map] at hx
  obtain ⟨i, _, rfl⟩ := hx
  omega
theorem esame_spec (q : Sq) (D1 D2 : Option Addr) (d1 d2 : Nat) (hd : ∀ x ∈ q.data, 0 ≤ x ∧ x ≤ 255) :
    Does Try.prog 66 #[.agg (q.vals D1 d1).toArray, .agg (q.vals D2 d2).toArray] (fun f => Reads f D1 (U8.flat q.data) ∧ Reads f D2 (U8.flat q.data)) [] (fun v p => v = .bool true ∧ p = []) := by
  refine Does.of Try.func66 Try.call66 rfl [.agg (q.svs D1 d1), .agg (q.svs D2 d2)] [] 0 [] rfl rfl (fun h k => k) (fun f hR => ?_)
  obtain ⟨s, hs, hsz⟩ := bytes_of q.data hd
  intro b1 b2
  refine Br.mk (fun _ => ?_) (fun h => absurd h (by simp))
  refine Br.mk (fun _ => ?_) (fun h => absurd h (by simp))
  refine Br.mk (fun _ => ?_) (fun h => absurd h (by simp))
  refine Br.mk (fun _ => ?_) (fun h => absurd h (by simp))
  refine Br.mk (fun _ => ?_) (fun h => absurd h (by simp))
  refine Br.mk (fun _ => ?_) (fun h => absurd h (by simp))
  refine Br.mk (fun _ => ?_) (fun h => absurd h (by simp))
  refine Br.mk (fun _ => ?_) (fun h => absurd h (by simp))
  refine Br.mk (fun _ => ?_) (fun h => absurd h (by simp))
  refine Br.mk (fun _ => ?_) (fun h => absurd h (by simp))
  refine SrcF.mk (bytesV s) (by rw [hs, lU]; omega) (by rw [hs]; exact hR.1) (StrOb.mk s rfl ?_)
  refine SrcF.mk (bytesV s) (by rw [hs, lU]; omega) (by rw [hs]; exact hR.2) (StrOb.mk s rfl ?_)
  exact FinOb.mk _ [] rfl (fun h k => trivial) ⟨by simp [ret1], rfl⟩
end Go.Proofs.Ytlgdagjbphafcaa.Sc
