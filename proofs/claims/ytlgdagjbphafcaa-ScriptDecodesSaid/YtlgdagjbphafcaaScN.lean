/- script: the reference's reader. Conditions: none. -/
import Derived.Test.YtlgdagjbphafcaaScH
namespace Go.Proofs.Ytlgdagjbphafcaa.Sc
open Go Go.Proofs Sx
set_option maxRecDepth 100000
set_option linter.unusedVariables false
set_option linter.unusedSimpArgs false
set_option maxHeartbeats 4000000

/-- What is left behind so many bytes. -/
def left (A : Option Addr) (c : Nat) (L : List Int) (p : Nat) : Value := .slice (adr A c (min p L.length)).1 (L.length - p) (adr A c (min p L.length)).2
theorem one_spec (A : Option Addr) (c : Nat) (L : List Int) (p : Nat) (hc : L.length ≤ c) (hb : ∀ x ∈ L, 0 ≤ x ∧ x ≤ 255) :
    Does Try.prog 93 #[left A c L p] (fun f => Reads f A (U8.flat L)) [] (fun v q => v = .tuple #[.int .i64 (L.getD p 0), left A c L (p + 1)] ∧ q = []) := by
  refine Does.of Try.func93 Try.call93 rfl [.raw (left A c L p)] [] 0 [] rfl rfl (fun h k => k) (fun f hR => ?_)
  by_cases h : p < L.length
  · have hm : min p L.length = p := by omega
    have hm1 : min (p + 1) L.length = p + 1 := by omega
    have hr := adr_reads hR hc p (by omega)
    have hcap := adr_cap A c p
    have e : U8.flat (L.drop p) = U8.cells (L.getD p 0) ++ U8.flat (L.drop (p + 1)) := U8.flat_drop (by rw [List.getD_eq_getElem?_getD, List.getElem?_eq_getElem h]; rfl)
    unfold left
    rw [hm, hm1]
    refine CondOb.split (fun g => absurd g (by simp; omega)) (fun _ => ?_)
    obtain ⟨ba, o, h1, h2⟩ := hr 0 (.int .u8 (L.getD p 0)) (by rw [e]; rfl)
    refine DrawOb.mk [] (.run [0, 1, 2, 3, 4, 5, 6, 7] .nil) (by kernel_rfl) ?_
    refine Need.mk ⟨by decide, by omega⟩ (RawAt.mk ba o h1 ?_)
    refine RdRaw.mk (.int .u8 (L.getD p 0)) _ rfl h2 ?_
    refine Need.mk ⟨by decide, by omega⟩ ?_
    have hx := byte hb p
    have ew : IntKind.i64.wrap (L.getD p 0) = L.getD p 0 := w64 (by omega) (by omega)
    refine FinOb.mk _ [] rfl (fun h k => trivial) ⟨?_, rfl⟩
    have e9 : L.length - (p + 1) = L.length - p - Int.toNat 1 := by show _ = L.length - p - 1; omega
    rw [e9]
    simp only [ret1, ew]
    rfl
  · have hm : min p L.length = L.length := by omega
    have hm1 : min (p + 1) L.length = L.length := by omega
    have h0 : L.length - p = 0 := by omega
    have h01 : L.length - (p + 1) = 0 := by omega
    have hv : L.getD p 0 = 0 := by rw [List.getD_eq_getElem?_getD, List.getElem?_eq_none (by omega)]; rfl
    unfold left
    rw [hm, h0, hm1, h01, hv]
    refine CondOb.split (fun _ => ?_) (fun g => absurd g (by simp))
    exact FinOb.mk _ [] rfl (fun h k => trivial) ⟨rfl, rfl⟩
end Go.Proofs.Ytlgdagjbphafcaa.Sc
