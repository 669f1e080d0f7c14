/- script: what the reader reads. Conditions: none. -/
import Derived.Test.YtlgdagjbphafcaaProg
import Derived.Test.YtlgdagjbphafcaaE20
namespace Go.Proofs.Ytlgdagjbphafcaa.Sc
open Go Go.Proofs Sx
set_option maxRecDepth 100000
set_option linter.unusedVariables false

abbrev U8 : Lay Int := ints .u8
theorem lU (l : List Int) : (U8.flat l).length = l.length := by rw [U8.flat_length]; simp [ints]
/-- Where a reader stands that has read so many. -/
def adr (A : Option Addr) (c : Nat) : Nat → Option Addr × Nat
  | 0 => (A, c)
  | k + 1 => (if (adr A c k).2 = 1 then (adr A c k).1 else (adr A c k).1.map (·.add 1), (adr A c k).2 - 1)
theorem adr_cap (A : Option Addr) (c : Nat) : ∀ k, (adr A c k).2 = c - k
  | 0 => rfl
  | k + 1 => by simp only [adr, adr_cap A c k]; omega
theorem adr_reads {f : HP} {A : Option Addr} {c : Nat} {L : List Int} (h : Reads f A (U8.flat L)) (hc : L.length ≤ c) : ∀ k, k ≤ L.length → Reads f (adr A c k).1 (U8.flat (L.drop k))
  | 0, _ => by simpa [adr] using h
  | k + 1, hk => by
    have ih := adr_reads h hc k (by omega)
    have hcap := adr_cap A c k
    simp only [adr]
    intro i v hi
    have hlt := (List.getElem?_eq_some_iff.1 hi).1
    rw [lU] at hlt
    simp at hlt
    rw [if_neg (by omega)]
    have e : U8.flat (L.drop k) = U8.cells (L.getD k 0) ++ U8.flat (L.drop (k + 1)) := U8.flat_drop (by rw [List.getD_eq_getElem?_getD, List.getElem?_eq_getElem (by omega)]; rfl)
    have hj : (U8.flat (L.drop k))[i + 1]? = some v := by
      rw [e, List.getElem?_append_right (by simp [ints])]
      simpa [ints] using hi
    obtain ⟨b, o, h1, h2⟩ := ih _ v hj
    rw [h1]
    refine ⟨b, o + 1, rfl, ?_⟩
    rw [← h2]; congr 1; omega
/-- A reader that was asked so often. -/
def rdr (b : Nat) (A : Option Addr) (c : Nat) (L : List Int) (p : Nat) : Asn := pt b (.cells #[.slice (adr A c (min p L.length)).1 (L.length - p) (adr A c (min p L.length)).2] 167 (0, 0))
theorem next_spec (b : Nat) (A : Option Addr) (c : Nat) (L : List Int) (p : Nat) (hc : L.length ≤ c) (hb : ∀ x ∈ L, 0 ≤ x ∧ x ≤ 255) :
    Does Try.prog 114 #[.pointer (some ⟨b, 0, none⟩)] (fun f => Reads f A (U8.flat L)) [rdr b A c L p] (fun v q => v = .int .i64 (L.getD p 0) ∧ q = [rdr b A c L (p + 1)]) := by
  refine Does.of Try.func114 Try.call114 rfl [.ptr 0 0] [(0, .at b 0)] 1 [.blk 0 167 [.raw (.slice (adr A c (min p L.length)).1 (L.length - p) (adr A c (min p L.length)).2)]] rfl rfl (fun h k => sat_pick 0 rfl (fun _ k => blk_of rfl rfl k) (fun h k => sat_nil k) k) (fun f hR => ?_)
  by_cases h : p < L.length
  · have hm : min p L.length = p := by omega
    have hm1 : min (p + 1) L.length = p + 1 := by omega
    have hr := adr_reads hR hc p (by omega)
    have hcap := adr_cap A c p
    have e : U8.flat (L.drop p) = U8.cells (L.getD p 0) ++ U8.flat (L.drop (p + 1)) := U8.flat_drop (by rw [List.getD_eq_getElem?_getD, List.getElem?_eq_getElem h]; rfl)
    rw [hm]
    refine CondOb.split (fun g => absurd g (by simp; omega)) (fun _ => ?_)
    obtain ⟨ba, o, h1, h2⟩ := hr 0 (.int .u8 (L.getD p 0)) (by rw [e]; rfl)
    refine Need.mk ⟨by decide, by omega⟩ (RawAt.mk ba o h1 ?_)
    refine RdRaw.mk (.int .u8 (L.getD p 0)) _ rfl h2 ?_
    refine Need.mk ⟨by decide, by omega⟩ ?_
    have hx := hb (L.getD p 0) (by rw [List.getD_eq_getElem?_getD, List.getElem?_eq_getElem h]; exact List.getElem_mem h)
    have ew : IntKind.i64.wrap (L.getD p 0) = L.getD p 0 := w64 (by omega) (by omega)
    refine FinOb.mk [.int .i64 (L.getD p 0)] [rdr b A c L (p + 1)] (congrArg (fun z => some [Value.int .i64 z]) ew) (fun h k => sat_pick 0 rfl (fun _ k => ?_) (fun h k => sat_nil k) k) ⟨rfl, rfl⟩
    have k := blk_to (b := b) (vs := [.slice (if (adr A c p).2 = Int.toNat 1 then (adr A c p).1 else (adr A c p).1.map (·.add (Int.toNat 1 * 1))) (L.length - p - Int.toNat 1) ((adr A c p).2 - Int.toNat 1)]) rfl rfl k
    unfold rdr
    rw [hm1]
    have e9 : L.length - (p + 1) = L.length - p - Int.toNat 1 := by show _ = L.length - p - 1; omega
    rw [e9]
    exact k
  · have hm : min p L.length = L.length := by omega
    have hm1 : min (p + 1) L.length = L.length := by omega
    have h0 : L.length - p = 0 := by omega
    have h01 : L.length - (p + 1) = 0 := by omega
    have hv : L.getD p 0 = 0 := by rw [List.getD_eq_getElem?_getD, List.getElem?_eq_none (by omega)]; rfl
    rw [hm, h0]
    refine CondOb.split (fun _ => ?_) (fun g => absurd g (by simp))
    refine FinOb.mk [.int .i64 0] [rdr b A c L (p + 1)] rfl (fun h k => sat_pick 0 rfl (fun _ k => ?_) (fun h k => sat_nil k) k) ⟨by rw [hv]; rfl, rfl⟩
    have k := blk_to (b := b) (vs := [.slice (adr A c L.length).1 0 (adr A c L.length).2]) rfl rfl k
    unfold rdr
    rw [hm1, h01]
    exact k
end Go.Proofs.Ytlgdagjbphafcaa.Sc
