/- script: the reference's entry. Conditions: none. -/
import Derived.Test.YtlgdagjbphafcaaScO
namespace Go.Proofs.Ytlgdagjbphafcaa.Sc
open Go Go.Proofs Sx
set_option maxRecDepth 100000
set_option linter.unusedVariables false
set_option linter.unusedSimpArgs false
set_option maxHeartbeats 4000000

theorem op_cases {x : Int} (h0 : 0 ≤ x) (h1 : x < 14) : x = 0 ∨ x = 1 ∨ x = 2 ∨ x = 3 ∨ x = 4 ∨ x = 5 ∨ x = 6 ∨ x = 7 ∨ x = 8 ∨ x = 9 ∨ x = 10 ∨ x = 11 ∨ x = 12 ∨ x = 13 := by omega
theorem rentry_spec (A : Option Addr) (c : Nat) (L : List Int) (p : Nat) (hc : L.length ≤ c) (hb : ∀ x ∈ L, 0 ≤ x ∧ x ≤ 255) :
    Does Try.prog 64 #[left A c L p] (fun f => Reads f A (U8.flat L)) []
      (fun v q => ∃ pd cd, v = .tuple #[.agg ((ent L p).vals (locAddr 0 pd) cd).toArray, left A c L (p + entN (ent L p).op)] ∧ q = [Vec pd 5 1 cd (U8.flat (ent L p).data)]) := by
  refine Does.of Try.func64 Try.call64 rfl [.raw (left A c L p)] [] 0 [] rfl rfl (fun h k => k) (fun f hA => ?_)
  have u0 := byte hb p
  have u1 := byte hb (p + 1)
  have u2 := byte hb (p + 2)
  have u3 := byte hb (p + 3)
  have u4 := byte hb (p + 4)
  have u5 := byte hb (p + 5)
  have et0 : (L.getD p 0).tmod 14 = L.getD p 0 % 14 := Int.tmod_eq_emod_of_nonneg u0.1
  intro b1
  refine useR (.tuple [.int .i64 (L.getD (p) 0), .raw (left A c L (p + 1))]) (one_spec A c L (p) hc hb) rfl (fun f' b' hs _ => hA.frame hs) rfl ?_
  refine useR (.tuple [.int .i64 (L.getD (p + 1) 0), .raw (left A c L (p + 1 + 1))]) (one_spec A c L (p + 1) hc hb) rfl (fun f' b' hs _ => hA.frame hs) rfl ?_
  refine useR (.tuple [.int .i64 (L.getD (p + 2) 0), .raw (left A c L (p + 2 + 1))]) (one_spec A c L (p + 2) hc hb) rfl (fun f' b' hs _ => hA.frame hs) rfl ?_
  refine useR (.tuple [.int .i64 (L.getD (p + 3) 0), .raw (left A c L (p + 3 + 1))]) (one_spec A c L (p + 3) hc hb) rfl (fun f' b' hs _ => hA.frame hs) rfl ?_
  refine Need.mk (by decide) ?_
  refine useP (.int .i64 _) (rflags_spec ((L.getD p 0).tmod 14) (L.getD (p + 1) 0) (by rw [et0]; omega) (by rw [et0]; omega) u1.1 u1.2) rfl rfl ?_
  refine Need.mk (by decide) ?_
  intro b2
  have e0 : IntKind.u8.wrap (L.getD p 0 % 14) = L.getD p 0 % 14 := w8 (by omega) (by omega)
  have hfl : 0 ≤ flg (L.getD p 0 % 14) (L.getD (p + 1) 0) ∧ flg (L.getD p 0 % 14) (L.getD (p + 1) 0) ≤ 31 := by
    unfold flg; simp only; repeat' split
    all_goals omega
  have ef : IntKind.u8.wrap (flg (L.getD p 0 % 14) (L.getD (p + 1) 0)) = flg (L.getD p 0 % 14) (L.getD (p + 1) 0) := w8 hfl.1 (by omega)
  have e2 : (L.getD (p + 2) 0).tmod 8 = L.getD (p + 2) 0 % 8 := Int.tmod_eq_emod_of_nonneg u2.1
  have e3 : IntKind.u64.wrap (L.getD (p + 3) 0) = L.getD (p + 3) 0 := wu64 (by omega) (by omega)
  have hE : ∀ k : Int, ((L.getD p 0).tmod 14 == k) = true → L.getD p 0 % 14 = k := fun k h => by rw [et0] at h; simpa using h
  have hN : ∀ k : Int, ((L.getD p 0).tmod 14 == k) = false → L.getD p 0 % 14 ≠ k := fun k h => by rw [et0] at h; simpa using h
  have et : ∀ k : Int, (L.getD (p + 4) 0).tmod k = L.getD (p + 4) 0 % k := fun k => Int.tmod_eq_emod_of_nonneg u4.1
  have ed : (L.getD (p + 4) 0).tdiv 4 = L.getD (p + 4) 0 / 4 := Int.tdiv_eq_ediv_of_nonneg u4.1
  refine Br.mk (fun g => ?_) (fun n0 => ?_)
  · have g := hE _ g
    have hq : ent L p = { op := 0, fl := flg 0 (L.getD (p + 1) 0), fd := L.getD (p + 2) 0 % 8, user := L.getD (p + 3) 0, count := 0 } := by simp [ent, g, -List.getD_eq_getElem?_getD]
    refine FinOb.mk _ [Vec .nil 5 1 0 []] rfl (fun h k => sat_add vec_emp ((fun h k => sat_nil k) h k)) ⟨.nil, 0, ?_, by rw [hq]; rfl⟩
    have e0' := e0
    have ef' := ef
    rw [g] at e0' ef'
    rw [hq]
    simp only [et0, g, e0', ef', e2, e3, et, ret1, Sq.vals]
    rfl
  have n0 := hN _ n0
  refine Br.mk (fun g => ?_) (fun n5 => ?_)
  · have g := hE _ g
    have hq : ent L p = { op := 5, fl := flg 5 (L.getD (p + 1) 0), fd := L.getD (p + 2) 0 % 8, user := L.getD (p + 3) 0, count := 0 } := by simp [ent, g, -List.getD_eq_getElem?_getD]
    refine FinOb.mk _ [Vec .nil 5 1 0 []] rfl (fun h k => sat_add vec_emp ((fun h k => sat_nil k) h k)) ⟨.nil, 0, ?_, by rw [hq]; rfl⟩
    have e0' := e0
    have ef' := ef
    rw [g] at e0' ef'
    rw [hq]
    simp only [et0, g, e0', ef', e2, e3, et, ret1, Sq.vals]
    rfl
  have n5 := hN _ n5
  refine Br.mk (fun g => ?_) (fun n8 => ?_)
  · have g := hE _ g
    have hq : ent L p = { op := 8, fl := flg 8 (L.getD (p + 1) 0), fd := L.getD (p + 2) 0 % 8, user := L.getD (p + 3) 0, count := 0 } := by simp [ent, g, -List.getD_eq_getElem?_getD]
    refine FinOb.mk _ [Vec .nil 5 1 0 []] rfl (fun h k => sat_add vec_emp ((fun h k => sat_nil k) h k)) ⟨.nil, 0, ?_, by rw [hq]; rfl⟩
    have e0' := e0
    have ef' := ef
    rw [g] at e0' ef'
    rw [hq]
    simp only [et0, g, e0', ef', e2, e3, et, ret1, Sq.vals]
    rfl
  have n8 := hN _ n8
  refine CondOb.split (fun g => ?_) (fun n9 => ?_)
  · have g := hE _ g
    have hq : ent L p = { op := 9, fl := flg 9 (L.getD (p + 1) 0), fd := L.getD (p + 2) 0 % 8, user := L.getD (p + 3) 0, count := 0 } := by simp [ent, g, -List.getD_eq_getElem?_getD]
    refine FinOb.mk _ [Vec .nil 5 1 0 []] rfl (fun h k => sat_add vec_emp ((fun h k => sat_nil k) h k)) ⟨.nil, 0, ?_, by rw [hq]; rfl⟩
    have e0' := e0
    have ef' := ef
    rw [g] at e0' ef'
    rw [hq]
    simp only [et0, g, e0', ef', e2, e3, et, ret1, Sq.vals]
    rfl
  have n9 := hN _ n9
  refine useR (.tuple [.int .i64 (L.getD (p + 4) 0), .raw (left A c L (p + 4 + 1))]) (one_spec A c L (p + 4) hc hb) rfl (fun f' b' hs _ => hA.frame hs) rfl ?_
  refine CondOb.split (fun g => ?_) (fun n1 => ?_)
  · have g := hE _ g
    refine Need.mk (by decide) ?_
    have ec : IntKind.i64.wrap (1 + L.getD (p + 4) 0 % 2) = 1 + L.getD (p + 4) 0 % 2 := w64 (by omega) (by omega)
    have hq : ent L p = { op := 1, fl := flg 1 (L.getD (p + 1) 0), fd := L.getD (p + 2) 0 % 8, user := L.getD (p + 3) 0, count := 1 + L.getD (p + 4) 0 % 2 } := by simp [ent, g, -List.getD_eq_getElem?_getD]
    refine FinOb.mk _ [Vec .nil 5 1 0 []] rfl (fun h k => sat_add vec_emp ((fun h k => sat_nil k) h k)) ⟨.nil, 0, ?_, by rw [hq]; rfl⟩
    have e0' := e0
    have ef' := ef
    rw [g] at e0' ef'
    rw [hq]
    simp only [et0, g, e0', ef', e2, e3, et, ec, ret1, Sq.vals]
    rfl
  have n1 := hN _ n1
  refine CondOb.split (fun g => ?_) (fun n2 => ?_)
  · have g := hE _ g
    have ec : IntKind.u16.wrap (L.getD (p + 4) 0) = L.getD (p + 4) 0 := w16 (by omega) (by omega)
    have hq : ent L p = { op := 2, fl := flg 2 (L.getD (p + 1) 0), fd := L.getD (p + 2) 0 % 8, user := L.getD (p + 3) 0, port := L.getD (p + 4) 0 } := by simp [ent, g, -List.getD_eq_getElem?_getD]
    refine FinOb.mk _ [Vec .nil 5 1 0 []] rfl (fun h k => sat_add vec_emp ((fun h k => sat_nil k) h k)) ⟨.nil, 0, ?_, by rw [hq]; rfl⟩
    have e0' := e0
    have ef' := ef
    rw [g] at e0' ef'
    rw [hq]
    simp only [et0, g, e0', ef', e2, e3, ec, ret1, Sq.vals]
    rfl
  have n2 := hN _ n2
  refine CondOb.split (fun g => ?_) (fun n3 => ?_)
  · have g := hE _ g
    refine Need.mk (by decide) ?_
    have ec : IntKind.i64.wrap (1 + L.getD (p + 4) 0 % 4) = 1 + L.getD (p + 4) 0 % 4 := w64 (by omega) (by omega)
    have hq : ent L p = { op := 3, fl := flg 3 (L.getD (p + 1) 0), fd := L.getD (p + 2) 0 % 8, user := L.getD (p + 3) 0, count := 1 + L.getD (p + 4) 0 % 4 } := by simp [ent, g, -List.getD_eq_getElem?_getD]
    refine FinOb.mk _ [Vec .nil 5 1 0 []] rfl (fun h k => sat_add vec_emp ((fun h k => sat_nil k) h k)) ⟨.nil, 0, ?_, by rw [hq]; rfl⟩
    have e0' := e0
    have ef' := ef
    rw [g] at e0' ef'
    rw [hq]
    simp only [et0, g, e0', ef', e2, e3, et, ec, ret1, Sq.vals]
    rfl
  have n3 := hN _ n3
  refine CondOb.split (fun g => ?_) (fun n4 => ?_)
  · have g := hE _ g
    refine useR (.tuple [.int .i64 (L.getD (p + 5) 0), .raw (left A c L (p + 5 + 1))]) (one_spec A c L (p + 5) hc hb) rfl (fun f' b' hs _ => hA.frame hs) rfl ?_
    refine Need.mk (by decide) ?_
    have ec : IntKind.u32.wrap (IntKind.i64.wrap (167772161 + L.getD (p + 4) 0 % 3)) = 167772161 + L.getD (p + 4) 0 % 3 := by rw [w64 (by omega) (by omega), w32 (by omega) (by omega)]
    have ec5 : IntKind.u16.wrap (L.getD (p + 5) 0) = L.getD (p + 5) 0 := w16 (by omega) (by omega)
    have hq : ent L p = { op := 4, fl := flg 4 (L.getD (p + 1) 0), fd := L.getD (p + 2) 0 % 8, user := L.getD (p + 3) 0, addr := 167772161 + L.getD (p + 4) 0 % 3, port := L.getD (p + 5) 0 } := by simp [ent, g, -List.getD_eq_getElem?_getD]
    refine FinOb.mk _ [Vec .nil 5 1 0 []] rfl (fun h k => sat_add vec_emp ((fun h k => sat_nil k) h k)) ⟨.nil, 0, ?_, by rw [hq]; rfl⟩
    have e0' := e0
    have ef' := ef
    rw [g] at e0' ef'
    rw [hq]
    simp only [et0, g, e0', ef', e2, e3, et, ec, ec5, ret1, Sq.vals]
    rfl
  have n4 := hN _ n4
  refine CondOb.split (fun g => ?_) (fun n6 => ?_)
  · have g := hE _ g
    have hk : ((L.getD (p + 4) 0 % 64).toNat : Int) = L.getD (p + 4) 0 % 64 := by omega
    generalize hkk : (L.getD (p + 4) 0 % 64).toNat = k at hk
    have hk64 : k < 64 := by omega
    have lm : ∀ i, (many (L.getD (p + 4) 0) i).length = i := fun i => by simp [many]
    have e68 : (L.getD (p + 4) 0).tmod 64 = k := by rw [et, hk]
    refine LoopOb.mk { z : Nat × Plc × Nat // z.1 ≤ k ∧ z.1 ≤ z.2.2 } (fun z => ⟨147, [(0, .raw (left A c L (p + 4 + 1))), (2, .ptr 0 0), (8, .ptr 1 0), (9, .int .i64 (L.getD (p + 4) 0)), (12, .int .i64 z.1.1)], [(2, z.1.2.1), (1, .at b2 0), (0, .at b1 0)], 3,
      [.blk 1 102 [.int .u8 (IntKind.u8.wrap ((L.getD p 0).tmod 14)), .int .u8 (IntKind.u8.wrap (flg ((L.getD p 0).tmod 14) (L.getD (p + 1) 0))), .int .i64 ((L.getD (p + 2) 0).tmod 8), .int .u32 0, .int .u16 0, .int .i64 0, .int .i64 0, .int .i64 0, .int .u64 0, .int .u64 (IntKind.u64.wrap (L.getD (p + 3) 0)), .sl 2 0 z.1.1 z.1.2.2],
       .blk 0 102 [.int .u8 0, .int .u8 0, .int .i64 0, .int .u32 0, .int .u16 0, .int .i64 0, .int .i64 0, .int .i64 0, .int .u64 0, .int .u64 0, .nils], .vec 2 5 1 z.1.2.2 (U8.flat (many (L.getD (p + 4) 0) z.1.1))]⟩) (fun z => k - z.1.1) ⟨(0, .nil, 0), by omega, by omega⟩ ?_ ?_
    · exact Le.of rfl ⟨⟨_, rfl, rfl⟩, ⟨_, rfl, rfl⟩, ⟨_, rfl, rfl⟩, ⟨_, rfl, rfl⟩, ⟨_, rfl, rfl⟩, trivial⟩ (fun h k => sat_pick 0 rfl (by first | exact fun _ k => k | exact fun _ k => blk_to rfl rfl k | exact fun _ k => vec_to rfl k | exact fun _ k => blk_of rfl rfl k | exact fun _ k => vec_of rfl k | exact fun _ k => blk_of rfl rfl (blk_to rfl rfl k) | exact fun _ k => vec_of rfl (vec_to rfl k) | exact fun _ k => mp_to rfl k | exact fun _ k => mp_of rfl k | exact fun _ k => mp_of rfl (mp_to rfl k)) (fun h k => sat_pick 0 rfl (by first | exact fun _ k => k | exact fun _ k => blk_to rfl rfl k | exact fun _ k => vec_to rfl k | exact fun _ k => blk_of rfl rfl k | exact fun _ k => vec_of rfl k | exact fun _ k => blk_of rfl rfl (blk_to rfl rfl k) | exact fun _ k => vec_of rfl (vec_to rfl k) | exact fun _ k => mp_to rfl k | exact fun _ k => mp_of rfl k | exact fun _ k => mp_of rfl (mp_to rfl k)) (fun h k => sat_add (vec_of rfl vec_emp) ((fun h k => sat_nil k) h k)) k) k)
    rintro ⟨⟨i, pd, cd⟩, hi, hic⟩
    simp only at hi hic
    refine Need.mk (by decide) ?_
    refine CondOb.split (fun gl => ?_) (fun gl => ?_)
    rotate_left
    · rw [e68] at gl
      simp only [decide_eq_false_iff_not] at gl
      replace gl : ¬ (i : Int) < k := gl
      have ei : i = k := by omega
      subst ei
      have hq : ent L p = { op := 6, fl := flg 6 (L.getD (p + 1) 0), fd := L.getD (p + 2) 0 % 8, user := L.getD (p + 3) 0, data := many (L.getD (p + 4) 0) i } := by
        rw [← hkk]; simp [ent, g, -List.getD_eq_getElem?_getD]
      refine FinOb.mk _ [Vec pd 5 1 cd (U8.flat (many (L.getD (p + 4) 0) i))] rfl (fun h k => sat_pick 2 rfl (fun _ k => vec_to (l := pd) rfl k) (fun h k => sat_nil k) k) ⟨pd, cd, ?_, by rw [hq]⟩
      have e0' := e0
      have ef' := ef
      rw [g] at e0' ef'
      rw [hq]
      simp only [et0, g, e0', ef', e2, e3, ret1, Sq.vals, lm]
      rfl
    rw [e68] at gl
    simp only [decide_eq_true_eq] at gl
    replace gl : (i : Int) < k := gl
    have ei : IntKind.i64.wrap ((i : Int) + 1) = ((i + 1 : Nat) : Int) := by rw [w64 (by omega) (by omega)]; omega
    have eb : IntKind.u8.wrap ((IntKind.i64.wrap (L.getD (p + 4) 0 + i)).tmod 256) = (L.getD (p + 4) 0 + i) % 256 := by rw [w64 (by omega) (by omega), Int.tmod_eq_emod_of_nonneg (by omega), w8 (by omega) (by omega)]
    refine Need.mk (by decide) ?_
    intro b9
    refine StOb.mk [.int .u8 (IntKind.u8.wrap ((IntKind.i64.wrap (L.getD (p + 4) 0 + i)).tmod 256))] rfl (Need.mk rfl ?_)
    refine Need.mk ⟨by rw [lU, lm]; simp, by simp only; omega, hic⟩ ?_
    refine Need.mk ⟨by simp only; omega, by simp only [maxLen]; omega, fun v hv => by simp at hv; subst hv; rfl⟩ ?_
    refine NewSl.pos (by omega) (fun b10 o10 c10 hc10 => ?_)
    refine ⟨⟨(i + 1, .at b10 o10, c10), by simp only; omega, hc10⟩, by show k - (i + 1) < k - i; omega, Le.of rfl ⟨⟨_, rfl, rfl⟩, ⟨_, rfl, rfl⟩, ⟨_, rfl, rfl⟩, ⟨_, rfl, rfl⟩, ⟨_, rfl, congrArg (fun z => some (Value.int .i64 z)) ei⟩, trivial⟩ (fun h k => sat_pick 0 rfl (by first | exact fun _ k => k | exact fun _ k => blk_to rfl rfl k | exact fun _ k => vec_to rfl k | exact fun _ k => blk_of rfl rfl k | exact fun _ k => vec_of rfl k | exact fun _ k => blk_of rfl rfl (blk_to rfl rfl k) | exact fun _ k => vec_of rfl (vec_to rfl k) | exact fun _ k => mp_to rfl k | exact fun _ k => mp_of rfl k | exact fun _ k => mp_of rfl (mp_to rfl k)) (fun h k => sat_pick 2 rfl (by first | exact fun _ k => k | exact fun _ k => blk_to rfl rfl k | exact fun _ k => vec_to rfl k | exact fun _ k => blk_of rfl rfl k | exact fun _ k => vec_of rfl k | exact fun _ k => blk_of rfl rfl (blk_to rfl rfl k) | exact fun _ k => vec_of rfl (vec_to rfl k) | exact fun _ k => mp_to rfl k | exact fun _ k => mp_of rfl k | exact fun _ k => mp_of rfl (mp_to rfl k)) (fun h k => sat_pick 0 rfl (fun _ k => ?_) (fun h k => sat_nil k) k) k) k)⟩
    have k := vec_to (l := .at b10 o10) rfl k
    refine vec_of rfl ?_
    rw [List.drop_zero, List.take_of_length_le (by rw [lU, lm]; simp), eb] at k
    have e : U8.flat (many (L.getD (p + 4) 0) i) ++ [.int .u8 ((L.getD (p + 4) 0 + i) % 256)] = U8.flat (many (L.getD (p + 4) 0) (i + 1)) := by
      simp only [many, List.range_succ, List.map_append, U8.flat_append]; rfl
    rw [e] at k
    exact k
  have n6 := hN _ n6
  refine CondOb.split (fun g => ?_) (fun n7 => ?_)
  · have g := hE _ g
    refine Need.mk (by decide) ?_
    have ec : IntKind.i64.wrap (1 + L.getD (p + 4) 0) = L.getD (p + 4) 0 + 1 := by rw [w64 (by omega) (by omega)]; omega
    have hq : ent L p = { op := 7, fl := flg 7 (L.getD (p + 1) 0), fd := L.getD (p + 2) 0 % 8, user := L.getD (p + 3) 0, len := L.getD (p + 4) 0 + 1, group := L.getD (p + 4) 0 % 2 } := by simp [ent, g, -List.getD_eq_getElem?_getD]
    refine FinOb.mk _ [Vec .nil 5 1 0 []] rfl (fun h k => sat_add vec_emp ((fun h k => sat_nil k) h k)) ⟨.nil, 0, ?_, by rw [hq]; rfl⟩
    have e0' := e0
    have ef' := ef
    rw [g] at e0' ef'
    rw [hq]
    simp only [et0, g, e0', ef', e2, e3, et, ec, ret1, Sq.vals]
    rfl
  have n7 := hN _ n7
  have ec : IntKind.u64.wrap (L.getD (p + 4) 0) = L.getD (p + 4) 0 := wu64 (by omega) (by omega)
  refine CondOb.split (fun g => ?_) (fun n10 => ?_)
  · refine CondOb.split (fun _ => ?_) (fun h => absurd g (by rw [h]; decide))
    have g := hE _ g
    have hq : ent L p = { op := 10, fl := flg 10 (L.getD (p + 1) 0), fd := L.getD (p + 2) 0 % 8, user := L.getD (p + 3) 0, aux := L.getD (p + 4) 0 } := by simp [ent, g, -List.getD_eq_getElem?_getD]
    refine FinOb.mk _ [Vec .nil 5 1 0 []] rfl (fun h k => sat_add vec_emp ((fun h k => sat_nil k) h k)) ⟨.nil, 0, ?_, by rw [hq]; rfl⟩
    have e0' := e0
    have ef' := ef
    rw [g] at e0' ef'
    rw [hq]
    simp only [et0, g, e0', ef', e2, e3, ec, ret1, Sq.vals]
    rfl
  have n10 := hN _ n10
  refine CondOb.split (fun g => ?_) (fun n11 => ?_)
  · refine CondOb.split (fun _ => ?_) (fun h => absurd g (by rw [h]; decide))
    have g := hE _ g
    have hq : ent L p = { op := 11, fl := flg 11 (L.getD (p + 1) 0), fd := L.getD (p + 2) 0 % 8, user := L.getD (p + 3) 0, aux := L.getD (p + 4) 0 } := by simp [ent, g, -List.getD_eq_getElem?_getD]
    refine FinOb.mk _ [Vec .nil 5 1 0 []] rfl (fun h k => sat_add vec_emp ((fun h k => sat_nil k) h k)) ⟨.nil, 0, ?_, by rw [hq]; rfl⟩
    have e0' := e0
    have ef' := ef
    rw [g] at e0' ef'
    rw [hq]
    simp only [et0, g, e0', ef', e2, e3, ec, ret1, Sq.vals]
    rfl
  have n11 := hN _ n11
  refine CondOb.split (fun g => ?_) (fun n12 => ?_)
  · have g := hE _ g
    have hq : ent L p = { op := 12, fl := flg 12 (L.getD (p + 1) 0), fd := L.getD (p + 2) 0 % 8, user := L.getD (p + 3) 0, aux := L.getD (p + 4) 0 } := by simp [ent, g, -List.getD_eq_getElem?_getD]
    refine FinOb.mk _ [Vec .nil 5 1 0 []] rfl (fun h k => sat_add vec_emp ((fun h k => sat_nil k) h k)) ⟨.nil, 0, ?_, by rw [hq]; rfl⟩
    have e0' := e0
    have ef' := ef
    rw [g] at e0' ef'
    rw [hq]
    simp only [et0, g, e0', ef', e2, e3, ec, ret1, Sq.vals]
    rfl
  have n12 := hN _ n12
  refine CondOb.split (fun g => ?_) (fun n13 => ?_)
  · have g := hE _ g
    refine Need.mk (by decide) ?_
    refine Need.mk (by decide) ?_
    refine Need.mk (by decide) ?_
    have ew : IntKind.i64.wrap (L.getD (p + 4) 0 / 4) = L.getD (p + 4) 0 / 4 := w64 (by omega) (by omega)
    have em : (L.getD (p + 4) 0 / 4).tmod 4 = L.getD (p + 4) 0 / 4 % 4 := Int.tmod_eq_emod_of_nonneg (by omega)
    have ec : IntKind.i64.wrap (1 + L.getD (p + 4) 0 / 4 % 4) = 1 + L.getD (p + 4) 0 / 4 % 4 := w64 (by omega) (by omega)
    have hq : ent L p = { op := 13, fl := flg 13 (L.getD (p + 1) 0), fd := L.getD (p + 2) 0 % 8, user := L.getD (p + 3) 0, group := L.getD (p + 4) 0 % 2, count := 1 + L.getD (p + 4) 0 / 4 % 4, len := 32 } := by simp [ent, g, -List.getD_eq_getElem?_getD]
    refine FinOb.mk _ [Vec .nil 5 1 0 []] rfl (fun h k => sat_add vec_emp ((fun h k => sat_nil k) h k)) ⟨.nil, 0, ?_, by rw [hq]; rfl⟩
    have e0' := e0
    have ef' := ef
    rw [g] at e0' ef'
    rw [hq]
    simp only [et0, g, e0', ef', e2, e3, et, ed, ew, em, ec, ret1, Sq.vals]
    rfl
  have n13 := hN _ n13
  exact absurd (op_cases (x := L.getD p 0 % 14) (by omega) (by omega)) (by omega)
end Go.Proofs.Ytlgdagjbphafcaa.Sc
