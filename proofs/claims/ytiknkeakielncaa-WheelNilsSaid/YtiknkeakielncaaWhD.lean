/- wheel: a timer is hung. Conditions: none. -/
import Derived.Test.YtiknkeakielncaaWhC
namespace Go.Proofs.Ytiknkeakielncaa.Wh
open Go Go.Proofs Sx
set_option maxRecDepth 100000
set_option linter.unusedVariables false
set_option linter.unusedSimpArgs false
set_option maxHeartbeats 4000000

theorem cells_spoke {w : W} {i : Nat} {s : Sp} (hil : i < w.S.length) : ({ w with S := w.S.set i s } : W).cells = putV w.cells (3 + i) [s.val] := by
  show _ = w.cells.set (3 + i) s.val
  unfold W.cells
  rw [show 3 + i = i + 1 + 1 + 1 by omega, List.set_cons_succ, List.set_cons_succ, List.set_cons_succ, List.set_append_left _ _ (by simpa using hil), List.map_set]
theorem vs_out {S : List Sp} {i : Nat} {s : Sp} (h : S[i]? = some s) {As : List Asn} {y : HP} (k : sat (Vs S :: As) y) : sat (s.vec :: Alls ((S.map Sp.vec).eraseIdx i) :: As) y :=
  alls_pick i (by rw [List.getElem?_map, h]; rfl) k
theorem vs_in {S : List Sp} {i : Nat} (hi : i < S.length) (s : Sp) (h : HP) (k : sat [s.vec, Alls ((S.map Sp.vec).eraseIdx i)] h) : Vs (S.set i s) h := by
  unfold Vs
  rw [List.map_set]
  exact alls_put i (by simpa using hi) h k
/-- What hang makes of a wheel. -/
def Hung (w : W) (t : T) (w' : W) : Prop :=
  (t.at_ ≤ w.now ∧ ∃ s : Sp, w' = { w with late := s } ∧ s.l = w.late.l ++ [t] ∧ s.l.length ≤ s.cap) ∨
  (w.now < t.at_ ∧ ∃ s0 s : Sp, w.S[ix w.now t.at_]? = some s0 ∧ w' = { w with S := w.S.set (ix w.now t.at_) s } ∧ s.l = s0.l ++ [t] ∧ s.l.length ≤ s.cap)
theorem hang_spec (b : Nat) (w : W) (t : T) (hl : w.S.length = 448) (n0 : 0 ≤ w.now) (n1 : w.now ≤ Big) (x0 : 0 ≤ t.at_) (x1 : t.at_ ≤ Big) (few : w.late.l.length ≤ 100000 ∧ ∀ s ∈ w.S, s.l.length ≤ 100000) (hcap : w.late.l.length ≤ w.late.cap ∧ ∀ s ∈ w.S, s.l.length ≤ s.cap) :
    Does Try.prog 64 #[.pointer (some ⟨b, 0, none⟩), .agg t.vals.toArray] (fun _ => True) [Hd b w, Vs w.S, w.late.vec] (fun v p => ∃ w', v = .tuple #[] ∧ Hung w t w' ∧ p = [Hd b w', Vs w'.S, w'.late.vec]) := by
  have rnow : ∀ h, Hd b w h → fcell h b (0 + 0) = some (.int .i64 w.now) := fun h k => hd_cell (j := 0) rfl h k
  by_cases hat : t.at_ ≤ w.now
  · refine Does.ofJ Try.func64 Try.call64 rfl [.raw (.pointer (some ⟨b, 0, none⟩)), .agg t.svs] [(0, w.late.pl)] 1 [.asn (Hd b w), .asn (Vs w.S), .vec 0 126 3 w.late.cap (TL.flat w.late.l)] rfl rfl (fun h k => sat_pick 0 rfl (by first | exact fun _ k => k | exact fun _ k => blk_to rfl rfl k | exact fun _ k => vec_to rfl k | exact fun _ k => blk_of rfl rfl k | exact fun _ k => vec_of rfl k | exact fun _ k => blk_of rfl rfl (blk_to rfl rfl k) | exact fun _ k => vec_of rfl (vec_to rfl k) | exact fun _ k => mp_to rfl k | exact fun _ k => mp_of rfl k | exact fun _ k => mp_of rfl (mp_to rfl k)) (fun h k => sat_pick 0 rfl (by first | exact fun _ k => k | exact fun _ k => blk_to rfl rfl k | exact fun _ k => vec_to rfl k | exact fun _ k => blk_of rfl rfl k | exact fun _ k => vec_of rfl k | exact fun _ k => blk_of rfl rfl (blk_to rfl rfl k) | exact fun _ k => vec_of rfl (vec_to rfl k) | exact fun _ k => mp_to rfl k | exact fun _ k => mp_of rfl k | exact fun _ k => mp_of rfl (mp_to rfl k)) (fun h k => sat_pick 0 rfl (fun _ k => vec_of rfl k) (fun h k => sat_nil k) k) k) k) (fun f hR => ?_)
    intro b3
    refine DrawOb.mk [] (.run [0, 1, 2, 3, 4, 5, 6] .nil) (by kernel_rfl) ?_
    refine RdRaw.told (.int .i64 w.now) _ rfl (fun h k => sat_cell 1 rfl rnow k) ?_
    refine CondOb.split (fun _ => ?_) (fun g => absurd hat (of_decide_eq_false g))
    refine DrawOb.mk [(6, [0, 1, 2, 3, 4]), (7, [0])] (.run [0, 1, 2, 3, 4, 5, 6, 7, 8, 9, 10] .nil) (by kernel_rfl) ?_
    refine RdRaw.told (.sl 0 0 w.late.l.length w.late.cap) _ rfl (fun h k => sat_cell 1 rfl (fun x kx => hd_cell (j := 2) rfl x kx) k) ?_
    intro b7
    refine RdRaw.told (.sl 0 0 w.late.l.length w.late.cap) _ rfl (fun h k => sat_cell 2 rfl (fun x kx => hd_cell (j := 2) rfl x kx) k) ?_
    refine Need.mk rfl ?_
    have hF := lT w.late.l
    have hcl := hcap.1
    refine StOb.mk (TL.cells t) rfl (Need.mk rfl ?_)
    refine Need.mk ⟨by rw [hF]; omega, by omega, hcl⟩ ?_
    refine Need.mk ⟨by omega, by simp only [maxLen]; omega, TL.one _⟩ ?_
    refine NewSl.pos (by omega) (fun b6 o6 c6 hc6 => ?_)
    have hfl : List.take (w.late.l.length * 3) (List.drop 0 (TL.flat w.late.l)) ++ TL.cells t = TL.flat (w.late.l ++ [t]) := by
      rw [List.drop_zero, List.take_of_length_le (by rw [hF]; exact Nat.le_refl _), TL.flat_append, TL.flat_one]
    have hln : (w.late.l ++ [t]).length = w.late.l.length + 1 := by simp
    have hval : (Sp.mk (.at b6 o6) c6 (w.late.l ++ [t])).val = .slice (some ⟨b6, o6, none⟩) (w.late.l.length + 1) c6 := by unfold Sp.val; rw [hln]; rfl
    refine StRaw.on 3 (Hd b { w with late := ⟨.at b6 o6, c6, w.late.l ++ [t]⟩ }) [.slice (some ⟨b6, o6, none⟩) (w.late.l.length + 1) c6] rfl rfl (fun y ky => ?_) ?_
    · rw [← hval]
      exact hd_store (w' := { w with late := ⟨.at b6 o6, c6, w.late.l ++ [t]⟩ }) (j := 2) hl (by omega) rfl y ky
    refine FinOb.mk [] [Hd b { w with late := ⟨.at b6 o6, c6, w.late.l ++ [t]⟩ }, Vs w.S, Sp.vec ⟨.at b6 o6, c6, w.late.l ++ [t]⟩] rfl (fun h k => sat_pick 3 rfl (by first | exact fun _ k => k | exact fun _ k => blk_to rfl rfl k | exact fun _ k => vec_to rfl k | exact fun _ k => blk_of rfl rfl k | exact fun _ k => vec_of rfl k | exact fun _ k => blk_of rfl rfl (blk_to rfl rfl k) | exact fun _ k => vec_of rfl (vec_to rfl k) | exact fun _ k => mp_to rfl k | exact fun _ k => mp_of rfl k | exact fun _ k => mp_of rfl (mp_to rfl k)) (fun h k => sat_pick 3 rfl (by first | exact fun _ k => k | exact fun _ k => blk_to rfl rfl k | exact fun _ k => vec_to rfl k | exact fun _ k => blk_of rfl rfl k | exact fun _ k => vec_of rfl k | exact fun _ k => blk_of rfl rfl (blk_to rfl rfl k) | exact fun _ k => vec_of rfl (vec_to rfl k) | exact fun _ k => mp_to rfl k | exact fun _ k => mp_of rfl k | exact fun _ k => mp_of rfl (mp_to rfl k)) (fun h k => sat_pick 0 rfl (fun _ k => ?_) (fun h k => sat_nil k) k) k) k) ⟨_, rfl, .inl ⟨hat, _, rfl, rfl, by rw [hln]; exact hc6⟩, rfl⟩
    have k := vec_to (l := .at b6 o6) rfl k
    rw [hfl] at k
    exact k
  · have hat : w.now < t.at_ := by omega
    have hil : ix w.now t.at_ < w.S.length := by rw [hl]; exact ix_lt _ _
    have hix := List.getElem?_eq_getElem hil
    generalize w.S[ix w.now t.at_] = s0 at hix
    have hsm := List.mem_of_getElem? hix
    refine Does.ofJ Try.func64 Try.call64 rfl [.raw (.pointer (some ⟨b, 0, none⟩)), .agg t.svs] [(0, s0.pl)] 1 [.asn (Hd b w), .vec 0 126 3 s0.cap (TL.flat s0.l), .asn (Alls ((w.S.map Sp.vec).eraseIdx (ix w.now t.at_))), .asn w.late.vec] rfl rfl (fun h k => ?_) (fun f hR => ?_)
    · refine sat_cons (fun _ k => k) (fun h k => ?_) k
      exact sat_head (fun _ k => vec_of rfl k) (vs_out hix k)
    intro b3
    refine DrawOb.mk [] (.run [0, 1, 2, 3, 4, 5, 6] .nil) (by kernel_rfl) ?_
    refine RdRaw.told (.int .i64 w.now) _ rfl (fun h k => sat_cell 1 rfl rnow k) ?_
    refine CondOb.split (fun g => absurd (of_decide_eq_true g) (by omega)) (fun _ => ?_)
    refine useA [_] [_, _, _] (.int .i64 (hi w.now t.at_)) (wheel_spec b w t.at_ n0 n1 x0 x1) rfl rfl rfl ?_
    have hk := hi_lt w.now t.at_
    obtain ⟨d0, d1⟩ := dig_range t.at_ (hi w.now t.at_)
    refine DrawOb.mk [(5, [0, 1, 6, 7, 8])] (.run [0, 1, 2, 3, 4, 6, 7, 8, 5, 9, 10] .nil) (by kernel_rfl) ?_
    refine Need.mk ⟨by omega, by omega⟩ ?_
    refine useP (.int .i64 (dig t.at_ (hi w.now t.at_))) (spoke_spec t.at_ (hi w.now t.at_) x0 x1 (by omega)) rfl rfl ?_
    refine Need.mk ⟨by omega, by omega⟩ ?_
    refine DrawOb.mk [(5, [0, 1, 2, 3]), (6, [0])] (.run [0, 1, 2, 3, 4, 5, 6, 7, 8] .nil) (by kernel_rfl) ?_
    have hoff : 0 + 3 + ((hi w.now t.at_ : Nat) : Int).toNat * 64 + (dig t.at_ (hi w.now t.at_)).toNat * 1 = 3 + ix w.now t.at_ := by unfold ix; omega
    have rsl : ∀ h, Hd b w h → fcell h b (0 + 3 + ((hi w.now t.at_ : Nat) : Int).toNat * 64 + (dig t.at_ (hi w.now t.at_)).toNat * 1) = some (.slice (locAddr 0 s0.pl) s0.l.length s0.cap) := fun h k => by
      rw [hoff]; exact hd_cell (spoke_cell hix) h k
    refine RdRaw.told (.sl 0 0 s0.l.length s0.cap) _ rfl (fun h k => sat_cell 1 rfl rsl k) ?_
    intro b7
    refine RdRaw.told (.sl 0 0 s0.l.length s0.cap) _ rfl (fun h k => sat_cell 2 rfl rsl k) ?_
    refine Need.mk rfl ?_
    have hF := lT s0.l
    have hcl := hcap.2 s0 hsm
    have hfw := few.2 s0 hsm
    refine StOb.mk (TL.cells t) rfl (Need.mk rfl ?_)
    refine Need.mk ⟨by rw [hF]; omega, by omega, hcl⟩ ?_
    refine Need.mk ⟨by omega, by simp only [maxLen]; omega, TL.one _⟩ ?_
    refine NewSl.pos (by omega) (fun b6 o6 c6 hc6 => ?_)
    have hfl : List.take (s0.l.length * 3) (List.drop 0 (TL.flat s0.l)) ++ TL.cells t = TL.flat (s0.l ++ [t]) := by
      rw [List.drop_zero, List.take_of_length_le (by rw [hF]; exact Nat.le_refl _), TL.flat_append, TL.flat_one]
    have hln : (s0.l ++ [t]).length = s0.l.length + 1 := by simp
    have hval : (Sp.mk (.at b6 o6) c6 (s0.l ++ [t])).val = .slice (some ⟨b6, o6, none⟩) (s0.l.length + 1) c6 := by unfold Sp.val; rw [hln]; rfl
    refine StRaw.on 3 (Hd b { w with S := w.S.set (ix w.now t.at_) ⟨.at b6 o6, c6, s0.l ++ [t]⟩ }) [.slice (some ⟨b6, o6, none⟩) (s0.l.length + 1) c6] rfl rfl (fun y ky => ?_) ?_
    · rw [← hval, hoff]
      exact hd_store (j := 3 + ix w.now t.at_) hl (by have := ix_lt w.now t.at_; omega) (cells_spoke hil) y ky
    refine FinOb.mk [] [Hd b { w with S := w.S.set (ix w.now t.at_) ⟨.at b6 o6, c6, s0.l ++ [t]⟩ }, Vs (w.S.set (ix w.now t.at_) ⟨.at b6 o6, c6, s0.l ++ [t]⟩), w.late.vec] rfl
      (fun h k => sat_pick 3 rfl (by first | exact fun _ k => k | exact fun _ k => blk_to rfl rfl k | exact fun _ k => vec_to rfl k | exact fun _ k => blk_of rfl rfl k | exact fun _ k => vec_of rfl k | exact fun _ k => blk_of rfl rfl (blk_to rfl rfl k) | exact fun _ k => vec_of rfl (vec_to rfl k) | exact fun _ k => mp_to rfl k | exact fun _ k => mp_of rfl k | exact fun _ k => mp_of rfl (mp_to rfl k)) (fun h k => sat_pick2 0 2 rfl rfl (fun h k => vs_in hil _ h (sat_cons (fun _ k => ?_) (fun _ k => k) k)) (fun h k => sat_pick 2 rfl (by first | exact fun _ k => k | exact fun _ k => blk_to rfl rfl k | exact fun _ k => vec_to rfl k | exact fun _ k => blk_of rfl rfl k | exact fun _ k => vec_of rfl k | exact fun _ k => blk_of rfl rfl (blk_to rfl rfl k) | exact fun _ k => vec_of rfl (vec_to rfl k) | exact fun _ k => mp_to rfl k | exact fun _ k => mp_of rfl k | exact fun _ k => mp_of rfl (mp_to rfl k)) (fun h k => sat_nil k) k) k) k) ⟨_, rfl, .inr ⟨hat, s0, _, hix, rfl, rfl, by rw [hln]; exact hc6⟩, rfl⟩
    have k := vec_to (l := .at b6 o6) rfl k
    rw [hfl] at k
    exact k
end Go.Proofs.Ytiknkeakielncaa.Wh
