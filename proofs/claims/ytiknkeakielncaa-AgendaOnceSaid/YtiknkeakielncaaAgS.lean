/- agenda: the reference's Push, Move. Conditions: none. -/
import Derived.Test.YtiknkeakielncaaAgR
namespace Go.Proofs.Ytiknkeakielncaa.Ag
open Go Go.Proofs Sx
set_option maxRecDepth 100000
set_option linter.unusedVariables false
set_option linter.unusedSimpArgs false
set_option maxHeartbeats 4000000

theorem found_find {l : List En} {id r : Int} (h : Found l id r) : (l.find? (fun t => id == t.id)).isSome = decide (0 ≤ r) := by
  rcases h with ⟨rfl, hn⟩ | ⟨i, x, rfl, hx, hid⟩
  · rw [find_none.2 hn]; rfl
  · have : (l.find? (fun t => id == t.id)).isSome = true := by
      rw [List.find?_isSome]; exact ⟨x, List.mem_of_getElem? hx, by simp [hid]⟩
    rw [this, decide_eq_true (by omega)]
theorem ref_push (A : Option Addr) (cp : Nat) (l : List En) (most : Int) (x : En) (hf : (l.length : Int) ≤ most) (hl : l.length ≤ 90000) :
    Does Try.prog 54 #[.slice A l.length cp, .int .i64 most, .agg x.item.toArray] (fun f => Reads f A (TL.flat l)) []
      (fun v p => (v = .tuple #[.slice A l.length cp, .int .i64 (pushC l most x.id)] ∧ pushC l most x.id ≠ 0 ∧ p = []) ∨
        ∃ pl c, pushC l most x.id = 0 ∧ v = .tuple #[.slice (locAddr 0 pl) (l.length + 1) c, .int .i64 0] ∧ l.length + 1 ≤ c ∧ p = [Vec pl 65 3 c (TL.flat (l ++ [x]))]) := by
  refine Does.ofJ Try.func54 Try.call54 rfl [.raw (.slice A l.length cp), .int .i64 most, .agg x.itsv] [] 0 [] rfl rfl (fun h k => k) (fun f hR => ?_)
  intro b5
  refine call_ix (place_spec A cp l x.id (by omega)) rfl [] (fun h k => k) (fun f' b' hs _ => hR.frame hs) ?_
  rintro v p ⟨r, rfl, hp, rfl⟩
  refine ⟨.int .i64 r, _, 1, [], NmExt.refl _, rfl, fun h k => trivial, ?_⟩
  have hfd := found_find hp
  refine CondOb.split (fun g => ?_) (fun g => ?_)
  · have g : r ≥ 0 := of_decide_eq_true g
    have hc : pushC l most x.id = 140 := by unfold pushC; rw [hfd, decide_eq_true g]; rfl
    exact FinOb.mk [.slice A l.length cp, .int .i64 140] [] rfl (fun h k => trivial) (.inl ⟨by rw [hc]; rfl, by rw [hc]; decide, rfl⟩)
  have g : ¬ r ≥ 0 := of_decide_eq_false g
  refine CondOb.split (fun g2 => ?_) (fun g2 => ?_)
  · have g2 : (l.length : Int) ≥ most := of_decide_eq_true g2
    have hc : pushC l most x.id = 5 := by unfold pushC; rw [hfd, decide_eq_false (by omega), if_neg (by decide), if_pos (by omega)]
    exact FinOb.mk [.slice A l.length cp, .int .i64 5] [] rfl (fun h k => trivial) (.inl ⟨by rw [hc]; rfl, by rw [hc]; decide, rfl⟩)
  have g2 : ¬ (l.length : Int) ≥ most := of_decide_eq_false g2
  have hc : pushC l most x.id = 0 := by unfold pushC; rw [hfd, decide_eq_false (by omega), if_neg (by decide), if_neg (by omega)]
  refine DrawOb.mk [(0, [1, 3]), (2, [3]), (4, [1])] (.run [1, 3] (.two 0 (.run [] (.two 2 (.run [4, 5, 6, 7] .nil) 4 (.run [2, 5, 6, 7] .nil))) 4 (.run [0, 2, 5, 6, 7] .nil))) (by kernel_rfl) ?_
  refine ⟨?_, ?_⟩
  · intro b1
    refine Need.mk rfl ?_
    refine ⟨?_, ?_⟩
    · refine SrcF.mk (TL.flat l) (lT l) hR ?_
      refine StOb.mk [] rfl (Need.mk (by simp) (Need.mk ⟨by omega, by simp only [maxLen]; omega, TL.flat_one' _⟩ ?_))
      refine NewSl.any (fun l2 c2 hc2 => ?_)
      refine Need.mk rfl ?_
      intro b3
      conv => whnf
      refine StOb.mk (TL.cells x) rfl (Need.mk rfl ?_)
      refine Need.mk (by simp [lT]; omega) ?_
      refine Need.mk ⟨by omega, by simp only [maxLen]; omega, TL.one _⟩ ?_
      refine NewSl.pos (by omega) (fun b6 o6 c6 hc6 => ?_)
      refine FinOb.mk [.slice (some ⟨b6, o6, none⟩) (0 + l.length + 1) c6, .int .i64 0] [Vec (.at b6 o6) 65 3 c6 (TL.flat (l ++ [x]))] rfl (fun h k => sat_pick 0 rfl (fun _ k9 => ?_) (fun h k => sat_nil k) k) (.inr ⟨.at b6 o6, c6, hc, by simp [ret1, locAddr], by omega, rfl⟩)
      have kk := vec_to (l := .at b6 o6) rfl k9
      have e7 : List.take (l.length * 3) (TL.flat l) = TL.flat l := List.take_of_length_le (by rw [lT]; exact Nat.le_refl _)
      rw [TL.flat_append, TL.flat_one]
      simpa [e7] using kk
    · intro b3
      refine SrcF.mk (TL.flat l) (lT l) hR ?_
      refine StOb.mk [] rfl (Need.mk (by simp) (Need.mk ⟨by omega, by simp only [maxLen]; omega, TL.flat_one' _⟩ ?_))
      refine NewSl.any (fun l2 c2 hc2 => ?_)
      refine Need.mk rfl ?_
      conv => whnf
      refine StOb.mk (TL.cells x) rfl (Need.mk rfl ?_)
      refine Need.mk (by simp [lT]; omega) ?_
      refine Need.mk ⟨by omega, by simp only [maxLen]; omega, TL.one _⟩ ?_
      refine NewSl.pos (by omega) (fun b6 o6 c6 hc6 => ?_)
      refine FinOb.mk [.slice (some ⟨b6, o6, none⟩) (0 + l.length + 1) c6, .int .i64 0] [Vec (.at b6 o6) 65 3 c6 (TL.flat (l ++ [x]))] rfl (fun h k => sat_pick 0 rfl (fun _ k9 => ?_) (fun h k => sat_nil k) k) (.inr ⟨.at b6 o6, c6, hc, by simp [ret1, locAddr], by omega, rfl⟩)
      have kk := vec_to (l := .at b6 o6) rfl k9
      have e7 : List.take (l.length * 3) (TL.flat l) = TL.flat l := List.take_of_length_le (by rw [lT]; exact Nat.le_refl _)
      rw [TL.flat_append, TL.flat_one]
      simpa [e7] using kk
  · conv => whnf
    intro b3
    conv => whnf
    intro b1
    refine Need.mk rfl ?_
    refine SrcF.mk (TL.flat l) (lT l) hR ?_
    refine StOb.mk [] rfl (Need.mk (by simp) (Need.mk ⟨by omega, by simp only [maxLen]; omega, TL.flat_one' _⟩ ?_))
    refine NewSl.any (fun l2 c2 hc2 => ?_)
    refine Need.mk rfl ?_
    conv => whnf
    refine StOb.mk (TL.cells x) rfl (Need.mk rfl ?_)
    refine Need.mk (by simp [lT]; omega) ?_
    refine Need.mk ⟨by omega, by simp only [maxLen]; omega, TL.one _⟩ ?_
    refine NewSl.pos (by omega) (fun b6 o6 c6 hc6 => ?_)
    refine FinOb.mk [.slice (some ⟨b6, o6, none⟩) (0 + l.length + 1) c6, .int .i64 0] [Vec (.at b6 o6) 65 3 c6 (TL.flat (l ++ [x]))] rfl (fun h k => sat_pick 0 rfl (fun _ k9 => ?_) (fun h k => sat_nil k) k) (.inr ⟨.at b6 o6, c6, hc, by simp [ret1, locAddr], by omega, rfl⟩)
    have kk := vec_to (l := .at b6 o6) rfl k9
    have e7 : List.take (l.length * 3) (TL.flat l) = TL.flat l := List.take_of_length_le (by rw [lT]; exact Nat.le_refl _)
    rw [TL.flat_append, TL.flat_one]
    simpa [e7] using kk
end Go.Proofs.Ytiknkeakielncaa.Ag
