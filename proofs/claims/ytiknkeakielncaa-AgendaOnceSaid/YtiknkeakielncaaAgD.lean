/- agenda: heaps, plain. Conditions: none. -/
import Derived.Test.YtiknkeakielncaaAgC
namespace Go.Proofs.Ytiknkeakielncaa.Ag
open Go Go.Proofs Sx
set_option maxRecDepth 100000
set_option linter.unusedVariables false
set_option linter.unusedSimpArgs false
set_option maxHeartbeats 4000000

theorem cmpI_cases (x y : Int) : (cmpI x y = -1 ∧ x < y) ∨ (cmpI x y = 1 ∧ y < x) ∨ (cmpI x y = 0 ∧ x = y) := by
  unfold cmpI
  split
  · exact .inl ⟨rfl, by assumption⟩
  · split
    · exact .inr (.inl ⟨rfl, by assumption⟩)
    · exact .inr (.inr ⟨rfl, by omega⟩)
theorem orI3 (a b c : Int) : orI [a, b, c] = if a ≠ 0 then a else if b ≠ 0 then b else c := by
  unfold orI
  by_cases ha : a = 0
  · by_cases hb : b = 0
    · by_cases hc : c = 0
      · simp [ha, hb, hc]
      · simp [ha, hb, hc]
    · simp [ha, hb]
  · simp [ha]
def LtE (x y : En) : Prop := x.at_ < y.at_ ∨ (x.at_ = y.at_ ∧ (x.rank < y.rank ∨ (x.rank = y.rank ∧ x.no < y.no)))
theorem ltE_iff {x y : En} : ltE x y = true ↔ LtE x y := by
  unfold ltE cfE LtE
  rw [decide_eq_true_eq, orI3]
  rcases cmpI_cases x.at_ y.at_ with ⟨h1, h2⟩ | ⟨h1, h2⟩ | ⟨h1, h2⟩ <;> rw [h1]
  · simp; omega
  · simp; omega
  · rcases cmpI_cases x.rank y.rank with ⟨h3, h4⟩ | ⟨h3, h4⟩ | ⟨h3, h4⟩ <;> rw [h3]
    · simp; omega
    · simp; omega
    · rcases cmpI_cases x.no y.no with ⟨h5, h6⟩ | ⟨h5, h6⟩ | ⟨h5, h6⟩ <;> rw [h5] <;> simp <;> omega
def LeE (x y : En) : Prop := ¬ LtE y x
theorem ltE_no {x y : En} : ltE x y = false ↔ LeE y x := by
  rw [Bool.eq_false_iff, ne_eq, ltE_iff]; rfl
theorem LeE.trans {x y z : En} (h : LeE x y) (k : LeE y z) : LeE x z := by
  unfold LeE LtE at *; omega
theorem LtE.le {x y : En} (h : LtE x y) : LeE x y := by
  unfold LeE LtE at *; omega
theorem LeE.refl (x : En) : LeE x x := by unfold LeE LtE; omega
/-! ### Heaps -/
def par (k : Nat) : Nat := (k - 1) / 2
/-- All is in order but, perhaps, what 'ex' tells. -/
def Ord (H : List En) (n : Nat) (ex : Nat → Prop) : Prop := ∀ (k : Nat) (x y : En), 0 < k → k < n → ¬ ex k → H[k]? = some x → H[par k]? = some y → LeE y x
def Bridge (H : List En) (n j : Nat) : Prop := ∀ (k : Nat) (x y : En), 0 < k → k < n → par k = j → 0 < j → H[k]? = some x → H[par j]? = some y → LeE y x
abbrev Heap (H : List En) (n : Nat) : Prop := Ord H n (fun _ => False)
structure UpOK (H : List En) (n j : Nat) : Prop where
  ord : Ord H n (fun k => k = j)
  br : Bridge H n j
structure FxOK (H : List En) (n i : Nat) : Prop where
  ord : Ord H n (fun k => k = i ∨ par k = i)
  br : Bridge H n i
theorem swap_get {H : List En} {i j : Nat} {x y : En} (hi : H[i]? = some x) (hj : H[j]? = some y) (k : Nat) : (swapE H i j x y)[k]? = if k = j then some x else if k = i then some y else H[k]? := by
  have hil := (List.getElem?_eq_some_iff.1 hi).1
  have hjl := (List.getElem?_eq_some_iff.1 hj).1
  unfold swapE
  by_cases e1 : k = j
  · subst e1
    rw [if_pos rfl, List.getElem?_set, if_pos rfl, if_pos (by simpa using hjl)]
  · rw [if_neg e1, List.getElem?_set, if_neg (fun q => e1 q.symm)]
    by_cases e2 : k = i
    · subst e2
      rw [if_pos rfl, List.getElem?_set, if_pos rfl, if_pos hil]
    · rw [if_neg e2, List.getElem?_set, if_neg (fun q => e2 q.symm)]
theorem par_lt {k : Nat} (h : 0 < k) : par k < k := by unfold par; omega
theorem up_step {H : List En} {n j : Nat} {x y : En} (h : UpOK H n j) (j0 : 0 < j) (jn : j < n) (hx : H[j]? = some x) (hy : H[par j]? = some y) (hlt : LtE x y) : UpOK (swapE H (par j) j y x) n (par j) := by
  have hpj := par_lt j0
  refine ⟨fun k u v k0 kn kp hu hv => ?_, fun k u v k0 kn kp p0 hu hv => ?_⟩
  · rw [swap_get hy hx] at hu hv
    by_cases e1 : k = j
    · subst e1
      rw [if_pos rfl] at hu; cases hu
      rw [if_neg (by omega), if_pos rfl] at hv; cases hv
      exact hlt.le
    · rw [if_neg e1, if_neg kp] at hu
      by_cases e2 : par k = j
      · rw [if_pos e2] at hv; cases hv
        exact h.br k u _ k0 kn e2 j0 hu hy
      · rw [if_neg e2] at hv
        by_cases e3 : par k = par j
        · rw [if_pos e3] at hv; cases hv
          exact hlt.le.trans (h.ord k u y k0 kn e1 hu (by rw [e3]; exact hy))
        · rw [if_neg e3] at hv
          exact h.ord k u v k0 kn e1 hu hv
  · rw [swap_get hy hx] at hu hv
    have hpp := par_lt p0
    rw [if_neg (by omega), if_neg (by omega)] at hv
    have hvy : LeE v y := h.ord (par j) y v p0 (by omega) (by omega) hy hv
    by_cases e1 : k = j
    · rw [if_pos e1] at hu; cases hu; exact hvy
    · rw [if_neg e1, if_neg (by have := par_lt k0; omega)] at hu
      exact hvy.trans (h.ord k u y k0 kn e1 hu (by rw [kp]; exact hy))
theorem up_end {H : List En} {n j : Nat} (h : UpOK H n j) (hj : 0 < j → ∀ x y, H[j]? = some x → H[par j]? = some y → LeE y x) : Heap H n := fun k x y k0 kn _ hx hy => by
  by_cases e : k = j
  · subst e; exact hj k0 x y hx hy
  · exact h.ord k x y k0 kn e hx hy
theorem down_step {H : List En} {n i j : Nat} {x y : En} (h : FxOK H n i) (hj : par j = i) (j0 : 0 < j) (jn : j < n) (hx : H[i]? = some x) (hy : H[j]? = some y) (hlt : LtE y x) (hmin : ∀ (k : Nat) (z : En), 0 < k → k < n → par k = i → H[k]? = some z → LeE y z) :
    FxOK (swapE H i j x y) n j ∧ ∀ (u v : En), 0 < i → (swapE H i j x y)[i]? = some u → (swapE H i j x y)[par i]? = some v → LeE v u := by
  have hij : i < j := by rw [← hj]; exact par_lt j0
  refine ⟨⟨fun k u v k0 kn kp hu hv => ?_, fun k u v k0 kn kp p0 hu hv => ?_⟩, fun u v i0 hu hv => ?_⟩
  · rw [swap_get hx hy] at hu hv
    have k1 : k ≠ j := fun e => kp (.inl e)
    have k2 : par k ≠ j := fun e => kp (.inr e)
    rw [if_neg k1] at hu
    rw [if_neg k2] at hv
    by_cases e1 : k = i
    · subst e1
      rw [if_pos rfl] at hu; cases hu
      rw [if_neg (by have := par_lt k0; omega)] at hv
      exact h.br j _ v j0 jn hj k0 hy hv
    · rw [if_neg e1] at hu
      by_cases e2 : par k = i
      · rw [if_pos e2] at hv; cases hv
        exact hmin k u k0 kn e2 hu
      · rw [if_neg e2] at hv
        exact h.ord k u v k0 kn (by rintro (q | q); exact e1 q; exact e2 q) hu hv
  · rw [swap_get hx hy] at hu hv
    have := par_lt k0
    rw [if_neg (by omega), if_neg (by omega)] at hu
    rw [hj, if_neg (by omega), if_pos rfl] at hv; cases hv
    exact h.ord k u _ k0 kn (by rintro (q | q) <;> omega) hu (by rw [kp]; exact hy)
  · rw [swap_get hx hy] at hu hv
    rw [if_neg (by omega), if_pos rfl] at hu; cases hu
    have := par_lt i0
    rw [if_neg (by omega), if_neg (by omega)] at hv
    exact h.br j _ v j0 jn hj i0 hy hv
theorem fx_up {H : List En} {n i : Nat} {x : En} (h : FxOK H n i) (hx : H[i]? = some x) (hc : ∀ (k : Nat) (z : En), 0 < k → k < n → par k = i → H[k]? = some z → LeE x z) : UpOK H n i :=
  ⟨fun k u v k0 kn ki hu hv => by
    by_cases e : par k = i
    · rw [e, hx] at hv; cases hv; exact hc k u k0 kn e hu
    · exact h.ord k u v k0 kn (by rintro (q | q); exact ki q; exact e q) hu hv, h.br⟩
theorem heap_fix {H : List En} {n i : Nat} (h : Heap H n) (e : En) : FxOK (H.set i e) n i := by
  refine ⟨fun k u v k0 kn kp hu hv => ?_, fun k u v k0 kn kp i0 hu hv => ?_⟩
  · rw [List.getElem?_set, if_neg (fun q => kp (.inl q.symm))] at hu
    rw [List.getElem?_set, if_neg (fun q => kp (.inr q.symm))] at hv
    exact h k u v k0 kn (fun q => q) hu hv
  · have h1 := par_lt i0
    have h2 := par_lt k0
    rw [List.getElem?_set, if_neg (by omega)] at hu
    rw [List.getElem?_set, if_neg (by omega)] at hv
    cases hm : H[i]? with
    | none =>
      have := List.getElem?_eq_none_iff.1 hm
      have := (List.getElem?_eq_some_iff.1 hu).1
      omega
    | some m =>
      exact (h i m v i0 (by omega) (fun q => q) hm hv).trans (h k u m k0 kn (fun q => q) hu (by rw [kp]; exact hm))
theorem heap_top {H : List En} {n : Nat} (h : Heap H n) (hn : n ≤ H.length) {x : En} (hx : H[0]? = some x) : ∀ (k : Nat) (y : En), k < n → H[k]? = some y → LeE x y := by
  intro k
  induction k using Nat.strongRecOn with
  | ind k ih =>
    intro y kn hy
    by_cases e : k = 0
    · subst e; rw [hx] at hy; cases hy; exact LeE.refl _
    · have hp := par_lt (k := k) (by omega)
      have hq := List.getElem?_eq_getElem (show par k < H.length by omega)
      exact (ih (par k) hp _ (by omega) hq).trans (h k y _ (by omega) kn (fun q => q) hy hq)
end Go.Proofs.Ytiknkeakielncaa.Ag
