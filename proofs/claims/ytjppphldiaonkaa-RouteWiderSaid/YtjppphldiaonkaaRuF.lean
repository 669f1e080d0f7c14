/- route: RouteWider, walked. Conditions: none. -/
import Derived.Test.YtjppphldiaonkaaRuE
namespace Go.Proofs.Ytjppphldiaonkaa.Rt
open Go Go.Proofs Sx
set_option maxRecDepth 100000
set_option linter.unusedVariables false
set_option linter.unusedSimpArgs false
set_option maxHeartbeats 4000000

/-- The list behind a tree to which a way was added. -/
theorem rt_after {T T' : List Nd} {l : List R} {n n' : Nat} {x : R} {e : Int} (h : RT T l n) (ht : TAdd T n x e T' n') :
    ∃ l', RT T' l' n' ∧ ((e ≠ 0 ∧ l' = l) ∨ (e = 0 ∧ ∀ w, w ∈ l' ↔ (w ∈ l ∧ key x w = false) ∨ w = x)) := by
  cases ht with
  | bad => exact ⟨l, h, .inl ⟨by decide, rfl⟩⟩
  | full => exact ⟨l, h, .inl ⟨by decide, rfl⟩⟩
  | set _ ht y hy hk hm =>
    obtain ⟨i, hi, e⟩ := List.getElem_of_mem ((h.mem y).2 hy)
    have hy' : l[i]? = some y := by rw [List.getElem?_eq_getElem hi, e]
    refine ⟨l.set i x, ⟨fun w => by rw [mem_set_key h.nd hy' hk, hm, h.mem], pairwise_set h.nd hy' hk, by rw [List.length_set]; exact h.len⟩, .inr ⟨rfl, fun w => mem_set_key h.nd hy' hk w⟩⟩
  | new _ ht hno hl hm =>
    have hnl : ∀ y ∈ l, key x y = false := fun y hy => hno y ((h.mem y).1 hy)
    refine ⟨l ++ [x], ⟨fun w => by rw [hm, List.mem_append, List.mem_singleton, h.mem], ?_, by simp [h.len]⟩, .inr ⟨rfl, fun w => ?_⟩⟩
    · rw [List.pairwise_append]
      refine ⟨h.nd, by simp, fun y hy z hz => ?_⟩
      simp only [List.mem_singleton] at hz
      subst hz
      rw [key_comm]; exact hnl y hy
    · rw [List.mem_append, List.mem_singleton]
      constructor
      · rintro (hw | rfl)
        · exact .inl ⟨hw, hnl w hw⟩
        · exact .inr rfl
      · rintro (⟨hw, _⟩ | rfl)
        · exact .inl hw
        · exact .inr rfl
theorem find1_cases (W : List R) : (W = [] ∧ find1 W = (⟨0, 0, 0, 0, 0⟩, 6)) ∨ ∃ x W', W = x :: W' ∧ find1 W = (x, 0) := by
  cases W with
  | nil => exact .inl ⟨rfl, rfl⟩
  | cons x W => exact .inr ⟨x, W, rfl, rfl⟩
theorem wider_law {W W' : List R} {x : R} (sW : W.Pairwise (fun x y => narrow x y = true)) (sW' : W'.Pairwise (fun x y => narrow x y = true)) (ld : R → Prop) (hld : ∀ y w, key y w = true → (ld y ↔ ld w)) (hl : ∀ w ∈ W, ld w)
    (hm : ∀ w, w ∈ W' ↔ ((w ∈ W ∧ key x w = false) ∨ w = x) ∧ ld w) :
    if (find1 W).2 = 0 ∧ (find1 W).1.bits ≤ x.bits then (find1 W').2 = 0 ∧ ((find1 W').1 = (find1 W).1 ∨ (find1 W').1 = x)
    else ((find1 W).2 ≠ 0 ∧ ((find1 W').2 ≠ 0 ∨ (find1 W').1 = x)) ∨ ((find1 W').1 = (find1 W).1 ∧ (find1 W).2 = (find1 W').2) := by
  have min : ∀ {V : List R} {y : R} {V' : List R}, V.Pairwise (fun x y => narrow x y = true) → V = y :: V' → ∀ w ∈ V, w = y ∨ narrow y w = true := fun {V y V'} sv e w hw => by
    subst e
    rw [List.pairwise_cons] at sv
    rcases List.mem_cons.1 hw with rfl | hw
    · exact .inl rfl
    · exact .inr (sv.1 w hw)
  rcases find1_cases W with ⟨e1, f1⟩ | ⟨was, V, e1, f1⟩
  · rw [f1, if_neg (by intro h; cases h.1)]
    left
    refine ⟨by decide, ?_⟩
    rcases find1_cases W' with ⟨e2, f2⟩ | ⟨is, V', e2, f2⟩
    · rw [f2]; exact .inl (by decide)
    · rw [f2]
      right
      have := (hm is).1 (by rw [e2]; simp)
      rcases this with ⟨⟨h, _⟩ | h, _⟩
      · rw [e1] at h; simp at h
      · exact h
  · rw [f1]
    have hwas : was ∈ W := by rw [e1]; simp
    have minW := min sW e1
    have hne : W' ≠ [] := fun e => by
      cases hk : key x was with
      | false =>
        have := (hm was).2 ⟨.inl ⟨hwas, hk⟩, hl was hwas⟩
        rw [e] at this; simp at this
      | true =>
        have := (hm x).2 ⟨.inr rfl, (hld x was hk).2 (hl was hwas)⟩
        rw [e] at this; simp at this
    rcases find1_cases W' with ⟨e2, f2⟩ | ⟨is, V', e2, f2⟩
    · exact absurd e2 hne
    rw [f2]
    have minW' := min sW' e2
    have his := (hm is).1 (by rw [e2]; simp)
    have eq_of : is ∈ W → key x was = false → is = was := fun h hk => by
      have h2 := (hm was).2 ⟨.inl ⟨hwas, hk⟩, hl was hwas⟩
      rcases minW is h with h3 | h3
      · exact h3
      · rcases minW' was h2 with h4 | h4
        · exact h4.symm
        · rw [narrow_as _ _ h3] at h4; cases h4
    by_cases hb : was.bits ≤ x.bits
    · rw [if_pos ⟨rfl, hb⟩]
      refine ⟨rfl, ?_⟩
      rcases his with ⟨⟨h, hk⟩ | h, _⟩
      · cases hkw : key x was with
        | false => exact .inl (eq_of h hkw)
        | true =>
          have hx := (hm x).2 ⟨.inr rfl, (hld x was hkw).2 (hl was hwas)⟩
          have hkw2 := key_iff.1 hkw
          rcases minW' x hx with h4 | h4
          · exact .inr h4.symm
          · rcases minW is h with h3 | h3
            · exact .inl h3
            · have h5 : narrow is was = true := by
                unfold narrow at h4 ⊢
                rw [hkw2.2.1, hkw2.2.2]; exact h4
              rw [narrow_as _ _ h3] at h5; cases h5
      · exact .inr h
    · rw [if_neg (fun h => hb h.2)]
      right
      refine ⟨?_, rfl⟩
      have hkw : key x was = false := by
        cases h : key x was with
        | false => rfl
        | true => have := (key_iff.1 h).2.1; omega
      rcases his with ⟨⟨h, hk⟩ | h, _⟩
      · exact eq_of h hkw
      · have h2 := (hm was).2 ⟨.inl ⟨hwas, hkw⟩, hl was hwas⟩
        rcases minW' was h2 with h4 | h4
        · exact h4.symm
        · exfalso
          subst h
          simp only [narrow, Bool.or_eq_true, Bool.and_eq_true, decide_eq_true_eq, beq_iff_eq] at h4
          omega
/-- What the tables answer ahead of it and behind it. -/
def Wide (x : R) (f : Int) (p q : R × Int) : Prop :=
  if f = 0 ∧ p.2 = 0 ∧ p.1.bits ≤ x.bits then q.2 = 0 ∧ (q.1 = p.1 ∨ q.1 = x)
  else (p.2 ≠ 0 ∧ (q.2 ≠ 0 ∨ q.1 = x)) ∨ (q.1 = p.1 ∧ p.2 = q.2)
theorem wide_all {tb tb' n n' : Nat} {T T' : List Nd} {l : List R} {x : R} {f : Int} (hi : TI tb T) (hi' : TI tb' T') (h : RT T l n) (ht : TAdd T n x f T' n') (a : Int) : Wide x f (find1 (accW T a 33)) (find1 (accW T' a 33)) := by
  obtain ⟨l', hr', hc⟩ := rt_after h ht
  rcases hc with ⟨hf, rfl⟩ | ⟨rfl, hm⟩
  · rw [ways_eq hi h, ways_eq hi' hr']
    unfold Wide
    rw [if_neg (fun h => hf h.1)]
    exact .inr ⟨rfl, rfl⟩
  · have hmem : ∀ {tb n : Nat} {T : List Nd} {l : List R}, TI tb T → RT T l n → ∀ w, w ∈ accW T a 33 ↔ w ∈ l ∧ netOf a w.bits = w.net := fun {tb n T l} hi h w => by
      rw [mem_accW hi, h.mem]
      constructor
      · rintro ⟨h1, h2, _⟩; exact ⟨h1, h2⟩
      · rintro ⟨h1, h2⟩
        obtain ⟨m, _, _, _, h3, h4, _⟩ := hi.ok h1
        exact ⟨h1, h2, by omega, by omega⟩
    have := wider_law (x := x) (accW_sorted hi a 33) (accW_sorted hi' a 33) (fun w => netOf a w.bits = w.net) (fun y w hk => by
        obtain ⟨k1, k2, _⟩ := key_iff.1 hk
        rw [k1, k2]) (fun w hw => ((hmem hi h w).1 hw).2) (fun w => by
        rw [hmem hi' hr', hm, hmem hi h]
        constructor
        · rintro ⟨⟨h1, h2⟩ | h1, h3⟩
          · exact ⟨.inl ⟨⟨h1, h3⟩, h2⟩, h3⟩
          · exact ⟨.inr h1, h3⟩
        · rintro ⟨⟨⟨h1, _⟩, h2⟩ | h1, h3⟩
          · exact ⟨.inl ⟨h1, h2⟩, h3⟩
          · exact ⟨.inr h1, h3⟩)
    unfold Wide
    simpa using this
end Go.Proofs.Ytjppphldiaonkaa.Rt
