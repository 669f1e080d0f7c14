/- wheel: what hangs where; plain facts. Conditions: none. -/
import Derived.Test.YtiknkeakielncaaWhI
namespace Go.Proofs.Ytiknkeakielncaa.Wh
open Go Go.Proofs Sx
set_option maxRecDepth 100000
set_option linter.unusedVariables false
set_option linter.unusedSimpArgs false
set_option maxHeartbeats 4000000

abbrev Top : Int := 1099511627776
def isLate (now : Int) (t : T) : Bool := decide (t.at_ ≤ now)
def isAt (now : Int) (i : Nat) (t : T) : Bool := decide (now < t.at_) && decide (ix now t.at_ = i)
/-- These timers hang there, each where it belongs. -/
structure Cont (w : W) (M : List T) : Prop where
  late : w.late.l.Perm (M.filter (isLate w.now))
  spk : ∀ (i : Nat) (s : Sp), w.S[i]? = some s → s.l.Perm (M.filter (isAt w.now i))
theorem Cont.perm {w : W} {M N : List T} (h : Cont w M) (p : M.Perm N) : Cont w N :=
  ⟨h.late.trans (p.filter _), fun i s hs => (h.spk i s hs).trans (p.filter _)⟩
theorem Cont.hung {w w' : W} {M : List T} {t : T} (h : Cont w M) (k : Hung w t w') : Cont w' (M ++ [t]) := by
  rcases k with ⟨hat, s, rfl, e, _⟩ | ⟨hat, s0, s, hs, rfl, e, _⟩
  · refine ⟨?_, fun i q hq => ?_⟩
    · show s.l.Perm ((M ++ [t]).filter (isLate w.now))
      rw [e, List.filter_append]
      refine (h.late.append (List.Perm.refl [t])).trans ?_
      have : [t].filter (isLate w.now) = [t] := by simp [isLate, hat]
      rw [this]
    · show q.l.Perm ((M ++ [t]).filter (isAt w.now i))
      have : [t].filter (isAt w.now i) = [] := by
        have : ¬ w.now < t.at_ := by omega
        simp [isAt, this]
      rw [List.filter_append, this, List.append_nil]
      exact h.spk i q hq
  · refine ⟨?_, fun i q hq => ?_⟩
    · show w.late.l.Perm ((M ++ [t]).filter (isLate w.now))
      have : [t].filter (isLate w.now) = [] := by
        have : ¬ t.at_ ≤ w.now := by omega
        simp [isLate, this]
      rw [List.filter_append, this, List.append_nil]
      exact h.late
    · show q.l.Perm ((M ++ [t]).filter (isAt w.now i))
      have hq : (w.S.set (ix w.now t.at_) s)[i]? = some q := hq
      rw [List.getElem?_set] at hq
      rw [List.filter_append]
      split at hq
      · rename_i hi
        have hil := (List.getElem?_eq_some_iff.1 hs).1
        rw [if_pos (by omega)] at hq
        simp only [Option.some.injEq] at hq
        subst hq; subst hi
        have : [t].filter (isAt w.now (ix w.now t.at_)) = [t] := by simp [isAt, hat]
        rw [this, e]
        exact (h.spk _ s0 hs).append (List.Perm.refl [t])
      · rename_i hi
        have : [t].filter (isAt w.now i) = [] := by simp [isAt, hi]
        rw [this, List.append_nil]
        exact h.spk i q hq
theorem Cont.hungL {w w' : W} {M l : List T} (h : Cont w M) (k : HungL w l w') : Cont w' (M ++ l) := by
  induction k with
  | nil => rw [List.append_nil]; exact h
  | snoc _ k ih => rw [← List.append_assoc]; exact ih.hung k
structure Inv (w : W) (L : List T) : Prop where
  fw : Fine w
  n1 : w.now ≤ Top
  rg : ∀ t ∈ L, 0 ≤ t.at_ ∧ t.at_ ≤ Top
  co : Cont w L
  tt : tot w = L.length
  few : L.length ≤ 5000
/-! ### A spoke ahead -/
theorem spl_mem {w : W} {L : List T} (h : Inv w L) {k s : Nat} (hk : k * 64 + s < 448) (t : T) : t ∈ spl w k s ↔ t ∈ L ∧ w.now < t.at_ ∧ ix w.now t.at_ = k * 64 + s := by
  have hil : k * 64 + s < w.S.length := by rw [h.fw.hl]; exact hk
  have hix := List.getElem?_eq_getElem hil
  have hp := h.co.spk _ _ hix
  have e : spl w k s = w.S[k * 64 + s].l := by unfold spl; rw [hix]; rfl
  rw [e, hp.mem_iff, List.mem_filter]
  simp [isAt]
theorem split_ix {k s k' s' : Nat} (h : s < 64) (h' : s' < 64) (e : k * 64 + s = k' * 64 + s') : k = k' ∧ s = s' := by omega
theorem beg_of {now x : Int} {k : Nat} (n0 : 0 ≤ now) (hl : Lvl now x k) : begOf now k (dig x k) = x / 64 ^ k * 64 ^ k := by
  unfold begOf
  have h1 := hl.1
  rw [← h1, div_step]
  unfold dig
  have : x / 64 ^ k / 64 * 64 + x / 64 ^ k % 64 = x / 64 ^ k := by omega
  rw [this]
theorem lvl_dig {now x : Int} {k : Nat} (hl : Lvl now x k) : dig now k < dig x k := by
  have h1 := hl.1; have h2 := hl.2
  rw [div_step, div_step] at h1
  unfold dig; omega
theorem lt_beg {now x : Int} {k : Nat} (h : now / 64 ^ k < x / 64 ^ k) : now < x / 64 ^ k * 64 ^ k := by
  have hp := pow_pos64 k
  have h1 := Int.lt_ediv_add_one_mul_self now hp
  have h2 : (now / 64 ^ k + 1) * 64 ^ k ≤ x / 64 ^ k * 64 ^ k := Int.mul_le_mul_of_nonneg_right (by omega) (by omega)
  omega
/-- The spoke that begins first. -/
theorem turn_first {w : W} {L : List T} (h : Inv w L) {at_ : Int} (ht : TurnR w at_ true) :
    ∃ i, i < 448 ∧ w.now < at_ ∧ ix w.now at_ = i ∧ (∀ t ∈ L, w.now < t.at_ → ix w.now t.at_ = i → at_ = beg w.now t.at_) ∧ (∀ t ∈ L, w.now < t.at_ → ix w.now t.at_ ≠ i → at_ < beg w.now t.at_) := by
  rcases ht with ⟨_, h2, _⟩ | ⟨_, k, s, hk, hs, hds, hne, hb1, hb2, he⟩
  · cases h2
  have n0 := h.fw.n0
  have hil : k * 64 + s < 448 := by omega
  obtain ⟨t, htm⟩ := List.exists_mem_of_ne_nil _ hne
  obtain ⟨htL, htn, hti⟩ := (spl_mem h hil t).1 htm
  have key : ∀ t ∈ L, w.now < t.at_ → ix w.now t.at_ = k * 64 + s → hi w.now t.at_ = k ∧ dig t.at_ k = s ∧ Lvl w.now t.at_ k ∧ at_ = beg w.now t.at_ := fun t htL htn hti => by
    obtain ⟨hl, _⟩ := hi_lvl n0 htn (h.rg t htL).2
    have hd := dig_range t.at_ (hi w.now t.at_)
    unfold ix at hti
    obtain ⟨e1, e2⟩ := split_ix (by omega) hs hti
    rw [e1] at e2 hl hd
    have e3 : dig t.at_ k = s := by omega
    refine ⟨e1, e3, hl, ?_⟩
    have := beg_of n0 hl
    rw [e3] at this
    unfold beg
    rw [e1, he, this]
  obtain ⟨e1, e2, hl, e3⟩ := key t htL htn hti
  have hbeg : at_ = t.at_ / 64 ^ k * 64 ^ k := by unfold beg at e3; rw [e1] at e3; exact e3
  have hp := pow_pos64 k
  have hatk : at_ / 64 ^ k = t.at_ / 64 ^ k := by rw [hbeg]; exact Int.mul_ediv_cancel _ (by omega)
  have hat1 : at_ / 64 ^ (k + 1) = w.now / 64 ^ (k + 1) := by rw [div_step, hatk, ← div_step]; exact hl.1
  have hnow : w.now < at_ := by rw [hbeg]; exact lt_beg hl.2
  have hlat : Lvl w.now at_ k := ⟨hat1, by rw [hatk]; exact hl.2⟩
  refine ⟨k * 64 + s, hil, hnow, ?_, fun t' a b c => (key t' a b c).2.2.2, fun t' htL' htn' hti' => ?_⟩
  · have e4 : hi w.now at_ = k := hw_lvl hlat 7 hk
    unfold ix
    rw [e4]
    have : dig at_ k = s := by unfold dig at e2 ⊢; rw [hatk]; exact e2
    omega
  · obtain ⟨hl', hk'⟩ := hi_lvl n0 htn' (h.rg t' htL').2
    have hd' := dig_range t'.at_ (hi w.now t'.at_)
    have hgt := lvl_dig hl'
    obtain ⟨s', hs'⟩ := Int.eq_ofNat_of_zero_le hd'.1
    have hix' : ix w.now t'.at_ = hi w.now t'.at_ * 64 + s' := by unfold ix; omega
    have hmem : t' ∈ spl w (hi w.now t'.at_) s' := (spl_mem h (by omega) t').2 ⟨htL', htn', hix'⟩
    unfold beg
    generalize hi w.now t'.at_ = k' at *
    rcases Nat.lt_trichotomy k' k with hlt | heq | hlt
    · have := hb1 k' hlt s' (by omega) (by omega)
      rw [this] at hmem; simp at hmem
    · subst heq
      have hss : (s : Int) < s' := by
        rcases Int.lt_trichotomy s' s with q | q | q
        · have := hb2 s' (by omega) q
          rw [this] at hmem; simp at hmem
        · exact absurd (by rw [hix']; omega) hti'
        · exact q
      have e5 := beg_of n0 hl'
      rw [← e5, hs', he]
      unfold begOf
      exact Int.mul_lt_mul_of_pos_right (by omega) hp
    · have hup : at_ / 64 ^ k' = w.now / 64 ^ k' := by
        have := eq_up (k := k + 1) hat1 (k' - (k + 1))
        rw [show k + 1 + (k' - (k + 1)) = k' by omega] at this
        exact this
      exact lt_beg (by rw [hup]; exact hl'.2)
theorem turn_none {w : W} {L : List T} (h : Inv w L) {at_ : Int} (ht : TurnR w at_ false) : ∀ t ∈ L, t.at_ ≤ w.now := fun t htL => by
  rcases ht with ⟨_, _, hb⟩ | ⟨h2, _⟩
  · by_cases htn : w.now < t.at_
    · obtain ⟨hl, hk⟩ := hi_lvl h.fw.n0 htn (h.rg t htL).2
      have hd := dig_range t.at_ (hi w.now t.at_)
      have hgt := lvl_dig hl
      obtain ⟨s, hs⟩ := Int.eq_ofNat_of_zero_le hd.1
      have hix : ix w.now t.at_ = hi w.now t.at_ * 64 + s := by unfold ix; omega
      have hmem : t ∈ spl w (hi w.now t.at_) s := (spl_mem h (by omega) t).2 ⟨htL, htn, hix⟩
      have := hb _ hk s (by omega) (by omega)
      rw [this] at hmem; simp at hmem
    · omega
  · cases h2
theorem filter_congr' {p q : T → Bool} {l : List T} (h : ∀ t ∈ l, p t = q t) : l.filter p = l.filter q := List.filter_congr h
/-- The wheel's tick goes on; nothing begins up to there. -/
theorem Inv.jump {w : W} {L : List T} (h : Inv w L) {x : Int} (h0 : w.now ≤ x) (h1 : x ≤ Top) (hb : ∀ t ∈ L, w.now < t.at_ → x < beg w.now t.at_) : Inv { w with now := x } L := by
  have n0 := h.fw.n0
  have key : ∀ t ∈ L, w.now < t.at_ → ix x t.at_ = ix w.now t.at_ ∧ x < t.at_ := fun t htL htn => ix_stays n0 htn (h.rg t htL).2 h0 (hb t htL htn)
  refine ⟨⟨h.fw.hl, by show 0 ≤ x; omega, by show x ≤ 4611686018427387904; have : x ≤ 1099511627776 := h1; omega, h.fw.few, h.fw.cap⟩, h1, h.rg, ⟨?_, fun i s hs => ?_⟩, h.tt, h.few⟩
  · show w.late.l.Perm (L.filter (isLate x))
    rw [filter_congr' (q := isLate w.now) (fun t htL => ?_)]
    · exact h.co.late
    · unfold isLate
      by_cases htn : w.now < t.at_
      · have := (key t htL htn).2
        simp only [decide_eq_decide]; omega
      · simp only [decide_eq_decide]; omega
  · show s.l.Perm (L.filter (isAt x i))
    rw [filter_congr' (q := isAt w.now i) (fun t htL => ?_)]
    · exact h.co.spk i s hs
    · unfold isAt
      by_cases htn : w.now < t.at_
      · obtain ⟨a, b⟩ := key t htL htn
        rw [a]; simp [htn, b]
      · have : ¬ x < t.at_ := by omega
        simp [htn, this]
theorem off_cont {w : W} {L : List T} (h : Inv w L) {x : Int} {i : Nat} (hx : w.now < x) (hne : ∀ t ∈ L, w.now < t.at_ → ix w.now t.at_ ≠ i → x < beg w.now t.at_) : Cont (w.off i x) (L.filter fun t => !isAt w.now i t) := by
  have n0 := h.fw.n0
  have key : ∀ t ∈ L, w.now < t.at_ → ix w.now t.at_ ≠ i → ix x t.at_ = ix w.now t.at_ ∧ x < t.at_ := fun t htL htn hi => ix_stays n0 htn (h.rg t htL).2 (by omega) (hne t htL htn hi)
  refine ⟨?_, fun j s hs => ?_⟩
  · show w.late.l.Perm ((L.filter fun t => !isAt w.now i t).filter (isLate x))
    rw [List.filter_filter, filter_congr' (q := isLate w.now) (fun t htL => ?_)]
    · exact h.co.late
    · unfold isLate isAt
      by_cases htn : w.now < t.at_
      · by_cases hi : ix w.now t.at_ = i
        · have : ¬ t.at_ ≤ w.now := by omega
          simp [htn, hi, this]
        · have h2 := (key t htL htn hi).2
          have : ¬ t.at_ ≤ w.now := by omega
          have : ¬ t.at_ ≤ x := by omega
          simp [*]
      · have h1 : t.at_ ≤ w.now := by omega
        have h2 : t.at_ ≤ x := by omega
        simp [htn, h1, h2]
  · show s.l.Perm ((L.filter fun t => !isAt w.now i t).filter (isAt x j))
    have hs2 : (w.S.set i sp0)[j]? = some s := hs
    rw [List.getElem?_set] at hs2
    rw [List.filter_filter]
    split at hs2
    · rename_i hij
      subst hij
      split at hs2 <;> try (cases hs2; done)
      simp only [Option.some.injEq] at hs2
      subst hs2
      have : L.filter (fun t => isAt x i t && !isAt w.now i t) = [] := by
        rw [List.filter_eq_nil_iff]
        intro t htL
        unfold isAt
        by_cases htn : w.now < t.at_
        · by_cases hi : ix w.now t.at_ = i
          · simp [htn, hi]
          · have := (key t htL htn hi).1
            rw [this]; simp [hi]
        · have : ¬ x < t.at_ := by omega
          simp [this]
      rw [this]; exact List.Perm.refl []
    · rename_i hij
      rw [filter_congr' (q := isAt w.now j) (fun t htL => ?_)]
      · exact h.co.spk j s hs2
      · unfold isAt
        by_cases htn : w.now < t.at_
        · by_cases hi : ix w.now t.at_ = i
          · simp [htn, hi, hij]
          · obtain ⟨a, b⟩ := key t htL htn hi
            rw [a]; simp [htn, b, hi]
        · have : ¬ x < t.at_ := by omega
          simp [htn, this]
/-- The wheel at the next spoke. -/
theorem Inv.reach {w w2 : W} {L : List T} (h : Inv w L) {x : Int} (ht : TurnR w x true) (hx : x ≤ Top) {s0 : Sp} (hs : w.S[ix w.now x]? = some s0) (k : HungL (w.off (ix w.now x) x) s0.l w2) : Inv w2 L ∧ w2.now = x ∧ w2.no = w.no ∧ w2.mb = w.mb ∧ w2.K = w.K := by
  obtain ⟨i, hi, hn, hix, h1, h2⟩ := turn_first h ht
  subst hix
  have x0 : 0 ≤ x := by have := h.fw.n0; omega
  have xB : x ≤ Big := by show x ≤ 4611686018427387904; have : x ≤ 1099511627776 := hx; omega
  have fw0 := off_fine (i := ix w.now x) h.fw x0 xB
  have t0 := off_tot (x := x) hs
  have hfew := h.few
  have htt := h.tt
  obtain ⟨a, b, c, d, e, f⟩ := k.keep fw0 (by omega)
  have hc := (off_cont h hn h2).hungL k
  have hp : (L.filter (fun t => !isAt w.now (ix w.now x) t) ++ s0.l).Perm L := by
    have p1 := h.co.spk _ _ hs
    refine (List.Perm.append_left _ p1).trans ?_
    exact (List.perm_append_comm).trans (List.filter_append_perm _ L)
  exact ⟨⟨a, by rw [c]; exact hx, h.rg, hc.perm hp, by rw [b]; omega, h.few⟩, c, d, e, f⟩
end Go.Proofs.Ytiknkeakielncaa.Wh
