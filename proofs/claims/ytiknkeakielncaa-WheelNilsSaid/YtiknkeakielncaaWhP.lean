/- wheel: the plain law: the timers in the order in which they were set. Conditions: none. -/
import Derived.Test.YtiknkeakielncaaWhO
namespace Go.Proofs.Ytiknkeakielncaa.Wh
open Go Go.Proofs Sx
set_option maxRecDepth 100000
set_option linter.unusedVariables false
set_option linter.unusedSimpArgs false
set_option maxHeartbeats 4000000

abbrev Ids (L : List T) : Prop := L.Pairwise (fun a b => a.id ≠ b.id)
theorem Ids.inj {L : List T} (h : Ids L) : ∀ {a b : T}, a ∈ L → b ∈ L → a.id = b.id → a = b := fun {a b} ha hb e => by
  induction h with
  | nil => simp at ha
  | cons hx _ ih =>
    rcases List.mem_cons.1 ha with rfl | h1 <;> rcases List.mem_cons.1 hb with rfl | h2
    · rfl
    · exact absurd e (hx _ h2)
    · exact absurd e.symm (hx _ h1)
    · exact ih h1 h2
theorem Ids.perm {L M : List T} (h : Ids L) (p : L.Perm M) : Ids M := (p.pairwise_iff (fun {a b} h => Ne.symm h)).1 h
theorem Ids.filter {L : List T} (h : Ids L) (p : T → Bool) : Ids (L.filter p) := List.Pairwise.filter p h
theorem find_none {L : List T} {id : Int} : L.find? (fun t => id == t.id) = none ↔ ∀ t ∈ L, t.id ≠ id := by
  rw [List.find?_eq_none]
  constructor
  · intro h t ht e; exact h t ht (by simp [e])
  · intro h t ht; simpa using fun e : id = t.id => h t ht e.symm
theorem find_perm {L M : List T} {id : Int} (h : Ids L) (p : L.Perm M) : L.find? (fun t => id == t.id) = M.find? (fun t => id == t.id) := by
  cases e : L.find? (fun t => id == t.id) with
  | none => exact (find_none.2 fun t ht => find_none.1 e t (p.mem_iff.2 ht)).symm
  | some t =>
    cases e2 : M.find? (fun t => id == t.id) with
    | none => exact absurd (by have := List.find?_some e; simp at this; exact this.symm) (find_none.1 e2 t (p.mem_iff.1 (List.mem_of_find?_eq_some e)))
    | some u =>
      have h1 : id = t.id := by simpa using List.find?_some e
      have h2 : id = u.id := by simpa using List.find?_some e2
      rw [h.inj (List.mem_of_find?_eq_some e) (p.mem_iff.2 (List.mem_of_find?_eq_some e2)) (by omega)]
theorem delT_without {L : List T} (h : Ids L) (id : Int) : delT id L = without id L := by
  induction h with
  | nil => rfl
  | @cons a l hx _ ih =>
    unfold delT without at *
    by_cases e : id = a.id
    · rw [List.eraseP_cons_of_pos (by simp [e]), List.filter_cons_of_neg (by simp [e])]
      exact (without_none (fun t ht => by have := hx t ht; rw [e]; exact Ne.symm this)).symm
    · rw [List.eraseP_cons_of_neg (by simpa using e), List.filter_cons_of_pos (by simpa using fun q : a.id = id => e q.symm), ih]
theorem without_perm {L M : List T} {id : Int} (p : L.Perm M) : (without id L).Perm (without id M) := p.filter _
theorem without_len {L : List T} (h : Ids L) {t : T} (ht : t ∈ L) : (without t.id L).length + 1 = L.length := by
  rw [← delT_without h]
  unfold delT
  have : (L.eraseP (fun u => t.id == u.id)).length = L.length - 1 := List.length_eraseP_of_mem ht (by simp)
  have := List.length_pos_of_mem ht
  omega
/-- The timers, in the order in which they were set. -/
structure PL (now no : Int) (L : List T) : Prop where
  n0 : 0 ≤ now
  n1 : now ≤ Top
  no0 : 0 ≤ no
  ord : L.Pairwise (fun a b => a.no < b.no)
  ids : Ids L
  nb : ∀ t ∈ L, t.no < no
  rg : ∀ t ∈ L, 0 ≤ t.at_ ∧ t.at_ ≤ Top
  few : L.length ≤ 4096
structure WR (w : W) (now no : Int) (L : List T) : Prop where
  inv : Inv w L
  hnow : w.now = now
  hno : w.no = no
  K : w.K.Perm L
theorem filter_swap (p q : T → Bool) (L : List T) : (L.filter p).filter q = (L.filter q).filter p := by
  rw [List.filter_filter, List.filter_filter]
  exact List.filter_congr fun t _ => Bool.and_comm _ _
theorem without_other {L : List T} {id : Int} {p : T → Bool} (h : Ids L) {t : T} (ht : t ∈ L) (e : t.id = id) (hp : p t = false) : without id (L.filter p) = L.filter p :=
  without_none fun u hu eq => by
    have h1 := (List.mem_filter.1 hu)
    have : u = t := h.inj h1.1 ht (by omega)
    rw [this, hp] at h1; simp at h1
/-- What hangs, one taken out. -/
theorem stopped_inv {w w1 : W} {L : List T} {id : Int} {t : T} (h : Inv w L) (hi : Ids L) (ht : t ∈ L) (e : t.id = id) (k : Stopped w id t w1) : Inv w1 (without id L) := by
  have hsub : ∀ u ∈ without id L, u ∈ L := fun u hu => (List.mem_filter.1 hu).1
  have hlen := without_len hi ht
  rw [e] at hlen
  have hf1 := k.fine h.fw
  rcases k with ⟨hat, rfl⟩ | ⟨hat, s, hs, rfl⟩
  · have p : (without id w.late.l).Perm ((without id L).filter (isLate w.now)) := by
      refine (without_perm h.co.late).trans ?_
      unfold without; rw [filter_swap]
    refine ⟨hf1, h.n1, fun u hu => h.rg u (hsub u hu), ⟨p, fun i q hq => ?_⟩, ?_, by have := h.few; omega⟩
    · have := h.co.spk i q hq
      have e2 : (without id L).filter (isAt w.now i) = L.filter (isAt w.now i) := by
        unfold without; rw [filter_swap]
        exact without_other hi ht e (by simp [isAt]; intro; omega)
      show q.l.Perm ((without id L).filter (isAt w.now i))
      rw [e2]; exact this
    · have hl : (without id w.late.l).length + 1 = w.late.l.length := by
        have hm : t ∈ w.late.l := h.co.late.mem_iff.2 (List.mem_filter.2 ⟨ht, by simpa [isLate] using hat⟩)
        have := without_len ((hi.filter _).perm h.co.late.symm) hm
        rw [e] at this; exact this
      have htt := h.tt
      show (without id w.late.l).length + _ = _
      unfold tot at htt
      show (without id w.late.l).length + (w.S.map fun s => s.l.length).sum = (without id L).length
      omega
  · refine ⟨hf1, h.n1, fun u hu => h.rg u (hsub u hu), ⟨?_, fun i q hq => ?_⟩, ?_, by have := h.few; omega⟩
    · show w.late.l.Perm ((without id L).filter (isLate w.now))
      have e2 : (without id L).filter (isLate w.now) = L.filter (isLate w.now) := by
        unfold without; rw [filter_swap]
        exact without_other hi ht e (by simp [isLate]; omega)
      rw [e2]; exact h.co.late
    · show q.l.Perm ((without id L).filter (isAt w.now i))
      have hq : (w.S.set (ix w.now t.at_) (s.less id))[i]? = some q := hq
      rw [List.getElem?_set] at hq
      split at hq
      · rename_i hi2
        have hil := (List.getElem?_eq_some_iff.1 hs).1
        rw [if_pos (by omega)] at hq
        simp only [Option.some.injEq] at hq
        subst hq; subst hi2
        refine (without_perm (h.co.spk _ s hs)).trans ?_
        unfold without; rw [filter_swap]
      · rename_i hne
        have e2 : (without id L).filter (isAt w.now i) = L.filter (isAt w.now i) := by
          unfold without; rw [filter_swap]
          exact without_other hi ht e (by simp [isAt]; intro; exact hne)
        rw [e2]; exact h.co.spk i q hq
    · have hm : t ∈ s.l := (h.co.spk _ s hs).mem_iff.2 (List.mem_filter.2 ⟨ht, by simp [isAt, hat]⟩)
      have hl := without_len ((hi.filter _).perm (h.co.spk _ s hs).symm) hm
      rw [e] at hl
      have hsum := sum_spoke (s' := s.less id) hs
      have htt := h.tt
      unfold tot at htt
      have e3 : (s.less id).l.length = (without id s.l).length := rfl
      show w.late.l.length + ((w.S.set (ix w.now t.at_) (s.less id)).map fun s => s.l.length).sum = (without id L).length
      omega
theorem hung_inv {w w' : W} {L : List T} {t : T} (h : Inv w L) (hr : 0 ≤ t.at_ ∧ t.at_ ≤ Top) (hl : L.length + 1 ≤ 5000) (k : Hung w t w') : Inv w' (L ++ [t]) := by
  have h1 := k.tot
  have htt := h.tt
  refine ⟨k.fine h.fw (by omega), by rw [k.now.1]; exact h.n1, fun u hu => ?_, h.co.hung k, by rw [h1, List.length_append, htt]; rfl, by rw [List.length_append, List.length_singleton]; exact hl⟩
  rcases List.mem_append.1 hu with hu | hu
  · exact h.rg u hu
  · simp at hu; subst hu; exact hr
/-- What Set answers. -/
def setC (L : List T) (id x : Int) : Int := if x < 0 ∨ Top < x then 8 else if L.find? (fun t => id == t.id) = none ∧ 4096 ≤ L.length then 5 else 0
def setL (L : List T) (id x no : Int) : List T := if setC L id x = 0 then without id L ++ [⟨id, x, no⟩] else L
def setN (L : List T) (id x no : Int) : Int := if setC L id x = 0 then no + 1 else no
theorem pl_stop {now no : Int} {L : List T} (h : PL now no L) (id : Int) : PL now no (without id L) :=
  ⟨h.n0, h.n1, h.no0, h.ord.filter _, h.ids.filter _, fun t ht => h.nb t (List.mem_filter.1 ht).1, fun t ht => h.rg t (List.mem_filter.1 ht).1, Nat.le_trans (List.length_filter_le _ _) h.few⟩
theorem setC_zero {L : List T} {id x : Int} (h : setC L id x = 0) : 0 ≤ x ∧ x ≤ Top ∧ ¬ (L.find? (fun t => id == t.id) = none ∧ 4096 ≤ L.length) := by
  unfold setC at h
  split at h
  · cases h
  · split at h
    · cases h
    · rename_i h1 h2
      exact ⟨by omega, by omega, h2⟩
theorem pl_set {now no : Int} {L : List T} (h : PL now no L) (id x : Int) : PL now (setN L id x no) (setL L id x no) := by
  unfold setN setL
  by_cases hc : setC L id x = 0
  · rw [if_pos hc, if_pos hc]
    obtain ⟨x0, x1, hf⟩ := setC_zero hc
    have h1 := pl_stop h id
    refine ⟨h.n0, h.n1, by have := h.no0; omega, ?_, ?_, fun t ht => ?_, fun t ht => ?_, ?_⟩
    · rw [List.pairwise_append]
      exact ⟨h1.ord, by simp, fun a ha b hb => by simp at hb; subst hb; exact h1.nb a ha⟩
    · unfold Ids; rw [List.pairwise_append]
      exact ⟨h1.ids, by simp, fun a ha b hb => by
        simp at hb; subst hb
        have := (List.mem_filter.1 ha).2
        simpa using this⟩
    · rcases List.mem_append.1 ht with ht | ht
      · have := h1.nb t ht; omega
      · simp at ht; subst ht; show no < no + 1; omega
    · rcases List.mem_append.1 ht with ht | ht
      · exact h1.rg t ht
      · simp at ht; subst ht; exact ⟨x0, x1⟩
    · rw [List.length_append, List.length_singleton]
      cases e : L.find? (fun t => id == t.id) with
      | none =>
        have : ¬ 4096 ≤ L.length := fun q => hf ⟨e, q⟩
        have : (without id L).length ≤ L.length := List.length_filter_le _ _
        omega
      | some t =>
        have h2 : id = t.id := by simpa using List.find?_some e
        have := without_len h.ids (List.mem_of_find?_eq_some e)
        rw [← h2] at this
        have := h.few
        omega
  · rw [if_neg hc, if_neg hc]; exact h
theorem wr_set {w w2 : W} {now no : Int} {L : List T} {id x : Int} (hp : PL now no L) (h : WR w now no L) (hc : setC L id x = 0) (k : SetW w id x w2) : WR w2 now (no + 1) (without id L ++ [⟨id, x, no⟩]) := by
  obtain ⟨x0, x1, _⟩ := setC_zero hc
  have hlen : (without id L).length ≤ L.length := List.length_filter_le _ _
  have hfew := hp.few
  have fin : ∀ w1, Inv w1 (without id L) → w1.now = w.now → w1.K.Perm (without id L) → Hung { w1 with no := w.no + 1, K := w1.K ++ [⟨id, x, w.no⟩] } ⟨id, x, w.no⟩ w2 → WR w2 now (no + 1) (without id L ++ [⟨id, x, no⟩]) := fun w1 hi1 hn1 hk1 hh => by
    rw [h.hno] at hh
    have hi2 : Inv { w1 with no := no + 1, K := w1.K ++ [⟨id, x, no⟩] } (without id L) := ⟨⟨hi1.fw.hl, hi1.fw.n0, hi1.fw.n1, hi1.fw.few, hi1.fw.cap⟩, hi1.n1, hi1.rg, ⟨hi1.co.late, hi1.co.spk⟩, hi1.tt, hi1.few⟩
    obtain ⟨a1, a2⟩ := hh.now
    obtain ⟨b1, b2⟩ := hh.same
    exact ⟨hung_inv hi2 ⟨x0, x1⟩ (by omega) hh, by rw [a1]; show w1.now = now; rw [hn1, h.hnow], a2, by rw [b2]; exact hk1.append (List.Perm.refl _)⟩
  obtain ⟨w1, hw, hh⟩ := k
  have hik := hp.ids.perm h.K.symm
  rcases hw with ⟨hn, rfl⟩ | ⟨t, ht, hs⟩
  · rw [find_perm hik h.K] at hn
    have e := without_none (find_none.1 hn)
    exact fin w1 (by rw [e]; exact h.inv) rfl (by rw [e]; exact h.K) hh
  · rw [find_perm hik h.K] at ht
    have h2 : id = t.id := by simpa using List.find?_some ht
    obtain ⟨s1, s2, s3, s4⟩ := hs.same
    exact fin w1 (stopped_inv h.inv hp.ids (List.mem_of_find?_eq_some ht) h2.symm hs) s1 (by rw [s4, delT_without hik]; exact without_perm h.K) hh
end Go.Proofs.Ytiknkeakielncaa.Wh
