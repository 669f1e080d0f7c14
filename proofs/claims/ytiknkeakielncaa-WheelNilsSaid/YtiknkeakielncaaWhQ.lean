/- wheel: the plain law of Tick, of Next. Conditions: none. -/
import Derived.Test.YtiknkeakielncaaWhP
namespace Go.Proofs.Ytiknkeakielncaa.Wh
open Go Go.Proofs Sx
set_option maxRecDepth 100000
set_option linter.unusedVariables false
set_option linter.unusedSimpArgs false
set_option maxHeartbeats 4000000

def T.u (t : T) : U := ⟨t.id, t.at_⟩
theorem map_erase {α β : Type} (f : α → β) : ∀ (l : List α) (i : Nat), (l.map f).eraseIdx i = (l.eraseIdx i).map f
  | [], i => by simp
  | a :: l, 0 => rfl
  | a :: l, i + 1 => by
    show f a :: (l.map f).eraseIdx i = f a :: (l.eraseIdx i).map f
    rw [map_erase f l i]
def ahead (x : Int) (L : List T) : List T := L.filter (fun t => !isLate x t)
/-- What is due, in its order. -/
structure Told (x : Int) (L c : List T) : Prop where
  perm : c.Perm (L.filter (isLate x))
  ord : c.Pairwise (fun a b => ltT b a = false)
abbrev Nos (L : List T) : Prop := L.Pairwise (fun a b => a.no < b.no)
theorem Nos.inj {L : List T} (h : Nos L) : ∀ {a b : T}, a ∈ L → b ∈ L → a.no = b.no → a = b := fun {a b} ha hb e => by
  induction h with
  | nil => simp at ha
  | cons hx _ ih =>
    rcases List.mem_cons.1 ha with rfl | h1 <;> rcases List.mem_cons.1 hb with rfl | h2
    · rfl
    · have := hx _ h2; omega
    · have := hx _ h1; omega
    · exact ih h1 h2
theorem ltT_no {a b : T} : ltT b a = false ↔ a.at_ ≤ b.at_ ∧ (b.at_ = a.at_ → a.no ≤ b.no) := by
  rw [Bool.eq_false_iff, ne_eq, ltT_iff]
  omega
theorem Told.same {x : Int} {L c d : List T} (hn : Nos L) (hc : Told x L c) (hd : Told x L d) : c = d := by
  refine List.Perm.eq_of_pairwise (le := fun a b => ltT b a = false) (fun a b ha hb h1 h2 => ?_) hc.ord hd.ord (hc.perm.trans hd.perm.symm)
  have ha' := (List.mem_filter.1 (hc.perm.mem_iff.1 ha)).1
  have hb' := (List.mem_filter.1 (hd.perm.mem_iff.1 hb)).1
  rw [ltT_no] at h1 h2
  exact hn.inj ha' hb' (by omega)
theorem nth_filter {L : List T} {p : T → Bool} {i : Nat} {t : T} (h : L[i]? = some t) (hp : p t = false) : (L.eraseIdx i).filter p = L.filter p := by
  have hi := (List.getElem?_eq_some_iff.1 h).1
  have e : L = L.take i ++ (t :: L.drop (i + 1)) := by
    have := (List.getElem?_eq_some_iff.1 h).2
    rw [← this, List.getElem_cons_drop, List.take_append_drop]
  rw [List.eraseIdx_eq_take_drop_succ]
  conv => rhs; rw [e]
  rw [List.filter_append, List.filter_append, List.filter_cons_of_neg (by simp [hp])]
theorem erase_perm {L : List T} {i : Nat} {t : T} (h : L[i]? = some t) : (t :: L.eraseIdx i).Perm L := by
  have e : L = L.take i ++ (t :: L.drop (i + 1)) := by
    have := (List.getElem?_eq_some_iff.1 h).2
    rw [← this, List.getElem_cons_drop, List.take_append_drop]
  rw [List.eraseIdx_eq_take_drop_succ]
  conv => rhs; rw [e]
  exact List.perm_middle.symm
theorem picked_inv {x : Int} {L : List T} (hn : Nos L) {out : List Int} {m : List U} (h : Picked x (L.map T.u) out m) :
    ∃ c M : List T, out = c.map T.id ∧ m = M.map T.u ∧ Nos M ∧ (c ++ M).Perm L ∧ (∀ a ∈ c, isLate x a = true) ∧ c.Pairwise (fun a b => ltT b a = false) ∧ (∀ a ∈ c, ∀ b ∈ M, isLate x b = true → ltT b a = false) ∧ M.filter (fun t => !isLate x t) = ahead x L := by
  induction h with
  | nil => exact ⟨[], L, rfl, rfl, hn, List.Perm.refl _, by simp, .nil, by simp, rfl⟩
  | @snoc out m i u h p ih =>
    obtain ⟨c, M, rfl, rfl, h1, h2, h3, h4, h5, h6⟩ := ih
    have hp := p.at_
    rw [List.getElem?_map] at hp
    cases ht : M[i]? with
    | none => rw [ht] at hp; cases hp
    | some t =>
      rw [ht] at hp
      simp only [Option.map_some, Option.some.injEq] at hp
      subst hp
      have hdue : t.at_ ≤ x := p.due
      have htl : isLate x t = true := by simpa [isLate] using hdue
      have htM := List.mem_of_getElem? ht
      refine ⟨c ++ [t], M.eraseIdx i, by simp [T.u], map_erase T.u M i, h1.sublist (List.eraseIdx_sublist _ _), ?_, ?_, ?_, ?_, ?_⟩
      · rw [List.append_assoc]
        exact (List.Perm.append_left c (erase_perm ht)).trans h2
      · intro a ha
        rcases List.mem_append.1 ha with ha | ha
        · exact h3 a ha
        · simp at ha; subst ha; exact htl
      · rw [List.pairwise_append]
        exact ⟨h4, by simp, fun a ha b hb => by simp at hb; subst hb; exact h5 a ha b htM htl⟩
      · intro a ha b hb hbl
        have hbM := (List.eraseIdx_sublist _ _).subset hb
        rcases List.mem_append.1 ha with ha | ha
        · exact h5 a ha b hbM hbl
        · simp at ha; subst ha
          obtain ⟨j, hj, hjb⟩ := List.mem_eraseIdx_iff_getElem?.1 hb
          rw [ltT_no]
          have hle := p.le j (T.u b) (by rw [List.getElem?_map, hjb]; rfl)
          refine ⟨hle, fun e => ?_⟩
          rcases Nat.lt_or_ge j i with g | g
          · have := p.lt j (T.u b) g (by rw [List.getElem?_map, hjb]; rfl)
            have : a.at_ < b.at_ := this
            omega
          · have hil := (List.getElem?_eq_some_iff.1 ht)
            have hjl := (List.getElem?_eq_some_iff.1 hjb)
            have := (List.pairwise_iff_getElem.1 h1) i j hil.1 hjl.1 (by omega)
            rw [hil.2, hjl.2] at this
            omega
      · rw [nth_filter ht (by simp [htl])]; exact h6
theorem picked_told {x : Int} {L : List T} (hn : Nos L) {out : List Int} {m : List U} (h : Picked x (L.map T.u) out m) (hm : ∀ t ∈ m, x < t.at_) : ∃ c, Told x L c ∧ out = c.map T.id ∧ m = (ahead x L).map T.u := by
  obtain ⟨c, M, rfl, rfl, h1, h2, h3, h4, h5, h6⟩ := picked_inv hn h
  have hM : ∀ t ∈ M, isLate x t = false := fun t ht => by
    have := hm (T.u t) (List.mem_map_of_mem ht)
    have : x < t.at_ := this
    simp [isLate]; omega
  have e1 : M.filter (fun t => !isLate x t) = M := List.filter_eq_self.2 fun t ht => by simp [hM t ht]
  have e2 : M.filter (isLate x) = [] := List.filter_eq_nil_iff.2 fun t ht => by simp [hM t ht]
  have e3 : c.filter (isLate x) = c := List.filter_eq_self.2 h3
  refine ⟨c, ⟨?_, h4⟩, rfl, by rw [← h6, e1]⟩
  have := h2.filter (isLate x)
  rw [List.filter_append, e2, e3, List.append_nil] at this
  exact this
/-! ### Tick's wheel -/
theorem dels_filter : ∀ (l : List T) {K : List T}, Ids K → dels K l = K.filter (fun t => l.all (fun s => t.id != s.id))
  | [], K, h => by rw [List.filter_eq_self.2 (by simp)]; rfl
  | s :: l, K, h => by
    have e : dels K (s :: l) = dels (delT s.id K) l := rfl
    have h2 : Ids (without s.id K) := h.filter _
    rw [e, delT_without h, dels_filter l h2]
    unfold without
    rw [List.filter_filter]
    exact List.filter_congr fun t _ => by simp [List.all_cons, Bool.and_comm]
theorem pl_tick {now no x : Int} {L : List T} (h : PL now no L) (h0 : now ≤ x) (h1 : x ≤ Top) : PL x no (ahead x L) :=
  ⟨by have := h.n0; omega, h1, h.no0, h.ord.filter _, h.ids.filter _, fun t ht => h.nb t (List.mem_filter.1 ht).1, fun t ht => h.rg t (List.mem_filter.1 ht).1, Nat.le_trans (List.length_filter_le _ _) h.few⟩
theorem wr_tick {w w1 : W} {now no x : Int} {L c : List T} (hp : PL now no L) (h : WR w now no L) (x0 : now ≤ x) (x1 : x ≤ Top) (hi : Inv { w1 with now := x } L) (hno : w1.no = w.no) (ht : Told x L c) :
    WR { w1 with now := x, late := sp0, K := dels w.K c } x no (ahead x L) := by
  have hik := hp.ids.perm h.K.symm
  refine ⟨⟨⟨hi.fw.hl, hi.fw.n0, hi.fw.n1, ⟨by show 0 ≤ 100000; omega, hi.fw.few.2⟩, ⟨Nat.zero_le _, hi.fw.cap.2⟩⟩, x1, fun t ht => hi.rg t (List.mem_filter.1 ht).1, ⟨?_, fun i s hs => ?_⟩, ?_, by have := hp.few; have : (ahead x L).length ≤ L.length := List.length_filter_le _ _; omega⟩, rfl, by show w1.no = no; rw [hno, h.hno], ?_⟩
  · show ([] : List T).Perm ((ahead x L).filter (isLate x))
    unfold ahead
    rw [List.filter_filter, List.filter_eq_nil_iff.2 (fun t _ => by simp)]
  · show s.l.Perm ((ahead x L).filter (isAt x i))
    have := hi.co.spk i s hs
    have e : (ahead x L).filter (isAt x i) = L.filter (isAt x i) := by
      unfold ahead
      rw [List.filter_filter]
      refine List.filter_congr fun t _ => ?_
      unfold isAt isLate
      by_cases q : x < t.at_
      · have : ¬ t.at_ ≤ x := by omega
        simp [q, this]
      · simp [q]
    rw [e]; exact this
  · have htt := hi.tt
    have hl := hi.co.late.length_eq
    have hl : w1.late.l.length = (L.filter (isLate x)).length := hl
    have hsum : (L.filter (isLate x)).length + (ahead x L).length = L.length := by
      rw [← List.length_append]
      exact (List.filter_append_perm (isLate x) L).length_eq
    unfold tot at *
    have htt : w1.late.l.length + (w1.S.map fun s => s.l.length).sum = L.length := htt
    show 0 + (w1.S.map fun s => s.l.length).sum = (ahead x L).length
    omega
  · show (dels w.K c).Perm (ahead x L)
    rw [dels_filter c hik]
    refine (h.K.filter _).trans ?_
    unfold ahead
    rw [List.filter_congr (q := fun t => !isLate x t) (fun t htL => ?_)]
    by_cases q : isLate x t = true
    · have hc : t ∈ c := ht.perm.mem_iff.2 (List.mem_filter.2 ⟨htL, q⟩)
      rw [q, Bool.not_true, Bool.eq_false_iff, ne_eq, List.all_eq_true]
      intro h; exact absurd (h t hc) (by simp)
    · rw [Bool.not_eq_true] at q
      rw [q, Bool.not_false, List.all_eq_true]
      intro s hs
      have h1 := List.mem_filter.1 (ht.perm.mem_iff.1 hs)
      have : t.id ≠ s.id := fun e => by
        have := hp.ids.inj htL h1.1 e
        rw [this, h1.2] at q; cases q
      simpa using this
/-! ### Next -/
theorem next_same {L : List T} {n n' : Int} {ok ok' : Bool} (h : NextR L n ok) (h' : RNext (L.map T.u) n' ok') : n = n' ∧ ok = ok' := by
  rcases h with ⟨rfl, rfl, rfl⟩ | ⟨rfl, ⟨t, ht, rfl⟩, hall⟩
  · rcases h' with ⟨_, rfl, rfl⟩ | ⟨_, ⟨t, ht, _⟩, _⟩
    · exact ⟨rfl, rfl⟩
    · simp at ht
  · rcases h' with ⟨e, _, _⟩ | ⟨rfl, ⟨t', ht', rfl⟩, hall'⟩
    · rw [List.map_eq_nil_iff] at e; subst e; simp at ht
    · obtain ⟨s, hs, rfl⟩ := List.mem_map.1 ht'
      have h1 := hall s hs
      have h2 := hall' (T.u t) (List.mem_map_of_mem ht)
      have h2 : s.at_ ≤ t.at_ := h2
      exact ⟨by show t.at_ = s.at_; omega, rfl⟩
theorem NextR.perm {K L : List T} (p : K.Perm L) {n : Int} {ok : Bool} (h : NextR K n ok) : NextR L n ok := by
  rcases h with ⟨rfl, h1, h2⟩ | ⟨h1, ⟨t, ht, h2⟩, h3⟩
  · exact .inl ⟨List.nil_perm.1 p, h1, h2⟩
  · exact .inr ⟨h1, ⟨t, p.mem_iff.1 ht, h2⟩, fun t ht => h3 t (p.mem_iff.2 ht)⟩
/-! ### The reference's Set, Stop -/
theorem erase_without {L : List T} (h : Ids L) {i : Nat} {t : T} (ht : L[i]? = some t) : L.eraseIdx i = without t.id L := by
  have hi := List.getElem?_eq_some_iff.1 ht
  have e : L = L.take i ++ (t :: L.drop (i + 1)) := by
    rw [← hi.2, List.getElem_cons_drop, List.take_append_drop]
  rw [List.eraseIdx_eq_take_drop_succ]
  have hw := h
  rw [e] at hw
  unfold Ids at hw
  rw [List.pairwise_append, List.pairwise_cons] at hw
  obtain ⟨_, ⟨h2, _⟩, h3⟩ := hw
  conv => rhs; rw [e]
  unfold without
  rw [List.filter_append, List.filter_cons_of_neg (by simp)]
  rw [List.filter_eq_self.2 (fun a ha => by simpa using h3 a ha t (by simp)), List.filter_eq_self.2 (fun a ha => by simpa using (h2 a ha).symm)]
theorem find_map {L : List T} {id : Int} : (∀ x ∈ L.map T.u, x.id ≠ id) ↔ L.find? (fun t => id == t.id) = none := by
  rw [find_none]
  constructor
  · intro h t ht; exact h (T.u t) (List.mem_map_of_mem ht)
  · intro h x hx
    obtain ⟨t, ht, rfl⟩ := List.mem_map.1 hx
    exact h t ht
theorem find_nth {L : List T} (h : Ids L) {i : Nat} {y : U} (hy : (L.map T.u)[i]? = some y) : ∃ t, L[i]? = some t ∧ y = T.u t ∧ L.find? (fun s => t.id == s.id) = some t := by
  rw [List.getElem?_map] at hy
  cases ht : L[i]? with
  | none => rw [ht] at hy; cases hy
  | some t =>
    rw [ht] at hy
    simp only [Option.map_some, Option.some.injEq] at hy
    refine ⟨t, rfl, hy.symm, ?_⟩
    cases e : L.find? (fun s => t.id == s.id) with
    | none => exact absurd rfl (find_none.1 e t (List.mem_of_getElem? ht))
    | some s =>
      have : t.id = s.id := by simpa using List.find?_some e
      rw [h.inj (List.mem_of_find?_eq_some e) (List.mem_of_getElem? ht) this.symm]
theorem rset_same {now no : Int} {L : List T} (hp : PL now no L) {id x code : Int} {l' : List U} (h : RSet (L.map T.u) id x code l') : code = setC L id x ∧ l' = (setL L id x no).map T.u := by
  unfold setL
  cases h with
  | range h =>
    have e : setC L id x = 8 := by unfold setC; rw [if_pos h]
    rw [e]; exact ⟨rfl, by rw [if_neg (by decide)]⟩
  | full h0 h1 h hf =>
    have e : setC L id x = 5 := by
      unfold setC; rw [if_neg (by show ¬ (x < 0 ∨ 1099511627776 < x); omega), if_pos ⟨find_map.1 h, by simpa using hf⟩]
    rw [e]; exact ⟨rfl, by rw [if_neg (by decide)]⟩
  | new h0 h1 h hf =>
    have e : setC L id x = 0 := by
      unfold setC; rw [if_neg (by show ¬ (x < 0 ∨ 1099511627776 < x); omega), if_neg (fun q => by have := q.2; simp at hf; omega)]
    rw [if_pos e, List.map_append, without_none (find_none.1 (find_map.1 h))]
    exact ⟨e.symm, rfl⟩
  | old h0 h1 i y hy h =>
    obtain ⟨t, ht, rfl, hf⟩ := find_nth hp.ids hy
    have h : t.id = id := h
    rw [h] at hf
    have e : setC L id x = 0 := by
      unfold setC; rw [if_neg (by show ¬ (x < 0 ∨ 1099511627776 < x); omega), if_neg (fun q => by rw [hf] at q; cases q.1)]
    rw [if_pos e, List.map_append, map_erase, erase_without hp.ids ht, h]
    exact ⟨e.symm, rfl⟩
end Go.Proofs.Ytiknkeakielncaa.Wh
