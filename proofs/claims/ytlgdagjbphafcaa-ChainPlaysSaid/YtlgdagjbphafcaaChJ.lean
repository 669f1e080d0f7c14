/- What holds of a book at all times, without places. Conditions: none. -/
import Derived.Test.YtlgdagjbphafcaaChI
namespace Go.Proofs.Ytlgdagjbphafcaa.Ch
open Go Go.Proofs Sx
set_option maxRecDepth 100000
set_option linter.unusedVariables false

inductive LinksA (es : List EA) : Option Int → List Int → Prop
  | nil : LinksA es none []
  | cons (k : Int) (e : EA) (ks : List Int) (he : e ∈ es) (hk : e.id = k) (rest : LinksA es e.behind ks) : LinksA es (some k) (k :: ks)
theorem LinksA.mem {es : List EA} {p : Option Int} {ks : List Int} (h : LinksA es p ks) : ∀ k ∈ ks, ∃ e ∈ es, e.id = k := by
  induction h with
  | nil => simp
  | cons k e ks he hk rest ih =>
    intro n hn
    rcases List.mem_cons.1 hn with rfl | hn
    · exact ⟨e, he, hk⟩
    · exact ih n hn
theorem LinksA.mono {es es' : List EA} {p : Option Int} {ks : List Int} (h : LinksA es p ks) (hs : ∀ e ∈ es, e.id ∈ ks → e ∈ es') : LinksA es' p ks := by
  induction h with
  | nil => exact .nil
  | cons k e ks he hk rest ih => exact .cons k e ks (hs e he (by simp [hk])) hk (ih fun e' h1 h2 => hs e' h1 (List.mem_cons_of_mem _ h2))
/-- Whoever stands behind one of a chain is of it, and whoever is of it is its first or stands behind one of it. -/
theorem LinksA.next {es : List EA} (hn : ∀ a ∈ es, ∀ b ∈ es, a.id = b.id → a = b) {p : Option Int} {ks : List Int} (h : LinksA es p ks) : ∀ e ∈ es, e.id ∈ ks → ∀ k, e.behind = some k → k ∈ ks := by
  induction h with
  | nil => simp
  | cons k e ks he hk rest ih =>
    intro e' h1 h2 k' h3
    rcases List.mem_cons.1 h2 with h2 | h2
    · have := hn e' h1 e he (h2.trans hk.symm)
      subst this
      rw [h3] at rest
      cases rest with
      | cons _ n ks2 h4 h5 h6 => simp
    · exact List.mem_cons_of_mem _ (ih e' h1 h2 k' h3)
theorem LinksA.prev {es : List EA} {p : Option Int} {ks : List Int} (h : LinksA es p ks) : ∀ k ∈ ks, p = some k ∨ ∃ e ∈ es, e.id ∈ ks ∧ e.behind = some k := by
  induction h with
  | nil => simp
  | cons k e ks he hk rest ih =>
    intro n hn
    rcases List.mem_cons.1 hn with rfl | hn
    · exact .inl rfl
    · right
      rcases ih n hn with h | ⟨e', h1, h2, h3⟩
      · exact ⟨e, he, by simp [hk], h⟩
      · exact ⟨e', h1, List.mem_cons_of_mem _ h2, h3⟩
/-- What holds of a book at all times. -/
structure AInv (B : BA) : Prop where
  ids : (B.es.map EA.id).Nodup
  fwd : ∀ e ∈ B.es, ∀ k, e.behind = some k → ∃ n ∈ B.es, n.id = k ∧ n.ahead = some e.id
  bwd : ∀ n ∈ B.es, ∀ a, n.ahead = some a → ∃ e ∈ B.es, e.id = a ∧ e.behind = some n.id
  self : ∀ e ∈ B.es, e.behind ≠ some e.id
  ord : B.es.Pairwise (fun a b => b.behind ≠ some a.id)
  lst : ∀ l, B.last = some l → ∀ e ∈ B.es, e.id = l → e.behind = none
  told : ∀ e ∈ B.es, e.told = true → e.ahead = none
  rdy : ∀ n ∈ B.ready, ∃ e ∈ B.es, e.id = n ∧ e.ahead = none ∧ e.told = false
  rnd : B.ready.Nodup
  all : ∀ e ∈ B.es, e.ahead = none → e.told = true ∨ e.id ∈ B.ready
theorem AInv.same {B : BA} (h : AInv B) : ∀ a ∈ B.es, ∀ b ∈ B.es, a.id = b.id → a = b := fun a ha b hb e => by
  obtain ⟨i, hi, e1⟩ := List.getElem_of_mem ha
  obtain ⟨j, hj, e2⟩ := List.getElem_of_mem hb
  have h1 : (B.es.map EA.id)[i]? = some a.id := by rw [List.getElem?_map, List.getElem?_eq_getElem hi, e1]; rfl
  have h2 : (B.es.map EA.id)[j]? = some a.id := by rw [List.getElem?_map, List.getElem?_eq_getElem hj, e2, e]; rfl
  have := (List.getElem?_inj (by rw [List.length_map]; exact hi) h.ids).1 (h1.trans h2.symm)
  subst this
  rw [← e1, ← e2]
theorem ainv_new : AInv ⟨[], [], none⟩ := ⟨.nil, by simp, by simp, by simp, .nil, by simp, by simp, by simp, .nil, by simp⟩
theorem AInv.end_ {B : BA} (h : AInv B) : AInv { B with last := none } := ⟨h.ids, h.fwd, h.bwd, h.self, h.ord, by simp, h.told, h.rdy, h.rnd, h.all⟩
theorem readyA_ids (B : BA) : (readyA B).es.map EA.id = B.es.map EA.id := by
  simp only [readyA, List.map_map]
  refine List.map_congr_left fun e _ => ?_
  simp only [Function.comp]; split <;> rfl
theorem mem_readyA {B : BA} {e : EA} : e ∈ (readyA B).es ↔ ∃ e0 ∈ B.es, e = if e0.id ∈ B.ready then { e0 with told := true } else e0 := by
  simp only [readyA, List.mem_map]
  constructor
  · rintro ⟨a, h1, h2⟩; exact ⟨a, h1, h2.symm⟩
  · rintro ⟨a, h1, h2⟩; exact ⟨a, h1, h2.symm⟩
theorem AInv.ready {B : BA} (h : AInv B) : AInv (readyA B) := by
  have key : ∀ e ∈ (readyA B).es, ∃ e0 ∈ B.es, e.id = e0.id ∧ e.behind = e0.behind ∧ e.ahead = e0.ahead ∧ (e.told = true ↔ e0.told = true ∨ e0.id ∈ B.ready) := by
    intro e he
    obtain ⟨e0, h0, rfl⟩ := mem_readyA.1 he
    refine ⟨e0, h0, ?_⟩
    by_cases hr : e0.id ∈ B.ready
    · simp [hr]
    · simp [hr]
  have back : ∀ e0 ∈ B.es, ∃ e ∈ (readyA B).es, e.id = e0.id ∧ e.behind = e0.behind ∧ e.ahead = e0.ahead := by
    intro e0 h0
    exact ⟨_, mem_readyA.2 ⟨e0, h0, rfl⟩, by split <;> exact ⟨rfl, rfl, rfl⟩⟩
  refine ⟨by rw [readyA_ids]; exact h.ids, ?_, ?_, ?_, ?_, ?_, ?_, by simp [readyA], .nil, ?_⟩
  · intro e he k hk
    obtain ⟨e0, h0, h1, h2, h3, _⟩ := key e he
    obtain ⟨n0, g0, g1, g2⟩ := h.fwd e0 h0 k (by rw [← h2]; exact hk)
    obtain ⟨n, f0, f1, f2, f3⟩ := back n0 g0
    exact ⟨n, f0, f1.trans g1, by rw [f3, g2, h1]⟩
  · intro n hn a ha
    obtain ⟨n0, h0, h1, h2, h3, _⟩ := key n hn
    obtain ⟨e0, g0, g1, g2⟩ := h.bwd n0 h0 a (by rw [← h3]; exact ha)
    obtain ⟨e, f0, f1, f2, f3⟩ := back e0 g0
    exact ⟨e, f0, f1.trans g1, by rw [f2, g2, h1]⟩
  · intro e he
    obtain ⟨e0, h0, h1, h2, _⟩ := key e he
    rw [h1, h2]; exact h.self e0 h0
  · simp only [readyA]
    refine List.pairwise_map.2 (h.ord.imp ?_)
    intro a b hab
    have : ∀ e0 : EA, (if e0.id ∈ B.ready then { e0 with told := true } else e0).behind = e0.behind ∧ (if e0.id ∈ B.ready then { e0 with told := true } else e0).id = e0.id := fun e0 => by split <;> exact ⟨rfl, rfl⟩
    rw [(this b).1, (this a).2]; exact hab
  · intro l hl e he hid
    obtain ⟨e0, h0, h1, h2, _⟩ := key e he
    rw [h2]; exact h.lst l hl e0 h0 (h1 ▸ hid)
  · intro e he ht
    obtain ⟨e0, h0, h1, h2, h3, h4⟩ := key e he
    rw [h3]
    rcases h4.1 ht with ht | hr
    · exact h.told e0 h0 ht
    · obtain ⟨e', g1, g2, g3, _⟩ := h.rdy _ hr
      have := h.same e' g1 e0 h0 g2
      rw [← this]; exact g3
  · intro e he ha
    obtain ⟨e0, h0, h1, h2, h3, h4⟩ := key e he
    left
    exact h4.2 (h.all e0 h0 (by rw [← h3]; exact ha))
theorem lnk_some {B : BA} {i : Nat} (h : lnk B = some i) : ∃ l a, B.last = some l ∧ B.es[i]? = some a ∧ a.id = l ∧ a.flags ≠ 0 := by
  unfold lnk at h
  cases hl : B.last with
  | none => rw [hl] at h; cases h
  | some l =>
    rw [hl] at h
    simp only at h
    cases hi : ixA B.es l with
    | none => rw [hi] at h; cases h
    | some j =>
      rw [hi] at h
      simp only at h
      obtain ⟨e, e1, e2⟩ := ixA_some hi
      simp only [e1] at h
      split at h
      · cases h
      · rename_i hf
        simp only [Option.some.injEq] at h; subst h
        exact ⟨l, e, rfl, e1, e2, hf⟩
theorem addA_ids {B : BA} {id fl : Int} : (addA B id fl).es.map EA.id = B.es.map EA.id ++ [id] := by
  unfold addA
  split
  · simp
  · rename_i i hi
    obtain ⟨l, a, _, ha, _, _⟩ := lnk_some hi
    simp only [List.map_append, List.map_cons, List.map_nil]
    rw [← set_modify (fun a => { a with behind := some id }) ha]
    exact congrArg (· ++ [id]) (map_set_same (f := EA.id) ha rfl)
theorem nodup_push {l : List Int} {n : Int} (h : l.Nodup) (hn : n ∉ l) : (l ++ [n]).Nodup := by
  rw [List.nodup_append]
  exact ⟨h, by simp, fun a ha b hb => by simp at hb; subst hb; exact fun e => hn (by rw [← e]; exact ha)⟩
theorem AInv.add {B : BA} (h : AInv B) {id fl : Int} (hid : id ∉ B.es.map EA.id) : AInv (addA B id fl) := by
  have hids : ((addA B id fl).es.map EA.id).Nodup := by rw [addA_ids]; exact nodup_push h.ids hid
  have hnr : id ∉ B.ready := fun hr => by obtain ⟨e, h1, h2, _⟩ := h.rdy _ hr; exact hid (List.mem_map.2 ⟨e, h1, h2⟩)
  have hne : ∀ e ∈ B.es, e.id ≠ id := fun e he e1 => hid (List.mem_map.2 ⟨e, he, e1⟩)
  have hnb : ∀ e ∈ B.es, e.behind ≠ some id := fun e he hb => by obtain ⟨n, h1, h2, _⟩ := h.fwd e he _ hb; exact hne n h1 h2
  cases hl : lnk B with
  | none =>
    have e0 : addA B id fl = ⟨B.es ++ [⟨id, fl % 4, none, none, false⟩], B.ready ++ [id], some id⟩ := by unfold addA; rw [hl]
    rw [e0] at hids ⊢
    refine ⟨hids, ?_, ?_, ?_, ?_, ?_, ?_, ?_, nodup_push h.rnd hnr, ?_⟩ <;> simp only
    · intro e he k hk
      rcases List.mem_append.1 he with he | he
      · obtain ⟨n, h1, h2, h3⟩ := h.fwd e he k hk
        exact ⟨n, List.mem_append_left _ h1, h2, h3⟩
      · simp at he; subst he; cases hk
    · intro n hn a ha
      rcases List.mem_append.1 hn with hn | hn
      · obtain ⟨e, h1, h2, h3⟩ := h.bwd n hn a ha
        exact ⟨e, List.mem_append_left _ h1, h2, h3⟩
      · simp at hn; subst hn; cases ha
    · intro e he
      rcases List.mem_append.1 he with he | he
      · exact h.self e he
      · simp at he; subst he; simp
    · refine List.pairwise_append.2 ⟨h.ord, by simp, fun a ha b hb => ?_⟩
      simp at hb; subst hb; simp
    · intro l hl' e he hid'
      simp at hl'; subst hl'
      rcases List.mem_append.1 he with he | he
      · exact absurd hid' (hne e he)
      · simp at he; subst he; rfl
    · intro e he ht
      rcases List.mem_append.1 he with he | he
      · exact h.told e he ht
      · simp at he; subst he; rfl
    · intro n hn
      rcases List.mem_append.1 hn with hn | hn
      · obtain ⟨e, h1, h2⟩ := h.rdy n hn
        exact ⟨e, List.mem_append_left _ h1, h2⟩
      · simp at hn; subst hn
        exact ⟨⟨n, fl % 4, none, none, false⟩, List.mem_append_right _ (by simp), rfl, rfl, rfl⟩
    · intro e he ha
      rcases List.mem_append.1 he with he | he
      · rcases h.all e he ha with h1 | h1
        · exact .inl h1
        · exact .inr (List.mem_append_left _ h1)
      · simp at he; subst he; exact .inr (List.mem_append_right _ (by simp))
  | some i =>
    obtain ⟨l, a, h1, h2, h3, h4⟩ := lnk_some hl
    have ha := List.mem_of_getElem? h2
    have hab : a.behind = none := h.lst l h1 a ha h3
    have hes : B.es.modify i (fun a => { a with behind := some id }) = B.es.set i { a with behind := some id } := (set_modify (fun a => { a with behind := some id }) h2).symm
    have e0 : addA B id fl = ⟨B.es.set i { a with behind := some id } ++ [⟨id, fl % 4, some l, none, false⟩], B.ready, some id⟩ := by unfold addA; rw [hl]; simp only [hes, h1]
    rw [e0] at hids ⊢
    have hset : B.es.set i { a with behind := some id } = B.es.map (fun e => if e.id = a.id then { e with behind := some id } else e) := by
      refine List.ext_getElem? fun j => ?_
      rw [List.getElem?_set, List.getElem?_map]
      have hi := (List.getElem?_eq_some_iff.1 h2).1
      by_cases hj : i = j
      · subst hj; rw [if_pos rfl, if_pos hi, h2]; simp
      · rw [if_neg hj]
        cases hx : B.es[j]? with
        | none => rfl
        | some e =>
          have : e.id ≠ a.id := fun e1 => by
            have g1 : (B.es.map EA.id)[j]? = some a.id := by rw [List.getElem?_map, hx]; simp [e1]
            have g2 : (B.es.map EA.id)[i]? = some a.id := by rw [List.getElem?_map, h2]; rfl
            exact hj ((List.getElem?_inj (by rw [List.length_map]; exact hi) h.ids).1 (g2.trans g1.symm))
          simp [this]
    have mem : ∀ e ∈ B.es.set i { a with behind := some id }, ∃ e1 ∈ B.es, e.id = e1.id ∧ e.ahead = e1.ahead ∧ e.told = e1.told ∧ ((e1.id = a.id ∧ e.behind = some id) ∨ (e1.id ≠ a.id ∧ e.behind = e1.behind)) := by
      intro e he
      rw [hset] at he
      obtain ⟨e1, g1, rfl⟩ := List.mem_map.1 he
      refine ⟨e1, g1, ?_⟩
      by_cases hx : e1.id = a.id
      · rw [if_pos hx]; exact ⟨rfl, rfl, rfl, .inl ⟨hx, rfl⟩⟩
      · rw [if_neg hx]; exact ⟨rfl, rfl, rfl, .inr ⟨hx, rfl⟩⟩
    have back : ∀ e1 ∈ B.es, ∃ e ∈ B.es.set i { a with behind := some id }, e.id = e1.id ∧ e.ahead = e1.ahead ∧ e.told = e1.told ∧ ((e1.id = a.id ∧ e.behind = some id) ∨ (e1.id ≠ a.id ∧ e.behind = e1.behind)) := by
      intro e1 g1
      rw [hset]
      refine ⟨_, List.mem_map.2 ⟨e1, g1, rfl⟩, ?_⟩
      by_cases hx : e1.id = a.id
      · rw [if_pos hx]; exact ⟨rfl, rfl, rfl, .inl ⟨hx, rfl⟩⟩
      · rw [if_neg hx]; exact ⟨rfl, rfl, rfl, .inr ⟨hx, rfl⟩⟩
    refine ⟨hids, ?_, ?_, ?_, ?_, ?_, ?_, ?_, h.rnd, ?_⟩ <;> simp only
    · intro e he k hk
      rcases List.mem_append.1 he with he | he
      · obtain ⟨e1, g1, g2, g3, g4, ⟨g5, g6⟩ | ⟨g5, g6⟩⟩ := mem e he
        · rw [g6] at hk; simp at hk; subst hk
          exact ⟨⟨id, fl % 4, some l, none, false⟩, List.mem_append_right _ (by simp), rfl, by simp [g2, g5, h3]⟩
        · obtain ⟨n, f1, f2, f3⟩ := h.fwd e1 g1 k (by rw [← g6]; exact hk)
          obtain ⟨n', q1, q2, q3, _⟩ := back n f1
          exact ⟨n', List.mem_append_left _ q1, q2.trans f2, by rw [q3, f3, g2]⟩
      · simp at he; subst he; cases hk
    · intro n hn b hb
      rcases List.mem_append.1 hn with hn | hn
      · obtain ⟨n1, g1, g2, g3, g4, _⟩ := mem n hn
        obtain ⟨e, f1, f2, f3⟩ := h.bwd n1 g1 b (by rw [← g3]; exact hb)
        obtain ⟨e', q1, q2, q3, q4, ⟨q5, q6⟩ | ⟨q5, q6⟩⟩ := back e f1
        · have := h.same e f1 a ha q5
          subst this
          rw [hab] at f3; cases f3
        · exact ⟨e', List.mem_append_left _ q1, q2.trans f2, by rw [q6, f3, g2]⟩
      · simp at hn; subst hn
        simp at hb; subst hb
        obtain ⟨e', q1, q2, q3, q4, ⟨q5, q6⟩ | ⟨q5, q6⟩⟩ := back a ha
        · exact ⟨e', List.mem_append_left _ q1, q2.trans h3, q6⟩
        · exact absurd rfl q5
    · intro e he
      rcases List.mem_append.1 he with he | he
      · obtain ⟨e1, g1, g2, g3, g4, ⟨g5, g6⟩ | ⟨g5, g6⟩⟩ := mem e he
        · rw [g6, g2]; intro e2; simp at e2; exact hne e1 g1 e2.symm
        · rw [g6, g2]; exact h.self e1 g1
      · simp at he; subst he; simp
    · refine List.pairwise_append.2 ⟨?_, by simp, fun a ha b hb => by simp at hb; subst hb; simp⟩
      rw [hset]
      refine List.pairwise_map.2 ((List.pairwise_and_iff.2 ⟨h.ord, List.pairwise_iff_forall_sublist.2 fun {p q} hpq => (⟨hpq.subset (by simp), hpq.subset (by simp)⟩ : p ∈ B.es ∧ q ∈ B.es)⟩).imp ?_)
      rintro p q ⟨hpq, hp, hq⟩
      have hid2 : (if p.id = a.id then { p with behind := some id } else p).id = p.id := by split <;> rfl
      rw [hid2]
      by_cases hx : q.id = a.id
      · rw [if_pos hx]; intro e2; simp at e2; exact hne p hp e2.symm
      · rw [if_neg hx]; exact hpq
    · intro l' hl' e he hid'
      simp at hl'; subst hl'
      rcases List.mem_append.1 he with he | he
      · obtain ⟨e1, g1, g2, _⟩ := mem e he
        exact absurd (g2 ▸ hid') (hne e1 g1)
      · simp at he; subst he; rfl
    · intro e he ht
      rcases List.mem_append.1 he with he | he
      · obtain ⟨e1, g1, g2, g3, g4, _⟩ := mem e he
        rw [g3]; exact h.told e1 g1 (by rw [← g4]; exact ht)
      · simp at he; subst he; cases ht
    · intro n hn
      obtain ⟨e1, g1, g2, g3, g4⟩ := h.rdy n hn
      obtain ⟨e, q1, q2, q3, q4, _⟩ := back e1 g1
      exact ⟨e, List.mem_append_left _ q1, q2.trans g2, q3.trans g3, q4.trans g4⟩
    · intro e he hah
      rcases List.mem_append.1 he with he | he
      · obtain ⟨e1, g1, g2, g3, g4, _⟩ := mem e he
        rw [g4, g2]; exact h.all e1 g1 (by rw [← g3]; exact hah)
      · simp at he; subst he; cases hah
end Go.Proofs.Ytlgdagjbphafcaa.Ch
