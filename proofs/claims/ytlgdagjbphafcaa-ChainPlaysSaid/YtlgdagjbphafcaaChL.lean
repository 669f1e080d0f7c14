/- What holds of a book holds behind the end of an entry. Conditions: none. -/
import Derived.Test.YtlgdagjbphafcaaChK
namespace Go.Proofs.Ytlgdagjbphafcaa.Ch
open Go Go.Proofs Sx
set_option maxRecDepth 100000
set_option linter.unusedVariables false

theorem mem_freeA {k : Int} {es : List EA} {e : EA} : e ∈ freeA k es ↔ ∃ e0 ∈ es, e = if e0.id = k then { e0 with ahead := none } else e0 := by
  simp only [freeA, List.mem_map]
  constructor
  · rintro ⟨a, h1, h2⟩; exact ⟨a, h1, h2.symm⟩
  · rintro ⟨a, h1, h2⟩; exact ⟨a, h1, h2.symm⟩
theorem freeA_ids (k : Int) (es : List EA) : (freeA k es).map EA.id = es.map EA.id := by
  simp only [freeA, List.map_map]
  refine List.map_congr_left fun e _ => ?_
  simp only [Function.comp]; split <;> rfl
theorem AInv.ends {B B' : BA} {id : Int} {ok : Bool} {g : List Int} {r : Int} (inv : AInv B) (h : EndsA B id ok g r B') : AInv B' := by
  cases h with
  | no h => exact inv
  | last e he hid ht hb =>
    have ha := inv.told e he ht
    have hs : (lessA id B.es).Sublist B.es := List.filter_sublist
    have hrd : id ∉ B.ready := fun h => by
      obtain ⟨e', h1, h2, _, h4⟩ := inv.rdy _ h
      have := inv.same e' h1 e he (h2.trans hid.symm)
      subst this; rw [ht] at h4; cases h4
    refine ⟨(hs.map _).nodup inv.ids, ?_, ?_, fun a h => inv.self a (hs.subset h), inv.ord.sublist hs, fun l hl a h => inv.lst l hl a (hs.subset h), fun a h => inv.told a (hs.subset h), ?_, inv.rnd, fun a h => inv.all a (hs.subset h)⟩
    · intro a h k hk
      obtain ⟨h1, h2⟩ := mem_lessA.1 h
      obtain ⟨n, n1, n2, n3⟩ := inv.fwd a h1 k hk
      refine ⟨n, mem_lessA.2 ⟨n1, fun e1 => ?_⟩, n2, n3⟩
      have := inv.same n n1 e he (e1.trans hid.symm)
      subst this; rw [ha] at n3; cases n3
    · intro n h a hn
      obtain ⟨h1, h2⟩ := mem_lessA.1 h
      obtain ⟨p, p1, p2, p3⟩ := inv.bwd n h1 a hn
      refine ⟨p, mem_lessA.2 ⟨p1, fun e1 => ?_⟩, p2, p3⟩
      have := inv.same p p1 e he (e1.trans hid.symm)
      subst this; rw [hb] at p3; cases p3
    · intro n hn
      obtain ⟨a, a1, a2, a3⟩ := inv.rdy n hn
      exact ⟨a, mem_lessA.2 ⟨a1, fun e1 => hrd (by rw [← e1, a2]; exact hn)⟩, a2, a3⟩
  | next e k he hid ht hb hok =>
    have ha := inv.told e he ht
    obtain ⟨n, n1, n2, n3⟩ := inv.fwd e he k hb
    have hkid : k ≠ id := fun e1 => inv.self e he (by rw [hb, e1, hid])
    have hrd : id ∉ B.ready := fun h => by
      obtain ⟨e', h1, h2, _, h4⟩ := inv.rdy _ h
      have := inv.same e' h1 e he (h2.trans hid.symm)
      subst this; rw [ht] at h4; cases h4
    have hkr : k ∉ B.ready := fun h => by
      obtain ⟨e', h1, h2, h3, _⟩ := inv.rdy _ h
      have := inv.same e' h1 n n1 (h2.trans n2.symm)
      subst this; rw [n3] at h3; cases h3
    have hnt : n.told = false := by
      cases h : n.told with
      | false => rfl
      | true => have := inv.told n n1 h; rw [n3] at this; cases this
    have key : ∀ z ∈ freeA k (lessA id B.es), ∃ z0 ∈ B.es, z0.id ≠ id ∧ z.id = z0.id ∧ z.behind = z0.behind ∧ z.told = z0.told ∧ ((z0.id = k ∧ z.ahead = none) ∨ (z0.id ≠ k ∧ z.ahead = z0.ahead)) := by
      intro z hz
      obtain ⟨z0, h0, rfl⟩ := mem_freeA.1 hz
      obtain ⟨h1, h2⟩ := mem_lessA.1 h0
      refine ⟨z0, h1, h2, ?_⟩
      by_cases hk : z0.id = k
      · rw [if_pos hk]; exact ⟨rfl, rfl, rfl, .inl ⟨hk, rfl⟩⟩
      · rw [if_neg hk]; exact ⟨rfl, rfl, rfl, .inr ⟨hk, rfl⟩⟩
    have back : ∀ z0 ∈ B.es, z0.id ≠ id → ∃ z ∈ freeA k (lessA id B.es), z.id = z0.id ∧ z.behind = z0.behind ∧ z.told = z0.told ∧ ((z0.id = k ∧ z.ahead = none) ∨ (z0.id ≠ k ∧ z.ahead = z0.ahead)) := by
      intro z0 h0 h1
      refine ⟨_, mem_freeA.2 ⟨z0, mem_lessA.2 ⟨h0, h1⟩, rfl⟩, ?_⟩
      by_cases hk : z0.id = k
      · rw [if_pos hk]; exact ⟨rfl, rfl, rfl, .inl ⟨hk, rfl⟩⟩
      · rw [if_neg hk]; exact ⟨rfl, rfl, rfl, .inr ⟨hk, rfl⟩⟩
    refine ⟨by simp only; rw [freeA_ids]; exact less_nodup inv.ids id, ?_, ?_, ?_, ?_, ?_, ?_, ?_, nodup_push inv.rnd hkr, ?_⟩ <;> simp only
    · intro a h q hq
      obtain ⟨a0, a1, a2, a3, a4, a5, _⟩ := key a h
      obtain ⟨m, m1, m2, m3⟩ := inv.fwd a0 a1 q (by rw [← a4]; exact hq)
      have hmid : m.id ≠ id := fun e1 => by
        have := inv.same m m1 e he (e1.trans hid.symm)
        subst this; rw [ha] at m3; cases m3
      obtain ⟨z, z1, z2, z3, z4, ⟨z5, z6⟩ | ⟨z5, z6⟩⟩ := back m m1 hmid
      · exfalso
        have := inv.same m m1 n n1 (z5.trans n2.symm)
        subst this
        rw [n3] at m3
        simp at m3
        exact a2 (by rw [← m3]; exact hid)
      · exact ⟨z, z1, z2.trans m2, by rw [z6, m3, a3]⟩
    · intro m h a hm
      obtain ⟨m0, m1, m2, m3, m4, m5, ⟨m6, m7⟩ | ⟨m6, m7⟩⟩ := key m h
      · rw [m7] at hm; cases hm
      · obtain ⟨p, p1, p2, p3⟩ := inv.bwd m0 m1 a (by rw [← m7]; exact hm)
        have hpid : p.id ≠ id := fun e1 => by
          have := inv.same p p1 e he (e1.trans hid.symm)
          subst this; rw [hb] at p3; simp at p3; exact m6 p3.symm
        obtain ⟨z, z1, z2, z3, _⟩ := back p p1 hpid
        exact ⟨z, z1, z2.trans p2, by rw [z3, p3, m3]⟩
    · intro a h
      obtain ⟨a0, a1, a2, a3, a4, _⟩ := key a h
      rw [a4, a3]; exact inv.self a0 a1
    · have hs : (lessA id B.es).Sublist B.es := List.filter_sublist
      refine List.pairwise_map.2 ((inv.ord.sublist hs).imp ?_)
      intro p q hpq
      have : ∀ z : EA, (if z.id = k then { z with ahead := none } else z).behind = z.behind ∧ (if z.id = k then { z with ahead := none } else z).id = z.id := fun z => by split <;> exact ⟨rfl, rfl⟩
      rw [(this q).1, (this p).2]; exact hpq
    · intro l hl a h hal
      obtain ⟨a0, a1, a2, a3, a4, _⟩ := key a h
      rw [a4]; exact inv.lst l hl a0 a1 (a3 ▸ hal)
    · intro a h hat
      obtain ⟨a0, a1, a2, a3, a4, a5, ⟨a6, a7⟩ | ⟨a6, a7⟩⟩ := key a h
      · exact a7
      · rw [a7]; exact inv.told a0 a1 (by rw [← a5]; exact hat)
    · intro q hq
      rcases List.mem_append.1 hq with hq | hq
      · obtain ⟨a, a1, a2, a3, a4⟩ := inv.rdy q hq
        obtain ⟨z, z1, z2, z3, z4, z5⟩ := back a a1 (fun e1 => hrd (by rw [← e1, a2]; exact hq))
        refine ⟨z, z1, z2.trans a2, ?_, z4.trans a4⟩
        rcases z5 with ⟨_, z6⟩ | ⟨_, z6⟩
        · exact z6
        · rw [z6]; exact a3
      · simp at hq; subst hq
        obtain ⟨z, z1, z2, z3, z4, z5⟩ := back n n1 (by rw [n2]; exact hkid)
        refine ⟨z, z1, z2.trans n2, ?_, z4.trans hnt⟩
        rcases z5 with ⟨_, z6⟩ | ⟨z5, _⟩
        · exact z6
        · exact absurd n2 z5
    · intro a h hah
      obtain ⟨a0, a1, a2, a3, a4, a5, ⟨a6, a7⟩ | ⟨a6, a7⟩⟩ := key a h
      · right; rw [a3, a6]; simp
      · rcases inv.all a0 a1 (by rw [← a7]; exact hah) with h1 | h1
        · left; rw [a5]; exact h1
        · right; rw [a3]; exact List.mem_append_left _ h1
  | gone e k ks he hid ht hb hok hf hl hn =>
    have ha := inv.told e he ht
    have hs : (notA g (lessA id B.es)).Sublist B.es := (List.filter_sublist).trans List.filter_sublist
    have hmem : ∀ {a : EA}, a ∈ notA g (lessA id B.es) ↔ a ∈ B.es ∧ a.id ≠ id ∧ a.id ∉ g := fun {a} => by
      rw [mem_notA, mem_lessA, and_assoc]
    have hsame : ∀ a ∈ lessA id B.es, ∀ b ∈ lessA id B.es, a.id = b.id → a = b := fun a h b h' => inv.same a (mem_lessA.1 h).1 b (mem_lessA.1 h').1
    have hkg : k ∈ g := by cases hl; simp
    -- one that is gone has somebody ahead of it
    have hahead : ∀ a ∈ B.es, a.id ∈ g → ∃ p ∈ B.es, (p.id = id ∨ p.id ∈ g) ∧ a.ahead = some p.id := by
      intro a h1 h2
      rcases hl.prev a.id h2 with h | ⟨p, p1, p2, p3⟩
      · simp at h
        obtain ⟨n, n1, n2, n3⟩ := inv.fwd e he k hb
        have := inv.same n n1 a h1 (n2.trans h)
        subst this
        exact ⟨e, he, .inl hid, n3⟩
      · obtain ⟨p4, _⟩ := mem_lessA.1 p1
        obtain ⟨n, n1, n2, n3⟩ := inv.fwd p p4 a.id p3
        have := inv.same n n1 a h1 n2
        subst this
        exact ⟨p, p4, .inr p2, n3⟩
    refine ⟨(hs.map _).nodup inv.ids, ?_, ?_, fun a h => inv.self a (hs.subset h), inv.ord.sublist hs, fun l hl a h => inv.lst l hl a (hs.subset h), fun a h => inv.told a (hs.subset h), ?_, inv.rnd, fun a h => inv.all a (hs.subset h)⟩
    · intro a h q hq
      obtain ⟨h1, h2, h3⟩ := hmem.1 h
      obtain ⟨n, n1, n2, n3⟩ := inv.fwd a h1 q hq
      refine ⟨n, hmem.2 ⟨n1, fun e1 => ?_, fun e1 => ?_⟩, n2, n3⟩
      · have := inv.same n n1 e he (e1.trans hid.symm)
        subst this; rw [ha] at n3; cases n3
      · obtain ⟨p, p1, p2, p3⟩ := hahead n n1 e1
        rw [n3] at p3
        simp at p3
        rcases p2 with p2 | p2
        · exact h2 (p3.trans p2)
        · exact h3 (by rw [p3]; exact p2)
    · intro n h a hna
      obtain ⟨h1, h2, h3⟩ := hmem.1 h
      obtain ⟨p, p1, p2, p3⟩ := inv.bwd n h1 a hna
      refine ⟨p, hmem.2 ⟨p1, fun e1 => ?_, fun e1 => ?_⟩, p2, p3⟩
      · have := inv.same p p1 e he (e1.trans hid.symm)
        subst this; rw [hb] at p3; simp at p3
        exact h3 (by rw [← p3]; exact hkg)
      · have hp : p.id ≠ id := fun e1' => by
          have := inv.same p p1 e he (e1'.trans hid.symm)
          subst this; rw [hb] at p3; simp at p3
          exact h3 (by rw [← p3]; exact hkg)
        exact h3 (hl.next hsame p (mem_lessA.2 ⟨p1, hp⟩) e1 n.id p3)
    · intro n hn
      obtain ⟨a, a1, a2, a3, a4⟩ := inv.rdy n hn
      refine ⟨a, hmem.2 ⟨a1, fun e1 => ?_, fun e1 => ?_⟩, a2, a3, a4⟩
      · have := inv.same a a1 e he (e1.trans hid.symm)
        subst this; rw [ht] at a4; cases a4
      · obtain ⟨p, _, _, p3⟩ := hahead a a1 e1
        rw [a3] at p3; cases p3
end Go.Proofs.Ytlgdagjbphafcaa.Ch
