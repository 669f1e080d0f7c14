/- agenda: what it answers, told of its items in the order in which they came. Conditions: none. -/
import Derived.Test.YtiknkeakielncaaAgJ
namespace Go.Proofs.Ytiknkeakielncaa.Ag
open Go Go.Proofs Sx
set_option maxRecDepth 100000
set_option linter.unusedVariables false
set_option linter.unusedSimpArgs false
set_option maxHeartbeats 4000000

theorem Does.wrap {P : Program} {g : FuncId} {vals : Array Value} {R : HP → Prop} {ι : Type} {pre : ι → List Asn} {Q : ι → Value → List Asn → Prop} {A : List Asn} {Q' : Value → List Asn → Prop} (he : Enters P g)
    (hA : ∀ h, sat A h → ∃ i, sat (pre i) h) (hd : ∀ i, Does P g vals R (pre i) (Q i)) (hq : ∀ i v p h, Q i v p → sat p h → ∃ p', Q' v p' ∧ sat p' h) : Does P g vals R A Q' :=
  ⟨he, fun f w hR ⟨x, s, k⟩ => by
    obtain ⟨i, k⟩ := hA x k
    refine ((hd i).run f w hR ⟨x, s, k⟩).mono ?_
    rintro _ _ ⟨v, post, h1, ⟨y, s2, k2⟩, h3, h4⟩
    obtain ⟨p', a, b⟩ := hq i v post y h3 k2
    exact ⟨v, p', h1, ⟨y, s2, b⟩, a, h4⟩⟩
theorem find_none {L : List En} {id : Int} : L.find? (fun t => id == t.id) = none ↔ ∀ t ∈ L, t.id ≠ id := by
  rw [List.find?_eq_none]
  constructor
  · intro h t ht e; exact h t ht (by simp [e])
  · intro h t ht; simpa using fun e : id = t.id => h t ht e.symm
theorem find_perm {L M : List En} {id : Int} (h : Ids L) (p : L.Perm M) : L.find? (fun t => id == t.id) = M.find? (fun t => id == t.id) := by
  cases e : L.find? (fun t => id == t.id) with
  | none => exact (find_none.2 fun t ht => find_none.1 e t (p.mem_iff.2 ht)).symm
  | some t =>
    cases e2 : M.find? (fun t => id == t.id) with
    | none => exact absurd (by have := List.find?_some e; simp at this; exact this.symm) (find_none.1 e2 t (p.mem_iff.1 (List.mem_of_find?_eq_some e)))
    | some u =>
      have h1 : id = t.id := by simpa using List.find?_some e
      have h2 : id = u.id := by simpa using List.find?_some e2
      rw [h.inj (List.mem_of_find?_eq_some e) (p.mem_iff.2 (List.mem_of_find?_eq_some e2)) (by omega)]
def without (id : Int) (l : List En) : List En := l.filter (fun t => t.id != id)
theorem without_none {id : Int} {l : List En} (h : ∀ t ∈ l, t.id ≠ id) : without id l = l := by
  rw [without, List.filter_eq_self]
  intro a ha
  simpa using h a ha
theorem delT_without {L : List En} (h : Ids L) (id : Int) : delT id L = without id L := by
  induction h with
  | nil => rfl
  | @cons a l hx _ ih =>
    unfold delT without at *
    by_cases e : id = a.id
    · rw [List.eraseP_cons_of_pos (by simp [e]), List.filter_cons_of_neg (by simp [e])]
      exact (without_none (fun t ht => by have := hx t ht; rw [e]; exact Ne.symm this)).symm
    · rw [List.eraseP_cons_of_neg (by simpa using e), List.filter_cons_of_pos (by simpa using fun q : a.id = id => e q.symm), ih]
structure PM (most no : Int) (M : List En) : Prop where
  m0 : 1 ≤ most
  m1 : most ≤ 4096
  no0 : 0 ≤ no
  ord : M.Pairwise (fun a b => a.no < b.no)
  ids : Ids M
  nb : ∀ t ∈ M, t.no < no
  few : (M.length : Int) ≤ most
structure AR (g : Ag) (H K : List En) (most no : Int) (M : List En) : Prop where
  hm : g.most = most
  hn : g.no = no
  hp : H.Perm M
  kp : K.Perm M
  heap : Heap H H.length
  cap : H.length ≤ g.cap
def AA (b : Nat) (most no : Int) (M : List En) : Asn := fun h => ∃ g H K, AR g H K most no M ∧ sat (Ga b g H K) h
structure Ix (most no : Int) (M : List En) where
  g : Ag
  H : List En
  K : List En
  ar : AR g H K most no M
theorem aa_in {b : Nat} {most no : Int} {M : List En} {g : Ag} {H K : List En} (hw : AR g H K most no M) {As : List Asn} {h : HP} (k : sat (Ga b g H K ++ As) h) : sat (AA b most no M :: As) h := by
  obtain ⟨x, y, s, hx, hy⟩ := sat_append k
  exact ⟨x, y, s, ⟨g, H, K, hw, hx⟩, hy⟩
theorem aa_out {b : Nat} {most no : Int} {M : List En} {h : HP} (k : sat [AA b most no M] h) : ∃ z : Ix most no M, sat (Ga b z.g z.H z.K) h := by
  obtain ⟨x, y, s, ⟨g, H, K, hw, hx⟩, _⟩ := k
  exact ⟨⟨g, H, K, hw⟩, sat_more s.comm hx⟩
/-- The head and the map ahead. -/
theorem aa_out2 {b : Nat} {most no : Int} {M : List En} {h : HP} (k : sat [AA b most no M] h) : ∃ z : Ix most no M, sat ([Hd b z.g z.H.length, MapA z.g.mb KI (z.K.map En.ent)] ++ [HV z.g z.H, Es z.H]) h := by
  obtain ⟨z, k⟩ := aa_out k
  refine ⟨z, sat_perm ?_ k⟩
  exact List.Perm.cons _ (List.perm_middle (l₁ := [HV z.g z.H, Es z.H]) (l₂ := []))
theorem aa_in2 {b : Nat} {most no : Int} {M : List En} {g : Ag} {H K : List En} (hw : AR g H K most no M) {h : HP} (k : sat ([Hd b g H.length, MapA g.mb KI (K.map En.ent)] ++ [HV g H, Es H]) h) : sat [AA b most no M] h := by
  refine aa_in hw (sat_perm ?_ k)
  rw [List.append_nil]
  exact List.Perm.cons _ (List.perm_middle (l₁ := [HV g H, Es H]) (l₂ := [])).symm
theorem anew_spec (x : Int) (h0 : 1 ≤ x) (h1 : x ≤ 4096) : Does Try.prog 30 #[.int .i64 x] (fun _ => True) [] (fun v p => ∃ b, v = .tuple #[ap b, .int .i64 0] ∧ p = [AA b x 0 []]) := by
  refine Does.wrap (ι := Unit) (pre := fun _ => []) (Q := fun _ v p => ∃ b mb, v = .tuple #[ap b, .int .i64 0] ∧ p = Ga b (g0 x mb) [] []) Try.call30 (fun h k => ⟨(), k⟩) (fun _ => new_spec x h0 h1) ?_
  rintro _ v p h ⟨b, mb, rfl, rfl⟩ k
  exact ⟨_, ⟨b, rfl, rfl⟩, aa_in (g := g0 x mb) (H := []) (K := []) ⟨rfl, rfl, List.Perm.refl _, List.Perm.refl _, fun k x y k0 kn => absurd kn (Nat.not_lt_zero k), Nat.le_refl _⟩ (by rw [List.append_nil]; exact k)⟩
theorem alen_spec (b : Nat) (most no : Int) (M : List En) : Does Try.prog 35 #[ap b] (fun _ => True) [AA b most no M] (fun v p => v = .int .i64 M.length ∧ p = [AA b most no M]) := by
  refine Does.wrap Try.call35 (fun h k => aa_out2 k) (fun z => frameOf _ (len_spec b z.g z.H.length z.K)) ?_
  rintro z v p h ⟨q, ⟨rfl, rfl⟩, rfl⟩ k
  exact ⟨_, ⟨by rw [z.ar.kp.length_eq], rfl⟩, aa_in2 z.ar k⟩
theorem aall_spec (b : Nat) (most no : Int) (M : List En) (hp : PM most no M) : Does Try.prog 63 #[ap b] (fun _ => True) [AA b most no M] (fun v p => ∃ S pl c, v = .slice (locAddr 0 pl) S.length c ∧ Sorted M S ∧ S.length ≤ c ∧ p = [AA b most no M, Vec pl 65 3 c (TL.flat S)]) := by
  refine Does.wrap Try.call63 (fun h k => aa_out k) (fun z => frameOf [MapA z.g.mb KI (z.K.map En.ent)] (all_spec b z.g z.H (by have := z.ar.hp.length_eq; have := hp.few; have := hp.m1; omega))) ?_
  rintro z v p h ⟨q, ⟨S, pl, c, rfl, hS, hc, rfl⟩, rfl⟩ k
  refine ⟨_, ⟨S, pl, c, rfl, ⟨hS.perm.trans z.ar.hp, hS.ord⟩, hc, rfl⟩, aa_in z.ar (sat_perm ?_ k)⟩
  unfold Ga
  rw [List.append_assoc, List.append_assoc]
  exact List.Perm.append_left _ (List.Perm.swap _ _ _)
theorem atop_none (b : Nat) (most no : Int) : Does Try.prog 62 #[ap b] (fun _ => True) [AA b most no []] (fun v p => v = .tuple #[.agg E0.item.toArray, .bool false] ∧ p = [AA b most no []]) := by
  refine Does.wrap Try.call62 (fun h k => aa_out2 k) (fun z => frameOf [MapA z.g.mb KI (z.K.map En.ent), HV z.g z.H, Es z.H] (show Does Try.prog 62 #[ap b] (fun _ => True) [Hd b z.g z.H.length] (fun v p => v = .tuple #[.agg E0.item.toArray, .bool false] ∧ p = [Hd b z.g z.H.length]) by have h := top_none b z.g; have e : z.H = [] := List.perm_nil.1 z.ar.hp; rw [e]; exact h)) ?_
  rintro z v p h ⟨q, ⟨rfl, rfl⟩, rfl⟩ k
  have e : z.H = [] := List.perm_nil.1 z.ar.hp
  exact ⟨_, ⟨rfl, rfl⟩, aa_in2 z.ar (by rw [e] at k ⊢; exact k)⟩
theorem atop_some (b : Nat) (most no : Int) (M : List En) (hne : M ≠ []) : Does Try.prog 62 #[ap b] (fun _ => True) [AA b most no M] (fun v p => ∃ x, v = .tuple #[.agg x.item.toArray, .bool true] ∧ x ∈ M ∧ (∀ y ∈ M, LeE x y) ∧ p = [AA b most no M]) := by
  have key : ∀ z : Ix most no M, ∃ x, z.H[0]? = some x := fun z => by
    cases e : z.H with
    | nil => exact absurd (List.nil_perm.1 (by rw [← e]; exact z.ar.hp)) hne
    | cons x H => exact ⟨x, rfl⟩
  refine Does.wrap Try.call62 (Q := fun z v p => ∃ x, z.H[0]? = some x ∧ v = .tuple #[.agg x.item.toArray, .bool true] ∧ p = Hp b z.g z.H ++ [MapA z.g.mb KI (z.K.map En.ent)]) (fun h k => aa_out k) (fun z => by
    obtain ⟨x, hx⟩ := key z
    exact (frameOf [MapA z.g.mb KI (z.K.map En.ent)] (top_some b z.g z.H x hx)).mono (by rintro v p ⟨q, ⟨rfl, rfl⟩, rfl⟩; exact ⟨x, hx, rfl, rfl⟩)) ?_
  rintro z v p h ⟨x, hx, rfl, rfl⟩ k
  refine ⟨_, ⟨x, rfl, z.ar.hp.mem_iff.1 (List.mem_of_getElem? hx), fun y hy => ?_, rfl⟩, aa_in z.ar (by rw [List.append_nil]; exact k)⟩
  obtain ⟨i, hi⟩ := List.getElem?_of_mem (z.ar.hp.mem_iff.2 hy)
  exact heap_top z.ar.heap (Nat.le_refl _) hx i y (List.getElem?_eq_some_iff.1 hi).1 hi
/-- What Push answers. -/
def pushC (M : List En) (most id : Int) : Int := if (M.find? (fun t => id == t.id)).isSome then 140 else if (M.length : Int) = most then 5 else 0
theorem pm_push {most no : Int} {M : List En} (h : PM most no M) {x : En} (hc : pushC M most x.id = 0) (c : Nat) : PM most (no + 1) (M ++ [⟨c, x.id, x.at_, x.rank, no⟩]) := by
  unfold pushC at hc
  split at hc
  · cases hc
  rename_i h1
  split at hc
  · cases hc
  rename_i h2
  have hf : M.find? (fun t => x.id == t.id) = none := by simpa using h1
  refine ⟨h.m0, h.m1, by have := h.no0; omega, ?_, ?_, fun t ht => ?_, ?_⟩
  · rw [List.pairwise_append]
    exact ⟨h.ord, by simp, fun a ha b hb => by simp at hb; subst hb; exact h.nb a ha⟩
  · unfold Ids; rw [List.pairwise_append]
    exact ⟨h.ids, by simp, fun a ha b hb => by simp at hb; subst hb; exact find_none.1 hf a ha⟩
  · rcases List.mem_append.1 ht with ht | ht
    · have := h.nb t ht; omega
    · simp at ht; subst ht; show no < no + 1; omega
  · have := h.few
    rw [List.length_append, List.length_singleton]; omega
theorem apush_no (b : Nat) (most no : Int) (M : List En) (hp : PM most no M) (x : En) (hc : pushC M most x.id ≠ 0) : Does Try.prog 32 #[ap b, .agg x.item.toArray] (fun _ => True) [AA b most no M] (fun v p => v = .int .i64 (pushC M most x.id) ∧ p = [AA b most no M]) := by
  refine Does.wrap (Q := fun z v p => v = .int .i64 (pushC M most x.id) ∧ p = Ga b z.g z.H z.K) Try.call32 (fun h k => aa_out k) (fun z => ?_) ?_
  · have hik := hp.ids.perm z.ar.kp.symm
    have hf := find_perm (id := x.id) hik z.ar.kp
    unfold pushC at hc ⊢
    cases e : M.find? (fun t => x.id == t.id) with
    | some t =>
      rw [e] at hf hc
      exact (push_same b z.g z.H z.K x t hf).mono (by rintro v p ⟨rfl, rfl⟩; exact ⟨rfl, rfl⟩)
    | none =>
      rw [e] at hf hc
      by_cases h2 : (M.length : Int) = most
      · simp only [Option.isSome_none, Bool.false_eq_true, if_false, if_pos h2]
        exact (push_full b z.g z.H z.K x hf (by rw [z.ar.kp.length_eq, z.ar.hm]; exact h2)).mono (by rintro v p ⟨rfl, rfl⟩; exact ⟨rfl, rfl⟩)
      · simp [h2] at hc
  · rintro z v p h ⟨rfl, rfl⟩ k
    exact ⟨_, ⟨rfl, rfl⟩, aa_in z.ar (by rw [List.append_nil]; exact k)⟩
theorem apush_ok (b : Nat) (most no : Int) (M : List En) (hp : PM most no M) (hno : no ≤ 1000000) (x : En) (hc : pushC M most x.id = 0) : Does Try.prog 32 #[ap b, .agg x.item.toArray] (fun _ => True) [AA b most no M] (fun v p => ∃ c, v = .int .i64 0 ∧ p = [AA b most (no + 1) (M ++ [⟨c, x.id, x.at_, x.rank, no⟩])]) := by
  unfold pushC at hc
  split at hc
  · cases hc
  rename_i h1
  split at hc
  · cases hc
  rename_i h2
  have hf : M.find? (fun t => x.id == t.id) = none := by simpa using h1
  have hfew := hp.few
  have hm1 := hp.m1
  refine Does.wrap Try.call32 (fun h k => aa_out k) (fun z => push_ok b z.g z.H z.K x (by rw [find_perm (hp.ids.perm z.ar.kp.symm) z.ar.kp]; exact hf) (by rw [z.ar.kp.length_eq, z.ar.hm]; exact h2) (by have := z.ar.hp.length_eq; omega) z.ar.cap z.ar.heap (by rw [z.ar.hn]; exact ⟨hp.no0, hno⟩)) ?_
  rintro z v p h ⟨c, pl, cap, H', rfl, h3, h4, h5, rfl⟩ k
  rw [z.ar.hn] at h4 k
  refine ⟨_, ⟨c, rfl, rfl⟩, aa_in (g := ⟨z.g.most, no + 1, pl, cap, z.g.mb⟩) ⟨z.ar.hm, rfl, h4.trans (z.ar.hp.append (List.Perm.refl _)), z.ar.kp.append (List.Perm.refl _), h5, h3⟩ (by rw [List.append_nil]; exact k)⟩
end Go.Proofs.Ytiknkeakielncaa.Ag
