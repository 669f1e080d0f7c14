/- agenda: Move, Drop, Pop, told of its items. Conditions: none. -/
import Derived.Test.YtiknkeakielncaaAgK
namespace Go.Proofs.Ytiknkeakielncaa.Ag
open Go Go.Proofs Sx
set_option maxRecDepth 100000
set_option linter.unusedVariables false
set_option linter.unusedSimpArgs false
set_option maxHeartbeats 4000000

theorem mv_id (id x r : Int) (t : En) : (mv id x r t).id = t.id := by unfold mv; split <;> rfl
theorem mv_no (id x r : Int) (t : En) : (mv id x r t).no = t.no := by unfold mv; split <;> rfl
theorem pm_move {most no : Int} {M : List En} (h : PM most no M) (id x r : Int) : PM most no (M.map (mv id x r)) := by
  refine ⟨h.m0, h.m1, h.no0, ?_, ?_, fun t ht => ?_, by rw [List.length_map]; exact h.few⟩
  · rw [List.pairwise_map]
    exact h.ord.imp fun {a b} q => by rw [mv_no, mv_no]; exact q
  · unfold Ids; rw [List.pairwise_map]
    exact h.ids.imp fun {a b} q => by rw [mv_id, mv_id]; exact q
  · obtain ⟨s, hs, rfl⟩ := List.mem_map.1 ht
    rw [mv_no]; exact h.nb s hs
theorem mv_miss {id x r : Int} {M : List En} (h : M.find? (fun t => id == t.id) = none) : M.map (mv id x r) = M := by
  rw [List.map_congr_left (g := fun t => t) fun t ht => ?_, List.map_id']
  unfold mv
  rw [if_neg (find_none.1 h t ht)]
theorem pm_drop {most no : Int} {M : List En} (h : PM most no M) (id : Int) : PM most no (without id M) :=
  ⟨h.m0, h.m1, h.no0, h.ord.filter _, h.ids.filter _, fun t ht => h.nb t (List.mem_filter.1 ht).1, by have := h.few; have : (without id M).length ≤ M.length := List.length_filter_le _ _; omega⟩
theorem lenH {most no : Int} {M : List En} (hp : PM most no M) (z : Ix most no M) : z.H.length ≤ 90000 := by
  have := z.ar.hp.length_eq; have := hp.few; have := hp.m1; omega
theorem amove_spec (b : Nat) (most no : Int) (M : List En) (hp : PM most no M) (id x r : Int) : Does Try.prog 55 #[ap b, .int .i64 id, .int .i64 x, .int .i64 r] (fun _ => True) [AA b most no M]
    (fun v p => v = .int .i64 (if (M.find? (fun t => id == t.id)).isSome then 0 else 6) ∧ p = [AA b most no (M.map (mv id x r))]) := by
  cases e : M.find? (fun t => id == t.id) with
  | none =>
    refine Does.wrap Try.call55 (fun h k => aa_out2 k) (fun z => frameOf _ (move_none b z.g z.H.length z.K id x r (by rw [find_perm (hp.ids.perm z.ar.kp.symm) z.ar.kp]; exact e))) ?_
    rintro z v p h ⟨q, ⟨rfl, rfl⟩, rfl⟩ k
    exact ⟨_, ⟨rfl, rfl⟩, by rw [mv_miss e]; exact aa_in2 z.ar k⟩
  | some t =>
    have ht : id = t.id := by simpa using List.find?_some e
    subst ht
    have htM := List.mem_of_find?_eq_some e
    refine Does.wrap Try.call55 (Q := fun z v p => ∃ H', v = .int .i64 0 ∧ H'.Perm (z.H.map (mv t.id x r)) ∧ Heap H' H'.length ∧ p = Ga b z.g H' (z.K.map (mv t.id x r))) (fun h k => aa_out k) (fun z => ?_) ?_
    · obtain ⟨i, hi⟩ := List.getElem?_of_mem (z.ar.hp.mem_iff.2 htM)
      exact move_ok b z.g z.H z.K t x r (by rw [find_perm (hp.ids.perm z.ar.kp.symm) z.ar.kp]; exact e) i hi (hp.ids.perm z.ar.hp.symm) z.ar.heap (lenH hp z)
    · rintro z v p h ⟨H', rfl, h1, h2, rfl⟩ k
      refine ⟨_, ⟨rfl, rfl⟩, aa_in ⟨z.ar.hm, z.ar.hn, h1.trans (z.ar.hp.map _), z.ar.kp.map _, h2, ?_⟩ (by rw [List.append_nil]; exact k)⟩
      have := z.ar.cap
      rw [h1.length_eq, List.length_map]; exact this
theorem without_of {H H' : List En} {e : En} (hi : Ids H) (hp : (H' ++ [e]).Perm H) : H'.Perm (without e.id H) := by
  have h1 : (without e.id (H' ++ [e])).Perm (without e.id H) := hp.filter _
  have hi2 : Ids (H' ++ [e]) := hi.perm hp.symm
  unfold Ids at hi2
  rw [List.pairwise_append] at hi2
  have h2 : without e.id (H' ++ [e]) = H' := by
    unfold without
    rw [List.filter_append, List.filter_cons_of_neg (by simp), List.filter_nil, List.append_nil, List.filter_eq_self]
    intro a ha
    simpa using hi2.2.2 a ha e (by simp)
  rw [h2] at h1
  exact h1
theorem adrop_spec (b : Nat) (most no : Int) (M : List En) (hp : PM most no M) (id : Int) : Does Try.prog 57 #[ap b, .int .i64 id] (fun _ => True) [AA b most no M]
    (fun v p => v = .bool (M.find? (fun t => id == t.id)).isSome ∧ p = [AA b most no (without id M)]) := by
  cases e : M.find? (fun t => id == t.id) with
  | none =>
    refine Does.wrap Try.call57 (fun h k => aa_out2 k) (fun z => frameOf _ (drop_none b z.g z.H.length z.K id (by rw [find_perm (hp.ids.perm z.ar.kp.symm) z.ar.kp]; exact e))) ?_
    rintro z v p h ⟨q, ⟨rfl, rfl⟩, rfl⟩ k
    exact ⟨_, ⟨rfl, rfl⟩, by rw [without_none (find_none.1 e)]; exact aa_in2 z.ar k⟩
  | some t =>
    have ht : id = t.id := by simpa using List.find?_some e
    subst ht
    have htM := List.mem_of_find?_eq_some e
    refine Does.wrap Try.call57 (Q := fun z v p => ∃ H', v = .bool true ∧ (H' ++ [t]).Perm z.H ∧ Heap H' H'.length ∧ p = Ga b z.g H' (delT t.id z.K)) (fun h k => aa_out k) (fun z => ?_) ?_
    · obtain ⟨i, hi⟩ := List.getElem?_of_mem (z.ar.hp.mem_iff.2 htM)
      exact drop_ok b z.g z.H z.K t (by rw [find_perm (hp.ids.perm z.ar.kp.symm) z.ar.kp]; exact e) i hi z.ar.heap (lenH hp z) z.ar.cap
    · rintro z v p h ⟨H', rfl, h1, h2, rfl⟩ k
      refine ⟨_, ⟨rfl, rfl⟩, aa_in (K := delT t.id z.K) ⟨z.ar.hm, z.ar.hn, (without_of (hp.ids.perm z.ar.hp.symm) h1).trans (z.ar.hp.filter _), by rw [delT_without (hp.ids.perm z.ar.kp.symm)]; exact z.ar.kp.filter _, h2, ?_⟩ (by rw [List.append_nil]; exact k)⟩
      have := z.ar.cap
      have := h1.length_eq
      rw [List.length_append, List.length_singleton] at this
      omega
theorem erase_perm {L : List En} {i : Nat} {t : En} (h : L[i]? = some t) : (t :: L.eraseIdx i).Perm L := by
  have e : L = L.take i ++ (t :: L.drop (i + 1)) := by
    have := (List.getElem?_eq_some_iff.1 h).2
    rw [← this, List.getElem_cons_drop, List.take_append_drop]
  rw [List.eraseIdx_eq_take_drop_succ]
  conv => rhs; rw [e]
  exact List.perm_middle.symm
/-! ### Pop -/
def isLate (x : Int) (t : En) : Bool := decide (t.at_ ≤ x)
def ahead (x : Int) (L : List En) : List En := L.filter (fun t => !isLate x t)
structure PopS (x : Int) (M M' S : List En) (e : En) (ok : Bool) : Prop where
  late : ∀ a ∈ S, isLate x a = true
  ord : S.Pairwise (fun a b => ltE b a = false)
  cross : ∀ a ∈ S, ∀ c ∈ M', LeE a c
  perm : (S ++ M'.filter (isLate x)).Perm (M.filter (isLate x))
  rest : ahead x M' = ahead x M
  no : ok = false → M' = []
  yes : ok = true → e ∈ M' ∧ ∀ y ∈ M', LeE e y
theorem PopS.fin {x : Int} {M M' S : List En} {e : En} {ok : Bool} (h : PopS x M M' S e ok) (hq : ok = false ∨ x < e.at_) : Sorted (M.filter (isLate x)) S ∧ M' = ahead x M := by
  have hall : ∀ t ∈ M', isLate x t = false := fun t ht => by
    cases ok with
    | false => rw [h.no rfl] at ht; simp at ht
    | true =>
      have h1 := (h.yes rfl).2 t ht
      have h2 : x < e.at_ := by
        rcases hq with q | q
        · cases q
        · exact q
      unfold LeE LtE at h1
      simp [isLate]; omega
  have e1 : M'.filter (isLate x) = [] := List.filter_eq_nil_iff.2 fun t ht => by simp [hall t ht]
  have e2 : ahead x M' = M' := List.filter_eq_self.2 fun t ht => by simp [hall t ht]
  have hp := h.perm
  rw [e1, List.append_nil] at hp
  exact ⟨⟨hp, h.ord⟩, by rw [← h.rest, e2]⟩
theorem PopS.step {x : Int} {M M' S : List En} {e : En} (hi : Ids M') (h : PopS x M M' S e true) (he : e.at_ ≤ x) {e' : En} {ok' : Bool} (hno : ok' = false → without e.id M' = []) (hyes : ok' = true → e' ∈ without e.id M' ∧ ∀ y ∈ without e.id M', LeE e' y) : PopS x M (without e.id M') (S ++ [e]) e' ok' := by
  obtain ⟨hem, hmin⟩ := h.yes rfl
  have hsub : ∀ t ∈ without e.id M', t ∈ M' := fun t ht => (List.mem_filter.1 ht).1
  have hel : isLate x e = true := by simpa [isLate] using he
  refine ⟨fun a ha => ?_, ?_, fun a ha c hc => ?_, ?_, ?_, hno, hyes⟩
  · rcases List.mem_append.1 ha with ha | ha
    · exact h.late a ha
    · simp at ha; subst ha; exact hel
  · rw [List.pairwise_append]
    exact ⟨h.ord, by simp, fun a ha b hb => by simp at hb; subst hb; exact ltE_no.2 (h.cross a ha _ hem)⟩
  · rcases List.mem_append.1 ha with ha | ha
    · exact h.cross a ha c (hsub c hc)
    · simp at ha; subst ha; exact hmin c (hsub c hc)
  · have hpm : (e :: without e.id M').Perm M' := by
      obtain ⟨i, hi2⟩ := List.getElem?_of_mem hem
      have h1 := erase_perm hi2
      have h2 : (M'.eraseIdx i ++ [e]).Perm M' := List.perm_append_comm.trans h1
      exact ((without_of hi h2).symm.cons e).trans h1
    have h2 := hpm.filter (isLate x)
    rw [List.filter_cons_of_pos hel] at h2
    rw [List.append_assoc]
    exact (List.Perm.append_left S h2).trans h.perm
  · rw [← h.rest]
    unfold ahead without
    rw [List.filter_filter]
    refine List.filter_congr fun t ht => ?_
    by_cases q : t.id = e.id
    · have := hi.inj ht hem q
      subst this
      simp [hel]
    · simp [q]
theorem atop_any (b : Nat) (most no : Int) (M : List En) : Does Try.prog 62 #[ap b] (fun _ => True) [AA b most no M] (fun v p => ∃ (x : En) (ok : Bool), v = .tuple #[.agg x.item.toArray, .bool ok] ∧ (ok = false → M = []) ∧ (ok = true → x ∈ M ∧ ∀ y ∈ M, LeE x y) ∧ p = [AA b most no M]) := by
  by_cases h : M = []
  · subst h
    exact (atop_none b most no).mono (by rintro v p ⟨rfl, rfl⟩; exact ⟨E0, false, rfl, fun _ => rfl, fun e => (by cases e), rfl⟩)
  · exact (atop_some b most no M h).mono (by rintro v p ⟨x, rfl, h1, h2, rfl⟩; exact ⟨x, true, rfl, fun e => (by cases e), fun _ => ⟨h1, h2⟩, rfl⟩)
theorem apop_spec (b : Nat) (most no : Int) (M : List En) (hp : PM most no M) (x : Int) : Does Try.prog 33 #[ap b, .int .i64 x] (fun _ => True) [AA b most no M]
    (fun v p => ∃ S pl c, v = .slice (locAddr 0 pl) S.length c ∧ Sorted (M.filter (isLate x)) S ∧ S.length ≤ c ∧ p = [AA b most no (ahead x M), Vec pl 65 3 c (TL.flat S)]) := by
  refine Does.ofJ Try.func33 Try.call33 rfl [.raw (ap b), .int .i64 x] [] 0 [.asn (AA b most no M)] rfl rfl (fun h k => sat_pick 0 rfl (by first | exact fun _ k => k | exact fun _ k => blk_to rfl rfl k | exact fun _ k => vec_to rfl k | exact fun _ k => blk_of rfl rfl k | exact fun _ k => vec_of rfl k | exact fun _ k => blk_of rfl rfl (blk_to rfl rfl k) | exact fun _ k => vec_of rfl (vec_to rfl k) | exact fun _ k => mp_to rfl k | exact fun _ k => mp_of rfl k | exact fun _ k => mp_of rfl (mp_to rfl k)) (fun h k => sat_nil k) k) (fun f hR => ?_)
  refine call_ix (atop_any b most no M) rfl [0] (fun h k => sat_pick 0 rfl (by first | exact fun _ k => k | exact fun _ k => blk_to rfl rfl k | exact fun _ k => vec_to rfl k | exact fun _ k => blk_of rfl rfl k | exact fun _ k => vec_of rfl k | exact fun _ k => blk_of rfl rfl (blk_to rfl rfl k) | exact fun _ k => vec_of rfl (vec_to rfl k) | exact fun _ k => mp_to rfl k | exact fun _ k => mp_of rfl k | exact fun _ k => mp_of rfl (mp_to rfl k)) (fun h k => sat_nil k) k) (fun _ _ _ _ => trivial) ?_
  rintro v post ⟨e0, ok0, rfl, hno0, hyes0, rfl⟩
  refine ⟨.tuple [.agg e0.itsv, .bool ok0], _, 0, [.asn (AA b most no M)], NmExt.refl _, rfl, (fun h k => sat_pick 0 rfl (by first | exact fun _ k => k | exact fun _ k => blk_to rfl rfl k | exact fun _ k => vec_to rfl k | exact fun _ k => blk_of rfl rfl k | exact fun _ k => vec_of rfl k | exact fun _ k => blk_of rfl rfl (blk_to rfl rfl k) | exact fun _ k => vec_of rfl (vec_to rfl k) | exact fun _ k => mp_to rfl k | exact fun _ k => mp_of rfl k | exact fun _ k => mp_of rfl (mp_to rfl k)) (fun h k => sat_nil k) k), ?_⟩
  intro b6
  refine LoopOb.mk { z : List En × List En × En × Bool × Nat × Plc × Nat // PM most no z.1 ∧ PopS x M z.1 z.2.1 z.2.2.1 z.2.2.2.1 ∧ z.2.1.length ≤ z.2.2.2.2.2.2 } (fun z => ⟨35, [(0, .raw (ap b)), (1, .int .i64 x), (5, .sl 1 0 z.1.2.1.length z.1.2.2.2.2.2.2), (6, .ptr 0 0), (7, .bool z.1.2.2.2.1)], [(1, z.1.2.2.2.2.2.1), (0, .at z.1.2.2.2.2.1 0)], 2, [.asn (AA b most no z.1.1), .blk 0 65 z.1.2.2.1.itsv, .vec 1 65 3 z.1.2.2.2.2.2.2 (TL.flat z.1.2.1)]⟩) (fun z => z.1.1.length)
    ⟨(M, [], e0, ok0, b6, .nil, 0), hp, ⟨by simp, .nil, by simp, by simp, rfl, hno0, hyes0⟩, Nat.le_refl _⟩ ?_ ?_
  · exact Le.of rfl ⟨⟨_, rfl, rfl⟩, ⟨_, rfl, rfl⟩, ⟨_, rfl, rfl⟩, ⟨_, rfl, rfl⟩, ⟨_, rfl, rfl⟩, trivial⟩ (fun h k => sat_pick 1 rfl (by first | exact fun _ k => k | exact fun _ k => blk_to rfl rfl k | exact fun _ k => vec_to rfl k | exact fun _ k => blk_of rfl rfl k | exact fun _ k => vec_of rfl k | exact fun _ k => blk_of rfl rfl (blk_to rfl rfl k) | exact fun _ k => vec_of rfl (vec_to rfl k) | exact fun _ k => mp_to rfl k | exact fun _ k => mp_of rfl k | exact fun _ k => mp_of rfl (mp_to rfl k)) (fun h k => sat_pick 0 rfl (by first | exact fun _ k => k | exact fun _ k => blk_to rfl rfl k | exact fun _ k => vec_to rfl k | exact fun _ k => blk_of rfl rfl k | exact fun _ k => vec_of rfl k | exact fun _ k => blk_of rfl rfl (blk_to rfl rfl k) | exact fun _ k => vec_of rfl (vec_to rfl k) | exact fun _ k => mp_to rfl k | exact fun _ k => mp_of rfl k | exact fun _ k => mp_of rfl (mp_to rfl k)) (fun h k => sat_add (vec_of rfl vec_emp) ((fun h k => sat_nil k) h k)) k) k)
  rintro ⟨⟨M', S, e, ok, be, pl, c⟩, hp', hs, hc⟩
  simp only at hp' hs hc
  have hfl := hs.perm.length_eq
  have hMl : M.length ≤ 4096 := by have := hp.few; have := hp.m1; omega
  have hSl : S.length ≤ 4096 := by
    rw [List.length_append] at hfl
    have : (M.filter (isLate x)).length ≤ M.length := List.length_filter_le _ _
    omega
  refine RegOb.go ?_
  refine Br.mk (fun g => ?_) (fun g => ?_)
  rotate_left
  · obtain ⟨h1, h2⟩ := hs.fin (.inl g)
    exact FinOb.mk [.slice (locAddr 0 pl) S.length c] [AA b most no (ahead x M), Vec pl 65 3 c (TL.flat S)] rfl (fun h k => sat_pick 0 rfl (fun _ k => by rw [← h2]; exact k) (fun h k => sat_pick 1 rfl (fun _ k => vec_to rfl k) (fun h k => sat_nil k) k) k) ⟨S, pl, c, rfl, h1, hc, rfl⟩
  refine CondOb.split (fun g2 => ?_) (fun g2 => ?_)
  rotate_left
  · have g2 : ¬ e.at_ ≤ x := of_decide_eq_false g2
    obtain ⟨h1, h2⟩ := hs.fin (.inr (by omega))
    exact FinOb.mk [.slice (locAddr 0 pl) S.length c] [AA b most no (ahead x M), Vec pl 65 3 c (TL.flat S)] rfl (fun h k => sat_pick 0 rfl (fun _ k => by rw [← h2]; exact k) (fun h k => sat_pick 1 rfl (fun _ k => vec_to rfl k) (fun h k => sat_nil k) k) k) ⟨S, pl, c, rfl, h1, hc, rfl⟩
  have hgx : e.at_ ≤ x := of_decide_eq_true g2
  have hok : ok = true := g
  subst hok
  have hem := (hs.yes rfl).1
  have hfd : (M'.find? (fun t => e.id == t.id)).isSome = true := by
    rw [List.find?_isSome]; exact ⟨e, hem, by simp⟩
  have hlt : (without e.id M').length < M'.length := by
    have h1 : (without e.id M').length ≤ M'.length := List.length_filter_le _ _
    rcases Nat.lt_or_ge (without e.id M').length M'.length with h | h
    · exact h
    · have : (without e.id M').length = M'.length := by omega
      have hs2 : (without e.id M').Sublist M' := List.filter_sublist
      have h3 : without e.id M' = M' := hs2.eq_of_length this
      have := List.filter_eq_self.1 h3 e hem
      simp at this
  refine call_ix (adrop_spec b most no M' hp' e.id) rfl [0] (fun h k => sat_pick 0 rfl (by first | exact fun _ k => k | exact fun _ k => blk_to rfl rfl k | exact fun _ k => vec_to rfl k | exact fun _ k => blk_of rfl rfl k | exact fun _ k => vec_of rfl k | exact fun _ k => blk_of rfl rfl (blk_to rfl rfl k) | exact fun _ k => vec_of rfl (vec_to rfl k) | exact fun _ k => mp_to rfl k | exact fun _ k => mp_of rfl k | exact fun _ k => mp_of rfl (mp_to rfl k)) (fun h k => sat_pick 0 rfl (by first | exact fun _ k => k | exact fun _ k => blk_to rfl rfl k | exact fun _ k => vec_to rfl k | exact fun _ k => blk_of rfl rfl k | exact fun _ k => vec_of rfl k | exact fun _ k => blk_of rfl rfl (blk_to rfl rfl k) | exact fun _ k => vec_of rfl (vec_to rfl k) | exact fun _ k => mp_to rfl k | exact fun _ k => mp_of rfl k | exact fun _ k => mp_of rfl (mp_to rfl k)) (fun h k => sat_pick 0 rfl (by first | exact fun _ k => k | exact fun _ k => blk_to rfl rfl k | exact fun _ k => vec_to rfl k | exact fun _ k => blk_of rfl rfl k | exact fun _ k => vec_of rfl k | exact fun _ k => blk_of rfl rfl (blk_to rfl rfl k) | exact fun _ k => vec_of rfl (vec_to rfl k) | exact fun _ k => mp_to rfl k | exact fun _ k => mp_of rfl k | exact fun _ k => mp_of rfl (mp_to rfl k)) (fun h k => sat_nil k) k) k) k) (fun _ _ _ _ => trivial) ?_
  rintro v post ⟨rfl, rfl⟩
  refine ⟨.bool (M'.find? (fun t => e.id == t.id)).isSome, _, 2, [.asn (AA b most no (without e.id M'))], NmExt.refl _, rfl, (fun h k => sat_pick 0 rfl (by first | exact fun _ k => k | exact fun _ k => blk_to rfl rfl k | exact fun _ k => vec_to rfl k | exact fun _ k => blk_of rfl rfl k | exact fun _ k => vec_of rfl k | exact fun _ k => blk_of rfl rfl (blk_to rfl rfl k) | exact fun _ k => vec_of rfl (vec_to rfl k) | exact fun _ k => mp_to rfl k | exact fun _ k => mp_of rfl k | exact fun _ k => mp_of rfl (mp_to rfl k)) (fun h k => sat_nil k) k), ?_⟩
  intro b31
  have hF : (TL.flat S).length = S.length * 3 := lT S
  refine StOb.mk (TL.cells e) rfl (Need.mk rfl ?_)
  refine Need.mk ⟨by dsimp only; rw [hF]; omega, by dsimp only; omega, hc⟩ ?_
  refine Need.mk ⟨by dsimp only; omega, by dsimp only; simp only [maxLen]; omega, TL.one _⟩ ?_
  refine NewSl.pos (Nat.succ_pos _) (fun b7 o7 c7 hc7 => ?_)
  intro b8
  have hp2 := pm_drop hp' e.id
  refine call_ix (atop_any b most no (without e.id M')) rfl [3] (fun h k => sat_pick 3 rfl (by first | exact fun _ k => k | exact fun _ k => blk_to rfl rfl k | exact fun _ k => vec_to rfl k | exact fun _ k => blk_of rfl rfl k | exact fun _ k => vec_of rfl k | exact fun _ k => blk_of rfl rfl (blk_to rfl rfl k) | exact fun _ k => vec_of rfl (vec_to rfl k) | exact fun _ k => mp_to rfl k | exact fun _ k => mp_of rfl k | exact fun _ k => mp_of rfl (mp_to rfl k)) (fun h k => sat_pick 0 rfl (by first | exact fun _ k => k | exact fun _ k => blk_to rfl rfl k | exact fun _ k => vec_to rfl k | exact fun _ k => blk_of rfl rfl k | exact fun _ k => vec_of rfl k | exact fun _ k => blk_of rfl rfl (blk_to rfl rfl k) | exact fun _ k => vec_of rfl (vec_to rfl k) | exact fun _ k => mp_to rfl k | exact fun _ k => mp_of rfl k | exact fun _ k => mp_of rfl (mp_to rfl k)) (fun h k => sat_pick 0 rfl (by first | exact fun _ k => k | exact fun _ k => blk_to rfl rfl k | exact fun _ k => vec_to rfl k | exact fun _ k => blk_of rfl rfl k | exact fun _ k => vec_of rfl k | exact fun _ k => blk_of rfl rfl (blk_to rfl rfl k) | exact fun _ k => vec_of rfl (vec_to rfl k) | exact fun _ k => mp_to rfl k | exact fun _ k => mp_of rfl k | exact fun _ k => mp_of rfl (mp_to rfl k)) (fun h k => sat_pick 0 rfl (by first | exact fun _ k => k | exact fun _ k => blk_to rfl rfl k | exact fun _ k => vec_to rfl k | exact fun _ k => blk_of rfl rfl k | exact fun _ k => vec_of rfl k | exact fun _ k => blk_of rfl rfl (blk_to rfl rfl k) | exact fun _ k => vec_of rfl (vec_to rfl k) | exact fun _ k => mp_to rfl k | exact fun _ k => mp_of rfl k | exact fun _ k => mp_of rfl (mp_to rfl k)) (fun h k => sat_pick 0 rfl (by first | exact fun _ k => k | exact fun _ k => blk_to rfl rfl k | exact fun _ k => vec_to rfl k | exact fun _ k => blk_of rfl rfl k | exact fun _ k => vec_of rfl k | exact fun _ k => blk_of rfl rfl (blk_to rfl rfl k) | exact fun _ k => vec_of rfl (vec_to rfl k) | exact fun _ k => mp_to rfl k | exact fun _ k => mp_of rfl k | exact fun _ k => mp_of rfl (mp_to rfl k)) (fun h k => sat_nil k) k) k) k) k) k) (fun _ _ _ _ => trivial) ?_
  rintro v post ⟨e1, ok1, rfl, hno1, hyes1, rfl⟩
  refine ⟨.tuple [.agg e1.itsv, .bool ok1], _, 5, [.asn (AA b most no (without e.id M'))], NmExt.refl _, rfl, (fun h k => sat_pick 0 rfl (by first | exact fun _ k => k | exact fun _ k => blk_to rfl rfl k | exact fun _ k => vec_to rfl k | exact fun _ k => blk_of rfl rfl k | exact fun _ k => vec_of rfl k | exact fun _ k => blk_of rfl rfl (blk_to rfl rfl k) | exact fun _ k => vec_of rfl (vec_to rfl k) | exact fun _ k => mp_to rfl k | exact fun _ k => mp_of rfl k | exact fun _ k => mp_of rfl (mp_to rfl k)) (fun h k => sat_nil k) k), ?_⟩
  have hfl2 : List.take (S.length * 3) (List.drop 0 (TL.flat S)) ++ TL.cells e = TL.flat (S ++ [e]) := by
    rw [List.drop_zero, List.take_of_length_le (by rw [hF]; exact Nat.le_refl _), TL.flat_append, TL.flat_one]
  have eL : (S ++ [e]).length = S.length + 1 := by simp
  refine ⟨⟨(without e.id M', S ++ [e], e1, ok1, b8, .at b7 o7, c7), hp2, hs.step hp'.ids hgx hno1 hyes1, by show (S ++ [e]).length ≤ c7; rw [eL]; exact hc7⟩, hlt, Le.of rfl ⟨⟨_, rfl, rfl⟩, ⟨_, rfl, rfl⟩, ⟨_, rfl, (congrArg (fun q : Nat => some (Value.slice (some ⟨b7, o7, none⟩) q c7)) eL.symm)⟩, ⟨_, rfl, rfl⟩, ⟨_, rfl, rfl⟩, trivial⟩ (fun h k => sat_pick 1 rfl (by first | exact fun _ k => k | exact fun _ k => blk_to rfl rfl k | exact fun _ k => vec_to rfl k | exact fun _ k => blk_of rfl rfl k | exact fun _ k => vec_of rfl k | exact fun _ k => blk_of rfl rfl (blk_to rfl rfl k) | exact fun _ k => vec_of rfl (vec_to rfl k) | exact fun _ k => mp_to rfl k | exact fun _ k => mp_of rfl k | exact fun _ k => mp_of rfl (mp_to rfl k)) (fun h k => sat_pick 0 rfl (by first | exact fun _ k => k | exact fun _ k => blk_to rfl rfl k | exact fun _ k => vec_to rfl k | exact fun _ k => blk_of rfl rfl k | exact fun _ k => vec_of rfl k | exact fun _ k => blk_of rfl rfl (blk_to rfl rfl k) | exact fun _ k => vec_of rfl (vec_to rfl k) | exact fun _ k => mp_to rfl k | exact fun _ k => mp_of rfl k | exact fun _ k => mp_of rfl (mp_to rfl k)) (fun h k => sat_pick 0 rfl (fun _ k => vec_of rfl (by have k := vec_to (l := .at b7 o7) rfl k; rw [hfl2] at k; exact k)) (fun h k => sat_nil k) k) k) k)⟩
end Go.Proofs.Ytiknkeakielncaa.Ag
