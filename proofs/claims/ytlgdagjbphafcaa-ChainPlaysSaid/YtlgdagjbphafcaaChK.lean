/- The end of an entry, without places, in all cases. Conditions: none. -/
import Derived.Test.YtlgdagjbphafcaaChJ
namespace Go.Proofs.Ytlgdagjbphafcaa.Ch
open Go Go.Proofs Sx
set_option maxRecDepth 100000
set_option linter.unusedVariables false

def lessA (id : Int) (es : List EA) : List EA := es.filter (fun z => decide (z.id ≠ id))
def freeA (k : Int) (es : List EA) : List EA := es.map (fun z => if z.id = k then { z with ahead := none } else z)
def notA (ks : List Int) (es : List EA) : List EA := es.filter (fun z => decide (z.id ∉ ks))
theorem mem_lessA {id : Int} {es : List EA} {e : EA} : e ∈ lessA id es ↔ e ∈ es ∧ e.id ≠ id := by simp [lessA]
theorem mem_notA {ks : List Int} {es : List EA} {e : EA} : e ∈ notA ks es ↔ e ∈ es ∧ e.id ∉ ks := by simp [notA]
/-- The end of an entry: who is gone, the answer, what is left. -/
inductive EndsA (B : BA) (id : Int) (ok : Bool) : List Int → Int → BA → Prop
  | no (h : ∀ e ∈ B.es, e.id = id → e.told = false) : EndsA B id ok [] 6 B
  | last (e : EA) (he : e ∈ B.es) (hid : e.id = id) (ht : e.told = true) (hb : e.behind = none) : EndsA B id ok [] 0 { B with es := lessA id B.es }
  | next (e : EA) (k : Int) (he : e ∈ B.es) (hid : e.id = id) (ht : e.told = true) (hb : e.behind = some k) (hok : ok = true ∨ 2 ≤ e.flags) : EndsA B id ok [] 0 ⟨freeA k (lessA id B.es), B.ready ++ [k], B.last⟩
  | gone (e : EA) (k : Int) (ks : List Int) (he : e ∈ B.es) (hid : e.id = id) (ht : e.told = true) (hb : e.behind = some k) (hok : ok = false) (hf : e.flags < 2) (hl : LinksA (lessA id B.es) (some k) ks) (hn : ks.Nodup) : EndsA B id ok ks 0 { B with es := notA ks (lessA id B.es) }
theorem eraseA {es : List EA} {i : Nat} {e : EA} (hn : (es.map EA.id).Nodup) (h : es[i]? = some e) : es.eraseIdx i = lessA e.id es := by
  unfold lessA
  induction es generalizing i with
  | nil => simp at h
  | cons a es ih =>
    simp only [List.map_cons, List.nodup_cons] at hn
    cases i with
    | zero =>
      simp at h; subst h
      rw [List.eraseIdx_cons_zero, List.filter_cons]
      simp only [ne_eq, not_true_eq_false, decide_false, Bool.false_eq_true, if_false]
      symm
      rw [List.filter_eq_self]
      intro z hz
      have : z.id ≠ a.id := fun e => hn.1 (by rw [← e]; exact List.mem_map.2 ⟨z, hz, rfl⟩)
      simpa using this
    | succ i =>
      have hm : e.id ∈ es.map EA.id := List.mem_map.2 ⟨e, List.mem_of_getElem? (by simpa using h), rfl⟩
      have hne : a.id ≠ e.id := fun e1 => by rw [← e1] at hm; exact hn.1 hm
      rw [List.eraseIdx_cons_succ, List.filter_cons, if_pos (by simpa using hne), ih hn.2 (by simpa using h)]
theorem modifyA {es : List EA} {j : Nat} {n : EA} (hn : (es.map EA.id).Nodup) (h : es[j]? = some n) : es.modify j (fun n => { n with ahead := none }) = freeA n.id es := by
  unfold freeA
  refine List.ext_getElem? fun i => ?_
  rw [List.getElem?_modify, List.getElem?_map]
  have hj := (List.getElem?_eq_some_iff.1 h).1
  by_cases e : j = i
  · subst e; rw [h]; simp
  · cases hx : es[i]? with
    | none => rfl
    | some z =>
      have : z.id ≠ n.id := fun e1 => by
        have g1 : (es.map EA.id)[i]? = some n.id := by rw [List.getElem?_map, hx]; simp [e1]
        have g2 : (es.map EA.id)[j]? = some n.id := by rw [List.getElem?_map, h]; rfl
        exact e ((List.getElem?_inj (by rw [List.length_map]; exact hj) hn).1 (g2.trans g1.symm))
      simp [e, this]
theorem mem_at {α : Type} {l : List α} {a : α} (h : a ∈ l) : ∃ i : Nat, l[i]? = some a := by
  obtain ⟨i, hi, e⟩ := List.getElem_of_mem h
  exact ⟨i, by rw [List.getElem?_eq_getElem hi, e]⟩
theorem getA_at {B : BA} (inv : AInv B) {e : EA} (h : e ∈ B.es) : getA B e.id = some e := by
  cases hg : getA B e.id with
  | none =>
    rw [getA, List.find?_eq_none] at hg
    exact absurd (hg e h) (by simp)
  | some e' =>
    have h1 := List.find?_some hg
    have h2 := List.mem_of_find?_eq_some hg
    rw [inv.same e' h2 e h (by simpa using h1)]
theorem less_nodup {es : List EA} (h : (es.map EA.id).Nodup) (id : Int) : ((lessA id es).map EA.id).Nodup := ((List.filter_sublist).map _).nodup h
theorem AInv.tied {B : BA} (inv : AInv B) : Tied B := ⟨fun i e he k hk => by
  rw [eraseA inv.ids he]
  obtain ⟨n, h1, h2, h3⟩ := inv.fwd e (List.mem_of_getElem? he) k hk
  refine List.mem_map.2 ⟨n, mem_lessA.2 ⟨h1, fun e1 => ?_⟩, h2⟩
  have := inv.same n h1 e (List.mem_of_getElem? he) e1
  subst this
  exact inv.self n h1 (by rw [hk, h2])⟩
/-- Each chain comes to its end. -/
theorem links_ex {B : BA} (inv : AInv B) : ∀ (m : Nat) (pre : List EA) (e : EA) (post : List EA), post.length ≤ m → B.es = pre ++ e :: post → ∃ ks, LinksA post e.behind ks ∧ ks.Nodup
  | m, pre, e, post, hm, hes => by
    cases hb : e.behind with
    | none => exact ⟨[], .nil, .nil⟩
    | some k =>
      have he : e ∈ B.es := by rw [hes]; simp
      obtain ⟨n, h1, h2, h3⟩ := inv.fwd e he k hb
      have hn : n ∈ post := by
        rw [hes] at h1
        rcases List.mem_append.1 h1 with h | h
        · have := inv.ord
          rw [hes, List.pairwise_append] at this
          have := this.2.2 n h e (by simp)
          exact absurd (by rw [hb, h2]) this
        · rcases List.mem_cons.1 h with rfl | h
          · exact absurd (by rw [hb, h2]) (inv.self n he)
          · exact h
      obtain ⟨p1, p2, hp⟩ := List.append_of_mem hn
      cases m with
      | zero => rw [hp] at hm; simp at hm
      | succ m =>
        obtain ⟨ks, h4, h5⟩ := links_ex inv m (pre ++ e :: p1) n p2 (by rw [hp] at hm; simp at hm; omega) (by rw [hes, hp]; simp)
        refine ⟨k :: ks, .cons k n ks hn h2 (h4.mono fun a ha _ => by rw [hp]; simp [ha]), List.nodup_cons.2 ⟨fun hk => ?_, h5⟩⟩
        obtain ⟨a, ha, hid⟩ := h4.mem k hk
        have hnd := inv.ids
        rw [hes, hp] at hnd
        simp only [List.map_append, List.map_cons] at hnd
        have h6 := (List.nodup_append.1 hnd).2.1
        have h7 := (List.nodup_cons.1 h6).2
        have h8 := (List.nodup_append.1 h7).2.1
        exact (List.nodup_cons.1 h8).1 (by rw [h2, ← hid]; exact List.mem_map.2 ⟨a, ha, rfl⟩)
theorem AInv.links {B : BA} (inv : AInv B) {e : EA} (he : e ∈ B.es) : ∃ ks, LinksA (lessA e.id B.es) e.behind ks ∧ ks.Nodup := by
  obtain ⟨pre, post, hes⟩ := List.append_of_mem he
  obtain ⟨ks, h1, h2⟩ := links_ex inv post.length pre e post (Nat.le_refl _) hes
  refine ⟨ks, h1.mono fun a ha _ => mem_lessA.2 ⟨by rw [hes]; simp [ha], fun e1 => ?_⟩, h2⟩
  have hnd := inv.ids
  rw [hes, List.map_append, List.map_cons] at hnd
  have h3 := (List.nodup_append.1 hnd).2.1
  exact (List.nodup_cons.1 h3).1 (by rw [← e1]; exact List.mem_map.2 ⟨a, ha, rfl⟩)
theorem done_ends {B : BA} (inv : AInv B) {id : Int} {ok : Bool} (hok : ∀ e, getA B id = some e → e.told = true → e.behind = none ∨ ok = true ∨ 2 ≤ e.flags) : EndsA B id ok [] (doneA B id ok).2 (doneA B id ok).1 := by
  unfold doneA
  cases hi : ixA B.es id with
  | none =>
    refine .no fun e he hid => ?_
    exfalso
    obtain ⟨i, he⟩ := mem_at he
    have := ixA_at inv.ids he
    rw [hid, hi] at this; cases this
  | some i =>
    obtain ⟨e, e1, e2⟩ := ixA_some hi
    have he := List.mem_of_getElem? e1
    simp only [e1]
    by_cases ht : e.told = false
    · rw [if_pos ht]
      refine .no fun e' he' hid => ?_
      rw [inv.same e' he' e he (hid.trans e2.symm)]; exact ht
    · rw [if_neg ht]
      have ht : e.told = true := by simpa using ht
      have hg := getA_at inv he
      rw [e2] at hg
      cases hb : e.behind with
      | none =>
        simp only
        rw [eraseA inv.ids e1, e2]
        exact .last e he e2 ht hb
      | some k =>
        simp only
        have hk := inv.tied.there i e e1 k hb
        obtain ⟨n, n1, n2⟩ := List.mem_map.1 hk
        obtain ⟨j, n3⟩ := mem_at n1
        have hnd : ((B.es.eraseIdx i).map EA.id).Nodup := ((List.eraseIdx_sublist _ _).map _).nodup inv.ids
        have := ixA_at hnd n3
        rw [n2] at this
        rw [this]
        simp only
        rw [modifyA hnd n3, n2, eraseA inv.ids e1, e2]
        refine .next e k he e2 ht hb ?_
        rcases hok e hg ht with h | h
        · rw [hb] at h; cases h
        · exact h
theorem links_conc {x : Bk} {es : List E} : ∀ {p : Option (Nat × Int)} {ks : List Int}, LinksA (es.map E.abs) (p.map (·.2)) ks → Links es p ks := by
  intro p ks h
  generalize hq : p.map (·.2) = q at h
  induction h generalizing p with
  | nil =>
    cases p with
    | none => exact .nil
    | some p => simp at hq
  | cons k e ks he hk rest ih =>
    cases p with
    | none => simp at hq
    | some p =>
      obtain ⟨c, k'⟩ := p
      simp at hq; subst hq
      obtain ⟨e', h1, rfl⟩ := List.mem_map.1 he
      exact .cons c k' e' ks h1 hk (ih rfl)
theorem less_abs {x : Bk} {i : Nat} {e : E} (hn : (x.es.map E.id).Nodup) (h : x.es[i]? = some e) : (x.es.eraseIdx i).map E.abs = lessA e.id x.abs.es := by
  have h1 := eraseA (es := x.abs.es) (by rw [abs_ids]; exact hn) (abs_at h)
  rw [show (E.abs e).id = e.id from rfl] at h1
  rw [← h1, Bk.abs, erase_map]
theorem drop_abs (ks : List Int) (es : List E) : (dropS ks es).map E.abs = notA ks (es.map E.abs) := by
  simp only [dropS, notA, List.filter_map]
  rfl
theorem len_sub : ∀ {l m : List Int}, l.Nodup → (∀ a ∈ l, a ∈ m) → l.length ≤ m.length
  | [], m, _, _ => by simp
  | a :: l, m, hn, hs => by
    obtain ⟨h1, h2⟩ := List.nodup_cons.1 hn
    obtain ⟨m1, m2, rfl⟩ := List.append_of_mem (hs a (by simp))
    have := len_sub (m := m1 ++ m2) h2 (fun b hb => by
      have := hs b (List.mem_cons_of_mem _ hb)
      rcases List.mem_append.1 this with h | h
      · exact List.mem_append_left _ h
      · rcases List.mem_cons.1 h with rfl | h
        · exact absurd hb h1
        · exact List.mem_append_right _ h)
    simp at this ⊢; omega
/-- **Done, in all cases.** -/
theorem endsA_spec (bb mb : Nat) (B : BA) (id : Int) (ok : Bool) (inv : AInv B) (hr : B.ready.length < 100000) :
    Does Try.prog 44 #[.pointer (some ⟨bb, 0, none⟩), .int .i64 id, .bool ok] (fun _ => True) [BkA bb mb B]
      (fun v q => ∃ g r B' p c, EndsA B id ok g r B' ∧ v = .tuple #[.slice (locAddr 0 p) g.length c, .int .i64 r] ∧ q = [BkA bb mb B', Vec p 3 1 c (I.flat g)]) := by
  by_cases hc : ∀ e, getA B id = some e → e.told = true → e.behind = none ∨ ok = true ∨ 2 ≤ e.flags
  · refine (doneA_spec bb mb B id ok hr inv.tied hc).post ?_
    rintro v q ⟨rfl, rfl⟩
    exact ⟨_, ⟨[], _, _, .nil, 0, done_ends inv hc, rfl, rfl⟩, (fun h k => sat_pick 0 rfl (by first | exact fun _ k => k | exact fun _ k => blk_to rfl rfl k | exact fun _ k => vec_to rfl k | exact fun _ k => blk_of rfl rfl k | exact fun _ k => vec_of rfl k | exact fun _ k => blk_of rfl rfl (blk_to rfl rfl k) | exact fun _ k => vec_of rfl (vec_to rfl k) | exact fun _ k => mp_to rfl k | exact fun _ k => mp_of rfl k | exact fun _ k => mp_of rfl (mp_to rfl k)) (fun h k => sat_add vec_emp ((fun h k => sat_nil k) h k)) k)⟩
  · simp only [Classical.not_forall, not_or] at hc
    obtain ⟨e, he, ht, hb, hok, hf⟩ := hc
    have hok : ok = false := by simpa using hok
    subst hok
    have hm := List.mem_of_find?_eq_some he
    have hid : e.id = id := by have := List.find?_some he; simpa using this
    cases hbk : e.behind with
    | none => exact absurd hbk hb
    | some k =>
    obtain ⟨ks, hl, hn⟩ := inv.links hm
    have hB := inv
    refine Does.preEx Try.call44 ?_
    rintro ⟨⟨x, y⟩, hx, inv1⟩
    subst hx
    obtain ⟨e', h1, rfl⟩ := List.mem_map.1 hm
    obtain ⟨i, h2⟩ := mem_abs h1
    have hid' : e'.id = id := hid
    subst hid'
    have hl' : Links (x.es.eraseIdx i) e'.behind ks := links_conc (x := x) (by rw [less_abs inv1.ids h2]; exact hl)
    obtain ⟨c0, hb0⟩ : ∃ c0, e'.behind = some (c0, k) := by
      have : (E.abs e').behind = e'.behind.map (·.2) := rfl
      rw [this] at hbk
      cases h : e'.behind with
      | none => rw [h] at hbk; cases hbk
      | some p => rw [h] at hbk; simp at hbk; exact ⟨p.1, by rw [← hbk]⟩
    have hks : ks.length ≤ 100000 := by
      have h3 : ∀ n ∈ ks, n ∈ (x.es.eraseIdx i).map E.id := hl'.mem
      have h4 := len_sub hn h3
      have := (inv_erase inv1 i).no
      simp at h4 this
      omega
    refine ((gone_spec bb mb x y inv1 i e' h2 ht (Int.not_le.1 hf) c0 k hb0 ks hn hks hl').pre (fun h k => by simpa using k)).post ?_
    rintro v q ⟨p, c, rfl, rfl⟩
    refine ⟨_, ⟨ks, 0, { x.abs with es := notA ks (lessA e'.id x.abs.es) }, p, c, .gone e'.abs k ks hm rfl ht hbk rfl (by simpa using hf) (by rw [← hbk]; exact hl) hn, rfl, rfl⟩, fun h k => ?_⟩
    have := bkA (x := { x with es := dropS ks (x.es.eraseIdx i) }) (inv_sub inv1 ((dropS_sub ks _).trans (List.eraseIdx_sublist _ i))) h k
    have e0 : Bk.abs { x with es := dropS ks (x.es.eraseIdx i) } = { x.abs with es := notA ks (lessA e'.id x.abs.es) } := by
      simp only [Bk.abs, drop_abs]
      rw [less_abs inv1.ids h2]
      rfl
    rw [e0] at this
    exact this
end Go.Proofs.Ytlgdagjbphafcaa.Ch
