/- Entries that are told, done and gone once each: the plain law. Conditions: none. -/
import Derived.Test.YtlgdagjbphafcaaChL
namespace Go.Proofs.Ytlgdagjbphafcaa.Ch
open Go Go.Proofs Sx
set_option maxRecDepth 100000
set_option linter.unusedVariables false

/-- Is an entry linked to the one before it. -/
def tie (fl : List Int) (nd : List Bool) : Nat → Bool
  | 0 => false
  | k + 1 => !nd.getD k false && decide (fl.getD k 0 % 4 ≠ 0)
def onceAt (fl : List Int) (nd : List Bool) (i k : Nat) : EA :=
  ⟨k, fl.getD k 0 % 4, if tie fl nd k then some ((k : Int) - 1) else none, if k + 1 < i ∧ tie fl nd (k + 1) = true then some ((k + 1 : Nat) : Int) else none, false⟩
def onceEs (fl : List Int) (nd : List Bool) (i : Nat) : List EA := (List.range i).map (onceAt fl nd i)
def onceL (nd : List Bool) : Nat → Option Int
  | 0 => none
  | k + 1 => if nd.getD k false then none else some k
def once (fl : List Int) (nd : List Bool) (i : Nat) : BA := ⟨onceEs fl nd i, ((List.range i).filter (fun k => !tie fl nd k)).map (fun k : Nat => (k : Int)), onceL nd i⟩
theorem once_at {fl : List Int} {nd : List Bool} {i k : Nat} (h : k < i) : (onceEs fl nd i)[k]? = some (onceAt fl nd i k) := by simp [onceEs, h]
theorem once_none {fl : List Int} {nd : List Bool} {i k : Nat} (h : i ≤ k) : (onceEs fl nd i)[k]? = none := by simp [onceEs, h]
theorem once_ids (fl : List Int) (nd : List Bool) (i : Nat) : (onceEs fl nd i).map EA.id = (List.range i).map (fun k : Nat => (k : Int)) := by simp [onceEs, onceAt, Function.comp_def]
theorem once_mem {fl : List Int} {nd : List Bool} {i : Nat} {x : Int} : x ∈ (onceEs fl nd i).map EA.id ↔ 0 ≤ x ∧ x < i := by
  rw [once_ids, List.mem_map]
  constructor
  · rintro ⟨k, hk, rfl⟩
    have := List.mem_range.1 hk
    omega
  · rintro ⟨h1, h2⟩
    exact ⟨x.toNat, List.mem_range.2 (by omega), by omega⟩
theorem once_nodup (fl : List Int) (nd : List Bool) (i : Nat) : ((onceEs fl nd i).map EA.id).Nodup := by
  rw [once_ids]
  refine List.Pairwise.map _ (fun a b h => ?_) List.nodup_range
  intro e
  have : a = b := by omega
  exact h this
theorem once_lnk (fl : List Int) (nd : List Bool) (i : Nat) : lnk (once fl nd i) = if tie fl nd i = true then some (i - 1) else none := by
  cases i with
  | zero => rfl
  | succ j =>
    unfold lnk
    by_cases h : nd.getD j false = true
    · have : (once fl nd (j + 1)).last = none := by simp only [once, onceL, h, if_true]
      rw [this]
      simp only [tie, h, Bool.not_true, Bool.false_and, Bool.false_eq_true, if_false]
    · have h : nd.getD j false = false := by simpa using h
      have e1 : (once fl nd (j + 1)).last = some (j : Int) := by simp only [once, onceL, h, Bool.false_eq_true, if_false]
      have h2 := ixA_at (once_nodup fl nd (j + 1)) (once_at (fl := fl) (nd := nd) (i := j + 1) (k := j) (by omega))
      have h3 : (onceAt fl nd (j + 1) j).id = (j : Int) := rfl
      rw [h3] at h2
      have e5 : (once fl nd (j + 1)).es = onceEs fl nd (j + 1) := rfl
      rw [e1]
      simp only [e5, h2, once_at (fl := fl) (nd := nd) (i := j + 1) (k := j) (by omega)]
      have e6 : (onceAt fl nd (j + 1) j).flags = fl.getD j 0 % 4 := rfl
      rw [e6]
      by_cases h0 : fl.getD j 0 % 4 = 0
      · rw [if_pos h0, if_neg (by simp [tie, -List.getD_eq_getElem?_getD, h0])]
      · rw [if_neg h0, if_pos (by simp only [tie, h, Bool.not_false, Bool.true_and, decide_eq_true_eq]; exact h0)]; rfl
theorem once_add (fl : List Int) (nd : List Bool) (i : Nat) : addA (once fl nd i) i (fl.getD i 0) = { once fl nd (i + 1) with last := some (i : Int) } := by
  unfold addA
  rw [once_lnk]
  by_cases ht : tie fl nd i = true
  · rw [if_pos ht]
    cases i with
    | zero => cases ht
    | succ j =>
      have hnd : nd.getD j false = false := by
        cases h : nd.getD j false with
        | false => rfl
        | true => simp only [tie, h] at ht; cases ht
      have e1 : (once fl nd (j + 1)).last = some (j : Int) := by simp only [once, onceL, hnd, Bool.false_eq_true, if_false]
      simp only [Nat.add_sub_cancel]
      have er : (once fl nd (j + 1 + 1)).ready = (once fl nd (j + 1)).ready := by
        simp only [once]
        rw [List.range_succ (n := j + 1), List.filter_append, List.map_append]
        simp [ht]
      have ee : (once fl nd (j + 1 + 1)).es = (once fl nd (j + 1)).es.modify j (fun a => { a with behind := some ((j + 1 : Nat) : Int) }) ++ [⟨((j + 1 : Nat) : Int), fl.getD (j + 1) 0 % 4, (once fl nd (j + 1)).last, none, false⟩] := by
        rw [e1]
        simp only [once]
        refine List.ext_getElem? fun k => ?_
        have hl : ((onceEs fl nd (j + 1)).modify j (fun a => { a with behind := some ((j + 1 : Nat) : Int) })).length = j + 1 := by simp [onceEs]
        rcases Nat.lt_trichotomy k (j + 1) with h | h | h
        · rw [List.getElem?_append_left (by omega), List.getElem?_modify, once_at (by omega), once_at (by omega)]
          by_cases e : j = k
          · subst e; simp [onceAt, ht]
          · simp only [if_neg e, Option.map_eq_map, Option.map_some, Option.some.injEq]
            simp only [onceAt]
            congr 1
            have e1 : k + 1 < j + 1 + 1 := by omega
            have e2 : k + 1 < j + 1 := by omega
            simp only [e1, e2]
        · subst h
          rw [List.getElem?_append_right (by omega), hl, once_at (by omega)]
          simp only [onceAt, ht, if_true, Nat.sub_self, List.getElem?_cons_zero]
          have e2 : ((j + 1 : Nat) : Int) - 1 = j := by omega
          rw [e2, if_neg (by omega)]
        · rw [List.getElem?_append_right (by omega), hl, once_none (by omega), List.getElem?_eq_none (by simp; omega)]
      rw [← ee, ← er]
  · rw [if_neg ht]
    simp only
    have ht : tie fl nd i = false := by simpa using ht
    have er : (once fl nd (i + 1)).ready = (once fl nd i).ready ++ [(i : Int)] := by
      simp only [once]
      rw [List.range_succ, List.filter_append, List.map_append]
      simp [ht]
    have ee : (once fl nd (i + 1)).es = (once fl nd i).es ++ [⟨(i : Int), fl.getD i 0 % 4, none, none, false⟩] := by
      simp only [once]
      refine List.ext_getElem? fun k => ?_
      have hl : (onceEs fl nd i).length = i := by simp [onceEs]
      rcases Nat.lt_trichotomy k i with h | h | h
      · rw [List.getElem?_append_left (by omega), once_at (by omega), once_at (by omega)]
        simp only [onceAt]
        congr 2
        by_cases e : k + 1 = i
        · subst e
          rw [if_neg (by simp [ht]), if_neg (by simp [ht])]
        · have e1 : k + 1 < i + 1 := by omega
          have e2 : k + 1 < i := by omega
          simp only [e1, e2]
      · subst h
        rw [List.getElem?_append_right (by omega), hl, once_at (by omega)]
        simp [onceAt, ht]
      · rw [List.getElem?_append_right (by omega), hl, once_none (by omega), List.getElem?_eq_none (by simp; omega)]
    rw [ee, er]
theorem once_end (fl : List Int) (nd : List Bool) (i : Nat) (h : nd.getD i false = true) : ({ ({ once fl nd (i + 1) with last := some (i : Int) } : BA) with last := none } : BA) = once fl nd (i + 1) := by
  simp only [once, onceL, h, if_true]
theorem once_go (fl : List Int) (nd : List Bool) (i : Nat) (h : nd.getD i false = false) : ({ once fl nd (i + 1) with last := some (i : Int) } : BA) = once fl nd (i + 1) := by
  simp only [once, onceL, h, Bool.false_eq_true, if_false]
theorem once_inv (fl : List Int) (nd : List Bool) : ∀ i, AInv (once fl nd i)
  | 0 => ainv_new
  | i + 1 => by
    have h := (once_inv fl nd i).add (id := (i : Int)) (fl := fl.getD i 0) (by
      have : (once fl nd i).es = onceEs fl nd i := rfl
      rw [this, once_mem]; omega)
    rw [once_add] at h
    cases hn : nd.getD i false with
    | false => rw [once_go fl nd i hn] at h; exact h
    | true => rw [← once_end fl nd i hn]; exact h.end_

/-! ### The rounds -/
def up (l : List Int) (k : Nat) : List Int := l.set k (l.getD k 0 + 1)
theorem up_len (l : List Int) (k : Nat) : (up l k).length = l.length := by simp [up]
theorem up_get {l : List Int} {k i : Nat} (h : i < l.length) : (up l k).getD i 0 = l.getD i 0 + if k = i then 1 else 0 := by
  rw [up, List.getD_eq_getElem?_getD, List.getElem?_set]
  by_cases e : k = i
  · subst e; rw [if_pos rfl, if_pos h, if_pos rfl]; rfl
  · rw [if_neg e, if_neg e, ← List.getD_eq_getElem?_getD]; omega
def ups (l : List Int) (a : Nat) : Nat → List Int
  | 0 => l
  | j + 1 => up (ups l a j) (a + j)
theorem ups_len (l : List Int) (a : Nat) : ∀ j, (ups l a j).length = l.length
  | 0 => rfl
  | j + 1 => by rw [ups, up_len, ups_len]
theorem ups_get {l : List Int} {a i : Nat} (h : i < l.length) : ∀ j, (ups l a j).getD i 0 = l.getD i 0 + if a ≤ i ∧ i < a + j then 1 else 0
  | 0 => by rw [if_neg (by omega)]; simp [ups]
  | j + 1 => by
    rw [ups, up_get (by rw [ups_len]; exact h), ups_get h j]
    by_cases e : a + j = i
    · rw [if_pos e, if_neg (by omega), if_pos (by omega)]; omega
    · rw [if_neg e]
      by_cases e2 : a ≤ i ∧ i < a + j
      · rw [if_pos e2, if_pos (by omega)]; omega
      · rw [if_neg e2, if_neg (by omega)]; omega
structure St (fl : List Int) (nd : List Bool) (B : BA) (T G : List Int) : Prop where
  inv : AInv B
  lT : T.length = fl.length
  lG : G.length = fl.length
  pT : ∀ k, k < fl.length → 0 ≤ T.getD k 0
  pG : ∀ k, k < fl.length → 0 ≤ G.getD k 0
  one : ∀ e ∈ B.es, ∃ k : Nat, k < fl.length ∧ e.id = k ∧ e.flags = fl.getD k 0 % 4 ∧ e.behind = (if k + 1 < fl.length ∧ tie fl nd (k + 1) = true then some ((k + 1 : Nat) : Int) else none) ∧ (e.ahead = none → tie fl nd k = true → 1 ≤ T.getD (k - 1) 0)
  cnt : ∀ k : Nat, k < fl.length → T.getD k 0 + G.getD k 0 = if (k : Int) ∈ B.es.map EA.id then 0 else 1
theorem st_new (fl : List Int) (nd : List Bool) : St fl nd (once fl nd fl.length) (List.replicate fl.length 0) (List.replicate fl.length 0) := by
  have h0 : ∀ k, k < fl.length → (List.replicate fl.length (0 : Int)).getD k 0 = 0 := fun k hk => by simp [hk]
  refine ⟨once_inv fl nd _, by simp, by simp, fun k hk => by rw [h0 k hk]; omega, fun k hk => by rw [h0 k hk]; omega, ?_, fun k hk => ?_⟩
  · intro e he
    obtain ⟨k, hk, e1⟩ := List.getElem_of_mem he
    have hk' : k < fl.length := by simpa [once, onceEs] using hk
    have : e = onceAt fl nd fl.length k := by
      have h2 := once_at (fl := fl) (nd := nd) hk'
      have h3 : (onceEs fl nd fl.length)[k]? = some e := by rw [← e1]; exact List.getElem?_eq_getElem hk
      rw [h2] at h3; exact (Option.some.inj h3).symm
    subst this
    refine ⟨k, hk', rfl, rfl, rfl, fun h ht => ?_⟩
    simp [onceAt, ht] at h
  · rw [h0 k hk]
    have : (once fl nd fl.length).es = onceEs fl nd fl.length := rfl
    rw [this, if_pos (once_mem.2 ⟨by omega, by omega⟩)]; rfl
theorem St.ready {fl : List Int} {nd : List Bool} {B : BA} {T G : List Int} (st : St fl nd B T G) : St fl nd (readyA B) T G := by
  refine ⟨st.inv.ready, st.lT, st.lG, st.pT, st.pG, ?_, fun k hk => by rw [readyA_ids]; exact st.cnt k hk⟩
  intro e he
  obtain ⟨e0, h0, rfl⟩ := mem_readyA.1 he
  obtain ⟨k, h1, h2, h3, h4, h5⟩ := st.one e0 h0
  refine ⟨k, h1, ?_⟩
  split <;> exact ⟨h2, h3, h4, h5⟩
theorem St.small {fl : List Int} {nd : List Bool} {B : BA} {T G : List Int} (st : St fl nd B T G) : B.es.length ≤ fl.length := by
  have := len_sub st.inv.ids (m := (List.range fl.length).map (fun k : Nat => (k : Int))) (fun a ha => by
    obtain ⟨e, he, rfl⟩ := List.mem_map.1 ha
    obtain ⟨k, h1, h2, _⟩ := st.one e he
    exact List.mem_map.2 ⟨k, List.mem_range.2 h1, h2.symm⟩)
  simpa using this
theorem St.few {fl : List Int} {nd : List Bool} {B : BA} {T G : List Int} (st : St fl nd B T G) : B.ready.length ≤ B.es.length := by
  have := len_sub st.inv.rnd (m := B.es.map EA.id) (fun a ha => by
    obtain ⟨e, he, h1, _⟩ := st.inv.rdy a ha
    exact List.mem_map.2 ⟨e, he, h1⟩)
  simpa using this
/-- Whoever is there has a head. -/
theorem AInv.head {B : BA} (inv : AInv B) (h : B.es ≠ []) : ∃ e ∈ B.es, e.ahead = none := by
  cases hes : B.es with
  | nil => exact absurd hes h
  | cons e0 l =>
    refine ⟨e0, by simp, ?_⟩
    cases ha : e0.ahead with
    | none => rfl
    | some a =>
      obtain ⟨p, p1, p2, p3⟩ := inv.bwd e0 (by rw [hes]; simp) a ha
      rw [hes] at p1
      rcases List.mem_cons.1 p1 with rfl | p1
      · exact absurd p3 (inv.self _ (by rw [hes]; simp))
      · have := inv.ord
        rw [hes] at this
        exact absurd p3 ((List.pairwise_cons.1 this).1 p p1)
/-- A chain of those that are gone goes up by one each. -/
theorem links_up {fl : List Int} {nd : List Bool} {B : BA} {T G : List Int} (st : St fl nd B T G) {es : List EA} (hs : ∀ e ∈ es, e ∈ B.es) {p : Option Int} {ks : List Int} (h : LinksA es p ks) :
    ∀ a : Nat, (p = none ∨ p = some (a : Int)) → ∀ (j : Nat) x, ks[j]? = some x → x = ((a + j : Nat) : Int) ∧ a + j < fl.length := by
  induction h with
  | nil => intro a _ j x hx; simp at hx
  | cons k e ks he hk rest ih =>
    intro a ha j x hx
    obtain ⟨k', h1, h2, h3, h4, h5⟩ := st.one e (hs e he)
    have hka : k = a := by
      rcases ha with ha | ha
      · cases ha
      · exact Option.some.inj ha
    have hk' : k' = a := by omega
    subst hk'
    cases j with
    | zero => simp at hx; subst hx; exact ⟨by omega, by omega⟩
    | succ j =>
      have := ih (k' + 1) (by rw [h4]; split; · exact .inr rfl
                              · exact .inl rfl) j x (by simpa using hx)
      rw [show k' + (j + 1) = k' + 1 + j by omega]; exact this
theorem St.step {fl : List Int} {nd : List Bool} {B B' : BA} {T G : List Int} {id r : Int} {ok : Bool} {g : List Int} (st : St fl nd B T G) (h : EndsA B id ok g r B') (k : Nat) (hk : k < fl.length) (hid : id = k) (hm : ∃ e ∈ B.es, e.id = id ∧ e.told = true) :
    r = 0 ∧ (∀ (j : Nat) x, g[j]? = some x → x = ((k + 1 + j : Nat) : Int) ∧ k + 1 + j < fl.length) ∧ (g ≠ [] → ok = false ∧ fl.getD k 0 % 4 = 1) ∧ St fl nd B' (up T k) (ups G (k + 1) g.length) ∧ B'.es.length + 1 ≤ B.es.length
      ∧ (∀ a ∈ B'.es, a.id ≠ id ∧ ∃ e ∈ B.es, e.id = a.id ∧ e.told = a.told) ∧ (∀ e ∈ B.es, e.told = true → e.id ≠ id → ∃ a ∈ B'.es, a.id = e.id ∧ a.told = true) := by
  have inv' := st.inv.ends h
  obtain ⟨e0, he0, hid0, ht0⟩ := hm
  have less : ∀ es : List EA, (∀ a ∈ es, ∃ e ∈ B.es, e.id = a.id ∧ e.id ≠ id) → es.length + 1 ≤ B.es.length ∨ ¬ (es.map EA.id).Nodup := by
    intro es hes
    by_cases hn : (es.map EA.id).Nodup
    · left
      have h0 : (id :: es.map EA.id).Nodup := List.nodup_cons.2 ⟨fun hx => by
        obtain ⟨a, ha, e1⟩ := List.mem_map.1 hx
        obtain ⟨e, _, e2, e3⟩ := hes a ha
        exact e3 (e2.trans e1), hn⟩
      have := len_sub h0 (m := B.es.map EA.id) (fun x hx => by
        rcases List.mem_cons.1 hx with rfl | hx
        · exact List.mem_map.2 ⟨e0, he0, hid0⟩
        · obtain ⟨a, ha, rfl⟩ := List.mem_map.1 hx
          obtain ⟨e, e1, e2, _⟩ := hes a ha
          exact List.mem_map.2 ⟨e, e1, e2⟩)
      simpa using this
    · exact .inr hn
  have pT' : ∀ i, i < fl.length → 0 ≤ (up T k).getD i 0 := fun i hi => by
    rw [up_get (by rw [st.lT]; exact hi)]
    have := st.pT i hi
    split <;> omega
  have pG' : ∀ (m i : Nat), i < fl.length → 0 ≤ (ups G (k + 1) m).getD i 0 := fun m i hi => by
    rw [ups_get (by rw [st.lG]; exact hi)]
    have := st.pG i hi
    split <;> omega
  have mono : ∀ i, i < fl.length → T.getD i 0 ≤ (up T k).getD i 0 := fun i hi => by
    rw [up_get (by rw [st.lT]; exact hi)]
    split <;> omega
  have kin : (k : Int) ∈ B.es.map EA.id := List.mem_map.2 ⟨e0, he0, by rw [hid0, hid]⟩
  cases h with
  | no h => rw [h e0 he0 hid0] at ht0; cases ht0
  | last e he hide ht hb =>
    have sub : ∀ a ∈ lessA id B.es, ∃ e ∈ B.es, e.id = a.id ∧ e.id ≠ id := fun a ha => ⟨a, (mem_lessA.1 ha).1, rfl, (mem_lessA.1 ha).2⟩
    refine ⟨rfl, fun j x hx => by simp at hx, fun hg => absurd rfl hg, ⟨inv', by rw [up_len, st.lT], st.lG, pT', st.pG, ?_, ?_⟩, (less _ sub).resolve_right (fun hn => hn inv'.ids), fun a ha => ⟨(mem_lessA.1 ha).2, a, (mem_lessA.1 ha).1, rfl, rfl⟩, fun a h1 h2 h3 => ⟨a, mem_lessA.2 ⟨h1, h3⟩, rfl, h2⟩⟩
    · intro a ha
      obtain ⟨i, h1, h2, h3, h4, h5⟩ := st.one a (mem_lessA.1 ha).1
      exact ⟨i, h1, h2, h3, h4, fun h6 h7 => Int.le_trans (h5 h6 h7) (mono _ (by omega))⟩
    · intro i hi
      rw [up_get (by rw [st.lT]; exact hi)]
      have := st.cnt i hi
      show _ + G.getD i 0 = _
      by_cases e1 : k = i
      · subst e1
        rw [if_pos kin] at this
        rw [if_pos rfl, if_neg (fun hx => by
          obtain ⟨a, ha, e2⟩ := List.mem_map.1 hx
          exact (mem_lessA.1 ha).2 (by rw [e2, hid]))]
        omega
      · rw [if_neg e1]
        have : ((i : Int) ∈ (lessA id B.es).map EA.id) ↔ (i : Int) ∈ B.es.map EA.id := by
          constructor
          · intro hx
            obtain ⟨a, ha, e2⟩ := List.mem_map.1 hx
            exact List.mem_map.2 ⟨a, (mem_lessA.1 ha).1, e2⟩
          · intro hx
            obtain ⟨a, ha, e2⟩ := List.mem_map.1 hx
            exact List.mem_map.2 ⟨a, mem_lessA.2 ⟨ha, by omega⟩, e2⟩
        simp only [this]; omega
  | next e k' he hide ht hb hok =>
    obtain ⟨i0, g1, g2, g3, g4, g5⟩ := st.one e he
    have hi0 : i0 = k := by omega
    subst hi0
    have hk' : k' = ((i0 + 1 : Nat) : Int) ∧ i0 + 1 < fl.length := by
      rw [hb] at g4
      split at g4
      · rename_i hc; exact ⟨Option.some.inj g4, hc.1⟩
      · cases g4
    have key : ∀ z ∈ freeA k' (lessA id B.es), ∃ z0 ∈ B.es, z0.id ≠ id ∧ z.id = z0.id ∧ z.behind = z0.behind ∧ z.told = z0.told ∧ z.flags = z0.flags ∧ ((z0.id = k' ∧ z.ahead = none) ∨ (z0.id ≠ k' ∧ z.ahead = z0.ahead)) := by
      intro z hz
      obtain ⟨z0, h0, rfl⟩ := mem_freeA.1 hz
      obtain ⟨h1, h2⟩ := mem_lessA.1 h0
      refine ⟨z0, h1, h2, ?_⟩
      by_cases hk : z0.id = k'
      · rw [if_pos hk]; exact ⟨rfl, rfl, rfl, rfl, .inl ⟨hk, rfl⟩⟩
      · rw [if_neg hk]; exact ⟨rfl, rfl, rfl, rfl, .inr ⟨hk, rfl⟩⟩
    have sub : ∀ a ∈ freeA k' (lessA id B.es), ∃ e ∈ B.es, e.id = a.id ∧ e.id ≠ id := fun a ha => by
      obtain ⟨z0, z1, z2, z3, _⟩ := key a ha
      exact ⟨z0, z1, z3.symm, z2⟩
    refine ⟨rfl, fun j x hx => by simp at hx, fun hg => absurd rfl hg, ⟨inv', by rw [up_len, st.lT], st.lG, pT', st.pG, ?_, ?_⟩, (less _ sub).resolve_right (fun hn => hn inv'.ids), ?_, ?_⟩
    · intro a ha
      obtain ⟨z0, z1, z2, z3, z4, z5, z6, z7⟩ := key a ha
      obtain ⟨i, h1, h2, h3, h4, h5⟩ := st.one z0 z1
      refine ⟨i, h1, z3.trans h2, z6.trans h3, z4.trans h4, fun h6 h7 => ?_⟩
      rcases z7 with ⟨z7, z8⟩ | ⟨z7, z8⟩
      · have : i = i0 + 1 := by omega
        subst this
        rw [Nat.add_sub_cancel, up_get (by rw [st.lT]; omega), if_pos rfl]
        have := st.pT i0 (by omega)
        omega
      · exact Int.le_trans (h5 (by rw [← z8]; exact h6) h7) (mono _ (by omega))
    · intro i hi
      rw [up_get (by rw [st.lT]; exact hi)]
      have := st.cnt i hi
      show _ + G.getD i 0 = if (i : Int) ∈ (freeA k' (lessA id B.es)).map EA.id then 0 else 1
      rw [freeA_ids]
      by_cases e1 : i0 = i
      · subst e1
        rw [if_pos kin] at this
        rw [if_pos rfl, if_neg (fun hx => by
          obtain ⟨a, ha, e2⟩ := List.mem_map.1 hx
          exact (mem_lessA.1 ha).2 (by rw [e2, hid]))]
        omega
      · rw [if_neg e1]
        have : ((i : Int) ∈ (lessA id B.es).map EA.id) ↔ (i : Int) ∈ B.es.map EA.id := by
          constructor
          · intro hx
            obtain ⟨a, ha, e2⟩ := List.mem_map.1 hx
            exact List.mem_map.2 ⟨a, (mem_lessA.1 ha).1, e2⟩
          · intro hx
            obtain ⟨a, ha, e2⟩ := List.mem_map.1 hx
            exact List.mem_map.2 ⟨a, mem_lessA.2 ⟨ha, by omega⟩, e2⟩
        simp only [this]; omega
    · intro a ha
      obtain ⟨z0, z1, z2, z3, z4, z5, _⟩ := key a ha
      exact ⟨by rw [z3]; exact z2, z0, z1, z3.symm, z5.symm⟩
    · intro a h1 h2 h3
      exact ⟨_, mem_freeA.2 ⟨a, mem_lessA.2 ⟨h1, h3⟩, rfl⟩, by split <;> rfl, by split <;> exact h2⟩
  | gone e k' ks he hide ht hb hok hf hl hn =>
    obtain ⟨i0, g1, g2, g3, g4, g5⟩ := st.one e he
    have hi0 : i0 = k := by omega
    subst hi0
    have hk' : k' = ((i0 + 1 : Nat) : Int) ∧ i0 + 1 < fl.length ∧ tie fl nd (i0 + 1) = true := by
      rw [hb] at g4
      split at g4
      · rename_i hc; exact ⟨Option.some.inj g4, hc⟩
      · cases g4
    have hup := links_up st (fun e he => (mem_lessA.1 he).1) hl (i0 + 1) (.inr (by rw [hk'.1]))
    have hmem : ∀ {a : EA}, a ∈ notA g (lessA id B.es) ↔ a ∈ B.es ∧ a.id ≠ id ∧ a.id ∉ g := fun {a} => by
      rw [mem_notA, mem_lessA, and_assoc]
    have sub : ∀ a ∈ notA g (lessA id B.es), ∃ e ∈ B.es, e.id = a.id ∧ e.id ≠ id := fun a ha => ⟨a, (hmem.1 ha).1, rfl, (hmem.1 ha).2.1⟩
    have hin : ∀ i : Nat, (i : Int) ∈ g ↔ i0 + 1 ≤ i ∧ i < i0 + 1 + g.length := by
      intro i
      constructor
      · intro hx
        obtain ⟨j, hj, e1⟩ := List.getElem_of_mem hx
        have := hup j i (by rw [← e1]; exact List.getElem?_eq_getElem hj)
        omega
      · intro ⟨h1, h2⟩
        have hj : i - (i0 + 1) < g.length := by omega
        have := hup _ _ (List.getElem?_eq_getElem hj)
        have e1 : (i : Int) = g[i - (i0 + 1)] := by rw [this.1]; omega
        rw [e1]; exact List.getElem_mem hj
    have hf1 : fl.getD i0 0 % 4 = 1 := by
      rw [g3] at hf
      have h1 : fl.getD i0 0 % 4 ≠ 0 := by
        have := hk'.2.2
        simp only [tie, Bool.and_eq_true, decide_eq_true_eq] at this
        exact this.2
      omega
    refine ⟨rfl, hup, fun _ => ⟨hok, hf1⟩, ⟨inv', by rw [up_len, st.lT], by rw [ups_len, st.lG], pT', pG' _, ?_, ?_⟩, (less _ sub).resolve_right (fun hn => hn inv'.ids), fun a ha => ⟨(hmem.1 ha).2.1, a, (hmem.1 ha).1, rfl, rfl⟩, fun a h1 h2 h3 => ⟨a, hmem.2 ⟨h1, h3, fun h4 => ?_⟩, rfl, h2⟩⟩
    · intro a ha
      obtain ⟨i, h1, h2, h3, h4, h5⟩ := st.one a (hmem.1 ha).1
      exact ⟨i, h1, h2, h3, h4, fun h6 h7 => Int.le_trans (h5 h6 h7) (mono _ (by omega))⟩
    · intro i hi
      rw [up_get (by rw [st.lT]; exact hi), ups_get (by rw [st.lG]; exact hi)]
      have := st.cnt i hi
      have gsub : (i : Int) ∈ g → (i : Int) ∈ B.es.map EA.id := fun hx => by
        obtain ⟨a, ha, e1⟩ := hl.mem _ hx
        exact List.mem_map.2 ⟨a, (mem_lessA.1 ha).1, e1⟩
      by_cases e1 : i0 = i
      · subst e1
        rw [if_pos kin] at this
        rw [if_pos rfl, if_neg (by omega), if_neg (fun hx => by
          obtain ⟨a, ha, e2⟩ := List.mem_map.1 hx
          exact (hmem.1 ha).2.1 (by rw [e2, hid]))]
        omega
      · rw [if_neg e1]
        by_cases hg : i0 + 1 ≤ i ∧ i < i0 + 1 + g.length
        · have h1 := (hin i).2 hg
          rw [if_pos (gsub h1)] at this
          rw [if_pos hg, if_neg (fun hx => by
            obtain ⟨a, ha, e2⟩ := List.mem_map.1 hx
            exact (hmem.1 ha).2.2 (by rw [e2]; exact h1))]
          omega
        · rw [if_neg hg]
          have h1 : ¬ (i : Int) ∈ g := fun hx => hg ((hin i).1 hx)
          have : ((i : Int) ∈ (notA g (lessA id B.es)).map EA.id) ↔ (i : Int) ∈ B.es.map EA.id := by
            constructor
            · intro hx
              obtain ⟨a, ha, e2⟩ := List.mem_map.1 hx
              exact List.mem_map.2 ⟨a, (hmem.1 ha).1, e2⟩
            · intro hx
              obtain ⟨a, ha, e2⟩ := List.mem_map.1 hx
              exact List.mem_map.2 ⟨a, hmem.2 ⟨ha, by omega, by rw [e2]; exact h1⟩, e2⟩
          simp only [this]; omega
    · -- one that is told has nobody ahead, so it is not gone
      have h5 := st.inv.told a h1 h2
      rcases hl.prev a.id h4 with h6 | ⟨p, p1, p2, p3⟩
      · obtain ⟨n, n1, n2, n3⟩ := st.inv.fwd e he k' hb
        have := st.inv.same n n1 a h1 (n2.trans (Option.some.inj h6))
        subst this; rw [h5] at n3; cases n3
      · obtain ⟨n, n1, n2, n3⟩ := st.inv.fwd p (mem_lessA.1 p1).1 a.id p3
        have := st.inv.same n n1 a h1 n2
        subst this; rw [h5] at n3; cases n3
end Go.Proofs.Ytlgdagjbphafcaa.Ch
