/- A book without its places: what its functions do to it. Conditions: none. -/
import Derived.Test.YtlgdagjbphafcaaChD
import Derived.Test.YtlgdagjbphafcaaE20
namespace Go.Proofs.Ytlgdagjbphafcaa.Ch
open Go Go.Proofs Sx
set_option maxRecDepth 100000
set_option linter.unusedVariables false

structure EA where
  id : Int
  flags : Int
  ahead : Option Int
  behind : Option Int
  told : Bool
  deriving DecidableEq
structure BA where
  es : List EA
  ready : List Int
  last : Option Int
  deriving DecidableEq
def E.abs (e : E) : EA := ⟨e.id, e.flags, e.ahead.map (·.2), e.behind.map (·.2), e.told⟩
def Bk.abs (x : Bk) : BA := ⟨x.es.map E.abs, x.ready, x.last.map (·.2)⟩
def ixA (es : List EA) (id : Int) : Option Nat := es.findIdx? (fun e => e.id == id)
def lnk (b : BA) : Option Nat :=
  match b.last with
  | none => none
  | some l => match ixA b.es l with
    | none => none
    | some i => match b.es[i]? with
      | some a => if a.flags = 0 then none else some i
      | none => none
def addA (b : BA) (id fl : Int) : BA :=
  match lnk b with
  | none => ⟨b.es ++ [⟨id, fl % 4, none, none, false⟩], b.ready ++ [id], some id⟩
  | some i => ⟨b.es.modify i (fun a => { a with behind := some id }) ++ [⟨id, fl % 4, b.last, none, false⟩], b.ready, some id⟩
def readyA (b : BA) : BA := ⟨b.es.map fun e => if e.id ∈ b.ready then { e with told := true } else e, [], b.last⟩
/-- The end of an entry, where nothing is gone. -/
def doneA (b : BA) (id : Int) (ok : Bool) : BA × Int :=
  match ixA b.es id with
  | none => (b, 6)
  | some i => match b.es[i]? with
    | none => (b, 6)
    | some e => if e.told = false then (b, 6) else match e.behind with
      | none => ({ b with es := b.es.eraseIdx i }, 0)
      | some k => match ixA (b.es.eraseIdx i) k with
        | none => ({ b with es := b.es.eraseIdx i }, 0)
        | some j => (⟨(b.es.eraseIdx i).modify j (fun n => { n with ahead := none }), b.ready ++ [k], b.last⟩, 0)
theorem ixA_none {es : List EA} {id : Int} (h : id ∉ es.map EA.id) : ixA es id = none := by
  rw [ixA, List.findIdx?_eq_none_iff]
  intro e he
  have : e.id ≠ id := fun h1 => h (List.mem_map.2 ⟨e, he, h1⟩)
  simpa using this
theorem ixA_at {es : List EA} {i : Nat} {e : EA} (hn : (es.map EA.id).Nodup) (h : es[i]? = some e) : ixA es e.id = some i := by
  induction es generalizing i with
  | nil => simp at h
  | cons a es ih =>
    simp only [List.map_cons, List.nodup_cons] at hn
    rw [ixA, List.findIdx?_cons]
    cases i with
    | zero => simp at h; subst h; simp
    | succ i =>
      have hm : e.id ∈ es.map EA.id := List.mem_map.2 ⟨e, List.mem_of_getElem? (by simpa using h), rfl⟩
      have : (a.id == e.id) = false := by simp; intro e1; rw [e1] at hn; exact hn.1 hm
      rw [this]
      have := ih hn.2 (by simpa using h)
      rw [ixA] at this
      simp [this]
theorem ixA_some {es : List EA} {id : Int} {i : Nat} (h : ixA es id = some i) : ∃ e, es[i]? = some e ∧ e.id = id := by
  rw [ixA, List.findIdx?_eq_some_iff_getElem] at h
  obtain ⟨hi, h1, _⟩ := h
  exact ⟨es[i], List.getElem?_eq_getElem hi, by simpa using h1⟩
theorem abs_ids (x : Bk) : x.abs.es.map EA.id = x.es.map E.id := by simp [Bk.abs, E.abs, Function.comp_def]
theorem abs_at {x : Bk} {i : Nat} {e : E} (h : x.es[i]? = some e) : x.abs.es[i]? = some e.abs := by simp [Bk.abs, h]
theorem set_modify {α : Type} {l : List α} {i : Nat} {a : α} (f : α → α) (h : l[i]? = some a) : l.set i (f a) = l.modify i f := by
  refine List.ext_getElem? fun j => ?_
  rw [List.getElem?_set, List.getElem?_modify]
  by_cases e : i = j
  · subst e
    have := (List.getElem?_eq_some_iff.1 h).1
    rw [if_pos rfl, if_pos this, h]; simp
  · rw [if_neg e]; simp [e]
theorem mem_abs {x : Bk} {e : E} (h : e ∈ x.es) : ∃ i : Nat, x.es[i]? = some e := by
  obtain ⟨i, hi, e1⟩ := List.getElem_of_mem h
  exact ⟨i, by rw [List.getElem?_eq_getElem hi, e1]⟩
theorem added_abs {x x' : Bk} {y : Ly} {id fl : Int} (inv : Inv x y) (h : Added x id fl x') : x'.abs = addA x.abs id fl := by
  have hids : (x.abs.es.map EA.id).Nodup := by rw [abs_ids]; exact inv.ids
  obtain ⟨nb, c3, ⟨hun, rfl⟩ | ⟨c, l, i, a, c1, c2, h1, h2, h3, h4, rfl⟩⟩ := h
  · have : lnk x.abs = none := by
      unfold lnk
      cases hl : x.last with
      | none => simp [Bk.abs, hl]
      | some p =>
        obtain ⟨c, l⟩ := p
        have : x.abs.last = some l := by simp [Bk.abs, hl]
        rw [this]
        simp only
        cases hi : ixA x.abs.es l with
        | none => rfl
        | some i =>
          obtain ⟨e, e1, e2⟩ := ixA_some hi
          have e0 := e1
          simp only [Bk.abs, List.getElem?_map, Option.map_eq_some_iff] at e1
          obtain ⟨e', e3, rfl⟩ := e1
          simp only [e0]
          by_cases hf : e'.flags = 0
          · exact if_pos hf
          · exact absurd ⟨c, l, e', hl, List.mem_of_getElem? e3, e2, hf⟩ hun
    unfold addA
    rw [this]
    simp [Bk.abs, E.abs]
  · have hm := List.mem_of_getElem? h2
    have e1 := abs_at h2
    have e2 := ixA_at hids e1
    have : lnk x.abs = some i := by
      unfold lnk
      have : x.abs.last = some l := by simp [Bk.abs, h1]
      rw [this, ← h3]
      have e3 : (E.abs a).id = a.id := rfl
      rw [e3] at e2
      simp only [e2, e1]
      exact if_neg h4
    unfold addA
    rw [this]
    simp only [Bk.abs, List.map_append, List.map_set, List.map_cons, List.map_nil, h1, Option.map_some]
    congr 1
    congr 1
    exact set_modify (fun a => { a with behind := some id }) e1
theorem readied_abs (x : Bk) : (readied x).abs = readyA x.abs := by
  simp only [readied, Bk.abs, readyA, tell, List.map_map]
  congr 1
  refine List.map_congr_left fun e _ => ?_
  simp only [Function.comp]
  by_cases h : e.id ∈ x.ready
  · rw [if_pos h]; exact (if_pos (show (E.abs e).id ∈ x.ready from h)).symm
  · rw [if_neg h]; exact (if_neg (show ¬ (E.abs e).id ∈ x.ready from h)).symm
theorem get_abs {x : Bk} {id : Int} {e : E} (h : get x id = some e) : ∃ i : Nat, x.es[i]? = some e ∧ e.id = id := by
  have h1 := List.find?_some h
  obtain ⟨i, hi⟩ := mem_abs (List.mem_of_find?_eq_some h)
  exact ⟨i, hi, by simpa using h1⟩
theorem ends_abs {x x' : Bk} {y : Ly} {id : Int} {ok : Bool} {r : Int} (inv : Inv x y) (h : Ends x id ok r x') : (x'.abs, r) = doneA x.abs id ok := by
  have hids : (x.abs.es.map EA.id).Nodup := by rw [abs_ids]; exact inv.ids
  cases h with
  | no h =>
    unfold doneA
    cases hi : ixA x.abs.es id with
    | none => rfl
    | some i =>
      obtain ⟨e, e1, e2⟩ := ixA_some hi
      have e0 := e1
      simp only [Bk.abs, List.getElem?_map, Option.map_eq_some_iff] at e1
      obtain ⟨e', e3, rfl⟩ := e1
      have hg := get_at inv.ids e3
      have e2' : e'.id = id := e2
      rw [e2'] at hg
      simp only [e0]
      exact (if_pos (show (E.abs e').told = false from h e' hg)).symm
  | last i e hi he ht hb =>
    have e1 := abs_at hi
    have e2 := ixA_at hids e1
    subst he
    unfold doneA
    have e3 : (E.abs e).id = e.id := rfl
    rw [e3] at e2
    simp only [e2, e1]
    rw [if_neg (show ¬ (E.abs e).told = false by show ¬ e.told = false; rw [ht]; simp)]
    have : (E.abs e).behind = none := by simp [E.abs, hb]
    simp only [this, Bk.abs, erase_map]
  | next i e c k j n hi he ht hb hok hj hn =>
    have e1 := abs_at hi
    have e2 := ixA_at hids e1
    subst he
    unfold doneA
    have e3 : (E.abs e).id = e.id := rfl
    rw [e3] at e2
    simp only [e2, e1]
    rw [if_neg (show ¬ (E.abs e).told = false by show ¬ e.told = false; rw [ht]; simp)]
    have : (E.abs e).behind = some k := by simp [E.abs, hb]
    simp only [this]
    have inv1 := inv_erase inv i
    have hids1 : ((x.abs.es.eraseIdx i).map EA.id).Nodup := by
      have := (abs_ids { x with es := x.es.eraseIdx i })
      simp only [Bk.abs, erase_map] at this ⊢
      rw [this]; exact inv1.ids
    have j1 : (x.abs.es.eraseIdx i)[j]? = some n.abs := by simp only [Bk.abs, erase_map, List.getElem?_map, hj, Option.map_some]
    have j2 := ixA_at hids1 j1
    have e4 : (E.abs n).id = k := hn
    rw [e4] at j2
    simp only [j2]
    have := set_modify (fun n : EA => { n with ahead := none }) j1
    simp only [Bk.abs, List.map_set, erase_map] at this ⊢
    rw [← this]
    rfl
/-! ### The book as one part -/
def BkA (bb mb : Nat) (B : BA) : Asn := AnyOf (fun z : { z : Bk × Ly // z.1.abs = B ∧ Inv z.1 z.2 } => Book bb mb z.1.1 z.1.2)
theorem bkA {bb mb : Nat} {x : Bk} {y : Ly} (inv : Inv x y) {As : List Asn} (h : HP) (k : sat (Book bb mb x y ++ As) h) : sat (BkA bb mb x.abs :: As) h := sat_ex ⟨(x, y), rfl, inv⟩ k
theorem newA_spec : Does Try.prog 40 #[] (fun _ => True) [] (fun v q => ∃ bb mb, v = .pointer (some ⟨bb, 0, none⟩) ∧ q = [BkA bb mb ⟨[], [], none⟩]) :=
  new_spec.post (by rintro v q ⟨bb, mb, rfl, rfl⟩; exact ⟨_, ⟨bb, mb, rfl, rfl⟩, fun h k => bkA (As := []) inv_new h k⟩)
theorem addA_spec (bb mb : Nat) (B : BA) (id fl : Int) (h0 : 0 ≤ fl) (h1 : fl ≤ 255) (hn : B.es.length < 100000) (hr : B.ready.length < 100000) :
    Does Try.prog 42 #[.pointer (some ⟨bb, 0, none⟩), .int .i64 id, .int .u8 fl] (fun _ => True) [BkA bb mb B]
      (fun v q => (id ∈ B.es.map EA.id ∧ v = .int .i64 140 ∧ q = [BkA bb mb B]) ∨ (id ∉ B.es.map EA.id ∧ v = .int .i64 0 ∧ q = [BkA bb mb (addA B id fl)])) := by
  refine Does.preEx Try.call42 ?_
  rintro ⟨⟨x, y⟩, rfl, inv⟩
  refine ((add_spec bb mb x y id fl inv h0 h1 (by simpa [Bk.abs] using hn) hr).pre (fun h k => by simpa using k)).post ?_
  rw [abs_ids]
  rintro v q (⟨a, rfl, rfl⟩ | ⟨a, rfl, x', y', b, inv', rfl⟩)
  · exact ⟨_, .inl ⟨a, rfl, rfl⟩, fun h k => bkA (As := []) inv h (by simpa using k)⟩
  · exact ⟨_, .inr ⟨a, rfl, rfl⟩, fun h k => by rw [← added_abs inv b]; exact bkA (As := []) inv' h (by simpa using k)⟩
theorem endA_spec (bb mb : Nat) (B : BA) : Does Try.prog 48 #[.pointer (some ⟨bb, 0, none⟩)] (fun _ => True) [BkA bb mb B] (fun v q => v = .tuple #[] ∧ q = [BkA bb mb { B with last := none }]) := by
  refine Does.preEx Try.call48 ?_
  rintro ⟨⟨x, y⟩, rfl, inv⟩
  refine ((end_spec bb mb x y).pre (fun h k => by simpa using k)).post ?_
  rintro v q ⟨rfl, rfl⟩
  exact ⟨_, ⟨rfl, rfl⟩, fun h k => bkA (x := { x with last := none }) (y := y) (As := []) ⟨inv.ids, inv.ahead, inv.behind, by simp, inv.ro, inv.rr, inv.no, inv.nr, inv.fl⟩ h (by simpa using k)⟩
theorem openA_spec (bb mb : Nat) (B : BA) :
    Does Try.prog 46 #[.pointer (some ⟨bb, 0, none⟩)] (fun _ => True) [BkA bb mb B] (fun v q => ∃ p cap', v = .slice (locAddr 0 p) B.es.length cap' ∧ q = [BkA bb mb B, Vec p 3 1 cap' (I.flat (B.es.map EA.id))]) := by
  refine Does.preEx Try.call46 ?_
  rintro ⟨⟨x, y⟩, rfl, inv⟩
  refine ((open_spec bb mb x y inv).pre (fun h k => by simpa using k)).post ?_
  rintro v q ⟨p, cap', rfl, rfl⟩
  rw [abs_ids]
  exact ⟨_, ⟨p, cap', by simp [Bk.abs], rfl⟩, fun h k => bkA inv h k⟩
def getA (B : BA) (id : Int) : Option EA := B.es.find? (fun e => e.id == id)
theorem getA_abs (x : Bk) (id : Int) : getA x.abs id = (get x id).map E.abs := by
  simp only [getA, get, Bk.abs, List.find?_map]
  rfl
theorem numO_map (p : Option (Nat × Int)) : numO p = (p.map (·.2)).getD 0 := by cases p <;> rfl
theorem aheadA_spec (bb mb : Nat) (B : BA) (id : Int) :
    Does Try.prog 72 #[.pointer (some ⟨bb, 0, none⟩), .int .i64 id] (fun _ => True) [BkA bb mb B] (fun v q => v = .tuple #[.int .i64 (((getA B id).bind EA.ahead).getD 0), .bool ((getA B id).bind EA.ahead).isSome] ∧ q = [BkA bb mb B]) := by
  refine Does.preEx Try.call72 ?_
  rintro ⟨⟨x, y⟩, rfl, inv⟩
  refine ((ahead_spec bb mb x y id inv).pre (fun h k => by simpa using k)).post ?_
  rintro v q ⟨rfl, rfl⟩
  refine ⟨_, ⟨?_, rfl⟩, fun h k => bkA (As := []) inv h (by simpa using k)⟩
  simp only
  rw [getA_abs]
  cases get x id with
  | none => rfl
  | some e => simp only [Option.bind_some, Option.map_some, E.abs, numO_map, Option.isSome_map]
theorem behindA_spec (bb mb : Nat) (B : BA) (id : Int) :
    Does Try.prog 74 #[.pointer (some ⟨bb, 0, none⟩), .int .i64 id] (fun _ => True) [BkA bb mb B] (fun v q => v = .tuple #[.int .i64 (((getA B id).bind EA.behind).getD 0), .bool ((getA B id).bind EA.behind).isSome] ∧ q = [BkA bb mb B]) := by
  refine Does.preEx Try.call74 ?_
  rintro ⟨⟨x, y⟩, rfl, inv⟩
  refine ((behind_spec bb mb x y id inv).pre (fun h k => by simpa using k)).post ?_
  rintro v q ⟨rfl, rfl⟩
  refine ⟨_, ⟨?_, rfl⟩, fun h k => bkA (As := []) inv h (by simpa using k)⟩
  simp only
  rw [getA_abs]
  cases get x id with
  | none => rfl
  | some e => simp only [Option.bind_some, Option.map_some, E.abs, numO_map, Option.isSome_map]
theorem readyA_spec (bb mb : Nat) (B : BA) (hsub : ∀ n ∈ B.ready, n ∈ B.es.map EA.id) :
    Does Try.prog 43 #[.pointer (some ⟨bb, 0, none⟩)] (fun _ => True) [BkA bb mb B] (fun v q => ∃ p c, v = .slice (locAddr 0 p) B.ready.length c ∧ q = [BkA bb mb (readyA B), Vec p 3 1 c (I.flat B.ready)]) := by
  refine Does.preEx Try.call43 ?_
  rintro ⟨⟨x, y⟩, rfl, inv⟩
  refine ((ready_spec bb mb x y inv (by rw [← abs_ids]; exact hsub)).pre (fun h k => by simpa using k)).post ?_
  rintro v q ⟨rfl, rfl⟩
  refine ⟨_, ⟨y.lr, y.cr, rfl, rfl⟩, fun h k => ?_⟩
  rw [← readied_abs]
  exact bkA (inv_tell inv x.ready (r' := []) (p := .nil) (c := 0) (by simp) (by simp)) h k
/-- Where no one is gone: each one that stands behind is there. -/
structure Tied (B : BA) : Prop where
  there : ∀ (i : Nat) e, B.es[i]? = some e → ∀ k, e.behind = some k → k ∈ (B.es.eraseIdx i).map EA.id
theorem doneA_spec (bb mb : Nat) (B : BA) (id : Int) (ok : Bool) (hr : B.ready.length < 100000) (ht : Tied B) (hok : ∀ e, getA B id = some e → e.told = true → e.behind = none ∨ ok = true ∨ 2 ≤ e.flags) :
    Does Try.prog 44 #[.pointer (some ⟨bb, 0, none⟩), .int .i64 id, .bool ok] (fun _ => True) [BkA bb mb B]
      (fun v q => v = .tuple #[.slice none 0 0, .int .i64 (doneA B id ok).2] ∧ q = [BkA bb mb (doneA B id ok).1]) := by
  refine Does.preEx Try.call44 ?_
  rintro ⟨⟨x, y⟩, rfl, inv⟩
  refine ((done_spec bb mb x y id ok inv hr ?_ ?_).pre (fun h k => by simpa using k)).post ?_
  · intro i e he c k hk
    have := ht.there i e.abs (abs_at he) k (by simp [E.abs, hk])
    have h2 := (abs_ids { x with es := x.es.eraseIdx i })
    simp only [Bk.abs, erase_map] at this h2
    rw [← h2]; simpa [erase_map] using this
  · intro e he het
    have := hok e.abs (by rw [getA_abs, he]; rfl) het
    rcases this with h | h
    · left
      cases hb : e.behind with
      | none => rfl
      | some p => simp [E.abs, hb] at h
    · exact .inr h
  rintro v q ⟨r, x', y', he, inv', rfl, rfl⟩
  have := ends_abs inv he
  rw [← this]
  exact ⟨_, ⟨rfl, rfl⟩, fun h k => bkA (As := []) inv' h (by simpa using k)⟩
end Go.Proofs.Ytlgdagjbphafcaa.Ch
