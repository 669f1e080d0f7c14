/- The reference of chain against a book: the plain law. Conditions: none. -/
import Derived.Test.YtlgdagjbphafcaaChR
namespace Go.Proofs.Ytlgdagjbphafcaa.Ch
open Go Go.Proofs Sx
set_option maxRecDepth 100000
set_option linter.unusedVariables false

abbrev Key := Int × Int × Option Int × Bool
def RO.key (e : RO) : Key := (e.id, e.flags, if e.tied = true then some e.to else none, e.told)
def EA.key (e : EA) : Key := (e.id, e.flags, e.ahead, e.told)
def Kp (L : List RO) (es : List EA) : Prop := L.map RO.key = es.map EA.key
theorem Kp.len {L : List RO} {es : List EA} (h : Kp L es) : L.length = es.length := by
  have := congrArg List.length h
  simpa using this
theorem Kp.at {L : List RO} {es : List EA} (h : Kp L es) {i : Nat} {e : RO} (he : L[i]? = some e) : ∃ a, es[i]? = some a ∧ e.key = a.key := by
  have h1 : (L.map RO.key)[i]? = some e.key := by rw [List.getElem?_map, he]; rfl
  rw [h, List.getElem?_map, Option.map_eq_some_iff] at h1
  obtain ⟨a, h2, h3⟩ := h1
  exact ⟨a, h2, h3.symm⟩
theorem Kp.at' {L : List RO} {es : List EA} (h : Kp L es) {i : Nat} {a : EA} (ha : es[i]? = some a) : ∃ e, L[i]? = some e ∧ e.key = a.key := by
  have h1 : (es.map EA.key)[i]? = some a.key := by rw [List.getElem?_map, ha]; rfl
  rw [← h, List.getElem?_map, Option.map_eq_some_iff] at h1
  obtain ⟨e, h2, h3⟩ := h1
  exact ⟨e, h2, h3⟩
theorem Kp.ids {L : List RO} {es : List EA} (h : Kp L es) : L.map RO.id = es.map EA.id := by
  have := congrArg (List.map (fun k : Key => k.1)) h
  simpa [Function.comp_def, RO.key, EA.key] using this
theorem Kp.erase {L : List RO} {es : List EA} (h : Kp L es) (i : Nat) : Kp (L.eraseIdx i) (es.eraseIdx i) := by
  unfold Kp at *
  have e1 : ∀ {α β : Type} (f : α → β) (l : List α) (i : Nat), (l.eraseIdx i).map f = (l.map f).eraseIdx i := fun f l i => by
    rw [List.eraseIdx_eq_take_drop_succ, List.eraseIdx_eq_take_drop_succ, List.map_append, List.map_take, List.map_drop]
  rw [e1, e1, h]
theorem find_key {L : List RO} {es : List EA} (h : Kp L es) (p : Key → Bool) : L.findIdx? (fun e => p e.key) = es.findIdx? (fun e => p e.key) := by
  have h1 : ∀ (l : List RO), l.findIdx? (fun e => p e.key) = (l.map RO.key).findIdx? p := fun l => by rw [List.findIdx?_map]; rfl
  have h2 : ∀ (l : List EA), l.findIdx? (fun e => p e.key) = (l.map EA.key).findIdx? p := fun l => by rw [List.findIdx?_map]; rfl
  rw [h1, h2, h]
theorem Kp.place {L : List RO} {es : List EA} (h : Kp L es) (id : Int) : L.findIdx? (fun e => e.id == id) = ixA es id := find_key h (fun k => k.1 == id)
theorem Kp.behind {L : List RO} {es : List EA} (h : Kp L es) (id : Int) : L.findIdx? (fun e => e.tied && e.to == id) = es.findIdx? (fun e => e.ahead == some id) := by
  have := find_key h (fun k => k.2.2.1 == some id)
  have e : (fun e : RO => e.tied && e.to == id) = fun e : RO => e.key.2.2.1 == some id := by
    funext e
    simp only [RO.key]
    cases e.tied with
    | true => simp
    | false => simp
  rw [e, this]; rfl
theorem key_id {e : RO} {a : EA} (h : e.key = a.key) : e.id = a.id := congrArg (·.1) h
theorem key_flags {e : RO} {a : EA} (h : e.key = a.key) : e.flags = a.flags := congrArg (·.2.1) h
theorem key_told {e : RO} {a : EA} (h : e.key = a.key) : e.told = a.told := congrArg (·.2.2.2) h
theorem key_ahead {e : RO} {a : EA} (h : e.key = a.key) : (if e.tied = true then some e.to else none) = a.ahead := congrArg (·.2.2.1) h
/-- Whoever stands behind, in a part of the book. -/
theorem behind_no {B : BA} (inv : AInv B) {es : List EA} (hs : ∀ a ∈ es, a ∈ B.es) {e : EA} (he : e ∈ B.es) (hb : e.behind = none) : es.findIdx? (fun a => a.ahead == some e.id) = none := by
  rw [List.findIdx?_eq_none_iff]
  intro n hn
  cases h : n.ahead == some e.id with
  | false => rfl
  | true =>
    obtain ⟨p, p1, p2, p3⟩ := inv.bwd n (hs n hn) e.id (by simpa using h)
    have := inv.same p p1 e he p2
    subst this; rw [hb] at p3; cases p3
theorem behind_one {B : BA} (inv : AInv B) {es : List EA} (hs : ∀ a ∈ es, a ∈ B.es) {e : EA} (he : e ∈ B.es) {m : Int} (hb : e.behind = some m) (hm : ∃ n ∈ es, n.id = m) : ∃ j n, es.findIdx? (fun a => a.ahead == some e.id) = some j ∧ es[j]? = some n ∧ n.id = m := by
  obtain ⟨n, n1, n2⟩ := hm
  obtain ⟨n', h1, h2, h3⟩ := inv.fwd e he m hb
  have := inv.same n (hs n n1) n' h1 (n2.trans h2.symm)
  subst this
  cases hf : es.findIdx? (fun a => a.ahead == some e.id) with
  | none =>
    rw [List.findIdx?_eq_none_iff] at hf
    have := hf n n1
    rw [h3] at this; simp at this
  | some j =>
    rw [List.findIdx?_eq_some_iff_getElem] at hf
    obtain ⟨hj, h4, _⟩ := hf
    refine ⟨j, es[j], rfl, List.getElem?_eq_getElem hj, ?_⟩
    obtain ⟨p, p1, p2, p3⟩ := inv.bwd es[j] (hs _ (List.getElem_mem hj)) e.id (by simpa using h4)
    have := inv.same p p1 e he p2
    subst this
    rw [hb] at p3
    exact (Option.some.inj p3).symm
theorem links_hd {es : List EA} {p : Option Int} {ks : List Int} (h : LinksA es p ks) : p = ks[0]? := by
  cases h <;> rfl
theorem chain_get {es : List EA} {p : Option Int} {ks : List Int} (h : LinksA es p ks) : ∀ (j : Nat) q, ks[j]? = some q → ∃ e ∈ es, e.id = q ∧ e.behind = ks[j + 1]? := by
  induction h with
  | nil => intro j q hq; simp at hq
  | cons k e ks he hk rest ih =>
    intro j q hq
    cases j with
    | zero =>
      simp at hq; subst hq
      exact ⟨e, he, hk, links_hd rest⟩
    | succ j => simpa using ih j q (by simpa using hq)
theorem notA_step {g : List Int} {j : Nat} {q : Int} (h : g[j]? = some q) (es : List EA) : notA (g.take (j + 1)) es = lessA q (notA (g.take j) es) := by
  have : g.take (j + 1) = g.take j ++ [q] := by rw [List.take_add_one, h]; rfl
  simp only [notA, lessA, this, List.filter_filter]
  refine List.filter_congr fun e _ => ?_
  by_cases h1 : e.id = q <;> simp [h1]
theorem notA_nil (es : List EA) : notA [] es = es := by simp [notA]
structure Rl (x : RB) (B : BA) : Prop where
  es : Kp x.l B.es
  rdy : x.ready = B.ready
  last : (if x.has = true then some x.last else none) = B.last
theorem rl_new : Rl ⟨[], [], 0, false⟩ ⟨[], [], none⟩ := ⟨rfl, rfl, rfl⟩
theorem Rl.end_ {x : RB} {B : BA} (h : Rl x B) : Rl { x with has := false } { B with last := none } := ⟨h.es, h.rdy, rfl⟩
theorem Rl.tell {x : RB} {B : BA} (h : Rl x B) : Rl (rtell x) (readyA B) := by
  refine ⟨?_, rfl, h.last⟩
  have : ∀ l : List Int, (rtold l x.l).map RO.key = (B.es.map fun e => if e.id ∈ l then { e with told := true } else e).map EA.key := fun l => by
    have f : ∀ k : Key, Key := fun k => k
    have e1 : (rtold l x.l).map RO.key = (x.l.map RO.key).map (fun k : Key => if k.1 ∈ l then (k.1, k.2.1, k.2.2.1, true) else k) := by
      simp only [rtold, List.map_map]
      refine List.map_congr_left fun e _ => ?_
      simp only [Function.comp, RO.key]
      by_cases hm : e.id ∈ l <;> simp [hm]
    have e2 : (B.es.map fun e => if e.id ∈ l then { e with told := true } else e).map EA.key = (B.es.map EA.key).map (fun k : Key => if k.1 ∈ l then (k.1, k.2.1, k.2.2.1, true) else k) := by
      simp only [List.map_map]
      refine List.map_congr_left fun e _ => ?_
      simp only [Function.comp, EA.key]
      by_cases hm : e.id ∈ l <;> simp [hm]
    rw [e1, e2, h.es]
  have h1 := this x.ready
  show (rtold x.ready x.l).map RO.key = _
  rw [h1, h.rdy]; rfl
theorem Rl.tied {x : RB} {B : BA} (inv : AInv B) (h : Rl x B) (hf : ∀ e ∈ B.es, 0 ≤ e.flags) : rtied x = (lnk B).isSome := by
  unfold rtied lnk
  have hl := h.last
  cases hh : x.has with
  | false => rw [hh] at hl; rw [← hl]; rfl
  | true =>
    rw [hh] at hl
    rw [← hl, h.es.place]
    simp only [if_true, Bool.true_and]
    cases hi : ixA B.es x.last with
    | none => rfl
    | some i =>
      obtain ⟨a, a1, a2⟩ := ixA_some hi
      obtain ⟨e, e1, e2⟩ := h.es.at' a1
      simp only [e1, a1, key_flags e2]
      have := hf a (List.mem_of_getElem? a1)
      by_cases h0 : a.flags = 0
      · simp [h0]
      · simp only [h0, if_false, Option.isSome_some, decide_eq_true_eq]; omega
theorem Rl.add {x : RB} {B : BA} (inv : AInv B) (h : Rl x B) (hf : ∀ e ∈ B.es, 0 ≤ e.flags) (id fl : Int) : Rl (radd x id fl) (addA B id fl) := by
  have ht := h.tied inv hf
  unfold addA
  cases hk : lnk B with
  | none =>
    rw [hk] at ht
    have ht : rtied x = false := ht
    refine ⟨?_, ?_, rfl⟩
    · simp only [radd, Kp, List.map_append, List.map_cons, List.map_nil, rone, RO.key, EA.key, ht, Bool.false_eq_true, if_false]
      congr 1
      exact h.es
    · simp [radd, ht, h.rdy]
  | some i =>
    rw [hk] at ht
    have ht : rtied x = true := ht
    have hh : x.has = true := by
      simp only [rtied, Bool.and_eq_true] at ht; exact ht.1
    have hl : B.last = some x.last := by rw [← h.last, hh]; rfl
    refine ⟨?_, ?_, rfl⟩
    · have e1 : (B.es.modify i fun a => { a with behind := some id }).map EA.key = B.es.map EA.key := by
        refine List.ext_getElem? fun j => ?_
        rw [List.getElem?_map, List.getElem?_map, List.getElem?_modify]
        by_cases e : i = j
        · subst e
          cases B.es[i]? with
          | none => rfl
          | some a => simp [EA.key]
        · simp [e]
      simp only [radd, Kp, List.map_append, List.map_cons, List.map_nil, rone, ht, if_true, e1]
      congr 1
      · exact h.es
      · simp [RO.key, EA.key, hl]
    · simp [radd, ht, h.rdy]
theorem flags_add {B : BA} {id fl : Int} (hf : ∀ e ∈ B.es, 0 ≤ e.flags) (h0 : 0 ≤ fl) : ∀ e ∈ (addA B id fl).es, 0 ≤ e.flags := by
  intro e he
  unfold addA at he
  split at he
  · rcases List.mem_append.1 he with he | he
    · exact hf e he
    · simp at he; subst he; show 0 ≤ fl % 4; omega
  · rcases List.mem_append.1 he with he | he
    · obtain ⟨j, hj, e1⟩ := List.getElem_of_mem he
      have h1 := List.getElem?_eq_getElem hj
      rw [e1, List.getElem?_modify] at h1
      simp at hj
      rw [List.getElem?_eq_getElem hj] at h1
      simp only [Option.map_eq_map, Option.map_some, Option.some.injEq] at h1
      rw [← h1]
      have := hf _ (List.getElem_mem hj)
      split <;> exact this
    · simp at he; subst he; show 0 ≤ fl % 4; omega
theorem flags_ready {B : BA} (hf : ∀ e ∈ B.es, 0 ≤ e.flags) : ∀ e ∈ (readyA B).es, 0 ≤ e.flags := by
  intro e he
  obtain ⟨e0, h0, rfl⟩ := mem_readyA.1 he
  have := hf e0 h0
  split <;> exact this
theorem flags_ends {B B' : BA} {id r : Int} {ok : Bool} {g : List Int} (h : EndsA B id ok g r B') (hf : ∀ e ∈ B.es, 0 ≤ e.flags) : (∀ e ∈ B'.es, 0 ≤ e.flags) ∧ B'.es.length ≤ B.es.length := by
  cases h with
  | no h => exact ⟨hf, Nat.le_refl _⟩
  | last e he hid ht hb => exact ⟨fun a ha => hf a (mem_lessA.1 ha).1, List.length_filter_le _ _⟩
  | next e k he hid ht hb hok =>
    refine ⟨fun a ha => ?_, by simp only [freeA, List.length_map]; exact List.length_filter_le _ _⟩
    obtain ⟨a0, h0, rfl⟩ := mem_freeA.1 ha
    have := hf a0 (mem_lessA.1 h0).1
    split <;> exact this
  | gone e k ks he hid ht hb hok hf' hl hn => exact ⟨fun a ha => hf a (mem_lessA.1 (mem_notA.1 ha).1).1, Nat.le_trans (List.length_filter_le _ _) (List.length_filter_le _ _)⟩
theorem Rl.ahead {x : RB} {B : BA} (inv : AInv B) (h : Rl x B) (id : Int) : rahead x id = (((getA B id).bind EA.ahead).getD 0, ((getA B id).bind EA.ahead).isSome) := by
  unfold rahead
  rw [h.es.place]
  cases hi : ixA B.es id with
  | none =>
    have : getA B id = none := by
      rw [getA, List.find?_eq_none]
      intro e he
      rw [ixA, List.findIdx?_eq_none_iff] at hi
      simpa using hi e he
    rw [this]; rfl
  | some i =>
    obtain ⟨a, a1, a2⟩ := ixA_some hi
    have hg := getA_at inv (List.mem_of_getElem? a1)
    rw [a2] at hg
    obtain ⟨e, e1, e2⟩ := h.es.at' a1
    have h3 := key_ahead e2
    rw [hg]
    simp only [e1, Option.bind_some]
    rw [← h3]
    cases e.tied <;> rfl
theorem Rl.behind {x : RB} {B : BA} (inv : AInv B) (h : Rl x B) (id : Int) : rbehind x id = (((getA B id).bind EA.behind).getD 0, ((getA B id).bind EA.behind).isSome) := by
  unfold rbehind
  rw [h.es.place, h.es.behind]
  cases hi : ixA B.es id with
  | none =>
    have : getA B id = none := by
      rw [getA, List.find?_eq_none]
      intro e he
      rw [ixA, List.findIdx?_eq_none_iff] at hi
      simpa using hi e he
    rw [this]; rfl
  | some i =>
    obtain ⟨a, a1, a2⟩ := ixA_some hi
    have ham := List.mem_of_getElem? a1
    have hg := getA_at inv ham
    rw [a2] at hg
    rw [hg]
    simp only [Option.bind_some]
    cases hb : a.behind with
    | none =>
      have := behind_no inv (fun a ha => ha) ham hb
      rw [a2] at this
      rw [this]; rfl
    | some m =>
      obtain ⟨n, n1, n2, n3⟩ := inv.fwd a ham m hb
      obtain ⟨j, n', j1, j2, j3⟩ := behind_one inv (fun a ha => ha) ham hb ⟨n, n1, n2⟩
      rw [a2] at j1
      obtain ⟨e, e1, e2⟩ := h.es.at' j2
      simp only [j1, e1, key_id e2, j3]
      rfl
/-! ### Owned -/
theorem frameR {P : Program} {g : FuncId} {vals : Array Value} {R : HP → Prop} {pre : List Asn} {Q : Value → List Asn → Prop} (more : List Asn) (h : Does P g vals R pre Q) (hR : ∀ f f' b, Split f' b f → sat more b → R f') : Does P g vals (fun _ => True) (pre ++ more) (fun v q => ∃ q', Q v q' ∧ q = q' ++ more) :=
  ⟨h.enters, fun f w _ hat => by
    obtain ⟨g', hat', b, hb1, hb2⟩ := hat.frame
    refine (h.run g' w (hR _ _ _ hb1 hb2) hat').mono ?_
    rintro e w' ⟨v, post, he, hp, hq, hs⟩
    exact ⟨v, _, he, hp.unframe hb1 hb2, ⟨post, hq, rfl⟩, hs⟩⟩
end Go.Proofs.Ytlgdagjbphafcaa.Ch
