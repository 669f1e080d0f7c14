/- Slices that lose parts, contradictions, frames: small lemmas. Conditions: none. -/
import Derived.Test.YtiknkeakielncaaE18
namespace Sx
open Go

theorem nope {P : Program} {g : FuncId} {vals : Array Value} {R : HP → Prop} {pre : List Asn} {Q : Value → List Asn → Prop} (he : Enters P g) (h : ∀ h, sat pre h → False) : Does P g vals R pre Q :=
  ⟨he, fun f w _ hat => by obtain ⟨x, _, k⟩ := hat; exact (h x k).elim⟩
theorem vec_none {b o : Nat} {t : TypeId} {sz cap : Nat} {xs : List Value} {h : HP} (k : Vec (.at b o) t sz cap xs h) : Vec (.at b o) t sz 0 [] h := by
  obtain ⟨_, ⟨h1, _⟩ | ⟨b', o', pre, post, h1, h2, h3, h4⟩⟩ := k
  · cases h1
  · exact ⟨by simp, .inr ⟨b', o', pre, xs ++ post, h1, by simpa using h2, h3, by simp⟩⟩
theorem vec_shift {b o : Nat} {t : TypeId} {sz cap : Nat} {xs ys : List Value} {h : HP} (n : Nat) (k : Vec (.at b o) t sz cap (ys ++ xs) h) (hn : ys.length = n * sz) : Vec (.at b (o + n * sz)) t sz (cap - n) xs h := by
  obtain ⟨hp, ⟨h1, _⟩ | ⟨b', o', pre, post, h1, h2, h3, h4⟩⟩ := k
  · cases h1
  · simp only [Plc.at.injEq] at h1
    obtain ⟨rfl, rfl⟩ := h1
    refine ⟨fun v hv => hp v (List.mem_append_right _ hv), .inr ⟨b, _, pre ++ ys, post, rfl, by simpa using h2, by simp [h3, hn], ?_⟩⟩
    rw [List.length_append, hn] at h4
    rw [Nat.sub_mul]; omega
theorem vec_cut {l : Plc} {t : TypeId} {sz cap : Nat} {xs ys : List Value} {h : HP} (k : Vec l t sz cap (xs ++ ys) h) : Vec l t sz cap xs h := by
  obtain ⟨hp, ⟨h1, h2, h3⟩ | ⟨b', o', pre, post, h1, h2, h3, h4⟩⟩ := k
  · exact ⟨fun v hv => hp v (List.mem_append_left _ hv), .inl ⟨h1, (List.append_eq_nil_iff.1 h2).1, h3⟩⟩
  · exact ⟨fun v hv => hp v (List.mem_append_left _ hv), .inr ⟨b', o', pre, ys ++ post, h1, by simpa using h2, h3, by simp at h4 ⊢; omega⟩⟩
theorem putV_mid {K G T c : List Value} {n : Nat} (hn : n = K.length) (hc : c.length ≤ G.length) : putV (K ++ G ++ T) n c = K ++ c ++ (G.drop c.length ++ T) := by
  subst hn
  have e := putV_pre K (G ++ T) 0 c
  rw [Nat.add_zero, ← List.append_assoc] at e
  rw [e, putV_post G T 0 c (by omega)]
  have e2 : putV G 0 c = c ++ G.drop c.length := by
    have e3 : G = G.take c.length ++ G.drop c.length := (List.take_append_drop _ _).symm
    have e4 : (G.take c.length).length = c.length := by simp; omega
    conv => lhs; rw [e3]
    rw [putV_post _ _ _ _ (by omega)]
    congr 1
    exact putV_all _ _ e4
  rw [e2]; simp

theorem clear_cut {l : Plc} {t : TypeId} {sz cap n : Nat} {K G T Z : List Value} {h : HP} (hn : n = K.length) (hc : Z.length ≤ G.length) (k : Vec l t sz cap (putV (K ++ G ++ T) n Z) h) : Vec l t sz cap K h := by
  rw [putV_mid hn hc, List.append_assoc] at k
  exact vec_cut k
theorem frameOf {P : Program} {g : FuncId} {vals : Array Value} {pre : List Asn} {Q : Value → List Asn → Prop} (more : List Asn) (h : Does P g vals (fun _ => True) pre Q) : Does P g vals (fun _ => True) (pre ++ more) (fun v q => ∃ q', Q v q' ∧ q = q' ++ more) :=
  ⟨h.enters, fun f w _ hat => by
    obtain ⟨g', hat', b, hb1, hb2⟩ := hat.frame
    refine (h.run g' w trivial hat').mono ?_
    rintro e w' ⟨v, post, he, hp, hq, hs⟩
    exact ⟨v, _, he, hp.unframe hb1 hb2, ⟨post, hq, rfl⟩, hs⟩⟩
theorem vec_sure {l : Plc} {t : TypeId} {sz cap : Nat} {xs : List Value} {h : HP} (k : Vec l t sz cap xs h) : xs ≠ [] → ∃ b o, l = .at b o := fun hx => by
  obtain ⟨_, ⟨_, h2, _⟩ | ⟨b', o', _, _, h1, _⟩⟩ := k
  · exact absurd h2 hx
  · exact ⟨b', o', h1⟩
theorem vec_sures {l : Plc} {t : TypeId} {sz cap : Nat} {xs : List Value} {As : List Asn} {h : HP} (k : sat (Vec l t sz cap xs :: As) h) : xs ≠ [] → ∃ b o, l = .at b o := by
  obtain ⟨x, y, _, hx, _⟩ := k
  exact vec_sure hx
theorem frameOf' {P : Program} {g : FuncId} {vals : Array Value} {R : HP → Prop} {pre : List Asn} {Q : Value → List Asn → Prop} (more : List Asn) (h : Does P g vals R pre Q) (mono : ∀ f f' b, Split f' b f → R f → R f' := by intro f f' b hs hR; exact frame_cell hs hR) : Does P g vals R (pre ++ more) (fun v q => ∃ q', Q v q' ∧ q = q' ++ more) :=
  ⟨h.enters, fun f w hR hat => by
    obtain ⟨g', hat', b, hb1, hb2⟩ := hat.frame
    refine (h.run g' w (mono _ _ _ hb1 hR) hat').mono ?_
    rintro e w' ⟨v, post, he, hp, hq, hs⟩
    exact ⟨v, _, he, hp.unframe hb1 hb2, ⟨post, hq, rfl⟩, hs⟩⟩
/-! ### Told blocks: what they read, where they turn -/
theorem told_at {s : St} {l : List Blk} {i b o : Nat} {c : Array Value} {t : TypeId} {fr : Nat × Nat} {v : Value} (n : Nat) (hn : s.hp[n]? = some (.asn (Blks l))) (hi : l[i]? = some (b, .cells c t fr)) (ho : c[o]? = some v) :
    ∀ h, sat s.ents h → fcell h b o = some v := fun h k =>
  fcell_of (sat_get k n (A := Blks l) (by simp only [St.ents, List.getElem?_map, hn]; rfl) (fun h k => k.get hi)) ho
theorem told_mem {s : St} {l : List Blk} {b o : Nat} {c : Array Value} {t : TypeId} {fr : Nat × Nat} {v : Value} (n : Nat) (hn : s.hp[n]? = some (.asn (Blks l))) (hi : (b, .cells c t fr) ∈ l) (ho : c[o]? = some v) :
    ∀ h, sat s.ents h → fcell h b o = some v := by
  obtain ⟨i, hi, e⟩ := List.getElem_of_mem hi
  exact told_at n hn (by rw [List.getElem?_eq_getElem hi, e]) ho
/-- .. in the frame of a call. -/
theorem blks_frame {f f' b : HP} {nm : List (Nat × Plc)} {es : List Ent} {l : List Blk} {x o : Nat} {c : Array Value} {t : TypeId} {fr : Nat × Nat} {v : Value} (n : Nat) (s : Split f' b f) (k : sat (es.map (entDen nm)) b) (hn : es[n]? = some (.asn (Blks l))) (hi : (x, .cells c t fr) ∈ l) (ho : c[o]? = some v) : fcell f' x o = some v := by
  obtain ⟨i, hi, e⟩ := List.getElem_of_mem hi
  have : b x = some (.cells c t fr) := sat_get k n (A := Blks l) (by rw [List.getElem?_map, hn]; rfl) (fun h k => k.get (i := i) (by rw [List.getElem?_eq_getElem hi, e]))
  exact fcell_of (s.get this) ho
theorem StRaw.at {s : St} {b o : Nat} {l : List SV} {K : St → Prop} {L : List Blk} {i : Nat} {c : Array Value} {t : TypeId} (n : Nat) (vs : List Value) (hd : denL s.nm l = some vs) (hn : s.hp[n]? = some (.asn (Blks L))) (hi : L[i]? = some (b, .cells c t (0, 0))) (ho : o + vs.length ≤ c.size)
    (k : K ⟨s.n, s.env, s.nm, s.next, s.hp.set n (.asn (Blks (L.set i (b, .cells (putV c.toList o vs).toArray t (0, 0)))))⟩) : StRaw s b o l K := by
  refine .mk vs hd _ (fun h hs => ?_) k
  have hn' : s.ents[n]? = some (Blks L) := by simp only [St.ents, List.getElem?_map, hn]; rfl
  refine ⟨c, t, sat_get hs n hn' (fun h k => k.get hi), ho, ?_⟩
  rw [List.map_set]
  exact sat_upd (Blks.upd hi) n hn' hs
theorem mp_to {nm : List (Nat × Plc)} {n b : Nat} {ks : KS} {l : List (List Int × Value)} {h : HP} (hn : getN nm n = some (.at b 0)) (k : entDen nm (.mp n ks l) h) : MapA b ks l h := by
  obtain ⟨b', h1, h2⟩ := k
  rw [hn] at h1; simp only [Option.some.injEq, Plc.at.injEq, and_true] at h1
  subst h1; exact h2
theorem mp_of {nm : List (Nat × Plc)} {n b : Nat} {ks : KS} {l : List (List Int × Value)} {h : HP} (hn : getN nm n = some (.at b 0)) (k : MapA b ks l h) : entDen nm (.mp n ks l) h := ⟨b, hn, k⟩
theorem map_set_same {α β : Type} {f : α → β} {l : List α} {i : Nat} {x y : α} (h : l[i]? = some x) (e : f y = f x) : (l.set i y).map f = l.map f := by
  rw [List.map_set, e]
  refine List.ext_getElem? fun j => ?_
  rw [List.getElem?_set]
  split
  · rename_i hj; subst hj
    split
    · rw [List.getElem?_map, h]; rfl
    · rename_i hl
      have := (List.getElem?_eq_some_iff.1 h).1
      simp at hl; omega
  · rfl
/-! ### Lists of parts of one size -/
/-- How a thing lies in cells: always as many. -/
structure Lay (α : Type) where
  cells : α → List Value
  sz : Nat
  len : ∀ a, (cells a).length = sz
  one : ∀ a, ∀ v ∈ cells a, v.oneCell' = true
def Lay.flat {α : Type} (e : Lay α) (l : List α) : List Value := l.flatMap e.cells
theorem Lay.flat_nil {α : Type} (e : Lay α) : e.flat [] = [] := rfl
theorem Lay.flat_cons {α : Type} (e : Lay α) (a : α) (l : List α) : e.flat (a :: l) = e.cells a ++ e.flat l := rfl
theorem Lay.flat_append {α : Type} (e : Lay α) (l m : List α) : e.flat (l ++ m) = e.flat l ++ e.flat m := by simp [Lay.flat]
theorem Lay.flat_one {α : Type} (e : Lay α) (a : α) : e.flat [a] = e.cells a := by simp [Lay.flat]
theorem Lay.flat_length {α : Type} (e : Lay α) (l : List α) : (e.flat l).length = l.length * e.sz := by
  induction l with
  | nil => simp [Lay.flat]
  | cons a l ih => rw [e.flat_cons, List.length_append, e.len, ih, List.length_cons, Nat.succ_mul]; omega
theorem Lay.flat_one' {α : Type} (e : Lay α) (l : List α) : ∀ v ∈ e.flat l, v.oneCell' = true := fun v hv => by
  obtain ⟨a, _, ha⟩ := List.mem_flatMap.1 hv
  exact e.one a v ha
theorem Lay.flat_drop {α : Type} (e : Lay α) {l : List α} {i : Nat} {a : α} (h : l[i]? = some a) : e.flat (l.drop i) = e.cells a ++ e.flat (l.drop (i + 1)) := by
  have hl := (List.getElem?_eq_some_iff.1 h).1
  have : l.drop i = a :: l.drop (i + 1) := by
    rw [List.drop_eq_getElem_cons hl]
    rw [List.getElem?_eq_getElem hl] at h
    simp only [Option.some.injEq] at h
    rw [h]
  rw [this]; rfl
theorem Lay.flat_split {α : Type} (e : Lay α) (l : List α) (i : Nat) : e.flat l = e.flat (l.take i) ++ e.flat (l.drop i) := by rw [← e.flat_append, List.take_append_drop]
theorem Lay.flat_take {α : Type} (e : Lay α) (l : List α) (i : Nat) : (e.flat l).take (i * e.sz) = e.flat (l.take i) := by
  by_cases hi : i ≤ l.length
  · rw [e.flat_split l i]
    have : (e.flat (l.take i)).length = i * e.sz := by rw [e.flat_length]; simp [Nat.min_eq_left hi]
    exact List.take_left' this
  · rw [List.take_of_length_le (by rw [e.flat_length]; exact Nat.mul_le_mul_right _ (by omega)), List.take_of_length_le (by omega)]
theorem Lay.flat_drops {α : Type} (e : Lay α) (l : List α) (i : Nat) : (e.flat l).drop (i * e.sz) = e.flat (l.drop i) := by
  by_cases hi : i ≤ l.length
  · rw [e.flat_split l i]
    have : (e.flat (l.take i)).length = i * e.sz := by rw [e.flat_length]; simp [Nat.min_eq_left hi]
    exact List.drop_left' this
  · rw [List.drop_of_length_le (by rw [e.flat_length]; exact Nat.mul_le_mul_right _ (by omega)), List.drop_of_length_le (by omega)]; rfl
/-- The cells of one of them. -/
theorem Lay.flat_get {α : Type} (e : Lay α) {l : List α} {i : Nat} {a : α} (h : l[i]? = some a) : ((e.flat l).drop (i * e.sz)).take e.sz = e.cells a := by
  rw [e.flat_drops, e.flat_drop h]
  exact List.take_left' (e.len a)
theorem Lay.flat_at {α : Type} (e : Lay α) {l : List α} {i : Nat} {a : α} (h : l[i]? = some a) {j : Nat} {v : Value} (hv : (e.cells a)[j]? = some v) : (e.flat l)[i * e.sz + j]? = some v := by
  have hj := (List.getElem?_eq_some_iff.1 hv).1
  rw [e.len] at hj
  rw [← List.getElem?_drop, ← hv, ← e.flat_get h, List.getElem?_take_of_lt hj]
/-- One of them is replaced. -/
theorem Lay.flat_set {α : Type} (e : Lay α) {l : List α} {i : Nat} {a : α} (hi : i < l.length) : putV (e.flat l) (i * e.sz) (e.cells a) = e.flat (l.set i a) := by
  have h := List.getElem?_eq_getElem hi
  have e1 : e.flat l = e.flat (l.take i) ++ e.cells l[i] ++ e.flat (l.drop (i + 1)) := by rw [List.append_assoc, ← e.flat_drop h, ← e.flat_split]
  have hlen : i * e.sz = (e.flat (l.take i)).length := by rw [e.flat_length]; simp [Nat.min_eq_left (Nat.le_of_lt hi)]
  rw [e1, putV_mid hlen (by rw [e.len, e.len]; exact Nat.le_refl _), List.drop_of_length_le (by rw [e.len, e.len]; exact Nat.le_refl _), List.nil_append, List.set_eq_take_append_cons_drop, if_pos hi, e.flat_append, e.flat_cons]
  simp
/-- Whole numbers of a kind. -/
def ints (k : IntKind) : Lay Int where
  cells n := [.int k n]
  sz := 1
  len _ := rfl
  one _ v hv := by simp at hv; subst hv; rfl
/-- What a thing of a slice reads. -/
theorem Reads.lay {α : Type} {f : HP} {A : Option Addr} {e : Lay α} {l : List α} (h : Reads f A (e.flat l)) (h0 : 0 < e.sz) {i : Nat} {a : α} (ha : l[i]? = some a) : ∃ b o, A = some ⟨b, o, none⟩ ∧ ∀ (j : Nat) v, (e.cells a)[j]? = some v → fcell f b (o + i * e.sz + j) = some v := by
  have hc : (e.cells a)[0]? = some ((e.cells a)[0]'(by rw [e.len]; exact h0)) := List.getElem?_eq_getElem _
  obtain ⟨b, o, rfl, _⟩ := h _ _ (e.flat_at ha hc)
  refine ⟨b, o, rfl, fun j v hv => ?_⟩
  obtain ⟨b', o', e1, e2⟩ := h _ _ (e.flat_at ha hv)
  simp only [Option.some.injEq, Addr.mk.injEq, and_true] at e1
  obtain ⟨rfl, rfl⟩ := e1
  rw [Nat.add_assoc]; exact e2
end Sx
