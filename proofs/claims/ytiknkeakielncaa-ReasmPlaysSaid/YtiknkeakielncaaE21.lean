/- slices.SortFunc, as a function's deed: what lies there is put in order. Conditions: none. -/
import Derived.Test.YtiknkeakielncaaE20
import Derived.Shelf.SlSortCmp.NoneTotal
namespace Sx
open Go Go.Sort

theorem hp_grow_old {w : World} {os : Array Obj} {b : Nat} (h : b < w.heap.size) : hpOf (grow w os) b = hpOf w b :=
  hpOf_eq (by show (w.heap ++ os)[b]? = _; rw [Array.getElem?_append_left h])
theorem At.grow {f : HP} {As : List Asn} {w : World} (h : At f As w) (os : Array Obj) : At f As (Sort.grow w os) := by
  obtain ⟨x, s, k⟩ := h
  have out : ∀ b, w.heap.size ≤ b → x b = none ∧ f b = none := fun b hb => by
    have h0 : hpOf w b = none := hpOf_none (by simp; omega)
    rcases s b with ⟨h1, h2⟩ | ⟨h1, h2⟩
    · exact ⟨h1, by rw [← h2]; exact h0⟩
    · exact ⟨by rw [← h2]; exact h0, h1⟩
  refine ⟨fun b => if b < w.heap.size then x b else hpOf (Sort.grow w os) b, fun b => ?_, sat_more (a := fun b => if b < w.heap.size then none else hpOf (Sort.grow w os) b) (b := x) (fun b => ?_) k⟩
  · by_cases hb : b < w.heap.size
    · simp only [hb, if_true]
      rw [hp_grow_old hb]; exact s b
    · simp only [hb, if_false]
      exact .inr ⟨(out b (by omega)).2, trivial⟩
  · by_cases hb : b < w.heap.size
    · simp only [hb, if_true]
      exact .inl ⟨trivial, trivial⟩
    · simp only [hb, if_false]
      exact .inr ⟨(out b (by omega)).1, trivial⟩
theorem putCells_mid {pre xs ys post : List Value} (hl : ys.length = xs.length) : (putCells id pre.length ys.toArray (pre ++ xs ++ post).toArray).toList = pre ++ ys ++ post := by
  refine List.ext_getElem? fun i => ?_
  simp only [putCells, Array.getElem?_toList, Array.getElem?_mapIdx, List.getElem?_toArray, List.size_toArray, List.append_assoc]
  by_cases h1 : i < pre.length
  · rw [List.getElem?_append_left h1, List.getElem?_append_left h1]
    cases pre[i]? with
    | none => rfl
    | some v => simp only [Option.map_some]; rw [if_neg (by omega)]
  · have eL : (pre ++ (xs ++ post))[i]? = (xs ++ post)[i - pre.length]? := List.getElem?_append_right (by omega)
    have eR : (pre ++ (ys ++ post))[i]? = (ys ++ post)[i - pre.length]? := List.getElem?_append_right (by omega)
    rw [eL, eR]
    by_cases h2 : i - pre.length < xs.length
    · rw [List.getElem?_append_left h2, List.getElem?_append_left (by omega), List.getElem?_eq_getElem h2, List.getElem?_eq_getElem (by omega)]
      simp only [Option.map_some]
      rw [if_pos ⟨by omega, by omega⟩]
      simp [getElem!_pos, show i - pre.length < ys.length by omega]
    · have eL : (xs ++ post)[i - pre.length]? = post[i - pre.length - xs.length]? := List.getElem?_append_right (by omega)
      have eR : (ys ++ post)[i - pre.length]? = post[i - pre.length - ys.length]? := List.getElem?_append_right (by omega)
      rw [eL, eR, hl]
      cases post[i - pre.length - xs.length]? with
      | none => rfl
      | some v => simp only [Option.map_some]; rw [if_neg (by omega)]
/-- The world in which a slice's cells are turned; draws, new blocks. -/
theorem at_row {f : HP} {w : World} {blk off : Nat} {t : TypeId} {sz cap : Nat} {xs ys : List Value} (hl : ys.length = xs.length) (hone : ∀ v ∈ ys, v.oneCell' = true) (h : At f [Vec (.at blk off) t sz cap xs] w) (n : Nat) (os : Array Obj) :
    At f [Vec (.at blk off) t sz cap ys] (Sort.grow (putRow id (Sort.ahead w n) blk off ys.toArray) os) ∧ Str w (Sort.grow (putRow id (Sort.ahead w n) blk off ys.toArray) os) := by
  obtain ⟨x, s, y, z, tt, ⟨_, ⟨h1, _⟩ | ⟨b', o', pre, post, h1, h2, h3, h4⟩⟩, k⟩ := h
  · cases h1
  simp only [Plc.at.injEq] at h1
  obtain ⟨rfl, rfl⟩ := h1
  have hat : At f [pt blk (.cells (pre ++ xs ++ post).toArray t (0, 0))] w := ⟨x, s, y, z, tt, h2, k⟩
  have hb := hat.block
  have hbl : blk < w.heap.size := (Array.getElem?_eq_some_iff.1 hb).1
  have e1 : (putRow id (Sort.ahead w n) blk off ys.toArray).heap[blk]? = some (.cells (pre ++ ys ++ post).toArray t (0, 0)) := by
    show (w.heap.modify blk _)[blk]? = _
    rw [Array.getElem?_modify, if_pos rfl, hb]
    simp only [Option.map_some, onCells]
    subst h3
    have := putCells_mid (pre := pre) (post := post) hl
    rw [← this]
  have e2 : ∀ r, r ≠ blk → (putRow id (Sort.ahead w n) blk off ys.toArray).heap[r]? = w.heap[r]? := fun r hr => by
    show (w.heap.modify blk _)[r]? = _
    rw [Array.getElem?_modify, if_neg (fun e => hr e.symm)]
  have a1 := hat.put (w' := putRow id (Sort.ahead w n) blk off ys.toArray) e1 rfl e2
  have st : Str w (putRow id (Sort.ahead w n) blk off ys.toArray) := Str.one rfl rfl rfl hb rfl (by show _ ≤ (w.heap.modify blk _).size; simp) e2 (Nat.le_add_right _ _)
  refine ⟨(a1.head fun h k => ?_).grow os, st.trans ⟨rfl, rfl, rfl, fun b o hb ho => ?_, by simp, Nat.le_refl _⟩⟩
  · exact ⟨hone, .inr ⟨blk, off, pre, post, rfl, k, h3, by rw [hl]; exact h4⟩⟩
  · show (_ ++ os)[b]? = _
    rw [Array.getElem?_append_left (Array.getElem?_eq_some_iff.1 hb).1]; exact hb
/-- What leaves all that was there leaves draws and new blocks alone. -/
theorem grown_of {w w' : World} (h : At (hpOf w) [] w') (s : Str w w') : ∃ q os, w' = Sort.grow (w.drewN q) os := by
  obtain ⟨_, _, _, _, hk⟩ := h.below s
  refine ⟨w'.drawn - w.drawn, w'.heap.extract w.heap.size, ?_⟩
  have e : w'.heap = w.heap ++ w'.heap.extract w.heap.size := by
    refine Array.ext_getElem? fun k => ?_
    by_cases h1 : k < w.heap.size
    · rw [hk k h1, Array.getElem?_append_left h1]
    · rw [Array.getElem?_append_right (by omega), Array.getElem?_extract]
      by_cases h2 : k < w'.heap.size
      · rw [if_pos (by have := s.size; omega), show w.heap.size + (k - w.heap.size) = k by omega]
      · rw [if_neg (by have := s.size; omega), Array.getElem?_eq_none (by omega)]
  obtain ⟨heap, tape, drawn, os, output⟩ := w'
  have h1 := s.os; have h2 := s.tape; have h3 := s.output; have h4 := s.drawn
  simp only at h1 h2 h3 h4 e
  subst h1; subst h2; subst h3
  unfold Sort.grow World.drewN
  simp only [World.mk.injEq, true_and, and_true]
  exact ⟨e, by omega⟩
theorem flatK_lay {α : Type} [Inhabited α] (e : Lay α) (l : List α) : flatK e.cells e.sz l.toArray = (e.flat l).toArray := by
  refine ext_get! (by simp [e.flat_length]) fun t ht => ?_
  have ht : t < l.length * e.sz := by simpa using ht
  have h0 : 0 < e.sz := by
    rcases Nat.eq_zero_or_pos e.sz with h | h
    · rw [h] at ht; simp at ht
    · exact h
  rw [get_flatK _ _ _ _ (by simpa using ht)]
  have hi : t / e.sz < l.length := Nat.div_lt_of_lt_mul (by rw [Nat.mul_comm]; exact ht)
  have hx := List.getElem?_eq_getElem hi
  have hj : t % e.sz < (e.cells l[t / e.sz]).length := by rw [e.len]; exact Nat.mod_lt _ h0
  have h1 := e.flat_at hx (j := t % e.sz) (List.getElem?_eq_getElem hj)
  rw [show t / e.sz * e.sz + t % e.sz = t by rw [Nat.mul_comm]; exact Nat.div_add_mod t e.sz] at h1
  have h2 : (e.flat l).toArray[t]! = (e.cells l[t / e.sz])[t % e.sz] := by
    rw [getElem!_def, List.getElem?_toArray, h1]
  rw [h2]
  have h3 : l.toArray[t / e.sz]! = l[t / e.sz] := by rw [getElem!_def, List.getElem?_toArray, hx]
  rw [h3, getElem!_def, List.getElem?_eq_getElem hj]
theorem permIn_perm {α : Type} [Inhabited α] {l : List α} {d' : Array α} (h : PermIn 0 l.toArray.size l.toArray d') : d'.toList.Perm l := by
  obtain ⟨h1, _, h2⟩ := h
  have e1 : d'.extract 0 l.toArray.size = d' := by rw [← h1]; simp
  have e2 : l.toArray.extract 0 l.toArray.size = l.toArray := by simp
  rw [e1, e2] at h2
  exact h2
theorem sortedIn_pair {α : Type} [Inhabited α] {lt : α → α → Bool} {n : Nat} {d' : Array α} (hn : d'.size = n) (h : SortedIn lt 0 n d') : d'.toList.Pairwise (fun x y => lt y x = false) := by
  rw [List.pairwise_iff_getElem]
  intro i j hi hj hij
  have := h i j (Nat.zero_le _) hij (by simpa [← hn] using hj)
  simp only [Array.length_toList] at hi hj
  rw [getElem!_pos d' i hi, getElem!_pos d' j hj] at this
  simpa using this
theorem holds_row {f : HP} {w : World} {blk off : Nat} {t : TypeId} {sz cap : Nat} {xs : List Value} (h : At f [Vec (.at blk off) t sz cap xs] w) : Holds id w blk off xs.toArray ∧ (xs ≠ [] → blk < w.heap.size) := by
  obtain ⟨x, s, y, z, tt, ⟨_, ⟨h1, _⟩ | ⟨b', o', pre, post, h1, h2, h3, h4⟩⟩, k⟩ := h
  · cases h1
  simp only [Plc.at.injEq] at h1
  obtain ⟨rfl, rfl⟩ := h1
  have hat : At f [pt blk (.cells (pre ++ xs ++ post).toArray t (0, 0))] w := ⟨x, s, y, z, tt, h2, k⟩
  have hb := hat.block
  refine ⟨fun j hj => ⟨?_, free_of hb _⟩, fun _ => (Array.getElem?_eq_some_iff.1 hb).1⟩
  have hj : j < xs.length := by simpa using hj
  rw [cell_of hb, List.getElem?_toArray, List.append_assoc, List.getElem?_append_right (by omega), h3, show off + j - off = j by omega, List.getElem?_append_left hj, List.getElem?_eq_getElem hj]
  simp [getElem!_pos, hj]
/-- **slices.SortFunc, of structs.** -/
theorem sortK_does {P : Program} {ρ : Shelf.Ren} {α : Type} [Inhabited α] (L : Proofs.SlLaysF0.n6 P ρ) (e : Lay α) (h0 : 0 < e.sz) (aE : ∀ w, (isAgg (ρ.t 24)).run P w = .ok true w) (zE : ∀ w, (Go.sizeOf (ρ.t 24)).run P w = .ok e.sz w) (cf : α → α → Int) (hO : SWO (Proofs.ltOf cf))
    (g : Nat) (cb : Array Value) (R : HP → Prop) (hmono : ∀ f f' b, Split f' b f → R f → R f') (cmp : ∀ x y, Does P g (#[.agg (e.cells x).toArray, .agg (e.cells y).toArray] ++ cb) R [] (fun v p => v = .int .i64 (cf x y) ∧ p = []))
    (t : TypeId) (pl : Plc) (cap : Nat) (l : List α) (hl : l.length < 4611686018427387904) :
    Does P (ρ.f 6) #[.slice (locAddr 0 pl) l.length cap, .func (.func g) #[] cb] R [Vec pl t e.sz cap (e.flat l)]
      (fun v p => ∃ l' : List α, v = .tuple #[] ∧ l'.Perm l ∧ l'.Pairwise (fun x y => Proofs.ltOf cf y x = false) ∧ p = [Vec pl t e.sz cap (e.flat l')]) := by
  refine ⟨L.f6.enters rfl, fun f w hR hat => ?_⟩
  cases hcl : l with
  | nil =>
    subst hcl
    refine (Proofs.AnyF.slices_SortFunc_none L (locAddr 0 pl) cap _ w).mono ?_
    rintro e' w' ⟨rfl, rfl⟩
    exact ⟨_, _, rfl, hat, ⟨[], rfl, .refl _, .nil, rfl⟩, .refl _⟩
  | cons x0 l0 =>
    rw [← hcl]
    have hne : e.flat l ≠ [] := fun h => by
      have := congrArg List.length h
      rw [e.flat_length, hcl, List.length_cons] at this
      have h2 : 1 * 1 ≤ (l0.length + 1) * e.sz := Nat.mul_le_mul (by omega) h0
      simp at this; omega
    have hpl : ∃ b o, pl = .at b o := by
      obtain ⟨x, s, y, z, tt, ⟨_, ⟨_, h2, _⟩ | ⟨b, o, _, _, h2, _⟩⟩, k⟩ := id hat
      · exact absurd h2 hne
      · exact ⟨b, o, h2⟩
    obtain ⟨blk, off, rfl⟩ := hpl
    obtain ⟨hH, hblk⟩ := holds_row hat
    have hH : HoldsK e.cells e.sz w blk off l.toArray := by unfold HoldsK; rw [flatK_lay]; exact hH
    have world : ∀ (m : Nat) (os : Array Obj) (dk : Array α), dk.size = l.toArray.size → At f [Vec (.at blk off) t e.sz cap (e.flat dk.toList)] (Proofs.sortWorldK e.cells e.sz w blk off m dk os) ∧ Str w (Proofs.sortWorldK e.cells e.sz w blk off m dk os) := fun m os dk hs => by
      have := at_row (ys := e.flat dk.toList) (by rw [e.flat_length, e.flat_length]; simp [hs]) (e.flat_one' _) hat m os
      unfold Proofs.sortWorldK putRowK
      rw [show flatK e.cells e.sz dk = (e.flat dk.toList).toArray from by rw [← flatK_lay]]
      exact this
    have hcmp : Proofs.CmpLays P g cb e.cells e.sz cf blk off l.toArray.size w := fun m os dk hs x y => by
      obtain ⟨⟨h', sp, _⟩, _⟩ := world m os dk hs
      refine ((cmp x y).run (hpOf (Proofs.sortWorldK e.cells e.sz w blk off m dk os)) _ (hmono _ _ _ sp hR) (At.whole _)).mono ?_
      rintro e' w' ⟨v, post, rfl, h1, ⟨rfl, rfl⟩, h2⟩
      exact ⟨rfl, grown_of h1 h2⟩
    have := Proofs.AnyQ.slices_SortFunc L e.sz aE zE e.cells e.len e.one cf hO g cb blk off cap l.toArray w (cmp x0 x0).enters hcmp hH (hblk hne) (by simpa using hl)
    rw [show l.toArray.size = l.length from rfl] at this
    refine this.mono ?_
    rintro e' w' ⟨rfl, d', n, os, hp, hs, rfl⟩
    obtain ⟨a1, a2⟩ := world n os d' hp.1
    exact ⟨_, _, rfl, a1, ⟨d'.toList, rfl, permIn_perm hp, sortedIn_pair hp.1 hs, rfl⟩, a2⟩
/-! ### .. of things of one cell -/
theorem putRow_map {α : Type} [Inhabited α] (enc : α → Value) (w : World) (blk off : Nat) (d : Array α) : putRow enc w blk off d = putRow id w blk off (d.map enc) := by
  unfold putRow
  refine mapBlock_congr _ _ _ _ fun c _ _ _ => ?_
  unfold putCells
  refine Array.ext_getElem? fun k => ?_
  rw [Array.getElem?_mapIdx, Array.getElem?_mapIdx, Array.size_map]
  cases c[k]? with
  | none => rfl
  | some x =>
    simp only [Option.map_some]
    split
    · rename_i h
      have hk : k - off < d.size := by omega
      simp [getElem!_pos, hk]
    · rfl
def one1 {α : Type} (enc : α → Value) (h1 : Proofs.OneCell enc) : Lay α where
  cells x := [enc x]
  sz := 1
  len _ := rfl
  one x v hv := by
    simp only [List.mem_singleton] at hv
    subst hv; exact h1 x
theorem one1_flat {α : Type} (enc : α → Value) (h1 : Proofs.OneCell enc) (l : List α) : (one1 enc h1).flat l = l.map enc := by
  induction l with
  | nil => rfl
  | cons x l ih => rw [Lay.flat_cons, ih]; rfl
/-- **slices.SortFunc, of things of one cell.** -/
theorem sort1_does {P : Program} {ρ : Shelf.Ren} {α : Type} [Inhabited α] (L : Proofs.SlLaysF.n6 P ρ) (enc : α → Value) (h1 : Proofs.OneCell enc) (cf : α → α → Int) (hO : SWO (Proofs.ltOf cf))
    (g : Nat) (cb : Array Value) (R : HP → Prop) (hmono : ∀ f f' b, Split f' b f → R f → R f') (cmp : ∀ x y, Does P g (#[enc x, enc y] ++ cb) R [] (fun v p => v = .int .i64 (cf x y) ∧ p = []))
    (t : TypeId) (pl : Plc) (cap : Nat) (l : List α) (hl : l.length < 4611686018427387904) :
    Does P (ρ.f 6) #[.slice (locAddr 0 pl) l.length cap, .func (.func g) #[] cb] R [Vec pl t 1 cap (l.map enc)]
      (fun v p => ∃ l' : List α, v = .tuple #[] ∧ l'.Perm l ∧ l'.Pairwise (fun x y => Proofs.ltOf cf y x = false) ∧ p = [Vec pl t 1 cap (l'.map enc)]) := by
  refine ⟨L.f6.enters rfl, fun f w hR hat => ?_⟩
  cases hcl : l with
  | nil =>
    subst hcl
    refine (Proofs.AnyF.slices_SortFunc_none (P := P) (ρ := ρ) { L with } (locAddr 0 pl) cap _ w).mono ?_
    rintro e' w' ⟨rfl, rfl⟩
    exact ⟨_, _, rfl, hat, ⟨[], rfl, .refl _, .nil, rfl⟩, .refl _⟩
  | cons x0 l0 =>
    rw [← hcl]
    have hne : l.map enc ≠ [] := by rw [hcl]; simp
    have hpl : ∃ b o, pl = .at b o := by
      obtain ⟨x, s, y, z, tt, ⟨_, ⟨_, h2, _⟩ | ⟨b, o, _, _, h2, _⟩⟩, k⟩ := id hat
      · exact absurd h2 hne
      · exact ⟨b, o, h2⟩
    obtain ⟨blk, off, rfl⟩ := hpl
    obtain ⟨hH, hblk⟩ := holds_row hat
    have hH : Holds enc w blk off l.toArray := fun j hj => by
      have hj' : j < l.length := by simpa using hj
      have := hH j (by simpa using hj')
      simpa [getElem!_pos, hj'] using this
    have world : ∀ (m : Nat) (os : Array Obj) (dk : Array α), dk.size = l.toArray.size → At f [Vec (.at blk off) t 1 cap (dk.toList.map enc)] (Proofs.sortWorld enc w blk off m dk os) ∧ Str w (Proofs.sortWorld enc w blk off m dk os) := fun m os dk hs => by
      have := at_row (ys := dk.toList.map enc) (by rw [List.length_map, List.length_map, Array.length_toList]; exact hs) (fun v hv => by obtain ⟨x, _, rfl⟩ := List.mem_map.1 hv; exact h1 x) hat m os
      unfold Proofs.sortWorld
      rw [putRow_map, show dk.map enc = (dk.toList.map enc).toArray from by rw [← Array.toList_map, Array.toArray_toList]]
      exact this
    have hcmp : Proofs.CmpLays1 P g cb enc cf blk off l.toArray.size w := fun m os dk hs x y => by
      obtain ⟨⟨h', sp, _⟩, _⟩ := world m os dk hs
      refine ((cmp x y).run (hpOf (Proofs.sortWorld enc w blk off m dk os)) _ (hmono _ _ _ sp hR) (At.whole _)).mono ?_
      rintro e' w' ⟨v, post, rfl, h1, ⟨rfl, rfl⟩, h2⟩
      exact ⟨rfl, grown_of h1 h2⟩
    have := Proofs.Any.slices_SortFunc L enc h1 cf hO g cb blk off cap l.toArray w (cmp x0 x0).enters hcmp hH (hblk hne) (by simpa using hl)
    rw [show l.toArray.size = l.length from rfl] at this
    refine this.mono ?_
    rintro e' w' ⟨rfl, d', n, os, hp, hs, rfl⟩
    obtain ⟨a1, a2⟩ := world n os d' hp.1
    exact ⟨_, _, rfl, a1, ⟨d'.toList, rfl, permIn_perm hp, sortedIn_pair hp.1 hs, rfl⟩, a2⟩
end Sx
