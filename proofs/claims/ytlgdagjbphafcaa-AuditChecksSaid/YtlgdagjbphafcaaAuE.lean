/- audit: one mark; what holds of the entries. Conditions: none. -/
import Derived.Test.YtlgdagjbphafcaaAuD
namespace Go.Proofs.Ytlgdagjbphafcaa.Au
open Go Go.Proofs Sx
set_option maxRecDepth 100000
set_option linter.unusedVariables false
set_option linter.unusedSimpArgs false
set_option maxHeartbeats 4000000

def badD (l : List X) (m : M) (x : X) : Bool := m.what != 1 || x.ended || !began l x || !okQ x.q || x.q.op == 0 || decide (x.q.op > 9)
def step (l : List X) (m : M) : Option (List X) :=
  if m.what = 3 then some l else if m.what = 0 then took l m else
  match l.findIdx? (hit m.host m.ctx m.ticket) with
  | none => none
  | some i => match l[i]? with
    | none => none
    | some x => if m.what = 2 then (doneX l m x).map (fun y => l.set i y) else
      if badD l m x then none else some (l.set i { x with did := IntKind.i64.wrap (x.did + 1) })
def run : List X → List M → Option (List X)
  | l, [] => some l
  | l, m :: ms => match step l m with
    | none => none
    | some l' => run l' ms
theorem run_append (l : List X) : ∀ (ms ns : List M), run l (ms ++ ns) = match run l ms with
    | none => none
    | some l' => run l' ns
  | [], ns => rfl
  | m :: ms, ns => by
    simp only [List.cons_append, run]
    cases step l m with
    | none => rfl
    | some l' => exact run_append l' ms ns
theorem run_take {ms : List M} {i : Nat} {m : M} (hm : ms[i]? = some m) {l0 l : List X} (h : run l0 (ms.take i) = some l) : run l0 (ms.take (i + 1)) = step l m := by
  rw [List.take_add_one, hm, run_append, h]
  simp only [Option.toList_some, run]
  cases step l m <;> rfl
theorem run_take_none {ms : List M} {i : Nat} {l0 : List X} (h : run l0 (ms.take i) = none) : run l0 ms = none := by
  rw [← List.take_append_drop i ms, run_append, h]
abbrev Key := Int × Int × Int
def X.key (x : X) : Key := (x.host, x.ctx, x.ticket)
def at' (h c : Int) (k : Key) : Bool := k.1 == h && k.2.1 == c
/-- Tickets of each context count up from nought. -/
def Good (K : List Key) : Prop := ∀ h c, (K.filter (at' h c)).map (·.2.2) = (List.range (K.filter (at' h c)).length).map Int.ofNat
theorem good_nil : Good [] := fun h c => rfl
theorem good_push {K : List Key} (g : Good K) (h c : Int) : Good (K ++ [(h, c, ((K.filter (at' h c)).length : Int))]) := by
  intro h' c'
  rw [List.filter_append]
  by_cases e : at' h' c' (h, c, ((K.filter (at' h c)).length : Int)) = true
  · have : h = h' ∧ c = c' := by simpa [at'] using e
    obtain ⟨rfl, rfl⟩ := this
    rw [List.filter_cons_of_pos e, List.filter_nil, List.map_append, g h c, List.length_append, List.length_singleton, List.range_succ, List.map_append]
    rfl
  · rw [List.filter_cons_of_neg (by simpa using e), List.filter_nil, List.append_nil]
    exact g h' c'
theorem good_nodup {K : List Key} (g : Good K) : K.Nodup := by
  rw [List.nodup_iff_count]
  intro k
  have h1 : (K.filter (at' k.1 k.2.1)).Nodup := by
    have h2 : ((K.filter (at' k.1 k.2.1)).map (·.2.2)).Nodup := by
      rw [g]
      exact List.Pairwise.map _ (fun a b h e => h (Int.ofNat.inj e)) List.nodup_range
    exact List.Pairwise.of_map _ (fun a b h e => h (by rw [e])) h2
  have h3 := List.nodup_iff_count.1 h1 k
  rwa [List.count_filter (by simp [at'])] at h3
theorem good_ticket {K : List Key} (g : Good K) {k : Key} (hk : k ∈ K) : 0 ≤ k.2.2 ∧ k.2.2 < (K.filter (at' k.1 k.2.1)).length := by
  have h1 : k.2.2 ∈ (K.filter (at' k.1 k.2.1)).map (·.2.2) := List.mem_map.2 ⟨k, List.mem_filter.2 ⟨hk, by simp [at']⟩, rfl⟩
  rw [g] at h1
  obtain ⟨n, hn, e⟩ := List.mem_map.1 h1
  have := List.mem_range.1 hn
  rw [← e]
  exact ⟨Int.natCast_nonneg n, by show (n : Int) < _; omega⟩
structure WF (l : List X) : Prop where
  good : Good (l.map X.key)
  qs : ∀ x ∈ l, x.q.Ok
theorem placed_key (h c : Int) (x : X) : placed h c x = at' h c x.key := rfl
theorem count_key (l : List X) (h c : Int) : count l h c = ((l.map X.key).filter (at' h c)).length := by
  unfold count
  rw [← List.countP_eq_length_filter, List.countP_map]
  rfl
theorem WF.uq {l : List X} (w : WF l) : Uq l := by
  intro i j x y hx hy hh
  obtain ⟨h1, h2, h3⟩ := hit_iff.1 hh
  have hn := good_nodup w.good
  have e1 : (l.map X.key)[i]? = some x.key := by rw [List.getElem?_map, hx]; rfl
  have e2 : (l.map X.key)[j]? = some x.key := by rw [List.getElem?_map, hy]; simp [X.key, h1, h2, h3]
  exact (List.getElem?_inj (List.getElem?_eq_some_iff.1 e1).1 hn).1 (e1.trans e2.symm)
theorem WF.ticket {l : List X} (w : WF l) {x : X} (hx : x ∈ l) : 0 ≤ x.ticket ∧ x.ticket < l.length := by
  have h1 := good_ticket w.good (List.mem_map_of_mem (f := X.key) hx)
  have h2 := List.length_filter_le (at' x.host x.ctx) (l.map X.key)
  rw [List.length_map] at h2
  have h3 : x.ticket < (((l.map X.key).filter (at' x.host x.ctx)).length : Int) := h1.2
  exact ⟨h1.1, by omega⟩
theorem wf_nil : WF [] := ⟨good_nil, fun x h => by cases h⟩
theorem WF.push {l : List X} (w : WF l) {m : M} (hm : m.Ok) {tied : Bool} (ht : m.ticket = count l m.host m.ctx) : WF (l ++ [X.new m tied]) := by
  refine ⟨?_, fun x hx => ?_⟩
  · rw [List.map_append]
    have := good_push w.good m.host m.ctx
    rw [← count_key, ← ht] at this
    exact this
  · rcases List.mem_append.1 hx with hx | hx
    · exact w.qs x hx
    · simp at hx; subst hx; exact hm.q
theorem set_key {l : List X} {i : Nat} {x y : X} (hx : l[i]? = some x) (e : y.key = x.key) : (l.set i y).map X.key = l.map X.key := map_set_same hx e
theorem WF.put {l : List X} (w : WF l) {i : Nat} {x y : X} (hx : l[i]? = some x) (e : y.key = x.key) (q : y.q = x.q) : WF (l.set i y) := by
  refine ⟨by rw [set_key hx e]; exact w.good, fun z hz => ?_⟩
  rcases List.mem_or_eq_of_mem_set hz with hz | rfl
  · exact w.qs z hz
  · rw [q]; exact w.qs x (List.mem_of_getElem? hx)
theorem chk_some {m : M} {y z : X} (h : chk m y = some z) : z = y := by
  unfold chk at h
  split at h
  · cases h
  · split at h
    · cases h
    · exact (Option.some.inj h).symm
theorem doneX_some {l : List X} {m : M} {x y : X} (h : doneX l m x = some y) : y.key = x.key ∧ y.q = x.q ∧ y.tied = x.tied := by
  unfold doneX at h
  split at h
  · cases h
  · split at h
    · cases h
    · split at h
      · split at h
        · cases h
        · rw [chk_some h]; exact ⟨rfl, rfl, rfl⟩
      · rw [chk_some h]; exact ⟨rfl, rfl, rfl⟩
theorem took_some {l l' : List X} {m : M} (h : took l m = some l') : ∃ tied, l' = l ++ [X.new m tied] ∧ m.ticket = count l m.host m.ctx := by
  unfold took at h
  split at h
  · rename_i ht
    split at h
    · split at h
      · cases h
      · exact ⟨_, (Option.some.inj h).symm, ht⟩
    · exact ⟨_, (Option.some.inj h).symm, ht⟩
  · cases h
theorem WF.step {l l' : List X} {m : M} (w : WF l) (hm : m.Ok) (h : step l m = some l') : WF l' ∧ l'.length ≤ l.length + 1 := by
  unfold Au.step at h
  split at h
  · rw [← Option.some.inj h]; exact ⟨w, by omega⟩
  · split at h
    · obtain ⟨tied, rfl, ht⟩ := took_some h
      exact ⟨w.push hm ht, by simp⟩
    · split at h
      · cases h
      · split at h
        · cases h
        · rename_i i _ x hx
          split at h
          · cases hd : doneX l m x with
            | none => rw [hd] at h; cases h
            | some y =>
              rw [hd] at h
              obtain ⟨e1, e2, _⟩ := doneX_some hd
              rw [← Option.some.inj h]
              exact ⟨w.put hx e1 e2, by simp⟩
          · split at h
            · cases h
            · rw [← Option.some.inj h]
              exact ⟨w.put (y := { x with did := IntKind.i64.wrap (x.did + 1) }) hx rfl rfl, by simp⟩
/-- What the reference's Find finds. -/
theorem FindR.ix {l : List X} (hu : Uq l) {h c t r : Int} (hr : FindR l h c t r) : (r = -1 ∧ l.findIdx? (hit h c t) = none) ∨ ∃ (i : Nat) (x : X), r = i ∧ l[i]? = some x ∧ hit h c t x = true ∧ l.findIdx? (hit h c t) = some i := by
  rcases hr with ⟨h1, h2⟩ | ⟨i, x, h1, h2, h3⟩
  · exact .inl ⟨h1, List.findIdx?_eq_none_iff.2 h2⟩
  · refine .inr ⟨i, x, h1, h2, h3, ?_⟩
    cases hf : l.findIdx? (hit h c t) with
    | none => exact absurd h3 (by rw [List.findIdx?_eq_none_iff.1 hf x (List.mem_of_getElem? h2)]; decide)
    | some j =>
      obtain ⟨hj, hp, _⟩ := List.findIdx?_eq_some_iff_getElem.1 hf
      obtain ⟨x1, x2, x3⟩ := hit_iff.1 h3
      obtain ⟨y1, y2, y3⟩ := hit_iff.1 hp
      rw [hu i j x _ h2 (List.getElem?_eq_getElem hj) (hit_iff.2 ⟨by rw [y1, x1], by rw [y2, x2], by rw [y3, x3]⟩)]
end Go.Proofs.Ytlgdagjbphafcaa.Au
