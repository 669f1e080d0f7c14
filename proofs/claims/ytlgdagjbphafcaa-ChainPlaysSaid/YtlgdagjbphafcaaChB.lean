/- What a book of entries is; New, Add. Conditions: none. -/
import Derived.Test.YtlgdagjbphafcaaChA
namespace Go.Proofs.Ytlgdagjbphafcaa.Ch
open Go Go.Proofs Sx
set_option maxRecDepth 100000
set_option linter.unusedVariables false

/-- An entry: where it lies, who stands ahead, who behind (each a cell and its number). -/
structure E where
  id : Int
  b : Nat
  flags : Int
  ahead : Option (Nat × Int)
  behind : Option (Nat × Int)
  told : Bool
def E.cells (e : E) : Array Value := #[.int .u8 e.flags, ptrO e.ahead, ptrO e.behind, .bool e.told]
def E.blk (e : E) : Blk := (e.b, .cells e.cells 157 (0, 0))
def E.key (e : E) : List Int × Value := ([e.id], .pointer (some ⟨e.b, 0, none⟩))
def cellO (p : Nat × Int) : Blk := (p.1, .cells #[.int .i64 p.2] 3 (0, 0))
structure Bk where
  es : List E
  ready : List Int
  last : Option (Nat × Int)
  cs : List (Nat × Int)
structure Ly where
  lo : Plc
  co : Nat
  lr : Plc
  cr : Nat
def hdr (mb : Nat) (x : Bk) (y : Ly) : Array Value := #[.map (some mb), .slice (locAddr 0 y.lo) x.es.length y.co, .slice (locAddr 0 y.lr) x.ready.length y.cr, ptrO x.last]
def Book (bb mb : Nat) (x : Bk) (y : Ly) : List Asn :=
  [pt bb (.cells (hdr mb x y) 153 (0, 0)), MapA mb (.one .i64) (x.es.map E.key), Vec y.lo 3 1 y.co (I.flat (x.es.map E.id)), Vec y.lr 3 1 y.cr (I.flat x.ready), Blks (x.es.map E.blk), Blks (x.cs.map cellO)]
def hpB (x : Bk) (y : Ly) : List Ent :=
  [.blk 0 153 [.map 1, .sl 2 0 x.es.length y.co, .sl 3 0 x.ready.length y.cr, .raw (ptrO x.last)], .mp 1 (.one .i64) (x.es.map E.key), .vec 2 3 1 y.co (I.flat (x.es.map E.id)), .vec 3 3 1 y.cr (I.flat x.ready), .asn (Blks (x.es.map E.blk)), .asn (Blks (x.cs.map cellO))]
def nmB (bb mb : Nat) (y : Ly) : List (Nat × Plc) := [(0, .at bb 0), (1, .at mb 0), (2, y.lo), (3, y.lr)]
structure Inv (x : Bk) (y : Ly) : Prop where
  ids : (x.es.map E.id).Nodup
  ahead : ∀ e ∈ x.es, ∀ p, e.ahead = some p → p ∈ x.cs
  behind : ∀ e ∈ x.es, ∀ p, e.behind = some p → p ∈ x.cs
  last : ∀ p, x.last = some p → p ∈ x.cs
  ro : x.es.length ≤ y.co
  rr : x.ready.length ≤ y.cr
  no : x.es.length ≤ 100000
  nr : x.ready.length ≤ 100000
  fl : ∀ e ∈ x.es, 0 ≤ e.flags ∧ e.flags ≤ 3
theorem cell_mem {cs : List (Nat × Int)} {c : Nat} {n : Int} (h : (c, n) ∈ cs) : ((c, .cells #[.int .i64 n] 3 (0, 0)) : Blk) ∈ cs.map cellO := List.mem_map.2 ⟨_, h, rfl⟩
theorem blk_at {es : List E} {i : Nat} {e : E} (h : es[i]? = some e) : (es.map E.blk)[i]? = some (e.b, .cells e.cells 157 (0, 0)) := by rw [List.getElem?_map, h]; rfl
/-! ### The map's entries -/
theorem find_none {id : Int} : ∀ {es : List E}, id ∉ es.map E.id → findL [id] (es.map E.key) = none
  | [], _ => rfl
  | e :: es, h => by
    simp only [List.map_cons, List.mem_cons, not_or] at h
    show findL [id] (([e.id], _) :: _) = none
    unfold findL
    rw [if_neg (by simpa using h.1)]
    exact find_none h.2
theorem find_some {id : Int} : ∀ {es : List E}, id ∈ es.map E.id → ∃ (i : Nat) (e : E), es[i]? = some e ∧ e.id = id ∧ findL [id] (es.map E.key) = some (.pointer (some ⟨e.b, 0, none⟩))
  | [], h => by simp at h
  | e :: es, h => by
    by_cases he : id = e.id
    · refine ⟨0, e, rfl, he.symm, ?_⟩
      show findL [id] (([e.id], _) :: _) = _
      unfold findL
      rw [if_pos (by simp [he])]
    · simp only [List.map_cons, List.mem_cons, he, false_or] at h
      obtain ⟨i, x, h1, h2, h3⟩ := find_some h
      refine ⟨i + 1, x, by simpa using h1, h2, ?_⟩
      show findL [id] (([e.id], _) :: _) = _
      unfold findL
      rw [if_neg (by simpa using he)]
      exact h3
theorem find_at {es : List E} {i : Nat} {e : E} (hn : (es.map E.id).Nodup) (h : es[i]? = some e) : findL [e.id] (es.map E.key) = some (.pointer (some ⟨e.b, 0, none⟩)) := by
  induction es generalizing i with
  | nil => simp at h
  | cons a es ih =>
    show findL [e.id] (([a.id], _) :: _) = _
    unfold findL
    cases i with
    | zero => simp at h; subst h; rw [if_pos rfl]
    | succ i =>
      have hm : e.id ∈ es.map E.id := List.mem_map.2 ⟨e, List.mem_of_getElem? (by simpa using h), rfl⟩
      simp only [List.map_cons, List.nodup_cons] at hn
      rw [if_neg (by simp; intro e1; rw [e1] at hm; exact hn.1 hm)]
      exact ih hn.2 (by simpa using h)
theorem put_new {id : Int} {v : Value} : ∀ {es : List E}, id ∉ es.map E.id → updL [id] v (es.map E.key) = es.map E.key ++ [([id], v)]
  | [], _ => rfl
  | e :: es, h => by
    simp only [List.map_cons, List.mem_cons, not_or] at h
    show updL [id] v (([e.id], _) :: _) = _
    unfold updL
    rw [if_neg (by simpa using h.1), put_new h.2]
    rfl
theorem del_key {es : List E} {i : Nat} {e : E} (hn : (es.map E.id).Nodup) (h : es[i]? = some e) : delL [e.id] (es.map E.key) = (es.eraseIdx i).map E.key := by
  induction es generalizing i with
  | nil => simp at h
  | cons a es ih =>
    show delL [e.id] (([a.id], _) :: _) = _
    unfold delL
    cases i with
    | zero => simp at h; subst h; rw [if_pos rfl]; rfl
    | succ i =>
      have hm : e.id ∈ es.map E.id := List.mem_map.2 ⟨e, List.mem_of_getElem? (by simpa using h), rfl⟩
      simp only [List.map_cons, List.nodup_cons] at hn
      rw [if_neg (by simp; intro e1; rw [e1] at hm; exact hn.1 hm), ih hn.2 (by simpa using h)]
      rfl
theorem without_ids {es : List E} {i : Nat} {e : E} (hn : (es.map E.id).Nodup) (h : es[i]? = some e) : without e.id (es.map E.id) = (es.eraseIdx i).map E.id := by
  induction es generalizing i with
  | nil => simp at h
  | cons a es ih =>
    simp only [List.map_cons, List.nodup_cons] at hn
    cases i with
    | zero =>
      simp at h; subst h
      have := without_none hn.1
      simp only [without, List.map_cons, List.filter_cons, bne_self_eq_false, Bool.false_eq_true, if_false, List.eraseIdx_cons_zero] at this ⊢
      exact this
    | succ i =>
      have hm : e.id ∈ es.map E.id := List.mem_map.2 ⟨e, List.mem_of_getElem? (by simpa using h), rfl⟩
      have hne : a.id ≠ e.id := fun e1 => by rw [← e1] at hm; exact hn.1 hm
      have := ih hn.2 (by simpa using h)
      simp only [without, List.map_cons, List.filter_cons, List.eraseIdx_cons_succ] at this ⊢
      rw [if_pos (by simpa using hne), this]
/-! ### New -/
theorem new_spec : Does Try.prog 40 #[] (fun _ => True) [] (fun v q => ∃ bb mb, v = .pointer (some ⟨bb, 0, none⟩) ∧ q = Book bb mb ⟨[], [], none, []⟩ ⟨.nil, 0, .nil, 0⟩) := by
  refine Does.of Try.func40 Try.call40 rfl [] [] 0 [] rfl rfl (fun h k => k) (fun f hR => ?_)
  intro mb bb
  exact FinOb.mk [.pointer (some ⟨bb, 0, none⟩)] (Book bb mb ⟨[], [], none, []⟩ ⟨.nil, 0, .nil, 0⟩) rfl (fun h k => sat_pick 0 rfl (by first | exact fun _ k => k | exact fun _ k => blk_to rfl rfl k | exact fun _ k => vec_to rfl k | exact fun _ k => blk_of rfl rfl k | exact fun _ k => vec_of rfl k | exact fun _ k => blk_of rfl rfl (blk_to rfl rfl k) | exact fun _ k => vec_of rfl (vec_to rfl k) | exact fun _ k => mp_to rfl k | exact fun _ k => mp_of rfl k | exact fun _ k => mp_of rfl (mp_to rfl k)) (fun h k => sat_pick 0 rfl (by first | exact fun _ k => k | exact fun _ k => blk_to rfl rfl k | exact fun _ k => vec_to rfl k | exact fun _ k => blk_of rfl rfl k | exact fun _ k => vec_of rfl k | exact fun _ k => blk_of rfl rfl (blk_to rfl rfl k) | exact fun _ k => vec_of rfl (vec_to rfl k) | exact fun _ k => mp_to rfl k | exact fun _ k => mp_of rfl k | exact fun _ k => mp_of rfl (mp_to rfl k)) (fun h k => sat_add vec_emp ((fun h k => sat_add vec_emp ((fun h k => sat_add (Blks.nil _) ((fun h k => sat_add (Blks.nil _) ((fun h k => sat_nil k) h k)) h k)) h k)) h k)) k) k) ⟨bb, mb, rfl, rfl⟩
theorem inv_new : Inv ⟨[], [], none, []⟩ ⟨.nil, 0, .nil, 0⟩ := ⟨.nil, by simp, by simp, by simp, by simp, by simp, by simp, by simp, by simp⟩
/-! ### Add -/
theorem and3 {n : Int} (h0 : 0 ≤ n) (h1 : n ≤ 255) : bitsOf .u8 (· &&& ·) n 3 = n % 4 := by
  obtain ⟨m, rfl⟩ := Int.eq_ofNat_of_zero_le h0
  have hm : m < 256 := by omega
  have : ∀ m : Fin 256, bitsOf .u8 (· &&& ·) (m.1 : Int) 3 = (m.1 : Int) % 4 := by decide
  exact this ⟨m, hm⟩
theorem and2 {n : Int} (h0 : 0 ≤ n) (h1 : n ≤ 3) : (bitsOf .u8 (· &&& ·) n 2 != 0) = decide (2 ≤ n) := by
  have : n = 0 ∨ n = 1 ∨ n = 2 ∨ n = 3 := by omega
  rcases this with rfl | rfl | rfl | rfl <;> decide
def linked (x : Bk) : Prop := ∃ c l a, x.last = some (c, l) ∧ a ∈ x.es ∧ a.id = l ∧ a.flags ≠ 0
theorem inv_push {x : Bk} {y y' : Ly} (inv : Inv x y) {e : E} {r' : List Int} {l' : Option (Nat × Int)} {cs' : List (Nat × Int)} (hid : e.id ∉ x.es.map E.id) (hb : e.behind = none) (ha : ∀ p, e.ahead = some p → p ∈ cs') (sub : ∀ p ∈ x.cs, p ∈ cs')
    (hl : ∀ p, l' = some p → p ∈ cs') (ro : x.es.length + 1 ≤ y'.co) (rr : r'.length ≤ y'.cr) (no : x.es.length < 100000) (nr : r'.length ≤ 100000) (fl : 0 ≤ e.flags ∧ e.flags ≤ 3) : Inv ⟨x.es ++ [e], r', l', cs'⟩ y' := by
  refine ⟨?_, ?_, ?_, hl, by simpa using ro, rr, by simp only [List.length_append, List.length_singleton]; omega, nr, ?_⟩
  · rw [List.map_append, List.nodup_append]
    refine ⟨inv.ids, by simp, fun a ha b hb => ?_⟩
    simp at hb; subst hb
    exact fun e => hid (by rw [← e]; exact ha)
  · intro a h p hp
    rcases List.mem_append.1 h with h | h
    · exact sub p (inv.ahead a h p hp)
    · simp at h; subst h; exact ha p hp
  · intro a h p hp
    rcases List.mem_append.1 h with h | h
    · exact sub p (inv.behind a h p hp)
    · simp at h; subst h; rw [hb] at hp; cases hp
  · intro a h
    rcases List.mem_append.1 h with h | h
    · exact inv.fl a h
    · simp at h; subst h; exact fl
theorem mem_set {α : Type} {l : List α} {i : Nat} {a b : α} (h : b ∈ l.set i a) : b ∈ l ∨ b = a := List.mem_or_eq_of_mem_set h
/-- One entry is turned; its number stays. -/
theorem inv_turn {x : Bk} {y : Ly} (inv : Inv x y) {i : Nat} {a a' : E} (hi : x.es[i]? = some a) (hid : a'.id = a.id) {cs' : List (Nat × Int)} (sub : ∀ p ∈ x.cs, p ∈ cs') (ha : ∀ p, a'.ahead = some p → p ∈ cs') (hb : ∀ p, a'.behind = some p → p ∈ cs') (hf : a'.flags = a.flags) :
    Inv ⟨x.es.set i a', x.ready, x.last, cs'⟩ y := by
  have hm := List.mem_of_getElem? hi
  refine ⟨?_, ?_, ?_, fun p hp => sub p (inv.last p hp), by simpa using inv.ro, inv.rr, by simpa using inv.no, inv.nr, ?_⟩
  · rw [map_set_same hi hid]; exact inv.ids
  · intro z hz p hp
    rcases mem_set hz with h | rfl
    · exact sub p (inv.ahead z h p hp)
    · exact ha p hp
  · intro z hz p hp
    rcases mem_set hz with h | rfl
    · exact sub p (inv.behind z h p hp)
    · exact hb p hp
  · intro z hz
    rcases mem_set hz with h | rfl
    · exact inv.fl z h
    · rw [hf]; exact inv.fl a hm
theorem fl4 (fl : Int) : 0 ≤ fl % 4 ∧ fl % 4 ≤ 3 := by omega
theorem ids_push (es : List E) (e : E) : I.flat ((es ++ [e]).map E.id) = I.flat (es.map E.id) ++ [.int .i64 e.id] := by rw [List.map_append, (I).flat_append]; rfl
/-- What an entry that is added leaves. -/
def Added (x : Bk) (id fl : Int) (x' : Bk) : Prop :=
  ∃ nb c3, (¬ linked x ∧ x' = ⟨x.es ++ [⟨id, nb, fl % 4, none, none, false⟩], x.ready ++ [id], some (c3, id), (c3, id) :: x.cs⟩) ∨
    ∃ c l i a c1 c2, x.last = some (c, l) ∧ x.es[i]? = some a ∧ a.id = l ∧ a.flags ≠ 0 ∧
      x' = ⟨x.es.set i { a with behind := some (c2, id) } ++ [⟨id, nb, fl % 4, some (c1, l), none, false⟩], x.ready, some (c3, id), (c3, id) :: (c2, id) :: (c1, l) :: x.cs⟩
theorem add_spec (bb mb : Nat) (x : Bk) (y : Ly) (id fl : Int) (inv : Inv x y) (h0 : 0 ≤ fl) (h1 : fl ≤ 255) (hn : x.es.length < 100000) (hr : x.ready.length < 100000) :
    Does Try.prog 42 #[.pointer (some ⟨bb, 0, none⟩), .int .i64 id, .int .u8 fl] (fun _ => True) (Book bb mb x y)
      (fun v q => (id ∈ x.es.map E.id ∧ v = .int .i64 140 ∧ q = Book bb mb x y) ∨ (id ∉ x.es.map E.id ∧ v = .int .i64 0 ∧ ∃ x' y', Added x id fl x' ∧ Inv x' y' ∧ q = Book bb mb x' y')) := by
  refine Does.of Try.func42 Try.call42 rfl [.ptr 0 0, .int .i64 id, .int .u8 fl] (nmB bb mb y) 4 (hpB x y) rfl rfl (fun h k => sat_pick 0 rfl (by first | exact fun _ k => k | exact fun _ k => blk_to rfl rfl k | exact fun _ k => vec_to rfl k | exact fun _ k => blk_of rfl rfl k | exact fun _ k => vec_of rfl k | exact fun _ k => blk_of rfl rfl (blk_to rfl rfl k) | exact fun _ k => vec_of rfl (vec_to rfl k) | exact fun _ k => mp_to rfl k | exact fun _ k => mp_of rfl k | exact fun _ k => mp_of rfl (mp_to rfl k)) (fun h k => sat_pick 0 rfl (by first | exact fun _ k => k | exact fun _ k => blk_to rfl rfl k | exact fun _ k => vec_to rfl k | exact fun _ k => blk_of rfl rfl k | exact fun _ k => vec_of rfl k | exact fun _ k => blk_of rfl rfl (blk_to rfl rfl k) | exact fun _ k => vec_of rfl (vec_to rfl k) | exact fun _ k => mp_to rfl k | exact fun _ k => mp_of rfl k | exact fun _ k => mp_of rfl (mp_to rfl k)) (fun h k => sat_pick 0 rfl (by first | exact fun _ k => k | exact fun _ k => blk_to rfl rfl k | exact fun _ k => vec_to rfl k | exact fun _ k => blk_of rfl rfl k | exact fun _ k => vec_of rfl k | exact fun _ k => blk_of rfl rfl (blk_to rfl rfl k) | exact fun _ k => vec_of rfl (vec_to rfl k) | exact fun _ k => mp_to rfl k | exact fun _ k => mp_of rfl k | exact fun _ k => mp_of rfl (mp_to rfl k)) (fun h k => sat_pick 0 rfl (by first | exact fun _ k => k | exact fun _ k => blk_to rfl rfl k | exact fun _ k => vec_to rfl k | exact fun _ k => blk_of rfl rfl k | exact fun _ k => vec_of rfl k | exact fun _ k => blk_of rfl rfl (blk_to rfl rfl k) | exact fun _ k => vec_of rfl (vec_to rfl k) | exact fun _ k => mp_to rfl k | exact fun _ k => mp_of rfl k | exact fun _ k => mp_of rfl (mp_to rfl k)) (fun h k => sat_pick 0 rfl (by first | exact fun _ k => k | exact fun _ k => blk_to rfl rfl k | exact fun _ k => vec_to rfl k | exact fun _ k => blk_of rfl rfl k | exact fun _ k => vec_of rfl k | exact fun _ k => blk_of rfl rfl (blk_to rfl rfl k) | exact fun _ k => vec_of rfl (vec_to rfl k) | exact fun _ k => mp_to rfl k | exact fun _ k => mp_of rfl k | exact fun _ k => mp_of rfl (mp_to rfl k)) (fun h k => sat_pick 0 rfl (by first | exact fun _ k => k | exact fun _ k => blk_to rfl rfl k | exact fun _ k => vec_to rfl k | exact fun _ k => blk_of rfl rfl k | exact fun _ k => vec_of rfl k | exact fun _ k => blk_of rfl rfl (blk_to rfl rfl k) | exact fun _ k => vec_of rfl (vec_to rfl k) | exact fun _ k => mp_to rfl k | exact fun _ k => mp_of rfl k | exact fun _ k => mp_of rfl (mp_to rfl k)) (fun h k => sat_nil k) k) k) k) k) k) k) (fun f hR => ?_)
  by_cases hid : id ∈ x.es.map E.id
  · obtain ⟨i, e, e1, e2, e3⟩ := find_some hid
    refine LkOb.hit _ (.raw (.pointer (some ⟨e.b, 0, none⟩))) e3 rfl ?_
    exact FinOb.mk [.int .i64 140] (Book bb mb x y) rfl (fun h k => sat_pick 0 rfl (by first | exact fun _ k => k | exact fun _ k => blk_to rfl rfl k | exact fun _ k => vec_to rfl k | exact fun _ k => blk_of rfl rfl k | exact fun _ k => vec_of rfl k | exact fun _ k => blk_of rfl rfl (blk_to rfl rfl k) | exact fun _ k => vec_of rfl (vec_to rfl k) | exact fun _ k => mp_to rfl k | exact fun _ k => mp_of rfl k | exact fun _ k => mp_of rfl (mp_to rfl k)) (fun h k => sat_pick 0 rfl (by first | exact fun _ k => k | exact fun _ k => blk_to rfl rfl k | exact fun _ k => vec_to rfl k | exact fun _ k => blk_of rfl rfl k | exact fun _ k => vec_of rfl k | exact fun _ k => blk_of rfl rfl (blk_to rfl rfl k) | exact fun _ k => vec_of rfl (vec_to rfl k) | exact fun _ k => mp_to rfl k | exact fun _ k => mp_of rfl k | exact fun _ k => mp_of rfl (mp_to rfl k)) (fun h k => sat_pick 0 rfl (by first | exact fun _ k => k | exact fun _ k => blk_to rfl rfl k | exact fun _ k => vec_to rfl k | exact fun _ k => blk_of rfl rfl k | exact fun _ k => vec_of rfl k | exact fun _ k => blk_of rfl rfl (blk_to rfl rfl k) | exact fun _ k => vec_of rfl (vec_to rfl k) | exact fun _ k => mp_to rfl k | exact fun _ k => mp_of rfl k | exact fun _ k => mp_of rfl (mp_to rfl k)) (fun h k => sat_pick 0 rfl (by first | exact fun _ k => k | exact fun _ k => blk_to rfl rfl k | exact fun _ k => vec_to rfl k | exact fun _ k => blk_of rfl rfl k | exact fun _ k => vec_of rfl k | exact fun _ k => blk_of rfl rfl (blk_to rfl rfl k) | exact fun _ k => vec_of rfl (vec_to rfl k) | exact fun _ k => mp_to rfl k | exact fun _ k => mp_of rfl k | exact fun _ k => mp_of rfl (mp_to rfl k)) (fun h k => sat_pick 0 rfl (by first | exact fun _ k => k | exact fun _ k => blk_to rfl rfl k | exact fun _ k => vec_to rfl k | exact fun _ k => blk_of rfl rfl k | exact fun _ k => vec_of rfl k | exact fun _ k => blk_of rfl rfl (blk_to rfl rfl k) | exact fun _ k => vec_of rfl (vec_to rfl k) | exact fun _ k => mp_to rfl k | exact fun _ k => mp_of rfl k | exact fun _ k => mp_of rfl (mp_to rfl k)) (fun h k => sat_pick 0 rfl (by first | exact fun _ k => k | exact fun _ k => blk_to rfl rfl k | exact fun _ k => vec_to rfl k | exact fun _ k => blk_of rfl rfl k | exact fun _ k => vec_of rfl k | exact fun _ k => blk_of rfl rfl (blk_to rfl rfl k) | exact fun _ k => vec_of rfl (vec_to rfl k) | exact fun _ k => mp_to rfl k | exact fun _ k => mp_of rfl k | exact fun _ k => mp_of rfl (mp_to rfl k)) (fun h k => sat_nil k) k) k) k) k) k) k) (.inl ⟨hid, rfl, rfl⟩)
  refine LkOb.miss (find_none hid) ?_
  intro nb
  obtain ⟨es, ready, last, cs⟩ := x
  simp only at hn hr hid
  cases last with
  | none =>
    have hun : ¬ linked ⟨es, ready, none, cs⟩ := by rintro ⟨_, _, _, h, _⟩; cases h
    refine ValOb.mk (.pointer (some ⟨nb, 0, none⟩)) rfl ?_
    rw [put_new hid]
    intro b5
    refine StOb.mk [.int .i64 id] rfl (Need.mk rfl ?_)
    refine Need.mk ⟨by rw [(I).flat_length]; simp [ints], by first | omega | (simp only; omega), inv.ro⟩ ?_
    refine Need.mk ⟨by first | omega | (simp only; omega), by simp only [maxLen]; omega, fun v hv => by simp at hv; subst hv; rfl⟩ ?_
    refine NewSl.pos (by omega) (fun b6 o6 co' hco => ?_)
    intro b7
    refine StOb.mk [.int .i64 id] rfl (Need.mk rfl ?_)
    refine Need.mk ⟨by rw [(I).flat_length]; simp [ints], by first | omega | (simp only; omega), inv.rr⟩ ?_
    refine Need.mk ⟨by first | omega | (simp only; omega), by simp only [maxLen]; omega, fun v hv => by simp at hv; subst hv; rfl⟩ ?_
    refine NewSl.pos (by omega) (fun b8 o8 cr' hcr => ?_)
    intro c3
    refine FinOb.mk [.int .i64 0] (Book bb mb ⟨es ++ [⟨id, nb, fl % 4, none, none, false⟩], ready ++ [id], some (c3, id), (c3, id) :: cs⟩ ⟨.at b6 o6, co', .at b8 o8, cr'⟩) rfl ?_ (.inr ⟨hid, rfl, _, _, ⟨nb, c3, .inl ⟨hun, rfl⟩⟩, ?_, rfl⟩)
    rotate_left
    · exact inv_push inv hid rfl (by simp) (fun p hp => List.mem_cons_of_mem _ hp) (fun p hp => by simp at hp; subst hp; simp) (by simpa using hco) (by simpa using hcr) hn (by simp only [List.length_append, List.length_singleton]; omega) (fl4 fl)
    refine (fun h k => sat_pick 0 rfl (fun _ k => ?_) (fun h k => sat_pick 5 rfl (fun _ k => ?_) (fun h k => sat_pick 3 rfl (fun _ k => ?_) (fun h k => sat_pick 1 rfl (fun _ k => ?_) (fun h k => sat_pick2 3 3 rfl rfl (fun h k => ?_) (fun h k => sat_pick2 0 2 rfl rfl (fun h k => ?_) (fun h k => sat_nil k) k) k) k) k) k) k)
    · have k := blk_to (b := bb) (vs := [.map (some mb), .slice (locAddr 0 (.at b6 o6)) (es.length + 1) co', .slice (locAddr 0 (.at b8 o8)) (ready.length + 1) cr', .pointer (some ⟨c3, 0, none⟩)]) rfl rfl k
      have e1 : es.length + 1 = (es ++ [(⟨id, nb, fl % 4, none, none, false⟩ : E)]).length := by simp
      have e2 : ready.length + 1 = (ready ++ [id]).length := by simp
      rw [e1, e2] at k
      exact k
    · have k := mp_to (b := mb) rfl k
      rw [List.map_append]; exact k
    · have k := vec_to (l := .at b6 o6) rfl k
      rw [List.drop_zero, List.take_of_length_le (by rw [(I).flat_length]; simp [ints])] at k
      rw [ids_push]; exact k
    · have k := vec_to (l := .at b8 o8) rfl k
      rw [List.drop_zero, List.take_of_length_le (by rw [(I).flat_length]; simp [ints])] at k
      rw [(I).flat_append]; exact k
    · have k := sat_head (fun _ k => blk_to (b := nb) (vs := [.int .u8 (bitsOf .u8 (· &&& ·) fl 3), .pointer none, .pointer none, .bool false]) rfl rfl k) k
      rw [and3 h0 h1] at k
      rw [List.map_append]
      exact blks_push h k
    · have k := sat_head (fun _ k => blk_to (b := c3) (vs := [.int .i64 id]) rfl rfl k) k
      obtain ⟨x, y, t, hx, _⟩ := Blks.cons k
      exact sat_more t.comm hx
  | some p =>
    obtain ⟨c, l⟩ := p
    have hc := inv.last _ rfl
    refine DrawOb.mk [] (.run [0, 1, 2, 3, 4, 5, 6, 7, 8, 9, 10, 11, 12, 13, 14, 15] .nil) (by kernel_rfl) ?_
    refine RdRaw.told (.int .i64 l) _ rfl (told_mem 6 rfl (cell_mem hc) rfl) ?_
    by_cases hl : l ∈ es.map E.id
    rotate_left
    · refine LkOb.miss (find_none hl) ?_
      have hun : ¬ linked ⟨es, ready, some (c, l), cs⟩ := by
        rintro ⟨c', l', a, h, ha, he, _⟩
        simp at h
        exact hl (by rw [h.2, ← he]; exact List.mem_map.2 ⟨a, ha, rfl⟩)
      refine ValOb.mk (.pointer (some ⟨nb, 0, none⟩)) rfl ?_
      rw [put_new hid]
      intro b5
      refine StOb.mk [.int .i64 id] rfl (Need.mk rfl ?_)
      refine Need.mk ⟨by rw [(I).flat_length]; simp [ints], by first | omega | (simp only; omega), inv.ro⟩ ?_
      refine Need.mk ⟨by first | omega | (simp only; omega), by simp only [maxLen]; omega, fun v hv => by simp at hv; subst hv; rfl⟩ ?_
      refine NewSl.pos (by omega) (fun b6 o6 co' hco => ?_)
      intro b7
      refine StOb.mk [.int .i64 id] rfl (Need.mk rfl ?_)
      refine Need.mk ⟨by rw [(I).flat_length]; simp [ints], by first | omega | (simp only; omega), inv.rr⟩ ?_
      refine Need.mk ⟨by first | omega | (simp only; omega), by simp only [maxLen]; omega, fun v hv => by simp at hv; subst hv; rfl⟩ ?_
      refine NewSl.pos (by omega) (fun b8 o8 cr' hcr => ?_)
      intro c3
      refine FinOb.mk [.int .i64 0] (Book bb mb ⟨es ++ [⟨id, nb, fl % 4, none, none, false⟩], ready ++ [id], some (c3, id), (c3, id) :: cs⟩ ⟨.at b6 o6, co', .at b8 o8, cr'⟩) rfl ?_ (.inr ⟨hid, rfl, _, _, ⟨nb, c3, .inl ⟨hun, rfl⟩⟩, ?_, rfl⟩)
      rotate_left
      · exact inv_push inv hid rfl (by simp) (fun p hp => List.mem_cons_of_mem _ hp) (fun p hp => by simp at hp; subst hp; simp) (by simpa using hco) (by simpa using hcr) hn (by simp only [List.length_append, List.length_singleton]; omega) (fl4 fl)
      refine (fun h k => sat_pick 0 rfl (fun _ k => ?_) (fun h k => sat_pick 5 rfl (fun _ k => ?_) (fun h k => sat_pick 3 rfl (fun _ k => ?_) (fun h k => sat_pick 1 rfl (fun _ k => ?_) (fun h k => sat_pick2 3 3 rfl rfl (fun h k => ?_) (fun h k => sat_pick2 0 2 rfl rfl (fun h k => ?_) (fun h k => sat_nil k) k) k) k) k) k) k)
      · have k := blk_to (b := bb) (vs := [.map (some mb), .slice (locAddr 0 (.at b6 o6)) (es.length + 1) co', .slice (locAddr 0 (.at b8 o8)) (ready.length + 1) cr', .pointer (some ⟨c3, 0, none⟩)]) rfl rfl k
        have e1 : es.length + 1 = (es ++ [(⟨id, nb, fl % 4, none, none, false⟩ : E)]).length := by simp
        have e2 : ready.length + 1 = (ready ++ [id]).length := by simp
        rw [e1, e2] at k
        exact k
      · have k := mp_to (b := mb) rfl k
        rw [List.map_append]; exact k
      · have k := vec_to (l := .at b6 o6) rfl k
        rw [List.drop_zero, List.take_of_length_le (by rw [(I).flat_length]; simp [ints])] at k
        rw [ids_push]; exact k
      · have k := vec_to (l := .at b8 o8) rfl k
        rw [List.drop_zero, List.take_of_length_le (by rw [(I).flat_length]; simp [ints])] at k
        rw [(I).flat_append]; exact k
      · have k := sat_head (fun _ k => blk_to (b := nb) (vs := [.int .u8 (bitsOf .u8 (· &&& ·) fl 3), .pointer none, .pointer none, .bool false]) rfl rfl k) k
        rw [and3 h0 h1] at k
        rw [List.map_append]
        exact blks_push h k
      · have k := sat_head (fun _ k => blk_to (b := c3) (vs := [.int .i64 id]) rfl rfl k) k
        obtain ⟨x, y, t, hx, _⟩ := Blks.cons k
        exact sat_more t.comm hx
    obtain ⟨i, a, e1, e2, e3⟩ := find_some hl
    refine LkOb.hit _ (.raw (.pointer (some ⟨a.b, 0, none⟩))) e3 rfl ?_
    refine RdRaw.told (.int .u8 a.flags) _ rfl (told_at 5 rfl (blk_at e1) rfl) ?_
    refine CondOb.split (fun hf => ?_) (fun hf => ?_)
    rotate_left
    · have hun : ¬ linked ⟨es, ready, some (c, l), cs⟩ := by
        rintro ⟨c', l', a', h, ha, he, hne⟩
        simp at h
        have : a' = a := by
          obtain ⟨j, hj, ej⟩ := List.getElem_of_mem ha
          have h1 : (es.map E.id)[j]? = some l := by rw [List.getElem?_map, List.getElem?_eq_getElem hj, ej]; simp [he, h.2]
          have h2 : (es.map E.id)[i]? = some l := by rw [List.getElem?_map, e1]; simp [e2]
          have hij := (List.getElem?_inj (by rw [List.length_map]; exact hj) inv.ids).1 (h1.trans h2.symm)
          subst hij
          rw [List.getElem?_eq_getElem hj, ej] at e1
          exact Option.some.inj e1
        subst this
        simp at hf; exact hne hf
      refine ValOb.mk (.pointer (some ⟨nb, 0, none⟩)) rfl ?_
      rw [put_new hid]
      intro b5
      refine StOb.mk [.int .i64 id] rfl (Need.mk rfl ?_)
      refine Need.mk ⟨by rw [(I).flat_length]; simp [ints], by first | omega | (simp only; omega), inv.ro⟩ ?_
      refine Need.mk ⟨by first | omega | (simp only; omega), by simp only [maxLen]; omega, fun v hv => by simp at hv; subst hv; rfl⟩ ?_
      refine NewSl.pos (by omega) (fun b6 o6 co' hco => ?_)
      intro b7
      refine StOb.mk [.int .i64 id] rfl (Need.mk rfl ?_)
      refine Need.mk ⟨by rw [(I).flat_length]; simp [ints], by first | omega | (simp only; omega), inv.rr⟩ ?_
      refine Need.mk ⟨by first | omega | (simp only; omega), by simp only [maxLen]; omega, fun v hv => by simp at hv; subst hv; rfl⟩ ?_
      refine NewSl.pos (by omega) (fun b8 o8 cr' hcr => ?_)
      intro c3
      refine FinOb.mk [.int .i64 0] (Book bb mb ⟨es ++ [⟨id, nb, fl % 4, none, none, false⟩], ready ++ [id], some (c3, id), (c3, id) :: cs⟩ ⟨.at b6 o6, co', .at b8 o8, cr'⟩) rfl ?_ (.inr ⟨hid, rfl, _, _, ⟨nb, c3, .inl ⟨hun, rfl⟩⟩, ?_, rfl⟩)
      rotate_left
      · exact inv_push inv hid rfl (by simp) (fun p hp => List.mem_cons_of_mem _ hp) (fun p hp => by simp at hp; subst hp; simp) (by simpa using hco) (by simpa using hcr) hn (by simp only [List.length_append, List.length_singleton]; omega) (fl4 fl)
      refine (fun h k => sat_pick 0 rfl (fun _ k => ?_) (fun h k => sat_pick 5 rfl (fun _ k => ?_) (fun h k => sat_pick 3 rfl (fun _ k => ?_) (fun h k => sat_pick 1 rfl (fun _ k => ?_) (fun h k => sat_pick2 3 3 rfl rfl (fun h k => ?_) (fun h k => sat_pick2 0 2 rfl rfl (fun h k => ?_) (fun h k => sat_nil k) k) k) k) k) k) k)
      · have k := blk_to (b := bb) (vs := [.map (some mb), .slice (locAddr 0 (.at b6 o6)) (es.length + 1) co', .slice (locAddr 0 (.at b8 o8)) (ready.length + 1) cr', .pointer (some ⟨c3, 0, none⟩)]) rfl rfl k
        have e1 : es.length + 1 = (es ++ [(⟨id, nb, fl % 4, none, none, false⟩ : E)]).length := by simp
        have e2 : ready.length + 1 = (ready ++ [id]).length := by simp
        rw [e1, e2] at k
        exact k
      · have k := mp_to (b := mb) rfl k
        rw [List.map_append]; exact k
      · have k := vec_to (l := .at b6 o6) rfl k
        rw [List.drop_zero, List.take_of_length_le (by rw [(I).flat_length]; simp [ints])] at k
        rw [ids_push]; exact k
      · have k := vec_to (l := .at b8 o8) rfl k
        rw [List.drop_zero, List.take_of_length_le (by rw [(I).flat_length]; simp [ints])] at k
        rw [(I).flat_append]; exact k
      · have k := sat_head (fun _ k => blk_to (b := nb) (vs := [.int .u8 (bitsOf .u8 (· &&& ·) fl 3), .pointer none, .pointer none, .bool false]) rfl rfl k) k
        rw [and3 h0 h1] at k
        rw [List.map_append]
        exact blks_push h k
      · have k := sat_head (fun _ k => blk_to (b := c3) (vs := [.int .i64 id]) rfl rfl k) k
        obtain ⟨x, y, t, hx, _⟩ := Blks.cons k
        exact sat_more t.comm hx
    have hf : a.flags ≠ 0 := by simpa using hf
    refine RdRaw.told (.int .i64 l) _ rfl (told_mem 6 rfl (cell_mem hc) rfl) ?_
    intro c1 c2
    refine StRaw.at 7 [.pointer (some ⟨c2, 0, none⟩)] rfl rfl (blk_at e1) (by simp [E.cells]) ?_
    refine ValOb.mk (.pointer (some ⟨nb, 0, none⟩)) rfl ?_
    rw [put_new hid]
    intro b5
    refine StOb.mk [.int .i64 id] rfl (Need.mk rfl ?_)
    refine Need.mk ⟨by rw [(I).flat_length]; simp [ints], by first | omega | (simp only; omega), inv.ro⟩ ?_
    refine Need.mk ⟨by first | omega | (simp only; omega), by simp only [maxLen]; omega, fun v hv => by simp at hv; subst hv; rfl⟩ ?_
    refine NewSl.pos (by omega) (fun b6 o6 co' hco => ?_)
    intro c3
    have hm := List.mem_of_getElem? e1
    refine FinOb.mk [.int .i64 0] (Book bb mb ⟨es.set i { a with behind := some (c2, id) } ++ [⟨id, nb, fl % 4, some (c1, l), none, false⟩], ready, some (c3, id), (c3, id) :: (c2, id) :: (c1, l) :: cs⟩ ⟨.at b6 o6, co', y.lr, y.cr⟩) rfl ?_ (.inr ⟨hid, rfl, _, _, ⟨nb, c3, .inr ⟨c, l, i, a, c1, c2, rfl, e1, e2, hf, rfl⟩⟩, ?_, rfl⟩)
    rotate_left
    · have inv1 := inv_turn inv (a' := { a with behind := some (c2, id) }) e1 rfl (cs' := (c3, id) :: (c2, id) :: (c1, l) :: cs) (fun p hp => by simp [hp]) (fun p hp => by have := inv.ahead a hm p hp; simp at this ⊢; simp [this]) (fun p hp => by simp at hp; subst hp; simp) rfl
      have hids : (es.set i { a with behind := some (c2, id) }).map E.id = es.map E.id := map_set_same e1 rfl
      exact inv_push inv1 (y' := ⟨.at b6 o6, co', y.lr, y.cr⟩) (by rw [hids]; exact hid) rfl (fun p hp => by simp at hp; subst hp; simp) (fun p hp => hp) (fun p hp => by simp at hp; subst hp; simp) (by simpa using hco) inv.rr (by simpa using hn) inv.nr (fl4 fl)
    refine (fun h k => sat_pick 0 rfl (fun _ k => ?_) (fun h k => sat_pick 3 rfl (fun _ k => ?_) (fun h k => sat_pick 1 rfl (fun _ k => ?_) (fun h k => sat_pick 5 rfl (by first | exact fun _ k => k | exact fun _ k => blk_to rfl rfl k | exact fun _ k => vec_to rfl k | exact fun _ k => blk_of rfl rfl k | exact fun _ k => vec_of rfl k | exact fun _ k => blk_of rfl rfl (blk_to rfl rfl k) | exact fun _ k => vec_of rfl (vec_to rfl k) | exact fun _ k => mp_to rfl k | exact fun _ k => mp_of rfl k | exact fun _ k => mp_of rfl (mp_to rfl k)) (fun h k => sat_pick2 2 4 rfl rfl (fun h k => ?_) (fun h k => ?_) k) k) k) k) k)
    · have k := blk_to (b := bb) (vs := [.map (some mb), .slice (locAddr 0 (.at b6 o6)) (es.length + 1) co', .slice (locAddr 0 y.lr) ready.length y.cr, .pointer (some ⟨c3, 0, none⟩)]) rfl rfl k
      have e1 : es.length + 1 = (es.set i { a with behind := some (c2, id) } ++ [(⟨id, nb, fl % 4, some (c1, l), none, false⟩ : E)]).length := by simp
      rw [e1] at k
      exact k
    · have k := mp_to (b := mb) rfl k
      have hk : (es.set i { a with behind := some (c2, id) }).map E.key = es.map E.key := map_set_same e1 rfl
      rw [List.map_append, hk]; exact k
    · have k := vec_to (l := .at b6 o6) rfl k
      rw [List.drop_zero, List.take_of_length_le (by rw [(I).flat_length]; simp [ints])] at k
      have hids : (es.set i { a with behind := some (c2, id) }).map E.id = es.map E.id := map_set_same e1 rfl
      rw [ids_push, hids]; exact k
    · have k := sat_head (fun _ k => blk_to (b := nb) (vs := [.int .u8 (bitsOf .u8 (· &&& ·) fl 3), .pointer (some ⟨c1, 0, none⟩), .pointer none, .bool false]) rfl rfl k) k
      rw [and3 h0 h1] at k
      rw [List.map_append, List.map_set]
      exact blks_push h k
    · have k : sat [pt c1 (.cells #[.int .i64 l] 3 (0, 0)), Blks (cs.map cellO), pt c2 (.cells #[.int .i64 id] 3 (0, 0)), pt c3 (.cells #[.int .i64 id] 3 (0, 0))] h := (fun h k => sat_pick 3 rfl (by first | exact fun _ k => k | exact fun _ k => blk_to rfl rfl k | exact fun _ k => vec_to rfl k | exact fun _ k => blk_of rfl rfl k | exact fun _ k => vec_of rfl k | exact fun _ k => blk_of rfl rfl (blk_to rfl rfl k) | exact fun _ k => vec_of rfl (vec_to rfl k) | exact fun _ k => mp_to rfl k | exact fun _ k => mp_of rfl k | exact fun _ k => mp_of rfl (mp_to rfl k)) (fun h k => sat_pick 3 rfl (by first | exact fun _ k => k | exact fun _ k => blk_to rfl rfl k | exact fun _ k => vec_to rfl k | exact fun _ k => blk_of rfl rfl k | exact fun _ k => vec_of rfl k | exact fun _ k => blk_of rfl rfl (blk_to rfl rfl k) | exact fun _ k => vec_of rfl (vec_to rfl k) | exact fun _ k => mp_to rfl k | exact fun _ k => mp_of rfl k | exact fun _ k => mp_of rfl (mp_to rfl k)) (fun h k => sat_pick 2 rfl (by first | exact fun _ k => k | exact fun _ k => blk_to rfl rfl k | exact fun _ k => vec_to rfl k | exact fun _ k => blk_of rfl rfl k | exact fun _ k => vec_of rfl k | exact fun _ k => blk_of rfl rfl (blk_to rfl rfl k) | exact fun _ k => vec_of rfl (vec_to rfl k) | exact fun _ k => mp_to rfl k | exact fun _ k => mp_of rfl k | exact fun _ k => mp_of rfl (mp_to rfl k)) (fun h k => sat_pick 0 rfl (by first | exact fun _ k => k | exact fun _ k => blk_to rfl rfl k | exact fun _ k => vec_to rfl k | exact fun _ k => blk_of rfl rfl k | exact fun _ k => vec_of rfl k | exact fun _ k => blk_of rfl rfl (blk_to rfl rfl k) | exact fun _ k => vec_of rfl (vec_to rfl k) | exact fun _ k => mp_to rfl k | exact fun _ k => mp_of rfl k | exact fun _ k => mp_of rfl (mp_to rfl k)) (fun h k => sat_nil k) k) k) k) k) h k
      exact Blks.cons (sat_swap (Blks.cons (sat_swap (Blks.cons k))))
end Go.Proofs.Ytlgdagjbphafcaa.Ch
