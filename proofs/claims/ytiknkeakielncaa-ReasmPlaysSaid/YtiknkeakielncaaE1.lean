/- The heap as a partial function of block numbers, split into parts: the base of a symbolic walk. Conditions: none. -/
import Derived.WalkKit
namespace Sx
open Go

/-- A part of the heap: block number to block. -/
abbrev HP := Nat → Option Obj
/-- Blocks for calls that are put off: not told of (what becomes of them: 'Str'). -/
def hid : Obj → Bool
  | .deferred _ => true
  | _ => false
def hpOf (w : World) : HP := fun b => match w.heap[b]? with
  | some o => if hid o = true then none else some o
  | none => none
theorem hpOf_some {w : World} {b : Nat} {o : Obj} : hpOf w b = some o ↔ w.heap[b]? = some o ∧ hid o = false := by
  unfold hpOf
  cases h : w.heap[b]? with
  | none => simp
  | some x =>
    simp only [Option.some.injEq]
    cases hx : hid x with
    | true =>
      simp
      intro e; subst e; exact hx
    | false =>
      simp
      intro e; subst e; exact hx
theorem hpOf_eq {w w' : World} {b : Nat} (h : w'.heap[b]? = w.heap[b]?) : hpOf w' b = hpOf w b := by unfold hpOf; rw [h]
theorem hpOf_none {w : World} {b : Nat} (h : w.heap[b]? = none) : hpOf w b = none := by unfold hpOf; rw [h]
/-- h is a and b, apart. -/
def Split (h a b : HP) : Prop := ∀ r, (a r = none ∧ h r = b r) ∨ (b r = none ∧ h r = a r)
def HP.emp : HP := fun _ => none
def one (b : Nat) (o : Obj) : HP := fun r => if r = b then some o else none
def un (a b : HP) : HP := fun r => (a r).or (b r)

theorem Split.comm {h a b : HP} (s : Split h a b) : Split h b a := fun r => (s r).symm
theorem Split.emp_left (h : HP) : Split h HP.emp h := fun _ => .inl ⟨rfl, rfl⟩
theorem Split.emp_right (h : HP) : Split h h HP.emp := fun _ => .inr ⟨rfl, rfl⟩
theorem Split.un_left {h a bc b c : HP} (s : Split h a bc) (t : Split bc b c) : Split (un a b) a b := fun r => by
  have h1 := s r; have h2 := t r; unfold un
  rcases h1 with ⟨e1, e2⟩ | ⟨e1, e2⟩
  · left; simp [e1]
  · right
    rcases h2 with ⟨e3, e4⟩ | ⟨e3, e4⟩
    · simp [e3]
    · rw [e1] at e4; simp [← e4]
theorem Split.assoc {h a bc b c : HP} (s : Split h a bc) (t : Split bc b c) : Split h (un a b) c := fun r => by
  have h1 := s r; have h2 := t r; unfold un
  rcases h1 with ⟨e1, e2⟩ | ⟨e1, e2⟩
  · rcases h2 with ⟨e3, e4⟩ | ⟨e3, e4⟩
    · left; simp [e1, e2, e3, e4]
    · right; simp [e1, e2, e3, e4]
  · right
    rcases h2 with ⟨e3, e4⟩ | ⟨e3, e4⟩
    · rw [e1] at e4; simp [e2, e3, ← e4]
    · rw [e1] at e4; simp [e2, e3, ← e4]
theorem Split.assoc' {h ab a b c : HP} (s : Split h ab c) (t : Split ab a b) : Split h a (un b c) ∧ Split (un b c) b c := by
  constructor
  · intro r
    have h1 := s r; have h2 := t r; unfold un
    rcases h1 with ⟨e1, e2⟩ | ⟨e1, e2⟩
    · rw [e1] at h2
      rcases h2 with ⟨e3, e4⟩ | ⟨e3, e4⟩
      · left; simp [e3, ← e4, e2]
      · left; simp [e3, ← e4, e2]
    · rcases h2 with ⟨e3, e4⟩ | ⟨e3, e4⟩
      · left; simp [e3, e4, e1, e2]
      · right; simp [e3, e4, e1, e2]
  · intro r
    have h1 := s r; have h2 := t r; unfold un
    rcases h1 with ⟨e1, e2⟩ | ⟨e1, e2⟩
    · rw [e1] at h2
      left
      rcases h2 with ⟨e3, e4⟩ | ⟨e3, e4⟩
      · simp [← e4]
      · simp [e3]
    · right; simp [e1]
theorem Split.get {h a b : HP} (s : Split h a b) {r : Nat} {o : Obj} (e : a r = some o) : h r = some o := by
  rcases s r with ⟨e1, _⟩ | ⟨_, e2⟩
  · rw [e] at e1; cases e1
  · rw [e2, e]
theorem Split.get_right {h a b : HP} (s : Split h a b) {r : Nat} {o : Obj} (e : b r = some o) : h r = some o := s.comm.get e
theorem Split.other {h a b : HP} (s : Split h a b) {r : Nat} {o : Obj} (e : a r = some o) : b r = none := by
  rcases s r with ⟨e1, _⟩ | ⟨e1, _⟩
  · rw [e] at e1; cases e1
  · exact e1

/-! ### Assertions -/
abbrev Asn := HP → Prop
/-- Exactly this block. -/
def pt (b : Nat) (o : Obj) : Asn := fun h => h = one b o
def sep (A B : Asn) : Asn := fun h => ∃ a b, Split h a b ∧ A a ∧ B b
/-- All of these, apart, and whatever else. -/
def sat : List Asn → Asn
  | [] => fun _ => True
  | A :: As => sep A (sat As)

theorem sat_more {As : List Asn} {h a b : HP} (s : Split h a b) (k : sat As b) : sat As h := by
  induction As generalizing h a b with
  | nil => trivial
  | cons A As ih =>
    obtain ⟨x, y, t, hx, hy⟩ := k
    obtain ⟨t1, t2⟩ := s.comm.assoc' t
    exact ⟨x, _, t1, hx, ih t2.comm hy⟩
theorem sat_tail {A : Asn} {As : List Asn} {h : HP} (k : sat (A :: As) h) : sat As h := by
  obtain ⟨x, y, t, _, hy⟩ := k
  exact sat_more t hy
theorem sat_swap {A B : Asn} {As : List Asn} {h : HP} (k : sat (A :: B :: As) h) : sat (B :: A :: As) h := by
  obtain ⟨x, y, t, hx, x', y', t', hx', hy'⟩ := k
  have h1 := t.assoc t'
  have h2 := t.un_left t'
  obtain ⟨h3, h4⟩ := h1.assoc' h2.comm
  exact ⟨x', _, h3, hx', x, y', h4, hx, hy'⟩
theorem sat_perm {As Bs : List Asn} (p : As.Perm Bs) {h : HP} (k : sat As h) : sat Bs h := by
  induction p generalizing h with
  | nil => exact k
  | cons A _ ih =>
    obtain ⟨x, y, t, hx, hy⟩ := k
    exact ⟨x, y, t, hx, ih hy⟩
  | swap A B l => exact sat_swap k
  | trans _ _ ih1 ih2 => exact ih2 (ih1 k)
theorem sat_append {As Bs : List Asn} {h : HP} (k : sat (As ++ Bs) h) : ∃ a b, Split h a b ∧ sat As a ∧ sat Bs b := by
  induction As generalizing h with
  | nil => exact ⟨HP.emp, h, .emp_left h, trivial, k⟩
  | cons A As ih =>
    obtain ⟨x, y, t, hx, hy⟩ := k
    obtain ⟨a, b, s, ha, hb⟩ := ih hy
    exact ⟨un x a, b, t.assoc s, ⟨x, a, t.un_left s, hx, ha⟩, hb⟩
theorem sat_join {As Bs : List Asn} {h a b : HP} (s : Split h a b) (ha : sat As a) (hb : sat Bs b) : sat (As ++ Bs) h := by
  induction As generalizing h a with
  | nil => exact sat_more s hb
  | cons A As ih =>
    obtain ⟨x, y, t, hx, hy⟩ := ha
    obtain ⟨h1, h2⟩ := s.assoc' t
    exact ⟨x, _, h1, hx, ih h2 hy⟩
theorem sat_head {A B : Asn} {As : List Asn} {h : HP} (f : ∀ h, A h → B h) (k : sat (A :: As) h) : sat (B :: As) h := by
  obtain ⟨x, y, t, hx, hy⟩ := k
  exact ⟨x, y, t, f _ hx, hy⟩

/-! ### The world -/
/-- The world is: what is told, and the frame 'f'. -/
def At (f : HP) (As : List Asn) (w : World) : Prop := ∃ h, Split (hpOf w) h f ∧ sat As h
/-- The streams are as they were. -/
structure Str (w w' : World) : Prop where
  os : w'.os = w.os
  tape : w'.tape = w.tape
  output : w'.output = w.output
  dfs : ∀ (b : Nat) (o : Obj), w.heap[b]? = some o → hid o = true → w'.heap[b]? = some o
  size : w.heap.size ≤ w'.heap.size
  drawn : w.drawn ≤ w'.drawn
theorem Str.refl (w : World) : Str w w := ⟨rfl, rfl, rfl, fun _ _ h _ => h, Nat.le_refl _, Nat.le_refl _⟩
theorem Str.trans {a b c : World} (h : Str a b) (k : Str b c) : Str a c := ⟨k.os.trans h.os, k.tape.trans h.tape, k.output.trans h.output, fun b o hb ho => k.dfs b o (h.dfs b o hb ho) ho, Nat.le_trans h.size k.size, Nat.le_trans h.drawn k.drawn⟩
theorem Str.alloc (w : World) (o : Obj) : Str w (w.alloc o) := ⟨rfl, rfl, rfl, fun b x hb _ => by
  show (w.heap.push o)[b]? = _
  have := (Array.getElem?_eq_some_iff.1 hb).1
  rw [Array.getElem?_push, if_neg (by omega)]; exact hb, by show _ ≤ (w.heap.push o).size; simp, Nat.le_refl _⟩

theorem At.perm {f : HP} {As Bs : List Asn} {w : World} (h : At f As w) (p : As.Perm Bs) : At f Bs w := let ⟨x, s, k⟩ := h; ⟨x, s, sat_perm p k⟩
theorem At.tail {f : HP} {A : Asn} {As : List Asn} {w : World} (h : At f (A :: As) w) : At f As w := let ⟨x, s, k⟩ := h; ⟨x, s, sat_tail k⟩
theorem At.head {f : HP} {A B : Asn} {As : List Asn} {w : World} (h : At f (A :: As) w) (g : ∀ h, A h → B h) : At f (B :: As) w := let ⟨x, s, k⟩ := h; ⟨x, s, sat_head g k⟩
theorem At.heap {f : HP} {As : List Asn} {w w' : World} (h : At f As w) (e : w'.heap = w.heap) : At f As w' := by
  obtain ⟨x, s, k⟩ := h
  refine ⟨x, ?_, k⟩
  have : hpOf w' = hpOf w := by funext r; exact hpOf_eq (by rw [e])
  rw [this]; exact s
/-- A block that is told lies in the world. -/
theorem At.block {f : HP} {b : Nat} {o : Obj} {As : List Asn} {w : World} (h : At f (pt b o :: As) w) : w.heap[b]? = some o := by
  obtain ⟨x, s, y, z, t, hy, _⟩ := h
  have : y b = some o := by rw [hy]; simp [one]
  exact (hpOf_some.1 (s.get (t.get this))).1
/-- A block is turned. -/
theorem At.put {f : HP} {b : Nat} {o o' : Obj} {As : List Asn} {w w' : World} (h : At f (pt b o :: As) w)
    (hb : w'.heap[b]? = some o') (ho : hid o' = false) (hr : ∀ r, r ≠ b → w'.heap[r]? = w.heap[r]?) : At f (pt b o' :: As) w' := by
  obtain ⟨x, s, y, z, t, hy, k⟩ := h
  have hyb : y b = some o := by rw [hy]; simp [one]
  have hzb : z b = none := t.other hyb
  have hfb : f b = none := s.other (t.get hyb)
  refine ⟨un (one b o') z, ?_, one b o', z, ?_, rfl, k⟩
  · intro r
    by_cases e : r = b
    · subst e
      right; exact ⟨hfb, by rw [hpOf_some.2 ⟨hb, ho⟩]; simp [un, one]⟩
    · have h1 := s r; have h2 := t r
      have hy0 : y r = none := by rw [hy]; simp [one, e]
      have hxz : x r = z r := by
        rcases h2 with ⟨_, h3⟩ | ⟨h3, h4⟩
        · exact h3
        · rw [h3, h4, hy0]
      have hu : un (one b o') z r = x r := by simp [un, one, e, hxz]
      rw [hu]
      show _ ∨ (f r = none ∧ hpOf w' r = x r)
      have : hpOf w' r = hpOf w r := hpOf_eq (hr r e)
      rw [this]
      exact h1
  · intro r
    by_cases e : r = b
    · subst e; right; exact ⟨hzb, by simp [un, one]⟩
    · left; exact ⟨by simp [one, e], by simp [un, one, e]⟩
/-- A new block. -/
theorem At.new {f : HP} {As : List Asn} {w : World} (h : At f As w) (o : Obj) (ho : hid o = false) : At f (pt w.heap.size o :: As) (w.alloc o) := by
  obtain ⟨x, s, k⟩ := h
  have hw : hpOf w w.heap.size = none := hpOf_none (by simp)
  have hx : x w.heap.size = none ∧ f w.heap.size = none := by
    rcases s w.heap.size with ⟨h1, h2⟩ | ⟨h1, h2⟩
    · exact ⟨h1, by rw [← h2]; exact hw⟩
    · exact ⟨by rw [← h2]; exact hw, h1⟩
  have hnew : (w.alloc o).heap[w.heap.size]? = some o := by
    show (w.heap.push o)[w.heap.size]? = _
    rw [Array.getElem?_push]; simp
  have hold : ∀ r, r ≠ w.heap.size → (w.alloc o).heap[r]? = w.heap[r]? := fun r hr => by
    show (w.heap.push o)[r]? = _
    rw [Array.getElem?_push]; simp [hr]
  refine ⟨un (one w.heap.size o) x, ?_, one w.heap.size o, x, ?_, rfl, k⟩
  · intro r
    by_cases e : r = w.heap.size
    · subst e; right; exact ⟨hx.2, by rw [hpOf_some.2 ⟨hnew, ho⟩]; simp [un, one]⟩
    · have hu : un (one w.heap.size o) x r = x r := by simp [un, one, e]
      rw [hu]
      have : hpOf (w.alloc o) r = hpOf w r := hpOf_eq (hold r e)
      rw [this]
      exact s r
  · intro r
    by_cases e : r = w.heap.size
    · subst e; right; exact ⟨hx.1, by simp [un, one]⟩
    · left; exact ⟨by simp [one, e], by simp [un, one, e]⟩
/-- A block that is not told of. -/
theorem At.newHid {f : HP} {As : List Asn} {w : World} (h : At f As w) (o : Obj) (ho : hid o = true) : At f As (w.alloc o) := by
  obtain ⟨x, s, k⟩ := h
  refine ⟨x, ?_, k⟩
  have : hpOf (w.alloc o) = hpOf w := by
    funext r
    by_cases e : r = w.heap.size
    · subst e
      rw [hpOf_none (w := w) (by simp)]
      have : (w.alloc o).heap[w.heap.size]? = some o := by
        show (w.heap.push o)[w.heap.size]? = _
        rw [Array.getElem?_push]; simp
      unfold hpOf
      rw [this]
      simp [ho]
    · refine hpOf_eq ?_
      show (w.heap.push o)[r]? = _
      rw [Array.getElem?_push]; simp [e]
  rw [this]; exact s
theorem At.whole (w : World) : At (hpOf w) [] w := ⟨HP.emp, .emp_left _, trivial⟩
theorem At.below {w w' : World} {As : List Asn} (h : At (hpOf w) As w') (s : Str w w') : RowKit.Below w.heap.size w w' := by
  obtain ⟨x, t, _⟩ := h
  have hk : ∀ k, k < w.heap.size → w'.heap[k]? = w.heap[k]? := fun k hk => by
    have e0 : w.heap[k]? = some w.heap[k] := by simp [hk]
    cases ho : hid w.heap[k] with
    | true => rw [s.dfs k _ e0 ho, e0]
    | false =>
      have e : hpOf w k = some w.heap[k] := hpOf_some.2 ⟨e0, ho⟩
      have := t.get_right e
      rw [(hpOf_some.1 this).1, e0]
  refine ⟨s.os, s.tape, s.output, ?_, hk⟩
  rcases Nat.eq_zero_or_pos w.heap.size with h0 | h0
  · omega
  · have := hk (w.heap.size - 1) (by omega)
    rw [Array.getElem?_eq_getElem (show w.heap.size - 1 < w.heap.size by omega)] at this
    have := (Array.getElem?_eq_some_iff.1 this).1
    omega
/-- The frame may take in what is not told of. -/
theorem At.frame {f : HP} {As Bs : List Asn} {w : World} (h : At f (As ++ Bs) w) : ∃ g, At g As w ∧ (∃ b, Split g b f ∧ sat Bs b) := by
  obtain ⟨x, s, k⟩ := h
  obtain ⟨a, b, t, ha, hb⟩ := sat_append k
  obtain ⟨h1, h2⟩ := s.assoc' t
  exact ⟨un b f, ⟨a, h1, ha⟩, b, h2, hb⟩
theorem At.unframe {f g b : HP} {As Bs : List Asn} {w : World} (h : At g As w) (s : Split g b f) (k : sat Bs b) : At f (As ++ Bs) w := by
  obtain ⟨x, t, ha⟩ := h
  have h1 := t.assoc s
  exact ⟨un x b, h1, sat_join (t.un_left s) ha k⟩
end Sx
