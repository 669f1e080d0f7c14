/- The reference of chain: what it reads. Conditions: none. -/
import Derived.Test.YtlgdagjbphafcaaChL
import Derived.Test.YtlgdagjbphafcaaChF
namespace Go.Proofs.Ytlgdagjbphafcaa.Ch
open Go Go.Proofs Sx
set_option maxRecDepth 100000
set_option linter.unusedVariables false

structure RO where
  id : Int
  flags : Int
  tied : Bool
  to : Int
  told : Bool
def O : Lay RO where
  cells r := [.int .i64 r.id, .int .i64 r.flags, .bool r.tied, .int .i64 r.to, .bool r.told]
  sz := 5
  len _ := rfl
  one _ v hv := by
    simp only [List.mem_cons, List.not_mem_nil, or_false] at hv
    rcases hv with rfl | rfl | rfl | rfl | rfl <;> rfl
/-- The place of the first such. -/
def plc (p : RO → Bool) (l : List RO) : Int := match l.findIdx? p with
  | some i => i
  | none => -1
theorem plc_at {p : RO → Bool} {l : List RO} {i : Nat} {e : RO} (h : l[i]? = some e) (hp : p e = true) (hall : ∀ e ∈ l.take i, p e = false) : l.findIdx? p = some i := by
  rw [List.findIdx?_eq_some_iff_getElem]
  obtain ⟨hi, e1⟩ := List.getElem?_eq_some_iff.1 h
  refine ⟨hi, by rw [e1]; exact hp, fun j hj => ?_⟩
  have : l[j]'(by omega) ∈ l.take i := by
    rw [List.mem_take_iff_getElem]
    exact ⟨j, by omega, rfl⟩
  simpa using hall _ this
theorem plc_no {p : RO → Bool} {l : List RO} (hall : ∀ e ∈ l, p e = false) : l.findIdx? p = none := by
  rw [List.findIdx?_eq_none_iff]; exact hall
theorem take_all {p : RO → Bool} {l : List RO} {i : Nat} {e : RO} (h : l[i]? = some e) (hp : p e = false) (hall : ∀ e ∈ l.take i, p e = false) : ∀ e ∈ l.take (i + 1), p e = false := by
  intro a ha
  rw [List.take_add_one, h] at ha
  rcases List.mem_append.1 ha with ha | ha
  · exact hall a ha
  · simp at ha; subst ha; exact hp
theorem rplace_spec (l : List RO) (A : Option Addr) (cp : Nat) (id : Int) (hl : l.length ≤ 1000000000) :
    Does Try.prog 98 #[.slice A l.length cp, .int .i64 id] (fun f => Reads f A (O.flat l)) [] (fun v q => v = .int .i64 (plc (fun e => e.id == id) l) ∧ q = []) := by
  refine Does.of Try.func98 Try.call98 rfl [.raw (.slice A l.length cp), .int .i64 id] [] 0 [] rfl rfl (fun h k => k) (fun f hR => ?_)
  refine LoopOb.mk { i : Nat // i ≤ l.length ∧ ∀ e ∈ l.take i, (e.id == id) = false } (fun z => ⟨20, [(0, .raw (.slice A l.length cp)), (1, .int .i64 id), (5, .int .i64 z.1)], [], 0, []⟩) (fun z => l.length - z.1) ⟨0, by omega, by simp⟩ ?_ ?_
  · exact Le.of rfl ⟨⟨_, rfl, rfl⟩, ⟨_, rfl, rfl⟩, ⟨_, rfl, rfl⟩, trivial⟩ (fun h k => k)
  rintro ⟨i, hi, hall⟩
  refine CondOb.split (fun g => ?_) (fun g => ?_)
  rotate_left
  · simp only [decide_eq_false_iff_not] at g
    replace g : ¬ (i : Int) < l.length := g
    rw [List.take_of_length_le (by omega)] at hall
    exact FinOb.mk [.int .i64 (-1)] [] rfl (fun h k => k) ⟨by simp [plc, plc_no hall, ret1], rfl⟩
  simp only [decide_eq_true_eq] at g
  replace g : (i : Int) < l.length := g
  have hq := List.getElem?_eq_getElem (show i < l.length by omega)
  generalize l[i]'(by omega) = m at *
  obtain ⟨ba, o, rfl, hf⟩ := hR.lay (by decide) hq
  have ei : IntKind.i64.wrap ((i : Int) + 1) = ((i + 1 : Nat) : Int) := by rw [w64 (by omega) (by omega)]; omega
  refine Need.mk ⟨Int.natCast_nonneg i, g⟩ (RawAt.mk ba o rfl ?_)
  refine RdRaw.mk (.int .i64 m.id) _ rfl (hf 0 _ rfl) ?_
  refine CondOb.split (fun g2 => ?_) (fun g2 => ?_)
  · exact FinOb.mk [.int .i64 i] [] rfl (fun h k => k) ⟨by simp [plc, plc_at (p := fun e : RO => e.id == id) hq g2 hall, ret1], rfl⟩
  · refine ⟨⟨i + 1, by omega, take_all (p := fun e : RO => e.id == id) hq g2 hall⟩, ?_, Le.of rfl ⟨⟨_, rfl, rfl⟩, ⟨_, rfl, rfl⟩, ⟨_, rfl, congrArg (fun z => some (Value.int .i64 z)) ei⟩, trivial⟩ (fun h k => k)⟩
    show l.length - (i + 1) < l.length - i
    omega
theorem rbehind_spec (l : List RO) (A : Option Addr) (cp : Nat) (id : Int) (hl : l.length ≤ 1000000000) :
    Does Try.prog 99 #[.slice A l.length cp, .int .i64 id] (fun f => Reads f A (O.flat l)) [] (fun v q => v = .int .i64 (plc (fun e => e.tied && e.to == id) l) ∧ q = []) := by
  refine Does.of Try.func99 Try.call99 rfl [.raw (.slice A l.length cp), .int .i64 id] [] 0 [] rfl rfl (fun h k => k) (fun f hR => ?_)
  refine LoopOb.mk { i : Nat // i ≤ l.length ∧ ∀ e ∈ l.take i, (e.tied && e.to == id) = false } (fun z => ⟨27, [(0, .raw (.slice A l.length cp)), (1, .int .i64 id), (5, .int .i64 z.1)], [], 0, []⟩) (fun z => l.length - z.1) ⟨0, by omega, by simp⟩ ?_ ?_
  · exact Le.of rfl ⟨⟨_, rfl, rfl⟩, ⟨_, rfl, rfl⟩, ⟨_, rfl, rfl⟩, trivial⟩ (fun h k => k)
  rintro ⟨i, hi, hall⟩
  refine CondOb.split (fun g => ?_) (fun g => ?_)
  rotate_left
  · simp only [decide_eq_false_iff_not] at g
    replace g : ¬ (i : Int) < l.length := g
    rw [List.take_of_length_le (by omega)] at hall
    exact FinOb.mk [.int .i64 (-1)] [] rfl (fun h k => k) ⟨by simp [plc, plc_no hall, ret1], rfl⟩
  simp only [decide_eq_true_eq] at g
  replace g : (i : Int) < l.length := g
  have hq := List.getElem?_eq_getElem (show i < l.length by omega)
  generalize l[i]'(by omega) = m at *
  obtain ⟨ba, o, rfl, hf⟩ := hR.lay (by decide) hq
  have ei : IntKind.i64.wrap ((i : Int) + 1) = ((i + 1 : Nat) : Int) := by rw [w64 (by omega) (by omega)]; omega
  refine Need.mk ⟨Int.natCast_nonneg i, g⟩ (RawAt.mk ba o rfl ?_)
  refine RdRaw.mk (.bool m.tied) _ rfl (hf 2 _ rfl) ?_
  refine Br.mk (fun g1 => ?_) (fun g1 => ?_)
  · refine Need.mk ⟨Int.natCast_nonneg i, g⟩ (RawAt.mk ba o rfl ?_)
    refine RdRaw.mk (.int .i64 m.to) _ rfl (hf 3 _ rfl) ?_
    refine CondOb.split (fun g2 => ?_) (fun g2 => ?_)
    · exact FinOb.mk [.int .i64 i] [] rfl (fun h k => k) ⟨by simp [plc, plc_at (p := fun e : RO => e.tied && e.to == id) hq (by rw [g1, g2]; rfl) hall, ret1], rfl⟩
    · refine ⟨⟨i + 1, by omega, take_all (p := fun e : RO => e.tied && e.to == id) hq (by rw [g1, g2]; rfl) hall⟩, ?_, Le.of rfl ⟨⟨_, rfl, rfl⟩, ⟨_, rfl, rfl⟩, ⟨_, rfl, congrArg (fun z => some (Value.int .i64 z)) ei⟩, trivial⟩ (fun h k => k)⟩
      show l.length - (i + 1) < l.length - i
      omega
  · refine ⟨⟨i + 1, by omega, take_all (p := fun e : RO => e.tied && e.to == id) hq (by rw [g1]; rfl) hall⟩, ?_, Le.of rfl ⟨⟨_, rfl, rfl⟩, ⟨_, rfl, rfl⟩, ⟨_, rfl, congrArg (fun z => some (Value.int .i64 z)) ei⟩, trivial⟩ (fun h k => k)⟩
    show l.length - (i + 1) < l.length - i
    omega
/-- The reference's book: its value. -/
structure RB where
  l : List RO
  ready : List Int
  last : Int
  has : Bool
def RB.vals (x : RB) (A : Option Addr) (c : Nat) (D : Option Addr) (d : Nat) : List Value := [.slice A x.l.length c, .slice D x.ready.length d, .int .i64 x.last, .bool x.has]
def RB.svs (x : RB) (A : Option Addr) (c : Nat) (D : Option Addr) (d : Nat) : List SV := [.raw (.slice A x.l.length c), .raw (.slice D x.ready.length d), .int .i64 x.last, .bool x.has]
def rahead (x : RB) (id : Int) : Int × Bool := match x.l.findIdx? (fun e => e.id == id) with
  | none => (0, false)
  | some i => match x.l[i]? with
    | none => (0, false)
    | some e => if e.tied = true then (e.to, true) else (0, false)
def rbehind (x : RB) (id : Int) : Int × Bool := match x.l.findIdx? (fun e => e.id == id) with
  | none => (0, false)
  | some _ => match x.l.findIdx? (fun e => e.tied && e.to == id) with
    | none => (0, false)
    | some i => match x.l[i]? with
      | none => (0, false)
      | some e => (e.id, true)
theorem plc_some {p : RO → Bool} {l : List RO} {i : Nat} (h : l.findIdx? p = some i) : plc p l = i ∧ ∃ e, l[i]? = some e ∧ p e = true := by
  refine ⟨by simp [plc, h], ?_⟩
  rw [List.findIdx?_eq_some_iff_getElem] at h
  obtain ⟨hi, h1, _⟩ := h
  exact ⟨l[i], List.getElem?_eq_getElem hi, h1⟩
theorem plc_none {p : RO → Bool} {l : List RO} (h : l.findIdx? p = none) : plc p l = -1 := by simp [plc, h]
theorem rahead_spec (x : RB) (A : Option Addr) (c : Nat) (D : Option Addr) (d : Nat) (id : Int) (hl : x.l.length ≤ 1000000000) :
    Does Try.prog 73 #[.agg (x.vals A c D d).toArray, .int .i64 id] (fun f => Reads f A (O.flat x.l)) [] (fun v q => v = .tuple #[.int .i64 (rahead x id).1, .bool (rahead x id).2] ∧ q = []) := by
  refine Does.of Try.func73 Try.call73 rfl [.agg (x.svs A c D d), .int .i64 id] [] 0 [] rfl rfl (fun h k => k) (fun f hR => ?_)
  intro b
  refine useR (.int .i64 (plc (fun e => e.id == id) x.l)) (rplace_spec x.l A c id hl) rfl (fun f' b' hs _ => hR.frame hs) rfl ?_
  cases hi : x.l.findIdx? (fun e => e.id == id) with
  | none =>
    have e0 : rahead x id = (0, false) := by simp [rahead, hi]
    rw [plc_none hi, e0]
    refine Br.mk (fun _ => ?_) (fun h => absurd h (by decide))
    exact FinOb.mk [.int .i64 0, .bool false] [] rfl (fun h k => trivial) ⟨rfl, rfl⟩
  | some i =>
    obtain ⟨h1, e, h2, h3⟩ := plc_some hi
    rw [h1]
    have hlt := (List.getElem?_eq_some_iff.1 h2).1
    obtain ⟨ba, o, rfl, hf⟩ := hR.lay (by decide) h2
    refine Br.mk (fun h => absurd h (by simp)) (fun _ => ?_)
    refine Need.mk ⟨Int.natCast_nonneg i, by simpa using hlt⟩ (RawAt.mk ba o rfl ?_)
    refine RdRaw.mk (.bool e.tied) _ rfl (hf 2 _ rfl) ?_
    refine CondOb.split (fun g => ?_) (fun g => ?_)
    · have e0 : rahead x id = (0, false) := by
        have : e.tied = false := by simpa using g
        simp [rahead, hi, h2, this]
      rw [e0]
      exact FinOb.mk [.int .i64 0, .bool false] [] rfl (fun h k => trivial) ⟨rfl, rfl⟩
    · have e0 : rahead x id = (e.to, true) := by
        have : e.tied = true := by simpa using g
        simp [rahead, hi, h2, this]
      rw [e0]
      refine Need.mk ⟨Int.natCast_nonneg i, by simpa using hlt⟩ (RawAt.mk ba o rfl ?_)
      refine RdRaw.mk (.int .i64 e.to) _ rfl (hf 3 _ rfl) ?_
      exact FinOb.mk [.int .i64 e.to, .bool true] [] rfl (fun h k => trivial) ⟨rfl, rfl⟩
theorem rbehind'_spec (x : RB) (A : Option Addr) (c : Nat) (D : Option Addr) (d : Nat) (id : Int) (hl : x.l.length ≤ 1000000000) :
    Does Try.prog 75 #[.agg (x.vals A c D d).toArray, .int .i64 id] (fun f => Reads f A (O.flat x.l)) [] (fun v q => v = .tuple #[.int .i64 (rbehind x id).1, .bool (rbehind x id).2] ∧ q = []) := by
  refine Does.of Try.func75 Try.call75 rfl [.agg (x.svs A c D d), .int .i64 id] [] 0 [] rfl rfl (fun h k => k) (fun f hR => ?_)
  intro b
  refine useR (.int .i64 (plc (fun e => e.tied && e.to == id) x.l)) (rbehind_spec x.l A c id hl) rfl (fun f' b' hs _ => hR.frame hs) rfl ?_
  refine useR (.int .i64 (plc (fun e => e.id == id) x.l)) (rplace_spec x.l A c id hl) rfl (fun f' b' hs _ => hR.frame hs) rfl ?_
  cases hi : x.l.findIdx? (fun e => e.id == id) with
  | none =>
    have e0 : rbehind x id = (0, false) := by simp [rbehind, hi]
    rw [plc_none hi, e0]
    refine Br.mk (fun _ => ?_) (fun h => absurd h (by decide))
    exact FinOb.mk [.int .i64 0, .bool false] [] rfl (fun h k => trivial) ⟨rfl, rfl⟩
  | some i =>
    obtain ⟨h1, _⟩ := plc_some hi
    rw [h1]
    refine Br.mk (fun h => absurd h (by simp)) (fun _ => ?_)
    cases hj : x.l.findIdx? (fun e => e.tied && e.to == id) with
    | none =>
      have e0 : rbehind x id = (0, false) := by simp [rbehind, hi, hj]
      rw [plc_none hj, e0]
      refine CondOb.split (fun _ => ?_) (fun h => absurd h (by decide))
      exact FinOb.mk [.int .i64 0, .bool false] [] rfl (fun h k => trivial) ⟨rfl, rfl⟩
    | some j =>
      obtain ⟨h1, e, h2, h3⟩ := plc_some hj
      have e0 : rbehind x id = (e.id, true) := by simp [rbehind, hi, hj, h2]
      rw [h1, e0]
      have hlt := (List.getElem?_eq_some_iff.1 h2).1
      obtain ⟨ba, o, rfl, hf⟩ := hR.lay (by decide) h2
      refine CondOb.split (fun h => absurd h (by simp)) (fun _ => ?_)
      refine Need.mk ⟨Int.natCast_nonneg j, by simpa using hlt⟩ (RawAt.mk ba o rfl ?_)
      refine RdRaw.mk (.int .i64 e.id) _ rfl (hf 0 _ rfl) ?_
      exact FinOb.mk [.int .i64 e.id, .bool true] [] rfl (fun h k => trivial) ⟨rfl, rfl⟩
theorem ropen_spec (x : RB) (A : Option Addr) (c : Nat) (D : Option Addr) (d : Nat) (hl : x.l.length ≤ 1000000000) :
    Does Try.prog 76 #[.agg (x.vals A c D d).toArray] (fun f => Reads f A (O.flat x.l)) [] (fun v q => ∃ p c, v = .slice (locAddr 0 p) x.l.length c ∧ q = [Vec p 3 1 c (I.flat (x.l.map RO.id))]) := by
  refine Does.of Try.func76 Try.call76 rfl [.agg (x.svs A c D d)] [] 0 [] rfl rfl (fun h k => k) (fun f hR => ?_)
  intro b
  have lI : ∀ l : List Int, (I.flat l).length = l.length := fun l => by rw [(I).flat_length]; simp [ints]
  refine LoopOb.mk { z : Nat × Plc × Nat // z.1 ≤ x.l.length ∧ z.1 ≤ z.2.2 } (fun z => ⟨22, [(1, .ptr 0 0), (3, .sl 1 0 z.1.1 z.1.2.2), (4, .int .i64 z.1.1)], [(1, z.1.2.1), (0, .at b 0)], 2, [.blk 0 116 (x.svs A c D d), .vec 1 3 1 z.1.2.2 (I.flat ((x.l.take z.1.1).map RO.id))]⟩) (fun z => x.l.length - z.1.1) ⟨(0, .nil, 0), by omega, by omega⟩ ?_ ?_
  · exact Le.of rfl ⟨⟨_, rfl, rfl⟩, ⟨_, rfl, rfl⟩, ⟨_, rfl, rfl⟩, trivial⟩ (fun h k => sat_pick 0 rfl (by first | exact fun _ k => k | exact fun _ k => blk_to rfl rfl k | exact fun _ k => vec_to rfl k | exact fun _ k => blk_of rfl rfl k | exact fun _ k => vec_of rfl k | exact fun _ k => blk_of rfl rfl (blk_to rfl rfl k) | exact fun _ k => vec_of rfl (vec_to rfl k) | exact fun _ k => mp_to rfl k | exact fun _ k => mp_of rfl k | exact fun _ k => mp_of rfl (mp_to rfl k)) (fun h k => sat_add (vec_of rfl vec_emp) ((fun h k => sat_nil k) h k)) k)
  rintro ⟨⟨i, p, cp⟩, hi, hic⟩
  simp only at hi hic
  refine CondOb.split (fun g => ?_) (fun g => ?_)
  rotate_left
  · simp only [decide_eq_false_iff_not] at g
    replace g : ¬ (i : Int) < x.l.length := g
    have ei : i = x.l.length := by omega
    subst ei
    exact FinOb.mk [.slice (locAddr 0 p) x.l.length cp] [Vec p 3 1 cp (I.flat (x.l.map RO.id))] rfl (fun h k => sat_pick 1 rfl (fun _ k => by have k := vec_to (l := p) rfl k; rw [List.take_length] at k; exact k) (fun h k => sat_nil k) k) ⟨p, cp, by simp [ret1], rfl⟩
  simp only [decide_eq_true_eq] at g
  replace g : (i : Int) < x.l.length := g
  have hq := List.getElem?_eq_getElem (show i < x.l.length by omega)
  generalize x.l[i]'(by omega) = m at *
  obtain ⟨ba, o, rfl, hf⟩ := hR.lay (by decide) hq
  have ei : IntKind.i64.wrap ((i : Int) + 1) = ((i + 1 : Nat) : Int) := by rw [w64 (by omega) (by omega)]; omega
  refine Need.mk ⟨Int.natCast_nonneg i, g⟩ (RawAt.mk ba o rfl ?_)
  refine RdRaw.mk (.int .i64 m.id) _ rfl (hf 0 _ rfl) ?_
  intro b9
  refine StOb.mk [.int .i64 m.id] rfl (Need.mk rfl ?_)
  refine Need.mk ⟨by rw [lI]; simp; omega, by simp only; omega, hic⟩ ?_
  refine Need.mk ⟨by simp only; omega, by simp only [maxLen]; omega, fun v hv => by simp at hv; subst hv; rfl⟩ ?_
  refine NewSl.pos (by omega) (fun b10 o10 c' hc' => ?_)
  refine ⟨⟨(i + 1, .at b10 o10, c'), by simp only; omega, hc'⟩, ?_, Le.of rfl ⟨⟨_, rfl, rfl⟩, ⟨_, rfl, rfl⟩, ⟨_, rfl, congrArg (fun z => some (Value.int .i64 z)) ei⟩, trivial⟩ (fun h k => sat_pick 2 rfl (by first | exact fun _ k => k | exact fun _ k => blk_to rfl rfl k | exact fun _ k => vec_to rfl k | exact fun _ k => blk_of rfl rfl k | exact fun _ k => vec_of rfl k | exact fun _ k => blk_of rfl rfl (blk_to rfl rfl k) | exact fun _ k => vec_of rfl (vec_to rfl k) | exact fun _ k => mp_to rfl k | exact fun _ k => mp_of rfl k | exact fun _ k => mp_of rfl (mp_to rfl k)) (fun h k => sat_pick 0 rfl (fun _ k => ?_) (fun h k => sat_nil k) k) k)⟩
  · show x.l.length - (i + 1) < x.l.length - i
    omega
  · have k := vec_to (l := .at b10 o10) rfl k
    refine vec_of rfl ?_
    rw [List.drop_zero, List.take_of_length_le (by rw [lI]; simp; omega)] at k
    have e : I.flat ((x.l.take i).map RO.id) ++ [.int .i64 m.id] = I.flat ((x.l.take (i + 1)).map RO.id) := by
      rw [List.take_add_one, hq, List.map_append, (I).flat_append]; rfl
    rw [e] at k
    exact k
end Go.Proofs.Ytlgdagjbphafcaa.Ch
