/- wheel: the reference. Conditions: none. -/
import Derived.Test.YtiknkeakielncaaWhM
namespace Go.Proofs.Ytiknkeakielncaa.Wh
open Go Go.Proofs Sx
set_option maxRecDepth 100000
set_option linter.unusedVariables false
set_option linter.unusedSimpArgs false
set_option maxHeartbeats 4000000

/-- The reference's timer. -/
structure U where
  id : Int
  at_ : Int
deriving DecidableEq, Inhabited
def U.vals (t : U) : List Value := [.int .i64 t.id, .int .i64 t.at_]
def UL : Lay U where
  cells := U.vals
  sz := 2
  len _ := rfl
  one e v hv := by
    simp only [U.vals, List.mem_cons, List.not_mem_nil, or_false] at hv
    rcases hv with rfl | rfl <;> rfl
theorem lU (l : List U) : (UL.flat l).length = l.length * 2 := by rw [UL.flat_length]; rfl
theorem Reads.tail {f : HP} {A : Option Addr} {ys : List Value} (h : Reads f A ys) (cp i sz : Nat) (hy : ys.length ≤ cp * sz) :
    Reads f (if cp = i then A else A.map (fun x => x.add (i * sz))) (ys.drop (i * sz)) := by
  split
  · rename_i e
    subst e
    rw [List.drop_eq_nil_of_le hy]
    exact Reads.nil f A
  · intro j v hj
    rw [List.getElem?_drop] at hj
    obtain ⟨b, o, hA, hf⟩ := h _ v hj
    refine ⟨b, o + i * sz, ?_, by rw [Nat.add_assoc]; exact hf⟩
    rw [hA, Option.map_some, addr_add]
theorem Reads.flatTail {f : HP} {A : Option Addr} {l : List U} (h : Reads f A (UL.flat l)) (cp i : Nat) (hc : l.length ≤ cp) :
    Reads f (if cp = i then A else A.map (fun x => x.add (i * 2))) (UL.flat (l.drop i)) := by
  have := Reads.tail h cp i 2 (by rw [lU]; omega)
  rw [show UL.flat (l.drop i) = _ from (UL.flat_drops l i).symm]
  exact this
/-- Where a number's timer is. -/
def Found (l : List U) (id : Int) (r : Int) : Prop := (r = -1 ∧ ∀ x ∈ l, x.id ≠ id) ∨ ∃ (i : Nat) (x : U), r = i ∧ l[i]? = some x ∧ x.id = id
theorem place_spec (A : Option Addr) (cp : Nat) (l : List U) (id : Int) (hl : l.length ≤ 1000000) :
    Does Try.prog 85 #[.slice A l.length cp, .int .i64 id] (fun f => Reads f A (UL.flat l)) [] (fun v p => ∃ r, v = .int .i64 r ∧ Found l id r ∧ p = []) := by
  refine Does.ofJ Try.func85 Try.call85 rfl [.raw (.slice A l.length cp), .int .i64 id] [] 0 [] rfl rfl (fun h k => k) (fun f hR => ?_)
  refine LoopOb.mk { i : Nat // i ≤ l.length ∧ ∀ t ∈ l.take i, t.id ≠ id } (fun z => ⟨20, [(0, .raw (.slice A l.length cp)), (1, .int .i64 id), (5, .int .i64 z.1)], [], 0, []⟩) (fun z => l.length - z.1) ⟨0, by omega, by simp⟩ ?_ ?_
  · exact Le.of rfl ⟨⟨_, rfl, rfl⟩, ⟨_, rfl, rfl⟩, ⟨_, rfl, rfl⟩, trivial⟩ (fun h k => k)
  rintro ⟨i, hi0, hall⟩
  refine CondOb.split (fun g => ?_) (fun g => ?_)
  rotate_left
  · have g := of_decide_eq_false g
    replace g : ¬ (i : Int) < l.length := g
    refine FinOb.mk [.int .i64 (-1)] [] rfl (fun h k => k) ⟨-1, rfl, .inl ⟨rfl, ?_⟩, rfl⟩
    rw [List.take_of_length_le (by omega)] at hall; exact hall
  have g := of_decide_eq_true g
  replace g : (i : Int) < l.length := g
  have hq := List.getElem?_eq_getElem (show i < l.length by omega)
  generalize l[i]'(by omega) = m at *
  obtain ⟨ba, o, rfl, hf⟩ := hR.lay (by decide) hq
  have ei : IntKind.i64.wrap ((i : Int) + 1) = ((i + 1 : Nat) : Int) := by rw [w64 (by omega) (by omega)]; omega
  refine Need.mk ⟨Int.natCast_nonneg i, g⟩ (RawAt.mk ba o rfl ?_)
  refine RdRaw.mk (.int .i64 m.id) _ rfl (by rw [Int.toNat_natCast]; exact hf 0 _ rfl) ?_
  refine CondOb.split (fun g2 => ?_) (fun g2 => ?_)
  · have g2 : m.id = id := by simpa using g2
    exact FinOb.mk [.int .i64 i] [] rfl (fun h k => k) ⟨i, rfl, .inr ⟨i, m, rfl, hq, g2⟩, rfl⟩
  · have g2 : ¬ m.id = id := by simpa using g2
    refine ⟨⟨i + 1, by omega, ?_⟩, ?_, Le.of rfl ⟨⟨_, rfl, rfl⟩, ⟨_, rfl, rfl⟩, ⟨_, rfl, congrArg (fun z => some (Value.int .i64 z)) ei⟩, trivial⟩ (fun h k => k)⟩
    · rw [List.take_add_one, hq]
      intro t ht
      rcases List.mem_append.1 ht with h | h
      · exact hall t h
      · simp at h; subst h; exact g2
    · show l.length - (i + 1) < l.length - i
      omega
theorem rdue_spec (A : Option Addr) (cp : Nat) (l : List U) (id : Int) (hl : l.length ≤ 1000000) :
    Does Try.prog 43 #[.slice A l.length cp, .int .i64 id] (fun f => Reads f A (UL.flat l)) [] (fun v p => p = [] ∧ ((v = .tuple #[.int .i64 0, .bool false] ∧ ∀ x ∈ l, x.id ≠ id) ∨ ∃ x ∈ l, x.id = id ∧ v = .tuple #[.int .i64 x.at_, .bool true])) := by
  refine Does.ofJ Try.func43 Try.call43 rfl [.raw (.slice A l.length cp), .int .i64 id] [] 0 [] rfl rfl (fun h k => k) (fun f hR => ?_)
  refine call_ix (place_spec A cp l id hl) rfl [] (fun h k => k) (fun f' b' hs _ => hR.frame hs) ?_
  rintro v p ⟨r, rfl, hp, rfl⟩
  refine ⟨.int .i64 r, _, 0, [], NmExt.refl _, rfl, fun h k => trivial, ?_⟩
  rcases hp with ⟨rfl, hall⟩ | ⟨i, x, rfl, hx, hh⟩
  · refine CondOb.split (fun _ => ?_) (fun h => absurd h (by simp))
    exact FinOb.mk [.int .i64 0, .bool false] [] rfl (fun h k => trivial) ⟨rfl, .inl ⟨rfl, hall⟩⟩
  refine CondOb.split (fun g => absurd g (by simp)) (fun _ => ?_)
  have hi := (List.getElem?_eq_some_iff.1 hx).1
  obtain ⟨ba, o, rfl, hf⟩ := hR.lay (by decide) hx
  refine Need.mk ⟨Int.natCast_nonneg i, by omega⟩ (RawAt.mk ba o rfl ?_)
  refine RdRaw.mk (.int .i64 x.at_) _ rfl (by rw [Int.toNat_natCast]; exact hf 1 _ rfl) ?_
  exact FinOb.mk [.int .i64 x.at_, .bool true] [] rfl (fun h k => trivial) ⟨rfl, .inr ⟨x, List.mem_of_getElem? hx, hh, rfl⟩⟩
theorem rstop_spec (A : Option Addr) (cp : Nat) (l : List U) (id : Int) (hc : l.length ≤ cp) (hl : l.length ≤ 100000) :
    Does Try.prog 38 #[.slice A l.length cp, .int .i64 id] (fun f => Reads f A (UL.flat l)) []
      (fun v p => (v = .tuple #[.slice A l.length cp, .bool false] ∧ p = [] ∧ ∀ x ∈ l, x.id ≠ id) ∨
        ∃ (i : Nat) (x : U) (pl : Plc) (c : Nat), l[i]? = some x ∧ x.id = id ∧ v = .tuple #[.slice (locAddr 0 pl) (l.length - 1) c, .bool true] ∧ l.length - 1 ≤ c ∧ p = [Vec pl 171 2 c (UL.flat (l.eraseIdx i))]) := by
  refine Does.ofJ Try.func38 Try.call38 rfl [.raw (.slice A l.length cp), .int .i64 id] [] 0 [] rfl rfl (fun h k => k) (fun f hR => ?_)
  refine call_ix (place_spec A cp l id (by omega)) rfl [] (fun h k => k) (fun f' b' hs _ => hR.frame hs) ?_
  rintro v p ⟨r, rfl, hp, rfl⟩
  refine ⟨.int .i64 r, _, 0, [], NmExt.refl _, rfl, fun h k => trivial, ?_⟩
  rcases hp with ⟨rfl, hall⟩ | ⟨i, x, rfl, hx, hh⟩
  · refine CondOb.split (fun _ => ?_) (fun h => absurd h (by simp))
    exact FinOb.mk [.slice A l.length cp, .bool false] [] rfl (fun h k => trivial) (.inl ⟨rfl, rfl, hall⟩)
  refine CondOb.split (fun g => absurd g (by simp)) (fun _ => ?_)
  have hi := (List.getElem?_eq_some_iff.1 hx).1
  have e1 : IntKind.i64.wrap ((i : Int) + 1) = i + 1 := w64 (by omega) (by omega)
  refine DrawOb.mk [(0, [1, 2, 3, 5, 6, 7, 8]), (4, [5, 6, 7, 8])] (.run [1, 2, 3, 5, 6, 7, 8, 0, 4, 9, 10, 11] .nil) (by kernel_rfl) ?_
  refine Need.mk (by omega) ?_
  refine Need.mk (by rw [e1]; omega) ?_
  intro b1
  have hP : (UL.flat (l.take i)).length = i * 2 := by rw [lU, List.length_take, Nat.min_eq_left (by omega)]
  have hQ : (UL.flat (l.drop (i + 1))).length = (l.length - (i + 1)) * 2 := by rw [lU, List.length_drop]
  have e2 : (IntKind.i64.wrap ((i : Int) + 1)).toNat = i + 1 := by rw [e1]; omega
  refine SrcF.mk (UL.flat (l.take i)) hP (by have := hR.take (i * 2); rw [show UL.flat (l.take i) = _ from (UL.flat_take l i).symm]; exact this) ?_
  refine StOb.mk [] rfl (Need.mk (by simp) (Need.mk ⟨by omega, by simp only [maxLen]; omega, UL.flat_one' _⟩ ?_))
  refine NewSl.any (fun l2 c2 hc2 => ?_)
  refine SrcF.mk (UL.flat (l.drop (i + 1))) (by rw [e2]; exact hQ) (by rw [e2]; exact Reads.flatTail hR cp (i + 1) hc) ?_
  refine Need.mk (by simp only [Int.toNat_natCast, Nat.zero_add, Nat.zero_mul, List.take_zero, List.nil_append, hP] at *; omega) ?_
  refine Need.mk (by rw [e2]; exact ⟨by omega, by simp only [maxLen]; omega, UL.flat_one' _⟩) ?_
  refine NewSl.any (fun l3 c3 hc3 => ?_)
  rw [e2] at hc3
  have e : 0 + (i : Int).toNat + (l.length - (i + 1)) = l.length - 1 := by omega
  refine FinOb.mk [.slice (locAddr 0 l3) (l.length - 1) c3, .bool true] [Vec l3 171 2 c3 (UL.flat (l.eraseIdx i))] (by rw [e2, e]; rfl) (fun h k => sat_pick 0 rfl (fun _ k9 => ?_) (fun h k => sat_nil k) k) (.inr ⟨i, x, l3, c3, hx, hh, rfl, by omega, rfl⟩)
  have kk := vec_to (l := l3) rfl k9
  simp only [Int.toNat_natCast, Nat.zero_add, Nat.zero_mul, List.take_zero, List.nil_append, List.drop_zero] at kk
  rw [List.take_of_length_le (l := UL.flat (l.take i)) (by rw [hP]; exact Nat.le_refl _), ← UL.flat_append, ← List.eraseIdx_eq_take_drop_succ] at kk
  exact kk
/-- What the reference's Set answers. -/
inductive RSet (l : List U) (id x : Int) : Int → List U → Prop
  | range (h : x < 0 ∨ 1099511627776 < x) : RSet l id x 8 l
  | full (h0 : 0 ≤ x) (h1 : x ≤ 1099511627776) (h : ∀ y ∈ l, y.id ≠ id) (hf : 4096 ≤ l.length) : RSet l id x 5 l
  | new (h0 : 0 ≤ x) (h1 : x ≤ 1099511627776) (h : ∀ y ∈ l, y.id ≠ id) (hf : l.length < 4096) : RSet l id x 0 (l ++ [⟨id, x⟩])
  | old (h0 : 0 ≤ x) (h1 : x ≤ 1099511627776) (i : Nat) (y : U) (hy : l[i]? = some y) (h : y.id = id) : RSet l id x 0 (l.eraseIdx i ++ [⟨id, x⟩])
theorem rset_spec (A : Option Addr) (cp : Nat) (l : List U) (id x : Int) (hc : l.length ≤ cp) (hl : l.length ≤ 100000) :
    Does Try.prog 36 #[.slice A l.length cp, .int .i64 id, .int .i64 x] (fun f => Reads f A (UL.flat l)) []
      (fun v p => ∃ code l', RSet l id x code l' ∧ ((v = .tuple #[.slice A l.length cp, .int .i64 code] ∧ l' = l ∧ code ≠ 0 ∧ p = []) ∨
        ∃ (pl : Plc) (c : Nat), v = .tuple #[.slice (locAddr 0 pl) l'.length c, .int .i64 code] ∧ l'.length ≤ c ∧ p = [Vec pl 171 2 c (UL.flat l')])) := by
  refine Does.ofJ Try.func36 Try.call36 rfl [.raw (.slice A l.length cp), .int .i64 id, .int .i64 x] [] 0 [] rfl rfl (fun h k => k) (fun f hR => ?_)
  refine RegOb.go ?_
  refine Br.mk (fun g => ?_) (fun g => ?_)
  · refine FinOb.mk [.slice A l.length cp, .int .i64 8] [] rfl (fun h k => trivial) ⟨8, l, .range (.inl (of_decide_eq_true g)), .inl ⟨rfl, rfl, by decide, rfl⟩⟩
  refine CondOb.split (fun g2 => ?_) (fun g2 => ?_)
  · refine FinOb.mk [.slice A l.length cp, .int .i64 8] [] rfl (fun h k => trivial) ⟨8, l, .range (.inr (of_decide_eq_true g2)), .inl ⟨rfl, rfl, by decide, rfl⟩⟩
  have x0 : 0 ≤ x := by have := of_decide_eq_false g; omega
  have x1 : x ≤ 1099511627776 := by have := of_decide_eq_false g2; omega
  refine RegOb.go ?_
  refine call_ix (place_spec A cp l id (by omega)) rfl [] (fun h k => k) (fun f' b' hs _ => hR.frame hs) ?_
  rintro v p ⟨r, rfl, hp, rfl⟩
  refine ⟨.int .i64 r, _, 0, [], NmExt.refl _, rfl, fun h k => trivial, ?_⟩
  have hS : Reads f A (UL.flat l) := hR
  rcases hp with ⟨rfl, hall⟩ | ⟨i, y, rfl, hy, hh⟩
  · refine Br.mk (fun _ => ?_) (fun h => absurd h (by decide))
    refine CondOb.split (fun g3 => ?_) (fun g3 => ?_)
    · have g3 : (l.length : Int) ≥ 4096 := of_decide_eq_true g3
      exact FinOb.mk [.slice A l.length cp, .int .i64 5] [] rfl (fun h k => trivial) ⟨5, l, .full x0 x1 hall (by omega), .inl ⟨rfl, rfl, by decide, rfl⟩⟩
    have g3 : ¬ (l.length : Int) ≥ 4096 := of_decide_eq_false g3
    refine call_ix (rstop_spec A cp l id hc hl) rfl [] (fun h k => k) (fun f' b' hs _ => hR.frame hs) ?_
    rintro v p (⟨rfl, rfl, _⟩ | ⟨i, z, pl, c, hz, hzi, _⟩)
    rotate_left
    · exact absurd hzi (hall z (List.mem_of_getElem? hz))
    refine ⟨.tuple [.raw (.slice A l.length cp), .ff], _, 0, [], NmExt.refl _, rfl, fun h k => trivial, ?_⟩
    intro b1
    refine SrcF.mk (UL.flat l) (lU l) hS ?_
    refine StOb.mk [] rfl (Need.mk (by simp) (Need.mk ⟨by omega, by simp only [maxLen]; omega, UL.flat_one' _⟩ ?_))
    refine NewSl.any (fun l2 c2 hc2 => ?_)
    intro b3
    refine StOb.mk (UL.cells ⟨id, x⟩) rfl (Need.mk rfl ?_)
    refine Need.mk (by simp [lU]; omega) ?_
    refine Need.mk ⟨by omega, by simp only [maxLen]; omega, UL.one _⟩ ?_
    refine NewSl.pos (by omega) (fun b6 o6 c6 hc6 => ?_)
    refine FinOb.mk [.slice (some ⟨b6, o6, none⟩) (0 + l.length + 1) c6, .int .i64 0] [Vec (.at b6 o6) 171 2 c6 (UL.flat (l ++ [⟨id, x⟩]))] rfl (fun h k => sat_pick 0 rfl (fun _ k9 => ?_) (fun h k => sat_nil k) k) ⟨0, l ++ [⟨id, x⟩], .new x0 x1 hall (by omega), .inr ⟨.at b6 o6, c6, by simp [ret1, locAddr], by simp; omega, rfl⟩⟩
    have kk := vec_to (l := .at b6 o6) rfl k9
    rw [UL.flat_append, UL.flat_one]
    have e7 : List.take (l.length * 2) (UL.flat l) = UL.flat l := List.take_of_length_le (by rw [lU]; exact Nat.le_refl _)
    simpa [e7] using kk
  · refine Br.mk (fun h => absurd (of_decide_eq_true h) (by omega)) (fun _ => ?_)
    refine call_ix (rstop_spec A cp l id hc hl) rfl [] (fun h k => k) (fun f' b' hs _ => hR.frame hs) ?_
    rintro v p (⟨rfl, rfl, hno⟩ | ⟨j, z, pl, c, hz, hzi, rfl, hc2, rfl⟩)
    · exact absurd hh (hno y (List.mem_of_getElem? hy))
    refine ⟨.tuple [.sl 0 0 (l.length - 1) c, .tt], [(0, pl)], 1, [.vec 0 171 2 c (UL.flat (l.eraseIdx j))], NmExt.push rfl, rfl, (fun h k => sat_pick 0 rfl (fun _ k => vec_of rfl k) (fun h k => sat_nil k) k), ?_⟩
    have hjl := (List.getElem?_eq_some_iff.1 hz).1
    have hll : (l.eraseIdx j).length = l.length - 1 := by rw [List.length_eraseIdx, if_pos hjl]
    have hF : (UL.flat (l.eraseIdx j)).length = (l.length - 1) * 2 := by rw [lU, hll]
    intro b1
    refine Need.mk (by rw [hF]; omega) ?_
    refine StOb.mk [] rfl (Need.mk (by simp) ?_)
    refine Need.mk ⟨by omega, by simp only [maxLen]; omega, fun v hv => UL.flat_one' _ v (List.mem_of_mem_drop (List.mem_of_mem_take hv))⟩ ?_
    refine NewSl.any (fun l2 c2 hc2 => ?_)
    intro b3
    refine StOb.mk (UL.cells ⟨id, x⟩) rfl (Need.mk rfl ?_)
    refine Need.mk (by simp [lU]; omega) ?_
    refine Need.mk ⟨by omega, by simp only [maxLen]; omega, UL.one _⟩ ?_
    refine NewSl.pos (by omega) (fun b6 o6 c6 hc6 => ?_)
    refine FinOb.mk [.slice (some ⟨b6, o6, none⟩) (0 + (l.length - 1) + 1) c6, .int .i64 0] [Vec (.at b6 o6) 171 2 c6 (UL.flat (l.eraseIdx j ++ [⟨id, x⟩]))] rfl (fun h k => sat_pick 0 rfl (fun _ k9 => ?_) (fun h k => sat_nil k) k) ⟨0, l.eraseIdx j ++ [⟨id, x⟩], .old x0 x1 j z hz hzi, .inr ⟨.at b6 o6, c6, by simp [ret1, locAddr, hll], by simp [hll]; omega, rfl⟩⟩
    have kk := vec_to (l := .at b6 o6) rfl k9
    rw [UL.flat_append, UL.flat_one]
    have e7 : List.take ((l.length - 1) * 2) (UL.flat (l.eraseIdx j)) = UL.flat (l.eraseIdx j) := List.take_of_length_le (by rw [hF]; exact Nat.le_refl _)
    simpa [hF, e7] using kk
end Go.Proofs.Ytiknkeakielncaa.Wh
