/- What Meet of udp's reference does. Conditions: none. -/
import Derived.Test.YtlgdagjbphafcaaUdpS
namespace Go.Proofs.Ytlgdagjbphafcaa.Udp
open Go Go.Proofs Sx
set_option maxRecDepth 100000
set_option linter.unusedVariables false

def kept (x : RB) (l : List Q) : List Q := l.filter fun q => rlets x q.a q.p
theorem kept_step {x : RB} {l : List Q} {i : Nat} {q : Q} (h : l[i]? = some q) : kept x (l.take (i + 1)) = kept x (l.take i) ++ (if rlets x q.a q.p = true then [q] else []) := by
  rw [List.take_add_one, h]
  simp only [kept, List.filter_append, Option.toList, List.filter_cons, List.filter_nil]
theorem kept_le (x : RB) (l : List Q) (i : Nat) : (kept x (l.take i)).length ≤ i := by
  have h1 := List.length_filter_le (fun q => rlets x q.a q.p) (l.take i)
  have h2 : (l.take i).length ≤ i := by simp; omega
  exact Nat.le_trans h1 h2
/-- Whom it meets, and what stays. -/
def met (x : RB) (a p : Int) : RB := { x with a := a, p := p, l := kept { x with a := a, p := p } x.l, lost := x.lost + (x.l.length - (kept { x with a := a, p := p } x.l).length) }
structure Im (x : RB) where
  i : Nat
  l : Plc
  cap : Nat
  lost : Int
  hi : i ≤ x.l.length
  room : (kept x (x.l.take i)).length ≤ cap
  hlost : lost = x.lost + ((i : Int) - (kept x (x.l.take i)).length)
def SM (x : RB) (A : Option Addr) (c b b' : Nat) (q : Im x) : St :=
  ⟨49, [(2, .ptr 0 0), (4, .ptr 1 0), (6, .sl 2 0 (kept x (x.l.take q.i)).length q.cap), (7, .int .i64 q.i)], [(0, .at b 0), (1, .at b' 0), (2, q.l)], 3,
    [.blk 0 77 [.int .i64 x.most, .int .i64 x.room, .int .u32 x.a, .int .u16 x.p, .raw (.slice A x.l.length c), .int .i64 q.lost, .int .i64 x.told], .blk 1 77 [.int .i64 0, .int .i64 0, .int .u32 0, .int .u16 0, .nils, .int .i64 0, .int .i64 0], .vec 2 37 3 q.cap (qflat (kept x (x.l.take q.i)))]⟩
theorem rmeet_spec (x : RB) (A : Option Addr) (c : Nat) (a p : Int) (hl : x.l.length ≤ 1000) (h0 : 0 ≤ x.lost) (h1 : x.lost ≤ 1000000000) :
    Does Try.prog 54 #[.agg (x.vals A c).toArray, .agg #[.int .u32 a, .int .u16 p]] (fun f => Reads f A (qflat x.l)) []
      (fun v q => (p = 0 ∧ a ≠ 0 ∧ v = .tuple #[.agg (x.vals A c).toArray, .int .i64 8] ∧ q = []) ∨
        (¬ (p = 0 ∧ a ≠ 0) ∧ ∃ l c', v = .tuple #[.agg ((met x a p).vals (locAddr 0 l) c').toArray, .int .i64 0] ∧ (met x a p).l.length ≤ c' ∧ q = [Vec l 37 3 c' (qflat (met x a p).l)])) := by
  refine Does.of Try.func54 Try.call54 rfl [.agg (x.svs A c), .agg [.int .u32 a, .int .u16 p]] [] 0 [] rfl rfl (fun h k => k) (fun f hR => ?_)
  intro b1 b2 b3
  refine Br.mk (fun g1 => ?_) (fun g1 => ?_)
  · refine CondOb.split (fun g2 => ?_) (fun g2 => ?_)
    · exact FinOb.mk [.agg (x.vals A c).toArray, .int .i64 8] [] rfl (fun h k => trivial) (.inl ⟨by simpa using g1, by simpa using g2, rfl, rfl⟩)
    have g : ¬ (p = 0 ∧ a ≠ 0) := by simp at g2; simp [g2]
    obtain ⟨most, room, xa, xp, lost0, told, l0⟩ := x
    refine LoopOb.mk (Im ⟨most, room, a, p, lost0, told, l0⟩) (SM ⟨most, room, a, p, lost0, told, l0⟩ A c b1 b3) (fun z => l0.length - z.i) ⟨0, .nil, 0, lost0, Nat.zero_le _, Nat.le_refl _, by simp [kept]⟩ ?_ ?_
    · refine Le.of rfl ⟨⟨_, rfl, rfl⟩, ⟨_, rfl, rfl⟩, ⟨_, rfl, rfl⟩, ⟨_, rfl, rfl⟩, trivial⟩ (fun h k => ?_)
      exact sat_cons (fun h k => blk_of rfl rfl (blk_to rfl rfl k)) (fun h k => sat_cons (fun h k => blk_of rfl rfl (blk_to rfl rfl k)) (fun h k => sat_add (vec_of rfl vec_emp) (sat_nil k)) k) k
    rintro ⟨i, l, cp, lost, hi, hroom, hlost⟩
    replace hi : i ≤ l0.length := hi
    replace h0 : 0 ≤ lost0 := h0
    replace h1 : lost0 ≤ 1000000000 := h1
    replace hl : l0.length ≤ 1000 := hl
    have hk := kept_le ⟨most, room, a, p, lost0, told, l0⟩ l0 i
    simp only at hroom hlost
    refine CondOb.split (fun g3 => ?_) (fun g3 => ?_)
    rotate_left
    · simp only [decide_eq_false_iff_not] at g3
      replace g3 : ¬ (i : Int) < l0.length := g3
      have ei : i = l0.length := by omega
      subst ei
      rw [List.take_length] at hlost hroom
      refine FinOb.mk [.agg ((met ⟨most, room, xa, xp, lost0, told, l0⟩ a p).vals (locAddr 0 l) cp).toArray, .int .i64 0] [Vec l 37 3 cp (qflat (met ⟨most, room, xa, xp, lost0, told, l0⟩ a p).l)] ?_ ?_ (.inr ⟨g, l, cp, rfl, hroom, rfl⟩)
      · show some [Value.agg #[.int .i64 most, .int .i64 room, .int .u32 a, .int .u16 p, .slice (locAddr 0 l) (kept ⟨most, room, a, p, lost0, told, l0⟩ (l0.take l0.length)).length cp, .int .i64 lost, .int .i64 told], .int .i64 0] = _
        rw [List.take_length, hlost]
        rfl
      · intro h k
        have k := sat_cons (fun h k => vec_to (l := l) rfl k) (fun h k => sat_nil k) (sat_tail (sat_tail k))
        rw [List.take_length] at k
        exact k
    simp only [decide_eq_true_eq] at g3
    replace g3 : (i : Int) < l0.length := g3
    have ei : IntKind.i64.wrap ((i : Int) + 1) = ((i + 1 : Nat) : Int) := by rw [w64 (by omega) (by omega)]; omega
    have hq := List.getElem?_eq_getElem (show i < l0.length by omega)
    generalize hqq : l0[i]'(by omega) = q at *
    obtain ⟨ba, o, rfl, f0⟩ := hR _ _ (qflat_at l0 i _ hq 0 _ rfl)
    obtain ⟨_, _, e1, f1⟩ := hR _ _ (qflat_at l0 i _ hq 1 _ rfl)
    simp only [Option.some.injEq, Addr.mk.injEq, and_true] at e1
    obtain ⟨rfl, rfl⟩ := e1
    obtain ⟨_, _, e1, f2⟩ := hR _ _ (qflat_at l0 i _ hq 2 _ rfl)
    simp only [Option.some.injEq, Addr.mk.injEq, and_true] at e1
    obtain ⟨rfl, rfl⟩ := e1
    refine DrawOb.mk [] (.run [0, 1, 2, 3, 4, 5, 6, 7] .nil) (by kernel_rfl) ?_
    refine Need.mk ⟨Int.natCast_nonneg i, g3⟩ (RawAt.mk ba o rfl ?_)
    refine RdF.mk [.int .u32 q.a, .int .u16 q.p] _ rfl rfl (fun j v hj => ?_) ?_
    · match j, hj with
      | 0, hj => simp at hj; subst hj; simpa [Nat.add_assoc] using f0
      | 1, hj => simp at hj; subst hj; simpa [Nat.add_assoc] using f1
    refine useP (.bool (rlets ⟨most, room, a, p, lost0, told, l0⟩ q.a q.p)) (rlets_spec ⟨most, room, a, p, lost, told, l0⟩ (some ⟨ba, o, none⟩) c q.a q.p) rfl rfl ?_
    refine CondOb.split (fun g4 => ?_) (fun g4 => ?_)
    · have ek := kept_step (x := ⟨most, room, a, p, lost0, told, l0⟩) hq
      rw [if_pos g4] at ek
      refine Need.mk ⟨Int.natCast_nonneg i, g3⟩ (RawAt.mk ba o rfl ?_)
      refine RdF.mk [.int .u32 q.a, .int .u16 q.p, .raw (.slice q.A q.xs.length q.c)] _ rfl rfl (fun j v hj => ?_) ?_
      · match j, hj with
        | 0, hj => simp at hj; subst hj; simpa [Nat.add_assoc] using f0
        | 1, hj => simp at hj; subst hj; simpa [Nat.add_assoc] using f1
        | 2, hj => simp at hj; subst hj; simpa [Nat.add_assoc] using f2
      intro b9
      refine StOb.mk q.cells rfl (Need.mk rfl ?_)
      refine Need.mk ⟨by rw [qflat_length]; simp, by omega, hroom⟩ ?_
      refine Need.mk ⟨by simp only; omega, by simp only [maxLen]; omega, fun v hv => by simp [Q.cells] at hv; rcases hv with rfl | rfl | rfl <;> rfl⟩ ?_
      refine NewSl.pos (by omega) (fun b6 o6 c6 hc6 => ?_)
      refine ⟨⟨i + 1, .at b6 o6, c6, lost, by simp only; omega, by rw [ek, List.length_append]; exact hc6, by simp only [ek, List.length_append, List.length_singleton]; omega⟩, ?_, ?_⟩
      · show l0.length - (i + 1) < l0.length - i
        omega
      · refine Le.of rfl ⟨⟨_, rfl, rfl⟩, ⟨_, rfl, rfl⟩, ⟨_, rfl, congrArg (fun z => some (Value.slice (locAddr 0 (.at b6 o6)) z c6)) (by simp only [ek, List.length_append, List.length_singleton])⟩, ⟨_, rfl, congrArg (fun z => some (Value.int .i64 z)) ei⟩, trivial⟩ (fun h k => ?_)
        have k := sat_swap (sat_cons (fun h k => k) (fun h k => sat_tail k) k)
        have k := sat_cons (fun h k => k) (fun h k => sat_swap k) k
        refine sat_cons (fun h k => blk_of rfl rfl (blk_to rfl rfl k)) (fun h k => sat_cons (fun h k => blk_of rfl rfl (blk_to rfl rfl k)) (fun h k => sat_cons (fun h k => ?_) (fun h k => k) k) k) k
        have k := vec_to (l := .at b6 o6) rfl k
        refine vec_of rfl ?_
        simp only [ek]
        rw [List.drop_zero, List.take_of_length_le (by rw [qflat_length]; exact Nat.le_refl _)] at k
        have e : qflat (kept ⟨most, room, a, p, lost0, told, l0⟩ (l0.take i)) ++ q.cells = qflat (kept ⟨most, room, a, p, lost0, told, l0⟩ (l0.take i) ++ [q]) := by simp [qflat]
        rw [e] at k
        exact k
    · have ek := kept_step (x := ⟨most, room, a, p, lost0, told, l0⟩) hq
      rw [if_neg (by rw [g4]; simp), List.append_nil] at ek
      have elost : IntKind.i64.wrap (lost + 1) = lost + 1 := w64 (by omega) (by omega)
      refine ⟨⟨i + 1, l, cp, IntKind.i64.wrap (lost + 1), by simp only; omega, by rw [ek]; exact hroom, by simp only [ek, elost]; omega⟩, ?_, ?_⟩
      · show l0.length - (i + 1) < l0.length - i
        omega
      · refine Le.of rfl ⟨⟨_, rfl, rfl⟩, ⟨_, rfl, rfl⟩, ⟨_, rfl, congrArg (fun z => some (Value.slice (locAddr 0 l) z cp)) (by simp only [ek])⟩, ⟨_, rfl, congrArg (fun z => some (Value.int .i64 z)) ei⟩, trivial⟩ (fun h k => ?_)
        refine sat_cons (fun h k => blk_of rfl rfl (blk_to rfl rfl k)) (fun h k => sat_cons (fun h k => blk_of rfl rfl (blk_to rfl rfl k)) (fun h k => sat_cons (fun h k => ?_) (fun h k => k) k) k) k
        have k := vec_to (l := l) rfl k
        refine vec_of rfl ?_
        simp only [ek]
        exact k
  · have g : ¬ (p = 0 ∧ a ≠ 0) := by simp at g1; simp [g1]
    obtain ⟨most, room, xa, xp, lost0, told, l0⟩ := x
    refine LoopOb.mk (Im ⟨most, room, a, p, lost0, told, l0⟩) (SM ⟨most, room, a, p, lost0, told, l0⟩ A c b1 b3) (fun z => l0.length - z.i) ⟨0, .nil, 0, lost0, Nat.zero_le _, Nat.le_refl _, by simp [kept]⟩ ?_ ?_
    · refine Le.of rfl ⟨⟨_, rfl, rfl⟩, ⟨_, rfl, rfl⟩, ⟨_, rfl, rfl⟩, ⟨_, rfl, rfl⟩, trivial⟩ (fun h k => ?_)
      exact sat_cons (fun h k => blk_of rfl rfl (blk_to rfl rfl k)) (fun h k => sat_cons (fun h k => blk_of rfl rfl (blk_to rfl rfl k)) (fun h k => sat_add (vec_of rfl vec_emp) (sat_nil k)) k) k
    rintro ⟨i, l, cp, lost, hi, hroom, hlost⟩
    replace hi : i ≤ l0.length := hi
    replace h0 : 0 ≤ lost0 := h0
    replace h1 : lost0 ≤ 1000000000 := h1
    replace hl : l0.length ≤ 1000 := hl
    have hk := kept_le ⟨most, room, a, p, lost0, told, l0⟩ l0 i
    simp only at hroom hlost
    refine CondOb.split (fun g3 => ?_) (fun g3 => ?_)
    rotate_left
    · simp only [decide_eq_false_iff_not] at g3
      replace g3 : ¬ (i : Int) < l0.length := g3
      have ei : i = l0.length := by omega
      subst ei
      rw [List.take_length] at hlost hroom
      refine FinOb.mk [.agg ((met ⟨most, room, xa, xp, lost0, told, l0⟩ a p).vals (locAddr 0 l) cp).toArray, .int .i64 0] [Vec l 37 3 cp (qflat (met ⟨most, room, xa, xp, lost0, told, l0⟩ a p).l)] ?_ ?_ (.inr ⟨g, l, cp, rfl, hroom, rfl⟩)
      · show some [Value.agg #[.int .i64 most, .int .i64 room, .int .u32 a, .int .u16 p, .slice (locAddr 0 l) (kept ⟨most, room, a, p, lost0, told, l0⟩ (l0.take l0.length)).length cp, .int .i64 lost, .int .i64 told], .int .i64 0] = _
        rw [List.take_length, hlost]
        rfl
      · intro h k
        have k := sat_cons (fun h k => vec_to (l := l) rfl k) (fun h k => sat_nil k) (sat_tail (sat_tail k))
        rw [List.take_length] at k
        exact k
    simp only [decide_eq_true_eq] at g3
    replace g3 : (i : Int) < l0.length := g3
    have ei : IntKind.i64.wrap ((i : Int) + 1) = ((i + 1 : Nat) : Int) := by rw [w64 (by omega) (by omega)]; omega
    have hq := List.getElem?_eq_getElem (show i < l0.length by omega)
    generalize hqq : l0[i]'(by omega) = q at *
    obtain ⟨ba, o, rfl, f0⟩ := hR _ _ (qflat_at l0 i _ hq 0 _ rfl)
    obtain ⟨_, _, e1, f1⟩ := hR _ _ (qflat_at l0 i _ hq 1 _ rfl)
    simp only [Option.some.injEq, Addr.mk.injEq, and_true] at e1
    obtain ⟨rfl, rfl⟩ := e1
    obtain ⟨_, _, e1, f2⟩ := hR _ _ (qflat_at l0 i _ hq 2 _ rfl)
    simp only [Option.some.injEq, Addr.mk.injEq, and_true] at e1
    obtain ⟨rfl, rfl⟩ := e1
    refine DrawOb.mk [] (.run [0, 1, 2, 3, 4, 5, 6, 7] .nil) (by kernel_rfl) ?_
    refine Need.mk ⟨Int.natCast_nonneg i, g3⟩ (RawAt.mk ba o rfl ?_)
    refine RdF.mk [.int .u32 q.a, .int .u16 q.p] _ rfl rfl (fun j v hj => ?_) ?_
    · match j, hj with
      | 0, hj => simp at hj; subst hj; simpa [Nat.add_assoc] using f0
      | 1, hj => simp at hj; subst hj; simpa [Nat.add_assoc] using f1
    refine useP (.bool (rlets ⟨most, room, a, p, lost0, told, l0⟩ q.a q.p)) (rlets_spec ⟨most, room, a, p, lost, told, l0⟩ (some ⟨ba, o, none⟩) c q.a q.p) rfl rfl ?_
    refine CondOb.split (fun g4 => ?_) (fun g4 => ?_)
    · have ek := kept_step (x := ⟨most, room, a, p, lost0, told, l0⟩) hq
      rw [if_pos g4] at ek
      refine Need.mk ⟨Int.natCast_nonneg i, g3⟩ (RawAt.mk ba o rfl ?_)
      refine RdF.mk [.int .u32 q.a, .int .u16 q.p, .raw (.slice q.A q.xs.length q.c)] _ rfl rfl (fun j v hj => ?_) ?_
      · match j, hj with
        | 0, hj => simp at hj; subst hj; simpa [Nat.add_assoc] using f0
        | 1, hj => simp at hj; subst hj; simpa [Nat.add_assoc] using f1
        | 2, hj => simp at hj; subst hj; simpa [Nat.add_assoc] using f2
      intro b9
      refine StOb.mk q.cells rfl (Need.mk rfl ?_)
      refine Need.mk ⟨by rw [qflat_length]; simp, by omega, hroom⟩ ?_
      refine Need.mk ⟨by simp only; omega, by simp only [maxLen]; omega, fun v hv => by simp [Q.cells] at hv; rcases hv with rfl | rfl | rfl <;> rfl⟩ ?_
      refine NewSl.pos (by omega) (fun b6 o6 c6 hc6 => ?_)
      refine ⟨⟨i + 1, .at b6 o6, c6, lost, by simp only; omega, by rw [ek, List.length_append]; exact hc6, by simp only [ek, List.length_append, List.length_singleton]; omega⟩, ?_, ?_⟩
      · show l0.length - (i + 1) < l0.length - i
        omega
      · refine Le.of rfl ⟨⟨_, rfl, rfl⟩, ⟨_, rfl, rfl⟩, ⟨_, rfl, congrArg (fun z => some (Value.slice (locAddr 0 (.at b6 o6)) z c6)) (by simp only [ek, List.length_append, List.length_singleton])⟩, ⟨_, rfl, congrArg (fun z => some (Value.int .i64 z)) ei⟩, trivial⟩ (fun h k => ?_)
        have k := sat_swap (sat_cons (fun h k => k) (fun h k => sat_tail k) k)
        have k := sat_cons (fun h k => k) (fun h k => sat_swap k) k
        refine sat_cons (fun h k => blk_of rfl rfl (blk_to rfl rfl k)) (fun h k => sat_cons (fun h k => blk_of rfl rfl (blk_to rfl rfl k)) (fun h k => sat_cons (fun h k => ?_) (fun h k => k) k) k) k
        have k := vec_to (l := .at b6 o6) rfl k
        refine vec_of rfl ?_
        simp only [ek]
        rw [List.drop_zero, List.take_of_length_le (by rw [qflat_length]; exact Nat.le_refl _)] at k
        have e : qflat (kept ⟨most, room, a, p, lost0, told, l0⟩ (l0.take i)) ++ q.cells = qflat (kept ⟨most, room, a, p, lost0, told, l0⟩ (l0.take i) ++ [q]) := by simp [qflat]
        rw [e] at k
        exact k
    · have ek := kept_step (x := ⟨most, room, a, p, lost0, told, l0⟩) hq
      rw [if_neg (by rw [g4]; simp), List.append_nil] at ek
      have elost : IntKind.i64.wrap (lost + 1) = lost + 1 := w64 (by omega) (by omega)
      refine ⟨⟨i + 1, l, cp, IntKind.i64.wrap (lost + 1), by simp only; omega, by rw [ek]; exact hroom, by simp only [ek, elost]; omega⟩, ?_, ?_⟩
      · show l0.length - (i + 1) < l0.length - i
        omega
      · refine Le.of rfl ⟨⟨_, rfl, rfl⟩, ⟨_, rfl, rfl⟩, ⟨_, rfl, congrArg (fun z => some (Value.slice (locAddr 0 l) z cp)) (by simp only [ek])⟩, ⟨_, rfl, congrArg (fun z => some (Value.int .i64 z)) ei⟩, trivial⟩ (fun h k => ?_)
        refine sat_cons (fun h k => blk_of rfl rfl (blk_to rfl rfl k)) (fun h k => sat_cons (fun h k => blk_of rfl rfl (blk_to rfl rfl k)) (fun h k => sat_cons (fun h k => ?_) (fun h k => k) k) k) k
        have k := vec_to (l := l) rfl k
        refine vec_of rfl ?_
        simp only [ek]
        exact k
end Go.Proofs.Ytlgdagjbphafcaa.Udp
