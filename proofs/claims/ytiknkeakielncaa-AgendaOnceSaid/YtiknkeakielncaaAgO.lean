/- agenda: the reference's Place, Push. Conditions: none. -/
import Derived.Test.YtiknkeakielncaaAgN
namespace Go.Proofs.Ytiknkeakielncaa.Ag
open Go Go.Proofs Sx
set_option maxRecDepth 100000
set_option linter.unusedVariables false
set_option linter.unusedSimpArgs false
set_option maxHeartbeats 4000000

/-- Where a number's item is. -/
def Found (l : List En) (id : Int) (r : Int) : Prop := (r = -1 ∧ ∀ x ∈ l, x.id ≠ id) ∨ ∃ (i : Nat) (x : En), r = i ∧ l[i]? = some x ∧ x.id = id
theorem place_spec (A : Option Addr) (cp : Nat) (l : List En) (id : Int) (hl : l.length ≤ 1000000) :
    Does Try.prog 34 #[.slice A l.length cp, .int .i64 id] (fun f => Reads f A (TL.flat l)) [] (fun v p => ∃ r, v = .int .i64 r ∧ Found l id r ∧ p = []) := by
  refine Does.ofJ Try.func34 Try.call34 rfl [.raw (.slice A l.length cp), .int .i64 id] [] 0 [] rfl rfl (fun h k => k) (fun f hR => ?_)
  refine LoopOb.mk { i : Nat // i ≤ l.length ∧ ∀ t ∈ l.take i, t.id ≠ id } (fun z => ⟨20, [(0, .raw (.slice A l.length cp)), (1, .int .i64 id), (5, .int .i64 z.1)], [], 0, []⟩) (fun z => l.length - z.1) ⟨0, by omega, by simp⟩ ?_ ?_
  · exact Le.of rfl ⟨⟨_, rfl, rfl⟩, ⟨_, rfl, rfl⟩, ⟨_, rfl, rfl⟩, trivial⟩ (fun h k => k)
  rintro ⟨i, hi0, hall⟩
  refine CondOb.split (fun g => ?_) (fun g => ?_)
  rotate_left
  · have g := of_decide_eq_false g
    replace g : ¬ (i : Int) < l.length := g
    refine FinOb.mk [.int .i64 (-1)] [] rfl (fun h k => k) ⟨-1, rfl, .inl ⟨rfl, ?_⟩, rfl⟩
    rw [List.take_of_length_le (by omega)] at hall; exact hall
  have g := of_decide_eq_true g
  replace g : (i : Int) < l.length := g
  have hq := List.getElem?_eq_getElem (show i < l.length by omega)
  generalize l[i]'(by omega) = m at *
  obtain ⟨ba, o, rfl, hf⟩ := hR.lay (by decide) hq
  have ei : IntKind.i64.wrap ((i : Int) + 1) = ((i + 1 : Nat) : Int) := by rw [w64 (by omega) (by omega)]; omega
  refine Need.mk ⟨Int.natCast_nonneg i, g⟩ (RawAt.mk ba o rfl ?_)
  refine RdRaw.mk (.int .i64 m.id) _ rfl (by rw [Int.toNat_natCast]; exact hf 0 _ rfl) ?_
  refine CondOb.split (fun g2 => ?_) (fun g2 => ?_)
  · have g2 : m.id = id := by simpa using g2
    exact FinOb.mk [.int .i64 i] [] rfl (fun h k => k) ⟨i, rfl, .inr ⟨i, m, rfl, hq, g2⟩, rfl⟩
  · have g2 : ¬ m.id = id := by simpa using g2
    refine ⟨⟨i + 1, by omega, ?_⟩, ?_, Le.of rfl ⟨⟨_, rfl, rfl⟩, ⟨_, rfl, rfl⟩, ⟨_, rfl, congrArg (fun z => some (Value.int .i64 z)) ei⟩, trivial⟩ (fun h k => k)⟩
    · rw [List.take_add_one, hq]
      intro t ht
      rcases List.mem_append.1 ht with h | h
      · exact hall t h
      · simp at h; subst h; exact g2
    · show l.length - (i + 1) < l.length - i
      omega
theorem Reads.tail {f : HP} {A : Option Addr} {ys : List Value} (h : Reads f A ys) (cp i sz : Nat) (hy : ys.length ≤ cp * sz) :
    Reads f (if cp = i then A else A.map (fun x => x.add (i * sz))) (ys.drop (i * sz)) := by
  split
  · rename_i e
    subst e
    rw [List.drop_eq_nil_of_le hy]
    exact Reads.nil f A
  · intro j v hj
    rw [List.getElem?_drop] at hj
    obtain ⟨b, o, hA, hf⟩ := h _ v hj
    refine ⟨b, o + i * sz, ?_, by rw [Nat.add_assoc]; exact hf⟩
    rw [hA, Option.map_some, addr_add]
theorem Reads.flatTail {f : HP} {A : Option Addr} {l : List En} (h : Reads f A (TL.flat l)) (cp i : Nat) (hc : l.length ≤ cp) :
    Reads f (if cp = i then A else A.map (fun x => x.add (i * 3))) (TL.flat (l.drop i)) := by
  have := Reads.tail h cp i 3 (by rw [lT]; omega)
  rw [show TL.flat (l.drop i) = _ from (TL.flat_drops l i).symm]
  exact this
theorem rdrop_spec (A : Option Addr) (cp : Nat) (l : List En) (id : Int) (hc : l.length ≤ cp) (hl : l.length ≤ 100000) :
    Does Try.prog 58 #[.slice A l.length cp, .int .i64 id] (fun f => Reads f A (TL.flat l)) []
      (fun v p => (v = .tuple #[.slice A l.length cp, .bool false] ∧ p = [] ∧ ∀ x ∈ l, x.id ≠ id) ∨
        ∃ (i : Nat) (x : En) (pl : Plc) (c : Nat), l[i]? = some x ∧ x.id = id ∧ v = .tuple #[.slice (locAddr 0 pl) (l.length - 1) c, .bool true] ∧ l.length - 1 ≤ c ∧ p = [Vec pl 65 3 c (TL.flat (l.eraseIdx i))]) := by
  refine Does.ofJ Try.func58 Try.call58 rfl [.raw (.slice A l.length cp), .int .i64 id] [] 0 [] rfl rfl (fun h k => k) (fun f hR => ?_)
  refine call_ix (place_spec A cp l id (by omega)) rfl [] (fun h k => k) (fun f' b' hs _ => hR.frame hs) ?_
  rintro v p ⟨r, rfl, hp, rfl⟩
  refine ⟨.int .i64 r, _, 0, [], NmExt.refl _, rfl, fun h k => trivial, ?_⟩
  rcases hp with ⟨rfl, hall⟩ | ⟨i, x, rfl, hx, hh⟩
  · refine CondOb.split (fun _ => ?_) (fun h => absurd h (by simp))
    exact FinOb.mk [.slice A l.length cp, .bool false] [] rfl (fun h k => trivial) (.inl ⟨rfl, rfl, hall⟩)
  refine CondOb.split (fun g => absurd g (by simp)) (fun _ => ?_)
  have hi := (List.getElem?_eq_some_iff.1 hx).1
  have e1 : IntKind.i64.wrap ((i : Int) + 1) = i + 1 := w64 (by omega) (by omega)
  refine DrawOb.mk [(0, [1, 2, 3, 5, 6, 7, 8]), (4, [5, 6, 7, 8])] (.run [1, 2, 3, 5, 6, 7, 8, 0, 4, 9, 10, 11] .nil) (by kernel_rfl) ?_
  refine Need.mk (by omega) ?_
  refine Need.mk (by rw [e1]; omega) ?_
  intro b1
  have hP : (TL.flat (l.take i)).length = i * 3 := by rw [lT, List.length_take, Nat.min_eq_left (by omega)]
  have hQ : (TL.flat (l.drop (i + 1))).length = (l.length - (i + 1)) * 3 := by rw [lT, List.length_drop]
  have e2 : (IntKind.i64.wrap ((i : Int) + 1)).toNat = i + 1 := by rw [e1]; omega
  refine SrcF.mk (TL.flat (l.take i)) hP (by have := hR.take (i * 3); rw [show TL.flat (l.take i) = _ from (TL.flat_take l i).symm]; exact this) ?_
  refine StOb.mk [] rfl (Need.mk (by simp) (Need.mk ⟨by omega, by simp only [maxLen]; omega, TL.flat_one' _⟩ ?_))
  refine NewSl.any (fun l2 c2 hc2 => ?_)
  refine SrcF.mk (TL.flat (l.drop (i + 1))) (by rw [e2]; exact hQ) (by rw [e2]; exact Reads.flatTail hR cp (i + 1) hc) ?_
  refine Need.mk (by simp only [Int.toNat_natCast, Nat.zero_add, Nat.zero_mul, List.take_zero, List.nil_append, hP] at *; omega) ?_
  refine Need.mk (by rw [e2]; exact ⟨by omega, by simp only [maxLen]; omega, TL.flat_one' _⟩) ?_
  refine NewSl.any (fun l3 c3 hc3 => ?_)
  rw [e2] at hc3
  have e : 0 + (i : Int).toNat + (l.length - (i + 1)) = l.length - 1 := by omega
  refine FinOb.mk [.slice (locAddr 0 l3) (l.length - 1) c3, .bool true] [Vec l3 65 3 c3 (TL.flat (l.eraseIdx i))] (by rw [e2, e]; rfl) (fun h k => sat_pick 0 rfl (fun _ k9 => ?_) (fun h k => sat_nil k) k) (.inr ⟨i, x, l3, c3, hx, hh, rfl, by omega, rfl⟩)
  have kk := vec_to (l := l3) rfl k9
  simp only [Int.toNat_natCast, Nat.zero_add, Nat.zero_mul, List.take_zero, List.nil_append, List.drop_zero] at kk
  rw [List.take_of_length_le (l := TL.flat (l.take i)) (by rw [hP]; exact Nat.le_refl _), ← TL.flat_append, ← List.eraseIdx_eq_take_drop_succ] at kk
  exact kk
end Go.Proofs.Ytiknkeakielncaa.Ag
