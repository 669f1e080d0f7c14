/- The reference of chain: what it makes. Conditions: none. -/
import Derived.Test.YtlgdagjbphafcaaChP
namespace Go.Proofs.Ytlgdagjbphafcaa.Ch
open Go Go.Proofs Sx
set_option maxRecDepth 100000
set_option linter.unusedVariables false

theorem lO (l : List RO) : (O.flat l).length = l.length * 5 := by rw [O.flat_length]; rfl
theorem lI (l : List Int) : (I.flat l).length = l.length := by rw [(I).flat_length]; simp [ints]
theorem NewSl.sure {tot : Nat} {X : Plc → Nat → Prop} (h : ∀ p c, (0 < tot → ∃ b o, p = .at b o) → tot ≤ c → X p c) : NewSl tot X := by
  by_cases h0 : 0 < tot
  · exact .pos h0 (fun b o c hc => h _ c (fun _ => ⟨b, o, rfl⟩) hc)
  · exact .any (fun p c hc => h p c (fun h1 => absurd h1 h0) hc)
theorem rwithout_spec (l : List RO) (A : Option Addr) (cp : Nat) (i : Nat) (hl : l.length ≤ 1000000) (hc : l.length ≤ cp) (hi : i < l.length) :
    Does Try.prog 100 #[.slice A l.length cp, .int .i64 i] (fun f => Reads f A (O.flat l)) [] (fun v q => ∃ p c, v = .slice (locAddr 0 p) (l.eraseIdx i).length c ∧ (l.eraseIdx i).length ≤ c ∧ (0 < (l.eraseIdx i).length → ∃ b o, p = .at b o) ∧ q = [Vec p 179 5 c (O.flat (l.eraseIdx i))]) := by
  refine Does.of Try.func100 Try.call100 rfl [.raw (.slice A l.length cp), .int .i64 i] [] 0 [] rfl rfl (fun h k => k) (fun f hR => ?_)
  refine DrawOb.mk [(0, [1, 2, 3, 5, 6, 7, 8]), (4, [5, 6, 7, 8])] (.run [1, 2, 3, 5, 6, 7, 8, 0, 4, 9, 10] .nil) (by kernel_rfl) ?_
  have ei : IntKind.i64.wrap ((i : Int) + 1) = ((i + 1 : Nat) : Int) := by rw [w64 (by omega) (by omega)]; omega
  refine Need.mk ⟨Int.natCast_nonneg _, by omega⟩ ?_
  refine Need.mk ⟨by rw [ei]; omega, by rw [ei]; omega⟩ ?_
  intro b1
  refine SrcF.mk (O.flat (l.take i)) (by rw [lO]; simp; omega) (by rw [← O.flat_take l i]; exact hR.take _) ?_
  refine StOb.mk [] rfl (Need.mk (by simp) (Need.mk ⟨by omega, by simp only [maxLen]; omega, O.flat_one' _⟩ ?_))
  refine NewSl.any (fun l2 c2 hc2 => ?_)
  have et : (IntKind.i64.wrap ((i : Int) + 1)).toNat = i + 1 := by rw [ei]; rfl
  refine SrcF.mk (O.flat (l.drop (i + 1))) (by rw [lO, et]; simp) ?_ ?_
  · rw [et]
    intro j v hj
    rw [← O.flat_drops l (i + 1), List.getElem?_drop] at hj
    obtain ⟨b, o, rfl, h2⟩ := hR _ v hj
    by_cases e : cp = i + 1
    · exfalso
      have := (List.getElem?_eq_some_iff.1 hj).1
      rw [lO] at this
      have e2 : O.sz = 5 := rfl
      rw [e2] at this
      omega
    · rw [if_neg e]
      exact ⟨b, o + (i + 1) * 5, rfl, by rw [← h2]; congr 1; show _ = o + ((i + 1) * 5 + j); omega⟩
  have e0 : List.take (0 * 5) (List.drop 0 []) ++ O.flat (l.take i) = O.flat (l.take i) := rfl
  rw [e0]
  refine Need.mk ⟨by rw [lO]; simp; omega, by omega, hc2⟩ (Need.mk ⟨by rw [et]; omega, by rw [et]; simp only [maxLen]; omega, O.flat_one' _⟩ ?_)
  refine NewSl.sure (fun l3 c3 hl3 hc3 => ?_)
  rw [et] at hl3 hc3 ⊢
  have ee : l.eraseIdx i = l.take i ++ l.drop (i + 1) := List.eraseIdx_eq_take_drop_succ l i
  have el : (l.eraseIdx i).length = 0 + (i : Int).toNat + (l.length - (i + 1)) := by rw [List.length_eraseIdx, if_pos hi]; simp; omega
  refine FinOb.mk [.slice (locAddr 0 l3) (0 + (i : Int).toNat + (l.length - (i + 1))) c3] [Vec l3 179 5 c3 (O.flat (l.eraseIdx i))] rfl (fun h k => sat_pick 0 rfl (fun _ k => ?_) (fun h k => sat_nil k) k) ⟨l3, c3, by rw [el]; rfl, by rw [el]; exact hc3, by rw [el]; exact hl3, rfl⟩
  have k := vec_to (l := l3) rfl k
  rw [List.drop_zero, List.take_of_length_le (by rw [lO]; simp; omega), ← O.flat_append, ← ee] at k
  exact k
/-! ### Add -/
def rtied (x : RB) : Bool := x.has && match x.l.findIdx? (fun e => e.id == x.last) with
  | none => false
  | some i => match x.l[i]? with
    | none => false
    | some e => decide (e.flags > 0)
def rone (x : RB) (id fl : Int) : RO := ⟨id, fl % 4, rtied x, if rtied x then x.last else 0, false⟩
def radd (x : RB) (id fl : Int) : RB := ⟨x.l ++ [rone x id fl], if rtied x then x.ready else x.ready ++ [id], id, true⟩
theorem radd_spec (x : RB) (A : Option Addr) (c : Nat) (D : Option Addr) (d : Nat) (id fl : Int) (hl : x.l.length ≤ 1000000) (hr : x.ready.length ≤ 1000000) (h0 : 0 ≤ fl) (h1 : fl ≤ 255) :
    Does Try.prog 69 #[.agg (x.vals A c D d).toArray, .int .i64 id, .int .u8 fl] (fun f => Reads f A (O.flat x.l) ∧ Reads f D (I.flat x.ready)) []
      (fun v q => (id ∈ x.l.map RO.id ∧ v = .tuple #[.agg (x.vals A c D d).toArray, .int .i64 140] ∧ q = []) ∨
        (id ∉ x.l.map RO.id ∧ rtied x = true ∧ ∃ b o c', v = .tuple #[.agg ((radd x id fl).vals (some ⟨b, o, none⟩) c' D d).toArray, .int .i64 0] ∧ (radd x id fl).l.length ≤ c' ∧ q = [Vec (.at b o) 179 5 c' (O.flat (radd x id fl).l)]) ∨
        (id ∉ x.l.map RO.id ∧ rtied x = false ∧ ∃ b o c' b2 o2 d', v = .tuple #[.agg ((radd x id fl).vals (some ⟨b, o, none⟩) c' (some ⟨b2, o2, none⟩) d').toArray, .int .i64 0] ∧ (radd x id fl).l.length ≤ c' ∧ q = [Vec (.at b o) 179 5 c' (O.flat (radd x id fl).l), Vec (.at b2 o2) 3 1 d' (I.flat (radd x id fl).ready)])) := by
  refine Does.of Try.func69 Try.call69 rfl [.agg (x.svs A c D d), .int .i64 id, .int .u8 fl] [] 0 [] rfl rfl (fun h k => k) (fun f hR => ?_)
  obtain ⟨hL, hD⟩ := hR
  intro b1 b2
  refine useR (.int .i64 (plc (fun e => e.id == id) x.l)) (rplace_spec x.l A c id (by omega)) rfl (fun f' b' hs _ => hL.frame hs) rfl ?_
  cases hi : x.l.findIdx? (fun e => e.id == id) with
  | some i =>
    obtain ⟨h2, e, h3, h4⟩ := plc_some hi
    rw [h2]
    refine CondOb.split (fun _ => ?_) (fun h => absurd h (by simp))
    refine FinOb.mk [.agg (x.vals A c D d).toArray, .int .i64 140] [] rfl (fun h k => trivial) (.inl ⟨List.mem_map.2 ⟨e, List.mem_of_getElem? h3, by simpa using h4⟩, rfl, rfl⟩)
  | none =>
    have hno : id ∉ x.l.map RO.id := by
      intro h
      obtain ⟨e, h3, h4⟩ := List.mem_map.1 h
      rw [List.findIdx?_eq_none_iff] at hi
      have := hi e h3
      rw [h4] at this; simp at this
    rw [plc_none hi]
    refine CondOb.split (fun h => absurd h (by decide)) (fun _ => ?_)
    refine Need.mk (by decide) ?_
    intro b3
    have efl : (IntKind.i64.wrap fl).tmod 4 = fl % 4 := by rw [w64 (by omega) (by omega), Int.tmod_eq_emod_of_nonneg h0]
    have ef : List.take ((0 + x.l.length) * 5) (List.drop 0 (List.take (0 * 5) (List.drop 0 []) ++ O.flat x.l)) = O.flat x.l := by
      rw [Nat.zero_add, Nat.zero_mul, List.take_zero, List.nil_append, List.drop_zero, List.take_of_length_le (by rw [lO]; exact Nat.le_refl _)]
    refine CondOb.split (fun gh => ?_) (fun gh => ?_)
    · have gh : x.has = true := by simpa using gh
      refine useR (.int .i64 (plc (fun e => e.id == x.last) x.l)) (rplace_spec x.l A c x.last (by omega)) rfl (fun f' b' hs _ => hL.frame hs) rfl ?_
      cases hj : x.l.findIdx? (fun e => e.id == x.last) with
      | none =>
        rw [plc_none hj]
        refine Br.mk (fun h => absurd h (by decide)) (fun _ => ?_)
        have ht : rtied x = false := by simp [rtied, gh, hj]
        have er : O.flat x.l ++ O.cells ⟨id, (IntKind.i64.wrap fl).tmod 4, false, 0, false⟩ = O.flat (radd x id fl).l := by
          simp only [radd, rone, ht, if_false, Bool.false_eq_true, O.flat_append, O.flat_one, efl]
        refine DrawOb.mk [(0, [1, 2, 4]), (3, [4]), (5, [1, 2])] (.run [1, 2, 4] (.two 0 (.run [] (.two 3 (.run [5, 6, 7, 8] .nil) 5 (.run [3, 6, 7, 8] .nil))) 5 (.run [0, 3, 6, 7, 8] .nil))) (by kernel_rfl) ?_
        refine ⟨?_, ?_⟩
        · intro c1
          refine Need.mk rfl (Need.mk rfl ?_)
          refine ⟨?_, ?_⟩
          · refine SrcF.mk (O.flat x.l) (lO _) hL ?_
            refine StOb.mk [] rfl (Need.mk (by simp) (Need.mk ⟨by omega, by simp only [maxLen]; omega, O.flat_one' _⟩ ?_))
            refine NewSl.any (fun l2 c2 hc2 => ?_)
            refine Need.mk rfl ?_
            intro c3
            refine Need.mk rfl ?_
            refine StOb.mk (O.cells (⟨id, (IntKind.i64.wrap fl).tmod 4, false, 0, false⟩ : RO)) rfl (Need.mk rfl ?_)
            refine Need.mk ⟨by simp [lO], by omega, by omega⟩ ?_
            refine Need.mk ⟨by omega, by simp only [maxLen]; omega, O.one _⟩ ?_
            refine NewSl.pos (by omega) (fun b6 o6 c6 hc6 => ?_)
            intro b7
            refine SrcF.mk (I.flat x.ready) (by rw [lI]; simp) hD ?_
            refine StOb.mk [] rfl (Need.mk (by simp) (Need.mk ⟨by omega, by simp only [maxLen]; omega, (I).flat_one' _⟩ ?_))
            refine NewSl.any (fun l8 c8 hc8 => ?_)
            intro b9
            refine StOb.mk [.int .i64 id] rfl (Need.mk rfl ?_)
            refine Need.mk ⟨by simp [lI], by omega, by omega⟩ ?_
            refine Need.mk ⟨by omega, by simp only [maxLen]; omega, fun v hv => by simp at hv; subst hv; rfl⟩ ?_
            refine NewSl.pos (by omega) (fun b10 o10 c10 hc10 => ?_)
            refine FinOb.mk [.agg #[.slice (some ⟨b6, o6, none⟩) (0 + x.l.length + 1) c6, .slice (some ⟨b10, o10, none⟩) (0 + x.ready.length + 1) c10, .int .i64 id, .bool true], .int .i64 0] [Vec (.at b6 o6) 179 5 c6 (O.flat (radd x id fl).l), Vec (.at b10 o10) 3 1 c10 (I.flat (radd x id fl).ready)] rfl (fun h k => sat_pick 4 rfl (fun _ k => ?_) (fun h k => sat_pick 2 rfl (fun _ k => ?_) (fun h k => sat_nil k) k) k) (.inr (.inr ⟨hno, ht, b6, o6, c6, b10, o10, c10, by simp [radd, RB.vals, ht, ret1], by simp [radd]; omega, rfl⟩))
            · have k := vec_to (l := .at b6 o6) rfl k
              rw [ef, er] at k
              exact k
            · have k := vec_to (l := .at b10 o10) rfl k
              have e5 : List.take ((0 + x.ready.length) * 1) (List.drop 0 (List.take (0 * 1) (List.drop 0 []) ++ I.flat x.ready)) ++ [.int .i64 id] = I.flat (radd x id fl).ready := by
                rw [Nat.zero_add, Nat.zero_mul, List.take_zero, List.nil_append, List.drop_zero, List.take_of_length_le (by rw [lI]; omega)]
                simp only [radd, ht, Bool.false_eq_true, if_false, (I).flat_append]; rfl
              rw [e5] at k
              exact k
          · intro c3
            refine Need.mk rfl ?_
            refine SrcF.mk (O.flat x.l) (lO _) hL ?_
            refine StOb.mk [] rfl (Need.mk (by simp) (Need.mk ⟨by omega, by simp only [maxLen]; omega, O.flat_one' _⟩ ?_))
            refine NewSl.any (fun l2 c2 hc2 => ?_)
            refine Need.mk rfl ?_
            refine StOb.mk (O.cells (⟨id, (IntKind.i64.wrap fl).tmod 4, false, 0, false⟩ : RO)) rfl (Need.mk rfl ?_)
            refine Need.mk ⟨by simp [lO], by omega, by omega⟩ ?_
            refine Need.mk ⟨by omega, by simp only [maxLen]; omega, O.one _⟩ ?_
            refine NewSl.pos (by omega) (fun b6 o6 c6 hc6 => ?_)
            intro b7
            refine SrcF.mk (I.flat x.ready) (by rw [lI]; simp) hD ?_
            refine StOb.mk [] rfl (Need.mk (by simp) (Need.mk ⟨by omega, by simp only [maxLen]; omega, (I).flat_one' _⟩ ?_))
            refine NewSl.any (fun l8 c8 hc8 => ?_)
            intro b9
            refine StOb.mk [.int .i64 id] rfl (Need.mk rfl ?_)
            refine Need.mk ⟨by simp [lI], by omega, by omega⟩ ?_
            refine Need.mk ⟨by omega, by simp only [maxLen]; omega, fun v hv => by simp at hv; subst hv; rfl⟩ ?_
            refine NewSl.pos (by omega) (fun b10 o10 c10 hc10 => ?_)
            refine FinOb.mk [.agg #[.slice (some ⟨b6, o6, none⟩) (0 + x.l.length + 1) c6, .slice (some ⟨b10, o10, none⟩) (0 + x.ready.length + 1) c10, .int .i64 id, .bool true], .int .i64 0] [Vec (.at b6 o6) 179 5 c6 (O.flat (radd x id fl).l), Vec (.at b10 o10) 3 1 c10 (I.flat (radd x id fl).ready)] rfl (fun h k => sat_pick 4 rfl (fun _ k => ?_) (fun h k => sat_pick 2 rfl (fun _ k => ?_) (fun h k => sat_nil k) k) k) (.inr (.inr ⟨hno, ht, b6, o6, c6, b10, o10, c10, by simp [radd, RB.vals, ht, ret1], by simp [radd]; omega, rfl⟩))
            · have k := vec_to (l := .at b6 o6) rfl k
              rw [ef, er] at k
              exact k
            · have k := vec_to (l := .at b10 o10) rfl k
              have e5 : List.take ((0 + x.ready.length) * 1) (List.drop 0 (List.take (0 * 1) (List.drop 0 []) ++ I.flat x.ready)) ++ [.int .i64 id] = I.flat (radd x id fl).ready := by
                rw [Nat.zero_add, Nat.zero_mul, List.take_zero, List.nil_append, List.drop_zero, List.take_of_length_le (by rw [lI]; omega)]
                simp only [radd, ht, Bool.false_eq_true, if_false, (I).flat_append]; rfl
              rw [e5] at k
              exact k
        · intro c3
          refine Need.mk rfl ?_
          intro c1
          refine Need.mk rfl (Need.mk rfl ?_)
          refine SrcF.mk (O.flat x.l) (lO _) hL ?_
          refine StOb.mk [] rfl (Need.mk (by simp) (Need.mk ⟨by omega, by simp only [maxLen]; omega, O.flat_one' _⟩ ?_))
          refine NewSl.any (fun l2 c2 hc2 => ?_)
          refine Need.mk rfl ?_
          refine StOb.mk (O.cells (⟨id, (IntKind.i64.wrap fl).tmod 4, false, 0, false⟩ : RO)) rfl (Need.mk rfl ?_)
          refine Need.mk ⟨by simp [lO], by omega, by omega⟩ ?_
          refine Need.mk ⟨by omega, by simp only [maxLen]; omega, O.one _⟩ ?_
          refine NewSl.pos (by omega) (fun b6 o6 c6 hc6 => ?_)
          intro b7
          refine SrcF.mk (I.flat x.ready) (by rw [lI]; simp) hD ?_
          refine StOb.mk [] rfl (Need.mk (by simp) (Need.mk ⟨by omega, by simp only [maxLen]; omega, (I).flat_one' _⟩ ?_))
          refine NewSl.any (fun l8 c8 hc8 => ?_)
          intro b9
          refine StOb.mk [.int .i64 id] rfl (Need.mk rfl ?_)
          refine Need.mk ⟨by simp [lI], by omega, by omega⟩ ?_
          refine Need.mk ⟨by omega, by simp only [maxLen]; omega, fun v hv => by simp at hv; subst hv; rfl⟩ ?_
          refine NewSl.pos (by omega) (fun b10 o10 c10 hc10 => ?_)
          refine FinOb.mk [.agg #[.slice (some ⟨b6, o6, none⟩) (0 + x.l.length + 1) c6, .slice (some ⟨b10, o10, none⟩) (0 + x.ready.length + 1) c10, .int .i64 id, .bool true], .int .i64 0] [Vec (.at b6 o6) 179 5 c6 (O.flat (radd x id fl).l), Vec (.at b10 o10) 3 1 c10 (I.flat (radd x id fl).ready)] rfl (fun h k => sat_pick 4 rfl (fun _ k => ?_) (fun h k => sat_pick 2 rfl (fun _ k => ?_) (fun h k => sat_nil k) k) k) (.inr (.inr ⟨hno, ht, b6, o6, c6, b10, o10, c10, by simp [radd, RB.vals, ht, ret1], by simp [radd]; omega, rfl⟩))
          · have k := vec_to (l := .at b6 o6) rfl k
            rw [ef, er] at k
            exact k
          · have k := vec_to (l := .at b10 o10) rfl k
            have e5 : List.take ((0 + x.ready.length) * 1) (List.drop 0 (List.take (0 * 1) (List.drop 0 []) ++ I.flat x.ready)) ++ [.int .i64 id] = I.flat (radd x id fl).ready := by
              rw [Nat.zero_add, Nat.zero_mul, List.take_zero, List.nil_append, List.drop_zero, List.take_of_length_le (by rw [lI]; omega)]
              simp only [radd, ht, Bool.false_eq_true, if_false, (I).flat_append]; rfl
            rw [e5] at k
            exact k
      | some j =>
        obtain ⟨h2, e, h3, h4⟩ := plc_some hj
        have hlt := (List.getElem?_eq_some_iff.1 h3).1
        rw [h2]
        refine Br.mk (fun _ => ?_) (fun h => absurd h (by simp))
        obtain ⟨ba, o, rfl, hf⟩ := hL.lay (by decide) h3
        refine Need.mk ⟨Int.natCast_nonneg j, by simpa using hlt⟩ (RawAt.mk ba o rfl ?_)
        refine RdRaw.mk (.int .i64 e.flags) _ rfl (hf 1 _ rfl) ?_
        refine CondOb.split (fun g => ?_) (fun g => ?_)
        · have ht : rtied x = true := by simp [rtied, gh, hj, h3]; simpa using g
          refine DrawOb.mk [(3, [0, 1])] (.run [0, 1, 2, 3, 4, 5] .nil) (by kernel_rfl) ?_
          refine Need.mk rfl ?_
          have er : O.flat x.l ++ O.cells ⟨id, (IntKind.i64.wrap fl).tmod 4, true, x.last, false⟩ = O.flat (radd x id fl).l := by
            simp only [radd, rone, ht, if_true, O.flat_append, O.flat_one, efl]
          refine DrawOb.mk [(0, [1, 2, 4]), (3, [4]), (5, [1, 2])] (.run [1, 2, 4] (.two 0 (.run [] (.two 3 (.run [5, 6, 7, 8] .nil) 5 (.run [3, 6, 7, 8] .nil))) 5 (.run [0, 3, 6, 7, 8] .nil))) (by kernel_rfl) ?_
          refine ⟨?_, ?_⟩
          · intro c1
            refine Need.mk rfl (Need.mk rfl ?_)
            refine ⟨?_, ?_⟩
            · refine SrcF.mk (O.flat x.l) (lO _) hL ?_
              refine StOb.mk [] rfl (Need.mk (by simp) (Need.mk ⟨by omega, by simp only [maxLen]; omega, O.flat_one' _⟩ ?_))
              refine NewSl.any (fun l2 c2 hc2 => ?_)
              refine Need.mk rfl ?_
              intro c3
              refine Need.mk rfl ?_
              refine StOb.mk (O.cells (⟨id, (IntKind.i64.wrap fl).tmod 4, true, x.last, false⟩ : RO)) rfl (Need.mk rfl ?_)
              refine Need.mk ⟨by simp [lO], by omega, by omega⟩ ?_
              refine Need.mk ⟨by omega, by simp only [maxLen]; omega, O.one _⟩ ?_
              refine NewSl.pos (by omega) (fun b6 o6 c6 hc6 => ?_)
              refine FinOb.mk [.agg #[.slice (some ⟨b6, o6, none⟩) (0 + x.l.length + 1) c6, .slice D x.ready.length d, .int .i64 id, .bool true], .int .i64 0] [Vec (.at b6 o6) 179 5 c6 (O.flat (radd x id fl).l)] rfl (fun h k => sat_pick 2 rfl (fun _ k => ?_) (fun h k => sat_nil k) k) (.inr (.inl ⟨hno, ht, b6, o6, c6, by simp [radd, RB.vals, ht, ret1], by simp [radd]; omega, rfl⟩))
              have k := vec_to (l := .at b6 o6) rfl k
              rw [ef, er] at k
              exact k
            · intro c3
              refine Need.mk rfl ?_
              refine SrcF.mk (O.flat x.l) (lO _) hL ?_
              refine StOb.mk [] rfl (Need.mk (by simp) (Need.mk ⟨by omega, by simp only [maxLen]; omega, O.flat_one' _⟩ ?_))
              refine NewSl.any (fun l2 c2 hc2 => ?_)
              refine Need.mk rfl ?_
              refine StOb.mk (O.cells (⟨id, (IntKind.i64.wrap fl).tmod 4, true, x.last, false⟩ : RO)) rfl (Need.mk rfl ?_)
              refine Need.mk ⟨by simp [lO], by omega, by omega⟩ ?_
              refine Need.mk ⟨by omega, by simp only [maxLen]; omega, O.one _⟩ ?_
              refine NewSl.pos (by omega) (fun b6 o6 c6 hc6 => ?_)
              refine FinOb.mk [.agg #[.slice (some ⟨b6, o6, none⟩) (0 + x.l.length + 1) c6, .slice D x.ready.length d, .int .i64 id, .bool true], .int .i64 0] [Vec (.at b6 o6) 179 5 c6 (O.flat (radd x id fl).l)] rfl (fun h k => sat_pick 2 rfl (fun _ k => ?_) (fun h k => sat_nil k) k) (.inr (.inl ⟨hno, ht, b6, o6, c6, by simp [radd, RB.vals, ht, ret1], by simp [radd]; omega, rfl⟩))
              have k := vec_to (l := .at b6 o6) rfl k
              rw [ef, er] at k
              exact k
          · intro c3
            refine Need.mk rfl ?_
            intro c1
            refine Need.mk rfl (Need.mk rfl ?_)
            refine SrcF.mk (O.flat x.l) (lO _) hL ?_
            refine StOb.mk [] rfl (Need.mk (by simp) (Need.mk ⟨by omega, by simp only [maxLen]; omega, O.flat_one' _⟩ ?_))
            refine NewSl.any (fun l2 c2 hc2 => ?_)
            refine Need.mk rfl ?_
            refine StOb.mk (O.cells (⟨id, (IntKind.i64.wrap fl).tmod 4, true, x.last, false⟩ : RO)) rfl (Need.mk rfl ?_)
            refine Need.mk ⟨by simp [lO], by omega, by omega⟩ ?_
            refine Need.mk ⟨by omega, by simp only [maxLen]; omega, O.one _⟩ ?_
            refine NewSl.pos (by omega) (fun b6 o6 c6 hc6 => ?_)
            refine FinOb.mk [.agg #[.slice (some ⟨b6, o6, none⟩) (0 + x.l.length + 1) c6, .slice D x.ready.length d, .int .i64 id, .bool true], .int .i64 0] [Vec (.at b6 o6) 179 5 c6 (O.flat (radd x id fl).l)] rfl (fun h k => sat_pick 2 rfl (fun _ k => ?_) (fun h k => sat_nil k) k) (.inr (.inl ⟨hno, ht, b6, o6, c6, by simp [radd, RB.vals, ht, ret1], by simp [radd]; omega, rfl⟩))
            have k := vec_to (l := .at b6 o6) rfl k
            rw [ef, er] at k
            exact k
        · have ht : rtied x = false := by simp [rtied, gh, hj, h3]; simpa using g
          have er : O.flat x.l ++ O.cells ⟨id, (IntKind.i64.wrap fl).tmod 4, false, 0, false⟩ = O.flat (radd x id fl).l := by
            simp only [radd, rone, ht, if_false, Bool.false_eq_true, O.flat_append, O.flat_one, efl]
          refine DrawOb.mk [(0, [1, 2, 4]), (3, [4]), (5, [1, 2])] (.run [1, 2, 4] (.two 0 (.run [] (.two 3 (.run [5, 6, 7, 8] .nil) 5 (.run [3, 6, 7, 8] .nil))) 5 (.run [0, 3, 6, 7, 8] .nil))) (by kernel_rfl) ?_
          refine ⟨?_, ?_⟩
          · intro c1
            refine Need.mk rfl (Need.mk rfl ?_)
            refine ⟨?_, ?_⟩
            · refine SrcF.mk (O.flat x.l) (lO _) hL ?_
              refine StOb.mk [] rfl (Need.mk (by simp) (Need.mk ⟨by omega, by simp only [maxLen]; omega, O.flat_one' _⟩ ?_))
              refine NewSl.any (fun l2 c2 hc2 => ?_)
              refine Need.mk rfl ?_
              intro c3
              refine Need.mk rfl ?_
              refine StOb.mk (O.cells (⟨id, (IntKind.i64.wrap fl).tmod 4, false, 0, false⟩ : RO)) rfl (Need.mk rfl ?_)
              refine Need.mk ⟨by simp [lO], by omega, by omega⟩ ?_
              refine Need.mk ⟨by omega, by simp only [maxLen]; omega, O.one _⟩ ?_
              refine NewSl.pos (by omega) (fun b6 o6 c6 hc6 => ?_)
              intro b7
              refine SrcF.mk (I.flat x.ready) (by rw [lI]; simp) hD ?_
              refine StOb.mk [] rfl (Need.mk (by simp) (Need.mk ⟨by omega, by simp only [maxLen]; omega, (I).flat_one' _⟩ ?_))
              refine NewSl.any (fun l8 c8 hc8 => ?_)
              intro b9
              refine StOb.mk [.int .i64 id] rfl (Need.mk rfl ?_)
              refine Need.mk ⟨by simp [lI], by omega, by omega⟩ ?_
              refine Need.mk ⟨by omega, by simp only [maxLen]; omega, fun v hv => by simp at hv; subst hv; rfl⟩ ?_
              refine NewSl.pos (by omega) (fun b10 o10 c10 hc10 => ?_)
              refine FinOb.mk [.agg #[.slice (some ⟨b6, o6, none⟩) (0 + x.l.length + 1) c6, .slice (some ⟨b10, o10, none⟩) (0 + x.ready.length + 1) c10, .int .i64 id, .bool true], .int .i64 0] [Vec (.at b6 o6) 179 5 c6 (O.flat (radd x id fl).l), Vec (.at b10 o10) 3 1 c10 (I.flat (radd x id fl).ready)] rfl (fun h k => sat_pick 4 rfl (fun _ k => ?_) (fun h k => sat_pick 2 rfl (fun _ k => ?_) (fun h k => sat_nil k) k) k) (.inr (.inr ⟨hno, ht, b6, o6, c6, b10, o10, c10, by simp [radd, RB.vals, ht, ret1], by simp [radd]; omega, rfl⟩))
              · have k := vec_to (l := .at b6 o6) rfl k
                rw [ef, er] at k
                exact k
              · have k := vec_to (l := .at b10 o10) rfl k
                have e5 : List.take ((0 + x.ready.length) * 1) (List.drop 0 (List.take (0 * 1) (List.drop 0 []) ++ I.flat x.ready)) ++ [.int .i64 id] = I.flat (radd x id fl).ready := by
                  rw [Nat.zero_add, Nat.zero_mul, List.take_zero, List.nil_append, List.drop_zero, List.take_of_length_le (by rw [lI]; omega)]
                  simp only [radd, ht, Bool.false_eq_true, if_false, (I).flat_append]; rfl
                rw [e5] at k
                exact k
            · intro c3
              refine Need.mk rfl ?_
              refine SrcF.mk (O.flat x.l) (lO _) hL ?_
              refine StOb.mk [] rfl (Need.mk (by simp) (Need.mk ⟨by omega, by simp only [maxLen]; omega, O.flat_one' _⟩ ?_))
              refine NewSl.any (fun l2 c2 hc2 => ?_)
              refine Need.mk rfl ?_
              refine StOb.mk (O.cells (⟨id, (IntKind.i64.wrap fl).tmod 4, false, 0, false⟩ : RO)) rfl (Need.mk rfl ?_)
              refine Need.mk ⟨by simp [lO], by omega, by omega⟩ ?_
              refine Need.mk ⟨by omega, by simp only [maxLen]; omega, O.one _⟩ ?_
              refine NewSl.pos (by omega) (fun b6 o6 c6 hc6 => ?_)
              intro b7
              refine SrcF.mk (I.flat x.ready) (by rw [lI]; simp) hD ?_
              refine StOb.mk [] rfl (Need.mk (by simp) (Need.mk ⟨by omega, by simp only [maxLen]; omega, (I).flat_one' _⟩ ?_))
              refine NewSl.any (fun l8 c8 hc8 => ?_)
              intro b9
              refine StOb.mk [.int .i64 id] rfl (Need.mk rfl ?_)
              refine Need.mk ⟨by simp [lI], by omega, by omega⟩ ?_
              refine Need.mk ⟨by omega, by simp only [maxLen]; omega, fun v hv => by simp at hv; subst hv; rfl⟩ ?_
              refine NewSl.pos (by omega) (fun b10 o10 c10 hc10 => ?_)
              refine FinOb.mk [.agg #[.slice (some ⟨b6, o6, none⟩) (0 + x.l.length + 1) c6, .slice (some ⟨b10, o10, none⟩) (0 + x.ready.length + 1) c10, .int .i64 id, .bool true], .int .i64 0] [Vec (.at b6 o6) 179 5 c6 (O.flat (radd x id fl).l), Vec (.at b10 o10) 3 1 c10 (I.flat (radd x id fl).ready)] rfl (fun h k => sat_pick 4 rfl (fun _ k => ?_) (fun h k => sat_pick 2 rfl (fun _ k => ?_) (fun h k => sat_nil k) k) k) (.inr (.inr ⟨hno, ht, b6, o6, c6, b10, o10, c10, by simp [radd, RB.vals, ht, ret1], by simp [radd]; omega, rfl⟩))
              · have k := vec_to (l := .at b6 o6) rfl k
                rw [ef, er] at k
                exact k
              · have k := vec_to (l := .at b10 o10) rfl k
                have e5 : List.take ((0 + x.ready.length) * 1) (List.drop 0 (List.take (0 * 1) (List.drop 0 []) ++ I.flat x.ready)) ++ [.int .i64 id] = I.flat (radd x id fl).ready := by
                  rw [Nat.zero_add, Nat.zero_mul, List.take_zero, List.nil_append, List.drop_zero, List.take_of_length_le (by rw [lI]; omega)]
                  simp only [radd, ht, Bool.false_eq_true, if_false, (I).flat_append]; rfl
                rw [e5] at k
                exact k
          · intro c3
            refine Need.mk rfl ?_
            intro c1
            refine Need.mk rfl (Need.mk rfl ?_)
            refine SrcF.mk (O.flat x.l) (lO _) hL ?_
            refine StOb.mk [] rfl (Need.mk (by simp) (Need.mk ⟨by omega, by simp only [maxLen]; omega, O.flat_one' _⟩ ?_))
            refine NewSl.any (fun l2 c2 hc2 => ?_)
            refine Need.mk rfl ?_
            refine StOb.mk (O.cells (⟨id, (IntKind.i64.wrap fl).tmod 4, false, 0, false⟩ : RO)) rfl (Need.mk rfl ?_)
            refine Need.mk ⟨by simp [lO], by omega, by omega⟩ ?_
            refine Need.mk ⟨by omega, by simp only [maxLen]; omega, O.one _⟩ ?_
            refine NewSl.pos (by omega) (fun b6 o6 c6 hc6 => ?_)
            intro b7
            refine SrcF.mk (I.flat x.ready) (by rw [lI]; simp) hD ?_
            refine StOb.mk [] rfl (Need.mk (by simp) (Need.mk ⟨by omega, by simp only [maxLen]; omega, (I).flat_one' _⟩ ?_))
            refine NewSl.any (fun l8 c8 hc8 => ?_)
            intro b9
            refine StOb.mk [.int .i64 id] rfl (Need.mk rfl ?_)
            refine Need.mk ⟨by simp [lI], by omega, by omega⟩ ?_
            refine Need.mk ⟨by omega, by simp only [maxLen]; omega, fun v hv => by simp at hv; subst hv; rfl⟩ ?_
            refine NewSl.pos (by omega) (fun b10 o10 c10 hc10 => ?_)
            refine FinOb.mk [.agg #[.slice (some ⟨b6, o6, none⟩) (0 + x.l.length + 1) c6, .slice (some ⟨b10, o10, none⟩) (0 + x.ready.length + 1) c10, .int .i64 id, .bool true], .int .i64 0] [Vec (.at b6 o6) 179 5 c6 (O.flat (radd x id fl).l), Vec (.at b10 o10) 3 1 c10 (I.flat (radd x id fl).ready)] rfl (fun h k => sat_pick 4 rfl (fun _ k => ?_) (fun h k => sat_pick 2 rfl (fun _ k => ?_) (fun h k => sat_nil k) k) k) (.inr (.inr ⟨hno, ht, b6, o6, c6, b10, o10, c10, by simp [radd, RB.vals, ht, ret1], by simp [radd]; omega, rfl⟩))
            · have k := vec_to (l := .at b6 o6) rfl k
              rw [ef, er] at k
              exact k
            · have k := vec_to (l := .at b10 o10) rfl k
              have e5 : List.take ((0 + x.ready.length) * 1) (List.drop 0 (List.take (0 * 1) (List.drop 0 []) ++ I.flat x.ready)) ++ [.int .i64 id] = I.flat (radd x id fl).ready := by
                rw [Nat.zero_add, Nat.zero_mul, List.take_zero, List.nil_append, List.drop_zero, List.take_of_length_le (by rw [lI]; omega)]
                simp only [radd, ht, Bool.false_eq_true, if_false, (I).flat_append]; rfl
              rw [e5] at k
              exact k
    · have gh : x.has = false := by simpa using gh
      have ht : rtied x = false := by simp [rtied, gh]
      have er : O.flat x.l ++ O.cells ⟨id, (IntKind.i64.wrap fl).tmod 4, false, 0, false⟩ = O.flat (radd x id fl).l := by
        simp only [radd, rone, ht, if_false, Bool.false_eq_true, O.flat_append, O.flat_one, efl]
      refine DrawOb.mk [(0, [1, 2, 4]), (3, [4]), (5, [1, 2])] (.run [1, 2, 4] (.two 0 (.run [] (.two 3 (.run [5, 6, 7, 8] .nil) 5 (.run [3, 6, 7, 8] .nil))) 5 (.run [0, 3, 6, 7, 8] .nil))) (by kernel_rfl) ?_
      refine ⟨?_, ?_⟩
      · intro c1
        refine Need.mk rfl (Need.mk rfl ?_)
        refine ⟨?_, ?_⟩
        · refine SrcF.mk (O.flat x.l) (lO _) hL ?_
          refine StOb.mk [] rfl (Need.mk (by simp) (Need.mk ⟨by omega, by simp only [maxLen]; omega, O.flat_one' _⟩ ?_))
          refine NewSl.any (fun l2 c2 hc2 => ?_)
          refine Need.mk rfl ?_
          intro c3
          refine Need.mk rfl ?_
          refine StOb.mk (O.cells (⟨id, (IntKind.i64.wrap fl).tmod 4, false, 0, false⟩ : RO)) rfl (Need.mk rfl ?_)
          refine Need.mk ⟨by simp [lO], by omega, by omega⟩ ?_
          refine Need.mk ⟨by omega, by simp only [maxLen]; omega, O.one _⟩ ?_
          refine NewSl.pos (by omega) (fun b6 o6 c6 hc6 => ?_)
          intro b7
          refine SrcF.mk (I.flat x.ready) (by rw [lI]; simp) hD ?_
          refine StOb.mk [] rfl (Need.mk (by simp) (Need.mk ⟨by omega, by simp only [maxLen]; omega, (I).flat_one' _⟩ ?_))
          refine NewSl.any (fun l8 c8 hc8 => ?_)
          intro b9
          refine StOb.mk [.int .i64 id] rfl (Need.mk rfl ?_)
          refine Need.mk ⟨by simp [lI], by omega, by omega⟩ ?_
          refine Need.mk ⟨by omega, by simp only [maxLen]; omega, fun v hv => by simp at hv; subst hv; rfl⟩ ?_
          refine NewSl.pos (by omega) (fun b10 o10 c10 hc10 => ?_)
          refine FinOb.mk [.agg #[.slice (some ⟨b6, o6, none⟩) (0 + x.l.length + 1) c6, .slice (some ⟨b10, o10, none⟩) (0 + x.ready.length + 1) c10, .int .i64 id, .bool true], .int .i64 0] [Vec (.at b6 o6) 179 5 c6 (O.flat (radd x id fl).l), Vec (.at b10 o10) 3 1 c10 (I.flat (radd x id fl).ready)] rfl (fun h k => sat_pick 4 rfl (fun _ k => ?_) (fun h k => sat_pick 2 rfl (fun _ k => ?_) (fun h k => sat_nil k) k) k) (.inr (.inr ⟨hno, ht, b6, o6, c6, b10, o10, c10, by simp [radd, RB.vals, ht, ret1], by simp [radd]; omega, rfl⟩))
          · have k := vec_to (l := .at b6 o6) rfl k
            rw [ef, er] at k
            exact k
          · have k := vec_to (l := .at b10 o10) rfl k
            have e5 : List.take ((0 + x.ready.length) * 1) (List.drop 0 (List.take (0 * 1) (List.drop 0 []) ++ I.flat x.ready)) ++ [.int .i64 id] = I.flat (radd x id fl).ready := by
              rw [Nat.zero_add, Nat.zero_mul, List.take_zero, List.nil_append, List.drop_zero, List.take_of_length_le (by rw [lI]; omega)]
              simp only [radd, ht, Bool.false_eq_true, if_false, (I).flat_append]; rfl
            rw [e5] at k
            exact k
        · intro c3
          refine Need.mk rfl ?_
          refine SrcF.mk (O.flat x.l) (lO _) hL ?_
          refine StOb.mk [] rfl (Need.mk (by simp) (Need.mk ⟨by omega, by simp only [maxLen]; omega, O.flat_one' _⟩ ?_))
          refine NewSl.any (fun l2 c2 hc2 => ?_)
          refine Need.mk rfl ?_
          refine StOb.mk (O.cells (⟨id, (IntKind.i64.wrap fl).tmod 4, false, 0, false⟩ : RO)) rfl (Need.mk rfl ?_)
          refine Need.mk ⟨by simp [lO], by omega, by omega⟩ ?_
          refine Need.mk ⟨by omega, by simp only [maxLen]; omega, O.one _⟩ ?_
          refine NewSl.pos (by omega) (fun b6 o6 c6 hc6 => ?_)
          intro b7
          refine SrcF.mk (I.flat x.ready) (by rw [lI]; simp) hD ?_
          refine StOb.mk [] rfl (Need.mk (by simp) (Need.mk ⟨by omega, by simp only [maxLen]; omega, (I).flat_one' _⟩ ?_))
          refine NewSl.any (fun l8 c8 hc8 => ?_)
          intro b9
          refine StOb.mk [.int .i64 id] rfl (Need.mk rfl ?_)
          refine Need.mk ⟨by simp [lI], by omega, by omega⟩ ?_
          refine Need.mk ⟨by omega, by simp only [maxLen]; omega, fun v hv => by simp at hv; subst hv; rfl⟩ ?_
          refine NewSl.pos (by omega) (fun b10 o10 c10 hc10 => ?_)
          refine FinOb.mk [.agg #[.slice (some ⟨b6, o6, none⟩) (0 + x.l.length + 1) c6, .slice (some ⟨b10, o10, none⟩) (0 + x.ready.length + 1) c10, .int .i64 id, .bool true], .int .i64 0] [Vec (.at b6 o6) 179 5 c6 (O.flat (radd x id fl).l), Vec (.at b10 o10) 3 1 c10 (I.flat (radd x id fl).ready)] rfl (fun h k => sat_pick 4 rfl (fun _ k => ?_) (fun h k => sat_pick 2 rfl (fun _ k => ?_) (fun h k => sat_nil k) k) k) (.inr (.inr ⟨hno, ht, b6, o6, c6, b10, o10, c10, by simp [radd, RB.vals, ht, ret1], by simp [radd]; omega, rfl⟩))
          · have k := vec_to (l := .at b6 o6) rfl k
            rw [ef, er] at k
            exact k
          · have k := vec_to (l := .at b10 o10) rfl k
            have e5 : List.take ((0 + x.ready.length) * 1) (List.drop 0 (List.take (0 * 1) (List.drop 0 []) ++ I.flat x.ready)) ++ [.int .i64 id] = I.flat (radd x id fl).ready := by
              rw [Nat.zero_add, Nat.zero_mul, List.take_zero, List.nil_append, List.drop_zero, List.take_of_length_le (by rw [lI]; omega)]
              simp only [radd, ht, Bool.false_eq_true, if_false, (I).flat_append]; rfl
            rw [e5] at k
            exact k
      · intro c3
        refine Need.mk rfl ?_
        intro c1
        refine Need.mk rfl (Need.mk rfl ?_)
        refine SrcF.mk (O.flat x.l) (lO _) hL ?_
        refine StOb.mk [] rfl (Need.mk (by simp) (Need.mk ⟨by omega, by simp only [maxLen]; omega, O.flat_one' _⟩ ?_))
        refine NewSl.any (fun l2 c2 hc2 => ?_)
        refine Need.mk rfl ?_
        refine StOb.mk (O.cells (⟨id, (IntKind.i64.wrap fl).tmod 4, false, 0, false⟩ : RO)) rfl (Need.mk rfl ?_)
        refine Need.mk ⟨by simp [lO], by omega, by omega⟩ ?_
        refine Need.mk ⟨by omega, by simp only [maxLen]; omega, O.one _⟩ ?_
        refine NewSl.pos (by omega) (fun b6 o6 c6 hc6 => ?_)
        intro b7
        refine SrcF.mk (I.flat x.ready) (by rw [lI]; simp) hD ?_
        refine StOb.mk [] rfl (Need.mk (by simp) (Need.mk ⟨by omega, by simp only [maxLen]; omega, (I).flat_one' _⟩ ?_))
        refine NewSl.any (fun l8 c8 hc8 => ?_)
        intro b9
        refine StOb.mk [.int .i64 id] rfl (Need.mk rfl ?_)
        refine Need.mk ⟨by simp [lI], by omega, by omega⟩ ?_
        refine Need.mk ⟨by omega, by simp only [maxLen]; omega, fun v hv => by simp at hv; subst hv; rfl⟩ ?_
        refine NewSl.pos (by omega) (fun b10 o10 c10 hc10 => ?_)
        refine FinOb.mk [.agg #[.slice (some ⟨b6, o6, none⟩) (0 + x.l.length + 1) c6, .slice (some ⟨b10, o10, none⟩) (0 + x.ready.length + 1) c10, .int .i64 id, .bool true], .int .i64 0] [Vec (.at b6 o6) 179 5 c6 (O.flat (radd x id fl).l), Vec (.at b10 o10) 3 1 c10 (I.flat (radd x id fl).ready)] rfl (fun h k => sat_pick 4 rfl (fun _ k => ?_) (fun h k => sat_pick 2 rfl (fun _ k => ?_) (fun h k => sat_nil k) k) k) (.inr (.inr ⟨hno, ht, b6, o6, c6, b10, o10, c10, by simp [radd, RB.vals, ht, ret1], by simp [radd]; omega, rfl⟩))
        · have k := vec_to (l := .at b6 o6) rfl k
          rw [ef, er] at k
          exact k
        · have k := vec_to (l := .at b10 o10) rfl k
          have e5 : List.take ((0 + x.ready.length) * 1) (List.drop 0 (List.take (0 * 1) (List.drop 0 []) ++ I.flat x.ready)) ++ [.int .i64 id] = I.flat (radd x id fl).ready := by
            rw [Nat.zero_add, Nat.zero_mul, List.take_zero, List.nil_append, List.drop_zero, List.take_of_length_le (by rw [lI]; omega)]
            simp only [radd, ht, Bool.false_eq_true, if_false, (I).flat_append]; rfl
          rw [e5] at k
          exact k
end Go.Proofs.Ytlgdagjbphafcaa.Ch
