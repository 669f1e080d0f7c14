/- reasm: cutting a packet, by the document: Check, Len, Carried. Conditions: none. -/
import Derived.Test.YtiknkeakielncaaRsM
namespace Go.Proofs.Ytiknkeakielncaa.Rs
open Go Go.Proofs Sx
set_option maxRecDepth 100000
set_option linter.unusedVariables false
set_option linter.unusedSimpArgs false
set_option maxHeartbeats 4000000

theorem rlen_spec (i : Ip) (hf : i.Fits) : Does Try.prog 73 #[.agg i.vals.toArray] (fun _ => True) [] (fun v q => v = .int .i64 (20 + i.p.opts.length + i.p.data.length) ∧ q = []) := by
  refine Does.ofJ Try.func73 Try.call73 rfl [.agg i.svs] [] 0 [] rfl rfl (fun h k => k) (fun f hR => ?_)
  intro b
  have h1 := hf.lo
  have h2 := hf.ld
  exact FinOb.mk [.int .i64 _] [] rfl (fun h k => trivial) ⟨by simp only [ret1]; rw [w64 (x := 20 + i.p.opts.length) (by omega) (by omega), w64 (by omega) (by omega)], rfl⟩
def checkH (p : Pl) : Int := if p.h.off < 0 ∨ p.h.off > 8191 ∨ p.opts.length > 40 ∨ p.opts.length % 4 ≠ 0 then 1 else if 20 + p.opts.length + p.data.length > 65535 then 9 else 0
theorem rcheck_spec (i : Ip) (hf : i.Fits) : Does Try.prog 72 #[.agg i.vals.toArray] (fun _ => True) [] (fun v q => v = .int .i64 (checkH i.p) ∧ q = []) := by
  refine Does.ofJ Try.func72 Try.call72 rfl [.agg i.svs] [] 0 [] rfl rfl (fun h k => k) (fun f hR => ?_)
  intro b
  have h1 := hf.lo
  have h2 := hf.ld
  refine RegOb.join Unit (fun _ => ⟨27, [(23, .bool (decide (i.p.h.off < 0 ∨ i.p.h.off > 8191 ∨ i.p.opts.length > 40 ∨ i.p.opts.length % 4 ≠ 0))), (1, .ptr 0 0), (2, .int .i64 0)], [(0, .at b 0)], 1, [.blk 0 40 i.svs]⟩) ?_ (fun _ => ?_)
  · refine Br.mk (fun h1 => ?_) (fun h1 => ?_)
    · exact ⟨(), Le.of rfl ⟨⟨_, rfl, (bool_eq (by simp at h1 ⊢; simp [h1]))⟩, ⟨_, rfl, rfl⟩, ⟨_, rfl, rfl⟩, trivial⟩ (fun h k => k)⟩
    refine Br.mk (fun h2 => ?_) (fun h2 => ?_)
    · exact ⟨(), Le.of rfl ⟨⟨_, rfl, (bool_eq (by simp at h2 ⊢; simp [h2]))⟩, ⟨_, rfl, rfl⟩, ⟨_, rfl, rfl⟩, trivial⟩ (fun h k => k)⟩
    refine Br.mk (fun h3 => ?_) (fun h3 => ?_)
    · exact ⟨(), Le.of rfl ⟨⟨_, rfl, (bool_eq (by have h3 := of_decide_eq_true h3; have h3 : (i.p.opts.length : Int) > 40 := h3; simp; omega))⟩, ⟨_, rfl, rfl⟩, ⟨_, rfl, rfl⟩, trivial⟩ (fun h k => k)⟩
    refine Need.mk (by decide) ?_
    exact ⟨(), Le.of rfl ⟨⟨_, rfl, (bool_eq (by
      have h1 := of_decide_eq_false h1; have h2 := of_decide_eq_false h2; have h3 := of_decide_eq_false h3
      have h3 : ¬ (i.p.opts.length : Int) > 40 := h3
      have h1 : ¬ i.p.h.off < 0 := h1
      have h2 : ¬ i.p.h.off > 8191 := h2
      rw [show ((i.p.opts.length : Int).tmod 4) = ((i.p.opts.length % 4 : Nat) : Int) from rfl]
      simp
      omega))⟩, ⟨_, rfl, rfl⟩, ⟨_, rfl, rfl⟩, trivial⟩ (fun h k => k)⟩
  refine CondOb.split (fun g => ?_) (fun g => ?_)
  · have g := of_decide_eq_true g
    exact FinOb.mk [.int .i64 1] [] rfl (fun h k => trivial) ⟨by simp only [ret1, checkH]; rw [if_pos g], rfl⟩
  have g := of_decide_eq_false g
  refine useP (.int .i64 (20 + i.p.opts.length + i.p.data.length)) (rlen_spec i hf) rfl rfl ?_
  refine CondOb.split (fun g2 => ?_) (fun g2 => ?_)
  · have g2 : (20 + i.p.opts.length + i.p.data.length : Int) > 65535 := of_decide_eq_true g2
    exact FinOb.mk [.int .i64 9] [] rfl (fun h k => trivial) ⟨by simp only [ret1, checkH]; rw [if_neg g, if_pos (by omega)], rfl⟩
  · have g2 : ¬ (20 + i.p.opts.length + i.p.data.length : Int) > 65535 := of_decide_eq_false g2
    exact FinOb.mk [.int .i64 0] [] rfl (fun h k => trivial) ⟨by simp only [ret1, checkH]; rw [if_neg g, if_neg (by omega)], rfl⟩
theorem reads_at {f : HP} {A : Option Addr} {l : List UInt8} (h : Reads f A (U.flat l)) {i : Nat} {x : UInt8} (hx : l[i]? = some x) : ∃ b o, A = some ⟨b, o, none⟩ ∧ fcell f b (o + i) = some (.int .u8 x.toNat) := by
  have := h (i * 1 + 0) (.int .u8 x.toNat) (U.flat_at hx rfl)
  simpa using this
/-- What is carried over: some bytes, not too many. -/
theorem carried_spec (A : Option Addr) (cap : Nat) (l : List UInt8) (h4 : l.length ≤ 40 ∧ l.length % 4 = 0) (hc : l.length ≤ cap) :
    Does Try.prog 74 #[.slice A l.length cap] (fun f => Reads f A (U.flat l)) []
      (fun v q => (∃ e : Int, e ≠ 0 ∧ v = .tuple #[.slice none 0 0, .int .i64 e] ∧ q = []) ∨ (∃ (pl : Plc) (c : Nat) (m : List UInt8), v = .tuple #[.slice (locAddr 0 pl) m.length c, .int .i64 0] ∧ m.length ≤ 40 ∧ m.length ≤ c ∧ q = [Vec pl 5 1 c (U.flat m)])) := by
  refine Does.ofJ Try.func74 Try.call74 rfl [.raw (.slice A l.length cap)] [] 0 [] rfl rfl (fun h k => k) (fun f hR => ?_)
  refine CondOb.split (fun g => ?_) (fun g => ?_)
  · exact FinOb.mk [.slice none 0 0, .int .i64 1] [] rfl (fun h k => trivial) (.inl ⟨1, by decide, rfl, rfl⟩)
  refine LoopOb.mk { z : Nat × Plc × Nat × List UInt8 // z.1 ≤ l.length ∧ z.2.2.2.length ≤ z.1 ∧ z.2.2.2.length ≤ z.2.2.1 } (fun z => ⟨84, [(0, .raw (.slice A l.length cap)), (4, .sl 0 0 z.1.2.2.2.length z.1.2.2.1), (5, .int .i64 z.1.1)], [(0, z.1.2.1)], 1, [.vec 0 5 1 z.1.2.2.1 (U.flat z.1.2.2.2)]⟩) (fun z => l.length - z.1.1) ⟨(0, .nil, 0, []), Nat.zero_le _, Nat.le_refl _, Nat.le_refl _⟩ ?_ ?_
  · exact Le.of rfl ⟨⟨_, rfl, rfl⟩, ⟨_, rfl, rfl⟩, ⟨_, rfl, rfl⟩, trivial⟩ (fun h k => sat_add (vec_of rfl vec_emp) ((fun h k => sat_nil k) h k))
  rintro ⟨⟨i, pl, c, m⟩, hi, hm, hmc⟩
  simp only at hi hm hmc
  refine RegOb.go ?_
  refine Br.mk (fun g1 => ?_) (fun g1 => ?_)
  · have gi : i < l.length := by
      have g1 := of_decide_eq_true g1
      have : (i : Int) < l.length := g1
      omega
    have hx := List.getElem?_eq_getElem gi
    generalize l[i] = x at hx
    obtain ⟨b0, o0, rfl, hc0⟩ := reads_at hR hx
    refine Need.mk (show (0 : Int) ≤ (i : Int) ∧ (i : Int) < (l.length : Nat) from ⟨by omega, by omega⟩) (RawAt.mk b0 o0 rfl ?_)
    refine RdRaw.mk (.int .u8 x.toNat) _ rfl (by rw [Int.toNat_natCast, Nat.mul_one]; exact hc0) ?_
    refine CondOb.split (fun g2 => ?_) (fun g2 => ?_)
    rotate_left
    · refine LoopOb.mk { z : Plc × Nat × List UInt8 // z.2.2.length ≤ l.length ∧ z.2.2.length ≤ z.2.1 } (fun z => ⟨84, [(4, .sl 0 0 z.1.2.2.length z.1.2.1)], [(0, z.1.1)], 1, [.vec 0 5 1 z.1.2.1 (U.flat z.1.2.2)]⟩) (fun z => l.length - z.1.2.2.length) ⟨(pl, c, m), Nat.le_trans hm hi, hmc⟩ ?_ ?_
      · exact Le.of rfl ⟨⟨_, rfl, rfl⟩, trivial⟩ (fun h k => k)
      rintro ⟨⟨pl, c, m⟩, hm, hmc⟩
      simp only at hm hmc
      refine Need.mk (by decide) ?_
      refine CondOb.split (fun g => ?_) (fun g => ?_)
      rotate_left
      · exact FinOb.mk [.slice (locAddr 0 pl) m.length c, .int .i64 0] [Vec pl 5 1 c (U.flat m)] rfl (fun h k => sat_pick 0 rfl (fun _ k => vec_to (l := pl) rfl k) (fun h k => sat_nil k) k) (.inr ⟨pl, c, m, rfl, by omega, hmc, rfl⟩)
      have g : ¬ ((m.length : Int).tmod 4) = 0 := by simpa using g
      have g : m.length % 4 ≠ 0 := fun e => g (by rw [show ((m.length : Int).tmod 4) = ((m.length % 4 : Nat) : Int) from rfl, e]; rfl)
      intro b8
      have hlm := lU m
      refine StOb.mk [.int .u8 0] rfl (Need.mk rfl ?_)
      refine Need.mk ⟨by dsimp only; omega, by dsimp only; omega, hmc⟩ ?_
      refine Need.mk ⟨by dsimp only; simp; omega, by dsimp only; simp only [maxLen]; omega, by simp [Value.oneCell']⟩ ?_
      refine NewSl.pos (Nat.succ_pos _) (fun b9 o9 c9 hc9 => ?_)
      have e3 : (m ++ [(0 : UInt8)]).length = m.length + 1 := List.length_append
      have hfl : List.take (m.length * 1) (List.drop 0 (U.flat m)) ++ [Value.int .u8 0] = U.flat (m ++ [0]) := by
        rw [List.drop_zero, List.take_of_length_le (by omega), U.flat_append]
        rfl
      exact ⟨⟨(.at b9 o9, c9, m ++ [0]), by show (m ++ [_]).length ≤ l.length; omega, by show (m ++ [_]).length ≤ c9; rw [e3]; exact hc9⟩, by show l.length - (m ++ [_]).length < l.length - m.length; omega, Le.of rfl ⟨⟨_, rfl, (congrArg (fun n => some (Value.slice (some ⟨b9, o9 + 0, none⟩) n c9)) e3.symm)⟩, trivial⟩ (fun h k => sat_pick 0 rfl (fun _ k9 => by exact vec_of rfl (vec_cast hfl (vec_to (l := .at b9 o9) rfl k9))) (fun h k => sat_nil k) k)⟩
    refine Need.mk (show (0 : Int) ≤ (i : Int) ∧ (i : Int) < (l.length : Nat) from ⟨by omega, by omega⟩) (RawAt.mk b0 o0 rfl ?_)
    refine RdRaw.mk (.int .u8 x.toNat) _ rfl (by rw [Int.toNat_natCast, Nat.mul_one]; exact hc0) ?_
    have ei : IntKind.i64.wrap ((i : Int) + 1) = ((i + 1 : Nat) : Int) := by rw [w64 (by omega) (by omega)]; omega
    refine CondOb.split (fun g3 => ?_) (fun g3 => ?_)
    · exact ⟨⟨(i + 1, pl, c, m), gi, Nat.le_succ_of_le hm, hmc⟩, by show l.length - (i + 1) < l.length - i; omega, Le.of rfl ⟨⟨_, rfl, rfl⟩, ⟨_, rfl, rfl⟩, ⟨_, rfl, congrArg (fun z => some (Value.int .i64 z)) ei⟩, trivial⟩ (fun h k => k)⟩
    refine RegOb.go ?_
    refine Br.mk (fun g4 => ?_) (fun g4 => ?_)
    · exact FinOb.mk [.slice none 0 0, .int .i64 3] [] rfl (fun h k => trivial) (.inl ⟨3, by decide, rfl, rfl⟩)
    have g4 := of_decide_eq_false g4
    have g4 : ¬ IntKind.i64.wrap ((i : Int) + 1) ≥ (l.length : Int) := g4
    rw [ei] at g4
    have gi2 : i + 1 < l.length := by omega
    have hy := List.getElem?_eq_getElem gi2
    generalize l[i + 1] = y at hy
    have hc1 : fcell f b0 (o0 + (i + 1)) = some (.int .u8 y.toNat) := by
      obtain ⟨b1, o1, e1, e2⟩ := reads_at hR hy
      cases e1
      exact e2
    have hyb : y.toNat ≤ 255 := by have := y.toNat_lt; omega
    have rdy : fcell f b0 (o0 + (IntKind.i64.wrap ((i : Int) + 1)).toNat * 1) = some (.int .u8 y.toNat) := by rw [ei, Int.toNat_natCast, Nat.mul_one]; exact hc1
    have iny : (0 : Int) ≤ IntKind.i64.wrap ((i : Int) + 1) ∧ IntKind.i64.wrap ((i : Int) + 1) < (l.length : Nat) := by rw [ei]; omega
    refine Need.mk iny (RawAt.mk b0 o0 rfl ?_)
    refine RdRaw.mk (.int .u8 y.toNat) _ rfl rdy ?_
    refine Br.mk (fun g5 => ?_) (fun g5 => ?_)
    · exact FinOb.mk [.slice none 0 0, .int .i64 3] [] rfl (fun h k => trivial) (.inl ⟨3, by decide, rfl, rfl⟩)
    refine Need.mk iny (RawAt.mk b0 o0 rfl ?_)
    refine RdRaw.mk (.int .u8 y.toNat) _ rfl rdy ?_
    refine CondOb.split (fun g6 => ?_) (fun g6 => ?_)
    · exact FinOb.mk [.slice none 0 0, .int .i64 3] [] rfl (fun h k => trivial) (.inl ⟨3, by decide, rfl, rfl⟩)
    have ey : IntKind.i64.wrap (y.toNat : Int) = y.toNat := w64 (by omega) (by omega)
    have g5 := of_decide_eq_false g5
    have g5 : ¬ (y.toNat : Int) < 2 := g5
    have g6 := of_decide_eq_false g6
    have g6 : ¬ IntKind.i64.wrap (y.toNat : Int) > IntKind.i64.wrap ((l.length : Int) - i) := g6
    rw [ey, w64 (by omega) (by omega)] at g6
    have en : IntKind.i64.wrap ((i : Int) + IntKind.i64.wrap (y.toNat : Int)) = ((i + y.toNat : Nat) : Int) := by rw [ey, w64 (by omega) (by omega)]; omega
    refine Need.mk iny (RawAt.mk b0 o0 rfl ?_)
    refine RdRaw.mk (.int .u8 y.toNat) _ rfl rdy ?_
    refine Need.mk (show (0 : Int) ≤ (i : Int) ∧ (i : Int) < (l.length : Nat) from ⟨by omega, by omega⟩) (RawAt.mk b0 o0 rfl ?_)
    refine RdRaw.mk (.int .u8 x.toNat) _ rfl (by rw [Int.toNat_natCast, Nat.mul_one]; exact hc0) ?_
    refine CondOb.split (fun g7 => ?_) (fun g7 => ?_)
    rotate_left
    · exact ⟨⟨(i + y.toNat, pl, c, m), by show i + y.toNat ≤ l.length; omega, Nat.le_trans hm (Nat.le_add_right _ _), hmc⟩, by show l.length - (i + y.toNat) < l.length - i; omega, Le.of rfl ⟨⟨_, rfl, rfl⟩, ⟨_, rfl, rfl⟩, ⟨_, rfl, congrArg (fun z => some (Value.int .i64 z)) en⟩, trivial⟩ (fun h k => k)⟩
    refine Need.mk (show (0 : Int) ≤ (i : Int) ∧ (i : Int) ≤ IntKind.i64.wrap ((i : Int) + IntKind.i64.wrap (y.toNat : Int)) ∧ IntKind.i64.wrap ((i : Int) + IntKind.i64.wrap (y.toNat : Int)) ≤ (cap : Nat) from by rw [en]; omega) ?_
    have hsl : ((l.drop i).take y.toNat).length = y.toNat := by rw [List.length_take, List.length_drop]; omega
    have hlm := lU m
    refine SrcF.mk (U.flat ((l.drop i).take y.toNat)) (by rw [lU, hsl]; show y.toNat = ((IntKind.i64.wrap ((i : Int) + IntKind.i64.wrap (y.toNat : Int))).toNat - (i : Int).toNat) * 1; rw [en, Int.toNat_natCast, Int.toNat_natCast]; omega) (take_rd (slice_rd hR hc)) ?_
    refine Need.mk ⟨by dsimp only; omega, by dsimp only; omega, hmc⟩ ?_
    refine Need.mk ⟨by dsimp only; rw [en, Int.toNat_natCast, Int.toNat_natCast]; omega, by dsimp only; simp only [maxLen]; rw [en, Int.toNat_natCast, Int.toNat_natCast]; omega, U.flat_one' _⟩ ?_
    refine NewSl.pos (by dsimp only; rw [en, Int.toNat_natCast, Int.toNat_natCast]; omega) (fun b9 o9 c9 hc9 => ?_)
    have e3 : (m ++ (l.drop i).take y.toNat).length = m.length + ((IntKind.i64.wrap ((i : Int) + IntKind.i64.wrap (y.toNat : Int))).toNat - (i : Int).toNat) := by rw [List.length_append, hsl, en, Int.toNat_natCast, Int.toNat_natCast]; omega
    have hfl : List.take (m.length * 1) (List.drop 0 (U.flat m)) ++ U.flat ((l.drop i).take y.toNat) = U.flat (m ++ (l.drop i).take y.toNat) := by
      rw [List.drop_zero, List.take_of_length_le (by omega), U.flat_append]
    exact ⟨⟨(i + y.toNat, .at b9 o9, c9, m ++ (l.drop i).take y.toNat), by show i + y.toNat ≤ l.length; omega, by show (m ++ _).length ≤ i + y.toNat; rw [List.length_append, hsl]; omega, by show (m ++ _).length ≤ c9; rw [e3]; exact hc9⟩, by show l.length - (i + y.toNat) < l.length - i; omega, Le.of rfl ⟨⟨_, rfl, rfl⟩, ⟨_, rfl, (congrArg (fun n => some (Value.slice (some ⟨b9, o9 + 0, none⟩) n c9)) e3.symm)⟩, ⟨_, rfl, congrArg (fun z => some (Value.int .i64 z)) en⟩, trivial⟩ (fun h k => sat_pick 0 rfl (fun _ k9 => by exact vec_of rfl (vec_cast hfl (vec_to (l := .at b9 o9) rfl k9))) (fun h k => sat_nil k) k)⟩
  · refine LoopOb.mk { z : Plc × Nat × List UInt8 // z.2.2.length ≤ l.length ∧ z.2.2.length ≤ z.2.1 } (fun z => ⟨84, [(4, .sl 0 0 z.1.2.2.length z.1.2.1)], [(0, z.1.1)], 1, [.vec 0 5 1 z.1.2.1 (U.flat z.1.2.2)]⟩) (fun z => l.length - z.1.2.2.length) ⟨(pl, c, m), Nat.le_trans hm hi, hmc⟩ ?_ ?_
    · exact Le.of rfl ⟨⟨_, rfl, rfl⟩, trivial⟩ (fun h k => k)
    rintro ⟨⟨pl, c, m⟩, hm, hmc⟩
    simp only at hm hmc
    refine Need.mk (by decide) ?_
    refine CondOb.split (fun g => ?_) (fun g => ?_)
    rotate_left
    · exact FinOb.mk [.slice (locAddr 0 pl) m.length c, .int .i64 0] [Vec pl 5 1 c (U.flat m)] rfl (fun h k => sat_pick 0 rfl (fun _ k => vec_to (l := pl) rfl k) (fun h k => sat_nil k) k) (.inr ⟨pl, c, m, rfl, by omega, hmc, rfl⟩)
    have g : ¬ ((m.length : Int).tmod 4) = 0 := by simpa using g
    have g : m.length % 4 ≠ 0 := fun e => g (by rw [show ((m.length : Int).tmod 4) = ((m.length % 4 : Nat) : Int) from rfl, e]; rfl)
    intro b8
    have hlm := lU m
    refine StOb.mk [.int .u8 0] rfl (Need.mk rfl ?_)
    refine Need.mk ⟨by dsimp only; omega, by dsimp only; omega, hmc⟩ ?_
    refine Need.mk ⟨by dsimp only; simp; omega, by dsimp only; simp only [maxLen]; omega, by simp [Value.oneCell']⟩ ?_
    refine NewSl.pos (Nat.succ_pos _) (fun b9 o9 c9 hc9 => ?_)
    have e3 : (m ++ [(0 : UInt8)]).length = m.length + 1 := List.length_append
    have hfl : List.take (m.length * 1) (List.drop 0 (U.flat m)) ++ [Value.int .u8 0] = U.flat (m ++ [0]) := by
      rw [List.drop_zero, List.take_of_length_le (by omega), U.flat_append]
      rfl
    exact ⟨⟨(.at b9 o9, c9, m ++ [0]), by show (m ++ [_]).length ≤ l.length; omega, by show (m ++ [_]).length ≤ c9; rw [e3]; exact hc9⟩, by show l.length - (m ++ [_]).length < l.length - m.length; omega, Le.of rfl ⟨⟨_, rfl, (congrArg (fun n => some (Value.slice (some ⟨b9, o9 + 0, none⟩) n c9)) e3.symm)⟩, trivial⟩ (fun h k => sat_pick 0 rfl (fun _ k9 => by exact vec_of rfl (vec_cast hfl (vec_to (l := .at b9 o9) rfl k9))) (fun h k => sat_nil k) k)⟩
end Go.Proofs.Ytiknkeakielncaa.Rs
