/- The law of how the window grows: its walk. Conditions: none. -/
import Derived.Test.YtlgdagjbphafcaaCongL
namespace Go.Proofs.Ytlgdagjbphafcaa.Cong
open Go Go.Proofs Sx
set_option maxRecDepth 100000
set_option linter.unusedVariables false

theorem c22 : Try.prog.cellsOf 22 = 1 := by kernel_rfl
theorem nums {f : HP} {A : Option Addr} {len cap : Nat} (h : Rd Try.prog f 3 57 [.slice A len cap]) : ∀ i, i < len → ∃ b o n, A = some ⟨b, o, none⟩ ∧ fcell f b (o + i * 1) = some (.int .u16 n) ∧ 0 ≤ n ∧ n ≤ 65535 := by
  intro i hi
  obtain ⟨b, o, cs, hA, hl, hc, hr⟩ := (Rd.slice Try.underlying57 c22 (by omega) h).2.2.2 i hi
  match cs, hl with
  | [x], _ =>
  obtain ⟨n, h1, h2⟩ := Rd.int Try.underlying22 hr
  simp only [List.cons.injEq, and_true] at h1
  subst h1
  have : 0 ≤ n ∧ n ≤ 65535 := by simp [Lit.wf] at h2; exact h2
  exact ⟨b, o, n, hA, hc 0 _ rfl, this⟩

structure Gr (c : C) (m : Int) (i : Nat) : Prop where
  inv : Inv c
  hm : c.m = m
  fa : c.fa = false
  lo : m ≤ c.w
  hi : c.w ≤ 65535 * (i + 1)
theorem gr_ack {c : C} {m n : Int} {i : Nat} (h : Gr c m i) (hi : i < 300) (h0 : 0 ≤ n) (h1 : n ≤ 65535) :
    Gr (ack c n) m (i + 1) ∧ (ack c n).l = c.l ∧ 0 ≤ (ack c n).w - c.w ∧ (ack c n).w - c.w ≤ m ∧ (c.w < c.l → (ack c n).w - c.w = if m < n then m else n) ∧
      (c.l ≤ c.w → 0 < n → 1 ≤ (ack c n).w - c.w ∧ (ack c n).w - c.w ≤ 1 + (m * m).tdiv c.w) := by
  have hv := inv_ack (n := n) h.inv
  obtain ⟨q, hm, fa, lo, up⟩ := h
  have q1 := quo_le c q
  have q2 := q.m1; have q3 := q.m2; have q4 := q.w1; have q5 := q.w2
  have qq : (c.m * c.m).tdiv c.w ≤ c.m := by
    rw [Int.tdiv_eq_ediv_of_nonneg (Int.mul_nonneg (by omega) (by omega))]
    exact Int.ediv_le_of_le_mul (by omega) (Int.mul_le_mul_of_nonneg_left (by omega) (by omega))
  subst hm
  have key : (ack c n).m = c.m ∧ (ack c n).fa = false ∧ (ack c n).l = c.l ∧ 0 ≤ (ack c n).w - c.w ∧ (ack c n).w - c.w ≤ c.m ∧ (c.w < c.l → (ack c n).w - c.w = if c.m < n then c.m else n) ∧
      (c.l ≤ c.w → 0 < n → 1 ≤ (ack c n).w - c.w ∧ (ack c n).w - c.w ≤ 1 + (c.m * c.m).tdiv c.w) := by
    unfold ack cut
    simp only [fa, Bool.false_eq_true, if_false]
    generalize (c.m * c.m).tdiv c.w = z at *
    repeat' split
    all_goals (refine ⟨?_, ?_, ?_, ?_, ?_, ?_, ?_⟩ <;> first | rfl | assumption | omega | (simp only; omega) | (intros; simp only; first | omega | (split <;> omega)))
  obtain ⟨k1, k2, k3, k4, k5, k6, k7⟩ := key
  exact ⟨⟨hv, k1, k2, by omega, by omega⟩, k3, k4, k5, k6, k7⟩
structure Iy (m : Int) (len : Nat) where
  i : Nat
  c : C
  hi : i ≤ len
  hc : Gr c m i
def SJ (m : Int) (A : Option Addr) (len cap b : Nat) (x : Iy m len) : St :=
  ⟨136, [(0, .int .u16 m), (2, .raw (.slice A len cap)), (7, .ptr 0 0), (9, .int .i64 x.i)], [(0, .at b 0)], 1, [.blk 0 135 (CS x.c)]⟩
theorem grows_spec (m fl : Int) (A : Option Addr) (len cap : Nat) (hm0 : 0 ≤ m) (hm1 : m ≤ 65535) (hf0 : 0 ≤ fl) (hf1 : fl ≤ 4294967295) :
    Does Try.prog 5 #[.int .u16 m, .int .u32 fl, .slice A len cap] (fun f => Rd Try.prog f 3 57 [.slice A len cap]) [] (fun v p => v = .bool true ∧ p = []) := by
  have em : IntKind.i64.wrap m = m := w64 (by omega) (by omega)
  have ef : IntKind.i64.wrap fl = fl := w64 (by omega) (by omega)
  refine Does.of Try.func5 Try.call5 rfl [.int .u16 m, .int .u32 fl, .raw (.slice A len cap)] [] 0 [] rfl rfl (fun h k => k) (fun f hR => ?_)
  refine Br.mk (fun h1 => ?_) (fun h1 => ?_)
  · refine useP .tt live_spec rfl rfl ?_
    exact FinOb.mk _ [] rfl (fun h k => trivial) ⟨rfl, rfl⟩
  simp only [decide_eq_false_iff_not, gt_iff_lt, Int.not_lt] at h1
  refine CondOb.split (fun h2 => ?_) (fun h2 => ?_)
  · refine useP .tt live_spec rfl rfl ?_
    exact FinOb.mk _ [] rfl (fun h k => trivial) ⟨rfl, rfl⟩
  have h2 : ¬ m = 0 := by simpa using h2
  refine CallOb.mk _ _ rfl (fun _ => True) [] _ (new_spec (IntKind.i64.wrap m)) [] (fun h k => trivial) (fun _ _ _ _ => trivial) ?_
  rintro v post (⟨hm, rfl, rfl⟩ | ⟨hm, b, rfl, rfl⟩)
  · rw [em] at hm; omega
  rw [em] at hm
  refine ⟨.tuple [.ptr 0 0, .int .i64 0], ⟨_, _, [(0, .at b 0)], 1, [.blk 0 135 (CS (new m))]⟩, ?_, rfl, rfl, NmExt.push rfl, rfl, fun h => sat_cons (fun h => by rw [em]; exact blk_of rfl rfl) (fun h k => k)⟩
  refine useP (.int .i64 0) (code_spec 0) rfl rfl ?_
  refine Br.mk (fun h => absurd h (by decide)) (fun _ => ?_)
  have i0 : Inv (new m) := inv_new hm.1 hm.2
  have ff : Fit (IntKind.i64.wrap fl) := by rw [ef]; exact ⟨by omega, by omega⟩
  refine useC 0 (.tuple []) (lost_spec b (new m) _ i0 ff) rfl rfl rfl rfl ?_
  have g0 : Gr (lost (new m) (IntKind.i64.wrap fl)) m 0 := ⟨inv_lost i0, rfl, rfl, Int.le_refl _, by simp only [lost, new]; omega⟩
  refine LoopOb.mk (Iy m len) (SJ m A len cap b) (fun x => len - x.i) ⟨0, _, by omega, g0⟩ ?_ ?_
  · refine Le.of rfl ⟨⟨_, rfl, rfl⟩, ⟨_, rfl, rfl⟩, ⟨_, rfl, rfl⟩, ⟨_, rfl, rfl⟩, trivial⟩ (fun h k => k)
  rintro ⟨i, c, hi, hc⟩
  refine CondOb.split (fun h3 => ?_) (fun h3 => ?_)
  case refine_2 =>
    refine useP (.tuple []) (ack_nil 1) rfl rfl ?_
    refine useP (.tuple []) (lost_nil 1) rfl rfl ?_
    refine useP .ff (dup_nil 1) rfl rfl ?_
    refine useP .ff fast_nil rfl rfl ?_
    refine useP (.int .i64 0) window_nil rfl rfl ?_
    refine useP (.int .i64 0) limit_nil rfl rfl ?_
    refine useP (.int .i64 0) dups_nil rfl rfl ?_
    refine Br.mk (fun _ => ?_) (fun h => absurd h (by decide))
    refine useP .tt live_spec rfl rfl ?_
    exact FinOb.mk _ [] rfl (fun h k => trivial) ⟨rfl, rfl⟩
  simp only [decide_eq_true_eq] at h3
  replace h3 : (i : Int) < len := h3
  obtain ⟨ba, o, n, rfl, ha, hn0, hn1⟩ := nums hR i (by omega)
  obtain ⟨hg, hl, g1, g2, g3, g4⟩ := gr_ack hc (by omega) hn0 hn1
  have en : IntKind.i64.wrap n = n := w64 (by omega) (by omega)
  refine useC 0 (.int .i64 _) (window_spec b c) rfl rfl rfl rfl ?_
  refine Need.mk ⟨Int.natCast_nonneg i, h3⟩ (RawAt.mk ba o rfl ?_)
  refine RdOb.mk (.int .u16 n) _ rfl (by simpa using ha) ?_
  refine useC 0 (c' := ack c n) (.tuple []) (by rw [en]; exact ack_spec b c n hc.inv) rfl rfl rfl rfl ?_
  refine useC 0 (.int .i64 _) (window_spec b _) rfl rfl rfl rfl ?_
  refine useC 0 (.int .i64 _) (limit_spec b _) rfl rfl rfl rfl ?_
  have hcm : c.m = m := hc.hm
  have b1 := hc.inv.w1; have b2 := hc.inv.w2; have b3 := hg.inv.w1; have b4 := hg.inv.w2
  have hm1' := hc.inv.m1; have hm2' := hc.inv.m2
  have ed : IntKind.i64.wrap ((ack c n).w - c.w) = (ack c n).w - c.w := w64 (by omega) (by omega)
  have esq : IntKind.i64.wrap (m * m) = m * m := by rw [← hcm]; exact w64 (by have := sq_le c hc.inv; omega) (by have := sq_le c hc.inv; omega)
  have hq : 0 ≤ (m * m).tdiv c.w ∧ (m * m).tdiv c.w ≤ 4294836225 := by rw [← hcm]; exact quo_le c hc.inv
  have eq1 : IntKind.i64.wrap ((m * m).tdiv c.w) = (m * m).tdiv c.w := w64 (by omega) (by omega)
  have eq2 : IntKind.i64.wrap (1 + (m * m).tdiv c.w) = 1 + (m * m).tdiv c.w := w64 (by omega) (by omega)
  have ei : IntKind.i64.wrap ((i : Int) + 1) = ((i + 1 : Nat) : Int) := by rw [w64 (by omega) (by omega)]; omega
  refine Br.mk (fun h4 => ?_) (fun h4 => ?_)
  · refine Need.mk ⟨Int.natCast_nonneg i, h3⟩ (RawAt.mk ba o rfl ?_)
    refine RdOb.mk (.int .u16 n) _ rfl (by simpa using ha) ?_
    simp only [decide_eq_true_eq] at h4
    refine Br.mk (fun h => absurd h ?_) (fun _ => ?_)
    · rw [ed, en, em, g3 (by rw [← hl]; exact h4)]; simp
    refine Br.mk (fun h => absurd h ?_) (fun _ => ?_)
    · rw [ed]; simp; omega
    refine CondOb.split (fun h => absurd h ?_) (fun _ => ?_)
    · rw [ed, em]; simp; omega
    refine useC 0 (.int .i64 _) (limit_spec b _) rfl rfl rfl rfl ?_
    refine Br.mk (fun h => absurd h ?_) (fun _ => ?_)
    · simp; omega
    refine ⟨⟨i + 1, ack c n, by omega, hg⟩, ?_, ?_⟩
    · show len - (i + 1) < len - i
      omega
    · refine Le.of rfl ⟨⟨_, rfl, rfl⟩, ⟨_, rfl, rfl⟩, ⟨_, rfl, rfl⟩, ⟨_, rfl, ?_⟩, trivial⟩ (fun h k => k)
      exact congrArg (fun z => some (Value.int .i64 z)) ei
  simp only [decide_eq_false_iff_not] at h4
  refine Br.mk (fun h => absurd h ?_) (fun _ => ?_)
  · rw [ed]; simp; omega
  refine CondOb.split (fun h => absurd h ?_) (fun _ => ?_)
  · rw [ed, em]; simp; omega
  refine useC 0 (.int .i64 _) (limit_spec b _) rfl rfl rfl rfl ?_
  refine Br.mk (fun h5 => ?_) (fun h => absurd h ?_)
  rotate_left
  · simp; omega
  refine Need.mk ⟨Int.natCast_nonneg i, h3⟩ (RawAt.mk ba o rfl ?_)
  refine RdOb.mk (.int .u16 n) _ rfl (by simpa using ha) ?_
  refine Br.mk (fun h6 => ?_) (fun h6 => ?_)
  · simp only [decide_eq_true_eq, gt_iff_lt] at h6
    have g5 := g4 (by omega) h6
    refine Br.mk (fun h => absurd h ?_) (fun _ => ?_)
    · rw [ed]; simp; omega
    refine Need.mk (by omega) ?_
    refine CondOb.split (fun h => absurd h ?_) (fun _ => ?_)
    · rw [ed, em, esq, eq1, eq2]; simp; omega
    refine ⟨⟨i + 1, ack c n, by omega, hg⟩, ?_, ?_⟩
    · show len - (i + 1) < len - i
      omega
    · refine Le.of rfl ⟨⟨_, rfl, rfl⟩, ⟨_, rfl, rfl⟩, ⟨_, rfl, rfl⟩, ⟨_, rfl, ?_⟩, trivial⟩ (fun h k => k)
      exact congrArg (fun z => some (Value.int .i64 z)) ei
  · refine ⟨⟨i + 1, ack c n, by omega, hg⟩, ?_, ?_⟩
    · show len - (i + 1) < len - i
      omega
    · refine Le.of rfl ⟨⟨_, rfl, rfl⟩, ⟨_, rfl, rfl⟩, ⟨_, rfl, rfl⟩, ⟨_, rfl, ?_⟩, trivial⟩ (fun h k => k)
      exact congrArg (fun z => some (Value.int .i64 z)) ei
theorem grows_law (m fl : Int) (A : Option Addr) (len cap : Nat) (h : (Lit.int .u16 m).wf = true) (k : (Lit.int .u32 fl).wf = true) :
    Does Try.prog 5 #[.int .u16 m, .int .u32 fl, .slice A len cap] (fun f => Rd Try.prog f 3 57 [.slice A len cap]) [] (fun v p => v = .bool true ∧ p = []) := by
  have h' : 0 ≤ m ∧ m ≤ 65535 := by simp [Lit.wf] at h; exact h
  have k' : 0 ≤ fl ∧ fl ≤ 4294967295 := by simp [Lit.wf] at k; exact k
  exact grows_spec m fl A len cap h'.1 h'.2 k'.1 k'.2
end Go.Proofs.Ytlgdagjbphafcaa.Cong
