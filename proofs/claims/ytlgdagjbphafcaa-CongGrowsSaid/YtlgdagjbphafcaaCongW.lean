/- What the functions of towrope/cong and of its reference do. Conditions: none. -/
import Derived.Test.YtlgdagjbphafcaaProg
import Derived.Test.YtlgdagjbphafcaaE14
namespace Go.Proofs.Ytlgdagjbphafcaa.Cong
open Go Go.Proofs Sx
set_option maxRecDepth 100000
set_option linter.unusedVariables false

structure C where
  m : Int
  w : Int
  l : Int
  d : Int
  fa : Bool
def CAf (b : Nat) (m w l d : Int) (fa : Bool) : Asn := pt b (.cells #[.int .i64 m, .int .i64 w, .int .i64 l, .int .i64 d, .bool fa] 135 (0, 0))
def CA (b : Nat) (c : C) : Asn := CAf b c.m c.w c.l c.d c.fa
def CV (c : C) : Value := .agg #[.int .i64 c.m, .int .i64 c.w, .int .i64 c.l, .int .i64 c.d, .bool c.fa]
def CS (c : C) : List SV := [.int .i64 c.m, .int .i64 c.w, .int .i64 c.l, .int .i64 c.d, .bool c.fa]
structure Inv (c : C) : Prop where
  m1 : 1 ≤ c.m
  m2 : c.m ≤ 65535
  w1 : 1 ≤ c.w
  w2 : c.w ≤ 1073741824
  l1 : 1 ≤ c.l
  l2 : c.l ≤ 1073741824
def Fit (n : Int) : Prop := -9223372036854775808 ≤ n ∧ n ≤ 9223372036854775807
theorem w64 {x : Int} (h : -9223372036854775808 ≤ x) (k : x ≤ 9223372036854775807) : IntKind.i64.wrap x = x := by rw [IntKind.wrap_i64]; omega
def cut (n : Int) : Int := if 1073741824 < n then 1073741824 else n
def grow (c : C) (n : Int) : C := { c with w := cut (c.w + n) }
def ack (c : C) (n : Int) : C :=
  if n < 1 then c else if c.fa then { c with w := c.l, d := 0, fa := false } else
  if c.w < c.l then { c with w := cut (c.w + if c.m < n then c.m else n), d := 0 } else { c with w := cut (c.w + if 1 > (c.m * c.m).tdiv c.w then 1 else (c.m * c.m).tdiv c.w), d := 0 }
def half (c : C) (f : Int) : Int := cut (if 2 * c.m > f.tdiv 2 then 2 * c.m else f.tdiv 2)
def dup (c : C) (f : Int) : C × Bool :=
  if c.fa then ({ c with d := c.d + 1, w := cut (c.w + c.m) }, false) else
  if c.d + 1 = 3 then ({ c with d := c.d + 1, l := half c f, w := cut (half c f + 3 * c.m), fa := true }, true) else ({ c with d := c.d + 1 }, false)
def lost (c : C) (f : Int) : C := { c with l := half c f, w := c.m, d := 0, fa := false }
def new (m : Int) : C := ⟨m, if (if 4380 > 2 * m then 4380 else 2 * m) < 4 * m then (if 4380 > 2 * m then 4380 else 2 * m) else 4 * m, 1073741824, 0, false⟩

theorem sq_le (c : C) (h : Inv c) : 1 ≤ c.m * c.m ∧ c.m * c.m ≤ 4294836225 := by
  have := h.m1; have := h.m2
  constructor
  · have := Int.mul_le_mul (a := 1) (b := 1) (c := c.m) (d := c.m) (by omega) (by omega) (by omega) (by omega); omega
  · have := Int.mul_le_mul (a := c.m) (b := c.m) (c := 65535) (d := 65535) (by omega) (by omega) (by omega) (by omega); omega
theorem quo_le (c : C) (h : Inv c) : 0 ≤ (c.m * c.m).tdiv c.w ∧ (c.m * c.m).tdiv c.w ≤ 4294836225 := by
  obtain ⟨h1, h2⟩ := sq_le c h
  have := h.w1
  rw [Int.tdiv_eq_ediv_of_nonneg (by omega)]
  exact ⟨Int.ediv_nonneg (by omega) (by omega), Int.le_trans (Int.ediv_le_self _ (by omega)) h2⟩
theorem half2 {f : Int} (h : Fit f) : -4611686018427387904 ≤ f.tdiv 2 ∧ f.tdiv 2 ≤ 4611686018427387904 := by
  obtain ⟨h1, h2⟩ := h
  rcases Int.le_total 0 f with h | h
  · rw [Int.tdiv_eq_ediv_of_nonneg h]; omega
  · have : f.tdiv 2 = -((-f).tdiv 2) := by rw [Int.neg_tdiv]; omega
    rw [this, Int.tdiv_eq_ediv_of_nonneg (by omega)]; omega
theorem half_bd (c : C) (h : Inv c) (f : Int) : 2 ≤ half c f ∧ half c f ≤ 1073741824 := by
  have := h.m1; have := h.m2
  unfold half cut
  repeat' split
  all_goals omega
theorem inv_new {m : Int} (h1 : 1 ≤ m) (h2 : m ≤ 65535) : Inv (new m) := by
  constructor <;> unfold new <;> simp only <;> (repeat' split) <;> omega
theorem inv_ack {c : C} {n : Int} (h : Inv c) : Inv (ack c n) := by
  have q := quo_le c h
  obtain ⟨h1, h2, h3, h4, h5, h6⟩ := h
  unfold ack cut
  repeat' split
  all_goals (constructor <;> (try simp only) <;> omega)
theorem inv_dup {c : C} {n : Int} (h : Inv c) : Inv (dup c n).1 := by
  have q := half_bd c h n
  obtain ⟨h1, h2, h3, h4, h5, h6⟩ := h
  unfold dup cut
  repeat' split
  all_goals (constructor <;> (try simp only) <;> omega)
theorem inv_lost {c : C} {n : Int} (h : Inv c) : Inv (lost c n) := by
  have q := half_bd c h n
  obtain ⟨h1, h2, h3, h4, h5, h6⟩ := h
  constructor <;> simp only [lost] <;> omega

/-! ### The program -/
theorem give {P : Program} {f : HP} {Q : Value → List Asn → Prop} {s : St} {l : List SV} {b : Nat} (c : C) (vs : List Value) (hd : denL s.nm l = some vs) (he : ∀ h, sat s.ents h → sat [CA b c] h) (hq : Q (ret1 vs) [CA b c]) : FinOb s Q l := FinOb.mk vs _ hd he hq
theorem grow_spec (b : Nat) (c : C) (n : Int) (h : Inv c) (h0 : 0 ≤ n) (h1 : n ≤ 8589934592) :
    Does Try.prog 79 #[.pointer (some ⟨b, 0, none⟩), .int .i64 n] (fun _ => True) [CA b c] (fun v p => v = .tuple #[] ∧ p = [CA b (grow c n)]) := by
  refine Does.of Try.func79 Try.call79 rfl [.ptr 0 0, .int .i64 n] [(0, .at b 0)] 1 [.blk 0 135 (CS c)] rfl rfl (fun h => sat_cons (fun h => blk_of rfl rfl) (fun h k => k)) (fun f hR => ?_)
  refine FinOb.mk _ [CAf b c.m _ c.l c.d c.fa] rfl (fun h => sat_cons (fun h => blk_to rfl rfl) (fun h k => trivial)) ⟨rfl, ?_⟩
  have := h.w1; have := h.w2
  simp only [CA, grow, cut, w64 (x := c.w + n) (by omega) (by omega)]
theorem half_spec (b : Nat) (c : C) (n : Int) (h : Inv c) (hn : Fit n) :
    Does Try.prog 81 #[.pointer (some ⟨b, 0, none⟩), .int .i64 n] (fun _ => True) [CA b c] (fun v p => v = .tuple #[] ∧ p = [CA b { c with l := half c n }]) := by
  refine Does.of Try.func81 Try.call81 rfl [.ptr 0 0, .int .i64 n] [(0, .at b 0)] 1 [.blk 0 135 (CS c)] rfl rfl (fun h => sat_cons (fun h => blk_of rfl rfl) (fun h k => k)) (fun f hR => ?_)
  refine Need.mk (by decide) ?_
  refine FinOb.mk _ [CAf b c.m c.w _ c.d c.fa] rfl (fun h => sat_cons (fun h => blk_to rfl rfl) (fun h k => trivial)) ⟨rfl, ?_⟩
  have := h.m1; have := h.m2; have := half2 hn
  simp only [CA, half, cut, w64 (x := 2 * c.m) (by omega) (by omega), w64 (x := n.tdiv 2) (by omega) (by omega)]
theorem ack_spec (b : Nat) (c : C) (n : Int) (h : Inv c) :
    Does Try.prog 26 #[.pointer (some ⟨b, 0, none⟩), .int .i64 n] (fun _ => True) [CA b c] (fun v p => v = .tuple #[] ∧ p = [CA b (ack c n)]) := by
  have q := quo_le c h
  have s := sq_le c h
  have i := h
  obtain ⟨i1, i2, i3, i4, i5, i6⟩ := i
  refine Does.of Try.func26 Try.call26 rfl [.ptr 0 0, .int .i64 n] [(0, .at b 0)] 1 [.blk 0 135 (CS c)] rfl rfl (fun h => sat_cons (fun h => blk_of rfl rfl) (fun h k => k)) (fun f hR => ?_)
  refine CondOb.split (fun h1 => ?_) (fun h1 => ?_)
  · refine FinOb.mk _ [CA b c] rfl (fun h => sat_cons (fun h => blk_to rfl rfl) (fun h k => trivial)) ⟨rfl, ?_⟩
    simp only [decide_eq_true_eq] at h1; simp [ack, h1]
  simp only [decide_eq_false_iff_not] at h1
  refine CondOb.split (fun h2 => ?_) (fun h2 => ?_)
  · refine FinOb.mk _ [CA b { c with w := c.l, d := 0, fa := false }] rfl (fun h => sat_cons (fun h => blk_to rfl rfl) (fun h k => trivial)) ⟨rfl, ?_⟩
    simp [ack, h1, h2]
  refine DrawOb.mk [] (.run [0, 1, 2, 3, 4, 5, 6, 7, 8, 9] .nil) (by kernel_rfl) ?_
  refine CondOb.split (fun h3 => ?_) (fun h3 => ?_)
  · refine call_at 0 (grow_spec b c _ h (by split <;> omega) (by split <;> omega)) rfl rfl (fun h => blk_to rfl rfl) (fun _ _ => trivial) ?_
    rintro v post ⟨rfl, rfl⟩
    refine ⟨.tuple [], [.blk 0 135 (CS (grow c _))], rfl, fun h => sat_cons (fun h => blk_of rfl rfl) (fun h k => k), ?_⟩
    refine FinOb.mk _ [CA b { grow c _ with d := 0 }] rfl (fun h => sat_cons (fun h => blk_to rfl rfl) (fun h k => trivial)) ⟨rfl, ?_⟩
    simp only [decide_eq_true_eq] at h3
    simp [ack, h1, h2, h3, grow]
  · simp only [decide_eq_false_iff_not] at h3
    refine DrawOb.mk [] (.run [0, 1, 2, 3, 4, 5, 6, 7, 8, 9, 10, 11, 12, 13, 14, 15, 16] .nil) (by kernel_rfl) ?_
    refine Need.mk (by omega) ?_
    have e1 : IntKind.i64.wrap (c.m * c.m) = c.m * c.m := w64 (by omega) (by omega)
    have e2 : IntKind.i64.wrap ((c.m * c.m).tdiv c.w) = (c.m * c.m).tdiv c.w := w64 (by omega) (by omega)
    refine call_at 0 (grow_spec b c (if 1 > IntKind.i64.wrap ((IntKind.i64.wrap (c.m * c.m)).tdiv c.w) then 1 else IntKind.i64.wrap ((IntKind.i64.wrap (c.m * c.m)).tdiv c.w)) h (by rw [e1, e2]; split <;> omega) (by rw [e1, e2]; split <;> omega)) rfl rfl (fun h => blk_to rfl rfl) (fun _ _ => trivial) ?_
    rintro v post ⟨rfl, rfl⟩
    refine ⟨.tuple [], [.blk 0 135 (CS (grow c _))], rfl, fun h => sat_cons (fun h => blk_of rfl rfl) (fun h k => k), ?_⟩
    refine FinOb.mk _ [CA b { grow c _ with d := 0 }] rfl (fun h => sat_cons (fun h => blk_to rfl rfl) (fun h k => trivial)) ⟨rfl, ?_⟩
    simp [ack, h1, h2, h3, grow, e1, e2]

theorem dup_spec (b : Nat) (c : C) (n : Int) (h : Inv c) (hn : Fit n) (hd : 0 ≤ c.d) (hd' : c.d ≤ 1000) :
    Does Try.prog 28 #[.pointer (some ⟨b, 0, none⟩), .int .i64 n] (fun _ => True) [CA b c] (fun v p => v = .bool (dup c n).2 ∧ p = [CA b (dup c n).1]) := by
  have i := h
  have hb := half_bd c h n
  obtain ⟨i1, i2, i3, i4, i5, i6⟩ := i
  have e1 : IntKind.i64.wrap (c.d + 1) = c.d + 1 := w64 (by omega) (by omega)
  have e2 : IntKind.i64.wrap (3 * c.m) = 3 * c.m := w64 (by omega) (by omega)
  refine Does.of Try.func28 Try.call28 rfl [.ptr 0 0, .int .i64 n] [(0, .at b 0)] 1 [.blk 0 135 (CS c)] rfl rfl (fun h => sat_cons (fun h => blk_of rfl rfl) (fun h k => k)) (fun f hR => ?_)
  refine CondOb.split (fun h2 => ?_) (fun h2 => ?_)
  · have h' : Inv { c with d := IntKind.i64.wrap (c.d + 1) } := ⟨i1, i2, i3, i4, i5, i6⟩
    refine call_at 0 (grow_spec b { c with d := IntKind.i64.wrap (c.d + 1) } c.m h' (by omega) (by omega)) rfl rfl (fun h => blk_to rfl rfl) (fun _ _ => trivial) ?_
    rintro v post ⟨rfl, rfl⟩
    refine ⟨.tuple [], [.blk 0 135 (CS (grow { c with d := IntKind.i64.wrap (c.d + 1) } c.m))], rfl, fun h => sat_cons (fun h => blk_of rfl rfl) (fun h k => k), ?_⟩
    refine FinOb.mk _ [CA b (grow { c with d := IntKind.i64.wrap (c.d + 1) } c.m)] rfl (fun h => sat_cons (fun h => blk_to rfl rfl) (fun h k => trivial)) ⟨?_, ?_⟩
    · simp [dup, h2, ret1]
    · simp [dup, h2, grow, e1]
  refine CondOb.split (fun h3 => ?_) (fun h3 => ?_)
  · refine FinOb.mk _ [CAf b c.m c.w c.l _ c.fa] rfl (fun h => sat_cons (fun h => blk_to rfl rfl) (fun h k => trivial)) ⟨?_, ?_⟩
    · rw [e1] at h3
      have : ¬ c.d + 1 = 3 := by simpa using h3
      simp [dup, h2, this, ret1]
    · rw [e1] at h3
      have : ¬ c.d + 1 = 3 := by simpa using h3
      simp [dup, h2, this, CA, e1]
  rw [e1] at h3
  have h3' : c.d + 1 = 3 := by simpa using h3
  have h' : Inv { c with d := IntKind.i64.wrap (c.d + 1) } := ⟨i1, i2, i3, i4, i5, i6⟩
  refine call_at 0 (half_spec b { c with d := IntKind.i64.wrap (c.d + 1) } n h' hn) rfl rfl (fun h => blk_to rfl rfl) (fun _ _ => trivial) ?_
  rintro v post ⟨rfl, rfl⟩
  refine ⟨.tuple [], [.blk 0 135 (CS { c with d := IntKind.i64.wrap (c.d + 1), l := half c n })], rfl, fun h => sat_cons (fun h => blk_of rfl rfl) (fun h k => k), ?_⟩
  have h'' : Inv { c with d := IntKind.i64.wrap (c.d + 1), l := half c n, w := half c n, fa := true } := ⟨i1, i2, by simp only; omega, by simp only; omega, by simp only; omega, by simp only; omega⟩
  refine call_at 0 (grow_spec b { c with d := IntKind.i64.wrap (c.d + 1), l := half c n, w := half c n, fa := true } (IntKind.i64.wrap (3 * c.m)) h'' (by omega) (by omega)) rfl rfl (fun h => blk_to rfl rfl) (fun _ _ => trivial) ?_
  rintro v post ⟨rfl, rfl⟩
  refine ⟨.tuple [], [.blk 0 135 (CS (grow { c with d := IntKind.i64.wrap (c.d + 1), l := half c n, w := half c n, fa := true } (IntKind.i64.wrap (3 * c.m))))], rfl, fun h => sat_cons (fun h => blk_of rfl rfl) (fun h k => k), ?_⟩
  refine FinOb.mk _ [CA b (grow { c with d := IntKind.i64.wrap (c.d + 1), l := half c n, w := half c n, fa := true } (IntKind.i64.wrap (3 * c.m)))] rfl (fun h => sat_cons (fun h => blk_to rfl rfl) (fun h k => trivial)) ⟨?_, ?_⟩
  · simp [dup, h2, h3', ret1]
  · simp only [e1, e2]; simp [dup, h2, h3', grow]
theorem lost_spec (b : Nat) (c : C) (n : Int) (h : Inv c) (hn : Fit n) :
    Does Try.prog 30 #[.pointer (some ⟨b, 0, none⟩), .int .i64 n] (fun _ => True) [CA b c] (fun v p => v = .tuple #[] ∧ p = [CA b (lost c n)]) := by
  refine Does.of Try.func30 Try.call30 rfl [.ptr 0 0, .int .i64 n] [(0, .at b 0)] 1 [.blk 0 135 (CS c)] rfl rfl (fun h => sat_cons (fun h => blk_of rfl rfl) (fun h k => k)) (fun f hR => ?_)
  refine call_at 0 (half_spec b c n h hn) rfl rfl (fun h => blk_to rfl rfl) (fun _ _ => trivial) ?_
  rintro v post ⟨rfl, rfl⟩
  refine ⟨.tuple [], [.blk 0 135 (CS { c with l := half c n })], rfl, fun h => sat_cons (fun h => blk_of rfl rfl) (fun h k => k), ?_⟩
  exact FinOb.mk _ [CA b (lost c n)] rfl (fun h => sat_cons (fun h => blk_to rfl rfl) (fun h k => trivial)) ⟨rfl, rfl⟩
theorem new_spec (m : Int) :
    Does Try.prog 23 #[.int .i64 m] (fun _ => True) [] (fun v p => (¬ (1 ≤ m ∧ m ≤ 65535) ∧ v = .tuple #[.pointer none, .int .i64 1] ∧ p = []) ∨ ((1 ≤ m ∧ m ≤ 65535) ∧ ∃ b, v = .tuple #[.pointer (some ⟨b, 0, none⟩), .int .i64 0] ∧ p = [CA b (new m)])) := by
  refine Does.of Try.func23 Try.call23 rfl [.int .i64 m] [] 0 [] rfl rfl (fun h k => k) (fun f hR => ?_)
  refine Br.mk (fun h1 => ?_) (fun h1 => ?_)
  · refine FinOb.mk _ [] rfl (fun h k => trivial) (.inl ⟨?_, rfl, rfl⟩)
    simp at h1; omega
  simp only [decide_eq_false_iff_not] at h1
  refine CondOb.split (fun h2 => ?_) (fun h2 => ?_)
  · refine FinOb.mk _ [] rfl (fun h k => trivial) (.inl ⟨?_, rfl, rfl⟩)
    simp at h2; omega
  simp only [decide_eq_false_iff_not] at h2
  intro b
  refine FinOb.mk _ [CAf b m _ 1073741824 0 false] rfl (fun h => sat_cons (fun h => blk_to rfl rfl) (fun h k => trivial)) (.inr ⟨by omega, b, rfl, ?_⟩)
  simp only [CA, new, w64 (x := 4 * m) (by omega) (by omega), w64 (x := 2 * m) (by omega) (by omega)]
theorem window_spec (b : Nat) (c : C) : Does Try.prog 32 #[.pointer (some ⟨b, 0, none⟩)] (fun _ => True) [CA b c] (fun v p => v = .int .i64 c.w ∧ p = [CA b c]) := by
  refine Does.of Try.func32 Try.call32 rfl [.ptr 0 0] [(0, .at b 0)] 1 [.blk 0 135 (CS c)] rfl rfl (fun h => sat_cons (fun h => blk_of rfl rfl) (fun h k => k)) (fun f hR => ?_)
  exact FinOb.mk _ [CA b c] rfl (fun h => sat_cons (fun h => blk_to rfl rfl) (fun h k => trivial)) ⟨rfl, rfl⟩
theorem limit_spec (b : Nat) (c : C) : Does Try.prog 33 #[.pointer (some ⟨b, 0, none⟩)] (fun _ => True) [CA b c] (fun v p => v = .int .i64 c.l ∧ p = [CA b c]) := by
  refine Does.of Try.func33 Try.call33 rfl [.ptr 0 0] [(0, .at b 0)] 1 [.blk 0 135 (CS c)] rfl rfl (fun h => sat_cons (fun h => blk_of rfl rfl) (fun h k => k)) (fun f hR => ?_)
  exact FinOb.mk _ [CA b c] rfl (fun h => sat_cons (fun h => blk_to rfl rfl) (fun h k => trivial)) ⟨rfl, rfl⟩
theorem fast_spec (b : Nat) (c : C) : Does Try.prog 34 #[.pointer (some ⟨b, 0, none⟩)] (fun _ => True) [CA b c] (fun v p => v = .bool c.fa ∧ p = [CA b c]) := by
  refine Does.of Try.func34 Try.call34 rfl [.ptr 0 0] [(0, .at b 0)] 1 [.blk 0 135 (CS c)] rfl rfl (fun h => sat_cons (fun h => blk_of rfl rfl) (fun h k => k)) (fun f hR => ?_)
  exact FinOb.mk _ [CA b c] rfl (fun h => sat_cons (fun h => blk_to rfl rfl) (fun h k => trivial)) ⟨rfl, rfl⟩
theorem dups_spec (b : Nat) (c : C) : Does Try.prog 35 #[.pointer (some ⟨b, 0, none⟩)] (fun _ => True) [CA b c] (fun v p => v = .int .i64 c.d ∧ p = [CA b c]) := by
  refine Does.of Try.func35 Try.call35 rfl [.ptr 0 0] [(0, .at b 0)] 1 [.blk 0 135 (CS c)] rfl rfl (fun h => sat_cons (fun h => blk_of rfl rfl) (fun h k => k)) (fun f hR => ?_)
  exact FinOb.mk _ [CA b c] rfl (fun h => sat_cons (fun h => blk_to rfl rfl) (fun h k => trivial)) ⟨rfl, rfl⟩
theorem code_spec (n : Int) : Does Try.prog 24 #[.int .i64 n] (fun _ => True) [] (fun v p => v = .int .i64 n ∧ p = []) := by
  refine Does.of Try.func24 Try.call24 rfl [.int .i64 n] [] 0 [] rfl rfl (fun h k => k) (fun f hR => ?_)
  exact FinOb.mk _ [] rfl (fun h k => trivial) ⟨rfl, rfl⟩
/-! ### nil -/
theorem ack_nil (n : Int) : Does Try.prog 26 #[.pointer none, .int .i64 n] (fun _ => True) [] (fun v p => v = .tuple #[] ∧ p = []) := by
  refine Does.of Try.func26 Try.call26 rfl [.nilp, .int .i64 n] [] 0 [] rfl rfl (fun h k => k) (fun f hR => ?_)
  exact FinOb.mk _ [] rfl (fun h k => trivial) ⟨rfl, rfl⟩
theorem dup_nil (n : Int) : Does Try.prog 28 #[.pointer none, .int .i64 n] (fun _ => True) [] (fun v p => v = .bool false ∧ p = []) := by
  refine Does.of Try.func28 Try.call28 rfl [.nilp, .int .i64 n] [] 0 [] rfl rfl (fun h k => k) (fun f hR => ?_)
  exact FinOb.mk _ [] rfl (fun h k => trivial) ⟨rfl, rfl⟩
theorem lost_nil (n : Int) : Does Try.prog 30 #[.pointer none, .int .i64 n] (fun _ => True) [] (fun v p => v = .tuple #[] ∧ p = []) := by
  refine Does.of Try.func30 Try.call30 rfl [.nilp, .int .i64 n] [] 0 [] rfl rfl (fun h k => k) (fun f hR => ?_)
  exact FinOb.mk _ [] rfl (fun h k => trivial) ⟨rfl, rfl⟩
theorem window_nil : Does Try.prog 32 #[.pointer none] (fun _ => True) [] (fun v p => v = .int .i64 0 ∧ p = []) := by
  refine Does.of Try.func32 Try.call32 rfl [.nilp] [] 0 [] rfl rfl (fun h k => k) (fun f hR => ?_)
  exact FinOb.mk _ [] rfl (fun h k => trivial) ⟨rfl, rfl⟩
theorem limit_nil : Does Try.prog 33 #[.pointer none] (fun _ => True) [] (fun v p => v = .int .i64 0 ∧ p = []) := by
  refine Does.of Try.func33 Try.call33 rfl [.nilp] [] 0 [] rfl rfl (fun h k => k) (fun f hR => ?_)
  exact FinOb.mk _ [] rfl (fun h k => trivial) ⟨rfl, rfl⟩
theorem fast_nil : Does Try.prog 34 #[.pointer none] (fun _ => True) [] (fun v p => v = .bool false ∧ p = []) := by
  refine Does.of Try.func34 Try.call34 rfl [.nilp] [] 0 [] rfl rfl (fun h k => k) (fun f hR => ?_)
  exact FinOb.mk _ [] rfl (fun h k => trivial) ⟨rfl, rfl⟩
theorem dups_nil : Does Try.prog 35 #[.pointer none] (fun _ => True) [] (fun v p => v = .int .i64 0 ∧ p = []) := by
  refine Does.of Try.func35 Try.call35 rfl [.nilp] [] 0 [] rfl rfl (fun h k => k) (fun f hR => ?_)
  exact FinOb.mk _ [] rfl (fun h k => trivial) ⟨rfl, rfl⟩

/-! ### The reference -/
theorem cut_spec (n : Int) : Does Try.prog 80 #[.int .i64 n] (fun _ => True) [] (fun v p => v = .int .i64 (cut n) ∧ p = []) := by
  refine Does.of Try.func80 Try.call80 rfl [.int .i64 n] [] 0 [] rfl rfl (fun h k => k) (fun f hR => ?_)
  refine CondOb.split (fun h1 => ?_) (fun h1 => ?_)
  · simp only [decide_eq_true_eq, gt_iff_lt] at h1
    exact FinOb.mk _ [] rfl (fun h k => trivial) ⟨by simp [cut, h1, ret1], rfl⟩
  · simp only [decide_eq_false_iff_not, gt_iff_lt] at h1
    exact FinOb.mk _ [] rfl (fun h k => trivial) ⟨by simp [cut, h1, ret1], rfl⟩
theorem rhalf_spec (c : C) (n : Int) (h : Inv c) (hn : Fit n) : Does Try.prog 82 #[CV c, .int .i64 n] (fun _ => True) [] (fun v p => v = .int .i64 (half c n) ∧ p = []) := by
  have := h.m1; have := h.m2; have := half2 hn
  have e1 : IntKind.i64.wrap (2 * c.m) = 2 * c.m := w64 (by omega) (by omega)
  have e2 : IntKind.i64.wrap (n.tdiv 2) = n.tdiv 2 := w64 (by omega) (by omega)
  refine Does.of Try.func82 Try.call82 rfl [.agg (CS c), .int .i64 n] [] 0 [] rfl rfl (fun h k => k) (fun f hR => ?_)
  intro b
  refine Need.mk (by decide) ?_
  refine CondOb.split (fun h1 => ?_) (fun h1 => ?_)
  · refine Need.mk (by decide) ?_
    refine call_pure (cut_spec _) rfl (fun _ _ => trivial) ?_
    rintro v post ⟨rfl, rfl⟩
    refine ⟨.int .i64 _, rfl, ?_⟩
    simp only [e1, e2, decide_eq_true_eq] at h1
    exact FinOb.mk _ [] rfl (fun h k => trivial) ⟨by simp only [ret1, half, e2]; rw [if_neg (by omega)], rfl⟩
  · refine call_pure (cut_spec _) rfl (fun _ _ => trivial) ?_
    rintro v post ⟨rfl, rfl⟩
    refine ⟨.int .i64 _, rfl, ?_⟩
    simp only [e1, e2, decide_eq_false_iff_not] at h1
    exact FinOb.mk _ [] rfl (fun h k => trivial) ⟨by simp only [ret1, half, e1]; split; rfl; congr 2; omega, rfl⟩
theorem rnew_spec (m : Int) (h : 1 ≤ m ∧ m ≤ 65535) : Does Try.prog 25 #[.int .i64 m] (fun _ => True) [] (fun v p => v = CV (new m) ∧ p = []) := by
  have e1 : IntKind.i64.wrap (2 * m) = 2 * m := w64 (by omega) (by omega)
  have e2 : IntKind.i64.wrap (4 * m) = 4 * m := w64 (by omega) (by omega)
  refine Does.of Try.func25 Try.call25 rfl [.int .i64 m] [] 0 [] rfl rfl (fun h k => k) (fun f hR => ?_)
  intro b
  refine CondOb.split (fun h1 => ?_) (fun h1 => ?_) <;> refine CondOb.split (fun h2 => ?_) (fun h2 => ?_)
  all_goals
    refine FinOb.mk _ [] rfl (fun h k => trivial) ⟨?_, rfl⟩
    simp only [e1, e2, decide_eq_true_eq, decide_eq_false_iff_not] at h1 h2
    simp only [ret1, CV, new, e1, e2]
    repeat' split
    all_goals first
      | rfl
      | (exfalso; omega)
      | (congr 5; omega)
theorem rack_spec (c : C) (n : Int) (h : Inv c) : Does Try.prog 27 #[CV c, .int .i64 n] (fun _ => True) [] (fun v p => v = CV (ack c n) ∧ p = []) := by
  have q := quo_le c h
  have s := sq_le c h
  obtain ⟨i1, i2, i3, i4, i5, i6⟩ := h
  have e1 : IntKind.i64.wrap (c.m * c.m) = c.m * c.m := w64 (by omega) (by omega)
  have e2 : IntKind.i64.wrap ((c.m * c.m).tdiv c.w) = (c.m * c.m).tdiv c.w := w64 (by omega) (by omega)
  refine Does.of Try.func27 Try.call27 rfl [.agg (CS c), .int .i64 n] [] 0 [] rfl rfl (fun h k => k) (fun f hR => ?_)
  intro b b'
  refine CondOb.split (fun h1 => ?_) (fun h1 => ?_)
  · simp only [decide_eq_true_eq] at h1
    exact FinOb.mk _ [] rfl (fun h k => trivial) ⟨by simp [ret1, ack, h1, CV], rfl⟩
  simp only [decide_eq_false_iff_not] at h1
  refine CondOb.split (fun h2 => ?_) (fun h2 => ?_)
  · exact FinOb.mk _ [] rfl (fun h k => trivial) ⟨by simp [ret1, ack, h1, h2, CV], rfl⟩
  refine Need.mk (by omega) ?_
  refine CondOb.split (fun h3 => ?_) (fun h3 => ?_) <;> refine CondOb.split (fun h4 => ?_) (fun h4 => ?_)
  case refine_1.refine_1 | refine_2.refine_1 =>
    refine CondOb.split (fun h5 => ?_) (fun h5 => ?_)
    all_goals
      refine call_pure (cut_spec _) rfl (fun _ _ => trivial) ?_
      rintro v post ⟨rfl, rfl⟩
      refine ⟨.int .i64 _, rfl, FinOb.mk _ [] rfl (fun h k => trivial) ⟨?_, rfl⟩⟩
      simp only [decide_eq_true_eq, decide_eq_false_iff_not] at h4 h5
      simp only [ret1, ack, CV, h1, h2, h4, if_true, if_false, Bool.false_eq_true]
      rw [w64 (by omega) (by omega)]
      congr 6
      split <;> omega
  all_goals
    refine call_pure (cut_spec _) rfl (fun _ _ => trivial) ?_
    rintro v post ⟨rfl, rfl⟩
    refine ⟨.int .i64 _, rfl, FinOb.mk _ [] rfl (fun h k => trivial) ⟨?_, rfl⟩⟩
    simp only [e1, e2, decide_eq_true_eq, decide_eq_false_iff_not] at h3 h4
    simp only [ret1, ack, CV, h1, h2, h4, if_false, Bool.false_eq_true, e1, e2]
    rw [w64 (by omega) (by omega)]
    congr 6
    split <;> omega
theorem rdup_spec (c : C) (n : Int) (h : Inv c) (hn : Fit n) (hd : 0 ≤ c.d) (hd' : c.d ≤ 1000) : Does Try.prog 29 #[CV c, .int .i64 n] (fun _ => True) [] (fun v p => v = .tuple #[CV (dup c n).1, .bool (dup c n).2] ∧ p = []) := by
  have i := h
  have hb := half_bd c h n
  obtain ⟨i1, i2, i3, i4, i5, i6⟩ := i
  have e1 : IntKind.i64.wrap (c.d + 1) = c.d + 1 := w64 (by omega) (by omega)
  have e2 : IntKind.i64.wrap (3 * c.m) = 3 * c.m := w64 (by omega) (by omega)
  have e3 : IntKind.i64.wrap (c.w + c.m) = c.w + c.m := w64 (by omega) (by omega)
  have e4 : IntKind.i64.wrap (half c n + 3 * c.m) = half c n + 3 * c.m := w64 (by omega) (by omega)
  refine Does.of Try.func29 Try.call29 rfl [.agg (CS c), .int .i64 n] [] 0 [] rfl rfl (fun h k => k) (fun f hR => ?_)
  intro b b'
  refine CondOb.split (fun h1 => ?_) (fun h1 => ?_)
  · refine call_pure (cut_spec _) rfl (fun _ _ => trivial) ?_
    rintro v post ⟨rfl, rfl⟩
    refine ⟨.int .i64 _, rfl, FinOb.mk _ [] rfl (fun h k => trivial) ⟨?_, rfl⟩⟩
    simp [ret1, dup, CV, h1, e1, e3]
  refine CondOb.split (fun h2 => ?_) (fun h2 => ?_)
  · rw [e1] at h2
    have h2' : ¬ c.d + 1 = 3 := by simpa using h2
    exact FinOb.mk _ [] rfl (fun h k => trivial) ⟨by simp [ret1, dup, CV, h1, h2', e1], rfl⟩
  rw [e1] at h2
  have h2' : c.d + 1 = 3 := by simpa using h2
  have h' : Inv { c with d := IntKind.i64.wrap (c.d + 1) } := ⟨i1, i2, i3, i4, i5, i6⟩
  refine call_pure (rhalf_spec { c with d := IntKind.i64.wrap (c.d + 1) } n h' hn) rfl (fun _ _ => trivial) ?_
  rintro v post ⟨rfl, rfl⟩
  refine ⟨.int .i64 (half c n), rfl, ?_⟩
  refine call_pure (cut_spec _) rfl (fun _ _ => trivial) ?_
  rintro v post ⟨rfl, rfl⟩
  refine ⟨.int .i64 _, rfl, FinOb.mk _ [] rfl (fun h k => trivial) ⟨?_, rfl⟩⟩
  simp only [e1, e2, e4]
  simp [ret1, dup, CV, h1, h2']
theorem rlost_spec (c : C) (n : Int) (h : Inv c) (hn : Fit n) : Does Try.prog 31 #[CV c, .int .i64 n] (fun _ => True) [] (fun v p => v = CV (lost c n) ∧ p = []) := by
  refine Does.of Try.func31 Try.call31 rfl [.agg (CS c), .int .i64 n] [] 0 [] rfl rfl (fun h k => k) (fun f hR => ?_)
  intro b b'
  refine call_pure (rhalf_spec c n h hn) rfl (fun _ _ => trivial) ?_
  rintro v post ⟨rfl, rfl⟩
  exact ⟨.int .i64 (half c n), rfl, FinOb.mk _ [] rfl (fun h k => trivial) ⟨rfl, rfl⟩⟩

/-! ### The page's example -/
theorem use {P : Program} {f : HP} {g : FuncId} {args : List SV} {K : SV → St → Prop} {n : Nat} {env : List (Nat × SV)} {nm : List (Nat × Plc)} {next b k : Nat} {c c' : C} {v : Value} {vals : List Value} (sv : SV)
    (spec : Does P g vals.toArray (fun _ => True) [CA b c] (fun u p => u = v ∧ p = [CA b c'])) (hv : denL nm args = some vals) (hn : getN nm k = some (.at b 0)) (hd : den nm sv = some v)
    (h : K sv ⟨n, env, nm, next, [.blk k 135 (CS c')]⟩) : CallOb P f g args K ⟨n, env, nm, next, [.blk k 135 (CS c)]⟩ := by
  refine call_at 0 spec rfl hv (fun h => blk_to hn rfl) (fun _ _ => trivial) ?_
  rintro u post ⟨rfl, rfl⟩
  exact ⟨sv, [.blk k 135 (CS c')], hd, fun h => sat_cons (fun h => blk_of hn rfl) (fun h k => k), h⟩
theorem live_spec : Does Try.prog 22 #[] (fun _ => True) [] (fun v p => v = .bool true ∧ p = []) := by
  have i0 : Inv (new 1000) := inv_new (by omega) (by omega)
  have i1 : Inv (ack (new 1000) 1000) := inv_ack i0
  have i2 := inv_dup (n := 5000) i1
  have i3 := inv_dup (n := 5000) i2
  have i4 := inv_dup (n := 5000) i3
  have fit : Fit 5000 := ⟨by omega, by omega⟩
  refine Does.of Try.func22 Try.call22 rfl [] [] 0 [] rfl rfl (fun h k => k) (fun f hR => ?_)
  refine CallOb.mk _ _ rfl (fun _ => True) [] _ (new_spec 1000) [] (fun h k => trivial) (fun _ _ _ _ => trivial) ?_
  rintro v post (⟨h, _⟩ | ⟨_, b, rfl, rfl⟩)
  · omega
  refine ⟨.tuple [.ptr 0 0, .int .i64 0], ⟨_, _, [(0, .at b 0)], 1, [.blk 0 135 (CS (new 1000))]⟩, ?_, rfl, rfl, NmExt.push rfl, rfl, fun h => sat_cons (fun h => blk_of rfl rfl) (fun h k => k)⟩
  refine call_pure (code_spec 0) rfl (fun _ _ => trivial) ?_
  rintro v post ⟨rfl, rfl⟩
  refine ⟨.int .i64 0, rfl, ?_⟩
  refine Br.mk (fun h => absurd h (by decide)) (fun _ => ?_)
  refine use (.tuple []) (ack_spec b _ 1000 i0) rfl rfl rfl ?_
  refine use (.bool _) (dup_spec b _ 5000 i1 fit (by decide) (by decide)) rfl rfl rfl ?_
  refine use (.bool _) (dup_spec b _ 5000 i2 fit (by decide) (by decide)) rfl rfl rfl ?_
  refine use (.bool _) (dup_spec b _ 5000 i3 fit (by decide) (by decide)) rfl rfl rfl ?_
  refine use (.int .i64 _) (window_spec b _) rfl rfl rfl ?_
  refine use (.int .i64 _) (limit_spec b _) rfl rfl rfl ?_
  refine use (.tuple []) (ack_spec b _ 3000 i4) rfl rfl rfl ?_
  refine Br.mk (fun _ => ?_) (fun h => absurd h (by decide))
  refine Br.mk (fun _ => ?_) (fun h => absurd h (by decide))
  refine Br.mk (fun _ => ?_) (fun h => absurd h (by decide))
  refine Br.mk (fun _ => ?_) (fun h => absurd h (by decide))
  refine Br.mk (fun _ => ?_) (fun h => absurd h (by decide))
  refine use (.int .i64 _) (window_spec b _) rfl rfl rfl ?_
  exact FinOb.mk _ [] rfl (fun h k => trivial) ⟨congrArg Value.bool (by decide), rfl⟩
end Go.Proofs.Ytlgdagjbphafcaa.Cong
