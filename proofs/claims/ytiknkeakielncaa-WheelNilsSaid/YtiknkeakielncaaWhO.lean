/- wheel: the reference's Next, Tick; Same. Conditions: none. -/
import Derived.Test.YtiknkeakielncaaWhN
namespace Go.Proofs.Ytiknkeakielncaa.Wh
open Go Go.Proofs Sx
set_option maxRecDepth 100000
set_option linter.unusedVariables false
set_option linter.unusedSimpArgs false
set_option maxHeartbeats 4000000

theorem same_spec (A B : Option Addr) (ca cb : Nat) (l m : List Int) (hl : l.length ≤ 1000000) :
    Does Try.prog 27 #[.slice A l.length ca, .slice B m.length cb] (fun f => Reads f A (IL.flat l) ∧ Reads f B (IL.flat m)) [] (fun v p => v = .bool (decide (l = m)) ∧ p = []) := by
  refine Does.ofJ Try.func27 Try.call27 rfl [.raw (.slice A l.length ca), .raw (.slice B m.length cb)] [] 0 [] rfl rfl (fun h k => k) (fun f hR => ?_)
  refine CondOb.split (fun g => ?_) (fun g => ?_)
  · have g : l.length ≠ m.length := fun e => by simp [e] at g
    refine FinOb.mk [.bool false] [] rfl (fun h k => trivial) ⟨?_, rfl⟩
    have : l ≠ m := fun e => g (by rw [e])
    simp [ret1, this]
  have g : l.length = m.length := Int.ofNat_inj.mp (by simpa using g)
  refine LoopOb.mk { k : Nat // k ≤ l.length ∧ l.take k = m.take k } (fun z => ⟨26, [(0, .raw (.slice A l.length ca)), (1, .raw (.slice B m.length cb)), (5, .int .i64 (z.1 : Int))], [], 0, []⟩) (fun z => l.length - z.1) ⟨0, by omega, rfl⟩ ?_ ?_
  · exact Le.of rfl ⟨⟨_, rfl, rfl⟩, ⟨_, rfl, rfl⟩, ⟨_, rfl, rfl⟩, trivial⟩ (fun h k => k)
  rintro ⟨k, hk, heq⟩
  refine CondOb.split (fun g2 => ?_) (fun g2 => ?_)
  rotate_left
  · simp only [decide_eq_false_iff_not] at g2
    have k0 : k = l.length := by omega
    refine FinOb.mk [.bool true] [] rfl (fun h k => trivial) ⟨?_, rfl⟩
    subst k0
    rw [List.take_length, List.take_of_length_le (by omega)] at heq
    simp [ret1, heq]
  simp only [decide_eq_true_eq] at g2
  have hk1 : k < l.length := by omega
  have hk2 : k < m.length := by omega
  have hx := List.getElem?_eq_getElem hk1
  generalize l[k] = x at hx
  have hy := List.getElem?_eq_getElem hk2
  generalize m[k] = y at hy
  obtain ⟨b, o, hA, hc⟩ := hR.1.lay (by decide) hx
  obtain ⟨b', o', hB, hd⟩ := hR.2.lay (by decide) hy
  have hn1 : 0 ≤ (k : Int) ∧ (k : Int) < l.length := by omega
  have ek : IntKind.i64.wrap ((k : Int) + 1) = ((k + 1 : Nat) : Int) := by rw [w64 (by omega) (by omega)]; omega
  have hn2 : 0 ≤ (k : Int) ∧ (k : Int) < m.length := by omega
  refine DrawOb.mk [] (.run [0, 1, 2, 3, 4, 5, 6, 7, 8] .nil) (by kernel_rfl) ?_
  refine Need.mk hn1 (RawAt.mk b o hA ?_)
  refine RdRaw.mk (.int .i64 x) _ rfl (by rw [Int.toNat_natCast]; exact hc 0 _ rfl) ?_
  refine Need.mk hn2 (RawAt.mk b' o' hB ?_)
  refine RdRaw.mk (.int .i64 y) _ rfl (by rw [Int.toNat_natCast]; exact hd 0 _ rfl) ?_
  refine CondOb.split (fun h => ?_) (fun h => ?_)
  · refine FinOb.mk [.bool false] [] rfl (fun h k => trivial) ⟨?_, rfl⟩
    have hne : x ≠ y := fun e => by subst e; simp at h
    have : l ≠ m := fun e => hne (by rw [e, hy] at hx; exact (Option.some.inj hx).symm)
    simp [ret1, this]
  · have he : x = y := by simpa using h
    refine ⟨⟨k + 1, by omega, ?_⟩, by show l.length - (k + 1) < l.length - k; omega, Le.of rfl ⟨⟨_, rfl, rfl⟩, ⟨_, rfl, rfl⟩, ⟨_, rfl, congrArg (fun z => some (Value.int .i64 z)) ek⟩, trivial⟩ (fun h k => k)⟩
    rw [List.take_add_one, List.take_add_one, hx, hy, heq, he]
/-- The least tick. -/
def RNext (l : List U) (n : Int) (ok : Bool) : Prop := (l = [] ∧ n = 0 ∧ ok = false) ∨ (ok = true ∧ (∃ t ∈ l, t.at_ = n) ∧ ∀ t ∈ l, n ≤ t.at_)
theorem rnext_spec (A : Option Addr) (cp : Nat) (l : List U) (hl : l.length ≤ 1000000) :
    Does Try.prog 41 #[.slice A l.length cp] (fun f => Reads f A (UL.flat l)) [] (fun v p => ∃ n ok, v = .tuple #[.int .i64 n, .bool ok] ∧ RNext l n ok ∧ p = []) := by
  refine Does.ofJ Try.func41 Try.call41 rfl [.raw (.slice A l.length cp)] [] 0 [] rfl rfl (fun h k => k) (fun f hR => ?_)
  refine CondOb.split (fun g => ?_) (fun g => ?_)
  · have g : l = [] := List.length_eq_zero_iff.1 (by simpa using g)
    exact FinOb.mk [.int .i64 0, .bool false] [] rfl (fun h k => k) ⟨0, false, rfl, .inl ⟨g, rfl, rfl⟩, rfl⟩
  have g : 0 < l.length := by
    have g : ¬ (l.length : Int) = 0 := by simpa using g
    omega
  have hq := List.getElem?_eq_getElem g
  generalize l[0] = m0 at *
  obtain ⟨ba, o, rfl, hf⟩ := hR.lay (by decide) hq
  refine Need.mk ⟨by omega, by omega⟩ (RawAt.mk ba o rfl ?_)
  refine RdRaw.mk (.int .i64 m0.at_) _ rfl (hf 1 _ rfl) ?_
  refine LoopOb.mk { z : Nat × Int // z.1 ≤ l.length ∧ (∃ t ∈ l, t.at_ = z.2) ∧ ∀ t ∈ l.take z.1, z.2 ≤ t.at_ } (fun z => ⟨32, [(0, .raw (.slice (some ⟨ba, o, none⟩) l.length cp)), (4, .int .i64 z.1.2), (5, .int .i64 z.1.1)], [], 0, []⟩) (fun z => l.length - z.1.1) ⟨(1, m0.at_), g, ⟨m0, List.mem_of_getElem? hq, rfl⟩, fun t ht => by
      rw [List.take_add_one, hq] at ht
      simp at ht; subst ht; exact Int.le_refl _⟩ ?_ ?_
  · exact Le.of rfl ⟨⟨_, rfl, rfl⟩, ⟨_, rfl, rfl⟩, ⟨_, rfl, rfl⟩, trivial⟩ (fun h k => k)
  rintro ⟨⟨i, n⟩, hi0, hex, hall⟩
  simp only at hi0 hex hall
  refine CondOb.split (fun g => ?_) (fun g => ?_)
  rotate_left
  · have g := of_decide_eq_false g
    replace g : ¬ (i : Int) < l.length := g
    refine FinOb.mk [.int .i64 n, .bool true] [] rfl (fun h k => k) ⟨n, true, rfl, .inr ⟨rfl, hex, ?_⟩, rfl⟩
    rw [List.take_of_length_le (by omega)] at hall; exact hall
  have g := of_decide_eq_true g
  replace g : (i : Int) < l.length := g
  have hq := List.getElem?_eq_getElem (show i < l.length by omega)
  generalize l[i]'(by omega) = m at *
  obtain ⟨ba2, o2, e2, hf⟩ := hR.lay (by decide) hq
  have ei : IntKind.i64.wrap ((i : Int) + 1) = ((i + 1 : Nat) : Int) := by rw [w64 (by omega) (by omega)]; omega
  refine Need.mk ⟨Int.natCast_nonneg i, g⟩ (RawAt.mk ba2 o2 e2 ?_)
  refine RdRaw.mk (.int .i64 m.at_) _ rfl (by rw [Int.toNat_natCast]; exact hf 1 _ rfl) ?_
  refine CondOb.split (fun g2 => ?_) (fun g2 => ?_)
  · have g2 : m.at_ < n := of_decide_eq_true g2
    refine Need.mk ⟨Int.natCast_nonneg i, g⟩ (RawAt.mk ba2 o2 e2 ?_)
    refine RdRaw.mk (.int .i64 m.at_) _ rfl (by rw [Int.toNat_natCast]; exact hf 1 _ rfl) ?_
    refine ⟨⟨(i + 1, m.at_), by show i + 1 ≤ l.length; omega, ⟨m, List.mem_of_getElem? hq, rfl⟩, ?_⟩, ?_, Le.of rfl ⟨⟨_, rfl, rfl⟩, ⟨_, rfl, rfl⟩, ⟨_, rfl, congrArg (fun z => some (Value.int .i64 z)) ei⟩, trivial⟩ (fun h k => k)⟩
    · show ∀ t ∈ l.take (i + 1), m.at_ ≤ t.at_
      rw [List.take_add_one, hq]
      intro t ht
      rcases List.mem_append.1 ht with h | h
      · have := hall t h; omega
      · simp at h; subst h; exact Int.le_refl _
    · show l.length - (i + 1) < l.length - i
      omega
  · have g2 : ¬ m.at_ < n := of_decide_eq_false g2
    refine ⟨⟨(i + 1, n), by show i + 1 ≤ l.length; omega, hex, ?_⟩, ?_, Le.of rfl ⟨⟨_, rfl, rfl⟩, ⟨_, rfl, rfl⟩, ⟨_, rfl, congrArg (fun z => some (Value.int .i64 z)) ei⟩, trivial⟩ (fun h k => k)⟩
    · show ∀ t ∈ l.take (i + 1), n ≤ t.at_
      rw [List.take_add_one, hq]
      intro t ht
      rcases List.mem_append.1 ht with h | h
      · exact hall t h
      · simp at h; subst h; omega
    · show l.length - (i + 1) < l.length - i
      omega
/-! ### Tick -/
/-- The first of the least ones that are due. -/
structure Pick (x : Int) (l : List U) (i : Nat) (t : U) : Prop where
  at_ : l[i]? = some t
  due : t.at_ ≤ x
  lt : ∀ (j : Nat) (u : U), j < i → l[j]? = some u → t.at_ < u.at_
  le : ∀ (j : Nat) (u : U), l[j]? = some u → t.at_ ≤ u.at_
inductive Picked (x : Int) (l : List U) : List Int → List U → Prop
  | nil : Picked x l [] l
  | snoc {out : List Int} {m : List U} {i : Nat} {t : U} (h : Picked x l out m) (p : Pick x m i t) : Picked x l (out ++ [t.id]) (m.eraseIdx i)
/-- The best so far. -/
def Best (x : Int) (l : List U) (k : Nat) (b : Int) : Prop := (b = -1 ∧ ∀ (j : Nat) (u : U), j < k → l[j]? = some u → x < u.at_) ∨
  ∃ (i : Nat) (t : U), b = i ∧ i < k ∧ l[i]? = some t ∧ t.at_ ≤ x ∧ (∀ (j : Nat) (u : U), j < i → l[j]? = some u → t.at_ < u.at_) ∧ (∀ (j : Nat) (u : U), j < k → l[j]? = some u → t.at_ ≤ u.at_)
theorem Best.skip {x : Int} {l : List U} {k : Nat} {b : Int} (h : Best x l k b) {u : U} (hu : l[k]? = some u) (hn : x < u.at_) : Best x l (k + 1) b := by
  rcases h with ⟨h1, h2⟩ | ⟨i, t, h1, h2, h3, h4, h5, h6⟩
  · refine .inl ⟨h1, fun j v hj hv => ?_⟩
    rcases Nat.lt_or_ge j k with g | g
    · exact h2 j v g hv
    · have : j = k := by omega
      subst this; rw [hu] at hv; cases hv; exact hn
  · refine .inr ⟨i, t, h1, by omega, h3, h4, h5, fun j v hj hv => ?_⟩
    rcases Nat.lt_or_ge j k with g | g
    · exact h6 j v g hv
    · have : j = k := by omega
      subst this; rw [hu] at hv; cases hv; omega
theorem Best.keep {x : Int} {l : List U} {k i : Nat} {t : U} (h : Best x l k i) (ht : l[i]? = some t) {u : U} (hu : l[k]? = some u) (hn : ¬ u.at_ < t.at_) : Best x l (k + 1) i := by
  rcases h with ⟨h1, h2⟩ | ⟨i2, t2, h1, h2, h3, h4, h5, h6⟩
  · omega
  · have : i2 = i := by omega
    subst this
    rw [ht] at h3; cases h3
    refine .inr ⟨i2, t, rfl, by omega, ht, h4, h5, fun j v hj hv => ?_⟩
    rcases Nat.lt_or_ge j k with g | g
    · exact h6 j v g hv
    · have : j = k := by omega
      subst this; rw [hu] at hv; cases hv; omega
theorem Best.take {x : Int} {l : List U} {k : Nat} {b : Int} (h : Best x l k b) {u : U} (hu : l[k]? = some u) (hd : u.at_ ≤ x) (hb : ∀ (i : Nat) (t : U), b = i → l[i]? = some t → u.at_ < t.at_) : Best x l (k + 1) k := by
  have hlt : ∀ (j : Nat) (v : U), j < k → l[j]? = some v → u.at_ < v.at_ := fun j v hj hv => by
    rcases h with ⟨h1, h2⟩ | ⟨i2, t2, h1, h2, h3, h4, h5, h6⟩
    · have := h2 j v hj hv; omega
    · have := h6 j v hj hv
      have := hb i2 t2 h1 h3
      omega
  refine .inr ⟨k, u, rfl, by omega, hu, hd, hlt, fun j v hj hv => ?_⟩
  rcases Nat.lt_or_ge j k with g | g
  · have := hlt j v g hv; omega
  · have : j = k := by omega
    subst this; rw [hu] at hv; cases hv; exact Int.le_refl _
theorem NewSl.both {tot : Nat} {φ Y γ : Prop} {Z X : Plc → Nat → Prop} (k : ∀ l cap, tot ≤ cap → (0 < tot → ∃ b o, l = .at b o) → X l cap) : NewSl (φ := φ) (Y := Y) (γ := γ) (Z := Z) tot X := by
  rcases Nat.eq_zero_or_pos tot with h | h
  · exact .any fun l c hc => k l c hc (fun h2 => by omega)
  · exact .pos h fun b o c hc => k _ c hc (fun _ => ⟨b, o, rfl⟩)
theorem rtick_spec (pl : Plc) (c : Nat) (l : List U) (x : Int) (hc : l.length ≤ c) (hl : l.length ≤ 100000) :
    Does Try.prog 39 #[.slice (locAddr 0 pl) l.length c, .int .i64 x] (fun _ => True) [Vec pl 171 2 c (UL.flat l)]
      (fun v p => ∃ (out : List Int) (m : List U) (pl1 : Plc) (c1 : Nat) (pl2 : Plc) (c2 : Nat), v = .tuple #[.slice (locAddr 0 pl1) m.length c1, .slice (locAddr 0 pl2) out.length c2] ∧ Picked x l out m ∧ (∀ t ∈ m, x < t.at_) ∧ m.length ≤ c1 ∧ out.length ≤ c2 ∧ p = [Vec pl1 171 2 c1 (UL.flat m), Vec pl2 3 1 c2 (IL.flat out)]) := by
  refine Does.presure (φ := 0 < l.length → ∃ b o, pl = .at b o) Try.call39 (fun h k => fun hne => ?_) (fun hpl => ?_)
  · obtain ⟨x, _, _, hx, _⟩ := k
    exact vec_at (fun e => by
      have := congrArg List.length e
      rw [lU] at this
      have : l.length * 2 = 0 := this
      omega) hx
  refine Does.ofJ Try.func39 Try.call39 rfl [.sl 0 0 l.length c, .int .i64 x] [(0, pl)] 1 [.vec 0 171 2 c (UL.flat l)] rfl rfl (fun h k => sat_pick 0 rfl (fun _ k => vec_of rfl k) (fun h k => sat_nil k) k) (fun f hR => ?_)
  refine LoopOb.mk { z : List Int × List U × Plc × Nat × Plc × Nat // Picked x l z.1 z.2.1 ∧ z.1.length + z.2.1.length = l.length ∧ z.2.1.length ≤ z.2.2.2.1 ∧ z.1.length ≤ z.2.2.2.2.2 ∧ (0 < z.2.1.length → ∃ b o, z.2.2.1 = .at b o) }
    (fun z => ⟨62, [(0, .sl 0 0 z.1.2.1.length z.1.2.2.2.1), (1, .int .i64 x), (6, .sl 1 0 z.1.1.length z.1.2.2.2.2.2)], [(1, z.1.2.2.2.2.1), (0, z.1.2.2.1)], 2, [.vec 0 171 2 z.1.2.2.2.1 (UL.flat z.1.2.1), .vec 1 3 1 z.1.2.2.2.2.2 (IL.flat z.1.1)]⟩) (fun z => z.1.2.1.length)
    ⟨([], l, pl, c, .nil, 0), .nil, by simp, hc, Nat.le_refl _, hpl⟩ ?_ ?_
  · exact Le.of rfl ⟨⟨_, rfl, rfl⟩, ⟨_, rfl, rfl⟩, ⟨_, rfl, rfl⟩, trivial⟩ (fun h k => sat_pick 0 rfl (fun _ k => vec_of rfl (vec_to rfl k)) (fun h k => sat_add (vec_of rfl vec_emp) ((fun h k => sat_nil k) h k)) k)
  rintro ⟨⟨out, m, plM, cM, plO, cO⟩, hp, hsum, hmc, hoc, hpm⟩
  simp only at hp hsum hmc hoc hpm
  have hF : (UL.flat m).length = m.length * 2 := lU m
  refine LoopOb.mk { z : Nat × Int // z.1 ≤ m.length ∧ Best x m z.1 z.2 } (fun z => ⟨62, [(0, .sl 0 0 m.length cM), (1, .int .i64 x), (6, .sl 1 0 out.length cO), (7, .int .i64 z.1.2), (8, .int .i64 z.1.1)], [(1, plO), (0, plM)], 2, [.vec 0 171 2 cM (UL.flat m), .vec 1 3 1 cO (IL.flat out)]⟩) (fun z => m.length - z.1.1)
    ⟨(0, -1), Nat.zero_le _, .inl ⟨rfl, fun j u hj => by omega⟩⟩ ?_ ?_
  · exact Le.of rfl ⟨⟨_, rfl, rfl⟩, ⟨_, rfl, rfl⟩, ⟨_, rfl, rfl⟩, ⟨_, rfl, rfl⟩, ⟨_, rfl, rfl⟩, trivial⟩ (fun h k => sat_pick 0 rfl (by first | exact fun _ k => k | exact fun _ k => blk_to rfl rfl k | exact fun _ k => vec_to rfl k | exact fun _ k => blk_of rfl rfl k | exact fun _ k => vec_of rfl k | exact fun _ k => blk_of rfl rfl (blk_to rfl rfl k) | exact fun _ k => vec_of rfl (vec_to rfl k) | exact fun _ k => mp_to rfl k | exact fun _ k => mp_of rfl k | exact fun _ k => mp_of rfl (mp_to rfl k)) (fun h k => sat_pick 0 rfl (by first | exact fun _ k => k | exact fun _ k => blk_to rfl rfl k | exact fun _ k => vec_to rfl k | exact fun _ k => blk_of rfl rfl k | exact fun _ k => vec_of rfl k | exact fun _ k => blk_of rfl rfl (blk_to rfl rfl k) | exact fun _ k => vec_of rfl (vec_to rfl k) | exact fun _ k => mp_to rfl k | exact fun _ k => mp_of rfl k | exact fun _ k => mp_of rfl (mp_to rfl k)) (fun h k => sat_nil k) k) k)
  rintro ⟨⟨k, b⟩, hk, hb⟩
  simp only at hk hb
  refine CondOb.split (fun g => ?_) (fun g => ?_)
  · replace g : k < m.length := by
      have g := of_decide_eq_true g
      have : (k : Int) < m.length := g
      omega
    have hq := List.getElem?_eq_getElem g
    generalize m[k] = u at hq
    have hn1 : 0 ≤ (k : Int) ∧ (k : Int) < m.length := by omega
    have ek : IntKind.i64.wrap ((k : Int) + 1) = ((k + 1 : Nat) : Int) := by rw [w64 (by omega) (by omega)]; omega
    have hrd : ∀ (k : Nat) (u : U), m[k]? = some u → (UL.flat m)[0 + (k : Int).toNat * 2 + 1]? = some (.int .i64 u.at_) := fun k u hq => by
      rw [Int.toNat_natCast, Nat.zero_add]; exact UL.flat_at hq rfl
    obtain ⟨pb, po, rfl⟩ := hpm (by omega)
    have skip : x < u.at_ → Best x m (k + 1) b := fun h => hb.skip hq h
    refine RegOb.go ?_
    refine DrawOb.mk [] (.run [0, 1, 2, 3, 4, 5, 6, 7, 8, 9, 10, 11, 12, 13, 14, 15, 16, 17, 18, 19, 20, 21, 22, 23] .nil) (by kernel_rfl) ?_
    refine Need.mk hn1 ?_
    refine RdOb.mk (.int .i64 u.at_) _ rfl (hrd k u hq) ?_
    refine Br.mk (fun g1 => ?_) (fun g1 => ?_)
    rotate_left
    · have g1 : ¬ u.at_ ≤ x := of_decide_eq_false g1
      exact ⟨⟨(k + 1, b), g, hb.skip hq (by omega)⟩, by show m.length - (k + 1) < m.length - k; omega, Le.of rfl ⟨⟨_, rfl, rfl⟩, ⟨_, rfl, rfl⟩, ⟨_, rfl, rfl⟩, ⟨_, rfl, rfl⟩, ⟨_, rfl, congrArg (fun z => some (Value.int .i64 z)) ek⟩, trivial⟩ (fun h k => sat_pick 0 rfl (by first | exact fun _ k => k | exact fun _ k => blk_to rfl rfl k | exact fun _ k => vec_to rfl k | exact fun _ k => blk_of rfl rfl k | exact fun _ k => vec_of rfl k | exact fun _ k => blk_of rfl rfl (blk_to rfl rfl k) | exact fun _ k => vec_of rfl (vec_to rfl k) | exact fun _ k => mp_to rfl k | exact fun _ k => mp_of rfl k | exact fun _ k => mp_of rfl (mp_to rfl k)) (fun h k => sat_pick 0 rfl (by first | exact fun _ k => k | exact fun _ k => blk_to rfl rfl k | exact fun _ k => vec_to rfl k | exact fun _ k => blk_of rfl rfl k | exact fun _ k => vec_of rfl k | exact fun _ k => blk_of rfl rfl (blk_to rfl rfl k) | exact fun _ k => vec_of rfl (vec_to rfl k) | exact fun _ k => mp_to rfl k | exact fun _ k => mp_of rfl k | exact fun _ k => mp_of rfl (mp_to rfl k)) (fun h k => sat_nil k) k) k)⟩
    have g1 : u.at_ ≤ x := of_decide_eq_true g1
    refine Br.mk (fun g2 => ?_) (fun g2 => ?_)
    · have g2 : b < 0 := of_decide_eq_true g2
      exact ⟨⟨(k + 1, k), g, hb.take hq g1 (fun i t e _ => by omega)⟩, by show m.length - (k + 1) < m.length - k; omega, Le.of rfl ⟨⟨_, rfl, rfl⟩, ⟨_, rfl, rfl⟩, ⟨_, rfl, rfl⟩, ⟨_, rfl, rfl⟩, ⟨_, rfl, congrArg (fun z => some (Value.int .i64 z)) ek⟩, trivial⟩ (fun h k => sat_pick 0 rfl (by first | exact fun _ k => k | exact fun _ k => blk_to rfl rfl k | exact fun _ k => vec_to rfl k | exact fun _ k => blk_of rfl rfl k | exact fun _ k => vec_of rfl k | exact fun _ k => blk_of rfl rfl (blk_to rfl rfl k) | exact fun _ k => vec_of rfl (vec_to rfl k) | exact fun _ k => mp_to rfl k | exact fun _ k => mp_of rfl k | exact fun _ k => mp_of rfl (mp_to rfl k)) (fun h k => sat_pick 0 rfl (by first | exact fun _ k => k | exact fun _ k => blk_to rfl rfl k | exact fun _ k => vec_to rfl k | exact fun _ k => blk_of rfl rfl k | exact fun _ k => vec_of rfl k | exact fun _ k => blk_of rfl rfl (blk_to rfl rfl k) | exact fun _ k => vec_of rfl (vec_to rfl k) | exact fun _ k => mp_to rfl k | exact fun _ k => mp_of rfl k | exact fun _ k => mp_of rfl (mp_to rfl k)) (fun h k => sat_nil k) k) k)⟩
    have g2 : ¬ b < 0 := of_decide_eq_false g2
    obtain ⟨i, t, rfl, hik, ht⟩ : ∃ (i : Nat) (t : U), b = i ∧ i < k ∧ m[i]? = some t := by
      rcases hb with ⟨h1, _⟩ | ⟨i, t, h1, h2, h3, _⟩
      · omega
      · exact ⟨i, t, h1, h2, h3⟩
    refine Need.mk hn1 ?_
    refine RdOb.mk (.int .i64 u.at_) _ rfl (hrd k u hq) ?_
    refine Need.mk (show (0 : Int) ≤ (i : Int) ∧ (i : Int) < (m.length : Nat) from ⟨by omega, by omega⟩) ?_
    refine RdOb.mk (.int .i64 t.at_) _ rfl (hrd i t ht) ?_
    refine CondOb.split (fun g3 => ?_) (fun g3 => ?_)
    · have g3 : u.at_ < t.at_ := of_decide_eq_true g3
      exact ⟨⟨(k + 1, k), g, hb.take hq g1 (fun i2 t2 e h2 => by
        have : i2 = i := by omega
        subst this; rw [ht] at h2; cases h2; exact g3)⟩, by show m.length - (k + 1) < m.length - k; omega, Le.of rfl ⟨⟨_, rfl, rfl⟩, ⟨_, rfl, rfl⟩, ⟨_, rfl, rfl⟩, ⟨_, rfl, rfl⟩, ⟨_, rfl, congrArg (fun z => some (Value.int .i64 z)) ek⟩, trivial⟩ (fun h k => sat_pick 0 rfl (by first | exact fun _ k => k | exact fun _ k => blk_to rfl rfl k | exact fun _ k => vec_to rfl k | exact fun _ k => blk_of rfl rfl k | exact fun _ k => vec_of rfl k | exact fun _ k => blk_of rfl rfl (blk_to rfl rfl k) | exact fun _ k => vec_of rfl (vec_to rfl k) | exact fun _ k => mp_to rfl k | exact fun _ k => mp_of rfl k | exact fun _ k => mp_of rfl (mp_to rfl k)) (fun h k => sat_pick 0 rfl (by first | exact fun _ k => k | exact fun _ k => blk_to rfl rfl k | exact fun _ k => vec_to rfl k | exact fun _ k => blk_of rfl rfl k | exact fun _ k => vec_of rfl k | exact fun _ k => blk_of rfl rfl (blk_to rfl rfl k) | exact fun _ k => vec_of rfl (vec_to rfl k) | exact fun _ k => mp_to rfl k | exact fun _ k => mp_of rfl k | exact fun _ k => mp_of rfl (mp_to rfl k)) (fun h k => sat_nil k) k) k)⟩
    · have g3 : ¬ u.at_ < t.at_ := of_decide_eq_false g3
      exact ⟨⟨(k + 1, i), g, hb.keep ht hq g3⟩, by show m.length - (k + 1) < m.length - k; omega, Le.of rfl ⟨⟨_, rfl, rfl⟩, ⟨_, rfl, rfl⟩, ⟨_, rfl, rfl⟩, ⟨_, rfl, rfl⟩, ⟨_, rfl, congrArg (fun z => some (Value.int .i64 z)) ek⟩, trivial⟩ (fun h k => sat_pick 0 rfl (by first | exact fun _ k => k | exact fun _ k => blk_to rfl rfl k | exact fun _ k => vec_to rfl k | exact fun _ k => blk_of rfl rfl k | exact fun _ k => vec_of rfl k | exact fun _ k => blk_of rfl rfl (blk_to rfl rfl k) | exact fun _ k => vec_of rfl (vec_to rfl k) | exact fun _ k => mp_to rfl k | exact fun _ k => mp_of rfl k | exact fun _ k => mp_of rfl (mp_to rfl k)) (fun h k => sat_pick 0 rfl (by first | exact fun _ k => k | exact fun _ k => blk_to rfl rfl k | exact fun _ k => vec_to rfl k | exact fun _ k => blk_of rfl rfl k | exact fun _ k => vec_of rfl k | exact fun _ k => blk_of rfl rfl (blk_to rfl rfl k) | exact fun _ k => vec_of rfl (vec_to rfl k) | exact fun _ k => mp_to rfl k | exact fun _ k => mp_of rfl k | exact fun _ k => mp_of rfl (mp_to rfl k)) (fun h k => sat_nil k) k) k)⟩
  have g : k = m.length := by
    have g := of_decide_eq_false g
    have : ¬ (k : Int) < m.length := g
    omega
  subst g
  refine CondOb.split (fun g => ?_) (fun g => ?_)
  · have g : b < 0 := of_decide_eq_true g
    refine FinOb.mk [.slice (locAddr 0 plM) m.length cM, .slice (locAddr 0 plO) out.length cO] [Vec plM 171 2 cM (UL.flat m), Vec plO 3 1 cO (IL.flat out)] rfl (fun h k => sat_pick 0 rfl (fun _ k => vec_to rfl k) (fun h k => sat_pick 0 rfl (fun _ k => vec_to rfl k) (fun h k => sat_nil k) k) k) ⟨out, m, plM, cM, plO, cO, rfl, hp, ?_, hmc, hoc, rfl⟩
    intro t ht
    rcases hb with ⟨_, h2⟩ | ⟨i, t, h1, _⟩
    · obtain ⟨j, hj, e⟩ := List.getElem_of_mem ht
      exact h2 j t hj (by rw [List.getElem?_eq_getElem hj, e])
    · omega
  have g : ¬ b < 0 := of_decide_eq_false g
  obtain ⟨i, t, rfl, hpk⟩ : ∃ (i : Nat) (t : U), b = i ∧ Pick x m i t := by
    rcases hb with ⟨h1, _⟩ | ⟨i, t, h1, h2, h3, h4, h5, h6⟩
    · omega
    · exact ⟨i, t, h1, h3, h4, h5, fun j u hu => h6 j u (List.getElem?_eq_some_iff.1 hu).1 hu⟩
  have hi := (List.getElem?_eq_some_iff.1 hpk.at_).1
  obtain ⟨pb, po, rfl⟩ := hpm (by omega)
  have hll : (m.eraseIdx i).length = m.length - 1 := by rw [List.length_eraseIdx, if_pos hi]
  have e1 : IntKind.i64.wrap ((i : Int) + 1) = i + 1 := w64 (by omega) (by omega)
  have e2 : (IntKind.i64.wrap ((i : Int) + 1)).toNat = i + 1 := by rw [e1]; omega
  refine Need.mk (show (0 : Int) ≤ (i : Int) ∧ (i : Int) < (m.length : Nat) from ⟨by omega, by omega⟩) ?_
  refine RdOb.mk (.int .i64 t.id) _ rfl (by rw [Int.toNat_natCast, Nat.zero_add]; exact UL.flat_at hpk.at_ (j := 0) rfl) ?_
  have hO : (IL.flat out).length = out.length * 1 := by rw [lI, Nat.mul_one]
  intro b3
  refine StOb.mk (IL.cells t.id) rfl (Need.mk rfl ?_)
  refine Need.mk ⟨by rw [hO]; omega, by omega, hoc⟩ ?_
  refine Need.mk ⟨by omega, by simp only [maxLen]; omega, IL.one _⟩ ?_
  refine NewSl.pos (Nat.succ_pos _) (fun b6 o6 c6 hc6 => ?_)
  refine DrawOb.mk [(0, [1, 2, 3, 5, 6, 7, 8]), (4, [5, 6, 7, 8])] (.run [1, 2, 3, 5, 6, 7, 8, 0, 4, 9, 10] .nil) (by kernel_rfl) ?_
  have hP : (UL.flat (m.take i)).length = i * 2 := by rw [lU, List.length_take, Nat.min_eq_left (by omega)]
  have hQ : (UL.flat (m.drop (i + 1))).length = (m.length - (i + 1)) * 2 := by rw [lU, List.length_drop]
  have tP : (UL.flat m).take (i * 2) = UL.flat (m.take i) := UL.flat_take m i
  have tQ : ((UL.flat m).drop (if cM = i + 1 then 0 else (i + 1) * 2)).take ((m.length - (i + 1)) * 2) = UL.flat (m.drop (i + 1)) := by
    by_cases hci : cM = i + 1
    · have : m.length = i + 1 := by omega
      rw [this, Nat.sub_self, Nat.zero_mul, List.take_zero, List.drop_of_length_le (l := m) (by omega)]
      rfl
    · have : (UL.flat m).drop ((i + 1) * 2) = UL.flat (m.drop (i + 1)) := UL.flat_drops m (i + 1)
      rw [if_neg hci, this, List.take_of_length_le (by rw [hQ]; exact Nat.le_refl _)]
  refine Need.mk (by dsimp only; omega) ?_
  refine Need.mk (by dsimp only; omega) ?_
  intro b1
  refine Need.mk (by dsimp only; rw [hF, Int.toNat_natCast]; omega) ?_
  refine StOb.mk [] rfl (Need.mk (by simp) ?_)
  refine Need.mk ⟨by dsimp only; omega, by dsimp only; simp only [maxLen]; omega, fun v hv => UL.flat_one' _ v (List.mem_of_mem_drop (List.mem_of_mem_take hv))⟩ ?_
  refine NewSl.any (fun l2 c2 hc2 => ?_)
  refine Need.mk (by dsimp only; rw [e2, hF]; split <;> omega) ?_
  refine Need.mk (by dsimp only; rw [Nat.zero_mul, List.take_zero, List.nil_append, List.drop_zero, Int.toNat_natCast, tP, hP]; rw [Int.toNat_natCast] at hc2; omega) ?_
  refine Need.mk ⟨by dsimp only; rw [e2, Int.toNat_natCast]; omega, by dsimp only; rw [e2, Int.toNat_natCast]; simp only [maxLen]; omega, fun v hv => UL.flat_one' _ v (List.mem_of_mem_drop (List.mem_of_mem_take hv))⟩ ?_
  refine NewSl.both (fun l3 c3 hc3 hl3 => ?_)
  dsimp only at hc3 hl3
  rw [e2, Int.toNat_natCast] at hc3 hl3
  have e : 0 + i + (m.length - (i + 1)) = (m.eraseIdx i).length := by omega
  rw [e] at hc3 hl3
  refine ⟨⟨(out ++ [t.id], m.eraseIdx i, l3, c3, .at b6 o6, c6), hp.snoc hpk, by show (out ++ [t.id]).length + (m.eraseIdx i).length = l.length; rw [List.length_append, List.length_singleton]; omega, hc3, by show (out ++ [t.id]).length ≤ c6; rw [List.length_append, List.length_singleton]; omega, hl3⟩, by show (m.eraseIdx i).length < m.length; omega, Le.of rfl ⟨⟨_, rfl, (congrArg (fun q : Nat => some (Value.slice (locAddr 0 l3) q c3)) (by dsimp only; rw [e2, Int.toNat_natCast]; exact e))⟩, ⟨_, rfl, rfl⟩, ⟨_, rfl, (congrArg (fun q : Nat => some (Value.slice (some ⟨b6, o6, none⟩) q c6)) (by simp))⟩, trivial⟩ (fun h k => sat_pick 0 rfl (fun _ k9 => vec_of rfl ?_) (fun h k => sat_pick 0 rfl (fun _ k9 => vec_of rfl ?_) (fun h k => sat_nil k) k) k)⟩
  · have kk := vec_to (l := l3) rfl k9
    dsimp only at kk
    rw [e2] at kk
    simp only [Int.toNat_natCast, Nat.zero_add, Nat.zero_mul, List.take_zero, List.nil_append, List.drop_zero, tP, tQ] at kk
    rw [List.take_of_length_le (l := UL.flat (m.take i)) (by rw [hP]; exact Nat.le_refl _), ← UL.flat_append, ← List.eraseIdx_eq_take_drop_succ] at kk
    exact kk
  · have kk := vec_to (l := .at b6 o6) rfl k9
    rw [List.drop_zero, List.take_of_length_le (by rw [hO]; exact Nat.le_refl _), ← IL.flat_one, ← IL.flat_append] at kk
    exact kk
end Go.Proofs.Ytiknkeakielncaa.Wh
