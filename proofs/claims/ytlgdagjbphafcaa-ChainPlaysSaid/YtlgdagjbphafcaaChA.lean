/- What the small functions of towrope/chain and of its reference do, and those of the library that they call. Conditions: none. -/
import Derived.Test.YtlgdagjbphafcaaProg
import Derived.Test.YtlgdagjbphafcaaE19
namespace Go.Proofs.Ytlgdagjbphafcaa.Ch
open Go Go.Proofs Sx
set_option maxRecDepth 100000
set_option linter.unusedVariables false

abbrev I := ints .i64
theorem code_spec (n : Int) : Does Try.prog 41 #[.int .i64 n] (fun _ => True) [] (fun v p => v = .int .i64 n ∧ p = []) := by
  refine Does.of Try.func41 Try.call41 rfl [.int .i64 n] [] 0 [] rfl rfl (fun h k => k) (fun f hR => ?_)
  exact FinOb.mk _ [] rfl (fun h k => trivial) ⟨rfl, rfl⟩
/-! ### Same numbers -/
theorem same_spec (A B : Option Addr) (c d : Nat) (l m : List Int) (hl : l.length ≤ 1000000000) :
    Does Try.prog 45 #[.slice A l.length c, .slice B m.length d] (fun f => Reads f A (I.flat l) ∧ Reads f B (I.flat m)) [] (fun v q => v = .bool (decide (l = m)) ∧ q = []) := by
  refine Does.of Try.func45 Try.call45 rfl [.raw (.slice A l.length c), .raw (.slice B m.length d)] [] 0 [] rfl rfl (fun h k => k) (fun f hR => ?_)
  obtain ⟨hA, hB⟩ := hR
  refine CondOb.split (fun g => ?_) (fun g => ?_)
  · refine FinOb.mk _ [] rfl (fun h k => trivial) ⟨?_, rfl⟩
    have : l ≠ m := fun e => by subst e; simp at g
    simp [this, ret1]
  have hlm : l.length = m.length := Int.ofNat.inj (by simpa using g)
  refine LoopOb.mk { i : Nat // i ≤ l.length ∧ l.take i = m.take i } (fun z => ⟨26, [(0, .raw (.slice A l.length c)), (1, .raw (.slice B m.length d)), (5, .int .i64 z.1)], [], 0, []⟩) (fun z => l.length - z.1) ⟨0, by omega, rfl⟩ ?_ ?_
  · exact Le.of rfl ⟨⟨_, rfl, rfl⟩, ⟨_, rfl, rfl⟩, ⟨_, rfl, rfl⟩, trivial⟩ (fun h k => k)
  rintro ⟨i, hi, hall⟩
  refine CondOb.split (fun g2 => ?_) (fun g2 => ?_)
  rotate_left
  · simp only [decide_eq_false_iff_not] at g2
    replace g2 : ¬ (i : Int) < l.length := g2
    refine FinOb.mk _ [] rfl (fun h k => trivial) ⟨?_, rfl⟩
    have : l = m := by
      rw [List.take_of_length_le (by omega), List.take_of_length_le (by omega)] at hall; exact hall
    simp [this, ret1]
  simp only [decide_eq_true_eq] at g2
  replace g2 : (i : Int) < l.length := g2
  have h1 := List.getElem?_eq_getElem (show i < l.length by omega)
  have h2 := List.getElem?_eq_getElem (show i < m.length by omega)
  generalize l[i]'(by omega) = a at *
  generalize m[i]'(by omega) = b at *
  obtain ⟨ba, oa, rfl, fa⟩ := hA.lay (by decide) h1
  obtain ⟨bb, ob, rfl, fb⟩ := hB.lay (by decide) h2
  refine DrawOb.mk [] (.run [0, 1, 2, 3, 4, 5, 6, 7, 8] .nil) (by kernel_rfl) ?_
  refine Need.mk ⟨Int.natCast_nonneg i, g2⟩ (RawAt.mk ba oa rfl ?_)
  refine RdRaw.mk (.int .i64 a) _ rfl (fa 0 _ rfl) ?_
  refine Need.mk ⟨Int.natCast_nonneg i, by show (i : Int) < m.length; omega⟩ (RawAt.mk bb ob rfl ?_)
  refine RdRaw.mk (.int .i64 b) _ rfl (fb 0 _ rfl) ?_
  refine CondOb.split (fun g3 => ?_) (fun g3 => ?_)
  · refine FinOb.mk _ [] rfl (fun h k => trivial) ⟨?_, rfl⟩
    have hab : a ≠ b := by simpa using g3
    have : l ≠ m := fun e => by subst e; rw [h1] at h2; simp at h2; exact hab h2
    simp [this, ret1]
  have hab : a = b := by simpa using g3
  have ei : IntKind.i64.wrap ((i : Int) + 1) = ((i + 1 : Nat) : Int) := by rw [w64 (by omega) (by omega)]; omega
  refine ⟨⟨i + 1, by omega, ?_⟩, ?_, ?_⟩
  · rw [List.take_add_one, List.take_add_one, hall, h1, h2, hab]
  · show l.length - (i + 1) < l.length - i
    omega
  · exact Le.of rfl ⟨⟨_, rfl, rfl⟩, ⟨_, rfl, rfl⟩, ⟨_, rfl, congrArg (fun z => some (Value.int .i64 z)) ei⟩, trivial⟩ (fun h k => k)
/-! ### A pointer's number -/
def ptrO : Option (Nat × Int) → Value
  | none => .pointer none
  | some (c, _) => .pointer (some ⟨c, 0, none⟩)
def numO : Option (Nat × Int) → Int
  | none => 0
  | some (_, n) => n
theorem place_spec (p : Option (Nat × Int)) : Does Try.prog 101 #[ptrO p] (fun f => ∀ c n, p = some (c, n) → fcell f c 0 = some (.int .i64 n)) [] (fun v q => v = .tuple #[.int .i64 (numO p), .bool p.isSome] ∧ q = []) := by
  cases p with
  | none =>
    refine Does.of Try.func101 Try.call101 rfl [.nilp] [] 0 [] rfl rfl (fun h k => k) (fun f hR => ?_)
    exact FinOb.mk [.int .i64 0, .bool false] [] rfl (fun h k => trivial) ⟨rfl, rfl⟩
  | some p =>
    obtain ⟨c, n⟩ := p
    refine Does.of Try.func101 Try.call101 rfl [.raw (.pointer (some ⟨c, 0, none⟩))] [] 0 [] rfl rfl (fun h k => k) (fun f hR => ?_)
    refine RdRaw.mk (.int .i64 n) _ rfl (hR c n rfl) ?_
    exact FinOb.mk [.int .i64 n, .bool true] [] rfl (fun h k => trivial) ⟨rfl, rfl⟩
/-! ### A list's copy -/
theorem clone_spec (A : Option Addr) (cap : Nat) (l : List Int) (hk : l.length ≤ 1000000000) :
    Does Try.prog 87 #[.slice A l.length cap] (fun f => Reads f A (I.flat l)) [] (fun v q => ∃ p cap', v = .slice (locAddr 0 p) l.length cap' ∧ q = [Vec p 3 1 cap' (I.flat l)]) := by
  refine Does.of Try.func87 Try.call87 rfl [.raw (.slice A l.length cap)] [] 0 [] rfl rfl (fun h k => k) (fun f hR => ?_)
  have hl := (I).flat_length l
  cases A with
  | none =>
    have h0 : l = [] := by
      cases l with
      | nil => rfl
      | cons v ys => obtain ⟨_, _, h, _⟩ := hR.lay (by decide) (i := 0) rfl; cases h
    subst h0
    exact FinOb.mk [.slice none 0 0] [Vec .nil 3 1 0 []] rfl (fun h k => ⟨HP.emp, h, .emp_left h, vec_emp, trivial⟩) ⟨.nil, 0, rfl, rfl⟩
  | some ad =>
    intro b
    refine SrcF.mk (I.flat l) (by rw [hl]; rfl) hR ?_
    refine StOb.mk [] rfl (Need.mk (by simp) (Need.mk ⟨by omega, by simp only [maxLen]; omega, (I).flat_one' l⟩ ?_))
    refine NewSl.any (fun p cap' hc => ?_)
    exact FinOb.mk [.slice (locAddr 0 p) (0 + l.length) cap'] [Vec p 3 1 cap' (I.flat l)] rfl (fun h k => sat_cons (fun h => vec_to rfl) (fun h k => (trivial : sat [] h)) k) ⟨p, cap', by simp [ret1], rfl⟩
/-! ### Deleting a number -/
theorem eqc_spec (x id : Int) (c : Nat) : Does Try.prog 111 #[.int .i64 x, .pointer (some ⟨c, 0, none⟩)] (fun f => fcell f c 0 = some (.int .i64 id)) [] (fun v q => v = .bool (x == id) ∧ q = []) := by
  refine Does.of Try.func111 Try.call111 rfl [.int .i64 x, .raw (.pointer (some ⟨c, 0, none⟩))] [] 0 [] rfl rfl (fun h k => k) (fun f hR => ?_)
  refine RdRaw.mk (.int .i64 id) _ rfl hR ?_
  exact FinOb.mk _ [] rfl (fun h k => trivial) ⟨rfl, rfl⟩
theorem ixf_spec (id : Int) (c : Nat) (A : Option Addr) (cp : Nat) (l : List Int) (hl : l.length ≤ 1000000000) :
    Does Try.prog 124 #[.slice A l.length cp, .func (.func 111) #[] #[.pointer (some ⟨c, 0, none⟩)]] (fun f => Reads f A (I.flat l) ∧ fcell f c 0 = some (.int .i64 id)) []
      (fun v q => q = [] ∧ ((id ∉ l ∧ v = .int .i64 (-1)) ∨ ∃ i : Nat, l[i]? = some id ∧ id ∉ l.take i ∧ v = .int .i64 i)) := by
  refine Does.of Try.func124 Try.call124 rfl [.raw (.slice A l.length cp), .fn (.func 111) [] [.raw (.pointer (some ⟨c, 0, none⟩))]] [] 0 [] rfl rfl (fun h k => k) (fun f hR => ?_)
  obtain ⟨hA, hc⟩ := hR
  refine LoopOb.mk { i : Nat // i ≤ l.length ∧ id ∉ l.take i } (fun z => ⟨19, [(0, .raw (.slice A l.length cp)), (1, .fn (.func 111) [] [.raw (.pointer (some ⟨c, 0, none⟩))]), (7, .int .i64 l.length), (8, .int .i64 z.1)], [], 0, []⟩) (fun z => l.length - z.1) ⟨0, by omega, by simp⟩ ?_ ?_
  · exact Le.of rfl ⟨⟨_, rfl, rfl⟩, ⟨_, rfl, rfl⟩, ⟨_, rfl, rfl⟩, ⟨_, rfl, rfl⟩, trivial⟩ (fun h k => k)
  rintro ⟨i, hi, hall⟩
  refine CondOb.split (fun g => ?_) (fun g => ?_)
  rotate_left
  · simp only [decide_eq_false_iff_not] at g
    replace g : ¬ (i : Int) < l.length := g
    refine FinOb.mk [.int .i64 (-1)] [] rfl (fun h k => k) ⟨rfl, .inl ⟨?_, rfl⟩⟩
    rw [List.take_of_length_le (by omega)] at hall; exact hall
  simp only [decide_eq_true_eq] at g
  replace g : (i : Int) < l.length := g
  have hq := List.getElem?_eq_getElem (show i < l.length by omega)
  generalize l[i]'(by omega) = m at *
  obtain ⟨ba, o, rfl, hf⟩ := hA.lay (by decide) hq
  have ei : IntKind.i64.wrap ((i : Int) + 1) = ((i + 1 : Nat) : Int) := by rw [w64 (by omega) (by omega)]; omega
  refine Need.mk ⟨Int.natCast_nonneg i, g⟩ (RawAt.mk ba o rfl ?_)
  refine RdRaw.mk (.int .i64 m) _ rfl (hf 0 _ rfl) ?_
  refine useR (.bool (m == id)) (eqc_spec m id c) rfl (fun f' b hs _ => frame_cell hs hc) rfl ?_
  refine CondOb.split (fun g2 => ?_) (fun g2 => ?_)
  · have g2 : m = id := by simpa using g2
    subst g2
    exact FinOb.mk [.int .i64 i] [] rfl (fun h k => k) ⟨rfl, .inr ⟨i, hq, hall, rfl⟩⟩
  · have g2 : ¬ m = id := by simpa using g2
    refine ⟨⟨i + 1, by omega, ?_⟩, ?_, Le.of rfl ⟨⟨_, rfl, rfl⟩, ⟨_, rfl, rfl⟩, ⟨_, rfl, rfl⟩, ⟨_, rfl, congrArg (fun z => some (Value.int .i64 z)) ei⟩, trivial⟩ (fun h k => k)⟩
    · rw [List.take_add_one, hq]
      simp only [Option.toList, List.mem_append, List.mem_singleton]
      rintro (h | h)
      · exact hall h
      · exact g2 h.symm
    · show l.length - (i + 1) < l.length - i
      omega
def without (id : Int) (l : List Int) : List Int := l.filter (fun n => n != id)
theorem without_step {id : Int} {l : List Int} {i : Nat} {m : Int} (h : l[i]? = some m) : without id (l.take (i + 1)) = without id (l.take i) ++ (if m = id then [] else [m]) := by
  rw [List.take_add_one, h]
  simp only [without, List.filter_append, Option.toList, List.filter_cons, List.filter_nil]
  by_cases e : m = id
  · subst e; simp
  · simp [e]
theorem without_none {id : Int} {l : List Int} (h : id ∉ l) : without id l = l := by
  rw [without, List.filter_eq_self]
  intro a ha
  have : a ≠ id := fun e => h (by rw [← e]; exact ha)
  simpa using this
structure Id (id : Int) (l : List Int) where
  j : Nat
  G : List Value
  hj : j ≤ l.length
  less : (without id (l.take j)).length + 1 ≤ j
  hG : G.length = j - (without id (l.take j)).length
def SD (id : Int) (l : List Int) (c bl ol cp : Nat) (z : Id id l) : St :=
  ⟨42, [(0, .sl 1 0 l.length cp), (1, .fn (.func 111) [] [.raw (.pointer (some ⟨c, 0, none⟩))]), (5, .int .i64 (without id (l.take z.j)).length), (6, .int .i64 z.j)], [(1, .at bl ol)], 2, [.vec 1 3 1 cp (I.flat (without id (l.take z.j)) ++ z.G ++ I.flat (l.drop z.j))]⟩
theorem del_at (id : Int) (c bl ol cp : Nat) (l : List Int) (hc : l.length ≤ cp) (hl : l.length ≤ 1000000000) :
    Does Try.prog 110 #[.slice (locAddr 0 (.at bl ol)) l.length cp, .func (.func 111) #[] #[.pointer (some ⟨c, 0, none⟩)]] (fun f => fcell f c 0 = some (.int .i64 id)) [Vec (.at bl ol) 3 1 cp (I.flat l)]
      (fun v q => v = .slice (locAddr 0 (.at bl ol)) (without id l).length cp ∧ q = [Vec (.at bl ol) 3 1 cp (I.flat (without id l))]) := by
  refine Does.of Try.func110 Try.call110 rfl [.sl 1 0 l.length cp, .fn (.func 111) [] [.raw (.pointer (some ⟨c, 0, none⟩))]] [(1, .at bl ol)] 2 [.vec 1 3 1 cp (I.flat l)] rfl rfl (fun h k => sat_pick 0 rfl (by first | exact fun _ k => k | exact fun _ k => blk_to rfl rfl k | exact fun _ k => vec_to rfl k | exact fun _ k => blk_of rfl rfl k | exact fun _ k => vec_of rfl k | exact fun _ k => blk_of rfl rfl (blk_to rfl rfl k) | exact fun _ k => vec_of rfl (vec_to rfl k)) (fun h k => sat_nil k) k) (fun f hR => ?_)
  refine call_asn (pre := []) [] [_] (ixf_spec id c (locAddr 0 (.at bl ol)) cp l hl) rfl rfl (fun f' b' hs hk => ⟨vec_reads 0 hs hk rfl (l := .at bl ol) rfl, frame_cell hs hR⟩) ?_
  rintro v post ⟨rfl, ⟨hno, rfl⟩ | ⟨i, hm, hb, rfl⟩⟩
  · refine ⟨.int .i64 (-1), _, 2, NmExt.refl _, rfl, _, fun h k => sat_asns k, ?_⟩
    refine CondOb.split (fun _ => ?_) (fun h => absurd h (by decide))
    rw [without_none hno]
    exact FinOb.mk [.slice (locAddr 0 (.at bl ol)) l.length cp] [Vec (.at bl ol) 3 1 cp (I.flat l)] rfl (fun h k => sat_pick 0 rfl (by first | exact fun _ k => k | exact fun _ k => blk_to rfl rfl k | exact fun _ k => vec_to rfl k | exact fun _ k => blk_of rfl rfl k | exact fun _ k => vec_of rfl k | exact fun _ k => blk_of rfl rfl (blk_to rfl rfl k) | exact fun _ k => vec_of rfl (vec_to rfl k)) (fun h k => sat_nil k) k) ⟨rfl, rfl⟩
  refine ⟨.int .i64 i, _, 2, NmExt.refl _, rfl, _, fun h k => sat_asns k, ?_⟩
  have hi := (List.getElem?_eq_some_iff.1 hm).1
  refine CondOb.split (fun h => absurd h (by simp)) (fun _ => ?_)
  have ei : IntKind.i64.wrap ((i : Int) + 1) = ((i + 1 : Nat) : Int) := by rw [w64 (by omega) (by omega)]; omega
  have s0 : without id (l.take i) = l.take i := without_none hb
  have s1 := without_step (id := id) hm
  rw [if_pos rfl, List.append_nil, s0] at s1
  have sl : (without id (l.take (i + 1))).length = i := by rw [s1]; simp; omega
  refine LoopOb.mk (Id id l) (SD id l c bl ol cp) (fun z => l.length - z.j) ⟨i + 1, [.int .i64 id], by omega, by omega, by rw [sl]; simp⟩ ?_ ?_
  · refine Le.of rfl ⟨⟨_, rfl, rfl⟩, ⟨_, rfl, rfl⟩, ⟨_, rfl, congrArg (fun z => some (Value.int .i64 z)) (by rw [sl])⟩, ⟨_, rfl, congrArg (fun z => some (Value.int .i64 z)) ei⟩, trivial⟩ (fun h k => sat_pick 0 rfl (fun _ k => vec_of rfl (by have k := vec_to (l := .at bl ol) rfl k; simp only [s1]; rw [(I).flat_split l i, (I).flat_drop hm, ← List.append_assoc] at k; exact k)) (fun h k => sat_nil k) k)
  rintro ⟨j, G, hj, less, hG⟩
  have hK := (I).flat_length (without id (l.take j))
  have hD := (I).flat_length (l.drop j)
  have e1 : (I).sz = 1 := rfl
  rw [e1, Nat.mul_one] at hK hD
  refine CondOb.split (fun g => ?_) (fun g => ?_)
  rotate_left
  · simp only [decide_eq_false_iff_not] at g
    replace g : ¬ (j : Int) < l.length := g
    have ej : j = l.length := by omega
    subst ej
    have et : l.take l.length = l := List.take_length
    refine Need.mk (by simp only; omega) ?_
    rw [et] at less hG hK
    have hne : ¬ cp = ((without id (l.take l.length)).length : Int).toNat := by rw [et, Int.toNat_natCast]; omega
    refine Need.mk ?_ ?_
    · show (if cp = ((without id (l.take l.length)).length : Int).toNat then 0 else 0 + ((without id (l.take l.length)).length : Int).toNat * 1) + (l.length - ((without id (l.take l.length)).length : Int).toNat) * 1 ≤ (I.flat (without id (l.take l.length)) ++ G ++ I.flat (l.drop l.length)).length
      rw [if_neg hne, et, Int.toNat_natCast]
      simp only [List.length_append, hK, hG]; omega
    refine Need.mk (by rw [et]; omega) ?_
    refine FinOb.mk [.slice (locAddr 0 (.at bl ol)) ((without id (l.take l.length)).length : Int).toNat cp] [Vec (.at bl ol) 3 1 cp (I.flat (without id l))] rfl (fun h k => sat_pick 0 rfl (fun _ k => ?_) (fun h k => sat_nil k) k) ⟨by rw [et, Int.toNat_natCast]; rfl, rfl⟩
    have k := clear_cut (by rw [if_neg hne, et, Int.toNat_natCast, hK]; omega) (by rw [flat_len, et, Int.toNat_natCast, hG]; show (_ - _) * 1 ≤ _; omega) (vec_to (l := .at bl ol) rfl k)
    rw [et] at k
    exact k
  simp only [decide_eq_true_eq] at g
  replace g : (j : Int) < l.length := g
  have hq := List.getElem?_eq_getElem (show j < l.length by omega)
  generalize l[j]'(by omega) = q at *
  have ej1 : IntKind.i64.wrap ((j : Int) + 1) = ((j + 1 : Nat) : Int) := by rw [w64 (by omega) (by omega)]; omega
  have hfd := (I).flat_drop hq
  refine Need.mk ⟨Int.natCast_nonneg j, g⟩ ?_
  refine RdOb.mk (.int .i64 q) _ rfl ?_ ?_
  · have : 0 + (j : Int).toNat * 1 = (I.flat (without id (l.take j)) ++ G).length := by simp only [List.length_append, hK, hG, Int.toNat_natCast]; omega
    show (I.flat (without id (l.take j)) ++ G ++ I.flat (l.drop j))[0 + (j : Int).toNat * 1]? = _
    rw [this, List.getElem?_append_right (Nat.le_refl _), Nat.sub_self, hfd]; rfl
  refine useR (.bool (q == id)) (eqc_spec q id c) rfl (fun f' b hs _ => frame_cell hs hR) rfl ?_
  have ss := without_step (id := id) hq
  refine CondOb.split (fun g2 => ?_) (fun g2 => ?_)
  · have g2 : ¬ q = id := by simpa using g2
    rw [if_neg g2] at ss
    have ek : IntKind.i64.wrap (((without id (l.take j)).length : Int) + 1) = ((without id (l.take (j + 1))).length : Int) := by
      rw [ss, w64 (by omega) (by omega)]; simp
    refine Need.mk (by simp only; omega) ?_
    refine StOb.mk [.int .i64 q] rfl (Need.mk ?_ ?_)
    · simp only [List.length_append, hK, hD, hG, List.length_drop, Int.toNat_natCast]
      show 0 + _ * 1 + 1 ≤ _
      omega
    refine ⟨⟨j + 1, G.drop 1 ++ [.int .i64 q], by omega, by rw [ss, List.length_append]; simp only [List.length_singleton]; omega, ?_⟩, ?_, ?_⟩
    · rw [ss]; simp only [List.length_append, List.length_drop, hG, List.length_singleton]; omega
    · show l.length - (j + 1) < l.length - j
      omega
    · refine Le.of rfl ⟨⟨_, rfl, rfl⟩, ⟨_, rfl, rfl⟩, ⟨_, rfl, congrArg (fun z => some (Value.int .i64 z)) ek⟩, ⟨_, rfl, congrArg (fun z => some (Value.int .i64 z)) ej1⟩, trivial⟩ (fun h k => sat_pick 0 rfl (fun _ k => ?_) (fun h k => sat_nil k) k)
      have k := vec_to (l := .at bl ol) rfl k
      refine vec_of rfl ?_
      have hn : 0 + ((without id (l.take j)).length : Int).toNat * 1 = (I.flat (without id (l.take j))).length := by rw [hK, Int.toNat_natCast]; omega
      have e := putV_mid (K := I.flat (without id (l.take j))) (G := G) (T := I.flat (l.drop j)) (c := [.int .i64 q]) hn (by rw [hG]; show 1 ≤ _; omega)
      have k : Vec (.at bl ol) 3 1 cp (putV (I.flat (without id (l.take j)) ++ G ++ I.flat (l.drop j)) (0 + ((without id (l.take j)).length : Int).toNat * 1) [.int .i64 q]) _ := k
      rw [e] at k
      simp only [ss, (I).flat_append, (I).flat_one]
      have e3 : I.flat (without id (l.take j)) ++ [.int .i64 q] ++ (G.drop 1 ++ I.flat (l.drop j)) = I.flat (without id (l.take j)) ++ [.int .i64 q] ++ (G.drop 1 ++ [.int .i64 q]) ++ I.flat (l.drop (j + 1)) := by
        rw [hfd]; simp [ints]
      have k : Vec (.at bl ol) 3 1 cp (I.flat (without id (l.take j)) ++ [.int .i64 q] ++ (G.drop 1 ++ I.flat (l.drop j))) _ := k
      rw [e3] at k
      exact k
  · have g2 : q = id := by simpa using g2
    rw [if_pos g2, List.append_nil] at ss
    refine ⟨⟨j + 1, G ++ [.int .i64 q], by omega, by rw [ss]; omega, by rw [ss]; simp only [List.length_append, hG, List.length_singleton]; omega⟩, ?_, ?_⟩
    · show l.length - (j + 1) < l.length - j
      omega
    · refine Le.of rfl ⟨⟨_, rfl, rfl⟩, ⟨_, rfl, rfl⟩, ⟨_, rfl, congrArg (fun z => some (Value.int .i64 z)) (by rw [ss])⟩, ⟨_, rfl, congrArg (fun z => some (Value.int .i64 z)) ej1⟩, trivial⟩ (fun h k => sat_pick 0 rfl (fun _ k => ?_) (fun h k => sat_nil k) k)
      have k := vec_to (l := .at bl ol) rfl k
      refine vec_of rfl ?_
      simp only [ss]
      have e : I.flat (without id (l.take j)) ++ G ++ I.flat (l.drop j) = I.flat (without id (l.take j)) ++ (G ++ [.int .i64 q]) ++ I.flat (l.drop (j + 1)) := by
        rw [hfd]; simp [ints]
      rw [← e]
      exact k
theorem del_nil (id : Int) (c cp : Nat) :
    Does Try.prog 110 #[.slice none 0 cp, .func (.func 111) #[] #[.pointer (some ⟨c, 0, none⟩)]] (fun f => fcell f c 0 = some (.int .i64 id)) [] (fun v q => v = .slice none 0 cp ∧ q = []) := by
  refine Does.of Try.func110 Try.call110 rfl [.raw (.slice none 0 cp), .fn (.func 111) [] [.raw (.pointer (some ⟨c, 0, none⟩))]] [] 0 [] rfl rfl (fun h k => k) (fun f hR => ?_)
  refine call_asn (pre := []) [] [] (ixf_spec id c none cp [] (by simp)) rfl rfl (fun f' b' hs hk => ⟨Reads.nil _ _, frame_cell hs hR⟩) ?_
  rintro v post ⟨rfl, ⟨hno, rfl⟩ | ⟨i, hm, _⟩⟩
  · refine ⟨.int .i64 (-1), _, 0, NmExt.refl _, rfl, _, fun h k => sat_asns k, ?_⟩
    refine CondOb.split (fun _ => ?_) (fun h => absurd h (by decide))
    exact FinOb.mk [.slice none 0 cp] [] rfl (fun h k => k) ⟨rfl, rfl⟩
  · simp at hm
theorem del_spec (id : Int) (c : Nat) (p : Plc) (cp : Nat) (l : List Int) (hc : l.length ≤ cp) (hl : l.length ≤ 1000000000) :
    Does Try.prog 110 #[.slice (locAddr 0 p) l.length cp, .func (.func 111) #[] #[.pointer (some ⟨c, 0, none⟩)]] (fun f => fcell f c 0 = some (.int .i64 id)) [Vec p 3 1 cp (I.flat l)]
      (fun v q => v = .slice (locAddr 0 p) (without id l).length cp ∧ q = [Vec p 3 1 cp (I.flat (without id l))]) := by
  cases p with
  | «at» bl ol => exact del_at id c bl ol cp l hc hl
  | nil =>
    cases l with
    | nil => exact (frameOf' [Vec .nil 3 1 cp (I.flat [])] (del_nil id c cp)).mono (by rintro v q ⟨q', ⟨rfl, rfl⟩, rfl⟩; exact ⟨rfl, rfl⟩)
    | cons n l =>
      refine nope Try.call110 fun h k => ?_
      obtain ⟨_, _, h1⟩ := vec_sures k (by rw [(I).flat_cons]; simp [ints])
      cases h1
end Go.Proofs.Ytlgdagjbphafcaa.Ch
