/- wheel: the order of what is due; Tick. Conditions: none. -/
import Derived.Test.YtiknkeakielncaaWhJ
import Derived.Test.YtiknkeakielncaaSoA
namespace Go.Proofs.Ytiknkeakielncaa.Wh
open Go Go.Proofs Sx
set_option maxRecDepth 100000
set_option linter.unusedVariables false
set_option linter.unusedSimpArgs false
set_option maxHeartbeats 4000000

theorem nan_spec (x : Int) : Does Try.prog 102 #[.int .i64 x] (fun _ => True) [] (fun v p => v = .bool false ∧ p = []) := by
  refine Does.ofJ Try.func102 Try.call102 rfl [.int .i64 x] [] 0 [] rfl rfl (fun h k => k) (fun f hR => ?_)
  exact FinOb.mk _ [] rfl (fun h k => trivial) ⟨by simp [ret1], rfl⟩
def cmpI (x y : Int) : Int := if x < y then -1 else if y < x then 1 else 0
theorem cmp_spec (x y : Int) : Does Try.prog 71 #[.int .i64 x, .int .i64 y] (fun _ => True) [] (fun v p => v = .int .i64 (cmpI x y) ∧ p = []) := by
  refine Does.ofJ Try.func71 Try.call71 rfl [.int .i64 x, .int .i64 y] [] 0 [] rfl rfl (fun h k => k) (fun f hR => ?_)
  refine useP .ff (nan_spec x) rfl rfl ?_
  refine useP .ff (nan_spec y) rfl rfl ?_
  refine CondOb.split (fun g => ?_) (fun g => ?_)
  · have g : x < y := by simpa using g
    exact FinOb.mk _ [] rfl (fun h k => trivial) ⟨by simp [ret1, cmpI, g], rfl⟩
  have g : ¬ x < y := by simpa using g
  refine CondOb.split (fun g2 => ?_) (fun g2 => ?_)
  · have g2 : y < x := by simpa using g2
    exact FinOb.mk _ [] rfl (fun h k => trivial) ⟨by simp [ret1, cmpI, g, g2], rfl⟩
  have g2 : ¬ y < x := by simpa using g2
  exact FinOb.mk _ [] rfl (fun h k => trivial) ⟨by simp [ret1, cmpI, g, g2], rfl⟩
abbrev IL : Lay Int := ints .i64
theorem lI (l : List Int) : (IL.flat l).length = l.length := by rw [IL.flat_length]; simp [ints]
/-- The first that is not 0. -/
def orI (l : List Int) : Int := (l.find? (fun x => x != 0)).getD 0
theorem or_spec (A : Option Addr) (cp : Nat) (l : List Int) (hl : l.length ≤ 1000000) : Does Try.prog 70 #[.slice A l.length cp] (fun f => Reads f A (IL.flat l)) [] (fun v p => v = .int .i64 (orI l) ∧ p = []) := by
  refine Does.ofJ Try.func70 Try.call70 rfl [.raw (.slice A l.length cp)] [] 0 [] rfl rfl (fun h k => k) (fun f hR => ?_)
  refine LoopOb.mk { i : Nat // i ≤ l.length ∧ ∀ x ∈ l.take i, x = 0 } (fun z => ⟨18, [(3, .int .i64 0), (6, .raw (.slice A l.length cp)), (7, .int .i64 l.length), (8, .int .i64 z.1)], [], 0, []⟩) (fun z => l.length - z.1) ⟨0, by omega, by simp⟩ ?_ ?_
  · exact Le.of rfl ⟨⟨_, rfl, rfl⟩, ⟨_, rfl, rfl⟩, ⟨_, rfl, rfl⟩, ⟨_, rfl, rfl⟩, trivial⟩ (fun h k => k)
  rintro ⟨i, hi0, hall⟩
  refine CondOb.split (fun g => ?_) (fun g => ?_)
  rotate_left
  · have g := of_decide_eq_false g
    replace g : ¬ (i : Int) < l.length := g
    rw [List.take_of_length_le (by omega)] at hall
    have e : orI l = 0 := by
      unfold orI
      rw [List.find?_eq_none.2 (fun x hx => by simp [hall x hx])]; rfl
    exact FinOb.mk [.int .i64 0] [] rfl (fun h k => k) ⟨by rw [e]; rfl, rfl⟩
  have g := of_decide_eq_true g
  replace g : (i : Int) < l.length := g
  have hq := List.getElem?_eq_getElem (show i < l.length by omega)
  generalize l[i]'(by omega) = m at *
  obtain ⟨ba, o, rfl, hf⟩ := hR.lay (by decide) hq
  have ei : IntKind.i64.wrap ((i : Int) + 1) = ((i + 1 : Nat) : Int) := by rw [w64 (by omega) (by omega)]; omega
  refine Need.mk ⟨Int.natCast_nonneg i, g⟩ (RawAt.mk ba o rfl ?_)
  refine RdRaw.mk (.int .i64 m) _ rfl (hf 0 _ rfl) ?_
  refine CondOb.split (fun g2 => ?_) (fun g2 => ?_)
  · have g2 : m ≠ 0 := by simpa using g2
    have e : orI l = m := by
      unfold orI
      have : l.find? (fun x => x != 0) = some m := by
        rw [List.find?_eq_some_iff_getElem]
        have hil := (List.getElem?_eq_some_iff.1 hq).1
        refine ⟨by simpa using g2, i, hil, (List.getElem?_eq_some_iff.1 hq).2, fun j hj => ?_⟩
        have := hall l[j] (by rw [List.mem_take_iff_getElem]; exact ⟨j, by omega, rfl⟩)
        simp [this]
      rw [this]; rfl
    exact FinOb.mk [.int .i64 m] [] rfl (fun h k => k) ⟨by rw [e]; rfl, rfl⟩
  · have g2 : m = 0 := by simpa using g2
    refine ⟨⟨i + 1, by omega, ?_⟩, by show l.length - (i + 1) < l.length - i; omega, Le.of rfl ⟨⟨_, rfl, rfl⟩, ⟨_, rfl, rfl⟩, ⟨_, rfl, rfl⟩, ⟨_, rfl, congrArg (fun z => some (Value.int .i64 z)) ei⟩, trivial⟩ (fun h k => k)⟩
    rw [List.take_add_one, hq]
    intro t ht
    rcases List.mem_append.1 ht with h | h
    · exact hall t h
    · simp at h; subst h; exact g2
/-- By tick, then as they were set. -/
def cfT (x y : T) : Int := orI [cmpI x.at_ y.at_, cmpI x.no y.no]
theorem cmpT_spec (x y : T) : Does Try.prog 69 #[.agg x.vals.toArray, .agg y.vals.toArray] (fun _ => True) [] (fun v p => v = .int .i64 (cfT x y) ∧ p = []) := by
  refine Does.ofJ Try.func69 Try.call69 rfl [.agg x.svs, .agg y.svs] [] 0 [] rfl rfl (fun h k => k) (fun f hR => ?_)
  intro b2 b3
  refine DrawOb.mk [(4, [5, 6, 7, 8])] (.run [0, 1, 2, 3, 5, 6, 7, 8, 4, 9, 10, 11, 12] .nil) (by kernel_rfl) ?_
  refine useP (.int .i64 (cmpI x.at_ y.at_)) (cmp_spec x.at_ y.at_) rfl rfl ?_
  refine Need.mk rfl (Need.mk rfl ?_)
  refine useP (.int .i64 (cmpI x.no y.no)) (cmp_spec x.no y.no) rfl rfl ?_
  intro b15
  refine useR (.int .i64 (cfT x y)) (or_spec (some ⟨b15, 0, none⟩) 2 [cmpI x.at_ y.at_, cmpI x.no y.no] (by show 2 ≤ 1000000; decide)) rfl (fun f' b' hs kb => blk_reads (xs := [.int .i64 (cmpI x.at_ y.at_), .int .i64 (cmpI x.no y.no)]) (c := b15) 0 hs kb rfl rfl rfl) rfl ?_
  exact FinOb.mk _ [] rfl (fun h k => trivial) ⟨rfl, rfl⟩
def ltT (x y : T) : Bool := decide (x.at_ < y.at_) || (x.at_ == y.at_ && decide (x.no < y.no))
theorem ltT_iff {x y : T} : ltT x y = true ↔ x.at_ < y.at_ ∨ (x.at_ = y.at_ ∧ x.no < y.no) := by simp [ltT]
theorem ltOf_cfT (x y : T) : ltOf cfT x y = ltT x y := by
  have e : cfT x y = if cmpI x.at_ y.at_ ≠ 0 then cmpI x.at_ y.at_ else cmpI x.no y.no := by
    unfold cfT orI
    by_cases h1 : cmpI x.at_ y.at_ = 0
    · by_cases h2 : cmpI x.no y.no = 0 <;> simp [h1, h2]
    · simp [h1]
  unfold ltOf
  rw [e, Bool.eq_iff_iff, ltT_iff]
  simp only [decide_eq_true_eq]
  unfold cmpI
  by_cases h1 : x.at_ < y.at_
  · simp [h1]
  · by_cases h2 : y.at_ < x.at_
    · have : ¬ x.at_ = y.at_ := by omega
      simp [h1, h2, this]
    · have : x.at_ = y.at_ := by omega
      by_cases h3 : x.no < y.no
      · simp [this, h3]
      · by_cases h4 : y.no < x.no <;> simp [this, h3, h4]
theorem swo : Go.Sort.SWO (ltOf cfT) := by
  have e : ltOf cfT = ltT := funext fun x => funext fun y => ltOf_cfT x y
  rw [e]
  have f : ∀ {x y : T}, ltT x y = false ↔ ¬ (x.at_ < y.at_ ∨ (x.at_ = y.at_ ∧ x.no < y.no)) := fun {x y} => by rw [← Bool.not_eq_true, ltT_iff]
  refine ⟨fun x => ?_, fun x y z h1 h2 => ?_, fun x y z h1 h2 => ?_⟩
  · rw [f]; omega
  · rw [ltT_iff] at *; omega
  · rw [f] at *; omega
theorem sort_spec (s : Sp) (hl : s.l.length ≤ 1000000) : Does Try.prog 68 #[s.val, .func (.func 69) #[] #[]] (fun _ => True) [s.vec]
    (fun v p => ∃ l' : List T, v = .tuple #[] ∧ l'.Perm s.l ∧ l'.Pairwise (fun x y => ltT y x = false) ∧ p = [(Sp.mk s.pl s.cap l').vec]) := by
  have h := sortK_does So.sortT TL (by decide) Try.isAgg126 Try.sizeOf126 cfT swo 69 #[] (fun _ => True) (fun _ _ _ _ _ => trivial) (fun x y => cmpT_spec x y) 126 s.pl s.cap s.l (by omega)
  refine h.mono ?_
  rintro v p ⟨l', h1, h2, h3, h4⟩
  exact ⟨l', h1, h2, h3.imp fun {x y} h => by rw [← ltOf_cfT]; exact h, h4⟩
end Go.Proofs.Ytiknkeakielncaa.Wh
