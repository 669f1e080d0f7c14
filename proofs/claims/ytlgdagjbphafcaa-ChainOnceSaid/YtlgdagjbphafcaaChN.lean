/- The walk of ChainOnce. Conditions: none. -/
import Derived.Test.YtlgdagjbphafcaaChM
import Derived.Test.YtlgdagjbphafcaaChF
namespace Go.Proofs.Ytlgdagjbphafcaa.Ch
open Go Go.Proofs Sx
set_option maxRecDepth 100000
set_option linter.unusedVariables false
set_option maxHeartbeats 4000000
abbrev U8 : Lay Int := ints .u8
def bools : Lay Bool where
  cells b := [.bool b]
  sz := 1
  len _ := rfl
  one _ v hv := by simp at hv; subst hv; rfl
theorem ah_step (t : Nat → Bool) {m i : Nat} (hi : i < m) : putV (bools.flat ((List.range m).map fun k => decide (k < i) && t k)) (0 + i * 1) [.bool (t i)] = bools.flat ((List.range m).map fun k => decide (k < i + 1) && t k) := by
  have h := bools.flat_set (l := (List.range m).map fun k => decide (k < i) && t k) (i := i) (a := t i) (by simpa using hi)
  rw [Nat.zero_add]
  refine Eq.trans h ?_
  congr 1
  refine List.ext_getElem? fun j => ?_
  rw [List.getElem?_set]
  by_cases e : i = j
  · subst e; simp [hi]
  · rw [if_neg e]
    by_cases hj : j < m
    · simp only [List.getElem?_map, List.getElem?_range hj, Option.map_some, Option.some.injEq]
      have : decide (j < i) = decide (j < i + 1) := by congr 1; exact propext ⟨fun h => by omega, fun h => by omega⟩
      rw [this]
    · rw [List.getElem?_eq_none (by simp; omega), List.getElem?_eq_none (by simp; omega)]
theorem tmod_ne {x : Int} (h : 0 ≤ x) : (x.tmod 4 != 0) = decide (x % 4 ≠ 0) := by
  rw [Int.tmod_eq_emod_of_nonneg h]
  by_cases e : x % 4 = 0 <;> simp [e]
theorem vec_eq {nm : List (Nat × Plc)} {n : Nat} {t : TypeId} {sz c : Nat} {xs ys : List Value} {h : HP} (e : xs = ys) (k : entDen nm (.vec n t sz c xs) h) : entDen nm (.vec n t sz c ys) h := e ▸ k
theorem up_put {T : List Int} {k : Nat} (hk : k < T.length) (h0 : -1000 ≤ T.getD k 0) (h1 : T.getD k 0 ≤ 1000) : putV (I.flat T) (0 + k * 1) [.int .i64 (IntKind.i64.wrap (T.getD k 0 + 1))] = I.flat (up T k) := by
  rw [w64 (by omega) (by omega), Nat.zero_add]
  exact (I).flat_set (a := T.getD k 0 + 1) hk
theorem getD_at {α : Type} {l : List α} {k : Nat} (d : α) (h : k < l.length) : l[k]? = some (l.getD k d) := by
  rw [List.getD_eq_getElem?_getD, List.getElem?_eq_getElem h]; rfl
theorem flat_cell {l : List Int} {k : Nat} (h : k < l.length) : (I.flat l)[k]? = some (.int .i64 (l.getD k 0)) := by
  have := (I).flat_at (getD_at 0 h) (j := 0) rfl
  simpa [ints] using this
theorem once_spec (fl : List Int) (nd oks : List Bool) (A E O : Option Addr) (cap ce co : Nat) (hf : ∀ x ∈ fl, 0 ≤ x ∧ x ≤ 255) :
    Does Try.prog 8 #[.slice A fl.length cap, .slice E nd.length ce, .slice O oks.length co] (fun f => Reads f A (U8.flat fl) ∧ Reads f E (bools.flat nd) ∧ Reads f O (bools.flat oks)) [] (fun v q => v = .bool true ∧ q = []) := by
  refine Does.of Try.func8 Try.call8 rfl [.raw (.slice A fl.length cap), .raw (.slice E nd.length ce), .raw (.slice O oks.length co)] [] 0 [] rfl rfl (fun h k => k) (fun f hR => ?_)
  obtain ⟨hA, hE, hO⟩ := hR
  refine CondOb.split (fun _ => ?_) (fun g0 => ?_)
  · refine useP .tt live_spec rfl rfl ?_
    exact FinOb.mk _ [] rfl (fun h k => trivial) ⟨rfl, rfl⟩
  simp only [decide_eq_false_iff_not] at g0
  replace g0 : ¬ (150 : Int) < fl.length := g0
  obtain ⟨n, hn⟩ : ∃ n : Nat, fl.length = n := ⟨_, rfl⟩
  rw [hn] at g0
  refine call_asn (pre := []) [] [] newA_spec rfl rfl (fun _ _ _ _ => trivial) ?_
  rintro v post ⟨bb, mb, rfl, rfl⟩
  refine ⟨.ptr 0 0, [(0, .at bb 0)], 1, NmExt.push rfl, rfl, _, fun h k => sat_asns k, ?_⟩
  refine Need.mk (by omega) (fun b1 => ?_)
  refine Need.mk (by omega) (fun b2 => ?_)
  refine Need.mk (by omega) (fun b3 => ?_)
  refine Need.mk (by omega) (fun b4 => ?_)
  subst hn
  have rep0 : ∀ m : Nat, (List.replicate m [Value.int .i64 0]).flatten = I.flat (List.replicate m 0) := fun m => by
    simp [Lay.flat, List.flatMap, ints]
  have repf : ∀ m : Nat, (List.replicate m [Value.bool false]).flatten = bools.flat ((List.range m).map fun k => decide (k < 0) && tie fl nd k) := fun m => by
    have : (List.range m).map (fun k => decide (k < 0) && tie fl nd k) = List.replicate m false := by
      rw [List.eq_replicate_iff]; simp
    rw [this]
    simp [Lay.flat, List.flatMap, bools]
  refine LoopOb.mk { i : Nat // i ≤ fl.length } (fun z => ⟨209, [(0, .raw (.slice A fl.length cap)), (1, .raw (.slice E nd.length ce)), (2, .raw (.slice O oks.length co)), (7, .ptr 0 0), (8, .sl 1 0 fl.length fl.length), (9, .sl 2 0 fl.length fl.length), (10, .sl 3 0 fl.length fl.length), (11, .bool (tie fl nd z.1)), (12, .sl 4 0 fl.length fl.length), (13, .int .i64 z.1)],
    [(4, .at b4 0), (3, .at b3 0), (2, .at b2 0), (1, .at b1 0), (0, .at bb 0)], 5, [.vec 4 4 1 fl.length (bools.flat ((List.range fl.length).map fun k => decide (k < z.1) && tie fl nd k)), .vec 3 3 1 fl.length (I.flat (List.replicate fl.length 0)), .vec 2 3 1 fl.length (I.flat (List.replicate fl.length 0)), .vec 1 3 1 fl.length (I.flat (List.replicate fl.length 0)), .asn (BkA bb mb (once fl nd z.1))]⟩) (fun z => fl.length - z.1) ⟨0, by omega⟩ ?_ ?_
  · refine Le.of rfl ⟨⟨_, rfl, rfl⟩, ⟨_, rfl, rfl⟩, ⟨_, rfl, rfl⟩, ⟨_, rfl, rfl⟩, ⟨_, rfl, rfl⟩, ⟨_, rfl, rfl⟩, ⟨_, rfl, rfl⟩, ⟨_, rfl, rfl⟩, ⟨_, rfl, rfl⟩, ⟨_, rfl, rfl⟩, trivial⟩ (fun h k => sat_pick 0 rfl (fun _ k => ?_) (fun h k => sat_pick 0 rfl (fun _ k => ?_) (fun h k => sat_pick 0 rfl (fun _ k => ?_) (fun h k => sat_pick 0 rfl (fun _ k => ?_) (fun h k => sat_pick 0 rfl (by first | exact fun _ k => k | exact fun _ k => blk_to rfl rfl k | exact fun _ k => vec_to rfl k | exact fun _ k => blk_of rfl rfl k | exact fun _ k => vec_of rfl k | exact fun _ k => blk_of rfl rfl (blk_to rfl rfl k) | exact fun _ k => vec_of rfl (vec_to rfl k) | exact fun _ k => mp_to rfl k | exact fun _ k => mp_of rfl k | exact fun _ k => mp_of rfl (mp_to rfl k)) (fun h k => sat_nil k) k) k) k) k) k)
    · rw [← repf]; exact k
    · rw [← rep0]; exact k
    · rw [← rep0]; exact k
    · rw [← rep0]; exact k
  rintro ⟨i, hi⟩
  refine CondOb.split (fun g => ?_) (fun g => ?_)
  · simp only [decide_eq_true_eq] at g
    replace g : (i : Int) < fl.length := g
    have hx := List.getElem?_eq_getElem (show i < fl.length by omega)
    have hxe : fl.getD i 0 = fl[i]'(by omega) := by rw [List.getD_eq_getElem?_getD, hx]; rfl
    rw [← hxe] at hx
    have hxr := hf _ (List.mem_of_getElem? hx)
    have er : IntKind.i64.wrap ((i : Int) + 1) = ((i + 1 : Nat) : Int) := by rw [w64 (by omega) (by omega)]; omega
    obtain ⟨ba, o, rfl, hAr⟩ := hA.lay (by decide) hx
    have hx0 := hAr 0 _ rfl
    refine Need.mk ⟨Int.natCast_nonneg i, g⟩ (RawAt.mk ba o rfl ?_)
    refine RdRaw.mk (.int .u8 (fl.getD i 0)) _ rfl (by simpa [ints] using hx0) ?_
    refine call_asn [_, _, _, _] [] (addA_spec bb mb (once fl nd i) i (fl.getD i 0) hxr.1 hxr.2 (by simp [once, onceEs]; omega) (by
      have : (once fl nd i).ready.length ≤ i := by
        simp only [once, List.length_map]
        exact Nat.le_trans (List.length_filter_le _ _) (by simp)
      omega)) rfl rfl (fun _ _ _ _ => trivial) ?_
    rintro v post (⟨h, _⟩ | ⟨_, rfl, rfl⟩)
    · exfalso
      have : (once fl nd i).es = onceEs fl nd i := rfl
      rw [this, once_mem] at h; omega
    refine ⟨.int .i64 0, _, 5, NmExt.refl _, rfl, _, fun h k => sat_asns k, ?_⟩
    refine useP (.int .i64 0) (code_spec 0) rfl rfl ?_
    refine CondOb.split (fun h => absurd h (by decide)) (fun _ => ?_)
    rw [once_add]
    refine Need.mk ⟨Int.natCast_nonneg i, g⟩ ?_
    refine StOb.mk [.bool (tie fl nd i)] rfl (Need.mk ?_ ?_)
    · rw [bools.flat_length]
      simp [bools]; omega
    refine Need.mk ⟨Int.natCast_nonneg i, g⟩ (RawAt.mk ba o rfl ?_)
    refine RdRaw.mk (.int .u8 (fl.getD i 0)) _ rfl (by simpa [ints] using hx0) ?_
    refine Need.mk (by decide) ?_
    refine Br.mk (fun g3 => ?_) (fun g3 => ?_)
    · simp only [decide_eq_true_eq] at g3
      replace g3 : (i : Int) < nd.length := g3
      have hy := List.getElem?_eq_getElem (show i < nd.length by omega)
      have hye : nd.getD i false = nd[i]'(by omega) := by rw [List.getD_eq_getElem?_getD, hy]; rfl
      rw [← hye] at hy
      obtain ⟨be, oe, rfl, hEr⟩ := hE.lay (by decide) hy
      have hy0 := hEr 0 _ rfl
      refine Need.mk ⟨Int.natCast_nonneg i, g3⟩ (RawAt.mk be oe rfl ?_)
      refine RdRaw.mk (.bool (nd.getD i false)) _ rfl (by simpa [bools] using hy0) ?_
      refine CondOb.split (fun g4 => ?_) (fun g4 => ?_)
      · refine call_asn [_] [_, _, _] (endA_spec bb mb { once fl nd (i + 1) with last := some (i : Int) }) rfl rfl (fun _ _ _ _ => trivial) ?_
        rintro v post ⟨rfl, rfl⟩
        refine ⟨.tuple [], _, 5, NmExt.refl _, rfl, _, fun h k => sat_asns k, ?_⟩
        rw [once_end fl nd i g4]
        have et : false = tie fl nd (i + 1) := by simp only [tie, g4, Bool.not_true, Bool.false_and]
        refine ⟨⟨i + 1, by omega⟩, ?_, Le.of rfl ⟨⟨_, rfl, rfl⟩, ⟨_, rfl, rfl⟩, ⟨_, rfl, rfl⟩, ⟨_, rfl, rfl⟩, ⟨_, rfl, rfl⟩, ⟨_, rfl, rfl⟩, ⟨_, rfl, rfl⟩, ⟨_, rfl, (congrArg (fun z => some (Value.bool z)) et)⟩, ⟨_, rfl, rfl⟩, ⟨_, rfl, congrArg (fun z => some (Value.int .i64 z)) er⟩, trivial⟩ (fun h k => sat_pick 1 rfl (fun _ k => by rw [← ah_step _ (by omega : i < fl.length)]; exact k) (fun h k => sat_pick 1 rfl (by first | exact fun _ k => k | exact fun _ k => blk_to rfl rfl k | exact fun _ k => vec_to rfl k | exact fun _ k => blk_of rfl rfl k | exact fun _ k => vec_of rfl k | exact fun _ k => blk_of rfl rfl (blk_to rfl rfl k) | exact fun _ k => vec_of rfl (vec_to rfl k) | exact fun _ k => mp_to rfl k | exact fun _ k => mp_of rfl k | exact fun _ k => mp_of rfl (mp_to rfl k)) (fun h k => sat_pick 1 rfl (by first | exact fun _ k => k | exact fun _ k => blk_to rfl rfl k | exact fun _ k => vec_to rfl k | exact fun _ k => blk_of rfl rfl k | exact fun _ k => vec_of rfl k | exact fun _ k => blk_of rfl rfl (blk_to rfl rfl k) | exact fun _ k => vec_of rfl (vec_to rfl k) | exact fun _ k => mp_to rfl k | exact fun _ k => mp_of rfl k | exact fun _ k => mp_of rfl (mp_to rfl k)) (fun h k => sat_pick 1 rfl (by first | exact fun _ k => k | exact fun _ k => blk_to rfl rfl k | exact fun _ k => vec_to rfl k | exact fun _ k => blk_of rfl rfl k | exact fun _ k => vec_of rfl k | exact fun _ k => blk_of rfl rfl (blk_to rfl rfl k) | exact fun _ k => vec_of rfl (vec_to rfl k) | exact fun _ k => mp_to rfl k | exact fun _ k => mp_of rfl k | exact fun _ k => mp_of rfl (mp_to rfl k)) (fun h k => sat_pick 0 rfl (by first | exact fun _ k => k | exact fun _ k => blk_to rfl rfl k | exact fun _ k => vec_to rfl k | exact fun _ k => blk_of rfl rfl k | exact fun _ k => vec_of rfl k | exact fun _ k => blk_of rfl rfl (blk_to rfl rfl k) | exact fun _ k => vec_of rfl (vec_to rfl k) | exact fun _ k => mp_to rfl k | exact fun _ k => mp_of rfl k | exact fun _ k => mp_of rfl (mp_to rfl k)) (fun h k => sat_nil k) k) k) k) k) k)⟩
        show fl.length - (i + 1) < fl.length - i
        omega
      · rw [once_go fl nd i g4]
        have et : ((fl.getD i 0).tmod 4 != 0) = tie fl nd (i + 1) := by rw [tmod_ne hxr.1]; simp only [tie, g4, Bool.not_false, Bool.true_and]
        refine ⟨⟨i + 1, by omega⟩, ?_, Le.of rfl ⟨⟨_, rfl, rfl⟩, ⟨_, rfl, rfl⟩, ⟨_, rfl, rfl⟩, ⟨_, rfl, rfl⟩, ⟨_, rfl, rfl⟩, ⟨_, rfl, rfl⟩, ⟨_, rfl, rfl⟩, ⟨_, rfl, (congrArg (fun z => some (Value.bool z)) et)⟩, ⟨_, rfl, rfl⟩, ⟨_, rfl, congrArg (fun z => some (Value.int .i64 z)) er⟩, trivial⟩ (fun h k => sat_pick 0 rfl (fun _ k => by rw [← ah_step _ (by omega : i < fl.length)]; exact k) (fun h k => sat_pick 1 rfl (by first | exact fun _ k => k | exact fun _ k => blk_to rfl rfl k | exact fun _ k => vec_to rfl k | exact fun _ k => blk_of rfl rfl k | exact fun _ k => vec_of rfl k | exact fun _ k => blk_of rfl rfl (blk_to rfl rfl k) | exact fun _ k => vec_of rfl (vec_to rfl k) | exact fun _ k => mp_to rfl k | exact fun _ k => mp_of rfl k | exact fun _ k => mp_of rfl (mp_to rfl k)) (fun h k => sat_pick 1 rfl (by first | exact fun _ k => k | exact fun _ k => blk_to rfl rfl k | exact fun _ k => vec_to rfl k | exact fun _ k => blk_of rfl rfl k | exact fun _ k => vec_of rfl k | exact fun _ k => blk_of rfl rfl (blk_to rfl rfl k) | exact fun _ k => vec_of rfl (vec_to rfl k) | exact fun _ k => mp_to rfl k | exact fun _ k => mp_of rfl k | exact fun _ k => mp_of rfl (mp_to rfl k)) (fun h k => sat_pick 1 rfl (by first | exact fun _ k => k | exact fun _ k => blk_to rfl rfl k | exact fun _ k => vec_to rfl k | exact fun _ k => blk_of rfl rfl k | exact fun _ k => vec_of rfl k | exact fun _ k => blk_of rfl rfl (blk_to rfl rfl k) | exact fun _ k => vec_of rfl (vec_to rfl k) | exact fun _ k => mp_to rfl k | exact fun _ k => mp_of rfl k | exact fun _ k => mp_of rfl (mp_to rfl k)) (fun h k => sat_pick 0 rfl (by first | exact fun _ k => k | exact fun _ k => blk_to rfl rfl k | exact fun _ k => vec_to rfl k | exact fun _ k => blk_of rfl rfl k | exact fun _ k => vec_of rfl k | exact fun _ k => blk_of rfl rfl (blk_to rfl rfl k) | exact fun _ k => vec_of rfl (vec_to rfl k) | exact fun _ k => mp_to rfl k | exact fun _ k => mp_of rfl k | exact fun _ k => mp_of rfl (mp_to rfl k)) (fun h k => sat_nil k) k) k) k) k) k)⟩
        show fl.length - (i + 1) < fl.length - i
        omega
    · have g4 : nd.getD i false = false := by
        simp only [decide_eq_false_iff_not] at g3
        rw [List.getD_eq_getElem?_getD, List.getElem?_eq_none (by omega)]; rfl
      rw [once_go fl nd i g4]
      have et : ((fl.getD i 0).tmod 4 != 0) = tie fl nd (i + 1) := by rw [tmod_ne hxr.1]; simp only [tie, g4, Bool.not_false, Bool.true_and]
      refine ⟨⟨i + 1, by omega⟩, ?_, Le.of rfl ⟨⟨_, rfl, rfl⟩, ⟨_, rfl, rfl⟩, ⟨_, rfl, rfl⟩, ⟨_, rfl, rfl⟩, ⟨_, rfl, rfl⟩, ⟨_, rfl, rfl⟩, ⟨_, rfl, rfl⟩, ⟨_, rfl, (congrArg (fun z => some (Value.bool z)) et)⟩, ⟨_, rfl, rfl⟩, ⟨_, rfl, congrArg (fun z => some (Value.int .i64 z)) er⟩, trivial⟩ (fun h k => sat_pick 0 rfl (fun _ k => by rw [← ah_step _ (by omega : i < fl.length)]; exact k) (fun h k => sat_pick 1 rfl (by first | exact fun _ k => k | exact fun _ k => blk_to rfl rfl k | exact fun _ k => vec_to rfl k | exact fun _ k => blk_of rfl rfl k | exact fun _ k => vec_of rfl k | exact fun _ k => blk_of rfl rfl (blk_to rfl rfl k) | exact fun _ k => vec_of rfl (vec_to rfl k) | exact fun _ k => mp_to rfl k | exact fun _ k => mp_of rfl k | exact fun _ k => mp_of rfl (mp_to rfl k)) (fun h k => sat_pick 1 rfl (by first | exact fun _ k => k | exact fun _ k => blk_to rfl rfl k | exact fun _ k => vec_to rfl k | exact fun _ k => blk_of rfl rfl k | exact fun _ k => vec_of rfl k | exact fun _ k => blk_of rfl rfl (blk_to rfl rfl k) | exact fun _ k => vec_of rfl (vec_to rfl k) | exact fun _ k => mp_to rfl k | exact fun _ k => mp_of rfl k | exact fun _ k => mp_of rfl (mp_to rfl k)) (fun h k => sat_pick 1 rfl (by first | exact fun _ k => k | exact fun _ k => blk_to rfl rfl k | exact fun _ k => vec_to rfl k | exact fun _ k => blk_of rfl rfl k | exact fun _ k => vec_of rfl k | exact fun _ k => blk_of rfl rfl (blk_to rfl rfl k) | exact fun _ k => vec_of rfl (vec_to rfl k) | exact fun _ k => mp_to rfl k | exact fun _ k => mp_of rfl k | exact fun _ k => mp_of rfl (mp_to rfl k)) (fun h k => sat_pick 0 rfl (by first | exact fun _ k => k | exact fun _ k => blk_to rfl rfl k | exact fun _ k => vec_to rfl k | exact fun _ k => blk_of rfl rfl k | exact fun _ k => vec_of rfl k | exact fun _ k => blk_of rfl rfl (blk_to rfl rfl k) | exact fun _ k => vec_of rfl (vec_to rfl k) | exact fun _ k => mp_to rfl k | exact fun _ k => mp_of rfl k | exact fun _ k => mp_of rfl (mp_to rfl k)) (fun h k => sat_nil k) k) k) k) k) k)⟩
      show fl.length - (i + 1) < fl.length - i
      omega
  simp only [decide_eq_false_iff_not] at g
  replace g : ¬ (i : Int) < fl.length := g
  have ei : i = fl.length := by omega
  subst ei
  have eAH : ∀ k, k < fl.length → (bools.flat ((List.range fl.length).map fun k => decide (k < fl.length) && tie fl nd k))[k]? = some (.bool (tie fl nd k)) := fun k hk => by
    have := bools.flat_at (l := (List.range fl.length).map fun k => decide (k < fl.length) && tie fl nd k) (i := k) (a := tie fl nd k) (by simp [hk]) (j := 0) rfl
    simpa [bools] using this
  have lAH : (bools.flat ((List.range fl.length).map fun k => decide (k < fl.length) && tie fl nd k)).length = fl.length := by rw [bools.flat_length]; simp [bools]
  generalize bools.flat ((List.range fl.length).map fun k => decide (k < fl.length) && tie fl nd k) = AH at *
  have lI : ∀ l : List Int, (I.flat l).length = l.length := fun l => by rw [(I).flat_length]; simp [ints]
  have e22 : IntKind.i64.wrap (IntKind.i64.wrap (2 * (fl.length : Int)) + 2) = ((2 * fl.length + 2 : Nat) : Int) := by rw [w64 (x := 2 * (fl.length : Int)) (by omega) (by omega), w64 (by omega) (by omega)]; omega
  refine LoopOb.mk { z : Nat × BA × List Int × List Int // z.1 ≤ 2 * fl.length + 2 ∧ St fl nd z.2.1 z.2.2.1 z.2.2.2 ∧ (∀ e ∈ z.2.1.es, e.told = false) ∧ (z.2.1.es.length + z.1 ≤ fl.length ∨ z.2.1.es = []) }
    (fun z => ⟨209, [(0, .raw (.slice A fl.length cap)), (1, .raw (.slice E nd.length ce)), (2, .raw (.slice O oks.length co)), (7, .ptr 0 0), (8, .sl 1 0 fl.length fl.length), (9, .sl 2 0 fl.length fl.length), (10, .sl 3 0 fl.length fl.length), (12, .sl 4 0 fl.length fl.length), (14, .int .i64 z.1.1)],
      [(4, .at b4 0), (3, .at b3 0), (2, .at b2 0), (1, .at b1 0), (0, .at bb 0)], 5, [.asn (BkA bb mb z.1.2.1), .vec 4 4 1 fl.length AH, .vec 3 3 1 fl.length (I.flat z.1.2.2.1), .vec 2 3 1 fl.length (I.flat z.1.2.2.2), .vec 1 3 1 fl.length (I.flat z.1.2.2.1)]⟩) (fun z => 2 * fl.length + 2 - z.1.1)
    ⟨(0, once fl nd fl.length, List.replicate fl.length 0, List.replicate fl.length 0), by omega, st_new fl nd, fun e he => by
      obtain ⟨k, _, rfl⟩ := List.mem_map.1 he
      rfl, .inl (by simp [once, onceEs])⟩ ?_ ?_
  · exact Le.of rfl ⟨⟨_, rfl, rfl⟩, ⟨_, rfl, rfl⟩, ⟨_, rfl, rfl⟩, ⟨_, rfl, rfl⟩, ⟨_, rfl, rfl⟩, ⟨_, rfl, rfl⟩, ⟨_, rfl, rfl⟩, ⟨_, rfl, rfl⟩, ⟨_, rfl, rfl⟩, trivial⟩ (fun h k => sat_pick 4 rfl (by first | exact fun _ k => k | exact fun _ k => blk_to rfl rfl k | exact fun _ k => vec_to rfl k | exact fun _ k => blk_of rfl rfl k | exact fun _ k => vec_of rfl k | exact fun _ k => blk_of rfl rfl (blk_to rfl rfl k) | exact fun _ k => vec_of rfl (vec_to rfl k) | exact fun _ k => mp_to rfl k | exact fun _ k => mp_of rfl k | exact fun _ k => mp_of rfl (mp_to rfl k)) (fun h k => sat_pick 0 rfl (by first | exact fun _ k => k | exact fun _ k => blk_to rfl rfl k | exact fun _ k => vec_to rfl k | exact fun _ k => blk_of rfl rfl k | exact fun _ k => vec_of rfl k | exact fun _ k => blk_of rfl rfl (blk_to rfl rfl k) | exact fun _ k => vec_of rfl (vec_to rfl k) | exact fun _ k => mp_to rfl k | exact fun _ k => mp_of rfl k | exact fun _ k => mp_of rfl (mp_to rfl k)) (fun h k => sat_pick 0 rfl (by first | exact fun _ k => k | exact fun _ k => blk_to rfl rfl k | exact fun _ k => vec_to rfl k | exact fun _ k => blk_of rfl rfl k | exact fun _ k => vec_of rfl k | exact fun _ k => blk_of rfl rfl (blk_to rfl rfl k) | exact fun _ k => vec_of rfl (vec_to rfl k) | exact fun _ k => mp_to rfl k | exact fun _ k => mp_of rfl k | exact fun _ k => mp_of rfl (mp_to rfl k)) (fun h k => sat_pick 0 rfl (by first | exact fun _ k => k | exact fun _ k => blk_to rfl rfl k | exact fun _ k => vec_to rfl k | exact fun _ k => blk_of rfl rfl k | exact fun _ k => vec_of rfl k | exact fun _ k => blk_of rfl rfl (blk_to rfl rfl k) | exact fun _ k => vec_of rfl (vec_to rfl k) | exact fun _ k => mp_to rfl k | exact fun _ k => mp_of rfl k | exact fun _ k => mp_of rfl (mp_to rfl k)) (fun h k => sat_pick 0 rfl (by first | exact fun _ k => k | exact fun _ k => blk_to rfl rfl k | exact fun _ k => vec_to rfl k | exact fun _ k => blk_of rfl rfl k | exact fun _ k => vec_of rfl k | exact fun _ k => blk_of rfl rfl (blk_to rfl rfl k) | exact fun _ k => vec_of rfl (vec_to rfl k) | exact fun _ k => mp_to rfl k | exact fun _ k => mp_of rfl k | exact fun _ k => mp_of rfl (mp_to rfl k)) (fun h k => sat_nil k) k) k) k) k) k)
  rintro ⟨⟨t, B, T, G⟩, ht, st, hun, hfew⟩
  simp only at ht st hun hfew
  refine CondOb.split (fun g1 => ?_) (fun g1 => ?_)
  rotate_left
  · simp only [decide_eq_false_iff_not] at g1
    replace g1 : ¬ (t : Int) < IntKind.i64.wrap (IntKind.i64.wrap (2 * (fl.length : Int)) + 2) := g1
    rw [e22] at g1
    have hes : B.es = [] := by
      rcases hfew with h | h
      · omega
      · exact h
    have hall : ∀ k, k < fl.length → T.getD k 0 + G.getD k 0 = 1 := fun k hk => by
      rw [st.cnt k hk, if_neg (by rw [hes]; simp)]
    refine LoopOb.mk { i : Nat // i ≤ fl.length } (fun z => ⟨209, [(0, .raw (.slice A fl.length cap)), (7, .ptr 0 0), (8, .sl 1 0 fl.length fl.length), (9, .sl 2 0 fl.length fl.length), (22, .int .i64 z.1)],
      [(4, .at b4 0), (3, .at b3 0), (2, .at b2 0), (1, .at b1 0), (0, .at bb 0)], 5, [.asn (BkA bb mb B), .vec 2 3 1 fl.length (I.flat G), .vec 1 3 1 fl.length (I.flat T)]⟩) (fun z => fl.length - z.1) ⟨0, by omega⟩ ?_ ?_
    · exact Le.of rfl ⟨⟨_, rfl, rfl⟩, ⟨_, rfl, rfl⟩, ⟨_, rfl, rfl⟩, ⟨_, rfl, rfl⟩, ⟨_, rfl, rfl⟩, trivial⟩ (fun h k => sat_pick 0 rfl (by first | exact fun _ k => k | exact fun _ k => blk_to rfl rfl k | exact fun _ k => vec_to rfl k | exact fun _ k => blk_of rfl rfl k | exact fun _ k => vec_of rfl k | exact fun _ k => blk_of rfl rfl (blk_to rfl rfl k) | exact fun _ k => vec_of rfl (vec_to rfl k) | exact fun _ k => mp_to rfl k | exact fun _ k => mp_of rfl k | exact fun _ k => mp_of rfl (mp_to rfl k)) (fun h k => sat_pick 2 rfl (by first | exact fun _ k => k | exact fun _ k => blk_to rfl rfl k | exact fun _ k => vec_to rfl k | exact fun _ k => blk_of rfl rfl k | exact fun _ k => vec_of rfl k | exact fun _ k => blk_of rfl rfl (blk_to rfl rfl k) | exact fun _ k => vec_of rfl (vec_to rfl k) | exact fun _ k => mp_to rfl k | exact fun _ k => mp_of rfl k | exact fun _ k => mp_of rfl (mp_to rfl k)) (fun h k => sat_pick 2 rfl (by first | exact fun _ k => k | exact fun _ k => blk_to rfl rfl k | exact fun _ k => vec_to rfl k | exact fun _ k => blk_of rfl rfl k | exact fun _ k => vec_of rfl k | exact fun _ k => blk_of rfl rfl (blk_to rfl rfl k) | exact fun _ k => vec_of rfl (vec_to rfl k) | exact fun _ k => mp_to rfl k | exact fun _ k => mp_of rfl k | exact fun _ k => mp_of rfl (mp_to rfl k)) (fun h k => sat_nil k) k) k) k)
    rintro ⟨i, hi⟩
    refine CondOb.split (fun g => ?_) (fun g => ?_)
    · simp only [decide_eq_true_eq] at g
      replace g : (i : Int) < fl.length := g
      have er : IntKind.i64.wrap ((i : Int) + 1) = ((i + 1 : Nat) : Int) := by rw [w64 (by omega) (by omega)]; omega
      refine DrawOb.mk [] (.run [0, 1, 2, 3, 4, 5, 6, 7, 8, 9] .nil) (by kernel_rfl) ?_
      refine Need.mk ⟨Int.natCast_nonneg i, g⟩ ?_
      refine RdOb.mk (.int .i64 (T.getD i 0)) _ rfl (by simpa using flat_cell (l := T) (k := i) (by rw [st.lT]; omega)) ?_
      refine Need.mk ⟨Int.natCast_nonneg i, g⟩ ?_
      refine RdOb.mk (.int .i64 (G.getD i 0)) _ rfl (by simpa using flat_cell (l := G) (k := i) (by rw [st.lG]; omega)) ?_
      have h1 : IntKind.i64.wrap (T.getD i 0 + G.getD i 0) = 1 := by rw [hall i (by omega)]; exact w64 (by omega) (by omega)
      refine CondOb.split (fun h => absurd h (by rw [h1]; decide)) (fun _ => ?_)
      refine ⟨⟨i + 1, by omega⟩, ?_, Le.of rfl ⟨⟨_, rfl, rfl⟩, ⟨_, rfl, rfl⟩, ⟨_, rfl, rfl⟩, ⟨_, rfl, rfl⟩, ⟨_, rfl, congrArg (fun z => some (Value.int .i64 z)) er⟩, trivial⟩ (fun h k => sat_pick 0 rfl (by first | exact fun _ k => k | exact fun _ k => blk_to rfl rfl k | exact fun _ k => vec_to rfl k | exact fun _ k => blk_of rfl rfl k | exact fun _ k => vec_of rfl k | exact fun _ k => blk_of rfl rfl (blk_to rfl rfl k) | exact fun _ k => vec_of rfl (vec_to rfl k) | exact fun _ k => mp_to rfl k | exact fun _ k => mp_of rfl k | exact fun _ k => mp_of rfl (mp_to rfl k)) (fun h k => sat_pick 0 rfl (by first | exact fun _ k => k | exact fun _ k => blk_to rfl rfl k | exact fun _ k => vec_to rfl k | exact fun _ k => blk_of rfl rfl k | exact fun _ k => vec_of rfl k | exact fun _ k => blk_of rfl rfl (blk_to rfl rfl k) | exact fun _ k => vec_of rfl (vec_to rfl k) | exact fun _ k => mp_to rfl k | exact fun _ k => mp_of rfl k | exact fun _ k => mp_of rfl (mp_to rfl k)) (fun h k => sat_pick 0 rfl (by first | exact fun _ k => k | exact fun _ k => blk_to rfl rfl k | exact fun _ k => vec_to rfl k | exact fun _ k => blk_of rfl rfl k | exact fun _ k => vec_of rfl k | exact fun _ k => blk_of rfl rfl (blk_to rfl rfl k) | exact fun _ k => vec_of rfl (vec_to rfl k) | exact fun _ k => mp_to rfl k | exact fun _ k => mp_of rfl k | exact fun _ k => mp_of rfl (mp_to rfl k)) (fun h k => sat_nil k) k) k) k)⟩
      show fl.length - (i + 1) < fl.length - i
      omega
    refine call_ix (openA_spec bb mb B) rfl [0] (fun h k => sat_pick 0 rfl (by first | exact fun _ k => k | exact fun _ k => blk_to rfl rfl k | exact fun _ k => vec_to rfl k | exact fun _ k => blk_of rfl rfl k | exact fun _ k => vec_of rfl k | exact fun _ k => blk_of rfl rfl (blk_to rfl rfl k) | exact fun _ k => vec_of rfl (vec_to rfl k) | exact fun _ k => mp_to rfl k | exact fun _ k => mp_of rfl k | exact fun _ k => mp_of rfl (mp_to rfl k)) (fun h k => sat_pick 0 rfl (by first | exact fun _ k => k | exact fun _ k => blk_to rfl rfl k | exact fun _ k => vec_to rfl k | exact fun _ k => blk_of rfl rfl k | exact fun _ k => vec_of rfl k | exact fun _ k => blk_of rfl rfl (blk_to rfl rfl k) | exact fun _ k => vec_of rfl (vec_to rfl k) | exact fun _ k => mp_to rfl k | exact fun _ k => mp_of rfl k | exact fun _ k => mp_of rfl (mp_to rfl k)) (fun h k => sat_pick 0 rfl (by first | exact fun _ k => k | exact fun _ k => blk_to rfl rfl k | exact fun _ k => vec_to rfl k | exact fun _ k => blk_of rfl rfl k | exact fun _ k => vec_of rfl k | exact fun _ k => blk_of rfl rfl (blk_to rfl rfl k) | exact fun _ k => vec_of rfl (vec_to rfl k) | exact fun _ k => mp_to rfl k | exact fun _ k => mp_of rfl k | exact fun _ k => mp_of rfl (mp_to rfl k)) (fun h k => sat_nil k) k) k) k) (fun _ _ _ _ => trivial) ?_
    rintro v post ⟨p, cp, rfl, rfl⟩
    rw [hes]
    refine ⟨.raw (.slice (locAddr 0 p) 0 cp), _, 5, [.asn _, .asn _], NmExt.refl _, rfl, (fun h k => sat_pick 0 rfl (by first | exact fun _ k => k | exact fun _ k => blk_to rfl rfl k | exact fun _ k => vec_to rfl k | exact fun _ k => blk_of rfl rfl k | exact fun _ k => vec_of rfl k | exact fun _ k => blk_of rfl rfl (blk_to rfl rfl k) | exact fun _ k => vec_of rfl (vec_to rfl k) | exact fun _ k => mp_to rfl k | exact fun _ k => mp_of rfl k | exact fun _ k => mp_of rfl (mp_to rfl k)) (fun h k => sat_pick 0 rfl (by first | exact fun _ k => k | exact fun _ k => blk_to rfl rfl k | exact fun _ k => vec_to rfl k | exact fun _ k => blk_of rfl rfl k | exact fun _ k => vec_of rfl k | exact fun _ k => blk_of rfl rfl (blk_to rfl rfl k) | exact fun _ k => vec_of rfl (vec_to rfl k) | exact fun _ k => mp_to rfl k | exact fun _ k => mp_of rfl k | exact fun _ k => mp_of rfl (mp_to rfl k)) (fun h k => sat_nil k) k) k), ?_⟩
    refine Br.mk (fun _ => ?_) (fun h => absurd h (by decide))
    refine useP .tt live_spec rfl rfl ?_
    exact FinOb.mk _ [] rfl (fun h k => trivial) ⟨rfl, rfl⟩
  simp only [decide_eq_true_eq] at g1
  replace g1 : (t : Int) < IntKind.i64.wrap (IntKind.i64.wrap (2 * (fl.length : Int)) + 2) := g1
  rw [e22] at g1
  have et : IntKind.i64.wrap ((t : Int) + 1) = ((t + 1 : Nat) : Int) := by rw [w64 (by omega) (by omega)]; omega
  obtain ⟨l, hl⟩ : ∃ l, B.ready = l := ⟨_, rfl⟩
  refine call_ix ((readyA_spec bb mb B (fun n hn => by
      obtain ⟨e, e1, e2, _⟩ := st.inv.rdy n hn
      exact List.mem_map.2 ⟨e, e1, e2⟩)).sure (Q' := fun v q => ∃ p c, (B.ready ≠ [] → ∃ b o, p = .at b o) ∧ v = .slice (locAddr 0 p) B.ready.length c ∧ q = [BkA bb mb (readyA B), Vec p 3 1 c (I.flat B.ready)]) (by
      rintro v q h ⟨p, c, rfl, rfl⟩ hs
      refine ⟨p, c, fun hne => vec_sures (As := []) ((fun h k => sat_pick 1 rfl (by first | exact fun _ k => k | exact fun _ k => blk_to rfl rfl k | exact fun _ k => vec_to rfl k | exact fun _ k => blk_of rfl rfl k | exact fun _ k => vec_of rfl k | exact fun _ k => blk_of rfl rfl (blk_to rfl rfl k) | exact fun _ k => vec_of rfl (vec_to rfl k) | exact fun _ k => mp_to rfl k | exact fun _ k => mp_of rfl k | exact fun _ k => mp_of rfl (mp_to rfl k)) (fun h k => sat_nil k) k) h hs) (fun h0 => hne ?_), rfl, rfl⟩
      have := congrArg List.length h0
      rw [lI] at this
      exact List.length_eq_zero_iff.1 (by simpa using this))) rfl [0] (fun h k => sat_pick 0 rfl (by first | exact fun _ k => k | exact fun _ k => blk_to rfl rfl k | exact fun _ k => vec_to rfl k | exact fun _ k => blk_of rfl rfl k | exact fun _ k => vec_of rfl k | exact fun _ k => blk_of rfl rfl (blk_to rfl rfl k) | exact fun _ k => vec_of rfl (vec_to rfl k) | exact fun _ k => mp_to rfl k | exact fun _ k => mp_of rfl k | exact fun _ k => mp_of rfl (mp_to rfl k)) (fun h k => sat_pick 0 rfl (by first | exact fun _ k => k | exact fun _ k => blk_to rfl rfl k | exact fun _ k => vec_to rfl k | exact fun _ k => blk_of rfl rfl k | exact fun _ k => vec_of rfl k | exact fun _ k => blk_of rfl rfl (blk_to rfl rfl k) | exact fun _ k => vec_of rfl (vec_to rfl k) | exact fun _ k => mp_to rfl k | exact fun _ k => mp_of rfl k | exact fun _ k => mp_of rfl (mp_to rfl k)) (fun h k => sat_pick 0 rfl (by first | exact fun _ k => k | exact fun _ k => blk_to rfl rfl k | exact fun _ k => vec_to rfl k | exact fun _ k => blk_of rfl rfl k | exact fun _ k => vec_of rfl k | exact fun _ k => blk_of rfl rfl (blk_to rfl rfl k) | exact fun _ k => vec_of rfl (vec_to rfl k) | exact fun _ k => mp_to rfl k | exact fun _ k => mp_of rfl k | exact fun _ k => mp_of rfl (mp_to rfl k)) (fun h k => sat_pick 0 rfl (by first | exact fun _ k => k | exact fun _ k => blk_to rfl rfl k | exact fun _ k => vec_to rfl k | exact fun _ k => blk_of rfl rfl k | exact fun _ k => vec_of rfl k | exact fun _ k => blk_of rfl rfl (blk_to rfl rfl k) | exact fun _ k => vec_of rfl (vec_to rfl k) | exact fun _ k => mp_to rfl k | exact fun _ k => mp_of rfl k | exact fun _ k => mp_of rfl (mp_to rfl k)) (fun h k => sat_pick 0 rfl (by first | exact fun _ k => k | exact fun _ k => blk_to rfl rfl k | exact fun _ k => vec_to rfl k | exact fun _ k => blk_of rfl rfl k | exact fun _ k => vec_of rfl k | exact fun _ k => blk_of rfl rfl (blk_to rfl rfl k) | exact fun _ k => vec_of rfl (vec_to rfl k) | exact fun _ k => mp_to rfl k | exact fun _ k => mp_of rfl k | exact fun _ k => mp_of rfl (mp_to rfl k)) (fun h k => sat_nil k) k) k) k) k) k) (fun _ _ _ _ => trivial) ?_
  rintro v post ⟨p, c, hp, rfl, rfl⟩
  rw [hl] at hp ⊢
  refine ⟨.sl 5 0 l.length c, [(5, p), (4, .at b4 0), (3, .at b3 0), (2, .at b2 0), (1, .at b1 0), (0, .at bb 0)], 6, [.asn (BkA bb mb (readyA B)), .vec 5 3 1 c (I.flat l)], NmExt.push rfl, rfl, (fun h k => sat_pick 0 rfl (by first | exact fun _ k => k | exact fun _ k => blk_to rfl rfl k | exact fun _ k => vec_to rfl k | exact fun _ k => blk_of rfl rfl k | exact fun _ k => vec_of rfl k | exact fun _ k => blk_of rfl rfl (blk_to rfl rfl k) | exact fun _ k => vec_of rfl (vec_to rfl k) | exact fun _ k => mp_to rfl k | exact fun _ k => mp_of rfl k | exact fun _ k => mp_of rfl (mp_to rfl k)) (fun h k => sat_pick 0 rfl (by first | exact fun _ k => k | exact fun _ k => blk_to rfl rfl k | exact fun _ k => vec_to rfl k | exact fun _ k => blk_of rfl rfl k | exact fun _ k => vec_of rfl k | exact fun _ k => blk_of rfl rfl (blk_to rfl rfl k) | exact fun _ k => vec_of rfl (vec_to rfl k) | exact fun _ k => mp_to rfl k | exact fun _ k => mp_of rfl k | exact fun _ k => mp_of rfl (mp_to rfl k)) (fun h k => sat_nil k) k) k), ?_⟩
  have hrt : ∀ e ∈ (readyA B).es, (e.told = true ↔ e.id ∈ l) := by
    intro e he
    obtain ⟨e0, h0, rfl⟩ := mem_readyA.1 he
    rw [hl]
    by_cases h : e0.id ∈ l
    · rw [if_pos h]; exact ⟨fun _ => h, fun _ => rfl⟩
    · rw [if_neg h, hun e0 h0]; exact ⟨fun h1 => (by cases h1), fun h1 => absurd h1 h⟩
  refine LoopOb.mk { z : Nat × BA × List Int × List Int // z.1 ≤ l.length ∧ St fl nd z.2.1 z.2.2.1 z.2.2.2 ∧ (∀ x ∈ l.drop z.1, ∃ e ∈ z.2.1.es, e.id = x ∧ e.told = true) ∧ (∀ e ∈ z.2.1.es, e.told = true → e.id ∈ l.drop z.1) ∧ z.2.1.es.length + z.1 ≤ B.es.length }
    (fun z => ⟨209, [(0, .raw (.slice A fl.length cap)), (1, .raw (.slice E nd.length ce)), (2, .raw (.slice O oks.length co)), (7, .ptr 0 0), (8, .sl 1 0 fl.length fl.length), (9, .sl 2 0 fl.length fl.length), (10, .sl 3 0 fl.length fl.length), (12, .sl 4 0 fl.length fl.length), (14, .int .i64 t), (15, .sl 5 0 l.length c), (16, .int .i64 z.1.1)],
      [(5, p), (4, .at b4 0), (3, .at b3 0), (2, .at b2 0), (1, .at b1 0), (0, .at bb 0)], 6, [.asn (BkA bb mb z.1.2.1), .vec 5 3 1 c (I.flat l), .vec 4 4 1 fl.length AH, .vec 3 3 1 fl.length (I.flat z.1.2.2.1), .vec 2 3 1 fl.length (I.flat z.1.2.2.2), .vec 1 3 1 fl.length (I.flat z.1.2.2.1)]⟩) (fun z => l.length - z.1.1)
    ⟨(0, readyA B, T, G), by omega, st.ready, fun x hx => by
      simp only [List.drop_zero] at hx
      obtain ⟨e, e1, e2, _⟩ := st.inv.rdy x (by rw [hl]; exact hx)
      refine ⟨_, mem_readyA.2 ⟨e, e1, rfl⟩, ?_, ?_⟩
      · split <;> exact e2
      · rw [if_pos (by rw [hl, e2]; exact hx)], fun e he h1 => by simpa using (hrt e he).1 h1, by simp [readyA]⟩ ?_ ?_
  · exact Le.of rfl ⟨⟨_, rfl, rfl⟩, ⟨_, rfl, rfl⟩, ⟨_, rfl, rfl⟩, ⟨_, rfl, rfl⟩, ⟨_, rfl, rfl⟩, ⟨_, rfl, rfl⟩, ⟨_, rfl, rfl⟩, ⟨_, rfl, rfl⟩, ⟨_, rfl, rfl⟩, ⟨_, rfl, rfl⟩, ⟨_, rfl, rfl⟩, trivial⟩ (fun h k => sat_pick 0 rfl (by first | exact fun _ k => k | exact fun _ k => blk_to rfl rfl k | exact fun _ k => vec_to rfl k | exact fun _ k => blk_of rfl rfl k | exact fun _ k => vec_of rfl k | exact fun _ k => blk_of rfl rfl (blk_to rfl rfl k) | exact fun _ k => vec_of rfl (vec_to rfl k) | exact fun _ k => mp_to rfl k | exact fun _ k => mp_of rfl k | exact fun _ k => mp_of rfl (mp_to rfl k)) (fun h k => sat_pick 0 rfl (by first | exact fun _ k => k | exact fun _ k => blk_to rfl rfl k | exact fun _ k => vec_to rfl k | exact fun _ k => blk_of rfl rfl k | exact fun _ k => vec_of rfl k | exact fun _ k => blk_of rfl rfl (blk_to rfl rfl k) | exact fun _ k => vec_of rfl (vec_to rfl k) | exact fun _ k => mp_to rfl k | exact fun _ k => mp_of rfl k | exact fun _ k => mp_of rfl (mp_to rfl k)) (fun h k => sat_pick 0 rfl (by first | exact fun _ k => k | exact fun _ k => blk_to rfl rfl k | exact fun _ k => vec_to rfl k | exact fun _ k => blk_of rfl rfl k | exact fun _ k => vec_of rfl k | exact fun _ k => blk_of rfl rfl (blk_to rfl rfl k) | exact fun _ k => vec_of rfl (vec_to rfl k) | exact fun _ k => mp_to rfl k | exact fun _ k => mp_of rfl k | exact fun _ k => mp_of rfl (mp_to rfl k)) (fun h k => sat_pick 0 rfl (by first | exact fun _ k => k | exact fun _ k => blk_to rfl rfl k | exact fun _ k => vec_to rfl k | exact fun _ k => blk_of rfl rfl k | exact fun _ k => vec_of rfl k | exact fun _ k => blk_of rfl rfl (blk_to rfl rfl k) | exact fun _ k => vec_of rfl (vec_to rfl k) | exact fun _ k => mp_to rfl k | exact fun _ k => mp_of rfl k | exact fun _ k => mp_of rfl (mp_to rfl k)) (fun h k => sat_pick 0 rfl (by first | exact fun _ k => k | exact fun _ k => blk_to rfl rfl k | exact fun _ k => vec_to rfl k | exact fun _ k => blk_of rfl rfl k | exact fun _ k => vec_of rfl k | exact fun _ k => blk_of rfl rfl (blk_to rfl rfl k) | exact fun _ k => vec_of rfl (vec_to rfl k) | exact fun _ k => mp_to rfl k | exact fun _ k => mp_of rfl k | exact fun _ k => mp_of rfl (mp_to rfl k)) (fun h k => sat_pick 0 rfl (by first | exact fun _ k => k | exact fun _ k => blk_to rfl rfl k | exact fun _ k => vec_to rfl k | exact fun _ k => blk_of rfl rfl k | exact fun _ k => vec_of rfl k | exact fun _ k => blk_of rfl rfl (blk_to rfl rfl k) | exact fun _ k => vec_of rfl (vec_to rfl k) | exact fun _ k => mp_to rfl k | exact fun _ k => mp_of rfl k | exact fun _ k => mp_of rfl (mp_to rfl k)) (fun h k => sat_nil k) k) k) k) k) k) k)
  rintro ⟨⟨p2, B2, T2, G2⟩, hp2, st2, hin, hout, hcnt⟩
  simp only at hp2 st2 hin hout hcnt
  refine CondOb.split (fun g2 => ?_) (fun g2 => ?_)
  rotate_left
  · simp only [decide_eq_false_iff_not] at g2
    replace g2 : ¬ (p2 : Int) < l.length := g2
    have e2 : p2 = l.length := by omega
    subst e2
    refine ⟨⟨(t + 1, B2, T2, G2), by omega, st2, fun e he => ?_, ?_⟩, ?_, Le.of rfl ⟨⟨_, rfl, rfl⟩, ⟨_, rfl, rfl⟩, ⟨_, rfl, rfl⟩, ⟨_, rfl, rfl⟩, ⟨_, rfl, rfl⟩, ⟨_, rfl, rfl⟩, ⟨_, rfl, rfl⟩, ⟨_, rfl, rfl⟩, ⟨_, rfl, congrArg (fun z => some (Value.int .i64 z)) et⟩, trivial⟩ (fun h k => sat_pick 0 rfl (by first | exact fun _ k => k | exact fun _ k => blk_to rfl rfl k | exact fun _ k => vec_to rfl k | exact fun _ k => blk_of rfl rfl k | exact fun _ k => vec_of rfl k | exact fun _ k => blk_of rfl rfl (blk_to rfl rfl k) | exact fun _ k => vec_of rfl (vec_to rfl k) | exact fun _ k => mp_to rfl k | exact fun _ k => mp_of rfl k | exact fun _ k => mp_of rfl (mp_to rfl k)) (fun h k => sat_pick 1 rfl (by first | exact fun _ k => k | exact fun _ k => blk_to rfl rfl k | exact fun _ k => vec_to rfl k | exact fun _ k => blk_of rfl rfl k | exact fun _ k => vec_of rfl k | exact fun _ k => blk_of rfl rfl (blk_to rfl rfl k) | exact fun _ k => vec_of rfl (vec_to rfl k) | exact fun _ k => mp_to rfl k | exact fun _ k => mp_of rfl k | exact fun _ k => mp_of rfl (mp_to rfl k)) (fun h k => sat_pick 1 rfl (by first | exact fun _ k => k | exact fun _ k => blk_to rfl rfl k | exact fun _ k => vec_to rfl k | exact fun _ k => blk_of rfl rfl k | exact fun _ k => vec_of rfl k | exact fun _ k => blk_of rfl rfl (blk_to rfl rfl k) | exact fun _ k => vec_of rfl (vec_to rfl k) | exact fun _ k => mp_to rfl k | exact fun _ k => mp_of rfl k | exact fun _ k => mp_of rfl (mp_to rfl k)) (fun h k => sat_pick 1 rfl (by first | exact fun _ k => k | exact fun _ k => blk_to rfl rfl k | exact fun _ k => vec_to rfl k | exact fun _ k => blk_of rfl rfl k | exact fun _ k => vec_of rfl k | exact fun _ k => blk_of rfl rfl (blk_to rfl rfl k) | exact fun _ k => vec_of rfl (vec_to rfl k) | exact fun _ k => mp_to rfl k | exact fun _ k => mp_of rfl k | exact fun _ k => mp_of rfl (mp_to rfl k)) (fun h k => sat_pick 1 rfl (by first | exact fun _ k => k | exact fun _ k => blk_to rfl rfl k | exact fun _ k => vec_to rfl k | exact fun _ k => blk_of rfl rfl k | exact fun _ k => vec_of rfl k | exact fun _ k => blk_of rfl rfl (blk_to rfl rfl k) | exact fun _ k => vec_of rfl (vec_to rfl k) | exact fun _ k => mp_to rfl k | exact fun _ k => mp_of rfl k | exact fun _ k => mp_of rfl (mp_to rfl k)) (fun h k => sat_nil k) k) k) k) k) k)⟩
    · cases h : e.told with
      | false => rfl
      | true => have := hout e he h; simp at this
    · by_cases h0 : B.es = []
      · right
        have : B.es.length = 0 := by rw [h0]; rfl
        exact List.length_eq_zero_iff.1 (by simp only; omega)
      · rcases hfew with h | h
        · left
          obtain ⟨e, h1, h2⟩ := st.inv.head h0
          have h3 := (st.inv.all e h1 h2).resolve_left (by rw [hun e h1]; simp)
          rw [hl] at h3
          have := List.length_pos_of_mem h3
          simp only; omega
        · exact absurd h h0
    · show 2 * fl.length + 2 - (t + 1) < 2 * fl.length + 2 - t
      omega
  simp only [decide_eq_true_eq] at g2
  replace g2 : (p2 : Int) < l.length := g2
  have hx := getD_at (k := p2) 0 (show p2 < l.length by omega)
  have ep2 : IntKind.i64.wrap ((p2 : Int) + 1) = ((p2 + 1 : Nat) : Int) := by
    have := st.few
    have := st.small
    rw [hl] at *
    rw [w64 (by omega) (by omega)]; omega
  have hdrop : l.drop p2 = l.getD p2 0 :: l.drop (p2 + 1) := by
    rw [List.drop_eq_getElem_cons (by omega)]
    congr 1
    rw [List.getElem?_eq_getElem (by omega)] at hx
    exact Option.some.inj hx
  have hnd2 : (l.getD p2 0) ∉ l.drop (p2 + 1) := by
    have := st.inv.rnd
    rw [hl] at this
    have := this.sublist (List.drop_sublist p2 l)
    rw [hdrop] at this
    exact (List.nodup_cons.1 this).1
  obtain ⟨e, he, hid, htold⟩ := hin (l.getD p2 0) (by rw [hdrop]; simp)
  obtain ⟨k, hk, hek, hef, heb, hea⟩ := st2.one e he
  have hlk : l.getD p2 0 = (k : Int) := by rw [← hid, hek]
  have hcnt0 := st2.cnt k hk
  rw [if_pos (List.mem_map.2 ⟨e, he, hek⟩)] at hcnt0
  have hT0 : T2.getD k 0 = 0 := by have := st2.pT k hk; have := st2.pG k hk; omega
  have hahead := st2.inv.told e he htold
  obtain ⟨bp, op, rfl⟩ := hp (fun h => by rw [h] at g2; simp at g2; omega)
  refine Need.mk ⟨Int.natCast_nonneg p2, g2⟩ ?_
  refine RdOb.mk (.int .i64 k) _ rfl (by rw [← hlk]; simpa using flat_cell (l := l) (k := p2) (by omega)) ?_
  refine Br.mk (fun h => absurd h (by simp)) (fun _ => ?_)
  refine Br.mk (fun h => absurd h (by simp; omega)) (fun _ => ?_)
  refine Need.mk ⟨Int.natCast_nonneg k, by omega⟩ ?_
  refine RdOb.mk (.bool (tie fl nd k)) _ rfl (by simpa using eAH k hk) ?_
  refine Br.mk (fun h1 => ?_) (fun h1 => ?_)
  · have h2 := hea hahead h1
    cases k with
    | zero => cases h1
    | succ k' =>
    rw [Nat.add_sub_cancel] at h2
    have ek1 : IntKind.i64.wrap (((k' + 1 : Nat) : Int) - 1) = (k' : Int) := by rw [w64 (by omega) (by omega)]; omega
    refine Need.mk ⟨by rw [ek1]; exact Int.natCast_nonneg _, by rw [ek1]; omega⟩ ?_
    refine RdOb.mk (.int .i64 (T2.getD k' 0)) _ rfl (by rw [ek1]; simpa using flat_cell (l := T2) (k := k') (by rw [st2.lT]; omega)) ?_
    generalize hkk : k' + 1 = k at *
    have h3 : T2.getD k' 0 ≠ 0 := by omega
    refine CondOb.split (fun h => absurd h (by simpa using h3)) (fun _ => ?_)
    refine Need.mk ⟨Int.natCast_nonneg k, by omega⟩ ?_
    refine RdOb.mk (.int .i64 (T2.getD k 0)) _ rfl (by simpa using flat_cell (l := T2) (k := k) (by rw [st2.lT]; exact hk)) ?_
    refine Need.mk ⟨Int.natCast_nonneg k, by omega⟩ ?_
    refine StOb.mk [.int .i64 (IntKind.i64.wrap (T2.getD k 0 + 1))] rfl (Need.mk (by rw [lI, st2.lT]; simp; omega) ?_)
    refine Br.mk (fun h => ?_) (fun h => ?_)
    · simp only [decide_eq_true_eq] at h
      replace h : (k : Int) < oks.length := h
      have hok := getD_at (k := k) false (show k < oks.length by omega)
      obtain ⟨bo, oo, hOe, hOr⟩ := hO.lay (by decide) hok
      have hok0 := hOr 0 _ rfl
      refine Need.mk ⟨Int.natCast_nonneg k, h⟩ (RawAt.mk bo oo hOe ?_)
      refine RdRaw.mk (.bool (oks.getD k false)) _ rfl (by simpa [bools] using hok0) ?_
      have hr2 : B2.ready.length < 100000 := by have := st2.few; have := st2.small; omega
      refine call_ix ((endsA_spec bb mb B2 k (oks.getD k false) st2.inv hr2).sure (Q' := fun v q => ∃ g r B' p c, (g ≠ [] → ∃ b o, p = .at b o) ∧ EndsA B2 k (oks.getD k false) g r B' ∧ v = .tuple #[.slice (locAddr 0 p) g.length c, .int .i64 r] ∧ q = [BkA bb mb B', Vec p 3 1 c (I.flat g)]) (by
          rintro v q h ⟨g, r, B', p, c, h1, rfl, rfl⟩ hs
          refine ⟨g, r, B', p, c, fun hne => vec_sures (As := []) ((fun h k => sat_pick 1 rfl (by first | exact fun _ k => k | exact fun _ k => blk_to rfl rfl k | exact fun _ k => vec_to rfl k | exact fun _ k => blk_of rfl rfl k | exact fun _ k => vec_of rfl k | exact fun _ k => blk_of rfl rfl (blk_to rfl rfl k) | exact fun _ k => vec_of rfl (vec_to rfl k) | exact fun _ k => mp_to rfl k | exact fun _ k => mp_of rfl k | exact fun _ k => mp_of rfl (mp_to rfl k)) (fun h k => sat_nil k) k) h hs) (fun h0 => hne ?_), h1, rfl, rfl⟩
          have := congrArg List.length h0
          rw [lI] at this
          exact List.length_eq_zero_iff.1 (by simpa using this))) rfl [1] (fun h k => sat_pick 1 rfl (by first | exact fun _ k => k | exact fun _ k => blk_to rfl rfl k | exact fun _ k => vec_to rfl k | exact fun _ k => blk_of rfl rfl k | exact fun _ k => vec_of rfl k | exact fun _ k => blk_of rfl rfl (blk_to rfl rfl k) | exact fun _ k => vec_of rfl (vec_to rfl k) | exact fun _ k => mp_to rfl k | exact fun _ k => mp_of rfl k | exact fun _ k => mp_of rfl (mp_to rfl k)) (fun h k => sat_pick 0 rfl (by first | exact fun _ k => k | exact fun _ k => blk_to rfl rfl k | exact fun _ k => vec_to rfl k | exact fun _ k => blk_of rfl rfl k | exact fun _ k => vec_of rfl k | exact fun _ k => blk_of rfl rfl (blk_to rfl rfl k) | exact fun _ k => vec_of rfl (vec_to rfl k) | exact fun _ k => mp_to rfl k | exact fun _ k => mp_of rfl k | exact fun _ k => mp_of rfl (mp_to rfl k)) (fun h k => sat_pick 0 rfl (by first | exact fun _ k => k | exact fun _ k => blk_to rfl rfl k | exact fun _ k => vec_to rfl k | exact fun _ k => blk_of rfl rfl k | exact fun _ k => vec_of rfl k | exact fun _ k => blk_of rfl rfl (blk_to rfl rfl k) | exact fun _ k => vec_of rfl (vec_to rfl k) | exact fun _ k => mp_to rfl k | exact fun _ k => mp_of rfl k | exact fun _ k => mp_of rfl (mp_to rfl k)) (fun h k => sat_pick 0 rfl (by first | exact fun _ k => k | exact fun _ k => blk_to rfl rfl k | exact fun _ k => vec_to rfl k | exact fun _ k => blk_of rfl rfl k | exact fun _ k => vec_of rfl k | exact fun _ k => blk_of rfl rfl (blk_to rfl rfl k) | exact fun _ k => vec_of rfl (vec_to rfl k) | exact fun _ k => mp_to rfl k | exact fun _ k => mp_of rfl k | exact fun _ k => mp_of rfl (mp_to rfl k)) (fun h k => sat_pick 0 rfl (by first | exact fun _ k => k | exact fun _ k => blk_to rfl rfl k | exact fun _ k => vec_to rfl k | exact fun _ k => blk_of rfl rfl k | exact fun _ k => vec_of rfl k | exact fun _ k => blk_of rfl rfl (blk_to rfl rfl k) | exact fun _ k => vec_of rfl (vec_to rfl k) | exact fun _ k => mp_to rfl k | exact fun _ k => mp_of rfl k | exact fun _ k => mp_of rfl (mp_to rfl k)) (fun h k => sat_pick 0 rfl (by first | exact fun _ k => k | exact fun _ k => blk_to rfl rfl k | exact fun _ k => vec_to rfl k | exact fun _ k => blk_of rfl rfl k | exact fun _ k => vec_of rfl k | exact fun _ k => blk_of rfl rfl (blk_to rfl rfl k) | exact fun _ k => vec_of rfl (vec_to rfl k) | exact fun _ k => mp_to rfl k | exact fun _ k => mp_of rfl k | exact fun _ k => mp_of rfl (mp_to rfl k)) (fun h k => sat_nil k) k) k) k) k) k) k) (fun _ _ _ _ => trivial) ?_
      rintro v post ⟨gs, r, B3, pg, cg, hpg, hE3, rfl, rfl⟩
      obtain ⟨rfl, hgs, hgo, st3, hless, hback, hfwd⟩ := st2.step hE3 k hk rfl ⟨e, he, hek, htold⟩
      refine ⟨.tuple [.sl 6 0 gs.length cg, .int .i64 0], [(6, pg), (5, .at bp op), (4, .at b4 0), (3, .at b3 0), (2, .at b2 0), (1, .at b1 0), (0, .at bb 0)], 7, [.asn (BkA bb mb B3), .vec 6 3 1 cg (I.flat gs)], NmExt.push rfl, rfl, (fun h k => sat_pick 0 rfl (by first | exact fun _ k => k | exact fun _ k => blk_to rfl rfl k | exact fun _ k => vec_to rfl k | exact fun _ k => blk_of rfl rfl k | exact fun _ k => vec_of rfl k | exact fun _ k => blk_of rfl rfl (blk_to rfl rfl k) | exact fun _ k => vec_of rfl (vec_to rfl k) | exact fun _ k => mp_to rfl k | exact fun _ k => mp_of rfl k | exact fun _ k => mp_of rfl (mp_to rfl k)) (fun h k => sat_pick 0 rfl (by first | exact fun _ k => k | exact fun _ k => blk_to rfl rfl k | exact fun _ k => vec_to rfl k | exact fun _ k => blk_of rfl rfl k | exact fun _ k => vec_of rfl k | exact fun _ k => blk_of rfl rfl (blk_to rfl rfl k) | exact fun _ k => vec_of rfl (vec_to rfl k) | exact fun _ k => mp_to rfl k | exact fun _ k => mp_of rfl k | exact fun _ k => mp_of rfl (mp_to rfl k)) (fun h k => sat_nil k) k) k), ?_⟩
      refine useP (.int .i64 0) (code_spec 0) rfl rfl ?_
      refine CondOb.split (fun h => absurd h (by decide)) (fun _ => ?_)
      refine Need.mk ⟨Int.natCast_nonneg k, by omega⟩ ?_
      refine RdOb.mk (.int .i64 (T2.getD k 0)) _ rfl (by simpa using flat_cell (l := T2) (k := k) (by rw [st2.lT]; exact hk)) ?_
      refine Need.mk ⟨Int.natCast_nonneg k, by omega⟩ ?_
      refine StOb.mk [.int .i64 (IntKind.i64.wrap (T2.getD k 0 + 1))] rfl (Need.mk (by rw [lI, st2.lT]; simp; omega) ?_)
      refine LoopOb.mk { j : Nat // j ≤ gs.length }
        (fun z => ⟨209, [(0, .raw (.slice A fl.length cap)), (1, .raw (.slice E nd.length ce)), (2, .raw (.slice O oks.length co)), (7, .ptr 0 0), (8, .sl 1 0 fl.length fl.length), (9, .sl 2 0 fl.length fl.length), (10, .sl 3 0 fl.length fl.length), (12, .sl 4 0 fl.length fl.length), (14, .int .i64 t), (15, .sl 5 0 l.length c), (16, .int .i64 p2), (17, .int .i64 k), (18, .bool (oks.getD k false)), (19, .sl 6 0 gs.length cg), (21, .int .i64 z.1)],
          [(6, pg), (5, .at bp op), (4, .at b4 0), (3, .at b3 0), (2, .at b2 0), (1, .at b1 0), (0, .at bb 0)], 7, [.asn (BkA bb mb B3), .vec 6 3 1 cg (I.flat gs), .vec 5 3 1 c (I.flat l), .vec 4 4 1 fl.length AH, .vec 3 3 1 fl.length (I.flat (up T2 k)), .vec 2 3 1 fl.length (I.flat (ups G2 (k + 1) z.1)), .vec 1 3 1 fl.length (I.flat (up T2 k))]⟩) (fun z => gs.length - z.1) ⟨0, by omega⟩ ?_ ?_
      · exact Le.of rfl ⟨⟨_, rfl, rfl⟩, ⟨_, rfl, rfl⟩, ⟨_, rfl, rfl⟩, ⟨_, rfl, rfl⟩, ⟨_, rfl, rfl⟩, ⟨_, rfl, rfl⟩, ⟨_, rfl, rfl⟩, ⟨_, rfl, rfl⟩, ⟨_, rfl, rfl⟩, ⟨_, rfl, rfl⟩, ⟨_, rfl, rfl⟩, ⟨_, rfl, rfl⟩, ⟨_, rfl, rfl⟩, ⟨_, rfl, rfl⟩, ⟨_, rfl, rfl⟩, trivial⟩ (fun h k => sat_pick 1 rfl (by first | exact fun _ k => k | exact fun _ k => blk_to rfl rfl k | exact fun _ k => vec_to rfl k | exact fun _ k => blk_of rfl rfl k | exact fun _ k => vec_of rfl k | exact fun _ k => blk_of rfl rfl (blk_to rfl rfl k) | exact fun _ k => vec_of rfl (vec_to rfl k) | exact fun _ k => mp_to rfl k | exact fun _ k => mp_of rfl k | exact fun _ k => mp_of rfl (mp_to rfl k)) (fun h k => sat_pick 1 rfl (by first | exact fun _ k => k | exact fun _ k => blk_to rfl rfl k | exact fun _ k => vec_to rfl k | exact fun _ k => blk_of rfl rfl k | exact fun _ k => vec_of rfl k | exact fun _ k => blk_of rfl rfl (blk_to rfl rfl k) | exact fun _ k => vec_of rfl (vec_to rfl k) | exact fun _ k => mp_to rfl k | exact fun _ k => mp_of rfl k | exact fun _ k => mp_of rfl (mp_to rfl k)) (fun h k => sat_pick 2 rfl (by first | exact fun _ k => k | exact fun _ k => blk_to rfl rfl k | exact fun _ k => vec_to rfl k | exact fun _ k => blk_of rfl rfl k | exact fun _ k => vec_of rfl k | exact fun _ k => blk_of rfl rfl (blk_to rfl rfl k) | exact fun _ k => vec_of rfl (vec_to rfl k) | exact fun _ k => mp_to rfl k | exact fun _ k => mp_of rfl k | exact fun _ k => mp_of rfl (mp_to rfl k)) (fun h k => sat_pick 2 rfl (by first | exact fun _ k => k | exact fun _ k => blk_to rfl rfl k | exact fun _ k => vec_to rfl k | exact fun _ k => blk_of rfl rfl k | exact fun _ k => vec_of rfl k | exact fun _ k => blk_of rfl rfl (blk_to rfl rfl k) | exact fun _ k => vec_of rfl (vec_to rfl k) | exact fun _ k => mp_to rfl k | exact fun _ k => mp_of rfl k | exact fun _ k => mp_of rfl (mp_to rfl k)) (fun h k => sat_pick 0 rfl (fun _ q => by rw [← up_put (by rw [st2.lT]; exact hk) (by omega) (by omega)]; exact q) (fun h k => sat_pick 1 rfl (by first | exact fun _ k => k | exact fun _ k => blk_to rfl rfl k | exact fun _ k => vec_to rfl k | exact fun _ k => blk_of rfl rfl k | exact fun _ k => vec_of rfl k | exact fun _ k => blk_of rfl rfl (blk_to rfl rfl k) | exact fun _ k => vec_of rfl (vec_to rfl k) | exact fun _ k => mp_to rfl k | exact fun _ k => mp_of rfl k | exact fun _ k => mp_of rfl (mp_to rfl k)) (fun h k => sat_pick 0 rfl (fun _ q => by rw [← up_put (by rw [st2.lT]; exact hk) (by omega) (by omega)]; exact q) (fun h k => sat_nil k) k) k) k) k) k) k) k)
      rintro ⟨j, hj⟩
      refine CondOb.split (fun g5 => ?_) (fun g5 => ?_)
      rotate_left
      · simp only [decide_eq_false_iff_not] at g5
        replace g5 : ¬ (j : Int) < gs.length := g5
        have ej : j = gs.length := by omega
        subst ej
        refine ⟨⟨(p2 + 1, B3, up T2 k, ups G2 (k + 1) gs.length), by omega, st3, fun x hx => ?_, fun a ha h => ?_, by simp only; omega⟩, ?_, Le.of rfl ⟨⟨_, rfl, rfl⟩, ⟨_, rfl, rfl⟩, ⟨_, rfl, rfl⟩, ⟨_, rfl, rfl⟩, ⟨_, rfl, rfl⟩, ⟨_, rfl, rfl⟩, ⟨_, rfl, rfl⟩, ⟨_, rfl, rfl⟩, ⟨_, rfl, rfl⟩, ⟨_, rfl, rfl⟩, ⟨_, rfl, congrArg (fun z => some (Value.int .i64 z)) ep2⟩, trivial⟩ (fun h k => sat_pick 0 rfl (by first | exact fun _ k => k | exact fun _ k => blk_to rfl rfl k | exact fun _ k => vec_to rfl k | exact fun _ k => blk_of rfl rfl k | exact fun _ k => vec_of rfl k | exact fun _ k => blk_of rfl rfl (blk_to rfl rfl k) | exact fun _ k => vec_of rfl (vec_to rfl k) | exact fun _ k => mp_to rfl k | exact fun _ k => mp_of rfl k | exact fun _ k => mp_of rfl (mp_to rfl k)) (fun h k => sat_pick 1 rfl (by first | exact fun _ k => k | exact fun _ k => blk_to rfl rfl k | exact fun _ k => vec_to rfl k | exact fun _ k => blk_of rfl rfl k | exact fun _ k => vec_of rfl k | exact fun _ k => blk_of rfl rfl (blk_to rfl rfl k) | exact fun _ k => vec_of rfl (vec_to rfl k) | exact fun _ k => mp_to rfl k | exact fun _ k => mp_of rfl k | exact fun _ k => mp_of rfl (mp_to rfl k)) (fun h k => sat_pick 1 rfl (by first | exact fun _ k => k | exact fun _ k => blk_to rfl rfl k | exact fun _ k => vec_to rfl k | exact fun _ k => blk_of rfl rfl k | exact fun _ k => vec_of rfl k | exact fun _ k => blk_of rfl rfl (blk_to rfl rfl k) | exact fun _ k => vec_of rfl (vec_to rfl k) | exact fun _ k => mp_to rfl k | exact fun _ k => mp_of rfl k | exact fun _ k => mp_of rfl (mp_to rfl k)) (fun h k => sat_pick 1 rfl (by first | exact fun _ k => k | exact fun _ k => blk_to rfl rfl k | exact fun _ k => vec_to rfl k | exact fun _ k => blk_of rfl rfl k | exact fun _ k => vec_of rfl k | exact fun _ k => blk_of rfl rfl (blk_to rfl rfl k) | exact fun _ k => vec_of rfl (vec_to rfl k) | exact fun _ k => mp_to rfl k | exact fun _ k => mp_of rfl k | exact fun _ k => mp_of rfl (mp_to rfl k)) (fun h k => sat_pick 1 rfl (by first | exact fun _ k => k | exact fun _ k => blk_to rfl rfl k | exact fun _ k => vec_to rfl k | exact fun _ k => blk_of rfl rfl k | exact fun _ k => vec_of rfl k | exact fun _ k => blk_of rfl rfl (blk_to rfl rfl k) | exact fun _ k => vec_of rfl (vec_to rfl k) | exact fun _ k => mp_to rfl k | exact fun _ k => mp_of rfl k | exact fun _ k => mp_of rfl (mp_to rfl k)) (fun h k => sat_pick 1 rfl (by first | exact fun _ k => k | exact fun _ k => blk_to rfl rfl k | exact fun _ k => vec_to rfl k | exact fun _ k => blk_of rfl rfl k | exact fun _ k => vec_of rfl k | exact fun _ k => blk_of rfl rfl (blk_to rfl rfl k) | exact fun _ k => vec_of rfl (vec_to rfl k) | exact fun _ k => mp_to rfl k | exact fun _ k => mp_of rfl k | exact fun _ k => mp_of rfl (mp_to rfl k)) (fun h k => sat_nil k) k) k) k) k) k) k)⟩
        · obtain ⟨e', h1, h2, h3⟩ := hin x (by rw [hdrop]; exact List.mem_cons_of_mem _ hx)
          obtain ⟨a, a1, a2, a3⟩ := hfwd e' h1 h3 (fun h => hnd2 (by rw [hlk, ← h, h2]; exact hx))
          exact ⟨a, a1, a2.trans h2, a3⟩
        · obtain ⟨h1, e', h2, h3, h4⟩ := hback a ha
          have h5 := hout e' h2 (h4.trans h)
          rw [hdrop, List.mem_cons] at h5
          rcases h5 with h5 | h5
          · exact absurd (h3.symm.trans (h5.trans hlk)) h1
          · rw [← h3]; exact h5
        · show l.length - (p2 + 1) < l.length - p2
          omega
      simp only [decide_eq_true_eq] at g5
      replace g5 : (j : Int) < gs.length := g5
      have hne : gs ≠ [] := fun h => by rw [h] at g5; simp at g5; omega
      obtain ⟨bg, og, rfl⟩ := hpg hne
      have hgj := getD_at (k := j) 0 (show j < gs.length by omega)
      obtain ⟨hg1, hg2⟩ := hgs j _ hgj
      obtain ⟨hok, hf1⟩ := hgo hne
      have ej : IntKind.i64.wrap ((j : Int) + 1) = ((j + 1 : Nat) : Int) := by rw [w64 (by omega) (by omega)]; omega
      have ekj : IntKind.i64.wrap (IntKind.i64.wrap ((k : Int) + 1) + j) = ((k + 1 + j : Nat) : Int) := by rw [w64 (x := (k : Int) + 1) (by omega) (by omega), w64 (by omega) (by omega)]; omega
      have rdg : (I.flat gs)[j]? = some (.int .i64 ((k + 1 + j : Nat) : Int)) := by rw [← hg1]; exact flat_cell (by omega)
      have hfk := getD_at (k := k) 0 hk
      obtain ⟨ba, o, hAe, hAr⟩ := hA.lay (by decide) hfk
      have hfk0 := hAr 0 _ rfl
      have hfr := hf _ (List.mem_of_getElem? hfk)
      have eU := ups_get (l := G2) (a := k + 1) (i := k + 1 + j) (by rw [st2.lG]; exact hg2) j
      rw [if_neg (by omega)] at eU
      have hG1 := st2.pG (k + 1 + j) hg2
      have hG2 := st2.cnt (k + 1 + j) hg2
      have hG3 := st2.pT (k + 1 + j) hg2
      have hG4 : (ups G2 (k + 1) j).getD (k + 1 + j) 0 ≤ 1 := by
        rw [eU]; split at hG2 <;> omega
      have hG5 : (ups G2 (k + 1) j).getD (k + 1 + j) 0 ≤ 1000 := by omega
      refine Need.mk ⟨Int.natCast_nonneg j, g5⟩ ?_
      refine RdOb.mk (.int .i64 ((k + 1 + j : Nat) : Int)) _ rfl (by simpa using rdg) ?_
      refine Br.mk (fun h => absurd h (by rw [ekj]; simp)) (fun _ => ?_)
      refine Br.mk (fun h => absurd h (by rw [hok]; simp)) (fun _ => ?_)
      refine Need.mk ⟨Int.natCast_nonneg k, by omega⟩ (RawAt.mk ba o hAe ?_)
      refine RdRaw.mk (.int .u8 (fl.getD k 0)) _ rfl (by simpa [ints] using hfk0) ?_
      refine Need.mk (by decide) ?_
      refine CondOb.split (fun h => absurd h (by rw [Int.tmod_eq_emod_of_nonneg hfr.1, hf1]; decide)) (fun _ => ?_)
      refine Need.mk ⟨Int.natCast_nonneg j, g5⟩ ?_
      refine RdOb.mk (.int .i64 ((k + 1 + j : Nat) : Int)) _ rfl (by simpa using rdg) ?_
      refine Need.mk ⟨Int.natCast_nonneg _, by omega⟩ ?_
      refine RdOb.mk (.int .i64 ((ups G2 (k + 1) j).getD (k + 1 + j) 0)) _ rfl (by have h := flat_cell (l := ups G2 (k + 1) j) (k := k + 1 + j) (by rw [ups_len, st2.lG]; exact hg2); simpa only [Nat.zero_add, Nat.mul_one, Nat.add_zero, Int.toNat_natCast] using h) ?_
      refine Need.mk ⟨Int.natCast_nonneg _, by omega⟩ ?_
      refine StOb.mk [.int .i64 (IntKind.i64.wrap ((ups G2 (k + 1) j).getD (k + 1 + j) 0 + 1))] rfl (Need.mk (by rw [lI, ups_len, st2.lG]; simp; omega) ?_)
      have eUp := up_put (T := ups G2 (k + 1) j) (k := k + 1 + j) (by rw [ups_len, st2.lG]; exact hg2) (by omega) hG5
      refine ⟨⟨j + 1, by omega⟩, ?_, Le.of rfl ⟨⟨_, rfl, rfl⟩, ⟨_, rfl, rfl⟩, ⟨_, rfl, rfl⟩, ⟨_, rfl, rfl⟩, ⟨_, rfl, rfl⟩, ⟨_, rfl, rfl⟩, ⟨_, rfl, rfl⟩, ⟨_, rfl, rfl⟩, ⟨_, rfl, rfl⟩, ⟨_, rfl, rfl⟩, ⟨_, rfl, rfl⟩, ⟨_, rfl, rfl⟩, ⟨_, rfl, rfl⟩, ⟨_, rfl, rfl⟩, ⟨_, rfl, congrArg (fun z => some (Value.int .i64 z)) ej⟩, trivial⟩ (fun h k => sat_pick 1 rfl (by first | exact fun _ k => k | exact fun _ k => blk_to rfl rfl k | exact fun _ k => vec_to rfl k | exact fun _ k => blk_of rfl rfl k | exact fun _ k => vec_of rfl k | exact fun _ k => blk_of rfl rfl (blk_to rfl rfl k) | exact fun _ k => vec_of rfl (vec_to rfl k) | exact fun _ k => mp_to rfl k | exact fun _ k => mp_of rfl k | exact fun _ k => mp_of rfl (mp_to rfl k)) (fun h k => sat_pick 1 rfl (by first | exact fun _ k => k | exact fun _ k => blk_to rfl rfl k | exact fun _ k => vec_to rfl k | exact fun _ k => blk_of rfl rfl k | exact fun _ k => vec_of rfl k | exact fun _ k => blk_of rfl rfl (blk_to rfl rfl k) | exact fun _ k => vec_of rfl (vec_to rfl k) | exact fun _ k => mp_to rfl k | exact fun _ k => mp_of rfl k | exact fun _ k => mp_of rfl (mp_to rfl k)) (fun h k => sat_pick 1 rfl (by first | exact fun _ k => k | exact fun _ k => blk_to rfl rfl k | exact fun _ k => vec_to rfl k | exact fun _ k => blk_of rfl rfl k | exact fun _ k => vec_of rfl k | exact fun _ k => blk_of rfl rfl (blk_to rfl rfl k) | exact fun _ k => vec_of rfl (vec_to rfl k) | exact fun _ k => mp_to rfl k | exact fun _ k => mp_of rfl k | exact fun _ k => mp_of rfl (mp_to rfl k)) (fun h k => sat_pick 1 rfl (by first | exact fun _ k => k | exact fun _ k => blk_to rfl rfl k | exact fun _ k => vec_to rfl k | exact fun _ k => blk_of rfl rfl k | exact fun _ k => vec_of rfl k | exact fun _ k => blk_of rfl rfl (blk_to rfl rfl k) | exact fun _ k => vec_of rfl (vec_to rfl k) | exact fun _ k => mp_to rfl k | exact fun _ k => mp_of rfl k | exact fun _ k => mp_of rfl (mp_to rfl k)) (fun h k => sat_pick 1 rfl (by first | exact fun _ k => k | exact fun _ k => blk_to rfl rfl k | exact fun _ k => vec_to rfl k | exact fun _ k => blk_of rfl rfl k | exact fun _ k => vec_of rfl k | exact fun _ k => blk_of rfl rfl (blk_to rfl rfl k) | exact fun _ k => vec_of rfl (vec_to rfl k) | exact fun _ k => mp_to rfl k | exact fun _ k => mp_of rfl k | exact fun _ k => mp_of rfl (mp_to rfl k)) (fun h k => sat_pick 0 rfl (fun _ q => vec_eq eUp q) (fun h k => sat_pick 0 rfl (by first | exact fun _ k => k | exact fun _ k => blk_to rfl rfl k | exact fun _ k => vec_to rfl k | exact fun _ k => blk_of rfl rfl k | exact fun _ k => vec_of rfl k | exact fun _ k => blk_of rfl rfl (blk_to rfl rfl k) | exact fun _ k => vec_of rfl (vec_to rfl k) | exact fun _ k => mp_to rfl k | exact fun _ k => mp_of rfl k | exact fun _ k => mp_of rfl (mp_to rfl k)) (fun h k => sat_nil k) k) k) k) k) k) k) k)⟩
      show gs.length - (j + 1) < gs.length - j
      omega
    · have hr2 : B2.ready.length < 100000 := by have := st2.few; have := st2.small; omega
      refine call_ix ((endsA_spec bb mb B2 k false st2.inv hr2).sure (Q' := fun v q => ∃ g r B' p c, (g ≠ [] → ∃ b o, p = .at b o) ∧ EndsA B2 k false g r B' ∧ v = .tuple #[.slice (locAddr 0 p) g.length c, .int .i64 r] ∧ q = [BkA bb mb B', Vec p 3 1 c (I.flat g)]) (by
          rintro v q h ⟨g, r, B', p, c, h1, rfl, rfl⟩ hs
          refine ⟨g, r, B', p, c, fun hne => vec_sures (As := []) ((fun h k => sat_pick 1 rfl (by first | exact fun _ k => k | exact fun _ k => blk_to rfl rfl k | exact fun _ k => vec_to rfl k | exact fun _ k => blk_of rfl rfl k | exact fun _ k => vec_of rfl k | exact fun _ k => blk_of rfl rfl (blk_to rfl rfl k) | exact fun _ k => vec_of rfl (vec_to rfl k) | exact fun _ k => mp_to rfl k | exact fun _ k => mp_of rfl k | exact fun _ k => mp_of rfl (mp_to rfl k)) (fun h k => sat_nil k) k) h hs) (fun h0 => hne ?_), h1, rfl, rfl⟩
          have := congrArg List.length h0
          rw [lI] at this
          exact List.length_eq_zero_iff.1 (by simpa using this))) rfl [1] (fun h k => sat_pick 1 rfl (by first | exact fun _ k => k | exact fun _ k => blk_to rfl rfl k | exact fun _ k => vec_to rfl k | exact fun _ k => blk_of rfl rfl k | exact fun _ k => vec_of rfl k | exact fun _ k => blk_of rfl rfl (blk_to rfl rfl k) | exact fun _ k => vec_of rfl (vec_to rfl k) | exact fun _ k => mp_to rfl k | exact fun _ k => mp_of rfl k | exact fun _ k => mp_of rfl (mp_to rfl k)) (fun h k => sat_pick 0 rfl (by first | exact fun _ k => k | exact fun _ k => blk_to rfl rfl k | exact fun _ k => vec_to rfl k | exact fun _ k => blk_of rfl rfl k | exact fun _ k => vec_of rfl k | exact fun _ k => blk_of rfl rfl (blk_to rfl rfl k) | exact fun _ k => vec_of rfl (vec_to rfl k) | exact fun _ k => mp_to rfl k | exact fun _ k => mp_of rfl k | exact fun _ k => mp_of rfl (mp_to rfl k)) (fun h k => sat_pick 0 rfl (by first | exact fun _ k => k | exact fun _ k => blk_to rfl rfl k | exact fun _ k => vec_to rfl k | exact fun _ k => blk_of rfl rfl k | exact fun _ k => vec_of rfl k | exact fun _ k => blk_of rfl rfl (blk_to rfl rfl k) | exact fun _ k => vec_of rfl (vec_to rfl k) | exact fun _ k => mp_to rfl k | exact fun _ k => mp_of rfl k | exact fun _ k => mp_of rfl (mp_to rfl k)) (fun h k => sat_pick 0 rfl (by first | exact fun _ k => k | exact fun _ k => blk_to rfl rfl k | exact fun _ k => vec_to rfl k | exact fun _ k => blk_of rfl rfl k | exact fun _ k => vec_of rfl k | exact fun _ k => blk_of rfl rfl (blk_to rfl rfl k) | exact fun _ k => vec_of rfl (vec_to rfl k) | exact fun _ k => mp_to rfl k | exact fun _ k => mp_of rfl k | exact fun _ k => mp_of rfl (mp_to rfl k)) (fun h k => sat_pick 0 rfl (by first | exact fun _ k => k | exact fun _ k => blk_to rfl rfl k | exact fun _ k => vec_to rfl k | exact fun _ k => blk_of rfl rfl k | exact fun _ k => vec_of rfl k | exact fun _ k => blk_of rfl rfl (blk_to rfl rfl k) | exact fun _ k => vec_of rfl (vec_to rfl k) | exact fun _ k => mp_to rfl k | exact fun _ k => mp_of rfl k | exact fun _ k => mp_of rfl (mp_to rfl k)) (fun h k => sat_pick 0 rfl (by first | exact fun _ k => k | exact fun _ k => blk_to rfl rfl k | exact fun _ k => vec_to rfl k | exact fun _ k => blk_of rfl rfl k | exact fun _ k => vec_of rfl k | exact fun _ k => blk_of rfl rfl (blk_to rfl rfl k) | exact fun _ k => vec_of rfl (vec_to rfl k) | exact fun _ k => mp_to rfl k | exact fun _ k => mp_of rfl k | exact fun _ k => mp_of rfl (mp_to rfl k)) (fun h k => sat_nil k) k) k) k) k) k) k) (fun _ _ _ _ => trivial) ?_
      rintro v post ⟨gs, r, B3, pg, cg, hpg, hE3, rfl, rfl⟩
      obtain ⟨rfl, hgs, hgo, st3, hless, hback, hfwd⟩ := st2.step hE3 k hk rfl ⟨e, he, hek, htold⟩
      refine ⟨.tuple [.sl 6 0 gs.length cg, .int .i64 0], [(6, pg), (5, .at bp op), (4, .at b4 0), (3, .at b3 0), (2, .at b2 0), (1, .at b1 0), (0, .at bb 0)], 7, [.asn (BkA bb mb B3), .vec 6 3 1 cg (I.flat gs)], NmExt.push rfl, rfl, (fun h k => sat_pick 0 rfl (by first | exact fun _ k => k | exact fun _ k => blk_to rfl rfl k | exact fun _ k => vec_to rfl k | exact fun _ k => blk_of rfl rfl k | exact fun _ k => vec_of rfl k | exact fun _ k => blk_of rfl rfl (blk_to rfl rfl k) | exact fun _ k => vec_of rfl (vec_to rfl k) | exact fun _ k => mp_to rfl k | exact fun _ k => mp_of rfl k | exact fun _ k => mp_of rfl (mp_to rfl k)) (fun h k => sat_pick 0 rfl (by first | exact fun _ k => k | exact fun _ k => blk_to rfl rfl k | exact fun _ k => vec_to rfl k | exact fun _ k => blk_of rfl rfl k | exact fun _ k => vec_of rfl k | exact fun _ k => blk_of rfl rfl (blk_to rfl rfl k) | exact fun _ k => vec_of rfl (vec_to rfl k) | exact fun _ k => mp_to rfl k | exact fun _ k => mp_of rfl k | exact fun _ k => mp_of rfl (mp_to rfl k)) (fun h k => sat_nil k) k) k), ?_⟩
      refine useP (.int .i64 0) (code_spec 0) rfl rfl ?_
      refine CondOb.split (fun h => absurd h (by decide)) (fun _ => ?_)
      refine Need.mk ⟨Int.natCast_nonneg k, by omega⟩ ?_
      refine RdOb.mk (.int .i64 (T2.getD k 0)) _ rfl (by simpa using flat_cell (l := T2) (k := k) (by rw [st2.lT]; exact hk)) ?_
      refine Need.mk ⟨Int.natCast_nonneg k, by omega⟩ ?_
      refine StOb.mk [.int .i64 (IntKind.i64.wrap (T2.getD k 0 + 1))] rfl (Need.mk (by rw [lI, st2.lT]; simp; omega) ?_)
      refine LoopOb.mk { j : Nat // j ≤ gs.length }
        (fun z => ⟨209, [(0, .raw (.slice A fl.length cap)), (1, .raw (.slice E nd.length ce)), (2, .raw (.slice O oks.length co)), (7, .ptr 0 0), (8, .sl 1 0 fl.length fl.length), (9, .sl 2 0 fl.length fl.length), (10, .sl 3 0 fl.length fl.length), (12, .sl 4 0 fl.length fl.length), (14, .int .i64 t), (15, .sl 5 0 l.length c), (16, .int .i64 p2), (17, .int .i64 k), (18, .bool false), (19, .sl 6 0 gs.length cg), (21, .int .i64 z.1)],
          [(6, pg), (5, .at bp op), (4, .at b4 0), (3, .at b3 0), (2, .at b2 0), (1, .at b1 0), (0, .at bb 0)], 7, [.asn (BkA bb mb B3), .vec 6 3 1 cg (I.flat gs), .vec 5 3 1 c (I.flat l), .vec 4 4 1 fl.length AH, .vec 3 3 1 fl.length (I.flat (up T2 k)), .vec 2 3 1 fl.length (I.flat (ups G2 (k + 1) z.1)), .vec 1 3 1 fl.length (I.flat (up T2 k))]⟩) (fun z => gs.length - z.1) ⟨0, by omega⟩ ?_ ?_
      · exact Le.of rfl ⟨⟨_, rfl, rfl⟩, ⟨_, rfl, rfl⟩, ⟨_, rfl, rfl⟩, ⟨_, rfl, rfl⟩, ⟨_, rfl, rfl⟩, ⟨_, rfl, rfl⟩, ⟨_, rfl, rfl⟩, ⟨_, rfl, rfl⟩, ⟨_, rfl, rfl⟩, ⟨_, rfl, rfl⟩, ⟨_, rfl, rfl⟩, ⟨_, rfl, rfl⟩, ⟨_, rfl, rfl⟩, ⟨_, rfl, rfl⟩, ⟨_, rfl, rfl⟩, trivial⟩ (fun h k => sat_pick 1 rfl (by first | exact fun _ k => k | exact fun _ k => blk_to rfl rfl k | exact fun _ k => vec_to rfl k | exact fun _ k => blk_of rfl rfl k | exact fun _ k => vec_of rfl k | exact fun _ k => blk_of rfl rfl (blk_to rfl rfl k) | exact fun _ k => vec_of rfl (vec_to rfl k) | exact fun _ k => mp_to rfl k | exact fun _ k => mp_of rfl k | exact fun _ k => mp_of rfl (mp_to rfl k)) (fun h k => sat_pick 1 rfl (by first | exact fun _ k => k | exact fun _ k => blk_to rfl rfl k | exact fun _ k => vec_to rfl k | exact fun _ k => blk_of rfl rfl k | exact fun _ k => vec_of rfl k | exact fun _ k => blk_of rfl rfl (blk_to rfl rfl k) | exact fun _ k => vec_of rfl (vec_to rfl k) | exact fun _ k => mp_to rfl k | exact fun _ k => mp_of rfl k | exact fun _ k => mp_of rfl (mp_to rfl k)) (fun h k => sat_pick 2 rfl (by first | exact fun _ k => k | exact fun _ k => blk_to rfl rfl k | exact fun _ k => vec_to rfl k | exact fun _ k => blk_of rfl rfl k | exact fun _ k => vec_of rfl k | exact fun _ k => blk_of rfl rfl (blk_to rfl rfl k) | exact fun _ k => vec_of rfl (vec_to rfl k) | exact fun _ k => mp_to rfl k | exact fun _ k => mp_of rfl k | exact fun _ k => mp_of rfl (mp_to rfl k)) (fun h k => sat_pick 2 rfl (by first | exact fun _ k => k | exact fun _ k => blk_to rfl rfl k | exact fun _ k => vec_to rfl k | exact fun _ k => blk_of rfl rfl k | exact fun _ k => vec_of rfl k | exact fun _ k => blk_of rfl rfl (blk_to rfl rfl k) | exact fun _ k => vec_of rfl (vec_to rfl k) | exact fun _ k => mp_to rfl k | exact fun _ k => mp_of rfl k | exact fun _ k => mp_of rfl (mp_to rfl k)) (fun h k => sat_pick 0 rfl (fun _ q => by rw [← up_put (by rw [st2.lT]; exact hk) (by omega) (by omega)]; exact q) (fun h k => sat_pick 1 rfl (by first | exact fun _ k => k | exact fun _ k => blk_to rfl rfl k | exact fun _ k => vec_to rfl k | exact fun _ k => blk_of rfl rfl k | exact fun _ k => vec_of rfl k | exact fun _ k => blk_of rfl rfl (blk_to rfl rfl k) | exact fun _ k => vec_of rfl (vec_to rfl k) | exact fun _ k => mp_to rfl k | exact fun _ k => mp_of rfl k | exact fun _ k => mp_of rfl (mp_to rfl k)) (fun h k => sat_pick 0 rfl (fun _ q => by rw [← up_put (by rw [st2.lT]; exact hk) (by omega) (by omega)]; exact q) (fun h k => sat_nil k) k) k) k) k) k) k) k)
      rintro ⟨j, hj⟩
      refine CondOb.split (fun g5 => ?_) (fun g5 => ?_)
      rotate_left
      · simp only [decide_eq_false_iff_not] at g5
        replace g5 : ¬ (j : Int) < gs.length := g5
        have ej : j = gs.length := by omega
        subst ej
        refine ⟨⟨(p2 + 1, B3, up T2 k, ups G2 (k + 1) gs.length), by omega, st3, fun x hx => ?_, fun a ha h => ?_, by simp only; omega⟩, ?_, Le.of rfl ⟨⟨_, rfl, rfl⟩, ⟨_, rfl, rfl⟩, ⟨_, rfl, rfl⟩, ⟨_, rfl, rfl⟩, ⟨_, rfl, rfl⟩, ⟨_, rfl, rfl⟩, ⟨_, rfl, rfl⟩, ⟨_, rfl, rfl⟩, ⟨_, rfl, rfl⟩, ⟨_, rfl, rfl⟩, ⟨_, rfl, congrArg (fun z => some (Value.int .i64 z)) ep2⟩, trivial⟩ (fun h k => sat_pick 0 rfl (by first | exact fun _ k => k | exact fun _ k => blk_to rfl rfl k | exact fun _ k => vec_to rfl k | exact fun _ k => blk_of rfl rfl k | exact fun _ k => vec_of rfl k | exact fun _ k => blk_of rfl rfl (blk_to rfl rfl k) | exact fun _ k => vec_of rfl (vec_to rfl k) | exact fun _ k => mp_to rfl k | exact fun _ k => mp_of rfl k | exact fun _ k => mp_of rfl (mp_to rfl k)) (fun h k => sat_pick 1 rfl (by first | exact fun _ k => k | exact fun _ k => blk_to rfl rfl k | exact fun _ k => vec_to rfl k | exact fun _ k => blk_of rfl rfl k | exact fun _ k => vec_of rfl k | exact fun _ k => blk_of rfl rfl (blk_to rfl rfl k) | exact fun _ k => vec_of rfl (vec_to rfl k) | exact fun _ k => mp_to rfl k | exact fun _ k => mp_of rfl k | exact fun _ k => mp_of rfl (mp_to rfl k)) (fun h k => sat_pick 1 rfl (by first | exact fun _ k => k | exact fun _ k => blk_to rfl rfl k | exact fun _ k => vec_to rfl k | exact fun _ k => blk_of rfl rfl k | exact fun _ k => vec_of rfl k | exact fun _ k => blk_of rfl rfl (blk_to rfl rfl k) | exact fun _ k => vec_of rfl (vec_to rfl k) | exact fun _ k => mp_to rfl k | exact fun _ k => mp_of rfl k | exact fun _ k => mp_of rfl (mp_to rfl k)) (fun h k => sat_pick 1 rfl (by first | exact fun _ k => k | exact fun _ k => blk_to rfl rfl k | exact fun _ k => vec_to rfl k | exact fun _ k => blk_of rfl rfl k | exact fun _ k => vec_of rfl k | exact fun _ k => blk_of rfl rfl (blk_to rfl rfl k) | exact fun _ k => vec_of rfl (vec_to rfl k) | exact fun _ k => mp_to rfl k | exact fun _ k => mp_of rfl k | exact fun _ k => mp_of rfl (mp_to rfl k)) (fun h k => sat_pick 1 rfl (by first | exact fun _ k => k | exact fun _ k => blk_to rfl rfl k | exact fun _ k => vec_to rfl k | exact fun _ k => blk_of rfl rfl k | exact fun _ k => vec_of rfl k | exact fun _ k => blk_of rfl rfl (blk_to rfl rfl k) | exact fun _ k => vec_of rfl (vec_to rfl k) | exact fun _ k => mp_to rfl k | exact fun _ k => mp_of rfl k | exact fun _ k => mp_of rfl (mp_to rfl k)) (fun h k => sat_pick 1 rfl (by first | exact fun _ k => k | exact fun _ k => blk_to rfl rfl k | exact fun _ k => vec_to rfl k | exact fun _ k => blk_of rfl rfl k | exact fun _ k => vec_of rfl k | exact fun _ k => blk_of rfl rfl (blk_to rfl rfl k) | exact fun _ k => vec_of rfl (vec_to rfl k) | exact fun _ k => mp_to rfl k | exact fun _ k => mp_of rfl k | exact fun _ k => mp_of rfl (mp_to rfl k)) (fun h k => sat_nil k) k) k) k) k) k) k)⟩
        · obtain ⟨e', h1, h2, h3⟩ := hin x (by rw [hdrop]; exact List.mem_cons_of_mem _ hx)
          obtain ⟨a, a1, a2, a3⟩ := hfwd e' h1 h3 (fun h => hnd2 (by rw [hlk, ← h, h2]; exact hx))
          exact ⟨a, a1, a2.trans h2, a3⟩
        · obtain ⟨h1, e', h2, h3, h4⟩ := hback a ha
          have h5 := hout e' h2 (h4.trans h)
          rw [hdrop, List.mem_cons] at h5
          rcases h5 with h5 | h5
          · exact absurd (h3.symm.trans (h5.trans hlk)) h1
          · rw [← h3]; exact h5
        · show l.length - (p2 + 1) < l.length - p2
          omega
      simp only [decide_eq_true_eq] at g5
      replace g5 : (j : Int) < gs.length := g5
      have hne : gs ≠ [] := fun h => by rw [h] at g5; simp at g5; omega
      obtain ⟨bg, og, rfl⟩ := hpg hne
      have hgj := getD_at (k := j) 0 (show j < gs.length by omega)
      obtain ⟨hg1, hg2⟩ := hgs j _ hgj
      obtain ⟨hok, hf1⟩ := hgo hne
      have ej : IntKind.i64.wrap ((j : Int) + 1) = ((j + 1 : Nat) : Int) := by rw [w64 (by omega) (by omega)]; omega
      have ekj : IntKind.i64.wrap (IntKind.i64.wrap ((k : Int) + 1) + j) = ((k + 1 + j : Nat) : Int) := by rw [w64 (x := (k : Int) + 1) (by omega) (by omega), w64 (by omega) (by omega)]; omega
      have rdg : (I.flat gs)[j]? = some (.int .i64 ((k + 1 + j : Nat) : Int)) := by rw [← hg1]; exact flat_cell (by omega)
      have hfk := getD_at (k := k) 0 hk
      obtain ⟨ba, o, hAe, hAr⟩ := hA.lay (by decide) hfk
      have hfk0 := hAr 0 _ rfl
      have hfr := hf _ (List.mem_of_getElem? hfk)
      have eU := ups_get (l := G2) (a := k + 1) (i := k + 1 + j) (by rw [st2.lG]; exact hg2) j
      rw [if_neg (by omega)] at eU
      have hG1 := st2.pG (k + 1 + j) hg2
      have hG2 := st2.cnt (k + 1 + j) hg2
      have hG3 := st2.pT (k + 1 + j) hg2
      have hG4 : (ups G2 (k + 1) j).getD (k + 1 + j) 0 ≤ 1 := by
        rw [eU]; split at hG2 <;> omega
      have hG5 : (ups G2 (k + 1) j).getD (k + 1 + j) 0 ≤ 1000 := by omega
      refine Need.mk ⟨Int.natCast_nonneg j, g5⟩ ?_
      refine RdOb.mk (.int .i64 ((k + 1 + j : Nat) : Int)) _ rfl (by simpa using rdg) ?_
      refine Br.mk (fun h => absurd h (by rw [ekj]; simp)) (fun _ => ?_)
      refine Br.mk (fun h => absurd h (by rw [hok]; simp)) (fun _ => ?_)
      refine Need.mk ⟨Int.natCast_nonneg k, by omega⟩ (RawAt.mk ba o hAe ?_)
      refine RdRaw.mk (.int .u8 (fl.getD k 0)) _ rfl (by simpa [ints] using hfk0) ?_
      refine Need.mk (by decide) ?_
      refine CondOb.split (fun h => absurd h (by rw [Int.tmod_eq_emod_of_nonneg hfr.1, hf1]; decide)) (fun _ => ?_)
      refine Need.mk ⟨Int.natCast_nonneg j, g5⟩ ?_
      refine RdOb.mk (.int .i64 ((k + 1 + j : Nat) : Int)) _ rfl (by simpa using rdg) ?_
      refine Need.mk ⟨Int.natCast_nonneg _, by omega⟩ ?_
      refine RdOb.mk (.int .i64 ((ups G2 (k + 1) j).getD (k + 1 + j) 0)) _ rfl (by have h := flat_cell (l := ups G2 (k + 1) j) (k := k + 1 + j) (by rw [ups_len, st2.lG]; exact hg2); simpa only [Nat.zero_add, Nat.mul_one, Nat.add_zero, Int.toNat_natCast] using h) ?_
      refine Need.mk ⟨Int.natCast_nonneg _, by omega⟩ ?_
      refine StOb.mk [.int .i64 (IntKind.i64.wrap ((ups G2 (k + 1) j).getD (k + 1 + j) 0 + 1))] rfl (Need.mk (by rw [lI, ups_len, st2.lG]; simp; omega) ?_)
      have eUp := up_put (T := ups G2 (k + 1) j) (k := k + 1 + j) (by rw [ups_len, st2.lG]; exact hg2) (by omega) hG5
      refine ⟨⟨j + 1, by omega⟩, ?_, Le.of rfl ⟨⟨_, rfl, rfl⟩, ⟨_, rfl, rfl⟩, ⟨_, rfl, rfl⟩, ⟨_, rfl, rfl⟩, ⟨_, rfl, rfl⟩, ⟨_, rfl, rfl⟩, ⟨_, rfl, rfl⟩, ⟨_, rfl, rfl⟩, ⟨_, rfl, rfl⟩, ⟨_, rfl, rfl⟩, ⟨_, rfl, rfl⟩, ⟨_, rfl, rfl⟩, ⟨_, rfl, rfl⟩, ⟨_, rfl, rfl⟩, ⟨_, rfl, congrArg (fun z => some (Value.int .i64 z)) ej⟩, trivial⟩ (fun h k => sat_pick 1 rfl (by first | exact fun _ k => k | exact fun _ k => blk_to rfl rfl k | exact fun _ k => vec_to rfl k | exact fun _ k => blk_of rfl rfl k | exact fun _ k => vec_of rfl k | exact fun _ k => blk_of rfl rfl (blk_to rfl rfl k) | exact fun _ k => vec_of rfl (vec_to rfl k) | exact fun _ k => mp_to rfl k | exact fun _ k => mp_of rfl k | exact fun _ k => mp_of rfl (mp_to rfl k)) (fun h k => sat_pick 1 rfl (by first | exact fun _ k => k | exact fun _ k => blk_to rfl rfl k | exact fun _ k => vec_to rfl k | exact fun _ k => blk_of rfl rfl k | exact fun _ k => vec_of rfl k | exact fun _ k => blk_of rfl rfl (blk_to rfl rfl k) | exact fun _ k => vec_of rfl (vec_to rfl k) | exact fun _ k => mp_to rfl k | exact fun _ k => mp_of rfl k | exact fun _ k => mp_of rfl (mp_to rfl k)) (fun h k => sat_pick 1 rfl (by first | exact fun _ k => k | exact fun _ k => blk_to rfl rfl k | exact fun _ k => vec_to rfl k | exact fun _ k => blk_of rfl rfl k | exact fun _ k => vec_of rfl k | exact fun _ k => blk_of rfl rfl (blk_to rfl rfl k) | exact fun _ k => vec_of rfl (vec_to rfl k) | exact fun _ k => mp_to rfl k | exact fun _ k => mp_of rfl k | exact fun _ k => mp_of rfl (mp_to rfl k)) (fun h k => sat_pick 1 rfl (by first | exact fun _ k => k | exact fun _ k => blk_to rfl rfl k | exact fun _ k => vec_to rfl k | exact fun _ k => blk_of rfl rfl k | exact fun _ k => vec_of rfl k | exact fun _ k => blk_of rfl rfl (blk_to rfl rfl k) | exact fun _ k => vec_of rfl (vec_to rfl k) | exact fun _ k => mp_to rfl k | exact fun _ k => mp_of rfl k | exact fun _ k => mp_of rfl (mp_to rfl k)) (fun h k => sat_pick 1 rfl (by first | exact fun _ k => k | exact fun _ k => blk_to rfl rfl k | exact fun _ k => vec_to rfl k | exact fun _ k => blk_of rfl rfl k | exact fun _ k => vec_of rfl k | exact fun _ k => blk_of rfl rfl (blk_to rfl rfl k) | exact fun _ k => vec_of rfl (vec_to rfl k) | exact fun _ k => mp_to rfl k | exact fun _ k => mp_of rfl k | exact fun _ k => mp_of rfl (mp_to rfl k)) (fun h k => sat_pick 0 rfl (fun _ q => vec_eq eUp q) (fun h k => sat_pick 0 rfl (by first | exact fun _ k => k | exact fun _ k => blk_to rfl rfl k | exact fun _ k => vec_to rfl k | exact fun _ k => blk_of rfl rfl k | exact fun _ k => vec_of rfl k | exact fun _ k => blk_of rfl rfl (blk_to rfl rfl k) | exact fun _ k => vec_of rfl (vec_to rfl k) | exact fun _ k => mp_to rfl k | exact fun _ k => mp_of rfl k | exact fun _ k => mp_of rfl (mp_to rfl k)) (fun h k => sat_nil k) k) k) k) k) k) k) k)⟩
      show gs.length - (j + 1) < gs.length - j
      omega
  · refine Need.mk ⟨Int.natCast_nonneg k, by omega⟩ ?_
    refine RdOb.mk (.int .i64 (T2.getD k 0)) _ rfl (by simpa using flat_cell (l := T2) (k := k) (by rw [st2.lT]; exact hk)) ?_
    refine Need.mk ⟨Int.natCast_nonneg k, by omega⟩ ?_
    refine StOb.mk [.int .i64 (IntKind.i64.wrap (T2.getD k 0 + 1))] rfl (Need.mk (by rw [lI, st2.lT]; simp; omega) ?_)
    refine Br.mk (fun h => ?_) (fun h => ?_)
    · simp only [decide_eq_true_eq] at h
      replace h : (k : Int) < oks.length := h
      have hok := getD_at (k := k) false (show k < oks.length by omega)
      obtain ⟨bo, oo, hOe, hOr⟩ := hO.lay (by decide) hok
      have hok0 := hOr 0 _ rfl
      refine Need.mk ⟨Int.natCast_nonneg k, h⟩ (RawAt.mk bo oo hOe ?_)
      refine RdRaw.mk (.bool (oks.getD k false)) _ rfl (by simpa [bools] using hok0) ?_
      have hr2 : B2.ready.length < 100000 := by have := st2.few; have := st2.small; omega
      refine call_ix ((endsA_spec bb mb B2 k (oks.getD k false) st2.inv hr2).sure (Q' := fun v q => ∃ g r B' p c, (g ≠ [] → ∃ b o, p = .at b o) ∧ EndsA B2 k (oks.getD k false) g r B' ∧ v = .tuple #[.slice (locAddr 0 p) g.length c, .int .i64 r] ∧ q = [BkA bb mb B', Vec p 3 1 c (I.flat g)]) (by
          rintro v q h ⟨g, r, B', p, c, h1, rfl, rfl⟩ hs
          refine ⟨g, r, B', p, c, fun hne => vec_sures (As := []) ((fun h k => sat_pick 1 rfl (by first | exact fun _ k => k | exact fun _ k => blk_to rfl rfl k | exact fun _ k => vec_to rfl k | exact fun _ k => blk_of rfl rfl k | exact fun _ k => vec_of rfl k | exact fun _ k => blk_of rfl rfl (blk_to rfl rfl k) | exact fun _ k => vec_of rfl (vec_to rfl k) | exact fun _ k => mp_to rfl k | exact fun _ k => mp_of rfl k | exact fun _ k => mp_of rfl (mp_to rfl k)) (fun h k => sat_nil k) k) h hs) (fun h0 => hne ?_), h1, rfl, rfl⟩
          have := congrArg List.length h0
          rw [lI] at this
          exact List.length_eq_zero_iff.1 (by simpa using this))) rfl [1] (fun h k => sat_pick 1 rfl (by first | exact fun _ k => k | exact fun _ k => blk_to rfl rfl k | exact fun _ k => vec_to rfl k | exact fun _ k => blk_of rfl rfl k | exact fun _ k => vec_of rfl k | exact fun _ k => blk_of rfl rfl (blk_to rfl rfl k) | exact fun _ k => vec_of rfl (vec_to rfl k) | exact fun _ k => mp_to rfl k | exact fun _ k => mp_of rfl k | exact fun _ k => mp_of rfl (mp_to rfl k)) (fun h k => sat_pick 0 rfl (by first | exact fun _ k => k | exact fun _ k => blk_to rfl rfl k | exact fun _ k => vec_to rfl k | exact fun _ k => blk_of rfl rfl k | exact fun _ k => vec_of rfl k | exact fun _ k => blk_of rfl rfl (blk_to rfl rfl k) | exact fun _ k => vec_of rfl (vec_to rfl k) | exact fun _ k => mp_to rfl k | exact fun _ k => mp_of rfl k | exact fun _ k => mp_of rfl (mp_to rfl k)) (fun h k => sat_pick 0 rfl (by first | exact fun _ k => k | exact fun _ k => blk_to rfl rfl k | exact fun _ k => vec_to rfl k | exact fun _ k => blk_of rfl rfl k | exact fun _ k => vec_of rfl k | exact fun _ k => blk_of rfl rfl (blk_to rfl rfl k) | exact fun _ k => vec_of rfl (vec_to rfl k) | exact fun _ k => mp_to rfl k | exact fun _ k => mp_of rfl k | exact fun _ k => mp_of rfl (mp_to rfl k)) (fun h k => sat_pick 0 rfl (by first | exact fun _ k => k | exact fun _ k => blk_to rfl rfl k | exact fun _ k => vec_to rfl k | exact fun _ k => blk_of rfl rfl k | exact fun _ k => vec_of rfl k | exact fun _ k => blk_of rfl rfl (blk_to rfl rfl k) | exact fun _ k => vec_of rfl (vec_to rfl k) | exact fun _ k => mp_to rfl k | exact fun _ k => mp_of rfl k | exact fun _ k => mp_of rfl (mp_to rfl k)) (fun h k => sat_pick 0 rfl (by first | exact fun _ k => k | exact fun _ k => blk_to rfl rfl k | exact fun _ k => vec_to rfl k | exact fun _ k => blk_of rfl rfl k | exact fun _ k => vec_of rfl k | exact fun _ k => blk_of rfl rfl (blk_to rfl rfl k) | exact fun _ k => vec_of rfl (vec_to rfl k) | exact fun _ k => mp_to rfl k | exact fun _ k => mp_of rfl k | exact fun _ k => mp_of rfl (mp_to rfl k)) (fun h k => sat_pick 0 rfl (by first | exact fun _ k => k | exact fun _ k => blk_to rfl rfl k | exact fun _ k => vec_to rfl k | exact fun _ k => blk_of rfl rfl k | exact fun _ k => vec_of rfl k | exact fun _ k => blk_of rfl rfl (blk_to rfl rfl k) | exact fun _ k => vec_of rfl (vec_to rfl k) | exact fun _ k => mp_to rfl k | exact fun _ k => mp_of rfl k | exact fun _ k => mp_of rfl (mp_to rfl k)) (fun h k => sat_nil k) k) k) k) k) k) k) (fun _ _ _ _ => trivial) ?_
      rintro v post ⟨gs, r, B3, pg, cg, hpg, hE3, rfl, rfl⟩
      obtain ⟨rfl, hgs, hgo, st3, hless, hback, hfwd⟩ := st2.step hE3 k hk rfl ⟨e, he, hek, htold⟩
      refine ⟨.tuple [.sl 6 0 gs.length cg, .int .i64 0], [(6, pg), (5, .at bp op), (4, .at b4 0), (3, .at b3 0), (2, .at b2 0), (1, .at b1 0), (0, .at bb 0)], 7, [.asn (BkA bb mb B3), .vec 6 3 1 cg (I.flat gs)], NmExt.push rfl, rfl, (fun h k => sat_pick 0 rfl (by first | exact fun _ k => k | exact fun _ k => blk_to rfl rfl k | exact fun _ k => vec_to rfl k | exact fun _ k => blk_of rfl rfl k | exact fun _ k => vec_of rfl k | exact fun _ k => blk_of rfl rfl (blk_to rfl rfl k) | exact fun _ k => vec_of rfl (vec_to rfl k) | exact fun _ k => mp_to rfl k | exact fun _ k => mp_of rfl k | exact fun _ k => mp_of rfl (mp_to rfl k)) (fun h k => sat_pick 0 rfl (by first | exact fun _ k => k | exact fun _ k => blk_to rfl rfl k | exact fun _ k => vec_to rfl k | exact fun _ k => blk_of rfl rfl k | exact fun _ k => vec_of rfl k | exact fun _ k => blk_of rfl rfl (blk_to rfl rfl k) | exact fun _ k => vec_of rfl (vec_to rfl k) | exact fun _ k => mp_to rfl k | exact fun _ k => mp_of rfl k | exact fun _ k => mp_of rfl (mp_to rfl k)) (fun h k => sat_nil k) k) k), ?_⟩
      refine useP (.int .i64 0) (code_spec 0) rfl rfl ?_
      refine CondOb.split (fun h => absurd h (by decide)) (fun _ => ?_)
      refine Need.mk ⟨Int.natCast_nonneg k, by omega⟩ ?_
      refine RdOb.mk (.int .i64 (T2.getD k 0)) _ rfl (by simpa using flat_cell (l := T2) (k := k) (by rw [st2.lT]; exact hk)) ?_
      refine Need.mk ⟨Int.natCast_nonneg k, by omega⟩ ?_
      refine StOb.mk [.int .i64 (IntKind.i64.wrap (T2.getD k 0 + 1))] rfl (Need.mk (by rw [lI, st2.lT]; simp; omega) ?_)
      refine LoopOb.mk { j : Nat // j ≤ gs.length }
        (fun z => ⟨209, [(0, .raw (.slice A fl.length cap)), (1, .raw (.slice E nd.length ce)), (2, .raw (.slice O oks.length co)), (7, .ptr 0 0), (8, .sl 1 0 fl.length fl.length), (9, .sl 2 0 fl.length fl.length), (10, .sl 3 0 fl.length fl.length), (12, .sl 4 0 fl.length fl.length), (14, .int .i64 t), (15, .sl 5 0 l.length c), (16, .int .i64 p2), (17, .int .i64 k), (18, .bool (oks.getD k false)), (19, .sl 6 0 gs.length cg), (21, .int .i64 z.1)],
          [(6, pg), (5, .at bp op), (4, .at b4 0), (3, .at b3 0), (2, .at b2 0), (1, .at b1 0), (0, .at bb 0)], 7, [.asn (BkA bb mb B3), .vec 6 3 1 cg (I.flat gs), .vec 5 3 1 c (I.flat l), .vec 4 4 1 fl.length AH, .vec 3 3 1 fl.length (I.flat (up T2 k)), .vec 2 3 1 fl.length (I.flat (ups G2 (k + 1) z.1)), .vec 1 3 1 fl.length (I.flat (up T2 k))]⟩) (fun z => gs.length - z.1) ⟨0, by omega⟩ ?_ ?_
      · exact Le.of rfl ⟨⟨_, rfl, rfl⟩, ⟨_, rfl, rfl⟩, ⟨_, rfl, rfl⟩, ⟨_, rfl, rfl⟩, ⟨_, rfl, rfl⟩, ⟨_, rfl, rfl⟩, ⟨_, rfl, rfl⟩, ⟨_, rfl, rfl⟩, ⟨_, rfl, rfl⟩, ⟨_, rfl, rfl⟩, ⟨_, rfl, rfl⟩, ⟨_, rfl, rfl⟩, ⟨_, rfl, rfl⟩, ⟨_, rfl, rfl⟩, ⟨_, rfl, rfl⟩, trivial⟩ (fun h k => sat_pick 1 rfl (by first | exact fun _ k => k | exact fun _ k => blk_to rfl rfl k | exact fun _ k => vec_to rfl k | exact fun _ k => blk_of rfl rfl k | exact fun _ k => vec_of rfl k | exact fun _ k => blk_of rfl rfl (blk_to rfl rfl k) | exact fun _ k => vec_of rfl (vec_to rfl k) | exact fun _ k => mp_to rfl k | exact fun _ k => mp_of rfl k | exact fun _ k => mp_of rfl (mp_to rfl k)) (fun h k => sat_pick 1 rfl (by first | exact fun _ k => k | exact fun _ k => blk_to rfl rfl k | exact fun _ k => vec_to rfl k | exact fun _ k => blk_of rfl rfl k | exact fun _ k => vec_of rfl k | exact fun _ k => blk_of rfl rfl (blk_to rfl rfl k) | exact fun _ k => vec_of rfl (vec_to rfl k) | exact fun _ k => mp_to rfl k | exact fun _ k => mp_of rfl k | exact fun _ k => mp_of rfl (mp_to rfl k)) (fun h k => sat_pick 2 rfl (by first | exact fun _ k => k | exact fun _ k => blk_to rfl rfl k | exact fun _ k => vec_to rfl k | exact fun _ k => blk_of rfl rfl k | exact fun _ k => vec_of rfl k | exact fun _ k => blk_of rfl rfl (blk_to rfl rfl k) | exact fun _ k => vec_of rfl (vec_to rfl k) | exact fun _ k => mp_to rfl k | exact fun _ k => mp_of rfl k | exact fun _ k => mp_of rfl (mp_to rfl k)) (fun h k => sat_pick 2 rfl (by first | exact fun _ k => k | exact fun _ k => blk_to rfl rfl k | exact fun _ k => vec_to rfl k | exact fun _ k => blk_of rfl rfl k | exact fun _ k => vec_of rfl k | exact fun _ k => blk_of rfl rfl (blk_to rfl rfl k) | exact fun _ k => vec_of rfl (vec_to rfl k) | exact fun _ k => mp_to rfl k | exact fun _ k => mp_of rfl k | exact fun _ k => mp_of rfl (mp_to rfl k)) (fun h k => sat_pick 0 rfl (fun _ q => by rw [← up_put (by rw [st2.lT]; exact hk) (by omega) (by omega)]; exact q) (fun h k => sat_pick 1 rfl (by first | exact fun _ k => k | exact fun _ k => blk_to rfl rfl k | exact fun _ k => vec_to rfl k | exact fun _ k => blk_of rfl rfl k | exact fun _ k => vec_of rfl k | exact fun _ k => blk_of rfl rfl (blk_to rfl rfl k) | exact fun _ k => vec_of rfl (vec_to rfl k) | exact fun _ k => mp_to rfl k | exact fun _ k => mp_of rfl k | exact fun _ k => mp_of rfl (mp_to rfl k)) (fun h k => sat_pick 0 rfl (fun _ q => by rw [← up_put (by rw [st2.lT]; exact hk) (by omega) (by omega)]; exact q) (fun h k => sat_nil k) k) k) k) k) k) k) k)
      rintro ⟨j, hj⟩
      refine CondOb.split (fun g5 => ?_) (fun g5 => ?_)
      rotate_left
      · simp only [decide_eq_false_iff_not] at g5
        replace g5 : ¬ (j : Int) < gs.length := g5
        have ej : j = gs.length := by omega
        subst ej
        refine ⟨⟨(p2 + 1, B3, up T2 k, ups G2 (k + 1) gs.length), by omega, st3, fun x hx => ?_, fun a ha h => ?_, by simp only; omega⟩, ?_, Le.of rfl ⟨⟨_, rfl, rfl⟩, ⟨_, rfl, rfl⟩, ⟨_, rfl, rfl⟩, ⟨_, rfl, rfl⟩, ⟨_, rfl, rfl⟩, ⟨_, rfl, rfl⟩, ⟨_, rfl, rfl⟩, ⟨_, rfl, rfl⟩, ⟨_, rfl, rfl⟩, ⟨_, rfl, rfl⟩, ⟨_, rfl, congrArg (fun z => some (Value.int .i64 z)) ep2⟩, trivial⟩ (fun h k => sat_pick 0 rfl (by first | exact fun _ k => k | exact fun _ k => blk_to rfl rfl k | exact fun _ k => vec_to rfl k | exact fun _ k => blk_of rfl rfl k | exact fun _ k => vec_of rfl k | exact fun _ k => blk_of rfl rfl (blk_to rfl rfl k) | exact fun _ k => vec_of rfl (vec_to rfl k) | exact fun _ k => mp_to rfl k | exact fun _ k => mp_of rfl k | exact fun _ k => mp_of rfl (mp_to rfl k)) (fun h k => sat_pick 1 rfl (by first | exact fun _ k => k | exact fun _ k => blk_to rfl rfl k | exact fun _ k => vec_to rfl k | exact fun _ k => blk_of rfl rfl k | exact fun _ k => vec_of rfl k | exact fun _ k => blk_of rfl rfl (blk_to rfl rfl k) | exact fun _ k => vec_of rfl (vec_to rfl k) | exact fun _ k => mp_to rfl k | exact fun _ k => mp_of rfl k | exact fun _ k => mp_of rfl (mp_to rfl k)) (fun h k => sat_pick 1 rfl (by first | exact fun _ k => k | exact fun _ k => blk_to rfl rfl k | exact fun _ k => vec_to rfl k | exact fun _ k => blk_of rfl rfl k | exact fun _ k => vec_of rfl k | exact fun _ k => blk_of rfl rfl (blk_to rfl rfl k) | exact fun _ k => vec_of rfl (vec_to rfl k) | exact fun _ k => mp_to rfl k | exact fun _ k => mp_of rfl k | exact fun _ k => mp_of rfl (mp_to rfl k)) (fun h k => sat_pick 1 rfl (by first | exact fun _ k => k | exact fun _ k => blk_to rfl rfl k | exact fun _ k => vec_to rfl k | exact fun _ k => blk_of rfl rfl k | exact fun _ k => vec_of rfl k | exact fun _ k => blk_of rfl rfl (blk_to rfl rfl k) | exact fun _ k => vec_of rfl (vec_to rfl k) | exact fun _ k => mp_to rfl k | exact fun _ k => mp_of rfl k | exact fun _ k => mp_of rfl (mp_to rfl k)) (fun h k => sat_pick 1 rfl (by first | exact fun _ k => k | exact fun _ k => blk_to rfl rfl k | exact fun _ k => vec_to rfl k | exact fun _ k => blk_of rfl rfl k | exact fun _ k => vec_of rfl k | exact fun _ k => blk_of rfl rfl (blk_to rfl rfl k) | exact fun _ k => vec_of rfl (vec_to rfl k) | exact fun _ k => mp_to rfl k | exact fun _ k => mp_of rfl k | exact fun _ k => mp_of rfl (mp_to rfl k)) (fun h k => sat_pick 1 rfl (by first | exact fun _ k => k | exact fun _ k => blk_to rfl rfl k | exact fun _ k => vec_to rfl k | exact fun _ k => blk_of rfl rfl k | exact fun _ k => vec_of rfl k | exact fun _ k => blk_of rfl rfl (blk_to rfl rfl k) | exact fun _ k => vec_of rfl (vec_to rfl k) | exact fun _ k => mp_to rfl k | exact fun _ k => mp_of rfl k | exact fun _ k => mp_of rfl (mp_to rfl k)) (fun h k => sat_nil k) k) k) k) k) k) k)⟩
        · obtain ⟨e', h1, h2, h3⟩ := hin x (by rw [hdrop]; exact List.mem_cons_of_mem _ hx)
          obtain ⟨a, a1, a2, a3⟩ := hfwd e' h1 h3 (fun h => hnd2 (by rw [hlk, ← h, h2]; exact hx))
          exact ⟨a, a1, a2.trans h2, a3⟩
        · obtain ⟨h1, e', h2, h3, h4⟩ := hback a ha
          have h5 := hout e' h2 (h4.trans h)
          rw [hdrop, List.mem_cons] at h5
          rcases h5 with h5 | h5
          · exact absurd (h3.symm.trans (h5.trans hlk)) h1
          · rw [← h3]; exact h5
        · show l.length - (p2 + 1) < l.length - p2
          omega
      simp only [decide_eq_true_eq] at g5
      replace g5 : (j : Int) < gs.length := g5
      have hne : gs ≠ [] := fun h => by rw [h] at g5; simp at g5; omega
      obtain ⟨bg, og, rfl⟩ := hpg hne
      have hgj := getD_at (k := j) 0 (show j < gs.length by omega)
      obtain ⟨hg1, hg2⟩ := hgs j _ hgj
      obtain ⟨hok, hf1⟩ := hgo hne
      have ej : IntKind.i64.wrap ((j : Int) + 1) = ((j + 1 : Nat) : Int) := by rw [w64 (by omega) (by omega)]; omega
      have ekj : IntKind.i64.wrap (IntKind.i64.wrap ((k : Int) + 1) + j) = ((k + 1 + j : Nat) : Int) := by rw [w64 (x := (k : Int) + 1) (by omega) (by omega), w64 (by omega) (by omega)]; omega
      have rdg : (I.flat gs)[j]? = some (.int .i64 ((k + 1 + j : Nat) : Int)) := by rw [← hg1]; exact flat_cell (by omega)
      have hfk := getD_at (k := k) 0 hk
      obtain ⟨ba, o, hAe, hAr⟩ := hA.lay (by decide) hfk
      have hfk0 := hAr 0 _ rfl
      have hfr := hf _ (List.mem_of_getElem? hfk)
      have eU := ups_get (l := G2) (a := k + 1) (i := k + 1 + j) (by rw [st2.lG]; exact hg2) j
      rw [if_neg (by omega)] at eU
      have hG1 := st2.pG (k + 1 + j) hg2
      have hG2 := st2.cnt (k + 1 + j) hg2
      have hG3 := st2.pT (k + 1 + j) hg2
      have hG4 : (ups G2 (k + 1) j).getD (k + 1 + j) 0 ≤ 1 := by
        rw [eU]; split at hG2 <;> omega
      have hG5 : (ups G2 (k + 1) j).getD (k + 1 + j) 0 ≤ 1000 := by omega
      refine Need.mk ⟨Int.natCast_nonneg j, g5⟩ ?_
      refine RdOb.mk (.int .i64 ((k + 1 + j : Nat) : Int)) _ rfl (by simpa using rdg) ?_
      refine Br.mk (fun h => absurd h (by rw [ekj]; simp)) (fun _ => ?_)
      refine Br.mk (fun h => absurd h (by rw [hok]; simp)) (fun _ => ?_)
      refine Need.mk ⟨Int.natCast_nonneg k, by omega⟩ (RawAt.mk ba o hAe ?_)
      refine RdRaw.mk (.int .u8 (fl.getD k 0)) _ rfl (by simpa [ints] using hfk0) ?_
      refine Need.mk (by decide) ?_
      refine CondOb.split (fun h => absurd h (by rw [Int.tmod_eq_emod_of_nonneg hfr.1, hf1]; decide)) (fun _ => ?_)
      refine Need.mk ⟨Int.natCast_nonneg j, g5⟩ ?_
      refine RdOb.mk (.int .i64 ((k + 1 + j : Nat) : Int)) _ rfl (by simpa using rdg) ?_
      refine Need.mk ⟨Int.natCast_nonneg _, by omega⟩ ?_
      refine RdOb.mk (.int .i64 ((ups G2 (k + 1) j).getD (k + 1 + j) 0)) _ rfl (by have h := flat_cell (l := ups G2 (k + 1) j) (k := k + 1 + j) (by rw [ups_len, st2.lG]; exact hg2); simpa only [Nat.zero_add, Nat.mul_one, Nat.add_zero, Int.toNat_natCast] using h) ?_
      refine Need.mk ⟨Int.natCast_nonneg _, by omega⟩ ?_
      refine StOb.mk [.int .i64 (IntKind.i64.wrap ((ups G2 (k + 1) j).getD (k + 1 + j) 0 + 1))] rfl (Need.mk (by rw [lI, ups_len, st2.lG]; simp; omega) ?_)
      have eUp := up_put (T := ups G2 (k + 1) j) (k := k + 1 + j) (by rw [ups_len, st2.lG]; exact hg2) (by omega) hG5
      refine ⟨⟨j + 1, by omega⟩, ?_, Le.of rfl ⟨⟨_, rfl, rfl⟩, ⟨_, rfl, rfl⟩, ⟨_, rfl, rfl⟩, ⟨_, rfl, rfl⟩, ⟨_, rfl, rfl⟩, ⟨_, rfl, rfl⟩, ⟨_, rfl, rfl⟩, ⟨_, rfl, rfl⟩, ⟨_, rfl, rfl⟩, ⟨_, rfl, rfl⟩, ⟨_, rfl, rfl⟩, ⟨_, rfl, rfl⟩, ⟨_, rfl, rfl⟩, ⟨_, rfl, rfl⟩, ⟨_, rfl, congrArg (fun z => some (Value.int .i64 z)) ej⟩, trivial⟩ (fun h k => sat_pick 1 rfl (by first | exact fun _ k => k | exact fun _ k => blk_to rfl rfl k | exact fun _ k => vec_to rfl k | exact fun _ k => blk_of rfl rfl k | exact fun _ k => vec_of rfl k | exact fun _ k => blk_of rfl rfl (blk_to rfl rfl k) | exact fun _ k => vec_of rfl (vec_to rfl k) | exact fun _ k => mp_to rfl k | exact fun _ k => mp_of rfl k | exact fun _ k => mp_of rfl (mp_to rfl k)) (fun h k => sat_pick 1 rfl (by first | exact fun _ k => k | exact fun _ k => blk_to rfl rfl k | exact fun _ k => vec_to rfl k | exact fun _ k => blk_of rfl rfl k | exact fun _ k => vec_of rfl k | exact fun _ k => blk_of rfl rfl (blk_to rfl rfl k) | exact fun _ k => vec_of rfl (vec_to rfl k) | exact fun _ k => mp_to rfl k | exact fun _ k => mp_of rfl k | exact fun _ k => mp_of rfl (mp_to rfl k)) (fun h k => sat_pick 1 rfl (by first | exact fun _ k => k | exact fun _ k => blk_to rfl rfl k | exact fun _ k => vec_to rfl k | exact fun _ k => blk_of rfl rfl k | exact fun _ k => vec_of rfl k | exact fun _ k => blk_of rfl rfl (blk_to rfl rfl k) | exact fun _ k => vec_of rfl (vec_to rfl k) | exact fun _ k => mp_to rfl k | exact fun _ k => mp_of rfl k | exact fun _ k => mp_of rfl (mp_to rfl k)) (fun h k => sat_pick 1 rfl (by first | exact fun _ k => k | exact fun _ k => blk_to rfl rfl k | exact fun _ k => vec_to rfl k | exact fun _ k => blk_of rfl rfl k | exact fun _ k => vec_of rfl k | exact fun _ k => blk_of rfl rfl (blk_to rfl rfl k) | exact fun _ k => vec_of rfl (vec_to rfl k) | exact fun _ k => mp_to rfl k | exact fun _ k => mp_of rfl k | exact fun _ k => mp_of rfl (mp_to rfl k)) (fun h k => sat_pick 1 rfl (by first | exact fun _ k => k | exact fun _ k => blk_to rfl rfl k | exact fun _ k => vec_to rfl k | exact fun _ k => blk_of rfl rfl k | exact fun _ k => vec_of rfl k | exact fun _ k => blk_of rfl rfl (blk_to rfl rfl k) | exact fun _ k => vec_of rfl (vec_to rfl k) | exact fun _ k => mp_to rfl k | exact fun _ k => mp_of rfl k | exact fun _ k => mp_of rfl (mp_to rfl k)) (fun h k => sat_pick 0 rfl (fun _ q => vec_eq eUp q) (fun h k => sat_pick 0 rfl (by first | exact fun _ k => k | exact fun _ k => blk_to rfl rfl k | exact fun _ k => vec_to rfl k | exact fun _ k => blk_of rfl rfl k | exact fun _ k => vec_of rfl k | exact fun _ k => blk_of rfl rfl (blk_to rfl rfl k) | exact fun _ k => vec_of rfl (vec_to rfl k) | exact fun _ k => mp_to rfl k | exact fun _ k => mp_of rfl k | exact fun _ k => mp_of rfl (mp_to rfl k)) (fun h k => sat_nil k) k) k) k) k) k) k) k)⟩
      show gs.length - (j + 1) < gs.length - j
      omega
    · have hr2 : B2.ready.length < 100000 := by have := st2.few; have := st2.small; omega
      refine call_ix ((endsA_spec bb mb B2 k false st2.inv hr2).sure (Q' := fun v q => ∃ g r B' p c, (g ≠ [] → ∃ b o, p = .at b o) ∧ EndsA B2 k false g r B' ∧ v = .tuple #[.slice (locAddr 0 p) g.length c, .int .i64 r] ∧ q = [BkA bb mb B', Vec p 3 1 c (I.flat g)]) (by
          rintro v q h ⟨g, r, B', p, c, h1, rfl, rfl⟩ hs
          refine ⟨g, r, B', p, c, fun hne => vec_sures (As := []) ((fun h k => sat_pick 1 rfl (by first | exact fun _ k => k | exact fun _ k => blk_to rfl rfl k | exact fun _ k => vec_to rfl k | exact fun _ k => blk_of rfl rfl k | exact fun _ k => vec_of rfl k | exact fun _ k => blk_of rfl rfl (blk_to rfl rfl k) | exact fun _ k => vec_of rfl (vec_to rfl k) | exact fun _ k => mp_to rfl k | exact fun _ k => mp_of rfl k | exact fun _ k => mp_of rfl (mp_to rfl k)) (fun h k => sat_nil k) k) h hs) (fun h0 => hne ?_), h1, rfl, rfl⟩
          have := congrArg List.length h0
          rw [lI] at this
          exact List.length_eq_zero_iff.1 (by simpa using this))) rfl [1] (fun h k => sat_pick 1 rfl (by first | exact fun _ k => k | exact fun _ k => blk_to rfl rfl k | exact fun _ k => vec_to rfl k | exact fun _ k => blk_of rfl rfl k | exact fun _ k => vec_of rfl k | exact fun _ k => blk_of rfl rfl (blk_to rfl rfl k) | exact fun _ k => vec_of rfl (vec_to rfl k) | exact fun _ k => mp_to rfl k | exact fun _ k => mp_of rfl k | exact fun _ k => mp_of rfl (mp_to rfl k)) (fun h k => sat_pick 0 rfl (by first | exact fun _ k => k | exact fun _ k => blk_to rfl rfl k | exact fun _ k => vec_to rfl k | exact fun _ k => blk_of rfl rfl k | exact fun _ k => vec_of rfl k | exact fun _ k => blk_of rfl rfl (blk_to rfl rfl k) | exact fun _ k => vec_of rfl (vec_to rfl k) | exact fun _ k => mp_to rfl k | exact fun _ k => mp_of rfl k | exact fun _ k => mp_of rfl (mp_to rfl k)) (fun h k => sat_pick 0 rfl (by first | exact fun _ k => k | exact fun _ k => blk_to rfl rfl k | exact fun _ k => vec_to rfl k | exact fun _ k => blk_of rfl rfl k | exact fun _ k => vec_of rfl k | exact fun _ k => blk_of rfl rfl (blk_to rfl rfl k) | exact fun _ k => vec_of rfl (vec_to rfl k) | exact fun _ k => mp_to rfl k | exact fun _ k => mp_of rfl k | exact fun _ k => mp_of rfl (mp_to rfl k)) (fun h k => sat_pick 0 rfl (by first | exact fun _ k => k | exact fun _ k => blk_to rfl rfl k | exact fun _ k => vec_to rfl k | exact fun _ k => blk_of rfl rfl k | exact fun _ k => vec_of rfl k | exact fun _ k => blk_of rfl rfl (blk_to rfl rfl k) | exact fun _ k => vec_of rfl (vec_to rfl k) | exact fun _ k => mp_to rfl k | exact fun _ k => mp_of rfl k | exact fun _ k => mp_of rfl (mp_to rfl k)) (fun h k => sat_pick 0 rfl (by first | exact fun _ k => k | exact fun _ k => blk_to rfl rfl k | exact fun _ k => vec_to rfl k | exact fun _ k => blk_of rfl rfl k | exact fun _ k => vec_of rfl k | exact fun _ k => blk_of rfl rfl (blk_to rfl rfl k) | exact fun _ k => vec_of rfl (vec_to rfl k) | exact fun _ k => mp_to rfl k | exact fun _ k => mp_of rfl k | exact fun _ k => mp_of rfl (mp_to rfl k)) (fun h k => sat_pick 0 rfl (by first | exact fun _ k => k | exact fun _ k => blk_to rfl rfl k | exact fun _ k => vec_to rfl k | exact fun _ k => blk_of rfl rfl k | exact fun _ k => vec_of rfl k | exact fun _ k => blk_of rfl rfl (blk_to rfl rfl k) | exact fun _ k => vec_of rfl (vec_to rfl k) | exact fun _ k => mp_to rfl k | exact fun _ k => mp_of rfl k | exact fun _ k => mp_of rfl (mp_to rfl k)) (fun h k => sat_nil k) k) k) k) k) k) k) (fun _ _ _ _ => trivial) ?_
      rintro v post ⟨gs, r, B3, pg, cg, hpg, hE3, rfl, rfl⟩
      obtain ⟨rfl, hgs, hgo, st3, hless, hback, hfwd⟩ := st2.step hE3 k hk rfl ⟨e, he, hek, htold⟩
      refine ⟨.tuple [.sl 6 0 gs.length cg, .int .i64 0], [(6, pg), (5, .at bp op), (4, .at b4 0), (3, .at b3 0), (2, .at b2 0), (1, .at b1 0), (0, .at bb 0)], 7, [.asn (BkA bb mb B3), .vec 6 3 1 cg (I.flat gs)], NmExt.push rfl, rfl, (fun h k => sat_pick 0 rfl (by first | exact fun _ k => k | exact fun _ k => blk_to rfl rfl k | exact fun _ k => vec_to rfl k | exact fun _ k => blk_of rfl rfl k | exact fun _ k => vec_of rfl k | exact fun _ k => blk_of rfl rfl (blk_to rfl rfl k) | exact fun _ k => vec_of rfl (vec_to rfl k) | exact fun _ k => mp_to rfl k | exact fun _ k => mp_of rfl k | exact fun _ k => mp_of rfl (mp_to rfl k)) (fun h k => sat_pick 0 rfl (by first | exact fun _ k => k | exact fun _ k => blk_to rfl rfl k | exact fun _ k => vec_to rfl k | exact fun _ k => blk_of rfl rfl k | exact fun _ k => vec_of rfl k | exact fun _ k => blk_of rfl rfl (blk_to rfl rfl k) | exact fun _ k => vec_of rfl (vec_to rfl k) | exact fun _ k => mp_to rfl k | exact fun _ k => mp_of rfl k | exact fun _ k => mp_of rfl (mp_to rfl k)) (fun h k => sat_nil k) k) k), ?_⟩
      refine useP (.int .i64 0) (code_spec 0) rfl rfl ?_
      refine CondOb.split (fun h => absurd h (by decide)) (fun _ => ?_)
      refine Need.mk ⟨Int.natCast_nonneg k, by omega⟩ ?_
      refine RdOb.mk (.int .i64 (T2.getD k 0)) _ rfl (by simpa using flat_cell (l := T2) (k := k) (by rw [st2.lT]; exact hk)) ?_
      refine Need.mk ⟨Int.natCast_nonneg k, by omega⟩ ?_
      refine StOb.mk [.int .i64 (IntKind.i64.wrap (T2.getD k 0 + 1))] rfl (Need.mk (by rw [lI, st2.lT]; simp; omega) ?_)
      refine LoopOb.mk { j : Nat // j ≤ gs.length }
        (fun z => ⟨209, [(0, .raw (.slice A fl.length cap)), (1, .raw (.slice E nd.length ce)), (2, .raw (.slice O oks.length co)), (7, .ptr 0 0), (8, .sl 1 0 fl.length fl.length), (9, .sl 2 0 fl.length fl.length), (10, .sl 3 0 fl.length fl.length), (12, .sl 4 0 fl.length fl.length), (14, .int .i64 t), (15, .sl 5 0 l.length c), (16, .int .i64 p2), (17, .int .i64 k), (18, .bool false), (19, .sl 6 0 gs.length cg), (21, .int .i64 z.1)],
          [(6, pg), (5, .at bp op), (4, .at b4 0), (3, .at b3 0), (2, .at b2 0), (1, .at b1 0), (0, .at bb 0)], 7, [.asn (BkA bb mb B3), .vec 6 3 1 cg (I.flat gs), .vec 5 3 1 c (I.flat l), .vec 4 4 1 fl.length AH, .vec 3 3 1 fl.length (I.flat (up T2 k)), .vec 2 3 1 fl.length (I.flat (ups G2 (k + 1) z.1)), .vec 1 3 1 fl.length (I.flat (up T2 k))]⟩) (fun z => gs.length - z.1) ⟨0, by omega⟩ ?_ ?_
      · exact Le.of rfl ⟨⟨_, rfl, rfl⟩, ⟨_, rfl, rfl⟩, ⟨_, rfl, rfl⟩, ⟨_, rfl, rfl⟩, ⟨_, rfl, rfl⟩, ⟨_, rfl, rfl⟩, ⟨_, rfl, rfl⟩, ⟨_, rfl, rfl⟩, ⟨_, rfl, rfl⟩, ⟨_, rfl, rfl⟩, ⟨_, rfl, rfl⟩, ⟨_, rfl, rfl⟩, ⟨_, rfl, rfl⟩, ⟨_, rfl, rfl⟩, ⟨_, rfl, rfl⟩, trivial⟩ (fun h k => sat_pick 1 rfl (by first | exact fun _ k => k | exact fun _ k => blk_to rfl rfl k | exact fun _ k => vec_to rfl k | exact fun _ k => blk_of rfl rfl k | exact fun _ k => vec_of rfl k | exact fun _ k => blk_of rfl rfl (blk_to rfl rfl k) | exact fun _ k => vec_of rfl (vec_to rfl k) | exact fun _ k => mp_to rfl k | exact fun _ k => mp_of rfl k | exact fun _ k => mp_of rfl (mp_to rfl k)) (fun h k => sat_pick 1 rfl (by first | exact fun _ k => k | exact fun _ k => blk_to rfl rfl k | exact fun _ k => vec_to rfl k | exact fun _ k => blk_of rfl rfl k | exact fun _ k => vec_of rfl k | exact fun _ k => blk_of rfl rfl (blk_to rfl rfl k) | exact fun _ k => vec_of rfl (vec_to rfl k) | exact fun _ k => mp_to rfl k | exact fun _ k => mp_of rfl k | exact fun _ k => mp_of rfl (mp_to rfl k)) (fun h k => sat_pick 2 rfl (by first | exact fun _ k => k | exact fun _ k => blk_to rfl rfl k | exact fun _ k => vec_to rfl k | exact fun _ k => blk_of rfl rfl k | exact fun _ k => vec_of rfl k | exact fun _ k => blk_of rfl rfl (blk_to rfl rfl k) | exact fun _ k => vec_of rfl (vec_to rfl k) | exact fun _ k => mp_to rfl k | exact fun _ k => mp_of rfl k | exact fun _ k => mp_of rfl (mp_to rfl k)) (fun h k => sat_pick 2 rfl (by first | exact fun _ k => k | exact fun _ k => blk_to rfl rfl k | exact fun _ k => vec_to rfl k | exact fun _ k => blk_of rfl rfl k | exact fun _ k => vec_of rfl k | exact fun _ k => blk_of rfl rfl (blk_to rfl rfl k) | exact fun _ k => vec_of rfl (vec_to rfl k) | exact fun _ k => mp_to rfl k | exact fun _ k => mp_of rfl k | exact fun _ k => mp_of rfl (mp_to rfl k)) (fun h k => sat_pick 0 rfl (fun _ q => by rw [← up_put (by rw [st2.lT]; exact hk) (by omega) (by omega)]; exact q) (fun h k => sat_pick 1 rfl (by first | exact fun _ k => k | exact fun _ k => blk_to rfl rfl k | exact fun _ k => vec_to rfl k | exact fun _ k => blk_of rfl rfl k | exact fun _ k => vec_of rfl k | exact fun _ k => blk_of rfl rfl (blk_to rfl rfl k) | exact fun _ k => vec_of rfl (vec_to rfl k) | exact fun _ k => mp_to rfl k | exact fun _ k => mp_of rfl k | exact fun _ k => mp_of rfl (mp_to rfl k)) (fun h k => sat_pick 0 rfl (fun _ q => by rw [← up_put (by rw [st2.lT]; exact hk) (by omega) (by omega)]; exact q) (fun h k => sat_nil k) k) k) k) k) k) k) k)
      rintro ⟨j, hj⟩
      refine CondOb.split (fun g5 => ?_) (fun g5 => ?_)
      rotate_left
      · simp only [decide_eq_false_iff_not] at g5
        replace g5 : ¬ (j : Int) < gs.length := g5
        have ej : j = gs.length := by omega
        subst ej
        refine ⟨⟨(p2 + 1, B3, up T2 k, ups G2 (k + 1) gs.length), by omega, st3, fun x hx => ?_, fun a ha h => ?_, by simp only; omega⟩, ?_, Le.of rfl ⟨⟨_, rfl, rfl⟩, ⟨_, rfl, rfl⟩, ⟨_, rfl, rfl⟩, ⟨_, rfl, rfl⟩, ⟨_, rfl, rfl⟩, ⟨_, rfl, rfl⟩, ⟨_, rfl, rfl⟩, ⟨_, rfl, rfl⟩, ⟨_, rfl, rfl⟩, ⟨_, rfl, rfl⟩, ⟨_, rfl, congrArg (fun z => some (Value.int .i64 z)) ep2⟩, trivial⟩ (fun h k => sat_pick 0 rfl (by first | exact fun _ k => k | exact fun _ k => blk_to rfl rfl k | exact fun _ k => vec_to rfl k | exact fun _ k => blk_of rfl rfl k | exact fun _ k => vec_of rfl k | exact fun _ k => blk_of rfl rfl (blk_to rfl rfl k) | exact fun _ k => vec_of rfl (vec_to rfl k) | exact fun _ k => mp_to rfl k | exact fun _ k => mp_of rfl k | exact fun _ k => mp_of rfl (mp_to rfl k)) (fun h k => sat_pick 1 rfl (by first | exact fun _ k => k | exact fun _ k => blk_to rfl rfl k | exact fun _ k => vec_to rfl k | exact fun _ k => blk_of rfl rfl k | exact fun _ k => vec_of rfl k | exact fun _ k => blk_of rfl rfl (blk_to rfl rfl k) | exact fun _ k => vec_of rfl (vec_to rfl k) | exact fun _ k => mp_to rfl k | exact fun _ k => mp_of rfl k | exact fun _ k => mp_of rfl (mp_to rfl k)) (fun h k => sat_pick 1 rfl (by first | exact fun _ k => k | exact fun _ k => blk_to rfl rfl k | exact fun _ k => vec_to rfl k | exact fun _ k => blk_of rfl rfl k | exact fun _ k => vec_of rfl k | exact fun _ k => blk_of rfl rfl (blk_to rfl rfl k) | exact fun _ k => vec_of rfl (vec_to rfl k) | exact fun _ k => mp_to rfl k | exact fun _ k => mp_of rfl k | exact fun _ k => mp_of rfl (mp_to rfl k)) (fun h k => sat_pick 1 rfl (by first | exact fun _ k => k | exact fun _ k => blk_to rfl rfl k | exact fun _ k => vec_to rfl k | exact fun _ k => blk_of rfl rfl k | exact fun _ k => vec_of rfl k | exact fun _ k => blk_of rfl rfl (blk_to rfl rfl k) | exact fun _ k => vec_of rfl (vec_to rfl k) | exact fun _ k => mp_to rfl k | exact fun _ k => mp_of rfl k | exact fun _ k => mp_of rfl (mp_to rfl k)) (fun h k => sat_pick 1 rfl (by first | exact fun _ k => k | exact fun _ k => blk_to rfl rfl k | exact fun _ k => vec_to rfl k | exact fun _ k => blk_of rfl rfl k | exact fun _ k => vec_of rfl k | exact fun _ k => blk_of rfl rfl (blk_to rfl rfl k) | exact fun _ k => vec_of rfl (vec_to rfl k) | exact fun _ k => mp_to rfl k | exact fun _ k => mp_of rfl k | exact fun _ k => mp_of rfl (mp_to rfl k)) (fun h k => sat_pick 1 rfl (by first | exact fun _ k => k | exact fun _ k => blk_to rfl rfl k | exact fun _ k => vec_to rfl k | exact fun _ k => blk_of rfl rfl k | exact fun _ k => vec_of rfl k | exact fun _ k => blk_of rfl rfl (blk_to rfl rfl k) | exact fun _ k => vec_of rfl (vec_to rfl k) | exact fun _ k => mp_to rfl k | exact fun _ k => mp_of rfl k | exact fun _ k => mp_of rfl (mp_to rfl k)) (fun h k => sat_nil k) k) k) k) k) k) k)⟩
        · obtain ⟨e', h1, h2, h3⟩ := hin x (by rw [hdrop]; exact List.mem_cons_of_mem _ hx)
          obtain ⟨a, a1, a2, a3⟩ := hfwd e' h1 h3 (fun h => hnd2 (by rw [hlk, ← h, h2]; exact hx))
          exact ⟨a, a1, a2.trans h2, a3⟩
        · obtain ⟨h1, e', h2, h3, h4⟩ := hback a ha
          have h5 := hout e' h2 (h4.trans h)
          rw [hdrop, List.mem_cons] at h5
          rcases h5 with h5 | h5
          · exact absurd (h3.symm.trans (h5.trans hlk)) h1
          · rw [← h3]; exact h5
        · show l.length - (p2 + 1) < l.length - p2
          omega
      simp only [decide_eq_true_eq] at g5
      replace g5 : (j : Int) < gs.length := g5
      have hne : gs ≠ [] := fun h => by rw [h] at g5; simp at g5; omega
      obtain ⟨bg, og, rfl⟩ := hpg hne
      have hgj := getD_at (k := j) 0 (show j < gs.length by omega)
      obtain ⟨hg1, hg2⟩ := hgs j _ hgj
      obtain ⟨hok, hf1⟩ := hgo hne
      have ej : IntKind.i64.wrap ((j : Int) + 1) = ((j + 1 : Nat) : Int) := by rw [w64 (by omega) (by omega)]; omega
      have ekj : IntKind.i64.wrap (IntKind.i64.wrap ((k : Int) + 1) + j) = ((k + 1 + j : Nat) : Int) := by rw [w64 (x := (k : Int) + 1) (by omega) (by omega), w64 (by omega) (by omega)]; omega
      have rdg : (I.flat gs)[j]? = some (.int .i64 ((k + 1 + j : Nat) : Int)) := by rw [← hg1]; exact flat_cell (by omega)
      have hfk := getD_at (k := k) 0 hk
      obtain ⟨ba, o, hAe, hAr⟩ := hA.lay (by decide) hfk
      have hfk0 := hAr 0 _ rfl
      have hfr := hf _ (List.mem_of_getElem? hfk)
      have eU := ups_get (l := G2) (a := k + 1) (i := k + 1 + j) (by rw [st2.lG]; exact hg2) j
      rw [if_neg (by omega)] at eU
      have hG1 := st2.pG (k + 1 + j) hg2
      have hG2 := st2.cnt (k + 1 + j) hg2
      have hG3 := st2.pT (k + 1 + j) hg2
      have hG4 : (ups G2 (k + 1) j).getD (k + 1 + j) 0 ≤ 1 := by
        rw [eU]; split at hG2 <;> omega
      have hG5 : (ups G2 (k + 1) j).getD (k + 1 + j) 0 ≤ 1000 := by omega
      refine Need.mk ⟨Int.natCast_nonneg j, g5⟩ ?_
      refine RdOb.mk (.int .i64 ((k + 1 + j : Nat) : Int)) _ rfl (by simpa using rdg) ?_
      refine Br.mk (fun h => absurd h (by rw [ekj]; simp)) (fun _ => ?_)
      refine Br.mk (fun h => absurd h (by rw [hok]; simp)) (fun _ => ?_)
      refine Need.mk ⟨Int.natCast_nonneg k, by omega⟩ (RawAt.mk ba o hAe ?_)
      refine RdRaw.mk (.int .u8 (fl.getD k 0)) _ rfl (by simpa [ints] using hfk0) ?_
      refine Need.mk (by decide) ?_
      refine CondOb.split (fun h => absurd h (by rw [Int.tmod_eq_emod_of_nonneg hfr.1, hf1]; decide)) (fun _ => ?_)
      refine Need.mk ⟨Int.natCast_nonneg j, g5⟩ ?_
      refine RdOb.mk (.int .i64 ((k + 1 + j : Nat) : Int)) _ rfl (by simpa using rdg) ?_
      refine Need.mk ⟨Int.natCast_nonneg _, by omega⟩ ?_
      refine RdOb.mk (.int .i64 ((ups G2 (k + 1) j).getD (k + 1 + j) 0)) _ rfl (by have h := flat_cell (l := ups G2 (k + 1) j) (k := k + 1 + j) (by rw [ups_len, st2.lG]; exact hg2); simpa only [Nat.zero_add, Nat.mul_one, Nat.add_zero, Int.toNat_natCast] using h) ?_
      refine Need.mk ⟨Int.natCast_nonneg _, by omega⟩ ?_
      refine StOb.mk [.int .i64 (IntKind.i64.wrap ((ups G2 (k + 1) j).getD (k + 1 + j) 0 + 1))] rfl (Need.mk (by rw [lI, ups_len, st2.lG]; simp; omega) ?_)
      have eUp := up_put (T := ups G2 (k + 1) j) (k := k + 1 + j) (by rw [ups_len, st2.lG]; exact hg2) (by omega) hG5
      refine ⟨⟨j + 1, by omega⟩, ?_, Le.of rfl ⟨⟨_, rfl, rfl⟩, ⟨_, rfl, rfl⟩, ⟨_, rfl, rfl⟩, ⟨_, rfl, rfl⟩, ⟨_, rfl, rfl⟩, ⟨_, rfl, rfl⟩, ⟨_, rfl, rfl⟩, ⟨_, rfl, rfl⟩, ⟨_, rfl, rfl⟩, ⟨_, rfl, rfl⟩, ⟨_, rfl, rfl⟩, ⟨_, rfl, rfl⟩, ⟨_, rfl, rfl⟩, ⟨_, rfl, rfl⟩, ⟨_, rfl, congrArg (fun z => some (Value.int .i64 z)) ej⟩, trivial⟩ (fun h k => sat_pick 1 rfl (by first | exact fun _ k => k | exact fun _ k => blk_to rfl rfl k | exact fun _ k => vec_to rfl k | exact fun _ k => blk_of rfl rfl k | exact fun _ k => vec_of rfl k | exact fun _ k => blk_of rfl rfl (blk_to rfl rfl k) | exact fun _ k => vec_of rfl (vec_to rfl k) | exact fun _ k => mp_to rfl k | exact fun _ k => mp_of rfl k | exact fun _ k => mp_of rfl (mp_to rfl k)) (fun h k => sat_pick 1 rfl (by first | exact fun _ k => k | exact fun _ k => blk_to rfl rfl k | exact fun _ k => vec_to rfl k | exact fun _ k => blk_of rfl rfl k | exact fun _ k => vec_of rfl k | exact fun _ k => blk_of rfl rfl (blk_to rfl rfl k) | exact fun _ k => vec_of rfl (vec_to rfl k) | exact fun _ k => mp_to rfl k | exact fun _ k => mp_of rfl k | exact fun _ k => mp_of rfl (mp_to rfl k)) (fun h k => sat_pick 1 rfl (by first | exact fun _ k => k | exact fun _ k => blk_to rfl rfl k | exact fun _ k => vec_to rfl k | exact fun _ k => blk_of rfl rfl k | exact fun _ k => vec_of rfl k | exact fun _ k => blk_of rfl rfl (blk_to rfl rfl k) | exact fun _ k => vec_of rfl (vec_to rfl k) | exact fun _ k => mp_to rfl k | exact fun _ k => mp_of rfl k | exact fun _ k => mp_of rfl (mp_to rfl k)) (fun h k => sat_pick 1 rfl (by first | exact fun _ k => k | exact fun _ k => blk_to rfl rfl k | exact fun _ k => vec_to rfl k | exact fun _ k => blk_of rfl rfl k | exact fun _ k => vec_of rfl k | exact fun _ k => blk_of rfl rfl (blk_to rfl rfl k) | exact fun _ k => vec_of rfl (vec_to rfl k) | exact fun _ k => mp_to rfl k | exact fun _ k => mp_of rfl k | exact fun _ k => mp_of rfl (mp_to rfl k)) (fun h k => sat_pick 1 rfl (by first | exact fun _ k => k | exact fun _ k => blk_to rfl rfl k | exact fun _ k => vec_to rfl k | exact fun _ k => blk_of rfl rfl k | exact fun _ k => vec_of rfl k | exact fun _ k => blk_of rfl rfl (blk_to rfl rfl k) | exact fun _ k => vec_of rfl (vec_to rfl k) | exact fun _ k => mp_to rfl k | exact fun _ k => mp_of rfl k | exact fun _ k => mp_of rfl (mp_to rfl k)) (fun h k => sat_pick 0 rfl (fun _ q => vec_eq eUp q) (fun h k => sat_pick 0 rfl (by first | exact fun _ k => k | exact fun _ k => blk_to rfl rfl k | exact fun _ k => vec_to rfl k | exact fun _ k => blk_of rfl rfl k | exact fun _ k => vec_of rfl k | exact fun _ k => blk_of rfl rfl (blk_to rfl rfl k) | exact fun _ k => vec_of rfl (vec_to rfl k) | exact fun _ k => mp_to rfl k | exact fun _ k => mp_of rfl k | exact fun _ k => mp_of rfl (mp_to rfl k)) (fun h k => sat_nil k) k) k) k) k) k) k) k)⟩
      show gs.length - (j + 1) < gs.length - j
      omega
end Go.Proofs.Ytlgdagjbphafcaa.Ch
