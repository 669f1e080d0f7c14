/- route: a way looked up in a net's list. Conditions: none. -/
import Derived.Test.YtjppphldiaonkaaRtA
namespace Go.Proofs.Ytjppphldiaonkaa.Rt
open Go Go.Proofs Sx
set_option maxRecDepth 100000
set_option linter.unusedVariables false
set_option linter.unusedSimpArgs false
set_option maxHeartbeats 4000000

/-- In order by cost. -/
def Up (ws : List R) : Prop := ∀ (i j : Nat) (x y : R), ws[i]? = some x → ws[j]? = some y → i < j → x.cost < y.cost
structure BsR (ws : List R) (c : Int) (k : Nat) : Prop where
  le : k ≤ ws.length
  lo : ∀ (i : Nat) (x : R), ws[i]? = some x → i < k → x.cost < c
  hi : ∀ (i : Nat) (x : R), ws[i]? = some x → k ≤ i → c ≤ x.cost
def foundB (ws : List R) (c : Int) (k : Nat) : Bool := match ws[k]? with
  | some r => r.cost == c
  | none => false
theorem half (n : Nat) (h : n ≤ 2000000) : IntKind.i64.wrap ((IntKind.u64.wrap (IntKind.i64.wrap (n : Int))).fdiv (2 ^ (min (1 : Int).toNat IntKind.u64.bits))) = ((n / 2 : Nat) : Int) := by
  have e : (2 : Int) ^ (min (1 : Int).toNat IntKind.u64.bits) = 2 := rfl
  rw [e, w64 (x := (n : Int)) (by omega) (by omega), wu64 (by omega) (by omega), Int.fdiv_eq_ediv_of_nonneg _ (by decide), w64 (by omega) (by omega)]
  omega
theorem cmp_neg {x y : Int} : (decide (cmpI x y < 0)) = decide (x < y) := by
  unfold cmpI
  by_cases h : x < y
  · simp [h]
  · by_cases h2 : y < x <;> simp [h, h2]
theorem cmp_zero {x y : Int} : (cmpI x y == 0) = (x == y) := by
  unfold cmpI
  by_cases h : x < y
  · have : ¬ x = y := by omega
    simp [h, this]
  · by_cases h2 : y < x
    · have : ¬ x = y := by omega
      simp [h, h2, this]
    · have : x = y := by omega
      simp [this]
theorem bs_spec (A : Option Addr) (cap : Nat) (ws : List R) (x : R) (up : Up ws) (hl : ws.length ≤ 1000000) :
    Does Try.prog 44 #[.slice A ws.length cap, .agg x.vals.toArray, .func (.func 45) #[] #[]] (fun f => Reads f A (RL.flat ws)) [] (fun v p => ∃ k : Nat, v = .tuple #[.int .i64 k, .bool (foundB ws x.cost k)] ∧ BsR ws x.cost k ∧ p = []) := by
  refine Does.ofJ Try.func44 Try.call44 rfl [.raw (.slice A ws.length cap), .agg x.svs, .fn (.func 45) [] []] [] 0 [] rfl rfl (fun h k => k) (fun f hR => ?_)
  intro b1
  refine LoopOb.mk { z : Nat × Nat // z.1 ≤ z.2 ∧ z.2 ≤ ws.length ∧ (∀ (i : Nat) (r : R), ws[i]? = some r → i < z.1 → r.cost < x.cost) ∧ (∀ (i : Nat) (r : R), ws[i]? = some r → z.2 ≤ i → x.cost ≤ r.cost) }
    (fun z => ⟨49, [(0, .raw (.slice A ws.length cap)), (2, .fn (.func 45) [] []), (4, .ptr 0 0), (8, .int .i64 ws.length), (9, .int .i64 z.1.1), (10, .int .i64 z.1.2)], [(0, .at b1 0)], 1, [.blk 0 85 x.svs]⟩) (fun z => z.1.2 - z.1.1)
    ⟨(0, ws.length), by omega, by omega, fun i r _ h => by omega, fun i r h1 h2 => by rw [List.getElem?_eq_none h2] at h1; cases h1⟩ ?_ ?_
  · exact Le.of rfl ⟨⟨_, rfl, rfl⟩, ⟨_, rfl, rfl⟩, ⟨_, rfl, rfl⟩, ⟨_, rfl, rfl⟩, ⟨_, rfl, rfl⟩, ⟨_, rfl, rfl⟩, trivial⟩ (fun h k => sat_pick 0 rfl (by first | exact fun _ k => k | exact fun _ k => blk_to rfl rfl k | exact fun _ k => vec_to rfl k | exact fun _ k => blk_of rfl rfl k | exact fun _ k => vec_of rfl k | exact fun _ k => blk_of rfl rfl (blk_to rfl rfl k) | exact fun _ k => vec_of rfl (vec_to rfl k) | exact fun _ k => mp_to rfl k | exact fun _ k => mp_of rfl k | exact fun _ k => mp_of rfl (mp_to rfl k)) (fun h k => sat_nil k) k)
  rintro ⟨⟨lo, hi⟩, h1, h2, h3, h4⟩
  simp only at h1 h2 h3 h4
  refine CondOb.split (fun g => ?_) (fun g => ?_)
  · simp only [decide_eq_true_eq] at g
    replace g : (lo : Int) < hi := g
    have hm := half (lo + hi) (by omega)
    have hm' : IntKind.i64.wrap ((IntKind.u64.wrap (IntKind.i64.wrap ((lo : Int) + (hi : Int)))).fdiv (2 ^ (min (1 : Int).toNat IntKind.u64.bits))) = (((lo + hi) / 2 : Nat) : Int) := by
      rw [← hm]; norm_cast
    generalize hmid : (lo + hi) / 2 = mid at hm'
    have hml : mid < ws.length := by omega
    have hx := List.getElem?_eq_getElem hml
    generalize ws[mid] = r at hx
    obtain ⟨b, o, hA, hc⟩ := hR.lay (by decide) hx
    refine Need.mk (by decide) ?_
    refine DrawOb.mk [] (.run [0, 1, 2, 3, 4, 5, 6, 7] .nil) (by kernel_rfl) ?_
    refine Need.mk (by show 0 ≤ IntKind.i64.wrap _ ∧ IntKind.i64.wrap _ < _; rw [hm']; omega) (RawAt.mk b o hA ?_)
    refine RdF.mk r.svs r.vals rfl rfl (fun j v hj => ?_) ?_
    · have : fcell f b (o + (IntKind.i64.wrap ((IntKind.u64.wrap (IntKind.i64.wrap ((lo : Int) + (hi : Int)))).fdiv (2 ^ (min (1 : Int).toNat IntKind.u64.bits)))).toNat * 5 + j) = some v := by
        rw [hm']; exact hc j v hj
      exact this
    refine useP (.int .i64 (cmpI r.cost x.cost)) (against_spec r x) rfl rfl ?_
    refine CondOb.split (fun g2 => ?_) (fun g2 => ?_)
    · rw [cmp_neg] at g2
      have g2 : r.cost < x.cost := by simpa using g2
      have ei : IntKind.i64.wrap ((mid : Int) + 1) = ((mid + 1 : Nat) : Int) := by rw [w64 (by omega) (by omega)]; omega
      refine ⟨⟨(mid + 1, hi), by simp only; omega, h2, fun i y hy hi' => ?_, h4⟩, by show hi - (mid + 1) < hi - lo; omega, Le.of rfl ⟨⟨_, rfl, rfl⟩, ⟨_, rfl, rfl⟩, ⟨_, rfl, rfl⟩, ⟨_, rfl, rfl⟩, ⟨_, rfl, congrArg (fun z => some (Value.int .i64 z)) (by rw [hm', ei])⟩, ⟨_, rfl, rfl⟩, trivial⟩ (fun h k => sat_pick 0 rfl (by first | exact fun _ k => k | exact fun _ k => blk_to rfl rfl k | exact fun _ k => vec_to rfl k | exact fun _ k => blk_of rfl rfl k | exact fun _ k => vec_of rfl k | exact fun _ k => blk_of rfl rfl (blk_to rfl rfl k) | exact fun _ k => vec_of rfl (vec_to rfl k) | exact fun _ k => mp_to rfl k | exact fun _ k => mp_of rfl k | exact fun _ k => mp_of rfl (mp_to rfl k)) (fun h k => sat_nil k) k)⟩
      by_cases e : i = mid
      · subst e; rw [hx] at hy; cases hy; exact g2
      · have := up i mid y r hy hx (by simp only at hi'; omega)
        omega
    · rw [cmp_neg] at g2
      have g2 : ¬ r.cost < x.cost := by simpa using g2
      refine ⟨⟨(lo, mid), by simp only; omega, by simp only; omega, h3, fun i y hy hi' => ?_⟩, by show mid - lo < hi - lo; omega, Le.of rfl ⟨⟨_, rfl, rfl⟩, ⟨_, rfl, rfl⟩, ⟨_, rfl, rfl⟩, ⟨_, rfl, rfl⟩, ⟨_, rfl, rfl⟩, ⟨_, rfl, congrArg (fun z => some (Value.int .i64 z)) hm'⟩, trivial⟩ (fun h k => sat_pick 0 rfl (by first | exact fun _ k => k | exact fun _ k => blk_to rfl rfl k | exact fun _ k => vec_to rfl k | exact fun _ k => blk_of rfl rfl k | exact fun _ k => vec_of rfl k | exact fun _ k => blk_of rfl rfl (blk_to rfl rfl k) | exact fun _ k => vec_of rfl (vec_to rfl k) | exact fun _ k => mp_to rfl k | exact fun _ k => mp_of rfl k | exact fun _ k => mp_of rfl (mp_to rfl k)) (fun h k => sat_nil k) k)⟩
      by_cases e : i = mid
      · subst e; rw [hx] at hy; cases hy; omega
      · have := up mid i r y hx hy (by simp only at hi'; omega)
        omega
  simp only [decide_eq_false_iff_not] at g
  replace g : ¬ (lo : Int) < hi := g
  have e : hi = lo := by omega
  subst e
  refine RegOb.go ?_
  refine DrawOb.mk [(11, [0])] (.run [0, 1, 2, 3, 4, 5, 6, 7, 8, 9, 10, 11, 12, 13, 14, 15] .nil) (by kernel_rfl) ?_
  refine Br.mk (fun g2 => ?_) (fun g2 => ?_)
  · simp only [decide_eq_true_eq] at g2
    replace g2 : (hi : Int) < ws.length := g2
    have hx := List.getElem?_eq_getElem (show hi < ws.length by omega)
    generalize ws[hi]'(by omega) = r at hx
    obtain ⟨b, o, hA, hc⟩ := hR.lay (by decide) hx
    refine Need.mk ⟨Int.natCast_nonneg _, g2⟩ (RawAt.mk b o hA ?_)
    refine RdF.mk r.svs r.vals rfl rfl (fun j v hj => hc j v hj) ?_
    refine useP (.int .i64 (cmpI r.cost x.cost)) (against_spec r x) rfl rfl ?_
    refine FinOb.mk _ [] rfl (fun h k => trivial) ⟨hi, ?_, ⟨h2, h3, h4⟩, rfl⟩
    show Value.tuple #[.int .i64 hi, .bool (cmpI r.cost x.cost == 0)] = _
    unfold foundB
    rw [hx, cmp_zero]
  · simp only [decide_eq_false_iff_not] at g2
    replace g2 : ¬ (hi : Int) < ws.length := g2
    refine FinOb.mk _ [] rfl (fun h k => trivial) ⟨hi, ?_, ⟨h2, h3, h4⟩, rfl⟩
    unfold foundB
    rw [List.getElem?_eq_none (by omega)]
    rfl
end Go.Proofs.Ytjppphldiaonkaa.Rt
