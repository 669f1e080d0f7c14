/- reasm: the reference's Next, Held, Expire; Same of lists. Conditions: none. -/
import Derived.Test.YtiknkeakielncaaRsV
namespace Go.Proofs.Ytiknkeakielncaa.Rs
open Go Go.Proofs Sx
set_option maxRecDepth 100000
set_option linter.unusedVariables false
set_option linter.unusedSimpArgs false
set_option maxHeartbeats 4000000

/-! ### Next -/
def nextT (l : List Int) : Int × Bool := l.foldl (fun a x => if !a.2 || decide (x < a.1) then (x, true) else a) (0, false)
theorem nextT_snoc (l : List Int) (x : Int) : nextT (l ++ [x]) = if !(nextT l).2 || decide (x < (nextT l).1) then (x, true) else nextT l := by
  unfold nextT
  rw [List.foldl_append]
  rfl
theorem nextT_some : ∀ (l : List Int), l ≠ [] → (nextT l).2 = true := by
  intro l h
  rcases List.eq_nil_or_concat l with rfl | ⟨o, y, rfl⟩
  · exact absurd rfl h
  · rw [List.concat_eq_append, nextT_snoc]
    split
    · rfl
    · rename_i h
      simp at h
      exact h.1
theorem nextT_m (M : List Mp) : nextM M = nextT (M.map Mp.till) := by
  unfold nextM nextT
  rw [List.foldl_map]
theorem tills_take (L : List RP) {i : Nat} {x : RP} (hx : L[i]? = some x) : (L.take (i + 1)).map RP.till = (L.take i).map RP.till ++ [x.till] := by
  obtain ⟨h1, h2⟩ := List.getElem?_eq_some_iff.1 hx
  rw [List.take_succ_eq_append_getElem h1, h2, List.map_append]
  rfl
theorem rnext_spec (most life : Int) (A : Option Addr) (cap : Nat) (L : List RP) (hL : L.length ≤ 1000) :
    Does Try.prog 51 #[.agg #[.int .i64 most, .int .i64 life, .slice A L.length cap]] (fun f => Reads f A (RPL.flat L)) [] (fun v q => v = .tuple #[.int .i64 (nextT (L.map RP.till)).1, .bool (nextT (L.map RP.till)).2] ∧ q = []) := by
  refine Does.ofJ Try.func51 Try.call51 rfl [.agg [.int .i64 most, .int .i64 life, .raw (.slice A L.length cap)]] [] 0 [] rfl rfl (fun h k => k) (fun f hR => ?_)
  intro b1
  refine CondOb.split (fun g => ?_) (fun g => ?_)
  · have g : L = [] := List.eq_nil_of_length_eq_zero (by simp at g; simp [g])
    subst g
    exact FinOb.mk [.int .i64 0, .bool false] [] rfl (fun h k => trivial) ⟨rfl, rfl⟩
  have g : 0 < L.length := by
    rcases L with _ | ⟨x, L⟩
    · simp at g
    · simp
  have hx := List.getElem?_eq_getElem g
  generalize L[0]'(by omega) = x at hx
  obtain ⟨b0, o0, rfl, hc0⟩ := find_rows hR hx
  refine Need.mk (show (0 : Int) ≤ 0 ∧ (0 : Int) < (L.length : Nat) from ⟨by omega, by omega⟩) (RawAt.mk b0 o0 rfl ?_)
  refine RdRaw.mk (.int .i64 x.till) _ rfl (hc0 19 _ rfl) ?_
  have h1 : (L.take 1).map RP.till = [x.till] := by
    have := tills_take L hx
    simpa using this
  refine LoopOb.mk { z : Nat // 1 ≤ z ∧ z ≤ L.length } (fun z => ⟨37, [(1, .ptr 0 0), (4, .int .i64 (nextT ((L.take z.1).map RP.till)).1), (5, .int .i64 z.1)], [(0, .at b1 0)], 1, [.blk 0 88 [.int .i64 most, .int .i64 life, .raw (.slice (some ⟨b0, o0, none⟩) L.length cap)]]⟩) (fun z => L.length - z.1) ⟨1, Nat.le_refl _, g⟩ ?_ ?_
  · exact Le.of rfl ⟨⟨_, rfl, rfl⟩, ⟨_, rfl, (by show some (Value.int .i64 x.till) = some (Value.int .i64 (nextT ((L.take 1).map RP.till)).1); rw [h1]; rfl)⟩, ⟨_, rfl, rfl⟩, trivial⟩ (fun h k => sat_pick 0 rfl (by first | exact fun _ k => k | exact fun _ k => blk_to rfl rfl k | exact fun _ k => vec_to rfl k | exact fun _ k => blk_of rfl rfl k | exact fun _ k => vec_of rfl k | exact fun _ k => blk_of rfl rfl (blk_to rfl rfl k) | exact fun _ k => vec_of rfl (vec_to rfl k) | exact fun _ k => mp_to rfl k | exact fun _ k => mp_of rfl k | exact fun _ k => mp_of rfl (mp_to rfl k)) (fun h k => sat_nil k) k)
  rintro ⟨j, hj1, hj⟩
  have hne : (L.take j).map RP.till ≠ [] := by
    intro e
    have := congrArg List.length e
    rw [List.length_map, List.length_take, Nat.min_eq_left hj] at this
    rw [List.length_nil] at this
    omega
  have hs := nextT_some _ hne
  refine CondOb.split (fun g2 => ?_) (fun g2 => ?_)
  rotate_left
  · have g2 : ¬ (j : Int) < L.length := of_decide_eq_false g2
    obtain rfl : j = L.length := by omega
    refine FinOb.mk [.int .i64 _, .bool true] [] rfl (fun h k => trivial) ⟨?_, rfl⟩
    rw [List.take_length] at *
    rw [hs]; rfl
  have g2 : (j : Int) < L.length := of_decide_eq_true g2
  have hy := List.getElem?_eq_getElem (show j < L.length by omega)
  generalize L[j]'(by omega) = y at hy
  have ej : IntKind.i64.wrap ((j : Int) + 1) = ((j + 1 : Nat) : Int) := by rw [w64 (by omega) (by omega)]; omega
  have hc1 : ∀ (u : Nat) v, y.vals[u]? = some v → fcell f b0 (o0 + j * 20 + u) = some v := by
    obtain ⟨b1, o1, e1, e2⟩ := find_rows hR hy
    cases e1
    exact e2
  have ht := tills_take L hy
  have hst := nextT_snoc ((L.take j).map RP.till) y.till
  rw [← ht, hs] at hst
  refine Need.mk (show (0 : Int) ≤ (j : Int) ∧ (j : Int) < (L.length : Nat) from ⟨by omega, by omega⟩) (RawAt.mk b0 o0 rfl ?_)
  refine RdRaw.mk (.int .i64 y.till) _ rfl (by rw [Int.toNat_natCast]; exact hc1 19 _ rfl) ?_
  refine CondOb.split (fun g3 => ?_) (fun g3 => ?_)
  · refine Need.mk (show (0 : Int) ≤ (j : Int) ∧ (j : Int) < (L.length : Nat) from ⟨by omega, by omega⟩) (RawAt.mk b0 o0 rfl ?_)
    refine RdRaw.mk (.int .i64 y.till) _ rfl (by rw [Int.toNat_natCast]; exact hc1 19 _ rfl) ?_
    have g3 : y.till < (nextT ((L.take j).map RP.till)).1 := of_decide_eq_true g3
    rw [if_pos (by rw [decide_eq_true g3]; rfl)] at hst
    exact ⟨⟨j + 1, by omega, by omega⟩, by show L.length - (j + 1) < L.length - j; omega, Le.of rfl ⟨⟨_, rfl, rfl⟩, ⟨_, rfl, (by show some (Value.int .i64 y.till) = some (Value.int .i64 (nextT ((L.take (j + 1)).map RP.till)).1); rw [hst])⟩, ⟨_, rfl, congrArg (fun z => some (Value.int .i64 z)) ej⟩, trivial⟩ (fun h k => k)⟩
  · have g3 : ¬ y.till < (nextT ((L.take j).map RP.till)).1 := of_decide_eq_false g3
    rw [if_neg (by rw [decide_eq_false g3]; decide)] at hst
    exact ⟨⟨j + 1, by omega, by omega⟩, by show L.length - (j + 1) < L.length - j; omega, Le.of rfl ⟨⟨_, rfl, rfl⟩, ⟨_, rfl, (by show some (Value.int .i64 (nextT ((L.take j).map RP.till)).1) = some (Value.int .i64 (nextT ((L.take (j + 1)).map RP.till)).1); rw [hst])⟩, ⟨_, rfl, congrArg (fun z => some (Value.int .i64 z)) ej⟩, trivial⟩ (fun h k => k)⟩
/-! ### Held -/
/-- How many of the first n came. -/
def cntN (hs : List Bool) (n : Nat) : Nat := ((hs.take n).filter id).length
theorem cntN_le (hs : List Bool) (n : Nat) : cntN hs n ≤ n := by
  unfold cntN
  exact Nat.le_trans (List.length_filter_le _ _) (by rw [List.length_take]; omega)
theorem cntN_succ (hs : List Bool) {n : Nat} {c : Bool} (h : hs[n]? = some c) : cntN hs (n + 1) = cntN hs n + (if c then 1 else 0) := by
  obtain ⟨h1, h2⟩ := List.getElem?_eq_some_iff.1 h
  unfold cntN
  rw [List.take_succ_eq_append_getElem h1, h2, List.filter_append, List.length_append]
  cases c <;> rfl
def heldR (L : List RP) : Nat := (L.map fun x => cntN x.hs x.hs.length).sum
theorem heldR_take (L : List RP) {i : Nat} {x : RP} (hx : L[i]? = some x) : heldR (L.take (i + 1)) = heldR (L.take i) + cntN x.hs x.hs.length := by
  obtain ⟨h1, h2⟩ := List.getElem?_eq_some_iff.1 hx
  unfold heldR
  rw [List.take_succ_eq_append_getElem h1, h2, List.map_append, List.sum_append]
  simp
theorem heldR_le (L : List RP) (h : ∀ x ∈ L, x.hs.length ≤ 1000000) : heldR L ≤ L.length * 1000000 := by
  induction L with
  | nil => simp [heldR]
  | cons x L ih =>
    have h1 := ih (fun y hy => h y (List.mem_cons_of_mem _ hy))
    have h2 := h x (by simp)
    have h3 := cntN_le x.hs x.hs.length
    unfold heldR at h1 ⊢
    rw [List.map_cons, List.sum_cons, List.length_cons]
    omega
theorem rheld_spec (most life : Int) (A : Option Addr) (cap : Nat) (L : List RP) (hL : L.length ≤ 1000) (hh : ∀ x ∈ L, x.hs.length ≤ 1000000) :
    Does Try.prog 53 #[.agg #[.int .i64 most, .int .i64 life, .slice A L.length cap]] (fun f => Reads f A (RPL.flat L) ∧ ∀ x ∈ L, Reads f (locAddr 0 x.pf) (BL.flat x.hs)) [] (fun v q => v = .int .i64 (heldR L) ∧ q = []) := by
  refine Does.ofJ Try.func53 Try.call53 rfl [.agg [.int .i64 most, .int .i64 life, .raw (.slice A L.length cap)]] [] 0 [] rfl rfl (fun h k => k) (fun f hR => ?_)
  intro b1
  refine LoopOb.mk { z : Nat // z ≤ L.length } (fun z => ⟨36, [(1, .ptr 0 0), (3, .int .i64 (heldR (L.take z.1))), (4, .int .i64 z.1)], [(0, .at b1 0)], 1, [.blk 0 88 [.int .i64 most, .int .i64 life, .raw (.slice A L.length cap)]]⟩) (fun z => L.length - z.1) ⟨0, Nat.zero_le _⟩ ?_ ?_
  · exact Le.of rfl ⟨⟨_, rfl, rfl⟩, ⟨_, rfl, rfl⟩, ⟨_, rfl, rfl⟩, trivial⟩ (fun h k => sat_pick 0 rfl (by first | exact fun _ k => k | exact fun _ k => blk_to rfl rfl k | exact fun _ k => vec_to rfl k | exact fun _ k => blk_of rfl rfl k | exact fun _ k => vec_of rfl k | exact fun _ k => blk_of rfl rfl (blk_to rfl rfl k) | exact fun _ k => vec_of rfl (vec_to rfl k) | exact fun _ k => mp_to rfl k | exact fun _ k => mp_of rfl k | exact fun _ k => mp_of rfl (mp_to rfl k)) (fun h k => sat_nil k) k)
  rintro ⟨i, hi⟩
  refine CondOb.split (fun g => ?_) (fun g => ?_)
  rotate_left
  · have g : ¬ (i : Int) < L.length := of_decide_eq_false g
    obtain rfl : i = L.length := by omega
    exact FinOb.mk [.int .i64 (heldR (L.take L.length))] [] rfl (fun h k => trivial) ⟨by rw [List.take_length]; rfl, rfl⟩
  have g : (i : Int) < L.length := of_decide_eq_true g
  have hx := List.getElem?_eq_getElem (show i < L.length by omega)
  have hxm : L[i]'(by omega) ∈ L := List.getElem_mem _
  generalize L[i]'(by omega) = x at hx hxm
  obtain ⟨b0, o0, rfl, hc0⟩ := find_rows hR.1 hx
  have hxl := hh x hxm
  have hxr := hR.2 x hxm
  have ei : IntKind.i64.wrap ((i : Int) + 1) = ((i + 1 : Nat) : Int) := by rw [w64 (by omega) (by omega)]; omega
  have hht := heldR_take L hx
  have hle := heldR_le (L.take i) (fun y hy => hh y (List.mem_of_mem_take hy))
  rw [List.length_take] at hle
  refine LoopOb.mk { z : Nat // z ≤ x.hs.length } (fun z => ⟨36, [(1, .ptr 0 0), (3, .int .i64 ((heldR (L.take i) + cntN x.hs z.1 : Nat) : Int)), (4, .int .i64 i), (5, .int .i64 z.1)], [(0, .at b1 0)], 1, [.blk 0 88 [.int .i64 most, .int .i64 life, .raw (.slice (some ⟨b0, o0, none⟩) L.length cap)]]⟩) (fun z => x.hs.length - z.1) ⟨0, Nat.zero_le _⟩ ?_ ?_
  · exact Le.of rfl ⟨⟨_, rfl, rfl⟩, ⟨_, rfl, rfl⟩, ⟨_, rfl, rfl⟩, ⟨_, rfl, rfl⟩, trivial⟩ (fun h k => sat_pick 0 rfl (by first | exact fun _ k => k | exact fun _ k => blk_to rfl rfl k | exact fun _ k => vec_to rfl k | exact fun _ k => blk_of rfl rfl k | exact fun _ k => vec_of rfl k | exact fun _ k => blk_of rfl rfl (blk_to rfl rfl k) | exact fun _ k => vec_of rfl (vec_to rfl k) | exact fun _ k => mp_to rfl k | exact fun _ k => mp_of rfl k | exact fun _ k => mp_of rfl (mp_to rfl k)) (fun h k => sat_nil k) k)
  rintro ⟨j, hj⟩
  refine Need.mk (show (0 : Int) ≤ (i : Int) ∧ (i : Int) < (L.length : Nat) from ⟨by omega, by omega⟩) (RawAt.mk b0 o0 rfl ?_)
  refine RdRaw.mk (.raw (.slice (locAddr 0 x.pf) x.hs.length x.cf)) _ rfl (by rw [Int.toNat_natCast]; exact hc0 5 _ rfl) ?_
  refine CondOb.split (fun g2 => ?_) (fun g2 => ?_)
  rotate_left
  · have g2 : ¬ (j : Int) < x.hs.length := of_decide_eq_false g2
    obtain rfl : j = x.hs.length := by omega
    exact ⟨⟨i + 1, by omega⟩, by show L.length - (i + 1) < L.length - i; omega, Le.of rfl ⟨⟨_, rfl, rfl⟩, ⟨_, rfl, (by show some (Value.int .i64 ((heldR (L.take i) + cntN x.hs x.hs.length : Nat) : Int)) = some (Value.int .i64 ((heldR (L.take (i + 1)) : Nat) : Int)); rw [hht])⟩, ⟨_, rfl, congrArg (fun z => some (Value.int .i64 z)) ei⟩, trivial⟩ (fun h k => k)⟩
  have g2 : (j : Int) < x.hs.length := of_decide_eq_true g2
  have hb := List.getElem?_eq_getElem (show j < x.hs.length by omega)
  generalize x.hs[j]'(by omega) = c at hb
  obtain ⟨b2, o2, ea, hc2⟩ := hxr.lay (by decide) hb
  have ej : IntKind.i64.wrap ((j : Int) + 1) = ((j + 1 : Nat) : Int) := by rw [w64 (by omega) (by omega)]; omega
  have hcs := cntN_succ x.hs hb
  have hcl := cntN_le x.hs j
  refine Need.mk (show (0 : Int) ≤ (i : Int) ∧ (i : Int) < (L.length : Nat) from ⟨by omega, by omega⟩) (RawAt.mk b0 o0 rfl ?_)
  refine RdRaw.mk (.raw (.slice (locAddr 0 x.pf) x.hs.length x.cf)) _ rfl (by rw [Int.toNat_natCast]; exact hc0 5 _ rfl) ?_
  refine Need.mk (show (0 : Int) ≤ (j : Int) ∧ (j : Int) < (x.hs.length : Nat) from ⟨by omega, by omega⟩) (RawAt.mk b2 o2 ea ?_)
  refine RdRaw.mk (.bool c) _ rfl (by rw [Int.toNat_natCast]; exact hc2 0 _ rfl) ?_
  refine CondOb.split (fun g3 => ?_) (fun g3 => ?_)
  · have g3 : c = true := g3
    subst g3
    have en : IntKind.i64.wrap (((heldR (L.take i) + cntN x.hs j : Nat) : Int) + 1) = ((heldR (L.take i) + cntN x.hs (j + 1) : Nat) : Int) := by rw [hcs, w64 (by omega) (by omega)]; simp; omega
    exact ⟨⟨j + 1, by omega⟩, by show x.hs.length - (j + 1) < x.hs.length - j; omega, Le.of rfl ⟨⟨_, rfl, rfl⟩, ⟨_, rfl, congrArg (fun z => some (Value.int .i64 z)) en⟩, ⟨_, rfl, rfl⟩, ⟨_, rfl, congrArg (fun z => some (Value.int .i64 z)) ej⟩, trivial⟩ (fun h k => k)⟩
  · have g3 : c = false := by simpa using g3
    subst g3
    have en : cntN x.hs j = cntN x.hs (j + 1) := by rw [hcs]; simp
    exact ⟨⟨j + 1, by omega⟩, by show x.hs.length - (j + 1) < x.hs.length - j; omega, Le.of rfl ⟨⟨_, rfl, rfl⟩, ⟨_, rfl, (by show some (Value.int .i64 ((heldR (L.take i) + cntN x.hs j : Nat) : Int)) = some (Value.int .i64 ((heldR (L.take i) + cntN x.hs (j + 1) : Nat) : Int)); rw [en])⟩, ⟨_, rfl, rfl⟩, ⟨_, rfl, congrArg (fun z => some (Value.int .i64 z)) ej⟩, trivial⟩ (fun h k => k)⟩
end Go.Proofs.Ytiknkeakielncaa.Rs
