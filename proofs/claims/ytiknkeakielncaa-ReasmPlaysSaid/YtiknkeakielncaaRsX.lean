/- reasm: the reference's Expire; Same of lists. Conditions: none. -/
import Derived.Test.YtiknkeakielncaaRsW
namespace Go.Proofs.Ytiknkeakielncaa.Rs
open Go Go.Proofs Sx
set_option maxRecDepth 100000
set_option linter.unusedVariables false
set_option linter.unusedSimpArgs false
set_option maxHeartbeats 4000000

/-! ### Same -/
theorem same_list (A B : Option Addr) (ca cb : Nat) (xs ys : List Ip) (hl : xs.length ≤ 100000) :
    Does Try.prog 48 #[.slice A xs.length ca, .slice B ys.length cb] (fun f => (Reads f A (IL.flat xs) ∧ ∀ x ∈ xs, x.Sees f) ∧ (Reads f B (IL.flat ys) ∧ ∀ y ∈ ys, y.Sees f)) [] (fun v q => v = .bool (decide (xs.map Ip.p = ys.map Ip.p)) ∧ q = []) := by
  refine Does.ofJ Try.func48 Try.call48 rfl [.raw (.slice A xs.length ca), .raw (.slice B ys.length cb)] [] 0 [] rfl rfl (fun h k => k) (fun f hR => ?_)
  refine CondOb.split (fun g => ?_) (fun g => ?_)
  · have g : ¬ xs.length = ys.length := by simp at g; omega
    exact FinOb.mk [.bool false] [] rfl (fun h k => trivial) ⟨by rw [decide_eq_false (fun e => g (by have := congrArg List.length e; simpa using this))]; rfl, rfl⟩
  have g : xs.length = ys.length := by simp at g; omega
  refine LoopOb.mk { z : Nat // z ≤ xs.length ∧ (xs.take z).map Ip.p = (ys.take z).map Ip.p } (fun z => ⟨27, [(0, .raw (.slice A xs.length ca)), (1, .raw (.slice B ys.length cb)), (5, .int .i64 z.1)], [], 0, []⟩) (fun z => xs.length - z.1) ⟨0, Nat.zero_le _, rfl⟩ ?_ ?_
  · exact Le.of rfl ⟨⟨_, rfl, rfl⟩, ⟨_, rfl, rfl⟩, ⟨_, rfl, rfl⟩, trivial⟩ (fun h k => k)
  rintro ⟨j, hj, he⟩
  refine CondOb.split (fun g2 => ?_) (fun g2 => ?_)
  rotate_left
  · have g2 : ¬ (j : Int) < xs.length := of_decide_eq_false g2
    obtain rfl : j = xs.length := by omega
    refine FinOb.mk [.bool true] [] rfl (fun h k => trivial) ⟨?_, rfl⟩
    rw [List.take_length, g, List.take_length] at he
    rw [decide_eq_true he]; rfl
  have g2 : (j : Int) < xs.length := of_decide_eq_true g2
  have hx := List.getElem?_eq_getElem (show j < xs.length by omega)
  have hxm : xs[j]'(by omega) ∈ xs := List.getElem_mem _
  generalize xs[j]'(by omega) = x at hx hxm
  have hy := List.getElem?_eq_getElem (show j < ys.length by omega)
  have hym : ys[j]'(by omega) ∈ ys := List.getElem_mem _
  generalize ys[j]'(by omega) = y at hy hym
  obtain ⟨b0, o0, ea, hc0⟩ := hR.1.1.lay (by decide) hx
  obtain ⟨b1, o1, eb, hc1⟩ := hR.2.1.lay (by decide) hy
  have hxs := hR.1.2 x hxm
  have hys := hR.2.2 y hym
  have ej : IntKind.i64.wrap ((j : Int) + 1) = ((j + 1 : Nat) : Int) := by rw [w64 (by omega) (by omega)]; omega
  refine DrawOb.mk [] (.run [0, 1, 2, 3, 4, 5, 6, 7, 8, 9] .nil) (by kernel_rfl) ?_
  refine Need.mk (show (0 : Int) ≤ (j : Int) ∧ (j : Int) < (xs.length : Nat) from ⟨by omega, by omega⟩) (RawAt.mk b0 o0 ea ?_)
  refine RdF.mk x.svs x.vals rfl rfl (fun u v hv => by rw [Int.toNat_natCast]; exact hc0 u v hv) ?_
  refine Need.mk (show (0 : Int) ≤ (j : Int) ∧ (j : Int) < (ys.length : Nat) from ⟨by omega, by omega⟩) (RawAt.mk b1 o1 eb ?_)
  refine RdF.mk y.svs y.vals rfl rfl (fun u v hv => by rw [Int.toNat_natCast]; exact hc1 u v hv) ?_
  refine useR (.bool (decide (x.p = y.p))) (same_spec0 x y) rfl (fun f' b' hs' kb => ⟨⟨rd_sub (fun r q hq => hs'.get_right hq) hxs.o, rd_sub (fun r q hq => hs'.get_right hq) hxs.d⟩, ⟨rd_sub (fun r q hq => hs'.get_right hq) hys.o, rd_sub (fun r q hq => hs'.get_right hq) hys.d⟩⟩) rfl ?_
  have hxt : (xs.take (j + 1)).map Ip.p = (xs.take j).map Ip.p ++ [x.p] := by
    obtain ⟨h1, h2⟩ := List.getElem?_eq_some_iff.1 hx
    rw [List.take_succ_eq_append_getElem h1, h2, List.map_append]; rfl
  have hyt : (ys.take (j + 1)).map Ip.p = (ys.take j).map Ip.p ++ [y.p] := by
    obtain ⟨h1, h2⟩ := List.getElem?_eq_some_iff.1 hy
    rw [List.take_succ_eq_append_getElem h1, h2, List.map_append]; rfl
  refine CondOb.split (fun g3 => ?_) (fun g3 => ?_)
  · have g3 : ¬ x.p = y.p := by simpa using g3
    refine FinOb.mk [.bool false] [] rfl (fun h k => trivial) ⟨?_, rfl⟩
    rw [decide_eq_false (fun e => g3 ?_)]
    · rfl
    · have e2 := congrArg (fun l => l[j]?) e
      simp only [List.getElem?_map, hx, hy, Option.map_some, Option.some.injEq] at e2
      exact e2
  · have g3 : x.p = y.p := by simpa using g3
    exact ⟨⟨j + 1, by omega, by rw [hxt, hyt, he, g3]⟩, by show xs.length - (j + 1) < xs.length - j; omega, Le.of rfl ⟨⟨_, rfl, rfl⟩, ⟨_, rfl, rfl⟩, ⟨_, rfl, congrArg (fun z => some (Value.int .i64 z)) ej⟩, trivial⟩ (fun h k => k)⟩
/-! ### Expire -/
def lateR (now : Int) (L : List RP) : List RP := L.filter (fun x => decide (x.till ≤ now))
def keepR (now : Int) (L : List RP) : List RP := L.filter (fun x => decide (now < x.till))
def firstR (L : List RP) : List Ip := L.filterMap RP.fi
theorem keepR_take (now : Int) (L : List RP) {i : Nat} {x : RP} (hx : L[i]? = some x) : keepR now (L.take (i + 1)) = keepR now (L.take i) ++ (if now < x.till then [x] else []) := by
  obtain ⟨h1, h2⟩ := List.getElem?_eq_some_iff.1 hx
  unfold keepR
  rw [List.take_succ_eq_append_getElem h1, h2, List.filter_append, List.filter_cons]
  split <;> split <;> simp_all
theorem firstR_take (now : Int) (L : List RP) {i : Nat} {x : RP} (hx : L[i]? = some x) : firstR (lateR now (L.take (i + 1))) = firstR (lateR now (L.take i)) ++ (if now < x.till then [] else x.fi.toList) := by
  obtain ⟨h1, h2⟩ := List.getElem?_eq_some_iff.1 hx
  unfold lateR firstR
  rw [List.take_succ_eq_append_getElem h1, h2, List.filter_append, List.filterMap_append, List.filter_cons]
  by_cases h : now < x.till
  · rw [if_neg (by simp; omega), if_pos h]; rfl
  · rw [if_pos (by simp; omega), if_neg h]
    cases hf : x.fi <;> simp [hf]
theorem flat_ne {L : List RP} (h : L ≠ []) : RPL.flat L ≠ [] := by
  intro e
  have := congrArg List.length e
  rw [lRPL, List.length_nil] at this
  exact h (List.eq_nil_of_length_eq_zero (by omega))
theorem first_cells {L : List RP} {i : Nat} {x : RP} {y : Ip} (hx : L[i]? = some x) (hy : x.fi = some y) : ((RPL.flat L).drop (i * 20 + 8)).take 11 = y.vals := by
  have h := RPL.flat_get hx
  have e : ((RPL.flat L).drop (i * 20 + 8)).take 11 = ((((RPL.flat L).drop (i * 20)).take 20).drop 8).take 11 := by
    rw [List.drop_take, List.drop_drop, List.take_take]
    rfl
  rw [e, show ((RPL.flat L).drop (i * 20)).take 20 = x.vals from h]
  show (x.ip.vals ++ [Value.int .i64 x.till]).take 11 = _
  rw [List.take_left' (show x.ip.vals.length = 11 from rfl)]
  unfold RP.ip
  rw [hy]; rfl
theorem without2_spec (most life : Int) (A : Option Addr) (cap : Nat) (L : List RP) (hc : L.length ≤ cap) (hL : L.length ≤ 1000) (k : Nat) (hk : k < L.length) :
    Does Try.prog 91 #[.agg #[.int .i64 most, .int .i64 life, .slice A L.length cap], .int .i64 k] (fun f => Reads f A (RPL.flat L)) []
      (fun v q => ∃ pl c, v = .agg #[.int .i64 most, .int .i64 life, .slice (locAddr 0 pl) (L.length - 1) c] ∧ L.length - 1 ≤ c ∧ (L.take k ++ L.drop (k + 1) ≠ [] → ∃ b o, pl = .at b o) ∧ q = [Vec pl 178 20 c (RPL.flat (L.take k ++ L.drop (k + 1)))]) := by
  refine (without_spec most life A cap L hc hL k hk).sure ?_
  rintro v q h ⟨pl, c, rfl, h1, rfl⟩ ⟨x, _, _, hx, _⟩
  exact ⟨pl, c, rfl, h1, fun e => vec_at (flat_ne e) hx, rfl⟩
theorem rexpire1_spec (most life : Int) (pl : Plc) (cap : Nat) (L : List RP) (hc : L.length ≤ cap) (hL : L.length ≤ 1000) (now : Int) (hpl : L ≠ [] → ∃ b o, pl = .at b o) :
    Does Try.prog 47 #[.agg #[.int .i64 most, .int .i64 life, .slice (locAddr 0 pl) L.length cap], .int .i64 now] (fun f => True) [Vec pl 178 20 cap (RPL.flat L)]
      (fun v q => ∃ p1 c1 p2 c2, v = .tuple #[.agg #[.int .i64 most, .int .i64 life, .slice (locAddr 0 p1) (keepR now L).length c1], .slice (locAddr 0 p2) (firstR (lateR now L)).length c2] ∧ (keepR now L).length ≤ c1 ∧ (firstR (lateR now L)).length ≤ c2 ∧ q = [Vec p1 178 20 c1 (RPL.flat (keepR now L)), Vec p2 40 11 c2 (IL.flat (firstR (lateR now L)))]) := by
  refine Does.ofJ Try.func47 Try.call47 rfl [.agg [.int .i64 most, .int .i64 life, .sl 0 0 L.length cap], .int .i64 now] [(0, pl)] 1 [.vec 0 178 20 cap (RPL.flat L)] rfl rfl (fun h k => sat_pick 0 rfl (fun _ k9 => vec_of rfl k9) (fun h k => sat_nil k) k) (fun f hR => ?_)
  intro b2 b4
  refine LoopOb.mk { z : Nat × (Plc × Nat) × (Plc × Nat) // z.1 ≤ L.length ∧ (keepR now (L.take z.1) ++ L.drop z.1).length ≤ z.2.1.2 ∧ (firstR (lateR now (L.take z.1))).length ≤ z.2.2.2 ∧ (keepR now (L.take z.1) ++ L.drop z.1 ≠ [] → ∃ b o, z.2.1.1 = .at b o) } (fun z => ⟨43, [(1, .int .i64 now), (2, .ptr 0 0), (4, .ptr 1 0), (6, .sl 3 0 (firstR (lateR now (L.take z.1.1))).length z.1.2.2.2), (7, .int .i64 (keepR now (L.take z.1.1)).length)], [(0, .at b2 0), (1, .at b4 0), (2, z.1.2.1.1), (3, z.1.2.2.1)], 4, [.blk 0 88 [.int .i64 most, .int .i64 life, .sl 2 0 (keepR now (L.take z.1.1) ++ L.drop z.1.1).length z.1.2.1.2], .blk 1 88 [.int .i64 0, .int .i64 0, .nils], .vec 2 178 20 z.1.2.1.2 (RPL.flat (keepR now (L.take z.1.1) ++ L.drop z.1.1)), .vec 3 40 11 z.1.2.2.2 (IL.flat (firstR (lateR now (L.take z.1.1))))]⟩) (fun z => L.length - z.1.1) ⟨(0, (pl, cap), (.nil, 0)), Nat.zero_le _, by simpa [keepR] using hc, Nat.zero_le _, hpl⟩ ?_ ?_
  · refine Le.of rfl ⟨⟨_, rfl, rfl⟩, ⟨_, rfl, rfl⟩, ⟨_, rfl, rfl⟩, ⟨_, rfl, rfl⟩, ⟨_, rfl, rfl⟩, trivial⟩ (fun h k => sat_pick 1 rfl (by first | exact fun _ k => k | exact fun _ k => blk_to rfl rfl k | exact fun _ k => vec_to rfl k | exact fun _ k => blk_of rfl rfl k | exact fun _ k => vec_of rfl k | exact fun _ k => blk_of rfl rfl (blk_to rfl rfl k) | exact fun _ k => vec_of rfl (vec_to rfl k) | exact fun _ k => mp_to rfl k | exact fun _ k => mp_of rfl k | exact fun _ k => mp_of rfl (mp_to rfl k)) (fun h k => sat_pick 0 rfl (by first | exact fun _ k => k | exact fun _ k => blk_to rfl rfl k | exact fun _ k => vec_to rfl k | exact fun _ k => blk_of rfl rfl k | exact fun _ k => vec_of rfl k | exact fun _ k => blk_of rfl rfl (blk_to rfl rfl k) | exact fun _ k => vec_of rfl (vec_to rfl k) | exact fun _ k => mp_to rfl k | exact fun _ k => mp_of rfl k | exact fun _ k => mp_of rfl (mp_to rfl k)) (fun h k => sat_pick 0 rfl (by first | exact fun _ k => k | exact fun _ k => blk_to rfl rfl k | exact fun _ k => vec_to rfl k | exact fun _ k => blk_of rfl rfl k | exact fun _ k => vec_of rfl k | exact fun _ k => blk_of rfl rfl (blk_to rfl rfl k) | exact fun _ k => vec_of rfl (vec_to rfl k) | exact fun _ k => mp_to rfl k | exact fun _ k => mp_of rfl k | exact fun _ k => mp_of rfl (mp_to rfl k)) (fun h k => sat_add (vec_of rfl vec_emp) ((fun h k => sat_nil k) h k)) k) k) k)
  rintro ⟨⟨i, ⟨pl, cap⟩, ⟨po, co⟩⟩, hi, hcp, hco, hpl⟩
  simp only at hi hcp hco hpl
  have hK0 : (keepR now (L.take i)).length ≤ i := Nat.le_trans (List.length_filter_le _ _) (by rw [List.length_take]; omega)
  have hF0 : (firstR (lateR now (L.take i))).length ≤ i := Nat.le_trans (List.length_filterMap_le _ _) (Nat.le_trans (List.length_filter_le _ _) (by rw [List.length_take]; omega))
  have hCl : (keepR now (L.take i) ++ L.drop i).length = (keepR now (L.take i)).length + (L.length - i) := by rw [List.length_append, List.length_drop]
  refine CondOb.split (fun g => ?_) (fun g => ?_)
  rotate_left
  · have g : ¬ ((keepR now (L.take i)).length : Int) < (keepR now (L.take i) ++ L.drop i).length := of_decide_eq_false g
    rw [hCl] at g
    obtain rfl : i = L.length := by omega
    have e1 : keepR now (L.take L.length) ++ L.drop L.length = keepR now L := by rw [List.take_length, List.drop_length, List.append_nil]
    have e2 : firstR (lateR now (L.take L.length)) = firstR (lateR now L) := by rw [List.take_length]
    rw [e1] at hcp
    rw [e2] at hco
    exact FinOb.mk [.agg #[.int .i64 most, .int .i64 life, .slice (locAddr 0 pl) (keepR now L).length cap], .slice (locAddr 0 po) (firstR (lateR now L)).length co] [Vec pl 178 20 cap (RPL.flat (keepR now L)), Vec po 40 11 co (IL.flat (firstR (lateR now L)))] (by rw [← e1, ← e2]; rfl) (fun h k => sat_pick 2 rfl (fun _ k9 => vec_cast (congrArg RPL.flat e1) (vec_to (l := pl) rfl k9)) (fun h k => sat_pick 2 rfl (fun _ k9 => vec_cast (congrArg IL.flat e2) (vec_to (l := po) rfl k9)) (fun h k => sat_nil k) k) k) ⟨pl, cap, po, co, rfl, hcp, hco, rfl⟩
  have g : ((keepR now (L.take i)).length : Int) < (keepR now (L.take i) ++ L.drop i).length := of_decide_eq_true g
  rw [hCl] at g
  have gi : i < L.length := by omega
  have hx := List.getElem?_eq_getElem gi
  generalize L[i] = x at hx
  have hdr : L.drop i = x :: L.drop (i + 1) := by
    obtain ⟨h1, h2⟩ := List.getElem?_eq_some_iff.1 hx
    rw [List.drop_eq_getElem_cons h1, h2]
  have hCx : (keepR now (L.take i) ++ L.drop i)[(keepR now (L.take i)).length]? = some x := by rw [List.getElem?_append_right (Nat.le_refl _), hdr]; simp
  have hk1 := keepR_take now L hx
  have hf1 := firstR_take now L hx
  have nb : (0 : Int) ≤ ((keepR now (L.take i)).length : Int) ∧ ((keepR now (L.take i)).length : Int) < ((keepR now (L.take i) ++ L.drop i).length : Nat) := by rw [hCl]; omega
  have eK : IntKind.i64.wrap (((keepR now (L.take i)).length : Int) + 1) = (((keepR now (L.take i)).length + 1 : Nat) : Int) := by rw [w64 (by omega) (by omega)]; omega
  obtain ⟨pb, pn, rfl⟩ := hpl (fun e => by rw [e] at hCx; cases hCx)
  refine Need.mk nb ?_
  refine RdOb.mk (.int .i64 x.till) _ rfl (by rw [Int.toNat_natCast, Nat.zero_add]; exact RPL.flat_at hCx (j := 19) rfl) ?_
  refine CondOb.split (fun g2 => ?_) (fun g2 => ?_)
  · have g2 : x.till > now := of_decide_eq_true g2
    rw [if_pos (by omega)] at hk1 hf1
    have e1 : keepR now (L.take i) ++ L.drop i = keepR now (L.take (i + 1)) ++ L.drop (i + 1) := by rw [hk1, hdr]; simp
    have e2 : firstR (lateR now (L.take i)) = firstR (lateR now (L.take (i + 1))) := by rw [hf1, List.append_nil]
    have e3 : (keepR now (L.take i)).length + 1 = (keepR now (L.take (i + 1))).length := by rw [hk1]; simp
    refine ⟨⟨(i + 1, (.at pb pn, cap), (po, co)), gi, by rw [← e1]; exact hcp, by rw [← e2]; exact hco, fun _ => ⟨pb, pn, rfl⟩⟩, by show L.length - (i + 1) < L.length - i; omega, Le.of rfl ⟨⟨_, rfl, rfl⟩, ⟨_, rfl, rfl⟩, ⟨_, rfl, rfl⟩, ⟨_, rfl, (congrArg (fun z : List Ip => some (Value.slice (locAddr 0 po) z.length co)) e2)⟩, ⟨_, rfl, (by show some (Value.int .i64 (IntKind.i64.wrap (((keepR now (L.take i)).length : Int) + 1))) = some (Value.int .i64 (((keepR now (L.take (i + 1))).length : Nat) : Int)); rw [eK, e3])⟩, trivial⟩ (fun h k => sat_pick 0 rfl (fun _ k9 => by exact blk_of rfl rfl (blk_to (b := b2) rfl rfl (blk_cast (congrArg (fun z : List RP => [SV.int .i64 most, .int .i64 life, .sl 2 0 z.length cap]) e1) k9))) (fun h k => sat_pick 0 rfl (by first | exact fun _ k => k | exact fun _ k => blk_to rfl rfl k | exact fun _ k => vec_to rfl k | exact fun _ k => blk_of rfl rfl k | exact fun _ k => vec_of rfl k | exact fun _ k => blk_of rfl rfl (blk_to rfl rfl k) | exact fun _ k => vec_of rfl (vec_to rfl k) | exact fun _ k => mp_to rfl k | exact fun _ k => mp_of rfl k | exact fun _ k => mp_of rfl (mp_to rfl k)) (fun h k => sat_pick 0 rfl (fun _ k9 => by exact vec_of rfl (vec_cast (congrArg RPL.flat e1) (vec_to (l := .at pb pn) rfl k9))) (fun h k => sat_pick 0 rfl (fun _ k9 => by exact vec_of rfl (vec_cast (congrArg IL.flat e2) (vec_to (l := po) rfl k9))) (fun h k => sat_nil k) k) k) k) k)⟩
  have g2 : ¬ x.till > now := of_decide_eq_false g2
  rw [if_neg (by omega)] at hk1 hf1
  refine Need.mk nb ?_
  refine RdOb.mk (.bool x.fi.isSome) _ rfl (by rw [Int.toNat_natCast, Nat.zero_add]; exact RPL.flat_at hCx (j := 7) rfl) ?_
  refine CondOb.join { z : (Plc × Nat) // (firstR (lateR now (L.take (i + 1)))).length ≤ z.2 } (fun z => ⟨43, [(1, .int .i64 now), (2, .ptr 0 0), (4, .ptr 1 0), (6, .sl 3 0 (firstR (lateR now (L.take (i + 1)))).length z.1.2), (7, .int .i64 (keepR now (L.take i)).length)], [(0, .at b2 0), (1, .at b4 0), (2, .at pb pn), (3, z.1.1)], 4, [.blk 0 88 [.int .i64 most, .int .i64 life, .sl 2 0 (keepR now (L.take i) ++ L.drop i).length cap], .blk 1 88 [.int .i64 0, .int .i64 0, .nils], .vec 2 178 20 cap (RPL.flat (keepR now (L.take i) ++ L.drop i)), .vec 3 40 11 z.1.2 (IL.flat (firstR (lateR now (L.take (i + 1)))))]⟩) (fun g3 => ?_) (fun g3 => ?_) (fun z => ?_)
  · obtain ⟨y, hy⟩ : ∃ y, x.fi = some y := Option.isSome_iff_exists.1 g3
    rw [hy] at hf1
    refine Need.mk nb ?_
    refine RdObL.mk y.svs (by decide) (by show 0 + ((keepR now (L.take i)).length : Int).toNat * 20 + 8 + 11 ≤ (RPL.flat (keepR now (L.take i) ++ L.drop i)).length; rw [lRPL, hCl, Int.toNat_natCast]; omega) (by rw [Int.toNat_natCast, Nat.zero_add]; exact (congrArg some (first_cells hCx hy)).symm) ?_
    intro b36
    have hlF : (IL.flat (firstR (lateR now (L.take i)))).length = (firstR (lateR now (L.take i))).length * 11 := lIL _
    refine StOb.mk (IL.cells y) rfl (Need.mk rfl ?_)
    refine Need.mk ⟨by dsimp only; omega, by dsimp only; omega, hco⟩ ?_
    refine Need.mk ⟨by dsimp only; omega, by dsimp only; simp only [maxLen]; omega, IL.one _⟩ ?_
    refine NewSl.pos (Nat.succ_pos _) (fun b8 o8 c8 hc8 => ?_)
    have e2 : List.take ((firstR (lateR now (L.take i))).length * 11) (List.drop 0 (IL.flat (firstR (lateR now (L.take i))))) ++ IL.cells y = IL.flat (firstR (lateR now (L.take (i + 1)))) := by
      rw [List.drop_zero, List.take_of_length_le (by omega), hf1, IL.flat_append]
      exact congrArg _ (IL.flat_one y).symm
    have e3 : (firstR (lateR now (L.take i))).length + 1 = (firstR (lateR now (L.take (i + 1)))).length := by rw [hf1]; simp
    exact ⟨⟨(.at b8 o8, c8), by rw [← e3]; exact hc8⟩, Le.of rfl ⟨⟨_, rfl, rfl⟩, ⟨_, rfl, rfl⟩, ⟨_, rfl, rfl⟩, ⟨_, rfl, (congrArg (fun z => some (Value.slice (some ⟨b8, o8 + 0, none⟩) z c8)) e3)⟩, ⟨_, rfl, rfl⟩, trivial⟩ (fun h k => sat_pick 2 rfl (by first | exact fun _ k => k | exact fun _ k => blk_to rfl rfl k | exact fun _ k => vec_to rfl k | exact fun _ k => blk_of rfl rfl k | exact fun _ k => vec_of rfl k | exact fun _ k => blk_of rfl rfl (blk_to rfl rfl k) | exact fun _ k => vec_of rfl (vec_to rfl k) | exact fun _ k => mp_to rfl k | exact fun _ k => mp_of rfl k | exact fun _ k => mp_of rfl (mp_to rfl k)) (fun h k => sat_pick 2 rfl (by first | exact fun _ k => k | exact fun _ k => blk_to rfl rfl k | exact fun _ k => vec_to rfl k | exact fun _ k => blk_of rfl rfl k | exact fun _ k => vec_of rfl k | exact fun _ k => blk_of rfl rfl (blk_to rfl rfl k) | exact fun _ k => vec_of rfl (vec_to rfl k) | exact fun _ k => mp_to rfl k | exact fun _ k => mp_of rfl k | exact fun _ k => mp_of rfl (mp_to rfl k)) (fun h k => sat_pick 2 rfl (by first | exact fun _ k => k | exact fun _ k => blk_to rfl rfl k | exact fun _ k => vec_to rfl k | exact fun _ k => blk_of rfl rfl k | exact fun _ k => vec_of rfl k | exact fun _ k => blk_of rfl rfl (blk_to rfl rfl k) | exact fun _ k => vec_of rfl (vec_to rfl k) | exact fun _ k => mp_to rfl k | exact fun _ k => mp_of rfl k | exact fun _ k => mp_of rfl (mp_to rfl k)) (fun h k => sat_pick 0 rfl (fun _ k9 => by exact vec_of rfl (vec_cast e2 (vec_to (l := .at b8 o8) rfl k9))) (fun h k => sat_nil k) k) k) k) k)⟩
  · have hn : x.fi = none := by simpa using g3
    rw [hn] at hf1
    have e2 : firstR (lateR now (L.take i)) = firstR (lateR now (L.take (i + 1))) := by rw [hf1]; simp
    exact ⟨⟨(po, co), by rw [← e2]; exact hco⟩, Le.of rfl ⟨⟨_, rfl, rfl⟩, ⟨_, rfl, rfl⟩, ⟨_, rfl, rfl⟩, ⟨_, rfl, (congrArg (fun z : List Ip => some (Value.slice (locAddr 0 po) z.length co)) e2)⟩, ⟨_, rfl, rfl⟩, trivial⟩ (fun h k => sat_pick 0 rfl (by first | exact fun _ k => k | exact fun _ k => blk_to rfl rfl k | exact fun _ k => vec_to rfl k | exact fun _ k => blk_of rfl rfl k | exact fun _ k => vec_of rfl k | exact fun _ k => blk_of rfl rfl (blk_to rfl rfl k) | exact fun _ k => vec_of rfl (vec_to rfl k) | exact fun _ k => mp_to rfl k | exact fun _ k => mp_of rfl k | exact fun _ k => mp_of rfl (mp_to rfl k)) (fun h k => sat_pick 0 rfl (by first | exact fun _ k => k | exact fun _ k => blk_to rfl rfl k | exact fun _ k => vec_to rfl k | exact fun _ k => blk_of rfl rfl k | exact fun _ k => vec_of rfl k | exact fun _ k => blk_of rfl rfl (blk_to rfl rfl k) | exact fun _ k => vec_of rfl (vec_to rfl k) | exact fun _ k => mp_to rfl k | exact fun _ k => mp_of rfl k | exact fun _ k => mp_of rfl (mp_to rfl k)) (fun h k => sat_pick 0 rfl (by first | exact fun _ k => k | exact fun _ k => blk_to rfl rfl k | exact fun _ k => vec_to rfl k | exact fun _ k => blk_of rfl rfl k | exact fun _ k => vec_of rfl k | exact fun _ k => blk_of rfl rfl (blk_to rfl rfl k) | exact fun _ k => vec_of rfl (vec_to rfl k) | exact fun _ k => mp_to rfl k | exact fun _ k => mp_of rfl k | exact fun _ k => mp_of rfl (mp_to rfl k)) (fun h k => sat_pick 0 rfl (fun _ k9 => by exact vec_of rfl (vec_cast (congrArg IL.flat e2) (vec_to (l := po) rfl k9))) (fun h k => sat_nil k) k) k) k) k)⟩
  obtain ⟨⟨po, co⟩, hco⟩ := z
  simp only at hco
  refine call_ix (without2_spec most life (locAddr 0 (.at pb pn)) cap (keepR now (L.take i) ++ L.drop i) hcp (by omega) (keepR now (L.take i)).length (by omega)) rfl [] (fun h k => k) (fun f' b' hs kb => ?_) ?_
  · obtain ⟨z, hz, kz⟩ := sat_sub (n := 2) (A := Vec (.at pb pn) 178 20 cap (RPL.flat (keepR now (L.take i) ++ L.drop i))) rfl (via (fun h k => k) (fun h k => sat_pick 0 rfl (by first | exact fun _ k => k | exact fun _ k => blk_to rfl rfl k | exact fun _ k => vec_to rfl k | exact fun _ k => blk_of rfl rfl k | exact fun _ k => vec_of rfl k | exact fun _ k => blk_of rfl rfl (blk_to rfl rfl k) | exact fun _ k => vec_of rfl (vec_to rfl k) | exact fun _ k => mp_to rfl k | exact fun _ k => mp_of rfl k | exact fun _ k => mp_of rfl (mp_to rfl k)) (fun h k => sat_pick 0 rfl (by first | exact fun _ k => k | exact fun _ k => blk_to rfl rfl k | exact fun _ k => vec_to rfl k | exact fun _ k => blk_of rfl rfl k | exact fun _ k => vec_of rfl k | exact fun _ k => blk_of rfl rfl (blk_to rfl rfl k) | exact fun _ k => vec_of rfl (vec_to rfl k) | exact fun _ k => mp_to rfl k | exact fun _ k => mp_of rfl k | exact fun _ k => mp_of rfl (mp_to rfl k)) (fun h k => sat_pick 0 rfl (fun _ k9 => vec_to (l := .at pb pn) rfl k9) (fun h k => sat_pick 0 rfl (by first | exact fun _ k => k | exact fun _ k => blk_to rfl rfl k | exact fun _ k => vec_to rfl k | exact fun _ k => blk_of rfl rfl k | exact fun _ k => vec_of rfl k | exact fun _ k => blk_of rfl rfl (blk_to rfl rfl k) | exact fun _ k => vec_of rfl (vec_to rfl k) | exact fun _ k => mp_to rfl k | exact fun _ k => mp_of rfl k | exact fun _ k => mp_of rfl (mp_to rfl k)) (fun h k => sat_nil k) k) k) k) k) _ kb)
    exact rd_sub (fun r q hq => hs.get (hz r q hq)) (vec_reads' kz)
  rintro v post ⟨pl2, c2, rfl, h1, h2, rfl⟩
  have e1 : (keepR now (L.take i) ++ L.drop i).take (keepR now (L.take i)).length ++ (keepR now (L.take i) ++ L.drop i).drop ((keepR now (L.take i)).length + 1) = keepR now (L.take (i + 1)) ++ L.drop (i + 1) := by
    rw [hk1, List.append_nil, List.take_left' rfl, hdr, show (keepR now (L.take i)).length + 1 = (keepR now (L.take i)).length + 1 from rfl, List.drop_append, List.drop_of_length_le (Nat.le_succ _)]
    simp
  have e4 : (keepR now (L.take i) ++ L.drop i).length - 1 = (keepR now (L.take (i + 1)) ++ L.drop (i + 1)).length := by
    rw [hCl, hk1, List.append_nil, List.length_append, List.length_drop]; omega
  have e5 : (keepR now (L.take i)).length = (keepR now (L.take (i + 1))).length := by rw [hk1, List.append_nil]
  rw [e1] at h2
  rw [e4] at h1
  refine ⟨.agg [.int .i64 most, .int .i64 life, .sl 4 0 ((keepR now (L.take i) ++ L.drop i).length - 1) c2], (4, pl2) :: _, 5, [.vec 4 178 20 c2 (RPL.flat (keepR now (L.take (i + 1)) ++ L.drop (i + 1)))], NmExt.push rfl, rfl, (fun h k => sat_pick 0 rfl (fun _ k9 => by exact vec_of rfl (vec_cast (congrArg RPL.flat e1) k9)) (fun h k => sat_nil k) k), ?_⟩
  exact ⟨⟨(i + 1, (pl2, c2), (po, co)), gi, h1, hco, h2⟩, by show L.length - (i + 1) < L.length - i; omega, Le.of rfl ⟨⟨_, rfl, rfl⟩, ⟨_, rfl, rfl⟩, ⟨_, rfl, rfl⟩, ⟨_, rfl, rfl⟩, ⟨_, rfl, (congrArg (fun z : Nat => some (Value.int .i64 z)) e5)⟩, trivial⟩ (fun h k => sat_pick 0 rfl (fun _ k9 => by exact blk_of rfl rfl (blk_to (b := b2) rfl rfl (blk_cast (congrArg (fun z : Nat => [SV.int .i64 most, .int .i64 life, .sl 4 0 z c2]) e4) k9))) (fun h k => sat_pick 1 rfl (by first | exact fun _ k => k | exact fun _ k => blk_to rfl rfl k | exact fun _ k => vec_to rfl k | exact fun _ k => blk_of rfl rfl k | exact fun _ k => vec_of rfl k | exact fun _ k => blk_of rfl rfl (blk_to rfl rfl k) | exact fun _ k => vec_of rfl (vec_to rfl k) | exact fun _ k => mp_to rfl k | exact fun _ k => mp_of rfl k | exact fun _ k => mp_of rfl (mp_to rfl k)) (fun h k => sat_pick 0 rfl (by first | exact fun _ k => k | exact fun _ k => blk_to rfl rfl k | exact fun _ k => vec_to rfl k | exact fun _ k => blk_of rfl rfl k | exact fun _ k => vec_of rfl k | exact fun _ k => blk_of rfl rfl (blk_to rfl rfl k) | exact fun _ k => vec_of rfl (vec_to rfl k) | exact fun _ k => mp_to rfl k | exact fun _ k => mp_of rfl k | exact fun _ k => mp_of rfl (mp_to rfl k)) (fun h k => sat_pick 1 rfl (by first | exact fun _ k => k | exact fun _ k => blk_to rfl rfl k | exact fun _ k => vec_to rfl k | exact fun _ k => blk_of rfl rfl k | exact fun _ k => vec_of rfl k | exact fun _ k => blk_of rfl rfl (blk_to rfl rfl k) | exact fun _ k => vec_of rfl (vec_to rfl k) | exact fun _ k => mp_to rfl k | exact fun _ k => mp_of rfl k | exact fun _ k => mp_of rfl (mp_to rfl k)) (fun h k => sat_nil k) k) k) k) k)⟩
theorem rexpire_spec (most life : Int) (pl : Plc) (cap : Nat) (L : List RP) (hc : L.length ≤ cap) (hL : L.length ≤ 1000) (now : Int) :
    Does Try.prog 47 #[.agg #[.int .i64 most, .int .i64 life, .slice (locAddr 0 pl) L.length cap], .int .i64 now] (fun f => True) [Vec pl 178 20 cap (RPL.flat L)]
      (fun v q => ∃ p1 c1 p2 c2, v = .tuple #[.agg #[.int .i64 most, .int .i64 life, .slice (locAddr 0 p1) (keepR now L).length c1], .slice (locAddr 0 p2) (firstR (lateR now L)).length c2] ∧ (keepR now L).length ≤ c1 ∧ (firstR (lateR now L)).length ≤ c2 ∧ q = [Vec p1 178 20 c1 (RPL.flat (keepR now L)), Vec p2 40 11 c2 (IL.flat (firstR (lateR now L)))]) := by
  refine Does.presure (φ := L ≠ [] → ∃ b o, pl = .at b o) Try.call47 ?_ (fun h => rexpire1_spec most life pl cap L hc hL now h)
  rintro h ⟨x, _, _, hx, _⟩ e
  exact vec_at (flat_ne e) hx
end Go.Proofs.Ytiknkeakielncaa.Rs
