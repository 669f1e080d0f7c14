/- The reference of chain: Tell. Conditions: none. -/
import Derived.Test.YtlgdagjbphafcaaChQ
namespace Go.Proofs.Ytlgdagjbphafcaa.Ch
open Go Go.Proofs Sx
set_option maxRecDepth 100000
set_option linter.unusedVariables false
set_option maxHeartbeats 2000000

theorem vec_eq {nm : List (Nat × Plc)} {n : Nat} {t : TypeId} {sz c : Nat} {xs ys : List Value} {h : HP} (e : xs = ys) (k : entDen nm (.vec n t sz c xs) h) : entDen nm (.vec n t sz c ys) h := e ▸ k
theorem flat_part {α : Type} (e : Lay α) {l : List α} {i : Nat} {a a' : α} (h : l[i]? = some a) (j : Nat) {vs : List Value} (hj : j + vs.length ≤ e.sz) (hv : putV (e.cells a) j vs = e.cells a') : putV (e.flat l) (i * e.sz + j) vs = e.flat (l.set i a') := by
  have hi := (List.getElem?_eq_some_iff.1 h).1
  have e1 : e.flat l = e.flat (l.take i) ++ (e.cells a ++ e.flat (l.drop (i + 1))) := by rw [← e.flat_drop h, ← e.flat_split]
  have hlen : i * e.sz = (e.flat (l.take i)).length := by rw [e.flat_length]; simp [Nat.min_eq_left (Nat.le_of_lt hi)]
  rw [e1, hlen, putV_pre, putV_post _ _ _ _ (by rw [e.len]; exact hj), hv, List.set_eq_take_append_cons_drop, if_pos hi, e.flat_append, e.flat_cons]
def rtold (l : List Int) (es : List RO) : List RO := es.map fun e => if e.id ∈ l then { e with told := true } else e
def rtell (x : RB) : RB := ⟨rtold x.ready x.l, [], x.last, x.has⟩
theorem rtold_ids (l : List Int) (es : List RO) : (rtold l es).map RO.id = es.map RO.id := by
  simp only [rtold, List.map_map]
  refine List.map_congr_left fun e _ => ?_
  simp only [Function.comp]; split <;> rfl
theorem rtold_step {l : List Int} {n : Int} {es : List RO} {i : Nat} {e : RO} (hn : (es.map RO.id).Nodup) (h : (rtold l es)[i]? = some e) (he : e.id = n) : (rtold l es).set i { e with told := true } = rtold (l ++ [n]) es := by
  have hi := (List.getElem?_eq_some_iff.1 h).1
  have hi' : i < es.length := by simpa [rtold] using hi
  have h0 := h
  rw [rtold, List.getElem?_map, List.getElem?_eq_getElem hi'] at h0
  simp only [Option.map_some, Option.some.injEq] at h0
  have hid : es[i].id = n := by rw [← he, ← h0]; split <;> rfl
  refine List.ext_getElem? fun j => ?_
  rw [List.getElem?_set]
  by_cases hj : i = j
  · subst hj
    rw [if_pos rfl, if_pos hi, rtold, List.getElem?_map, List.getElem?_eq_getElem hi']
    simp only [Option.map_some, Option.some.injEq]
    rw [if_pos (by simp [hid]), ← h0]
    split <;> rfl
  · rw [if_neg hj, rtold, rtold, List.getElem?_map, List.getElem?_map]
    by_cases hl : j < es.length
    · rw [List.getElem?_eq_getElem hl]
      simp only [Option.map_some, Option.some.injEq]
      have hne : es[j].id ≠ n := fun e2 => by
        have h1 : (es.map RO.id)[j]? = some n := by rw [List.getElem?_map, List.getElem?_eq_getElem hl]; simp [e2]
        have h2 : (es.map RO.id)[i]? = some n := by rw [List.getElem?_map, List.getElem?_eq_getElem hi']; simp [hid]
        exact hj ((List.getElem?_inj (by rw [List.length_map]; exact hi') hn).1 (h2.trans h1.symm))
      simp [hne]
    · rw [List.getElem?_eq_none (by omega)]; rfl
theorem rtell_spec (x : RB) (A : Option Addr) (c : Nat) (D : Option Addr) (d : Nat) (hl : x.l.length ≤ 1000000) (hr : x.ready.length ≤ 1000000) (hn : (x.l.map RO.id).Nodup) (hsub : ∀ n ∈ x.ready, n ∈ x.l.map RO.id) :
    Does Try.prog 70 #[.agg (x.vals A c D d).toArray] (fun f => Reads f A (O.flat x.l) ∧ Reads f D (I.flat x.ready)) []
      (fun v q => ∃ p c', v = .tuple #[.agg ((rtell x).vals (locAddr 0 p) c' none 0).toArray, .slice D x.ready.length d] ∧ (rtell x).l.length ≤ c' ∧ q = [Vec p 179 5 c' (O.flat (rtell x).l)]) := by
  refine Does.of Try.func70 Try.call70 rfl [.agg (x.svs A c D d)] [] 0 [] rfl rfl (fun h k => k) (fun f hR => ?_)
  obtain ⟨hL, hD⟩ := hR
  intro b1 b2 b3
  refine SrcF.mk (O.flat x.l) (lO _) hL ?_
  refine StOb.mk [] rfl (Need.mk (by simp) (Need.mk ⟨by omega, by simp only [maxLen]; omega, O.flat_one' _⟩ ?_))
  refine NewSl.sure (fun p c' hp hc' => ?_)
  have hc' : x.l.length ≤ c' := by omega
  have lR : ∀ l, (rtold l x.l).length = x.l.length := fun l => by simp [rtold]
  refine LoopOb.mk { i : Nat // i ≤ x.ready.length } (fun z => ⟨35, [(1, .ptr 0 0), (2, .ptr 1 0), (3, .nils), (4, .int .i64 z.1)], [(3, p), (1, .at b2 0), (0, .at b1 0)], 4, [.blk 0 116 [.sl 3 0 x.l.length c', .raw (.slice D x.ready.length d), .int .i64 x.last, .bool x.has], .blk 1 116 [.nils, .nils, .int .i64 0, .ff],   .vec 3 179 5 c' (O.flat (rtold (x.ready.take z.1) x.l))]⟩) (fun z => x.ready.length - z.1) ⟨0, by omega⟩ ?_ ?_
  · refine Le.of rfl ⟨⟨_, rfl, rfl⟩, ⟨_, rfl, rfl⟩, ⟨_, rfl, rfl⟩, ⟨_, rfl, rfl⟩, trivial⟩ (fun h k => sat_pick 0 rfl (fun _ k => ?_) (fun h k => sat_pick 1 rfl (by first | exact fun _ k => k | exact fun _ k => blk_to rfl rfl k | exact fun _ k => vec_to rfl k | exact fun _ k => blk_of rfl rfl k | exact fun _ k => vec_of rfl k | exact fun _ k => blk_of rfl rfl (blk_to rfl rfl k) | exact fun _ k => vec_of rfl (vec_to rfl k) | exact fun _ k => mp_to rfl k | exact fun _ k => mp_of rfl k | exact fun _ k => mp_of rfl (mp_to rfl k)) (fun h k => sat_pick 0 rfl (fun _ k => ?_) (fun h k => sat_nil k) k) k) k)
    · have k := blk_to (b := b1) (vs := [.slice (locAddr 0 p) (0 + x.l.length) c', .slice D x.ready.length d, .int .i64 x.last, .bool x.has]) rfl rfl k
      rw [Nat.zero_add] at k
      exact blk_of rfl rfl k
    · have k := vec_to (l := p) rfl k
      refine vec_of rfl ?_
      have e : rtold (x.ready.take 0) x.l = x.l := by simp [rtold]
      simp only [e]
      exact k
  rintro ⟨i, hi⟩
  refine CondOb.split (fun g => ?_) (fun g => ?_)
  rotate_left
  · simp only [decide_eq_false_iff_not] at g
    replace g : ¬ (i : Int) < x.ready.length := g
    have ei : i = x.ready.length := by omega
    subst ei
    refine FinOb.mk [.agg #[.slice (locAddr 0 p) x.l.length c', .slice none 0 0, .int .i64 x.last, .bool x.has], .slice D x.ready.length d] [Vec p 179 5 c' (O.flat (rtell x).l)] rfl (fun h k => sat_pick 2 rfl (fun _ k => ?_) (fun h k => sat_nil k) k) ⟨p, c', by simp [rtell, RB.vals, lR, ret1], by simp [rtell, lR]; exact hc', rfl⟩
    have k := vec_to (l := p) rfl k
    rw [List.take_length] at k
    exact k
  simp only [decide_eq_true_eq] at g
  replace g : (i : Int) < x.ready.length := g
  have hq := List.getElem?_eq_getElem (show i < x.ready.length by omega)
  have hq' := hsub _ (List.getElem_mem (show i < x.ready.length by omega))
  generalize x.ready[i]'(by omega) = n at *
  obtain ⟨ba, o, rfl, hf⟩ := hD.lay (by decide) hq
  have ei : IntKind.i64.wrap ((i : Int) + 1) = ((i + 1 : Nat) : Int) := by rw [w64 (by omega) (by omega)]; omega
  rw [← rtold_ids (x.ready.take i)] at hq'
  obtain ⟨e, he, hid⟩ := List.mem_map.1 hq'
  cases hj : (rtold (x.ready.take i) x.l).findIdx? (fun e => e.id == n) with
  | none =>
    rw [List.findIdx?_eq_none_iff] at hj
    have := hj e he
    rw [hid] at this; simp at this
  | some j =>
    obtain ⟨h2, e', h3, h4⟩ := plc_some hj
    have hlt := (List.getElem?_eq_some_iff.1 h3).1
    refine DrawOb.mk [(9, [0, 1])] (.run [0, 1, 2, 3, 4, 5, 6, 7, 8, 9, 10, 11, 12] .nil) (by kernel_rfl) ?_
    refine Need.mk ⟨Int.natCast_nonneg i, g⟩ (RawAt.mk ba o rfl ?_)
    refine RdRaw.mk (.int .i64 n) _ rfl (by simpa [ints] using hf 0 _ rfl) ?_
    have spec := rplace_spec (rtold (x.ready.take i) x.l) (locAddr 0 p) c' n (by rw [lR]; omega)
    rw [lR, h2] at spec
    refine useR (.int .i64 j) spec rfl (fun f' b' hs hk => vec_reads 2 hs hk rfl (l := p) rfl) rfl ?_
    obtain ⟨bp, op, rfl⟩ := hp (by rw [lR] at hlt; omega)
    refine Need.mk rfl ?_
    refine Need.mk ⟨Int.natCast_nonneg j, by rw [lR] at hlt; omega⟩ ?_
    refine StOb.mk [.bool true] rfl (Need.mk (by rw [lO, lR]; rw [lR] at hlt; simp; omega) ?_)
    refine ⟨⟨i + 1, by omega⟩, ?_, Le.of rfl ⟨⟨_, rfl, rfl⟩, ⟨_, rfl, rfl⟩, ⟨_, rfl, rfl⟩, ⟨_, rfl, congrArg (fun z => some (Value.int .i64 z)) ei⟩, trivial⟩ (fun h k => sat_pick 1 rfl (by first | exact fun _ k => k | exact fun _ k => blk_to rfl rfl k | exact fun _ k => vec_to rfl k | exact fun _ k => blk_of rfl rfl k | exact fun _ k => vec_of rfl k | exact fun _ k => blk_of rfl rfl (blk_to rfl rfl k) | exact fun _ k => vec_of rfl (vec_to rfl k) | exact fun _ k => mp_to rfl k | exact fun _ k => mp_of rfl k | exact fun _ k => mp_of rfl (mp_to rfl k)) (fun h k => sat_pick 1 rfl (by first | exact fun _ k => k | exact fun _ k => blk_to rfl rfl k | exact fun _ k => vec_to rfl k | exact fun _ k => blk_of rfl rfl k | exact fun _ k => vec_of rfl k | exact fun _ k => blk_of rfl rfl (blk_to rfl rfl k) | exact fun _ k => vec_of rfl (vec_to rfl k) | exact fun _ k => mp_to rfl k | exact fun _ k => mp_of rfl k | exact fun _ k => mp_of rfl (mp_to rfl k)) (fun h k => sat_pick 0 rfl (fun _ k => vec_eq ?_ k) (fun h k => sat_nil k) k) k) k)⟩
    · show x.ready.length - (i + 1) < x.ready.length - i
      omega
    · have e4 : x.ready.take (i + 1) = x.ready.take i ++ [n] := by rw [List.take_add_one, hq]; rfl
      rw [e4, ← rtold_step hn h3 (by simpa using h4)]
      have := flat_part O (a' := { e' with told := true }) h3 4 (vs := [.bool true]) (by show _ ≤ 5; simp) rfl
      rw [← this]
      show putV _ (0 + j * 5 + 4) _ = putV _ (j * 5 + 4) _
      rw [Nat.zero_add]
end Go.Proofs.Ytlgdagjbphafcaa.Ch
