/- audit: the reference reads marks. Conditions: none. -/
import Derived.Test.YtlgdagjbphafcaaAuE
namespace Go.Proofs.Ytlgdagjbphafcaa.Au
open Go Go.Proofs Sx
set_option maxRecDepth 100000
set_option linter.unusedVariables false
set_option linter.unusedSimpArgs false
set_option maxHeartbeats 4000000

structure RInv (ms : List M) (i : Nat) (l : List X) (pl : Plc) (cp : Nat) : Prop where
  le : i ≤ ms.length
  run : run [] (ms.take i) = some l
  wf : WF l
  len : l.length ≤ i
  cap : l.length ≤ cp
  at_ : l ≠ [] → ∃ b o, pl = .at b o
theorem read_spec (A : Option Addr) (cp : Nat) (ms : List M) (hok : ∀ m ∈ ms, m.Ok) (hl : ms.length ≤ 10000) :
    Does Try.prog 84 #[.slice A ms.length cp] (fun f => Reads f A (ML.flat ms)) [] (fun v p => ∃ u, v = .tuple #[u, .bool (run [] ms).isSome] ∧ p = []) := by
  refine Does.ofJ Try.func84 Try.call84 rfl [.raw (.slice A ms.length cp)] [] 0 [] rfl rfl (fun h k => k) (fun f hR => ?_)
  refine LoopOb.mk { z : Nat × List X × Plc × Nat // RInv ms z.1 z.2.1 z.2.2.1 z.2.2.2 } (fun z => ⟨107, [(0, .raw (.slice A ms.length cp)), (4, .sl 0 0 z.1.2.1.length z.1.2.2.2), (5, .int .i64 z.1.1)], [(0, z.1.2.2.1)], 1, [.vec 0 189 20 z.1.2.2.2 (XL.flat z.1.2.1)]⟩) (fun z => ms.length - z.1.1)
    ⟨(0, [], .nil, 0), ⟨by omega, rfl, wf_nil, by simp, by simp, fun h => absurd rfl h⟩⟩ ?_ ?_
  · exact Le.of rfl ⟨⟨_, rfl, rfl⟩, ⟨_, rfl, rfl⟩, ⟨_, rfl, rfl⟩, trivial⟩ (fun h k => sat_add (vec_of rfl vec_emp) ((fun h k => sat_nil k) h k))
  rintro ⟨⟨i, l, pl, cl⟩, I⟩
  simp only at I
  refine CondOb.split (fun g => ?_) (fun g => ?_)
  rotate_left
  · simp only [decide_eq_false_iff_not] at g
    replace g : ¬ (i : Int) < ms.length := g
    have hrun := I.run
    have hle := I.le
    rw [List.take_of_length_le (by omega)] at hrun
    exact FinOb.mk _ [] rfl (fun h k => trivial) ⟨_, by rw [hrun]; rfl, rfl⟩
  simp only [decide_eq_true_eq] at g
  replace g : (i : Int) < ms.length := g
  have hx := List.getElem?_eq_getElem (show i < ms.length by omega)
  have hmo := hok _ (List.getElem_mem (show i < ms.length by omega))
  generalize ms[i]'(by omega) = m at hx hmo
  obtain ⟨b, o, hA, hc⟩ := hR.lay (by decide) hx
  have hn : 0 ≤ (i : Int) ∧ (i : Int) < ms.length := by omega
  have ei : IntKind.i64.wrap ((i : Int) + 1) = ((i + 1 : Nat) : Int) := by rw [w64 (by omega) (by omega)]; omega
  have hlen := I.len
  have hcap := I.cap
  have hll : l.length ≤ 10000 := by omega
  have hu := I.wf.uq
  have hqs := I.wf.qs
  refine Need.mk hn (RawAt.mk b o hA ?_)
  refine RdF.mk m.svs m.vals rfl rfl (fun j v hj => hc j v hj) ?_
  intro b1
  refine CondOb.split (fun g3 => ?_) (fun g3 => ?_)
  · have g3 : m.what = 3 := by simpa using g3
    have e : step l m = some l := by unfold step; rw [if_pos g3]
    have I2 : RInv ms (i + 1) l pl cl := ⟨by omega, by rw [run_take hx I.run]; exact e, I.wf, by omega, I.cap, I.at_⟩
    exact ⟨⟨(i + 1, l, pl, cl), I2⟩, by show ms.length - (i + 1) < ms.length - i; omega, Le.of rfl ⟨⟨_, rfl, rfl⟩, ⟨_, rfl, rfl⟩, ⟨_, rfl, congrArg (fun z => some (Value.int .i64 z)) ei⟩, trivial⟩ (fun h k => sat_pick 1 rfl (by first | exact fun _ k => k | exact fun _ k => blk_to rfl rfl k | exact fun _ k => vec_to rfl k | exact fun _ k => blk_of rfl rfl k | exact fun _ k => vec_of rfl k | exact fun _ k => blk_of rfl rfl (blk_to rfl rfl k) | exact fun _ k => vec_of rfl (vec_to rfl k) | exact fun _ k => mp_to rfl k | exact fun _ k => mp_of rfl k | exact fun _ k => mp_of rfl (mp_to rfl k)) (fun h k => sat_nil k) k)⟩
  have g3 : ¬ m.what = 3 := by simpa using g3
  refine CondOb.split (fun g0 => ?_) (fun g0 => ?_)
  · have g0 : m.what = 0 := by simpa using g0
    have es : step l m = took l m := by unfold step; rw [if_neg g3, if_pos g0]
    refine call_ix (rtook_spec (locAddr 0 pl) cl l m (by omega) hu hqs) rfl [] (fun h k => k) (fun f' b' hs kk => vec_reads 1 hs kk rfl rfl) ?_
    rintro v post hpost
    cases ht : took l m with
    | none =>
      rw [ht] at hpost es
      obtain ⟨rfl, rfl⟩ := hpost
      refine ⟨.tuple [.raw (.slice (locAddr 0 pl) l.length cl), .ff], _, 2, [], NmExt.refl _, rfl, fun h k => trivial, ?_⟩
      have e : run [] ms = none := by
        refine run_take_none (i := i + 1) ?_
        rw [run_take hx I.run]
        exact es
      exact FinOb.mk _ [] rfl (fun h k => trivial) ⟨_, by rw [e]; rfl, rfl⟩
    | some l' =>
      rw [ht] at hpost es
      obtain ⟨b9, o9, c9, rfl, hc9, rfl⟩ := hpost
      refine ⟨.tuple [.sl 2 0 l'.length c9, .tt], (2, .at b9 o9) :: _, 3, [.vec 2 189 20 c9 (XL.flat l')], NmExt.push rfl, rfl, (fun h k => sat_pick 0 rfl (by first | exact fun _ k => k | exact fun _ k => blk_to rfl rfl k | exact fun _ k => vec_to rfl k | exact fun _ k => blk_of rfl rfl k | exact fun _ k => vec_of rfl k | exact fun _ k => blk_of rfl rfl (blk_to rfl rfl k) | exact fun _ k => vec_of rfl (vec_to rfl k) | exact fun _ k => mp_to rfl k | exact fun _ k => mp_of rfl k | exact fun _ k => mp_of rfl (mp_to rfl k)) (fun h k => sat_nil k) k), ?_⟩
      have I2 : RInv ms (i + 1) l' (.at b9 o9) c9 := ⟨by omega, by rw [run_take hx I.run]; exact es, (I.wf.step hmo es).1, by have := (I.wf.step hmo es).2; omega, hc9, fun _ => ⟨_, _, rfl⟩⟩
      exact ⟨⟨(i + 1, l', .at b9 o9, c9), I2⟩, by show ms.length - (i + 1) < ms.length - i; omega, Le.of rfl ⟨⟨_, rfl, rfl⟩, ⟨_, rfl, rfl⟩, ⟨_, rfl, congrArg (fun z => some (Value.int .i64 z)) ei⟩, trivial⟩ (fun h k => sat_pick 0 rfl (by first | exact fun _ k => k | exact fun _ k => blk_to rfl rfl k | exact fun _ k => vec_to rfl k | exact fun _ k => blk_of rfl rfl k | exact fun _ k => vec_of rfl k | exact fun _ k => blk_of rfl rfl (blk_to rfl rfl k) | exact fun _ k => vec_of rfl (vec_to rfl k) | exact fun _ k => mp_to rfl k | exact fun _ k => mp_of rfl k | exact fun _ k => mp_of rfl (mp_to rfl k)) (fun h k => sat_nil k) k)⟩
  have g0 : ¬ m.what = 0 := by simpa using g0
  refine call_ix (find_spec (locAddr 0 pl) cl l m (by omega)) rfl [] (fun h k => k) (fun f' b' hs kk => vec_reads 1 hs kk rfl rfl) ?_
  rintro v post ⟨r, rfl, hr, rfl⟩
  refine ⟨.int .i64 r, _, 2, [], NmExt.refl _, rfl, fun h k => trivial, ?_⟩
  rcases hr.ix hu with ⟨rfl, hix⟩ | ⟨j, x, rfl, hj, hh, hix⟩
  · refine CondOb.split (fun _ => ?_) (fun h => absurd h (by decide))
    have es : step l m = none := by unfold step; rw [if_neg g3, if_neg g0, hix]
    have e : run [] ms = none := by
      refine run_take_none (i := i + 1) ?_
      rw [run_take hx I.run]
      exact es
    exact FinOb.mk _ [] rfl (fun h k => trivial) ⟨_, by rw [e]; rfl, rfl⟩
  refine CondOb.split (fun h => absurd h (by simp)) (fun _ => ?_)
  have hjl := (List.getElem?_eq_some_iff.1 hj).1
  have htk := I.wf.ticket (List.mem_of_getElem? hj)
  refine CondOb.split (fun g2 => ?_) (fun g2 => ?_)
  · have g2 : m.what = 2 := by simpa using g2
    have es : step l m = (doneX l m x).map (fun y => l.set j y) := by unfold step; rw [if_neg g3, if_neg g0, hix]; simp only [hj]; rw [if_pos g2]
    refine call_ix (rdone_spec (locAddr 0 pl) cl l m j x hj (by omega) hu hqs hmo htk.1 (by omega)) rfl [] (fun h k => k) (fun f' b' hs kk => vec_reads 1 hs kk rfl rfl) ?_
    rintro v post hpost
    cases ht : doneX l m x with
    | none =>
      rw [ht] at hpost es
      obtain ⟨rfl, rfl⟩ := hpost
      refine ⟨.tuple [.raw (.slice (locAddr 0 pl) l.length cl), .ff], _, 2, [], NmExt.refl _, rfl, fun h k => trivial, ?_⟩
      have e : run [] ms = none := by
        refine run_take_none (i := i + 1) ?_
        rw [run_take hx I.run]
        exact es
      exact FinOb.mk _ [] rfl (fun h k => trivial) ⟨_, by rw [e]; rfl, rfl⟩
    | some y =>
      rw [ht] at hpost es
      obtain ⟨b9, o9, c9, rfl, hc9, rfl⟩ := hpost
      replace es : step l m = some (l.set j y) := es
      have hsl : (l.set j y).length = l.length := List.length_set
      refine ⟨.tuple [.sl 2 0 l.length c9, .tt], (2, .at b9 o9) :: _, 3, [.vec 2 189 20 c9 (XL.flat (l.set j y))], NmExt.push rfl, rfl, (fun h k => sat_pick 0 rfl (by first | exact fun _ k => k | exact fun _ k => blk_to rfl rfl k | exact fun _ k => vec_to rfl k | exact fun _ k => blk_of rfl rfl k | exact fun _ k => vec_of rfl k | exact fun _ k => blk_of rfl rfl (blk_to rfl rfl k) | exact fun _ k => vec_of rfl (vec_to rfl k) | exact fun _ k => mp_to rfl k | exact fun _ k => mp_of rfl k | exact fun _ k => mp_of rfl (mp_to rfl k)) (fun h k => sat_nil k) k), ?_⟩
      have I2 : RInv ms (i + 1) (l.set j y) (.at b9 o9) c9 := ⟨by omega, by rw [run_take hx I.run]; exact es, (I.wf.step hmo es).1, by have := (I.wf.step hmo es).2; omega, by rw [hsl]; exact hc9, fun _ => ⟨_, _, rfl⟩⟩
      refine ⟨⟨(i + 1, l.set j y, .at b9 o9, c9), I2⟩, by show ms.length - (i + 1) < ms.length - i; omega, Le.of rfl ⟨⟨_, rfl, rfl⟩, ⟨_, rfl, ?_⟩, ⟨_, rfl, congrArg (fun z => some (Value.int .i64 z)) ei⟩, trivial⟩ (fun h k => sat_pick 0 rfl (by first | exact fun _ k => k | exact fun _ k => blk_to rfl rfl k | exact fun _ k => vec_to rfl k | exact fun _ k => blk_of rfl rfl k | exact fun _ k => vec_of rfl k | exact fun _ k => blk_of rfl rfl (blk_to rfl rfl k) | exact fun _ k => vec_of rfl (vec_to rfl k) | exact fun _ k => mp_to rfl k | exact fun _ k => mp_of rfl k | exact fun _ k => mp_of rfl (mp_to rfl k)) (fun h k => sat_nil k) k)⟩
      show some (Value.slice (some ⟨b9, o9, none⟩) l.length c9) = some (Value.slice (some ⟨b9, o9, none⟩) (l.set j y).length c9)
      rw [hsl]
  have g2 : ¬ m.what = 2 := by simpa using g2
  have es : step l m = if badD l m x then none else some (l.set j { x with did := IntKind.i64.wrap (x.did + 1) }) := by unfold step; rw [if_neg g3, if_neg g0, hix]; simp only [hj]; rw [if_neg g2]
  obtain ⟨bp, op, rfl⟩ := I.at_ (fun h => by subst h; simp at hjl)
  have hnj : 0 ≤ (j : Int) ∧ (j : Int) < l.length := by omega
  have ej : (j : Int).toNat = j := by omega
  have hget : ((XL.flat l).drop (0 + (j : Int).toNat * 20)).take 20 = x.vals := by rw [Nat.zero_add, ej]; exact XL.flat_get hj
  have hqx := hqs x (List.mem_of_getElem? hj)
  refine Need.mk hnj ?_
  refine RdObL.mk x.svs (by decide) (by show 0 + (j : Int).toNat * 20 + 20 ≤ (XL.flat l).length; rw [lX, ej]; omega) ((show _ = _ from rfl).trans (congrArg some hget.symm)) ?_
  intro b2
  refine RegOb.join Unit (fun _ => ⟨107, [(0, .raw (.slice A ms.length cp)), (4, .sl 0 0 l.length cl), (5, .int .i64 i), (9, .int .i64 j), (12, .ptr 2 0), (93, .bool (badD l m x))], [(2, .at b2 0), (1, .at b1 0), (0, .at bp op)], 3, [.blk 2 189 x.svs, .blk 1 141 m.svs, .vec 0 189 20 cl (XL.flat l)]⟩) ?_ (fun _ => ?_)
  · refine Br.mk (fun h1 => ?_) (fun h1 => ?_)
    · refine ⟨(), Le.of rfl ⟨⟨_, rfl, rfl⟩, ⟨_, rfl, rfl⟩, ⟨_, rfl, rfl⟩, ⟨_, rfl, rfl⟩, ⟨_, rfl, rfl⟩, ⟨_, rfl, (congrArg (fun x => some (Value.bool x)) ?_)⟩, trivial⟩ (fun h k => k)⟩
      simp_all [badD]
    refine Br.mk (fun h2 => ?_) (fun h2 => ?_)
    · refine ⟨(), Le.of rfl ⟨⟨_, rfl, rfl⟩, ⟨_, rfl, rfl⟩, ⟨_, rfl, rfl⟩, ⟨_, rfl, rfl⟩, ⟨_, rfl, rfl⟩, ⟨_, rfl, (congrArg (fun x => some (Value.bool x)) ?_)⟩, trivial⟩ (fun h k => k)⟩
      simp_all [badD]
    refine useR (.bool (began l x)) (began_spec (locAddr 0 (.at bp op)) cl l x (by omega) htk.1 (by omega) hu hqs) rfl (fun f' b' hs kk => vec_reads 2 hs kk rfl rfl) rfl ?_
    refine Br.mk (fun h3 => ?_) (fun h3 => ?_)
    · refine ⟨(), Le.of rfl ⟨⟨_, rfl, rfl⟩, ⟨_, rfl, rfl⟩, ⟨_, rfl, rfl⟩, ⟨_, rfl, rfl⟩, ⟨_, rfl, rfl⟩, ⟨_, rfl, (congrArg (fun x => some (Value.bool x)) ?_)⟩, trivial⟩ (fun h k => k)⟩
      simp_all [badD]
    refine useP (.int .i64 (if okQ x.q then 0 else 260)) (rcheck_spec x.q hqx) rfl rfl ?_
    cases hok9 : okQ x.q with
    | false =>
      refine Br.mk (fun h4 => ?_) (fun h4 => absurd h4 (by decide))
      refine ⟨(), Le.of rfl ⟨⟨_, rfl, rfl⟩, ⟨_, rfl, rfl⟩, ⟨_, rfl, rfl⟩, ⟨_, rfl, rfl⟩, ⟨_, rfl, rfl⟩, ⟨_, rfl, (congrArg (fun x => some (Value.bool x)) ?_)⟩, trivial⟩ (fun h k => k)⟩
      simp_all [badD]
    | true =>
      refine Br.mk (fun h4 => absurd h4 (by decide)) (fun h4 => ?_)
      refine Br.mk (fun h5 => ?_) (fun h5 => ?_)
      · refine ⟨(), Le.of rfl ⟨⟨_, rfl, rfl⟩, ⟨_, rfl, rfl⟩, ⟨_, rfl, rfl⟩, ⟨_, rfl, rfl⟩, ⟨_, rfl, rfl⟩, ⟨_, rfl, (congrArg (fun x => some (Value.bool x)) ?_)⟩, trivial⟩ (fun h k => k)⟩
        simp_all [badD]
      refine ⟨(), Le.of rfl ⟨⟨_, rfl, rfl⟩, ⟨_, rfl, rfl⟩, ⟨_, rfl, rfl⟩, ⟨_, rfl, rfl⟩, ⟨_, rfl, rfl⟩, ⟨_, rfl, (congrArg (fun x => some (Value.bool x)) ?_)⟩, trivial⟩ (fun h k => k)⟩
      simp_all [badD]
  refine CondOb.split (fun gD => ?_) (fun gD => ?_)
  · rw [if_pos gD] at es
    have e : run [] ms = none := by
      refine run_take_none (i := i + 1) ?_
      rw [run_take hx I.run]
      exact es
    exact FinOb.mk _ [] rfl (fun h k => trivial) ⟨_, by rw [e]; rfl, rfl⟩
  rw [if_neg (by rw [gD]; decide)] at es
  intro c1
  refine Need.mk (by rw [lX]; omega) ?_
  refine StOb.mk [] rfl (Need.mk (by simp) (Need.mk ⟨by omega, by simp only [maxLen]; omega, ?_⟩ ?_))
  · intro v hv
    exact XL.flat_one' l v (List.mem_of_mem_drop (List.mem_of_mem_take hv))
  refine NewSl.pos (by omega) (fun b6 o6 c6 hc6 => ?_)
  refine Need.mk (by omega) ?_
  have e8 : List.take (0 * 20) (List.drop 0 []) ++ List.take (l.length * 20) (List.drop 0 (XL.flat l)) = XL.flat l := by
    rw [Nat.zero_mul, List.take_zero, List.nil_append, List.drop_zero, List.take_of_length_le (by rw [lX]; omega)]
  generalize hy : ({ x with did := IntKind.i64.wrap (x.did + 1) } : X) = y at es
  refine StOb.mk y.vals (by rw [← hy]; rfl) (Need.mk ?_ ?_)
  · show 0 + (j : Int).toNat * 20 + y.vals.length ≤ (List.take (0 * 20) (List.drop 0 []) ++ List.take (l.length * 20) (List.drop 0 (XL.flat l))).length
    rw [e8, lX, ej]
    show 0 + j * 20 + 20 ≤ _
    omega
  have hsl : (l.set j y).length = l.length := List.length_set
  have I2 : RInv ms (i + 1) (l.set j y) (.at b6 o6) c6 := ⟨by omega, by rw [run_take hx I.run]; exact es, (I.wf.step hmo es).1, by have := (I.wf.step hmo es).2; omega, by rw [hsl]; omega, fun _ => ⟨_, _, rfl⟩⟩
  refine ⟨⟨(i + 1, l.set j y, .at b6 o6, c6), I2⟩, by show ms.length - (i + 1) < ms.length - i; omega, Le.of rfl ⟨⟨_, rfl, rfl⟩, ⟨_, rfl, ?_⟩, ⟨_, rfl, congrArg (fun z => some (Value.int .i64 z)) ei⟩, trivial⟩ (fun h k => sat_pick 0 rfl (fun _ k => ?_) (fun h k => sat_nil k) k)⟩
  · show some (Value.slice (some ⟨b6, o6, none⟩) (0 + l.length) c6) = some (Value.slice (some ⟨b6, o6, none⟩) (l.set j y).length c6)
    rw [hsl, Nat.zero_add]
  have k := vec_to (l := .at b6 o6) rfl k
  refine vec_of rfl ?_
  have e7 : putV (List.take (0 * 20) (List.drop 0 []) ++ List.take (l.length * 20) (List.drop 0 (XL.flat l))) (0 + (j : Int).toNat * 20) y.vals = XL.flat (l.set j y) := by
    rw [e8, Nat.zero_add, ej]
    exact XL.flat_set hjl
  rw [e7] at k
  exact k
/-- The reference's Check: the first mark that may not be. -/
def firstBad (ms : List M) : Nat → Option Nat
  | 0 => none
  | n + 1 => match firstBad ms n with
    | some i => some i
    | none => if (run [] (ms.take (n + 1))).isSome then none else some n
theorem firstBad_mono {ms : List M} {n i : Nat} (h : firstBad ms n = some i) : ∀ {k : Nat}, n ≤ k → firstBad ms k = some i := by
  intro k hk
  induction k with
  | zero => rw [show n = 0 by omega] at h; exact h
  | succ k ih =>
    by_cases e : n = k + 1
    · rw [← e]; exact h
    · have := ih (by omega)
      show (match firstBad ms k with | some i => some i | none => _) = _
      rw [this]
theorem rcheck2_spec (A : Option Addr) (cp : Nat) (ms : List M) (hok : ∀ m ∈ ms, m.Ok) (hl : ms.length ≤ 10000) (hcp : ms.length ≤ cp) :
    Does Try.prog 39 #[.slice A ms.length cp] (fun f => Reads f A (ML.flat ms)) [] (fun v p => (v = match firstBad ms ms.length with
      | some i => .tuple #[.int .i64 i, .bool false]
      | none => .tuple #[.int .i64 ms.length, .bool true]) ∧ p = []) := by
  refine Does.ofJ Try.func39 Try.call39 rfl [.raw (.slice A ms.length cp)] [] 0 [] rfl rfl (fun h k => k) (fun f hR => ?_)
  refine LoopOb.mk { n : Nat // 1 ≤ n ∧ n ≤ ms.length + 1 ∧ firstBad ms (n - 1) = none } (fun z => ⟨26, [(0, .raw (.slice A ms.length cp)), (4, .int .i64 z.1)], [], 0, []⟩) (fun z => ms.length + 1 - z.1) ⟨1, by omega, by omega, rfl⟩ ?_ ?_
  · exact Le.of rfl ⟨⟨_, rfl, rfl⟩, ⟨_, rfl, rfl⟩, trivial⟩ (fun h k => k)
  rintro ⟨n, h1, h2, hb⟩
  refine CondOb.split (fun g => ?_) (fun g => ?_)
  rotate_left
  · simp only [decide_eq_false_iff_not] at g
    replace g : ¬ (n : Int) ≤ ms.length := g
    have en : n - 1 = ms.length := by omega
    rw [en] at hb
    rw [hb]
    exact FinOb.mk _ [] rfl (fun h k => trivial) ⟨rfl, rfl⟩
  simp only [decide_eq_true_eq] at g
  replace g : (n : Int) ≤ ms.length := g
  refine Need.mk ⟨Int.natCast_nonneg n, by show (n : Int) ≤ cp; omega⟩ ?_
  have hlt : (ms.take n).length = n := by rw [List.length_take]; omega
  have hrd := read_spec A cp (ms.take n) (fun m hm => hok m (List.mem_of_mem_take hm)) (by omega)
  rw [hlt] at hrd
  refine call_ix hrd rfl [] (fun h k => k) (fun f' b' hs _ => Reads.frame hs (by
    have := hR.take (n * 23)
    rw [show n * 23 = n * ML.sz from rfl, ML.flat_take] at this
    exact this)) ?_
  rintro v post ⟨u, rfl, rfl⟩
  refine ⟨.tuple [.raw u, .bool (run [] (ms.take n)).isSome], _, 0, [], NmExt.refl _, rfl, fun h k => trivial, ?_⟩
  have en : n - 1 + 1 = n := by omega
  have ew : IntKind.i64.wrap ((n : Int) - 1) = ((n - 1 : Nat) : Int) := by rw [w64 (by omega) (by omega)]; omega
  have ei : IntKind.i64.wrap ((n : Int) + 1) = ((n + 1 : Nat) : Int) := by rw [w64 (by omega) (by omega)]; omega
  have hfb : firstBad ms (n - 1 + 1) = if (run [] (ms.take (n - 1 + 1))).isSome then none else some (n - 1) := by simp only [firstBad, hb]
  rw [en] at hfb
  refine CondOb.split (fun g2 => ?_) (fun g2 => ?_)
  · have g2 : (run [] (ms.take n)).isSome = false := by simpa using g2
    rw [if_neg (by rw [g2]; decide)] at hfb
    have hall : firstBad ms ms.length = some (n - 1) := firstBad_mono hfb (by omega)
    refine FinOb.mk _ [] rfl (fun h k => trivial) ⟨?_, rfl⟩
    rw [hall]
    show Value.tuple #[.int .i64 (IntKind.i64.wrap ((n : Int) - 1)), .bool false] = _
    rw [ew]
  · have g2 : (run [] (ms.take n)).isSome = true := by simpa using g2
    rw [if_pos g2] at hfb
    exact ⟨⟨n + 1, by omega, by omega, by rw [show n + 1 - 1 = n from rfl]; exact hfb⟩, by show ms.length + 1 - (n + 1) < ms.length + 1 - n; omega, Le.of rfl ⟨⟨_, rfl, rfl⟩, ⟨_, rfl, congrArg (fun z => some (Value.int .i64 z)) ei⟩, trivial⟩ (fun h k => k)⟩
end Go.Proofs.Ytlgdagjbphafcaa.Au
