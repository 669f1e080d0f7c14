/- audit: the reference takes an entry. Conditions: none. -/
import Derived.Test.YtlgdagjbphafcaaAuB
namespace Go.Proofs.Ytlgdagjbphafcaa.Au
open Go Go.Proofs Sx
set_option maxRecDepth 100000
set_option linter.unusedVariables false
set_option linter.unusedSimpArgs false
set_option maxHeartbeats 4000000

def placed (h c : Int) (x : X) : Bool := x.host == h && x.ctx == c
def count (l : List X) (h c : Int) : Nat := l.countP (placed h c)
def X.new (m : M) (tied : Bool) : X := { host := m.host, ctx := m.ctx, ticket := m.ticket, q := m.q, tied := tied }
def took (l : List X) (m : M) : Option (List X) :=
  if m.ticket = count l m.host m.ctx then
    if 0 < m.n then match look l m.host m.ctx (m.ticket - 1) with
      | none => none
      | some k => some (l ++ [X.new m (decide (0 < k.q.fl % 4))])
    else some (l ++ [X.new m false])
  else none
theorem count_take {l : List X} {i : Nat} {x : X} (h c : Int) (hx : l[i]? = some x) : (l.take (i + 1)).countP (placed h c) = (l.take i).countP (placed h c) + if placed h c x then 1 else 0 := by
  rw [List.take_add_one, hx, List.countP_append]
  simp [List.countP_singleton]
theorem flat_new (l : List X) (x : X) : List.take ((0 + l.length) * 20) (List.drop 0 (List.take (0 * 20) (List.drop 0 []) ++ XL.flat l)) ++ XL.cells x = XL.flat (l ++ [x]) := by
  rw [Nat.zero_add, Nat.zero_mul, List.take_zero, List.nil_append, List.drop_zero, List.take_of_length_le (by rw [lX]; omega)]
  simp only [XL.flat_append, XL.flat_one]
theorem rtook_spec (A : Option Addr) (cp : Nat) (l : List X) (m : M) (hl : l.length ≤ 100000) (hu : Uq l) (hq : ∀ x ∈ l, x.q.Ok) :
    Does Try.prog 106 #[.slice A l.length cp, .agg m.vals.toArray] (fun f => Reads f A (XL.flat l)) [] (fun v p => match took l m with
      | none => v = .tuple #[.slice A l.length cp, .bool false] ∧ p = []
      | some l' => ∃ b9 o9 c : Nat, v = .tuple #[.slice (some ⟨b9, o9, none⟩) l'.length c, .bool true] ∧ l'.length ≤ c ∧ p = [Vec (.at b9 o9) 189 20 c (XL.flat l')]) := by
  refine Does.ofJ Try.func106 Try.call106 rfl [.raw (.slice A l.length cp), .agg m.svs] [] 0 [] rfl rfl (fun h k => k) (fun f hR => ?_)
  intro b1
  have hcle : ∀ i, (l.take i).countP (placed m.host m.ctx) ≤ 100000 := fun i => by
    have h1 := List.countP_le_length (p := placed m.host m.ctx) (l := l.take i)
    have h2 := List.length_take_le i l
    have h3 : (l.take i).length ≤ l.length := by rw [List.length_take]; omega
    omega
  refine LoopOb.mk { k : Nat // k ≤ l.length } (fun z => ⟨81, [(0, .raw (.slice A l.length cp)), (3, .ptr 0 0), (6, .int .i64 ((l.take z.1).countP (placed m.host m.ctx) : Nat)), (7, .int .i64 z.1)], [(0, .at b1 0)], 1, [.blk 0 141 m.svs]⟩) (fun z => l.length - z.1) ⟨0, by omega⟩ ?_ ?_
  · exact Le.of rfl ⟨⟨_, rfl, rfl⟩, ⟨_, rfl, rfl⟩, ⟨_, rfl, rfl⟩, ⟨_, rfl, rfl⟩, trivial⟩ (fun h k => k)
  rintro ⟨i, hi⟩
  refine CondOb.split (fun g => ?_) (fun g => ?_)
  · simp only [decide_eq_true_eq] at g
    replace g : (i : Int) < l.length := g
    have hx := List.getElem?_eq_getElem (show i < l.length by omega)
    generalize l[i]'(by omega) = x at hx
    obtain ⟨b, o, hA, hc⟩ := hR.lay (by decide) hx
    have hn : 0 ≤ (i : Int) ∧ (i : Int) < l.length := by omega
    have ei : IntKind.i64.wrap ((i : Int) + 1) = ((i + 1 : Nat) : Int) := by rw [w64 (by omega) (by omega)]; omega
    have hct := count_take m.host m.ctx hx
    have hci := hcle i
    refine RegOb.join Unit (fun _ => ⟨81, [(0, .raw (.slice A l.length cp)), (3, .ptr 0 0), (6, .int .i64 ((l.take i).countP (placed m.host m.ctx) : Nat)), (7, .int .i64 i), (33, .bool (placed m.host m.ctx x))], [(0, .at b1 0)], 1, [.blk 0 141 m.svs]⟩) ?_ (fun _ => ?_)
    · refine DrawOb.mk [] (.run [0, 1, 2, 3, 4, 5, 6, 7, 8, 9, 10, 11, 12, 13, 14, 15, 16, 17] .nil) (by kernel_rfl) ?_
      refine Need.mk hn (RawAt.mk b o hA ?_)
      refine RdRaw.mk (.int .i64 x.host) _ rfl (hc 0 _ rfl) ?_
      refine Br.mk (fun h1 => ?_) (fun h1 => ?_)
      rotate_left
      · exact ⟨(), Le.of rfl ⟨⟨_, rfl, rfl⟩, ⟨_, rfl, rfl⟩, ⟨_, rfl, rfl⟩, ⟨_, rfl, rfl⟩, ⟨_, rfl, (congrArg (fun x => some (Value.bool x)) (by simp only [placed, h1, Bool.false_and]))⟩, trivial⟩ (fun h k => k)⟩
      refine Need.mk hn (RawAt.mk b o hA ?_)
      refine RdRaw.mk (.int .i64 x.ctx) _ rfl (hc 1 _ rfl) ?_
      exact ⟨(), Le.of rfl ⟨⟨_, rfl, rfl⟩, ⟨_, rfl, rfl⟩, ⟨_, rfl, rfl⟩, ⟨_, rfl, rfl⟩, ⟨_, rfl, (congrArg (fun x => some (Value.bool x)) (by simp only [placed, h1, Bool.true_and]))⟩, trivial⟩ (fun h k => k)⟩
    refine CondOb.split (fun gp => ?_) (fun gp => ?_)
    · rw [if_pos gp] at hct
      exact ⟨⟨i + 1, by omega⟩, by show l.length - (i + 1) < l.length - i; omega, Le.of rfl ⟨⟨_, rfl, rfl⟩, ⟨_, rfl, rfl⟩, ⟨_, rfl, congrArg (fun z => some (Value.int .i64 z)) (by rw [hct, w64 (by omega) (by omega)]; omega)⟩, ⟨_, rfl, congrArg (fun z => some (Value.int .i64 z)) ei⟩, trivial⟩ (fun h k => k)⟩
    · rw [if_neg (by rw [gp]; decide)] at hct
      exact ⟨⟨i + 1, by omega⟩, by show l.length - (i + 1) < l.length - i; omega, Le.of rfl ⟨⟨_, rfl, rfl⟩, ⟨_, rfl, rfl⟩, ⟨_, rfl, congrArg (fun z => some (Value.int .i64 z)) (by rw [hct]; rfl)⟩, ⟨_, rfl, congrArg (fun z => some (Value.int .i64 z)) ei⟩, trivial⟩ (fun h k => k)⟩
  simp only [decide_eq_false_iff_not] at g
  replace g : ¬ (i : Int) < l.length := g
  have ei : i = l.length := by omega
  subst ei
  have hcl := hcle l.length
  rw [List.take_length] at hcl
  have hcn : (l.take l.length).countP (placed m.host m.ctx) = count l m.host m.ctx := by rw [List.take_length]; rfl
  refine CondOb.split (fun g1 => ?_) (fun g1 => ?_)
  · have g1 : ¬ m.ticket = count l m.host m.ctx := by rw [← hcn]; simpa using g1
    have e : took l m = none := by unfold took; rw [if_neg g1]
    rw [e]
    exact FinOb.mk _ [] rfl (fun h k => trivial) ⟨rfl, rfl⟩
  have g1 : m.ticket = count l m.host m.ctx := by rw [← hcn]; simpa using g1
  have hcnt : count l m.host m.ctx ≤ 100000 := hcl
  intro b2
  refine CondOb.split (fun g2 => ?_) (fun g2 => ?_)
  rotate_left
  · have g2 : ¬ 0 < m.n := by simpa using g2
    have e : took l m = some (l ++ [X.new m false]) := by unfold took; rw [if_pos g1, if_neg g2]
    rw [e]
    refine DrawOb.mk [(0, [1, 3]), (2, [3]), (4, [1])] (.run [1, 3] (.two 0 (.run [] (.two 2 (.run [4, 5, 6, 7] .nil) 4 (.run [2, 5, 6, 7] .nil))) 4 (.run [0, 2, 5, 6, 7] .nil))) (by kernel_rfl) ?_
    refine ⟨?_, ?_⟩
    · intro c1
      refine Need.mk rfl ?_
      refine ⟨?_, ?_⟩
      · refine SrcF.mk (XL.flat l) (lX _) hR ?_
        refine StOb.mk [] rfl (Need.mk (by simp) (Need.mk ⟨by omega, by simp only [maxLen]; omega, XL.flat_one' _⟩ ?_))
        refine NewSl.any (fun l2 c2 hc2 => ?_)
        refine Need.mk rfl ?_
        intro c3
        refine StOb.mk (XL.cells (X.new m false)) rfl (Need.mk rfl ?_)
        refine Need.mk ⟨by simp [lX], by omega, by omega⟩ ?_
        refine Need.mk ⟨by omega, by simp only [maxLen]; omega, XL.one _⟩ ?_
        refine NewSl.pos (by omega) (fun b6 o6 c6 hc6 => ?_)
        refine FinOb.mk [.slice (some ⟨b6, o6, none⟩) (0 + l.length + 1) c6, .bool true] [Vec (.at b6 o6) 189 20 c6 (XL.flat (l ++ [X.new m false]))] rfl (fun h k => sat_pick 0 rfl (fun _ k9 => ?_) (fun h k => sat_nil k) k) ⟨b6, o6, c6, by simp [ret1], by simp; omega, rfl⟩
        have kk := vec_to (l := .at b6 o6) rfl k9
        rw [flat_new l (X.new m false)] at kk
        exact kk
      · intro c3
        refine SrcF.mk (XL.flat l) (lX _) hR ?_
        refine StOb.mk [] rfl (Need.mk (by simp) (Need.mk ⟨by omega, by simp only [maxLen]; omega, XL.flat_one' _⟩ ?_))
        refine NewSl.any (fun l2 c2 hc2 => ?_)
        refine Need.mk rfl ?_
        refine StOb.mk (XL.cells (X.new m false)) rfl (Need.mk rfl ?_)
        refine Need.mk ⟨by simp [lX], by omega, by omega⟩ ?_
        refine Need.mk ⟨by omega, by simp only [maxLen]; omega, XL.one _⟩ ?_
        refine NewSl.pos (by omega) (fun b6 o6 c6 hc6 => ?_)
        refine FinOb.mk [.slice (some ⟨b6, o6, none⟩) (0 + l.length + 1) c6, .bool true] [Vec (.at b6 o6) 189 20 c6 (XL.flat (l ++ [X.new m false]))] rfl (fun h k => sat_pick 0 rfl (fun _ k9 => ?_) (fun h k => sat_nil k) k) ⟨b6, o6, c6, by simp [ret1], by simp; omega, rfl⟩
        have kk := vec_to (l := .at b6 o6) rfl k9
        rw [flat_new l (X.new m false)] at kk
        exact kk
    · intro c3
      intro c1
      refine Need.mk rfl ?_
      refine SrcF.mk (XL.flat l) (lX _) hR ?_
      refine StOb.mk [] rfl (Need.mk (by simp) (Need.mk ⟨by omega, by simp only [maxLen]; omega, XL.flat_one' _⟩ ?_))
      refine NewSl.any (fun l2 c2 hc2 => ?_)
      refine Need.mk rfl ?_
      refine StOb.mk (XL.cells (X.new m false)) rfl (Need.mk rfl ?_)
      refine Need.mk ⟨by simp [lX], by omega, by omega⟩ ?_
      refine Need.mk ⟨by omega, by simp only [maxLen]; omega, XL.one _⟩ ?_
      refine NewSl.pos (by omega) (fun b6 o6 c6 hc6 => ?_)
      refine FinOb.mk [.slice (some ⟨b6, o6, none⟩) (0 + l.length + 1) c6, .bool true] [Vec (.at b6 o6) 189 20 c6 (XL.flat (l ++ [X.new m false]))] rfl (fun h k => sat_pick 0 rfl (fun _ k9 => ?_) (fun h k => sat_nil k) k) ⟨b6, o6, c6, by simp [ret1], by simp; omega, rfl⟩
      have kk := vec_to (l := .at b6 o6) rfl k9
      rw [flat_new l (X.new m false)] at kk
      exact kk
  have g2 : 0 < m.n := by simpa using g2
  have ew : IntKind.i64.wrap (m.ticket - 1) = m.ticket - 1 := w64 (by omega) (by omega)
  refine call_ix (find_spec A cp l (M.at m.host m.ctx (IntKind.i64.wrap (m.ticket - 1))) (by omega)) rfl [] (fun h k => k) (fun f' b' hs _ => hR.frame hs) ?_
  rintro v post ⟨r, rfl, hr, rfl⟩
  refine ⟨.int .i64 r, _, 2, [], NmExt.refl _, rfl, fun h k => trivial, ?_⟩
  rw [ew] at hr
  replace hr : FindR l m.host m.ctx (m.ticket - 1) r := hr
  rcases hr with ⟨rfl, hr⟩ | ⟨j, kx, rfl, hj, hh⟩
  · refine CondOb.split (fun _ => ?_) (fun h => absurd h (by decide))
    have e : took l m = none := by unfold took; rw [if_pos g1, if_pos g2, look_none hr]
    rw [e]
    exact FinOb.mk _ [] rfl (fun h k => trivial) ⟨rfl, rfl⟩
  refine CondOb.split (fun h => absurd h (by simp)) (fun _ => ?_)
  have hjl := (List.getElem?_eq_some_iff.1 hj).1
  have hqk := hq kx (List.mem_of_getElem? hj)
  obtain ⟨b, o, hA, hc⟩ := hR.lay (by decide) hj
  have hn : 0 ≤ (j : Int) ∧ (j : Int) < l.length := by omega
  have e4 : kx.q.fl.tmod 4 = kx.q.fl % 4 := Int.tmod_eq_emod_of_nonneg hqk.fl0
  have e : took l m = some (l ++ [X.new m (decide (kx.q.fl.tmod 4 > 0))]) := by unfold took; rw [if_pos g1, if_pos g2, look_of hu hj hh, e4]
  refine Need.mk hn (RawAt.mk b o hA ?_)
  refine RdRaw.mk (.int .u8 kx.q.fl) _ rfl (hc 4 _ rfl) ?_
  refine Need.mk (by decide) ?_
  rw [e]
  refine DrawOb.mk [(0, [1, 3]), (2, [3]), (4, [1])] (.run [1, 3] (.two 0 (.run [] (.two 2 (.run [4, 5, 6, 7] .nil) 4 (.run [2, 5, 6, 7] .nil))) 4 (.run [0, 2, 5, 6, 7] .nil))) (by kernel_rfl) ?_
  refine ⟨?_, ?_⟩
  · intro c1
    refine Need.mk rfl ?_
    refine ⟨?_, ?_⟩
    · refine SrcF.mk (XL.flat l) (lX _) hR ?_
      refine StOb.mk [] rfl (Need.mk (by simp) (Need.mk ⟨by omega, by simp only [maxLen]; omega, XL.flat_one' _⟩ ?_))
      refine NewSl.any (fun l2 c2 hc2 => ?_)
      refine Need.mk rfl ?_
      intro c3
      refine StOb.mk (XL.cells (X.new m (decide (kx.q.fl.tmod 4 > 0)))) rfl (Need.mk rfl ?_)
      refine Need.mk ⟨by simp [lX], by omega, by omega⟩ ?_
      refine Need.mk ⟨by omega, by simp only [maxLen]; omega, XL.one _⟩ ?_
      refine NewSl.pos (by omega) (fun b6 o6 c6 hc6 => ?_)
      refine FinOb.mk [.slice (some ⟨b6, o6, none⟩) (0 + l.length + 1) c6, .bool true] [Vec (.at b6 o6) 189 20 c6 (XL.flat (l ++ [X.new m (decide (kx.q.fl.tmod 4 > 0))]))] rfl (fun h k => sat_pick 0 rfl (fun _ k9 => ?_) (fun h k => sat_nil k) k) ⟨b6, o6, c6, by simp [ret1], by simp; omega, rfl⟩
      have kk := vec_to (l := .at b6 o6) rfl k9
      rw [flat_new l (X.new m (decide (kx.q.fl.tmod 4 > 0)))] at kk
      exact kk
    · intro c3
      refine SrcF.mk (XL.flat l) (lX _) hR ?_
      refine StOb.mk [] rfl (Need.mk (by simp) (Need.mk ⟨by omega, by simp only [maxLen]; omega, XL.flat_one' _⟩ ?_))
      refine NewSl.any (fun l2 c2 hc2 => ?_)
      refine Need.mk rfl ?_
      refine StOb.mk (XL.cells (X.new m (decide (kx.q.fl.tmod 4 > 0)))) rfl (Need.mk rfl ?_)
      refine Need.mk ⟨by simp [lX], by omega, by omega⟩ ?_
      refine Need.mk ⟨by omega, by simp only [maxLen]; omega, XL.one _⟩ ?_
      refine NewSl.pos (by omega) (fun b6 o6 c6 hc6 => ?_)
      refine FinOb.mk [.slice (some ⟨b6, o6, none⟩) (0 + l.length + 1) c6, .bool true] [Vec (.at b6 o6) 189 20 c6 (XL.flat (l ++ [X.new m (decide (kx.q.fl.tmod 4 > 0))]))] rfl (fun h k => sat_pick 0 rfl (fun _ k9 => ?_) (fun h k => sat_nil k) k) ⟨b6, o6, c6, by simp [ret1], by simp; omega, rfl⟩
      have kk := vec_to (l := .at b6 o6) rfl k9
      rw [flat_new l (X.new m (decide (kx.q.fl.tmod 4 > 0)))] at kk
      exact kk
  · intro c3
    intro c1
    refine Need.mk rfl ?_
    refine SrcF.mk (XL.flat l) (lX _) hR ?_
    refine StOb.mk [] rfl (Need.mk (by simp) (Need.mk ⟨by omega, by simp only [maxLen]; omega, XL.flat_one' _⟩ ?_))
    refine NewSl.any (fun l2 c2 hc2 => ?_)
    refine Need.mk rfl ?_
    refine StOb.mk (XL.cells (X.new m (decide (kx.q.fl.tmod 4 > 0)))) rfl (Need.mk rfl ?_)
    refine Need.mk ⟨by simp [lX], by omega, by omega⟩ ?_
    refine Need.mk ⟨by omega, by simp only [maxLen]; omega, XL.one _⟩ ?_
    refine NewSl.pos (by omega) (fun b6 o6 c6 hc6 => ?_)
    refine FinOb.mk [.slice (some ⟨b6, o6, none⟩) (0 + l.length + 1) c6, .bool true] [Vec (.at b6 o6) 189 20 c6 (XL.flat (l ++ [X.new m (decide (kx.q.fl.tmod 4 > 0))]))] rfl (fun h k => sat_pick 0 rfl (fun _ k9 => ?_) (fun h k => sat_nil k) k) ⟨b6, o6, c6, by simp [ret1], by simp; omega, rfl⟩
    have kk := vec_to (l := .at b6 o6) rfl k9
    rw [flat_new l (X.new m (decide (kx.q.fl.tmod 4 > 0)))] at kk
    exact kk
end Go.Proofs.Ytlgdagjbphafcaa.Au
