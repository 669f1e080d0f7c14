/- route: the reference's Add. Conditions: none. -/
import Derived.Test.YtjppphldiaonkaaRtG
namespace Go.Proofs.Ytjppphldiaonkaa.Rt
open Go Go.Proofs Sx
set_option maxRecDepth 100000
set_option linter.unusedVariables false
set_option linter.unusedSimpArgs false
set_option maxHeartbeats 4000000

def key (x y : R) : Bool := hit x.net x.bits x.cost y
/-- What Add answers, what it leaves. -/
inductive RAdd (l : List R) (x : R) : Int → List R → Prop
  | bad (h : okR x = false) : RAdd l x 1 l
  | set (i : Nat) (y : R) (h : okR x = true) (hy : l[i]? = some y) (hh : key x y = true) : RAdd l x 0 (l.set i x)
  | full (h : okR x = true) (hn : ∀ y ∈ l, key x y = false) (hl : 64 ≤ l.length) : RAdd l x 5 l
  | new (h : okR x = true) (hn : ∀ y ∈ l, key x y = false) (hl : l.length < 64) : RAdd l x 0 (l ++ [x])
theorem flat_new (l : List R) (x : R) : List.take ((0 + l.length) * 5) (List.drop 0 (List.take (0 * 5) (List.drop 0 []) ++ RL.flat l)) ++ RL.cells x = RL.flat (l ++ [x]) := by
  rw [Nat.zero_add, Nat.zero_mul, List.take_zero, List.nil_append, List.drop_zero, List.take_of_length_le (by rw [lR]; omega)]
  simp only [RL.flat_append, RL.flat_one]
theorem radd_spec (A : Option Addr) (cp : Nat) (l : List R) (x : R) (ok : x.Ok) (hc : l.length ≤ cp) (hl : l.length ≤ 100000) :
    Does Try.prog 41 #[.slice A l.length cp, .agg x.vals.toArray] (fun f => Reads f A (RL.flat l)) []
      (fun v p => ∃ code l', RAdd l x code l' ∧ ((v = .tuple #[.slice A l.length cp, .int .i64 code] ∧ l' = l ∧ p = []) ∨
        ∃ (pl : Plc) (c : Nat), v = .tuple #[.slice (locAddr 0 pl) l'.length c, .int .i64 code] ∧ l'.length ≤ c ∧ p = [Vec pl 26 5 c (RL.flat l')])) := by
  refine Does.ofJ Try.func41 Try.call41 rfl [.raw (.slice A l.length cp), .agg x.svs] [] 0 [] rfl rfl (fun h k => k) (fun f hR => ?_)
  intro b1
  refine RegOb.join Unit (fun _ => ⟨74, [(0, .raw (.slice A l.length cp)), (3, .ptr 0 0), (44, .bool (!okR x))], [(0, .at b1 0)], 1, [.blk 0 26 x.svs]⟩) ?_ (fun _ => ?_)
  · refine DrawOb.mk [(13, [14, 15])] (.run [0, 1, 2, 3, 4, 5, 6, 7, 8, 9, 10, 11, 12, 14, 15, 13, 16, 17, 18, 19, 20, 21, 22, 23, 24, 25, 26, 27, 28, 29, 30, 31, 32, 33, 34, 35, 36, 37] .nil) (by kernel_rfl) ?_
    refine Br.mk (fun h1 => ?_) (fun h1 => ?_)
    · refine ⟨(), Le.of rfl ⟨⟨_, rfl, rfl⟩, ⟨_, rfl, rfl⟩, ⟨_, rfl, (congrArg (fun x => some (Value.bool x)) ?_)⟩, trivial⟩ (fun h k => k)⟩
      simp_all [okR]
    refine Br.mk (fun h2 => ?_) (fun h2 => ?_)
    · refine ⟨(), Le.of rfl ⟨⟨_, rfl, rfl⟩, ⟨_, rfl, rfl⟩, ⟨_, rfl, (congrArg (fun x => some (Value.bool x)) ?_)⟩, trivial⟩ (fun h k => k)⟩
      simp_all [okR]
    have b0 : 0 ≤ x.bits := by have := of_decide_eq_false h1; omega
    have b32 : x.bits ≤ 32 := by have := of_decide_eq_false h2; omega
    refine useP (.int .u32 (netOf x.net x.bits)) (rnet_spec x.net x.bits ok.n0 ok.n1 b0 b32) rfl rfl ?_
    refine Need.mk rfl ?_
    repeat' refine Br.mk (fun h => ?_) (fun h => ?_)
    all_goals refine ⟨(), Le.of rfl ⟨⟨_, rfl, rfl⟩, ⟨_, rfl, rfl⟩, ⟨_, rfl, (congrArg (fun x => some (Value.bool x)) ?_)⟩, trivial⟩ (fun h k => k)⟩
    all_goals (simp_all [okR] <;> try omega)
    rw [Bool.eq_iff_iff]
    simp
    omega
  refine CondOb.split (fun g => ?_) (fun g => ?_)
  · exact FinOb.mk [.slice A l.length cp, .int .i64 1] [] rfl (fun h k => trivial) ⟨1, l, .bad (by simpa using g), .inl ⟨rfl, rfl, rfl⟩⟩
  have hok : okR x = true := by simpa using g
  refine call_ix (place_spec A cp l x.net x.bits x.cost (by omega)) rfl [] (fun h k => k) (fun f' b' hs _ => hR.frame hs) ?_
  rintro v p ⟨r, rfl, hp, rfl⟩
  refine ⟨.int .i64 r, _, 1, [], NmExt.refl _, rfl, fun h k => trivial, ?_⟩
  rcases hp with ⟨rfl, hall⟩ | ⟨i, y, rfl, hy, hh⟩
  rotate_left
  · refine CondOb.split (fun _ => ?_) (fun h => absurd h (by simp))
    intro b2
    refine SrcF.mk (RL.flat l) (lR l) hR ?_
    refine StOb.mk [] rfl (Need.mk (by simp) (Need.mk ⟨by omega, by simp only [maxLen]; omega, RL.flat_one' _⟩ ?_))
    have hi : i < l.length := (List.getElem?_eq_some_iff.1 hy).1
    refine NewSl.pos (by omega) (fun b6 o6 c6 hc6 => ?_)
    refine Need.mk (by omega) ?_
    refine StOb.mk x.vals rfl (Need.mk (by simp [lR, R.vals]; omega) ?_)
    refine FinOb.mk [.slice (some ⟨b6, o6, none⟩) (0 + l.length) c6, .int .i64 0] [Vec (.at b6 o6) 26 5 c6 (RL.flat (l.set i x))] rfl (fun h k => sat_pick 0 rfl (fun _ k9 => ?_) (fun h k => sat_nil k) k) ⟨0, l.set i x, .set i y hok hy hh, .inr ⟨.at b6 o6, c6, by simp [ret1, locAddr], by simp; omega, rfl⟩⟩
    have kk := vec_to (l := .at b6 o6) rfl k9
    have e7 : putV (List.take (0 * 5) (List.drop 0 []) ++ RL.flat l) (0 + (i : Int).toNat * 5) x.vals = RL.flat (l.set i x) := by
      rw [Nat.zero_mul, List.take_zero, List.nil_append, Nat.zero_add, Int.toNat_natCast]
      exact RL.flat_set hi
    rw [e7] at kk
    exact kk
  refine CondOb.split (fun g => absurd g (by simp)) (fun _ => ?_)
  refine CondOb.split (fun g => ?_) (fun g => ?_)
  · have g : 64 ≤ l.length := by have := of_decide_eq_true g; omega
    exact FinOb.mk [.slice A l.length cp, .int .i64 5] [] rfl (fun h k => trivial) ⟨5, l, .full hok hall g, .inl ⟨rfl, rfl, rfl⟩⟩
  have g : l.length < 64 := by have := of_decide_eq_false g; omega
  refine DrawOb.mk [(0, [1, 3]), (2, [3]), (4, [1])] (.run [1, 3] (.two 0 (.run [] (.two 2 (.run [4, 5, 6, 7] .nil) 4 (.run [2, 5, 6, 7] .nil))) 4 (.run [0, 2, 5, 6, 7] .nil))) (by kernel_rfl) ?_
  refine ⟨?_, ?_⟩
  · intro c1
    refine Need.mk rfl ?_
    refine ⟨?_, ?_⟩
    · refine SrcF.mk (RL.flat l) (lR _) hR ?_
      refine StOb.mk [] rfl (Need.mk (by simp) (Need.mk ⟨by omega, by simp only [maxLen]; omega, RL.flat_one' _⟩ ?_))
      refine NewSl.any (fun l2 c2 hc2 => ?_)
      refine Need.mk rfl ?_
      intro c3
      refine StOb.mk (RL.cells x) rfl (Need.mk rfl ?_)
      refine Need.mk ⟨by simp [lR], by omega, by omega⟩ ?_
      refine Need.mk ⟨by omega, by simp only [maxLen]; omega, RL.one _⟩ ?_
      refine NewSl.pos (by omega) (fun b6 o6 c6 hc6 => ?_)
      refine FinOb.mk [.slice (some ⟨b6, o6, none⟩) (0 + l.length + 1) c6, .int .i64 0] [Vec (.at b6 o6) 26 5 c6 (RL.flat (l ++ [x]))] rfl (fun h k => sat_pick 0 rfl (fun _ k9 => ?_) (fun h k => sat_nil k) k) ⟨0, l ++ [x], .new hok hall g, .inr ⟨.at b6 o6, c6, by simp [ret1, locAddr], by simp; omega, rfl⟩⟩
      have kk := vec_to (l := .at b6 o6) rfl k9
      rw [flat_new l x] at kk
      exact kk
    · intro c3
      refine SrcF.mk (RL.flat l) (lR _) hR ?_
      refine StOb.mk [] rfl (Need.mk (by simp) (Need.mk ⟨by omega, by simp only [maxLen]; omega, RL.flat_one' _⟩ ?_))
      refine NewSl.any (fun l2 c2 hc2 => ?_)
      refine Need.mk rfl ?_
      refine StOb.mk (RL.cells x) rfl (Need.mk rfl ?_)
      refine Need.mk ⟨by simp [lR], by omega, by omega⟩ ?_
      refine Need.mk ⟨by omega, by simp only [maxLen]; omega, RL.one _⟩ ?_
      refine NewSl.pos (by omega) (fun b6 o6 c6 hc6 => ?_)
      refine FinOb.mk [.slice (some ⟨b6, o6, none⟩) (0 + l.length + 1) c6, .int .i64 0] [Vec (.at b6 o6) 26 5 c6 (RL.flat (l ++ [x]))] rfl (fun h k => sat_pick 0 rfl (fun _ k9 => ?_) (fun h k => sat_nil k) k) ⟨0, l ++ [x], .new hok hall g, .inr ⟨.at b6 o6, c6, by simp [ret1, locAddr], by simp; omega, rfl⟩⟩
      have kk := vec_to (l := .at b6 o6) rfl k9
      rw [flat_new l x] at kk
      exact kk
  · intro c3
    intro c1
    refine Need.mk rfl ?_
    refine SrcF.mk (RL.flat l) (lR _) hR ?_
    refine StOb.mk [] rfl (Need.mk (by simp) (Need.mk ⟨by omega, by simp only [maxLen]; omega, RL.flat_one' _⟩ ?_))
    refine NewSl.any (fun l2 c2 hc2 => ?_)
    refine Need.mk rfl ?_
    refine StOb.mk (RL.cells x) rfl (Need.mk rfl ?_)
    refine Need.mk ⟨by simp [lR], by omega, by omega⟩ ?_
    refine Need.mk ⟨by omega, by simp only [maxLen]; omega, RL.one _⟩ ?_
    refine NewSl.pos (by omega) (fun b6 o6 c6 hc6 => ?_)
    refine FinOb.mk [.slice (some ⟨b6, o6, none⟩) (0 + l.length + 1) c6, .int .i64 0] [Vec (.at b6 o6) 26 5 c6 (RL.flat (l ++ [x]))] rfl (fun h k => sat_pick 0 rfl (fun _ k9 => ?_) (fun h k => sat_nil k) k) ⟨0, l ++ [x], .new hok hall g, .inr ⟨.at b6 o6, c6, by simp [ret1, locAddr], by simp; omega, rfl⟩⟩
    have kk := vec_to (l := .at b6 o6) rfl k9
    rw [flat_new l x] at kk
    exact kk
end Go.Proofs.Ytjppphldiaonkaa.Rt
