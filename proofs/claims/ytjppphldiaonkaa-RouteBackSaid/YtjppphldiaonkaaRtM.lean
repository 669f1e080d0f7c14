/- route: told. Conditions: none. -/
import Derived.Test.YtjppphldiaonkaaRtL
namespace Go.Proofs.Ytjppphldiaonkaa.Rt
open Go Go.Proofs Sx
set_option maxRecDepth 100000
set_option linter.unusedVariables false
set_option linter.unusedSimpArgs false
set_option maxHeartbeats 4000000

theorem told_spec (A : Option Addr) (cp : Nat) (l : List R) (hl : l.length ≤ 100000) :
    Does Try.prog 51 #[.slice A l.length cp] (fun f => Reads f A (RL.flat l)) []
      (fun v p => ∃ (pl : Plc) (c : Nat), v = .slice (locAddr 0 pl) l.length c ∧ l.length ≤ c ∧ p = [Vec pl 26 5 c (RL.flat l)]) := by
  refine Does.ofJ Try.func51 Try.call51 rfl [.raw (.slice A l.length cp)] [] 0 [] rfl rfl (fun h k => k) (fun f hR => ?_)
  refine LoopOb.mk { z : Nat × Plc × Nat // z.1 ≤ l.length ∧ z.1 ≤ z.2.2 } (fun z => ⟨18, [(6, .raw (.slice A l.length cp)), (7, .int .i64 l.length), (3, .sl 0 0 z.1.1 z.1.2.2), (8, .int .i64 z.1.1)], [(0, z.1.2.1)], 1, [.vec 0 26 5 z.1.2.2 (RL.flat (l.take z.1.1))]⟩) (fun z => l.length - z.1.1)
    ⟨(0, .nil, 0), by omega, by omega⟩ ?_ ?_
  · exact Le.of rfl ⟨⟨_, rfl, rfl⟩, ⟨_, rfl, rfl⟩, ⟨_, rfl, rfl⟩, ⟨_, rfl, rfl⟩, trivial⟩ (fun h k => sat_add (vec_of rfl vec_emp) ((fun h k => sat_nil k) h k))
  rintro ⟨⟨i, pl, c⟩, hi, hic⟩
  simp only at hi hic
  refine CondOb.split (fun g => ?_) (fun g => ?_)
  rotate_left
  · have g := of_decide_eq_false g
    have e : i = l.length := by
      have : ¬ (i : Int) < l.length := g
      omega
    subst e
    refine FinOb.mk [.slice (locAddr 0 pl) l.length c] [Vec pl 26 5 c (RL.flat l)] rfl (fun h k => sat_pick 0 rfl (fun _ k9 => ?_) (fun h k => sat_nil k) k) ⟨pl, c, rfl, hic, rfl⟩
    have kk := vec_to (l := pl) rfl k9
    simp only [List.take_length] at kk
    exact kk
  have g : i < l.length := by
    have g := of_decide_eq_true g
    have : (i : Int) < l.length := g
    omega
  have hx := List.getElem?_eq_getElem g
  generalize l[i] = x at hx
  obtain ⟨b, o, hA, hca⟩ := hR.lay (by decide) hx
  have hn2 : 0 ≤ (i : Int) ∧ (i : Int) < l.length := by omega
  have ei : IntKind.i64.wrap ((i : Int) + 1) = ((i + 1 : Nat) : Int) := by rw [w64 (by omega) (by omega)]; omega
  have hF : (RL.flat (l.take i)).length = i * 5 := by rw [lR, List.length_take]; omega
  refine Need.mk hn2 (RawAt.mk b o hA ?_)
  refine RdF.mk x.svs x.vals rfl rfl (fun q v hq => by rw [Int.toNat_natCast]; exact hca q v hq) ?_
  intro b2
  intro b3
  refine StOb.mk (RL.cells x) rfl (Need.mk rfl ?_)
  have n1 : 0 + i * 5 ≤ (RL.flat (l.take i)).length := by rw [hF]; omega
  have n2 : 0 + c * 5 ≤ c * 5 := by omega
  have n3 : (i + 1) * 40 ≤ 140737488355328 := by omega
  have n4 : i + 1 ≤ maxLen := by simp only [maxLen]; omega
  refine Need.mk ⟨n1, n2, hic⟩ ?_
  refine Need.mk ⟨n3, n4, RL.one _⟩ ?_
  refine NewSl.pos (by omega) (fun b6 o6 c6 hc6 => ?_)
  have hfl : List.take (i * 5) (List.drop 0 (RL.flat (l.take i))) ++ RL.cells x = RL.flat (l.take (i + 1)) := by
    rw [List.drop_zero, List.take_of_length_le (by rw [hF]; exact Nat.le_refl _), List.take_add_one, hx, RL.flat_append]
    exact congrArg _ (RL.flat_one x).symm
  refine ⟨⟨(i + 1, .at b6 o6, c6), by show i + 1 ≤ l.length; omega, hc6⟩, by show l.length - (i + 1) < l.length - i; omega, Le.of rfl ⟨⟨_, rfl, rfl⟩, ⟨_, rfl, rfl⟩, ⟨_, rfl, rfl⟩, ⟨_, rfl, congrArg (fun z => some (Value.int .i64 z)) ei⟩, trivial⟩ (fun h k => sat_pick 0 rfl (fun _ k9 => ?_) (fun h k => sat_nil k) k)⟩
  have kk := vec_to (l := .at b6 o6) rfl k9
  rw [hfl] at kk
  exact vec_of rfl kk
end Go.Proofs.Ytjppphldiaonkaa.Rt
namespace Go.Proofs.Ytjppphldiaonkaa.Rt
open Go Go.Proofs Sx
set_option maxRecDepth 100000
set_option linter.unusedVariables false
set_option linter.unusedSimpArgs false
set_option maxHeartbeats 4000000

theorem grow_spec (n : Nat) (hn : n ≤ 1000000) :
    Does Try.prog 68 #[.slice none 0 0, .int .i64 n] (fun _ => True) []
      (fun v p => ∃ (pl : Plc) (c : Nat), v = .slice (locAddr 0 pl) 0 c ∧ n ≤ c ∧ (0 < n → ∃ b o, pl = .at b o) ∧ p = [Vec pl 26 5 c []]) := by
  refine Does.ofJ Try.func68 Try.call68 rfl [.raw (.slice none 0 0), .int .i64 n] [] 0 [] rfl rfl (fun h k => k) (fun f hR => ?_)
  refine CondOb.split (fun g => ?_) (fun _ => ?_)
  · have := of_decide_eq_true g
    omega
  have e0 : IntKind.i64.wrap (((0 : Nat) : Int) - ((0 : Nat) : Int)) = 0 := by decide
  have e1 : IntKind.i64.wrap ((n : Int) - IntKind.i64.wrap (((0 : Nat) : Int) - ((0 : Nat) : Int))) = n := by rw [e0, w64 (by omega) (by omega)]; omega
  have e2 : (IntKind.i64.wrap ((n : Int) - IntKind.i64.wrap (((0 : Nat) : Int) - ((0 : Nat) : Int)))).toNat = n := by rw [e1]; omega
  refine CondOb.split (fun g => ?_) (fun g => ?_)
  · have g : 0 < n := by
      rw [e1] at g
      have := of_decide_eq_true g
      omega
    refine Need.mk ⟨Int.le_refl _, Int.le_refl _⟩ ?_
    refine Need.mk (by rw [e1]; omega) ?_
    refine Need.mk (by rw [e2]; refine ⟨by omega, by simp only [maxLen]; omega, fun v hv => ?_⟩; simp only [zerosV, List.mem_flatten, List.mem_replicate] at hv; obtain ⟨_, ⟨_, rfl⟩, hv⟩ := hv; revert v; decide) ?_
    refine NewSl.pos (by rw [e2]; omega) (fun b o c hc => ?_)
    rw [e2] at hc
    refine Need.mk (by omega) ?_
    refine FinOb.mk [.slice (some ⟨b, o, none⟩) 0 c] [Vec (.at b o) 26 5 c []] rfl (fun h k => sat_pick 0 rfl (fun _ k9 => ?_) (fun h k => sat_nil k) k) ⟨.at b o, c, rfl, by omega, fun _ => ⟨_, _, rfl⟩, rfl⟩
    have kk := vec_to (l := .at b o) rfl k9
    exact vec_cut kk
  have g : n = 0 := by
    rw [e1] at g
    have := of_decide_eq_false g
    omega
  exact FinOb.mk [.slice none 0 0] [Vec .nil 26 5 0 []] rfl (fun h k => sat_add vec_emp ((fun h k => sat_nil k) h k)) ⟨.nil, 0, rfl, by omega, fun h => absurd h (by omega), rfl⟩
end Go.Proofs.Ytjppphldiaonkaa.Rt
