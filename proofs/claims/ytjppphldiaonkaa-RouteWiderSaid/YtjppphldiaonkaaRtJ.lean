/- route: Same. Conditions: none. -/
import Derived.Test.YtjppphldiaonkaaRtI
namespace Go.Proofs.Ytjppphldiaonkaa.Rt
open Go Go.Proofs Sx
set_option maxRecDepth 100000
set_option linter.unusedVariables false
set_option linter.unusedSimpArgs false
set_option maxHeartbeats 4000000

theorem same_spec (A B : Option Addr) (ca cb : Nat) (l m : List R) (hl : l.length ≤ 1000000) :
    Does Try.prog 16 #[.slice A l.length ca, .slice B m.length cb] (fun f => Reads f A (RL.flat l) ∧ Reads f B (RL.flat m)) [] (fun v p => v = .bool (decide (l = m)) ∧ p = []) := by
  refine Does.ofJ Try.func16 Try.call16 rfl [.raw (.slice A l.length ca), .raw (.slice B m.length cb)] [] 0 [] rfl rfl (fun h k => k) (fun f hR => ?_)
  refine CondOb.split (fun g => ?_) (fun g => ?_)
  · have g : l.length ≠ m.length := fun e => by simp [e] at g
    refine FinOb.mk [.bool false] [] rfl (fun h k => trivial) ⟨?_, rfl⟩
    have : l ≠ m := fun e => g (by rw [e])
    simp [ret1, this]
  have g : l.length = m.length := Int.ofNat_inj.mp (by simpa using g)
  refine LoopOb.mk { k : Nat // k ≤ l.length ∧ l.take k = m.take k } (fun z => ⟨26, [(0, .raw (.slice A l.length ca)), (1, .raw (.slice B m.length cb)), (5, .int .i64 (z.1 : Int))], [], 0, []⟩) (fun z => l.length - z.1) ⟨0, by omega, rfl⟩ ?_ ?_
  · exact Le.of rfl ⟨⟨_, rfl, rfl⟩, ⟨_, rfl, rfl⟩, ⟨_, rfl, rfl⟩, trivial⟩ (fun h k => k)
  rintro ⟨k, hk, heq⟩
  refine CondOb.split (fun g2 => ?_) (fun g2 => ?_)
  rotate_left
  · simp only [decide_eq_false_iff_not] at g2
    have k0 : k = l.length := by omega
    refine FinOb.mk [.bool true] [] rfl (fun h k => trivial) ⟨?_, rfl⟩
    subst k0
    rw [List.take_length, List.take_of_length_le (by omega)] at heq
    simp [ret1, heq]
  simp only [decide_eq_true_eq] at g2
  have hk1 : k < l.length := by omega
  have hk2 : k < m.length := by omega
  have hx := List.getElem?_eq_getElem hk1
  generalize l[k] = x at hx
  have hy := List.getElem?_eq_getElem hk2
  generalize m[k] = y at hy
  obtain ⟨b, o, hA, hc⟩ := hR.1.lay (by decide) hx
  obtain ⟨b', o', hB, hd⟩ := hR.2.lay (by decide) hy
  have hn1 : 0 ≤ (k : Int) ∧ (k : Int) < l.length := by omega
  have hn2 : 0 ≤ (k : Int) ∧ (k : Int) < m.length := by omega
  refine DrawOb.mk [] (.run [0, 1, 2, 3, 4, 5, 6, 7, 8] .nil) (by kernel_rfl) ?_
  refine Need.mk hn1 (RawAt.mk b o hA ?_)
  refine RdF.mk x.svs x.vals rfl rfl (fun j v hj => by rw [Int.toNat_natCast]; exact hc j v hj) ?_
  refine Need.mk hn2 (RawAt.mk b' o' hB ?_)
  refine RdF.mk y.svs y.vals rfl rfl (fun j v hj => by rw [Int.toNat_natCast]; exact hd j v hj) ?_
  refine BinOb.eqs 3 (by kernel_rfl) ?_ rfl rfl
  refine CondOb.split (fun h => ?_) (fun h => ?_)
  · refine FinOb.mk [.bool false] [] rfl (fun h k => trivial) ⟨?_, rfl⟩
    have hne : x ≠ y := fun e => by subst e; simp at h
    have : l ≠ m := fun e => hne (by rw [e, hy] at hx; exact (Option.some.inj hx).symm)
    simp [ret1, this]
  have he : x = y := by
    obtain ⟨a1, a2, a3, a4, a5⟩ := x
    obtain ⟨b1, b2, b3, b4, b5⟩ := y
    simp at h
    simp [h]
  refine ⟨⟨k + 1, by omega, ?_⟩, by show l.length - (k + 1) < l.length - k; omega, Le.of rfl ⟨⟨_, rfl, rfl⟩, ⟨_, rfl, rfl⟩, ⟨_, rfl, congrArg (fun z => some (Value.int .i64 z)) (by show IntKind.i64.wrap ((k : Int) + 1) = ((k + 1 : Nat) : Int); rw [w64 (by omega) (by omega)]; omega)⟩, trivial⟩ (fun h k => k)⟩
  rw [List.take_add_one, List.take_add_one, hx, hy, heq, he]
end Go.Proofs.Ytjppphldiaonkaa.Rt
