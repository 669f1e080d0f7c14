/- agenda: Same; the reference's Push, Move, Pop, All. Conditions: none. -/
import Derived.Test.YtiknkeakielncaaAgO
namespace Go.Proofs.Ytiknkeakielncaa.Ag
open Go Go.Proofs Sx
set_option maxRecDepth 100000
set_option linter.unusedVariables false
set_option linter.unusedSimpArgs false
set_option maxHeartbeats 4000000

theorem same_self (A B : Option Addr) (ca cb : Nat) (l : List En) (hl : l.length ≤ 1000000) :
    Does Try.prog 60 #[.slice A l.length ca, .slice B l.length cb] (fun f => Reads f A (TL.flat l) ∧ Reads f B (TL.flat l)) [] (fun v p => v = .bool true ∧ p = []) := by
  refine Does.ofJ Try.func60 Try.call60 rfl [.raw (.slice A l.length ca), .raw (.slice B l.length cb)] [] 0 [] rfl rfl (fun h k => k) (fun f hR => ?_)
  refine CondOb.split (fun g => absurd g (by simp)) (fun g => ?_)
  refine LoopOb.mk { k : Nat // k ≤ l.length } (fun z => ⟨26, [(0, .raw (.slice A l.length ca)), (1, .raw (.slice B l.length cb)), (5, .int .i64 (z.1 : Int))], [], 0, []⟩) (fun z => l.length - z.1) ⟨0, by omega⟩ ?_ ?_
  · exact Le.of rfl ⟨⟨_, rfl, rfl⟩, ⟨_, rfl, rfl⟩, ⟨_, rfl, rfl⟩, trivial⟩ (fun h k => k)
  rintro ⟨k, hk⟩
  refine CondOb.split (fun g2 => ?_) (fun g2 => ?_)
  rotate_left
  · exact FinOb.mk [.bool true] [] rfl (fun h k => trivial) ⟨rfl, rfl⟩
  have hk1 : k < l.length := by
    have g := of_decide_eq_true g2
    have : (k : Int) < l.length := g
    omega
  have hx := List.getElem?_eq_getElem hk1
  generalize l[k] = x at hx
  obtain ⟨b, o, hA, hc⟩ := hR.1.lay (by decide) hx
  obtain ⟨b', o', hB, hd⟩ := hR.2.lay (by decide) hx
  have hn1 : 0 ≤ (k : Int) ∧ (k : Int) < l.length := by omega
  have ek : IntKind.i64.wrap ((k : Int) + 1) = ((k + 1 : Nat) : Int) := by rw [w64 (by omega) (by omega)]; omega
  refine DrawOb.mk [] (.run [0, 1, 2, 3, 4, 5, 6, 7, 8] .nil) (by kernel_rfl) ?_
  refine Need.mk hn1 (RawAt.mk b o hA ?_)
  refine RdF.mk x.itsv x.item rfl rfl (fun j v hj => by rw [Int.toNat_natCast]; exact hc j v hj) ?_
  refine Need.mk hn1 (RawAt.mk b' o' hB ?_)
  refine RdF.mk x.itsv x.item rfl rfl (fun j v hj => by rw [Int.toNat_natCast]; exact hd j v hj) ?_
  refine BinOb.eqs 3 (by kernel_rfl) ?_ rfl rfl
  refine CondOb.split (fun h => ?_) (fun h => ?_)
  · exfalso; simp at h
  · exact ⟨⟨k + 1, by omega⟩, by show l.length - (k + 1) < l.length - k; omega, Le.of rfl ⟨⟨_, rfl, rfl⟩, ⟨_, rfl, rfl⟩, ⟨_, rfl, congrArg (fun z => some (Value.int .i64 z)) ek⟩, trivial⟩ (fun h k => k)⟩
end Go.Proofs.Ytiknkeakielncaa.Ag
