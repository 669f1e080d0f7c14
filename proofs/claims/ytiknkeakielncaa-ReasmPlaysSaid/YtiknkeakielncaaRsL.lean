/- reasm: the law's small functions: Same, Long, much, code, nil tables. Conditions: none. -/
import Derived.Test.YtiknkeakielncaaRsK
import Derived.Laws.Strings
namespace Go.Proofs.Ytiknkeakielncaa.Rs
open Go Go.Proofs Sx
set_option maxRecDepth 100000
set_option linter.unusedVariables false
set_option linter.unusedSimpArgs false
set_option maxHeartbeats 4000000

def strU (l : List UInt8) : ByteArray := ⟨l.toArray⟩
theorem strU_flat (l : List UInt8) : U.flat l = bytesV (strU l) := by
  unfold bytesV strU Lay.flat
  simp only [List.toList_toArray]
  induction l with
  | nil => rfl
  | cons a l ih => rw [List.flatMap_cons, ih]; rfl
theorem strU_list (l : List UInt8) : (strU l).toList = l := by
  unfold ByteArray.toList
  rw [Go.ByteArray.toList_loop_eq (strU l) _ 0 [] rfl (Nat.zero_le _)]
  simp [strU]
deriving instance DecidableEq for Hd
deriving instance DecidableEq for Pl
theorem same_spec0 (x y : Ip) : Does Try.prog 25 #[.agg x.vals.toArray, .agg y.vals.toArray] (fun f => x.Sees f ∧ y.Sees f) [] (fun v q => v = .bool (decide (x.p = y.p)) ∧ q = []) := by
  refine Does.ofJ Try.func25 Try.call25 rfl [.agg x.svs, .agg y.svs] [] 0 [] rfl rfl (fun h k => k) (fun f hR => ?_)
  intro b1 b2
  refine RegOb.go ?_
  refine Br.mk (fun g1 => ?_) (fun g1 => ?_)
  rotate_left
  · exact FinOb.mk [.bool false] [] rfl (fun h k => trivial) ⟨by rw [decide_eq_false (fun e => by rw [e] at g1; simp at g1)]; rfl, rfl⟩
  refine Br.mk (fun g2 => ?_) (fun g2 => ?_)
  rotate_left
  · exact FinOb.mk [.bool false] [] rfl (fun h k => trivial) ⟨by rw [decide_eq_false (fun e => by rw [e] at g2; simp at g2)]; rfl, rfl⟩
  refine Br.mk (fun g3 => ?_) (fun g3 => ?_)
  rotate_left
  · exact FinOb.mk [.bool false] [] rfl (fun h k => trivial) ⟨by rw [decide_eq_false (fun e => by rw [e] at g3; simp at g3)]; rfl, rfl⟩
  refine Br.mk (fun g4 => ?_) (fun g4 => ?_)
  rotate_left
  · exact FinOb.mk [.bool false] [] rfl (fun h k => trivial) ⟨by rw [decide_eq_false (fun e => by rw [e] at g4; simp at g4)]; rfl, rfl⟩
  refine Br.mk (fun g5 => ?_) (fun g5 => ?_)
  rotate_left
  · exact FinOb.mk [.bool false] [] rfl (fun h k => trivial) ⟨by rw [decide_eq_false (fun e => by rw [e] at g5; simp at g5)]; rfl, rfl⟩
  refine Br.mk (fun g6 => ?_) (fun g6 => ?_)
  rotate_left
  · exact FinOb.mk [.bool false] [] rfl (fun h k => trivial) ⟨by rw [decide_eq_false (fun e => by rw [e] at g6; simp at g6)]; rfl, rfl⟩
  refine Br.mk (fun g7 => ?_) (fun g7 => ?_)
  rotate_left
  · exact FinOb.mk [.bool false] [] rfl (fun h k => trivial) ⟨by rw [decide_eq_false (fun e => by rw [e] at g7; simp at g7)]; rfl, rfl⟩
  refine Br.mk (fun g8 => ?_) (fun g8 => ?_)
  rotate_left
  · exact FinOb.mk [.bool false] [] rfl (fun h k => trivial) ⟨by rw [decide_eq_false (fun e => by rw [e] at g8; simp at g8)]; rfl, rfl⟩
  refine Br.mk (fun g9 => ?_) (fun g9 => ?_)
  rotate_left
  · exact FinOb.mk [.bool false] [] rfl (fun h k => trivial) ⟨by rw [decide_eq_false (fun e => by rw [e] at g9; simp at g9)]; rfl, rfl⟩
  refine SrcF.mk (U.flat x.p.opts) (by rw [lU, Nat.mul_one]) hR.1.o (StrOb.mk (strU x.p.opts) (strU_flat _) ?_)
  refine SrcF.mk (U.flat y.p.opts) (by rw [lU, Nat.mul_one]) hR.2.o (StrOb.mk (strU y.p.opts) (strU_flat _) ?_)
  refine Br.mk (fun g10 => ?_) (fun g10 => ?_)
  rotate_left
  · exact FinOb.mk [.bool false] [] rfl (fun h k => trivial) ⟨by rw [decide_eq_false (fun e => by rw [e] at g10; simp at g10)]; rfl, rfl⟩
  refine SrcF.mk (U.flat x.p.data) (by rw [lU, Nat.mul_one]) hR.1.d (StrOb.mk (strU x.p.data) (strU_flat _) ?_)
  refine SrcF.mk (U.flat y.p.data) (by rw [lU, Nat.mul_one]) hR.2.d (StrOb.mk (strU y.p.data) (strU_flat _) ?_)
  refine FinOb.mk [.bool ((strU x.p.data).toList == (strU y.p.data).toList)] [] rfl (fun h k => trivial) ⟨?_, rfl⟩
  rw [strU_list, strU_list] at *
  obtain ⟨⟨⟨a1, a2, a3, a4, a5, a6, a7, a8, a9⟩, xo, xd⟩, _, _, _, _⟩ := x
  obtain ⟨⟨⟨b1, b2, b3, b4, b5, b6, b7, b8, b9⟩, yo, yd⟩, _, _, _, _⟩ := y
  simp only [beq_iff_eq] at g1 g2 g3 g4 g5 g6 g7 g8 g9 g10
  subst g1 g2 g3 g4 g5 g6 g7 g8 g9 g10
  simp only [ret1, Value.bool.injEq]
  by_cases h : xd = yd
  · subst h; simp
  · simp [h]
theorem same_spec (x y : Ip) (fx : x.Fits) (fy : y.Fits) : Does Try.prog 25 #[.agg x.vals.toArray, .agg y.vals.toArray] (fun f => x.Sees f ∧ y.Sees f) [] (fun v q => v = .bool (decide (x.p = y.p)) ∧ q = []) := same_spec0 x y
/-! ### Small ones -/
theorem code_spec (e : Int) : Does Try.prog 23 #[.int .i64 e] (fun _ => True) [] (fun v q => v = .int .i64 e ∧ q = []) := by
  refine Does.ofJ Try.func23 Try.call23 rfl [.int .i64 e] [] 0 [] rfl rfl (fun h k => k) (fun f hR => ?_)
  exact FinOb.mk [.int .i64 e] [] rfl (fun h k => trivial) ⟨rfl, rfl⟩
def longP (p : Pl) : Bool := decide (p.opts.length > 100 ∨ p.data.length > 70000)
theorem long_spec (i : Ip) : Does Try.prog 90 #[.agg i.vals.toArray] (fun _ => True) [] (fun v q => v = .bool (longP i.p) ∧ q = []) := by
  refine Does.ofJ Try.func90 Try.call90 rfl [.agg i.svs] [] 0 [] rfl rfl (fun h k => k) (fun f hR => ?_)
  intro b
  refine RegOb.go ?_
  refine Br.mk (fun g => ?_) (fun g => ?_)
  · exact FinOb.mk [.bool true] [] rfl (fun h k => trivial) ⟨by simp only [longP]; rw [decide_eq_true (.inl (by have g := of_decide_eq_true g; have g : (i.p.opts.length : Int) > 100 := g; omega))]; rfl, rfl⟩
  · have g := of_decide_eq_false g
    have g : ¬ (i.p.opts.length : Int) > 100 := g
    refine FinOb.mk [.bool (decide ((i.p.data.length : Int) > 70000))] [] rfl (fun h k => trivial) ⟨?_, rfl⟩
    simp only [ret1, longP, Value.bool.injEq, decide_eq_decide]
    omega
theorem same_zero : Does Try.prog 25 #[.agg zeroI.vals.toArray, .agg zeroI.vals.toArray] (fun _ => True) [] (fun v q => v = .bool true ∧ q = []) := by
  have h := same_spec zeroI zeroI ⟨by decide, by decide, by decide, by decide⟩ ⟨by decide, by decide, by decide, by decide⟩
  refine ⟨h.enters, fun f w _ hat => (h.run f w ⟨⟨Reads.nil _ _, Reads.nil _ _⟩, ⟨Reads.nil _ _, Reads.nil _ _⟩⟩ hat).mono ?_⟩
  rintro e w' ⟨v, post, h1, h2, ⟨rfl, rfl⟩, h4⟩
  exact ⟨_, _, h1, h2, ⟨by simp, rfl⟩, h4⟩
end Go.Proofs.Ytiknkeakielncaa.Rs
