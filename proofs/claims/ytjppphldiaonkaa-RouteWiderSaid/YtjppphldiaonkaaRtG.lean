/- route: the reference's put, Remove, Add. Conditions: none. -/
import Derived.Test.YtjppphldiaonkaaRtF
namespace Go.Proofs.Ytjppphldiaonkaa.Rt
open Go Go.Proofs Sx
set_option maxRecDepth 100000
set_option linter.unusedVariables false
set_option linter.unusedSimpArgs false
set_option maxHeartbeats 4000000

theorem Reads.tail {f : HP} {A : Option Addr} {ys : List Value} (h : Reads f A ys) (cp i sz : Nat) (hy : ys.length ≤ cp * sz) :
    Reads f (if cp = i then A else A.map (fun x => x.add (i * sz))) (ys.drop (i * sz)) := by
  split
  · rename_i e
    subst e
    rw [List.drop_eq_nil_of_le hy]
    exact Reads.nil f A
  · intro j v hj
    rw [List.getElem?_drop] at hj
    obtain ⟨b, o, hA, hf⟩ := h _ v hj
    refine ⟨b, o + i * sz, ?_, by rw [Nat.add_assoc]; exact hf⟩
    rw [hA, Option.map_some, addr_add]
theorem Reads.flatTail {f : HP} {A : Option Addr} {l : List R} (h : Reads f A (RL.flat l)) (cp i : Nat) (hc : l.length ≤ cp) :
    Reads f (if cp = i then A else A.map (fun x => x.add (i * 5))) (RL.flat (l.drop i)) := by
  have := Reads.tail h cp i 5 (by rw [lR]; omega)
  rw [show RL.flat (l.drop i) = _ from (RL.flat_drops l i).symm]
  exact this
theorem put_spec (A : Option Addr) (cp : Nat) (l : List R) (i : Nat) (x : R) (hi : i ≤ l.length) (hc : l.length ≤ cp) (hl : l.length ≤ 100000) :
    Does Try.prog 49 #[.slice A l.length cp, .int .i64 i, .agg x.vals.toArray] (fun f => Reads f A (RL.flat l)) []
      (fun v p => ∃ b o c, v = .slice (some ⟨b, o, none⟩) (l.length + 1) c ∧ l.length + 1 ≤ c ∧ p = [Vec (.at b o) 26 5 c (RL.flat (l.take i ++ [x] ++ l.drop i))]) := by
  refine Does.ofJ Try.func49 Try.call49 rfl [.raw (.slice A l.length cp), .int .i64 i, .agg x.svs] [] 0 [] rfl rfl (fun h k => k) (fun f hR => ?_)
  intro b1
  have hF : (RL.flat l).length = l.length * 5 := lR l
  intro b2
  refine Need.mk ⟨by omega, by omega⟩ ?_
  refine SrcF.mk (RL.flat (l.take i)) (by rw [lR, List.length_take, Nat.min_eq_left hi, Int.toNat_natCast]) (by have := hR.take (i * 5); rw [show RL.flat (l.take i) = _ from (RL.flat_take l i).symm]; exact this) ?_
  refine StOb.mk [] rfl (Need.mk (by simp) (Need.mk ⟨by omega, by simp only [maxLen]; omega, RL.flat_one' _⟩ ?_))
  refine NewSl.any (fun l2 c2 hc2 => ?_)
  intro b3
  refine StOb.mk (RL.cells x) rfl (Need.mk rfl ?_)
  have hP : (RL.flat (l.take i)).length = i * 5 := by rw [lR, List.length_take, Nat.min_eq_left hi]
  have hX : (RL.cells x).length = 5 := rfl
  have hQ : (RL.flat (l.drop i)).length = (l.length - i) * 5 := by rw [lR, List.length_drop]
  refine Need.mk (by simp only [Int.toNat_natCast, Nat.zero_add, Nat.zero_mul, List.take_zero, List.nil_append, hP] at *; omega) ?_
  refine Need.mk ⟨by omega, by simp only [maxLen]; omega, RL.one _⟩ ?_
  refine NewSl.pos (by omega) (fun b6 o6 c6 hc6 => ?_)
  refine Need.mk (by omega) ?_
  refine SrcF.mk (RL.flat (l.drop i)) hQ (by rw [Int.toNat_natCast]; exact Reads.flatTail hR cp i hc) ?_
  refine Need.mk (by simp only [Int.toNat_natCast, Nat.zero_add, Nat.zero_mul, List.take_zero, List.nil_append, List.drop_zero, List.length_append, List.length_take, hP, hX] at *; omega) ?_
  refine Need.mk ⟨by omega, by simp only [maxLen]; omega, RL.flat_one' _⟩ ?_
  refine NewSl.pos (by omega) (fun b7 o7 c7 hc7 => ?_)
  have e : 0 + (i : Int).toNat + 1 + (l.length - (i : Int).toNat) = l.length + 1 := by omega
  refine FinOb.mk [.slice (some ⟨b7, o7, none⟩) (l.length + 1) c7] [Vec (.at b7 o7) 26 5 c7 (RL.flat (l.take i ++ [x] ++ l.drop i))] (by rw [e]; rfl) (fun h k => sat_pick 0 rfl (fun _ k9 => ?_) (fun h k => sat_nil k) k) ⟨b7, o7, c7, rfl, by omega, rfl⟩
  have kk := vec_to (l := .at b7 o7) rfl k9
  simp only [Int.toNat_natCast, Nat.zero_add, Nat.zero_mul, List.take_zero, List.nil_append, List.drop_zero] at kk
  rw [List.take_of_length_le (l := RL.flat (l.take i)) (by rw [hP]; exact Nat.le_refl _), List.take_of_length_le (l := RL.flat (l.take i) ++ RL.cells x) (by rw [List.length_append, hP, hX]; omega), ← RL.flat_one x, ← RL.flat_append, ← RL.flat_append] at kk
  exact kk
end Go.Proofs.Ytjppphldiaonkaa.Rt
namespace Go.Proofs.Ytjppphldiaonkaa.Rt
open Go Go.Proofs Sx
set_option maxRecDepth 100000
set_option linter.unusedVariables false
set_option linter.unusedSimpArgs false
set_option maxHeartbeats 4000000

theorem rremove_spec (A : Option Addr) (cp : Nat) (l : List R) (net bits cost : Int) (hc : l.length ≤ cp) (hl : l.length ≤ 100000) :
    Does Try.prog 40 #[.slice A l.length cp, .int .u32 net, .int .i64 bits, .int .i64 cost] (fun f => Reads f A (RL.flat l)) []
      (fun v p => (v = .tuple #[.slice A l.length cp, .int .i64 6] ∧ p = [] ∧ ∀ x ∈ l, hit net bits cost x = false) ∨
        ∃ (i : Nat) (x : R) (pl : Plc) (c : Nat), l[i]? = some x ∧ hit net bits cost x = true ∧ v = .tuple #[.slice (locAddr 0 pl) (l.length - 1) c, .int .i64 0] ∧ l.length - 1 ≤ c ∧ p = [Vec pl 26 5 c (RL.flat (l.eraseIdx i))]) := by
  refine Does.ofJ Try.func40 Try.call40 rfl [.raw (.slice A l.length cp), .int .u32 net, .int .i64 bits, .int .i64 cost] [] 0 [] rfl rfl (fun h k => k) (fun f hR => ?_)
  refine call_ix (place_spec A cp l net bits cost (by omega)) rfl [] (fun h k => k) (fun f' b' hs _ => hR.frame hs) ?_
  rintro v p ⟨r, rfl, hp, rfl⟩
  refine ⟨.int .i64 r, _, 0, [], NmExt.refl _, rfl, fun h k => trivial, ?_⟩
  rcases hp with ⟨rfl, hall⟩ | ⟨i, x, rfl, hx, hh⟩
  · refine CondOb.split (fun _ => ?_) (fun h => absurd h (by simp))
    exact FinOb.mk [.slice A l.length cp, .int .i64 6] [] rfl (fun h k => trivial) (.inl ⟨rfl, rfl, hall⟩)
  refine CondOb.split (fun g => absurd g (by simp)) (fun _ => ?_)
  have hi : i < l.length := by
    rcases Nat.lt_or_ge i l.length with h | h
    · exact h
    · rw [List.getElem?_eq_none h] at hx; cases hx
  have e1 : IntKind.i64.wrap ((i : Int) + 1) = i + 1 := w64 (by omega) (by omega)
  refine DrawOb.mk [(0, [1, 2, 3, 5, 6, 7, 8]), (4, [5, 6, 7, 8])] (.run [1, 2, 3, 5, 6, 7, 8, 0, 4, 9, 10, 11] .nil) (by kernel_rfl) ?_
  refine Need.mk (by omega) ?_
  refine Need.mk (by rw [e1]; omega) ?_
  intro b1
  have hP : (RL.flat (l.take i)).length = i * 5 := by rw [lR, List.length_take, Nat.min_eq_left (by omega)]
  have hQ : (RL.flat (l.drop (i + 1))).length = (l.length - (i + 1)) * 5 := by rw [lR, List.length_drop]
  have e2 : (IntKind.i64.wrap ((i : Int) + 1)).toNat = i + 1 := by rw [e1]; omega
  refine SrcF.mk (RL.flat (l.take i)) hP (by have := hR.take (i * 5); rw [show RL.flat (l.take i) = _ from (RL.flat_take l i).symm]; exact this) ?_
  refine StOb.mk [] rfl (Need.mk (by simp) (Need.mk ⟨by omega, by simp only [maxLen]; omega, RL.flat_one' _⟩ ?_))
  refine NewSl.any (fun l2 c2 hc2 => ?_)
  refine SrcF.mk (RL.flat (l.drop (i + 1))) (by rw [e2]; exact hQ) (by rw [e2]; exact Reads.flatTail hR cp (i + 1) hc) ?_
  refine Need.mk (by simp only [Int.toNat_natCast, Nat.zero_add, Nat.zero_mul, List.take_zero, List.nil_append, hP] at *; omega) ?_
  refine Need.mk (by rw [e2]; exact ⟨by omega, by simp only [maxLen]; omega, RL.flat_one' _⟩) ?_
  refine NewSl.any (fun l3 c3 hc3 => ?_)
  rw [e2] at hc3
  have e : 0 + (i : Int).toNat + (l.length - (i + 1)) = l.length - 1 := by omega
  refine FinOb.mk [.slice (locAddr 0 l3) (l.length - 1) c3, .int .i64 0] [Vec l3 26 5 c3 (RL.flat (l.eraseIdx i))] (by rw [e2, e]; rfl) (fun h k => sat_pick 0 rfl (fun _ k9 => ?_) (fun h k => sat_nil k) k) (.inr ⟨i, x, l3, c3, hx, hh, rfl, by omega, rfl⟩)
  have kk := vec_to (l := l3) rfl k9
  simp only [Int.toNat_natCast, Nat.zero_add, Nat.zero_mul, List.take_zero, List.nil_append, List.drop_zero] at kk
  rw [List.take_of_length_le (l := RL.flat (l.take i)) (by rw [hP]; exact Nat.le_refl _), ← RL.flat_append, ← List.eraseIdx_eq_take_drop_succ] at kk
  exact kk
end Go.Proofs.Ytjppphldiaonkaa.Rt
