/- agenda: the reference's Move. Conditions: none. -/
import Derived.Test.YtiknkeakielncaaAgS
namespace Go.Proofs.Ytiknkeakielncaa.Ag
open Go Go.Proofs Sx
set_option maxRecDepth 100000
set_option linter.unusedVariables false
set_option linter.unusedSimpArgs false
set_option maxHeartbeats 4000000

theorem flat_part {α : Type} (e : Lay α) {l : List α} {i : Nat} {a a' : α} (h : l[i]? = some a) (j : Nat) {vs : List Value} (hj : j + vs.length ≤ e.sz) (hv : putV (e.cells a) j vs = e.cells a') : putV (e.flat l) (i * e.sz + j) vs = e.flat (l.set i a') := by
  have hi := (List.getElem?_eq_some_iff.1 h).1
  have e1 : e.flat l = e.flat (l.take i) ++ (e.cells a ++ e.flat (l.drop (i + 1))) := by rw [← e.flat_drop h, ← e.flat_split]
  have hlen : i * e.sz = (e.flat (l.take i)).length := by rw [e.flat_length]; simp [Nat.min_eq_left (Nat.le_of_lt hi)]
  rw [e1, hlen, putV_pre, putV_post _ _ _ _ (by rw [e.len]; exact hj), hv, List.set_eq_take_append_cons_drop, if_pos hi, e.flat_append, e.flat_cons]
theorem ref_move (A : Option Addr) (cp : Nat) (l : List En) (id x r : Int) (hid : Ids l) (hl : l.length ≤ 90000) :
    Does Try.prog 56 #[.slice A l.length cp, .int .i64 id, .int .i64 x, .int .i64 r] (fun f => Reads f A (TL.flat l)) []
      (fun v p => (v = .tuple #[.slice A l.length cp, .int .i64 6] ∧ l.find? (fun t => id == t.id) = none ∧ p = []) ∨
        ∃ pl c, (l.find? (fun t => id == t.id)).isSome = true ∧ v = .tuple #[.slice (locAddr 0 pl) l.length c, .int .i64 0] ∧ l.length ≤ c ∧ p = [Vec pl 65 3 c (TL.flat (l.map (mv id x r)))]) := by
  refine Does.ofJ Try.func56 Try.call56 rfl [.raw (.slice A l.length cp), .int .i64 id, .int .i64 x, .int .i64 r] [] 0 [] rfl rfl (fun h k => k) (fun f hR => ?_)
  refine call_ix (place_spec A cp l id (by omega)) rfl [] (fun h k => k) (fun f' b' hs _ => hR.frame hs) ?_
  rintro v p ⟨q, rfl, hp, rfl⟩
  refine ⟨.int .i64 q, _, 0, [], NmExt.refl _, rfl, fun h k => trivial, ?_⟩
  have hfd := found_find hp
  rcases hp with ⟨rfl, hn⟩ | ⟨i, y, rfl, hy, hyi⟩
  · refine CondOb.split (fun _ => ?_) (fun h => absurd h (by simp))
    exact FinOb.mk [.slice A l.length cp, .int .i64 6] [] rfl (fun h k => trivial) (.inl ⟨rfl, find_none.2 hn, rfl⟩)
  refine CondOb.split (fun g => absurd g (by simp)) (fun _ => ?_)
  have hil := (List.getElem?_eq_some_iff.1 hy).1
  intro b1
  refine SrcF.mk (TL.flat l) (lT l) hR ?_
  refine StOb.mk [] rfl (Need.mk (by simp) (Need.mk ⟨by omega, by simp only [maxLen]; omega, TL.flat_one' _⟩ ?_))
  refine NewSl.pos (by omega) (fun b2 o2 c2 hc2 => ?_)
  have hni : (0 : Int) ≤ (i : Int) ∧ (i : Int) < ((0 + l.length : Nat) : Int) := by omega
  refine Need.mk hni ?_
  have e0 : List.take (0 * 3) (List.drop 0 []) ++ TL.flat l = TL.flat l := by rw [Nat.zero_mul, List.take_zero, List.nil_append]
  have p1 : putV (List.take (0 * 3) (List.drop 0 []) ++ TL.flat l) (0 + (i : Int).toNat * 3 + 1) [.int .i64 x] = TL.flat (l.set i { y with at_ := x }) := by
    rw [e0, Int.toNat_natCast, Nat.zero_add]
    exact flat_part TL hy 1 (by show 1 + 1 ≤ 3; omega) rfl
  have hy1 : (l.set i { y with at_ := x })[i]? = some { y with at_ := x } := by rw [List.getElem?_set, if_pos rfl, if_pos hil]
  have p2 : putV (TL.flat (l.set i { y with at_ := x })) (0 + (i : Int).toNat * 3 + 2) [.int .i64 r] = TL.flat (l.map (mv id x r)) := by
    rw [Int.toNat_natCast, Nat.zero_add]
    have h := flat_part TL (a' := { y with at_ := x, rank := r }) hy1 2 (vs := [.int .i64 r]) (by show 2 + 1 ≤ 3; omega) rfl
    rw [List.set_set, mv_set hid hy x r] at h
    rw [← hyi]
    exact h
  refine StOb.mk [.int .i64 x] rfl (Need.mk (by rw [e0, lT, Int.toNat_natCast]; show 0 + i * 3 + 1 + 1 ≤ l.length * 3; omega) ?_)
  refine Need.mk hni ?_
  rw [p1]
  refine StOb.mk [.int .i64 r] rfl (Need.mk (by rw [lT, Int.toNat_natCast, List.length_set]; show 0 + i * 3 + 2 + 1 ≤ l.length * 3; omega) ?_)
  rw [p2]
  refine FinOb.mk [.slice (some ⟨b2, o2, none⟩) (0 + l.length) c2, .int .i64 0] [Vec (.at b2 o2) 65 3 c2 (TL.flat (l.map (mv id x r)))] rfl (fun h k => sat_pick 0 rfl (fun _ k => vec_to rfl k) (fun h k => sat_nil k) k) (.inr ⟨.at b2 o2, c2, by rw [hfd]; exact decide_eq_true (by omega), by simp [ret1, locAddr], by omega, rfl⟩)
end Go.Proofs.Ytiknkeakielncaa.Ag
