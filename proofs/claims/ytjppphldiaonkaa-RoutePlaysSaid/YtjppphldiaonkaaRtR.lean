/- route: a net's node is looked for. Conditions: none. -/
import Derived.Test.YtjppphldiaonkaaRtP
namespace Go.Proofs.Ytjppphldiaonkaa.Rt
open Go Go.Proofs Sx
set_option maxRecDepth 100000
set_option linter.unusedVariables false
set_option linter.unusedSimpArgs false
set_option maxHeartbeats 4000000

theorem bit_two (q : Int) : ((q % 2).toNat = 0 ∨ (q % 2).toNat = 1) ∧ 0 ≤ q % 2 ∧ q % 2 < 2 := by omega
theorem net_get (tb : Nat) (n : Int) (T : List Nd) (hi : TI tb T) (a : Int) (a0 : 0 ≤ a) (a1 : a ≤ 4294967295) (k : Nat) (hk : k ≤ 32) :
    Does Try.prog 43 #[.pointer (some ⟨tb, 0, none⟩), .int .u32 a, .int .i64 k, .bool false] (fun _ => True) [Bs n T] (fun v p => v = kidP (keys T) (netOf a k) k ∧ p = [Bs n T]) := by
  refine Does.ofJ Try.func43 Try.call43 rfl [.raw (.pointer (some ⟨tb, 0, none⟩)), .int .u32 a, .int .i64 k, .ff] [] 0 [.asn (Bs n T)] rfl rfl (fun h k => sat_pick 0 rfl (by first | exact fun _ k => k | exact fun _ k => blk_to rfl rfl k | exact fun _ k => vec_to rfl k | exact fun _ k => blk_of rfl rfl k | exact fun _ k => vec_of rfl k | exact fun _ k => blk_of rfl rfl (blk_to rfl rfl k) | exact fun _ k => vec_of rfl (vec_to rfl k) | exact fun _ k => mp_to rfl k | exact fun _ k => mp_of rfl k | exact fun _ k => mp_of rfl (mp_to rfl k)) (fun h k => sat_nil k) k) (fun f hR => ?_)
  obtain ⟨r, hr, hrx, hrk, hrb⟩ := hi.at0
  refine LoopOb.mk { m : Nd // m ∈ T ∧ m.k ≤ k ∧ m.x = netOf a m.k } (fun z => ⟨46, [(0, .raw (.pointer (some ⟨tb, 0, none⟩))), (1, .int .u32 a), (2, .int .i64 k), (3, .ff), (9, .raw (.pointer (some ⟨z.1.b, 0, none⟩))), (15, .int .i64 k), (16, .int .i64 z.1.k)], [], 0, [.asn (Bs n T)]⟩) (fun z => k - z.1.k)
    ⟨r, hr, by omega, by rw [hrx, hrk, netOf_zero a a0 a1]⟩ ?_ ?_
  · refine Le.of rfl ⟨⟨_, rfl, rfl⟩, ⟨_, rfl, rfl⟩, ⟨_, rfl, rfl⟩, ⟨_, rfl, rfl⟩, ⟨_, rfl, ?_⟩, ⟨_, rfl, rfl⟩, ⟨_, rfl, ?_⟩, trivial⟩ (fun h k => sat_pick 0 rfl (by first | exact fun _ k => k | exact fun _ k => blk_to rfl rfl k | exact fun _ k => vec_to rfl k | exact fun _ k => blk_of rfl rfl k | exact fun _ k => vec_of rfl k | exact fun _ k => blk_of rfl rfl (blk_to rfl rfl k) | exact fun _ k => vec_of rfl (vec_to rfl k) | exact fun _ k => mp_to rfl k | exact fun _ k => mp_of rfl k | exact fun _ k => mp_of rfl (mp_to rfl k)) (fun h k => sat_nil k) k)
    · show _ = some (Value.pointer (some ⟨r.b, 0, none⟩))
      rw [hrb]; rfl
    · show _ = some (Value.int .i64 r.k)
      rw [hrk]; rfl
  rintro ⟨m, hm, hmk, hmx⟩
  refine CondOb.split (fun g => ?_) (fun g => ?_)
  · have g : m.k < k := by
      have g := of_decide_eq_true g
      have : (m.k : Int) < k := g
      omega
    refine useP (.int .i64 (a / halfOf m.k % 2)) ((bit_spec a m.k a0 a1 (by omega) (by omega)).mono ?_) rfl rfl ?_
    · rintro v p ⟨rfl, rfl⟩
      refine ⟨?_, rfl⟩
      unfold halfOf
      rw [show (31 - (m.k : Int)).toNat = 31 - m.k by omega]
    obtain ⟨_, hb0, hb1⟩ := bit_two (a / halfOf m.k)
    refine Need.mk ⟨hb0, hb1⟩ ?_
    have hcell := kid_cell (T := T) (m := m) (a := a) (by omega) hmx
    have ho : ∀ h, sat [Bs n T] h → fcell h m.b (0 + 1 + (a / halfOf m.k % 2).toNat * 1) = some (kidP (keys T) (netOf a ((m.k + 1 : Nat) : Int)) (m.k + 1)) := fun h hh => by
      rw [Nat.zero_add, Nat.mul_one]
      exact sat_cell 0 rfl (fun x kx => bs_cell hm hcell x kx) hh
    cases e : nodeAt T (netOf a ((m.k + 1 : Nat) : Int)) (m.k + 1) with
    | none =>
      rw [kidP_no e] at ho
      refine RdRaw.told (.raw (.pointer none)) _ rfl ho ?_
      have hno : nodeAt T (netOf a (k : Int)) k = none := by
        cases e2 : nodeAt T (netOf a (k : Int)) k with
        | none => rfl
        | some m2 =>
          have := hi.wider a (k - (m.k + 1)) (m.k + 1) (by omega) (by rw [show m.k + 1 + (k - (m.k + 1)) = k by omega, e2]; simp)
          exact absurd e this
      exact FinOb.mk [.pointer none] [Bs n T] rfl (fun h k => sat_pick 0 rfl (by first | exact fun _ k => k | exact fun _ k => blk_to rfl rfl k | exact fun _ k => vec_to rfl k | exact fun _ k => blk_of rfl rfl k | exact fun _ k => vec_of rfl k | exact fun _ k => blk_of rfl rfl (blk_to rfl rfl k) | exact fun _ k => vec_of rfl (vec_to rfl k) | exact fun _ k => mp_to rfl k | exact fun _ k => mp_of rfl k | exact fun _ k => mp_of rfl (mp_to rfl k)) (fun h k => sat_nil k) k) ⟨(kidP_no hno).symm, rfl⟩
    | some m2 =>
      obtain ⟨h1, h2, h3⟩ := nodeAt_some e
      have ei : IntKind.i64.wrap ((m.k : Int) + 1) = (m2.k : Int) := by rw [h3, w64 (by omega) (by omega)]; omega
      rw [kidP_at e] at ho
      refine RdRaw.told (.raw (.pointer (some ⟨m2.b, 0, none⟩))) _ rfl ho ?_
      refine Need.mk ⟨hb0, hb1⟩ ?_
      refine RdRaw.told (.raw (.pointer (some ⟨m2.b, 0, none⟩))) _ rfl ho ?_
      refine ⟨⟨m2, h1, by omega, by rw [h2, h3]⟩, by show k - m2.k < k - m.k; omega, Le.of rfl ⟨⟨_, rfl, rfl⟩, ⟨_, rfl, rfl⟩, ⟨_, rfl, rfl⟩, ⟨_, rfl, rfl⟩, ⟨_, rfl, rfl⟩, ⟨_, rfl, rfl⟩, ⟨_, rfl, ?_⟩, trivial⟩ (fun h k => sat_pick 0 rfl (by first | exact fun _ k => k | exact fun _ k => blk_to rfl rfl k | exact fun _ k => vec_to rfl k | exact fun _ k => blk_of rfl rfl k | exact fun _ k => vec_of rfl k | exact fun _ k => blk_of rfl rfl (blk_to rfl rfl k) | exact fun _ k => vec_of rfl (vec_to rfl k) | exact fun _ k => mp_to rfl k | exact fun _ k => mp_of rfl k | exact fun _ k => mp_of rfl (mp_to rfl k)) (fun h k => sat_nil k) k)⟩
      exact congrArg (fun z => some (Value.int .i64 z)) ei
  · have g : m.k = k := by
      have g := of_decide_eq_false g
      have : ¬ (m.k : Int) < k := g
      omega
    refine FinOb.mk [.pointer (some ⟨m.b, 0, none⟩)] [Bs n T] rfl (fun h k => sat_pick 0 rfl (by first | exact fun _ k => k | exact fun _ k => blk_to rfl rfl k | exact fun _ k => vec_to rfl k | exact fun _ k => blk_of rfl rfl k | exact fun _ k => vec_of rfl k | exact fun _ k => blk_of rfl rfl (blk_to rfl rfl k) | exact fun _ k => vec_of rfl (vec_to rfl k) | exact fun _ k => mp_to rfl k | exact fun _ k => mp_of rfl k | exact fun _ k => mp_of rfl (mp_to rfl k)) (fun h k => sat_nil k) k) ⟨?_, rfl⟩
    subst g
    rw [← hmx, kidP_at (nodeAt_self hi.nd hm)]; rfl
end Go.Proofs.Ytjppphldiaonkaa.Rt
