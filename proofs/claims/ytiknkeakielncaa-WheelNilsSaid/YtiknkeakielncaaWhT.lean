/- wheel: WheelFull, walked. Conditions: none. -/
import Derived.Test.YtiknkeakielncaaWhS
namespace Go.Proofs.Ytiknkeakielncaa.Wh
open Go Go.Proofs Sx
set_option maxRecDepth 100000
set_option linter.unusedVariables false
set_option linter.unusedSimpArgs false
set_option maxHeartbeats 4000000

def fullL (k : Nat) : List T := (List.range (min k 4096)).map fun j : Nat => ⟨j, j, j⟩
theorem full_length (k : Nat) : (fullL k).length = min k 4096 := by simp [fullL]
theorem full_find (k : Nat) (id : Int) (h : ∀ j : Nat, j < min k 4096 → (j : Int) ≠ id) : (fullL k).find? (fun t => id == t.id) = none := by
  rw [find_none]
  intro t ht
  obtain ⟨j, hj, rfl⟩ := List.mem_map.1 ht
  exact h j (List.mem_range.1 hj)
theorem full_step (k : Nat) : setC (fullL k) k k = (if k < 4096 then 0 else 5) ∨ ¬ k ≤ 100000 := by
  by_cases hk : k ≤ 100000
  · left
    have hf := full_find k k (fun j hj => by omega)
    unfold setC
    rw [if_neg (by show ¬ ((k : Int) < 0 ∨ 1099511627776 < (k : Int)); omega), full_length, hf]
    by_cases h : k < 4096
    · rw [if_pos h, if_neg (fun q => by have := q.2; omega)]
    · rw [if_neg h, if_pos ⟨rfl, by omega⟩]
  · right; exact hk
theorem full_next (k : Nat) (hk : k ≤ 100000) : setL (fullL k) k k (min k 4096 : Nat) = fullL (k + 1) ∧ setN (fullL k) k k (min k 4096 : Nat) = (min (k + 1) 4096 : Nat) := by
  have h1 := (full_step k).resolve_right (fun q => q hk)
  have hf := full_find k k (fun j hj => by omega)
  unfold setL setN
  rw [h1]
  by_cases h : k < 4096
  · rw [if_pos h, if_pos rfl, if_pos rfl, without_none (find_none.1 hf)]
    refine ⟨?_, by omega⟩
    unfold fullL
    rw [show min (k + 1) 4096 = min k 4096 + 1 by omega, List.range_succ, List.map_append, show min k 4096 = k by omega]
    rfl
  · rw [if_neg h, if_neg (by decide), if_neg (by decide)]
    refine ⟨?_, by omega⟩
    unfold fullL
    rw [show min (k + 1) 4096 = min k 4096 by omega]
theorem full_last (k : Nat) (x : Int) (x0 : 0 ≤ x) (x1 : x ≤ 65535) (no : Int) : setC (fullL k) 0 x = 0 ∧ (setL (fullL k) 0 x no).length = min (max k 1) 4096 := by
  have hc : setC (fullL k) 0 x = 0 := by
    unfold setC
    rw [if_neg (by show ¬ (x < 0 ∨ 1099511627776 < x); omega), full_length, if_neg]
    rintro ⟨h1, h2⟩
    rw [find_none] at h1
    exact h1 ⟨(0 : Nat), (0 : Nat), (0 : Nat)⟩ (List.mem_map.2 ⟨(0 : Nat), List.mem_range.2 (by omega), rfl⟩) rfl
  refine ⟨hc, ?_⟩
  unfold setL
  rw [if_pos hc, List.length_append, List.length_singleton]
  have e : without 0 (fullL k) = (fullL k).drop 1 := by
    unfold fullL
    cases hm : min k 4096 with
    | zero => rfl
    | succ n =>
      rw [List.range_succ_eq_map, List.map_cons]
      unfold without
      rw [List.filter_cons_of_neg (by simp), List.drop_one, List.tail_cons, List.filter_eq_self]
      intro t ht
      simp only [List.map_map, List.mem_map] at ht
      obtain ⟨j, _, rfl⟩ := ht
      simp; omega
  rw [e, List.length_drop, full_length]
  omega
theorem full_spec (n x : Int) (n0 : 0 ≤ n) (n1 : n ≤ 65535) (x0 : 0 ≤ x) (x1 : x ≤ 65535) : Does Try.prog 7 #[.int .u16 n, .int .u16 x] (fun _ => True) [] (fun v p => v = .bool true ∧ p = []) := by
  refine Does.ofJ Try.func7 Try.call7 rfl [.int .u16 n, .int .u16 x] [] 0 [] rfl rfl (fun h k => k) (fun f hR => ?_)
  refine call_ix (wnew_spec 0 (by decide) (by decide)) rfl [] (fun h k => k) (fun _ _ _ _ => trivial) ?_
  rintro v post ⟨b, rfl, rfl⟩
  refine ⟨.tuple [.raw (.pointer (some ⟨b, 0, none⟩)), .int .i64 0], _, 0, [.asn (WrA b 0 0 [])], NmExt.refl _, rfl, (fun h k => sat_pick 0 rfl (by first | exact fun _ k => k | exact fun _ k => blk_to rfl rfl k | exact fun _ k => vec_to rfl k | exact fun _ k => blk_of rfl rfl k | exact fun _ k => vec_of rfl k | exact fun _ k => blk_of rfl rfl (blk_to rfl rfl k) | exact fun _ k => vec_of rfl (vec_to rfl k) | exact fun _ k => mp_to rfl k | exact fun _ k => mp_of rfl k | exact fun _ k => mp_of rfl (mp_to rfl k)) (fun h k => sat_nil k) k), ?_⟩
  refine RegOb.go ?_
  refine useP (.int .i64 0) (code_spec 0) rfl rfl ?_
  refine Br.mk (fun h => absurd h (by decide)) (fun _ => ?_)
  refine Need.mk (by decide) ?_
  obtain ⟨k, hk⟩ := Int.eq_ofNat_of_zero_le (show 0 ≤ n % 4200 by omega)
  have hk2 : k < 4200 := by omega
  refine LoopOb.mk { z : Nat // z ≤ k ∧ PL 0 (min z 4096 : Nat) (fullL z) } (fun z => ⟨67, [(0, .int .u16 n), (1, .int .u16 x), (5, .raw (.pointer (some ⟨b, 0, none⟩))), (7, .int .i64 k), (8, .int .i64 z.1)], [], 0, [.asn (WrA b 0 (min z.1 4096 : Nat) (fullL z.1))]⟩) (fun z => k - z.1) ⟨0, Nat.zero_le _, PL.emp (x := 0) (by decide) (by decide)⟩ ?_ ?_
  · exact Le.of rfl ⟨⟨_, rfl, rfl⟩, ⟨_, rfl, rfl⟩, ⟨_, rfl, rfl⟩, ⟨_, rfl, (congrArg (fun q : Int => some (Value.int .i64 q)) (by rw [w64 (by omega) (by omega), Int.tmod_eq_emod_of_nonneg n0]; exact hk))⟩, ⟨_, rfl, rfl⟩, trivial⟩ (fun h k => sat_pick 0 rfl (by first | exact fun _ k => k | exact fun _ k => blk_to rfl rfl k | exact fun _ k => vec_to rfl k | exact fun _ k => blk_of rfl rfl k | exact fun _ k => vec_of rfl k | exact fun _ k => blk_of rfl rfl (blk_to rfl rfl k) | exact fun _ k => vec_of rfl (vec_to rfl k) | exact fun _ k => mp_to rfl k | exact fun _ k => mp_of rfl k | exact fun _ k => mp_of rfl (mp_to rfl k)) (fun h k => sat_nil k) k)
  rintro ⟨i, hi, hp⟩
  have e8 : ∀ i : Nat, i ≤ k → IntKind.i64.wrap ((i : Int) + 1) = ((i + 1 : Nat) : Int) := fun i h => by rw [w64 (by omega) (by omega)]; omega
  refine CondOb.split (fun g => ?_) (fun g => ?_)
  · have g : i < k := by
      have g := of_decide_eq_true g
      have : (i : Int) < (k : Int) := g
      omega
    have h1 := (full_step i).resolve_right (fun q => q (by omega))
    obtain ⟨h2, h3⟩ := full_next i (by omega)
    have hs := wset_spec b 0 (min i 4096 : Nat) (fullL i) hp (by show ((min i 4096 : Nat) : Int) ≤ 4611686018427387904; omega) i i
    have hp2 := pl_set hp (i : Int) (i : Int)
    rw [h2, h3] at hs hp2
    have hle : ∀ h : PL 0 (min (i + 1) 4096 : Nat) (fullL (i + 1)), True := fun _ => trivial
    refine call_ix hs rfl [0] (fun h k => sat_pick 0 rfl (by first | exact fun _ k => k | exact fun _ k => blk_to rfl rfl k | exact fun _ k => vec_to rfl k | exact fun _ k => blk_of rfl rfl k | exact fun _ k => vec_of rfl k | exact fun _ k => blk_of rfl rfl (blk_to rfl rfl k) | exact fun _ k => vec_of rfl (vec_to rfl k) | exact fun _ k => mp_to rfl k | exact fun _ k => mp_of rfl k | exact fun _ k => mp_of rfl (mp_to rfl k)) (fun h k => sat_nil k) k) (fun _ _ _ _ => trivial) ?_
    rintro v post ⟨rfl, rfl⟩
    refine ⟨.int .i64 (setC (fullL i) i i), _, 0, [.asn (WrA b 0 (min (i + 1) 4096 : Nat) (fullL (i + 1)))], NmExt.refl _, rfl, (fun h k => sat_pick 0 rfl (by first | exact fun _ k => k | exact fun _ k => blk_to rfl rfl k | exact fun _ k => vec_to rfl k | exact fun _ k => blk_of rfl rfl k | exact fun _ k => vec_of rfl k | exact fun _ k => blk_of rfl rfl (blk_to rfl rfl k) | exact fun _ k => vec_of rfl (vec_to rfl k) | exact fun _ k => mp_to rfl k | exact fun _ k => mp_of rfl k | exact fun _ k => mp_of rfl (mp_to rfl k)) (fun h k => sat_nil k) k), ?_⟩
    rw [h1]
    by_cases hc : i < 4096
    · rw [if_pos hc]
      refine RegOb.go ?_
      refine useP (.int .i64 0) (code_spec 0) rfl rfl ?_
      refine Br.mk (fun g2 => ?_) (fun g2 => ?_)
      · have g2 : (false != decide ((i : Int) ≥ 4096)) = true := g2
        simp at g2; omega
      refine useP (.int .i64 0) (code_spec 0) rfl rfl ?_
      refine Br.mk (fun g2 => absurd g2 (by decide)) (fun _ => ?_)
      exact ⟨⟨i + 1, g, hp2⟩, by show k - (i + 1) < k - i; omega, Le.of rfl ⟨⟨_, rfl, rfl⟩, ⟨_, rfl, rfl⟩, ⟨_, rfl, rfl⟩, ⟨_, rfl, rfl⟩, ⟨_, rfl, congrArg (fun z => some (Value.int .i64 z)) (e8 i hi)⟩, trivial⟩ (fun h k => sat_pick 0 rfl (by first | exact fun _ k => k | exact fun _ k => blk_to rfl rfl k | exact fun _ k => vec_to rfl k | exact fun _ k => blk_of rfl rfl k | exact fun _ k => vec_of rfl k | exact fun _ k => blk_of rfl rfl (blk_to rfl rfl k) | exact fun _ k => vec_of rfl (vec_to rfl k) | exact fun _ k => mp_to rfl k | exact fun _ k => mp_of rfl k | exact fun _ k => mp_of rfl (mp_to rfl k)) (fun h k => sat_nil k) k)⟩
    · rw [if_neg hc]
      refine RegOb.go ?_
      refine useP (.int .i64 5) (code_spec 5) rfl rfl ?_
      refine Br.mk (fun g2 => ?_) (fun g2 => ?_)
      · have g2 : (true != decide ((i : Int) ≥ 4096)) = true := g2
        simp at g2; omega
      refine useP (.int .i64 5) (code_spec 5) rfl rfl ?_
      refine Br.mk (fun _ => ?_) (fun g2 => absurd g2 (by decide))
      refine CondOb.split (fun g3 => ?_) (fun _ => ?_)
      · have g3 := of_decide_eq_true g3
        have : (i : Int) < 4096 := g3
        omega
      exact ⟨⟨i + 1, g, hp2⟩, by show k - (i + 1) < k - i; omega, Le.of rfl ⟨⟨_, rfl, rfl⟩, ⟨_, rfl, rfl⟩, ⟨_, rfl, rfl⟩, ⟨_, rfl, rfl⟩, ⟨_, rfl, congrArg (fun z => some (Value.int .i64 z)) (e8 i hi)⟩, trivial⟩ (fun h k => sat_pick 0 rfl (by first | exact fun _ k => k | exact fun _ k => blk_to rfl rfl k | exact fun _ k => vec_to rfl k | exact fun _ k => blk_of rfl rfl k | exact fun _ k => vec_of rfl k | exact fun _ k => blk_of rfl rfl (blk_to rfl rfl k) | exact fun _ k => vec_of rfl (vec_to rfl k) | exact fun _ k => mp_to rfl k | exact fun _ k => mp_of rfl k | exact fun _ k => mp_of rfl (mp_to rfl k)) (fun h k => sat_nil k) k)⟩
  have g : i = k := by
    have g := of_decide_eq_false g
    have : ¬ (i : Int) < (k : Int) := g
    omega
  subst g
  have ex : IntKind.i64.wrap x = x := w64 (by omega) (by omega)
  have hs := wset_spec b 0 (min i 4096 : Nat) (fullL i) hp (by show ((min i 4096 : Nat) : Int) ≤ 4611686018427387904; omega) 0 x
  obtain ⟨hc, hl⟩ := full_last i x x0 x1 (min i 4096 : Nat)
  rw [hc] at hs
  refine call_ix hs (by rw [ex]; rfl) [0] (fun h k => sat_pick 0 rfl (by first | exact fun _ k => k | exact fun _ k => blk_to rfl rfl k | exact fun _ k => vec_to rfl k | exact fun _ k => blk_of rfl rfl k | exact fun _ k => vec_of rfl k | exact fun _ k => blk_of rfl rfl (blk_to rfl rfl k) | exact fun _ k => vec_of rfl (vec_to rfl k) | exact fun _ k => mp_to rfl k | exact fun _ k => mp_of rfl k | exact fun _ k => mp_of rfl (mp_to rfl k)) (fun h k => sat_nil k) k) (fun _ _ _ _ => trivial) ?_
  rintro v post ⟨rfl, rfl⟩
  refine ⟨.int .i64 0, _, 0, [.asn (WrA b 0 (setN (fullL i) 0 x (min i 4096 : Nat)) (setL (fullL i) 0 x (min i 4096 : Nat)))], NmExt.refl _, rfl, (fun h k => sat_pick 0 rfl (by first | exact fun _ k => k | exact fun _ k => blk_to rfl rfl k | exact fun _ k => vec_to rfl k | exact fun _ k => blk_of rfl rfl k | exact fun _ k => vec_of rfl k | exact fun _ k => blk_of rfl rfl (blk_to rfl rfl k) | exact fun _ k => vec_of rfl (vec_to rfl k) | exact fun _ k => mp_to rfl k | exact fun _ k => mp_of rfl k | exact fun _ k => mp_of rfl (mp_to rfl k)) (fun h k => sat_nil k) k), ?_⟩
  refine RegOb.go ?_
  refine useP (.int .i64 0) (code_spec 0) rfl rfl ?_
  refine Br.mk (fun _ => ?_) (fun h => absurd h (by decide))
  refine useA [] [] (.int .i64 (min (max i 1) 4096 : Nat)) (by have := wlen_spec b 0 (setN (fullL i) 0 x (min i 4096 : Nat)) (setL (fullL i) 0 x (min i 4096 : Nat)); rw [hl] at this; exact this) rfl rfl rfl ?_
  refine Br.mk (fun _ => ?_) (fun h => ?_)
  · refine useP .tt live_spec rfl rfl ?_
    exact FinOb.mk [.bool true] [] rfl (fun h k => trivial) ⟨rfl, rfl⟩
  · exfalso
    refine ne_of_beq_false h ?_
    repeat' split
    all_goals omega
end Go.Proofs.Ytiknkeakielncaa.Wh
