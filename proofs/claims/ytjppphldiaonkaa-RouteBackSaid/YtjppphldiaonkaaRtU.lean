/- route: New, Len, Ways, Find. Conditions: none. -/
import Derived.Test.YtjppphldiaonkaaRtT
namespace Go.Proofs.Ytjppphldiaonkaa.Rt
open Go Go.Proofs Sx
set_option maxRecDepth 100000
set_option linter.unusedVariables false
set_option linter.unusedSimpArgs false
set_option maxHeartbeats 4000000

def rootNd (tb : Nat) : Nd := ⟨0, 0, tb, .nil, 0, []⟩
theorem TI.new (tb : Nat) : TI tb [rootNd tb] := by
  have one : ∀ {φ : Nd → Prop}, φ (rootNd tb) → ∀ q ∈ [rootNd tb], φ q := fun h q hq => by
    simp only [List.mem_singleton] at hq
    subst hq; exact h
  exact ⟨⟨_, [], rfl, rfl, rfl, rfl⟩, by simp, one ⟨by show 0 ≤ 32; decide, by show (0 : Int) ≤ 0; decide, by show (0 : Int) ≤ 4294967295; decide, by show netOf 0 0 = 0; decide⟩, one (fun j hj => by cases hj), one (fun i j x y h => by simp [rootNd] at h), one (fun w hw => by simp [rootNd] at hw), one (Nat.le_refl _), one (fun h => absurd rfl h)⟩
theorem new_spec : Does Try.prog 39 #[] (fun _ => True) [] (fun v p => ∃ tb, v = .pointer (some ⟨tb, 0, none⟩) ∧ p = [Bs 0 [rootNd tb], Vs [rootNd tb]]) := by
  refine Does.ofJ Try.func39 Try.call39 rfl [] [] 0 [] rfl rfl (fun h k => k) (fun f hR => ?_)
  intro b
  refine FinOb.mk [.pointer (some ⟨b, 0, none⟩)] [Bs 0 [rootNd b], Vs [rootNd b]] rfl (fun h k => sat_pick 0 rfl (fun _ k => ?_) (fun h k => sat_add (show Vs [rootNd b] HP.emp from sat_add vec_emp trivial) ((fun h k => sat_nil k) h k)) k) ⟨b, rfl, rfl⟩
  have k := blk_to rfl rfl k
  exact ⟨_, HP.emp, .emp_right _, k, trivial⟩
theorem len_spec (tb : Nat) (n : Int) (T : List Nd) (hi : TI tb T) : Does Try.prog 21 #[.pointer (some ⟨tb, 0, none⟩)] (fun _ => True) [Bs n T] (fun v p => v = .int .i64 n ∧ p = [Bs n T]) := by
  refine Does.ofJ Try.func21 Try.call21 rfl [.raw (.pointer (some ⟨tb, 0, none⟩))] [] 0 [.asn (Bs n T)] rfl rfl (fun h k => sat_pick 0 rfl (by first | exact fun _ k => k | exact fun _ k => blk_to rfl rfl k | exact fun _ k => vec_to rfl k | exact fun _ k => blk_of rfl rfl k | exact fun _ k => vec_of rfl k | exact fun _ k => blk_of rfl rfl (blk_to rfl rfl k) | exact fun _ k => vec_of rfl (vec_to rfl k) | exact fun _ k => mp_to rfl k | exact fun _ k => mp_of rfl k | exact fun _ k => mp_of rfl (mp_to rfl k)) (fun h k => sat_nil k) k) (fun f hR => ?_)
  refine RdRaw.told (.int .i64 n) _ rfl (fun h k => sat_cell 0 rfl (fun x kx => bs_n hi x kx) k) ?_
  exact FinOb.mk [.int .i64 n] [Bs n T] rfl (fun h k => sat_pick 0 rfl (by first | exact fun _ k => k | exact fun _ k => blk_to rfl rfl k | exact fun _ k => vec_to rfl k | exact fun _ k => blk_of rfl rfl k | exact fun _ k => vec_of rfl k | exact fun _ k => blk_of rfl rfl (blk_to rfl rfl k) | exact fun _ k => vec_of rfl (vec_to rfl k) | exact fun _ k => mp_to rfl k | exact fun _ k => mp_of rfl k | exact fun _ k => mp_of rfl (mp_to rfl k)) (fun h k => sat_nil k) k) ⟨rfl, rfl⟩
def waysAt (T : List Nd) (x : Int) (k : Nat) : List R := match nodeAt T x k with
  | some m => m.ws
  | none => []
/-- The ways to an address, of the nets down to a depth, the narrowest first. -/
def accW (T : List Nd) (a : Int) : Nat → List R
  | 0 => []
  | i + 1 => waysAt T (netOf a (i : Int)) i ++ accW T a i
theorem accW_none {tb : Nat} {T : List Nd} (hi : TI tb T) {a : Int} {i : Nat} (h : nodeAt T (netOf a (i : Int)) i = none) : ∀ d, i + d ≤ 33 → accW T a (i + d) = accW T a i
  | 0, _ => rfl
  | d + 1, hd => by
    have hn : nodeAt T (netOf a ((i + d : Nat) : Int)) (i + d) = none := by
      cases e : nodeAt T (netOf a ((i + d : Nat) : Int)) (i + d) with
      | none => rfl
      | some m => exact absurd h (hi.wider a d i (by omega) (by rw [e]; simp))
    show waysAt T (netOf a ((i + d : Nat) : Int)) (i + d) ++ accW T a (i + d) = _
    unfold waysAt
    rw [hn, List.nil_append]
    exact accW_none hi h d (by omega)
theorem accW_len {T : List Nd} (hf : ∀ m ∈ T, m.ws.length ≤ 64) (a : Int) : ∀ i, (accW T a i).length ≤ i * 64
  | 0 => Nat.zero_le _
  | i + 1 => by
    have ih := accW_len hf a i
    show (waysAt T (netOf a (i : Int)) i ++ accW T a i).length ≤ _
    rw [List.length_append]
    have : (waysAt T (netOf a (i : Int)) i).length ≤ 64 := by
      unfold waysAt
      split
      · rename_i m e
        exact hf m (nodeAt_some e).1
      · exact Nat.zero_le _
    omega
theorem kidP_map (T : List Nd) (x : Int) (k : Nat) : kidP (keys T) x k = .pointer ((nodeAt T x k).map fun m => ⟨m.b, 0, none⟩) := by
  cases e : nodeAt T x k with
  | none => exact kidP_no e
  | some m => exact kidP_at e
theorem ways_spec (tb : Nat) (n : Int) (T : List Nd) (hi : TI tb T) (hf : ∀ m ∈ T, m.ws.length ≤ 64) (a : Int) (a0 : 0 ≤ a) (a1 : a ≤ 4294967295) :
    Does Try.prog 19 #[.pointer (some ⟨tb, 0, none⟩), .int .u32 a] (fun _ => True) [Bs n T, Vs T]
      (fun v p => ∃ (pl : Plc) (c : Nat), v = .slice (locAddr 0 pl) (accW T a 33).length c ∧ (accW T a 33).length ≤ c ∧ (0 < (accW T a 33).length → ∃ b o, pl = .at b o) ∧ p = [Bs n T, Vs T, Vec pl 26 5 c (RL.flat (accW T a 33))]) := by
  refine Does.ofJ Try.func19 Try.call19 rfl [.raw (.pointer (some ⟨tb, 0, none⟩)), .int .u32 a] [] 0 [.asn (Bs n T), .asn (Vs T)] rfl rfl (fun h k => sat_pick 0 rfl (by first | exact fun _ k => k | exact fun _ k => blk_to rfl rfl k | exact fun _ k => vec_to rfl k | exact fun _ k => blk_of rfl rfl k | exact fun _ k => vec_of rfl k | exact fun _ k => blk_of rfl rfl (blk_to rfl rfl k) | exact fun _ k => vec_of rfl (vec_to rfl k) | exact fun _ k => mp_to rfl k | exact fun _ k => mp_of rfl k | exact fun _ k => mp_of rfl (mp_to rfl k)) (fun h k => sat_pick 0 rfl (by first | exact fun _ k => k | exact fun _ k => blk_to rfl rfl k | exact fun _ k => vec_to rfl k | exact fun _ k => blk_of rfl rfl k | exact fun _ k => vec_of rfl k | exact fun _ k => blk_of rfl rfl (blk_to rfl rfl k) | exact fun _ k => vec_of rfl (vec_to rfl k) | exact fun _ k => mp_to rfl k | exact fun _ k => mp_of rfl k | exact fun _ k => mp_of rfl (mp_to rfl k)) (fun h k => sat_nil k) k) k) (fun f hR => ?_)
  obtain ⟨r, hr, hrx, hrk, hrb⟩ := hi.at0
  have hr0 : nodeAt T (netOf a ((0 : Nat) : Int)) 0 = some r := by rw [netOf_zero a a0 a1, ← hrx, ← hrk]; exact nodeAt_self hi.nd hr
  refine LoopOb.mk { z : Nat × Option Nd × Plc × Nat // z.1 ≤ 32 ∧ z.2.1 = nodeAt T (netOf a (z.1 : Int)) z.1 ∧ (accW T a z.1).length ≤ z.2.2.2 ∧ (0 < (accW T a z.1).length → ∃ b o, z.2.2.1 = .at b o) }
    (fun z => ⟨36, [(0, .raw (.pointer (some ⟨tb, 0, none⟩))), (1, .int .u32 a), (5, .sl 0 0 (accW T a z.1.1).length z.1.2.2.2), (6, .raw (.pointer (z.1.2.1.map fun m => ⟨m.b, 0, none⟩))), (7, .int .i64 z.1.1)], [(0, z.1.2.2.1)], 1, [.asn (Bs n T), .asn (Vs T), .vec 0 26 5 z.1.2.2.2 (RL.flat (accW T a z.1.1))]⟩) (fun z => 33 - z.1.1)
    ⟨(0, some r, .nil, 0), by omega, hr0.symm, Nat.zero_le _, fun h => absurd h (by show ¬ 0 < 0; omega)⟩ ?_ ?_
  · refine Le.of rfl ⟨⟨_, rfl, rfl⟩, ⟨_, rfl, rfl⟩, ⟨_, rfl, rfl⟩, ⟨_, rfl, ?_⟩, ⟨_, rfl, rfl⟩, trivial⟩ (fun h k => sat_pick 0 rfl (by first | exact fun _ k => k | exact fun _ k => blk_to rfl rfl k | exact fun _ k => vec_to rfl k | exact fun _ k => blk_of rfl rfl k | exact fun _ k => vec_of rfl k | exact fun _ k => blk_of rfl rfl (blk_to rfl rfl k) | exact fun _ k => vec_of rfl (vec_to rfl k) | exact fun _ k => mp_to rfl k | exact fun _ k => mp_of rfl k | exact fun _ k => mp_of rfl (mp_to rfl k)) (fun h k => sat_pick 0 rfl (by first | exact fun _ k => k | exact fun _ k => blk_to rfl rfl k | exact fun _ k => vec_to rfl k | exact fun _ k => blk_of rfl rfl k | exact fun _ k => vec_of rfl k | exact fun _ k => blk_of rfl rfl (blk_to rfl rfl k) | exact fun _ k => vec_of rfl (vec_to rfl k) | exact fun _ k => mp_to rfl k | exact fun _ k => mp_of rfl k | exact fun _ k => mp_of rfl (mp_to rfl k)) (fun h k => sat_add (vec_of rfl vec_emp) ((fun h k => sat_nil k) h k)) k) k)
    show _ = some (Value.pointer (some ⟨r.b, 0, none⟩))
    rw [hrb]; rfl
  rintro ⟨⟨i, om, pl, c⟩, hi32, hom, hic, hpl⟩
  simp only at hi32 hom hic hpl
  have hal := accW_len hf a i
  cases om with
  | none =>
    have e33 := accW_none hi hom.symm (33 - i) (by omega)
    rw [show i + (33 - i) = 33 by omega] at e33
    rw [e33]
    exact FinOb.mk [.slice (locAddr 0 pl) (accW T a i).length c] [Bs n T, Vs T, Vec pl 26 5 c (RL.flat (accW T a i))] rfl (fun h k => sat_pick 0 rfl (by first | exact fun _ k => k | exact fun _ k => blk_to rfl rfl k | exact fun _ k => vec_to rfl k | exact fun _ k => blk_of rfl rfl k | exact fun _ k => vec_of rfl k | exact fun _ k => blk_of rfl rfl (blk_to rfl rfl k) | exact fun _ k => vec_of rfl (vec_to rfl k) | exact fun _ k => mp_to rfl k | exact fun _ k => mp_of rfl k | exact fun _ k => mp_of rfl (mp_to rfl k)) (fun h k => sat_pick 0 rfl (by first | exact fun _ k => k | exact fun _ k => blk_to rfl rfl k | exact fun _ k => vec_to rfl k | exact fun _ k => blk_of rfl rfl k | exact fun _ k => vec_of rfl k | exact fun _ k => blk_of rfl rfl (blk_to rfl rfl k) | exact fun _ k => vec_of rfl (vec_to rfl k) | exact fun _ k => mp_to rfl k | exact fun _ k => mp_of rfl k | exact fun _ k => mp_of rfl (mp_to rfl k)) (fun h k => sat_pick 0 rfl (fun _ k => vec_to rfl k) (fun h k => sat_nil k) k) k) k) ⟨pl, c, rfl, hic, hpl, rfl⟩
  | some m =>
    obtain ⟨hm, hmx, hmk⟩ := nodeAt_some hom.symm
    have hw : accW T a (i + 1) = m.ws ++ accW T a i := by show waysAt _ _ _ ++ _ = _; unfold waysAt; rw [← hom]
    have hml := hf m hm
    refine RdRaw.told (.raw (.slice (locAddr 0 m.pl) m.ws.length m.cap)) _ rfl (fun h k => sat_cell 0 rfl (fun x kx => bs_cell hm (j := 0) rfl x kx) k) ?_
    refine call_ix (told_spec (locAddr 0 m.pl) m.cap m.ws (by omega)) rfl [] (fun h k => k) (fun f' b' hs kb => vs_reads 1 hs kb rfl hm) ?_
    rintro v post ⟨pl2, c2, rfl, hc2, rfl⟩
    refine ⟨.sl 1 0 m.ws.length c2, [(1, pl2), (0, pl)], 2, [.vec 1 26 5 c2 (RL.flat m.ws)], NmExt.push rfl, rfl, (fun h k => sat_pick 0 rfl (fun _ k => vec_of rfl k) (fun h k => sat_nil k) k), ?_⟩
    intro b3
    refine call_ix (concat_spec (some ⟨b3, 0, none⟩) 2 [⟨locAddr 0 pl2, m.ws, c2⟩, ⟨locAddr 0 pl, accW T a i, c⟩] (by simp [tot]; omega) (by show 2 ≤ 1000; decide)) rfl [] (fun h k => k) (fun f' b' hs kb => ⟨?_, ?_⟩) ?_
    · exact blk_reads (xs := [.slice (locAddr 0 pl2) m.ws.length c2, .slice (locAddr 0 pl) (accW T a i).length c]) (c := b3) 0 hs kb rfl rfl rfl
    · intro s hs2
      simp only [List.mem_cons, List.not_mem_nil, or_false] at hs2
      rcases hs2 with rfl | rfl
      · exact vec_reads 1 hs kb rfl rfl
      · exact vec_reads 4 hs kb rfl rfl
    rintro v post ⟨pl4, c4, rfl, hc4, hpl4, rfl⟩
    have ec : cat [⟨locAddr 0 pl2, m.ws, c2⟩, ⟨locAddr 0 pl, accW T a i, c⟩] = accW T a (i + 1) := by rw [hw]; simp [cat]
    have et : tot [⟨locAddr 0 pl2, m.ws, c2⟩, ⟨locAddr 0 pl, accW T a i, c⟩] = (accW T a (i + 1)).length := by rw [← cat_length, ec]
    rw [ec, et]
    rw [et] at hc4 hpl4
    refine ⟨.sl 3 0 (accW T a (i + 1)).length c4, [(3, pl4), (2, .at b3 0), (1, pl2), (0, pl)], 4, [.vec 3 26 5 c4 (RL.flat (accW T a (i + 1)))], NmExt.push rfl, rfl, (fun h k => sat_pick 0 rfl (fun _ k => vec_of rfl k) (fun h k => sat_nil k) k), ?_⟩
    refine CondOb.split (fun g => ?_) (fun g => ?_)
    · have g : i = 32 := by
        have g : ((i : Int) == 32) = true := g
        rw [beq_iff_eq] at g
        omega
      subst g
      exact FinOb.mk [.slice (locAddr 0 pl4) (accW T a 33).length c4] [Bs n T, Vs T, Vec pl4 26 5 c4 (RL.flat (accW T a 33))] rfl (fun h k => sat_pick 3 rfl (by first | exact fun _ k => k | exact fun _ k => blk_to rfl rfl k | exact fun _ k => vec_to rfl k | exact fun _ k => blk_of rfl rfl k | exact fun _ k => vec_of rfl k | exact fun _ k => blk_of rfl rfl (blk_to rfl rfl k) | exact fun _ k => vec_of rfl (vec_to rfl k) | exact fun _ k => mp_to rfl k | exact fun _ k => mp_of rfl k | exact fun _ k => mp_of rfl (mp_to rfl k)) (fun h k => sat_pick 3 rfl (fun _ k => k) (fun h k => sat_pick 0 rfl (fun _ k => vec_to rfl k) (fun h k => sat_nil k) k) k) k) ⟨pl4, c4, rfl, hc4, hpl4, rfl⟩
    have g : i < 32 := by
      have g : ((i : Int) == 32) = false := g
      rw [beq_eq_false_iff_ne] at g
      omega
    refine DrawOb.mk [(3, [0, 4, 5])] (.run [0, 1, 2, 4, 5, 3, 6, 7, 8] .nil) (by kernel_rfl) ?_
    refine useP (.int .i64 (a / halfOf i % 2)) ((bit_spec a i a0 a1 (by omega) (by omega)).mono ?_) rfl rfl ?_
    · rintro v p ⟨rfl, rfl⟩
      refine ⟨?_, rfl⟩
      unfold halfOf
      rw [show (31 - (i : Int)).toNat = 31 - i by omega]
    obtain ⟨_, hb0, hb1⟩ := bit_two (a / halfOf i)
    refine Need.mk ⟨hb0, hb1⟩ ?_
    have hcell := kid_cell (T := T) (m := m) (a := a) (by omega) (by rw [hmx, hmk])
    rw [hmk, kidP_map] at hcell
    have ei : IntKind.i64.wrap ((i : Int) + 1) = ((i + 1 : Nat) : Int) := by rw [w64 (by omega) (by omega)]; omega
    refine RdRaw.told (.raw (.pointer ((nodeAt T (netOf a ((i + 1 : Nat) : Int)) (i + 1)).map fun m => ⟨m.b, 0, none⟩))) _ rfl (fun h hh => ?_) ?_
    · rw [Nat.zero_add, Nat.mul_one]
      exact sat_cell 3 rfl (fun x kx => bs_cell hm hcell x kx) hh
    exact ⟨⟨(i + 1, nodeAt T (netOf a ((i + 1 : Nat) : Int)) (i + 1), pl4, c4), by show i + 1 ≤ 32; omega, rfl, hc4, hpl4⟩, by show 33 - (i + 1) < 33 - i; omega, Le.of rfl ⟨⟨_, rfl, rfl⟩, ⟨_, rfl, rfl⟩, ⟨_, rfl, rfl⟩, ⟨_, rfl, rfl⟩, ⟨_, rfl, congrArg (fun z => some (Value.int .i64 z)) ei⟩, trivial⟩ (fun h k => sat_pick 3 rfl (by first | exact fun _ k => k | exact fun _ k => blk_to rfl rfl k | exact fun _ k => vec_to rfl k | exact fun _ k => blk_of rfl rfl k | exact fun _ k => vec_of rfl k | exact fun _ k => blk_of rfl rfl (blk_to rfl rfl k) | exact fun _ k => vec_of rfl (vec_to rfl k) | exact fun _ k => mp_to rfl k | exact fun _ k => mp_of rfl k | exact fun _ k => mp_of rfl (mp_to rfl k)) (fun h k => sat_pick 3 rfl (fun _ k => k) (fun h k => sat_pick 0 rfl (fun _ k => vec_of rfl (vec_to rfl k)) (fun h k => sat_nil k) k) k) k)⟩
def find1 (l : List R) : R × Int := match l with
  | [] => (⟨0, 0, 0, 0, 0⟩, 6)
  | x :: _ => (x, 0)
theorem find_spec (tb : Nat) (n : Int) (T : List Nd) (hi : TI tb T) (hf : ∀ m ∈ T, m.ws.length ≤ 64) (a : Int) (a0 : 0 ≤ a) (a1 : a ≤ 4294967295) :
    Does Try.prog 12 #[.pointer (some ⟨tb, 0, none⟩), .int .u32 a] (fun _ => True) [Bs n T, Vs T]
      (fun v p => v = .tuple #[.agg (find1 (accW T a 33)).1.vals.toArray, .int .i64 (find1 (accW T a 33)).2] ∧ p = [Bs n T, Vs T]) := by
  refine Does.ofJ Try.func12 Try.call12 rfl [.raw (.pointer (some ⟨tb, 0, none⟩)), .int .u32 a] [] 0 [.asn (Bs n T), .asn (Vs T)] rfl rfl (fun h k => sat_pick 0 rfl (by first | exact fun _ k => k | exact fun _ k => blk_to rfl rfl k | exact fun _ k => vec_to rfl k | exact fun _ k => blk_of rfl rfl k | exact fun _ k => vec_of rfl k | exact fun _ k => blk_of rfl rfl (blk_to rfl rfl k) | exact fun _ k => vec_of rfl (vec_to rfl k) | exact fun _ k => mp_to rfl k | exact fun _ k => mp_of rfl k | exact fun _ k => mp_of rfl (mp_to rfl k)) (fun h k => sat_pick 0 rfl (by first | exact fun _ k => k | exact fun _ k => blk_to rfl rfl k | exact fun _ k => vec_to rfl k | exact fun _ k => blk_of rfl rfl k | exact fun _ k => vec_of rfl k | exact fun _ k => blk_of rfl rfl (blk_to rfl rfl k) | exact fun _ k => vec_of rfl (vec_to rfl k) | exact fun _ k => mp_to rfl k | exact fun _ k => mp_of rfl k | exact fun _ k => mp_of rfl (mp_to rfl k)) (fun h k => sat_nil k) k) k) (fun f hR => ?_)
  intro b4
  refine call_ix (ways_spec tb n T hi hf a a0 a1) rfl [1, 1] (fun h k => sat_pick 1 rfl (by first | exact fun _ k => k | exact fun _ k => blk_to rfl rfl k | exact fun _ k => vec_to rfl k | exact fun _ k => blk_of rfl rfl k | exact fun _ k => vec_of rfl k | exact fun _ k => blk_of rfl rfl (blk_to rfl rfl k) | exact fun _ k => vec_of rfl (vec_to rfl k) | exact fun _ k => mp_to rfl k | exact fun _ k => mp_of rfl k | exact fun _ k => mp_of rfl (mp_to rfl k)) (fun h k => sat_pick 1 rfl (by first | exact fun _ k => k | exact fun _ k => blk_to rfl rfl k | exact fun _ k => vec_to rfl k | exact fun _ k => blk_of rfl rfl k | exact fun _ k => vec_of rfl k | exact fun _ k => blk_of rfl rfl (blk_to rfl rfl k) | exact fun _ k => vec_of rfl (vec_to rfl k) | exact fun _ k => mp_to rfl k | exact fun _ k => mp_of rfl k | exact fun _ k => mp_of rfl (mp_to rfl k)) (fun h k => sat_pick 0 rfl (by first | exact fun _ k => k | exact fun _ k => blk_to rfl rfl k | exact fun _ k => vec_to rfl k | exact fun _ k => blk_of rfl rfl k | exact fun _ k => vec_of rfl k | exact fun _ k => blk_of rfl rfl (blk_to rfl rfl k) | exact fun _ k => vec_of rfl (vec_to rfl k) | exact fun _ k => mp_to rfl k | exact fun _ k => mp_of rfl k | exact fun _ k => mp_of rfl (mp_to rfl k)) (fun h k => sat_nil k) k) k) k) (fun _ _ _ _ => trivial) ?_
  rintro v post ⟨pl, c, rfl, hc, hpl, rfl⟩
  refine ⟨.sl 1 0 (accW T a 33).length c, [(1, pl), (0, .at b4 0)], 2, [.asn (Bs n T), .asn (Vs T), .vec 1 26 5 c (RL.flat (accW T a 33))], NmExt.push rfl, rfl, (fun h k => sat_pick 0 rfl (by first | exact fun _ k => k | exact fun _ k => blk_to rfl rfl k | exact fun _ k => vec_to rfl k | exact fun _ k => blk_of rfl rfl k | exact fun _ k => vec_of rfl k | exact fun _ k => blk_of rfl rfl (blk_to rfl rfl k) | exact fun _ k => vec_of rfl (vec_to rfl k) | exact fun _ k => mp_to rfl k | exact fun _ k => mp_of rfl k | exact fun _ k => mp_of rfl (mp_to rfl k)) (fun h k => sat_pick 0 rfl (by first | exact fun _ k => k | exact fun _ k => blk_to rfl rfl k | exact fun _ k => vec_to rfl k | exact fun _ k => blk_of rfl rfl k | exact fun _ k => vec_of rfl k | exact fun _ k => blk_of rfl rfl (blk_to rfl rfl k) | exact fun _ k => vec_of rfl (vec_to rfl k) | exact fun _ k => mp_to rfl k | exact fun _ k => mp_of rfl k | exact fun _ k => mp_of rfl (mp_to rfl k)) (fun h k => sat_pick 0 rfl (fun _ k => vec_of rfl k) (fun h k => sat_nil k) k) k) k), ?_⟩
  generalize accW T a 33 = l at *
  cases l with
  | nil =>
    refine CondOb.split (fun _ => ?_) (fun g => absurd g (by decide))
    exact FinOb.mk [.agg (R.vals ⟨0, 0, 0, 0, 0⟩).toArray, .int .i64 6] [Bs n T, Vs T] rfl (fun h k => sat_pick 1 rfl (by first | exact fun _ k => k | exact fun _ k => blk_to rfl rfl k | exact fun _ k => vec_to rfl k | exact fun _ k => blk_of rfl rfl k | exact fun _ k => vec_of rfl k | exact fun _ k => blk_of rfl rfl (blk_to rfl rfl k) | exact fun _ k => vec_of rfl (vec_to rfl k) | exact fun _ k => mp_to rfl k | exact fun _ k => mp_of rfl k | exact fun _ k => mp_of rfl (mp_to rfl k)) (fun h k => sat_pick 1 rfl (by first | exact fun _ k => k | exact fun _ k => blk_to rfl rfl k | exact fun _ k => vec_to rfl k | exact fun _ k => blk_of rfl rfl k | exact fun _ k => vec_of rfl k | exact fun _ k => blk_of rfl rfl (blk_to rfl rfl k) | exact fun _ k => vec_of rfl (vec_to rfl k) | exact fun _ k => mp_to rfl k | exact fun _ k => mp_of rfl k | exact fun _ k => mp_of rfl (mp_to rfl k)) (fun h k => sat_nil k) k) k) ⟨rfl, rfl⟩
  | cons x l =>
    refine CondOb.split (fun g => ?_) (fun _ => ?_)
    · have g : (((l.length + 1 : Nat) : Int) == 0) = true := g
      rw [beq_iff_eq] at g
      omega
    obtain ⟨b, o, rfl⟩ := hpl (by simp)
    refine Need.mk (by simp) ?_
    refine RdObL.mk x.svs (by decide) (by rw [lR, List.length_cons]; show 0 + 0 * 5 + 5 ≤ _; omega) ?_ ?_
    · show _ = some (((RL.flat (x :: l)).drop 0).take 5)
      rw [List.drop_zero, RL.flat_cons, List.take_append_of_le_length (by show 5 ≤ 5; omega)]
      exact congrArg some (List.take_of_length_le (by show 5 ≤ 5; omega)).symm
    exact FinOb.mk [.agg x.vals.toArray, .int .i64 0] [Bs n T, Vs T] rfl (fun h k => sat_pick 1 rfl (by first | exact fun _ k => k | exact fun _ k => blk_to rfl rfl k | exact fun _ k => vec_to rfl k | exact fun _ k => blk_of rfl rfl k | exact fun _ k => vec_of rfl k | exact fun _ k => blk_of rfl rfl (blk_to rfl rfl k) | exact fun _ k => vec_of rfl (vec_to rfl k) | exact fun _ k => mp_to rfl k | exact fun _ k => mp_of rfl k | exact fun _ k => mp_of rfl (mp_to rfl k)) (fun h k => sat_pick 1 rfl (by first | exact fun _ k => k | exact fun _ k => blk_to rfl rfl k | exact fun _ k => vec_to rfl k | exact fun _ k => blk_of rfl rfl k | exact fun _ k => vec_of rfl k | exact fun _ k => blk_of rfl rfl (blk_to rfl rfl k) | exact fun _ k => vec_of rfl (vec_to rfl k) | exact fun _ k => mp_to rfl k | exact fun _ k => mp_of rfl k | exact fun _ k => mp_of rfl (mp_to rfl k)) (fun h k => sat_nil k) k) k) ⟨rfl, rfl⟩
end Go.Proofs.Ytjppphldiaonkaa.Rt
