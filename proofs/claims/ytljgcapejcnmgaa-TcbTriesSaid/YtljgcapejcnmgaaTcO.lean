/- tcb: what a closed connection answers; the tries of the reference. Conditions: none. -/
import Derived.Test.YtljgcapejcnmgaaTcN
namespace Go.Proofs.Ytljgcapejcnmgaa.Tc
open Go Go.Proofs Sx
set_option maxRecDepth 100000
set_option linter.unusedVariables false
set_option linter.unusedSimpArgs false
set_option maxHeartbeats 4000000

def X.took (x : X) : X := { x with fault := 0 }
theorem take_spec (b : Nat) (x : X) : Does Try.prog 29 #[pp b] (fun _ => True) [CA b x] (fun v p => v = .int .i64 x.fault ∧ p = [CA b x.took]) := by
  refine Does.ofJ Try.func29 Try.call29 rfl [.raw (pp b)] [] 0 [.asn (CA b x)] rfl rfl (fun h k => k) (fun f hR => ?_)
  refine useR (.int .i64 x.fault) (fault_spec b x) rfl (fun f' b' hs kb => Fr.told 0 rfl hs kb) rfl ?_
  refine StRaw.on 0 (CA b x.took) [.int .i64 0] rfl rfl (fun h k => ca_st k (Nat.le_of_ble_eq_true rfl) rfl rfl) ?_
  exact FinOb.mk [.int .i64 x.fault] [CA b x.took] rfl (fun h k => sat_pick 0 rfl (by first | exact fun _ k => k | exact fun _ k => blk_to rfl rfl k | exact fun _ k => vec_to rfl k | exact fun _ k => blk_of rfl rfl k | exact fun _ k => vec_of rfl k | exact fun _ k => blk_of rfl rfl (blk_to rfl rfl k) | exact fun _ k => vec_of rfl (vec_to rfl k) | exact fun _ k => mp_to rfl k | exact fun _ k => mp_of rfl k | exact fun _ k => mp_of rfl (mp_to rfl k)) (fun h k => sat_nil k) k) ⟨rfl, rfl⟩
def sendC (x : X) : Int := if x.fault = 0 then 223 else x.fault
theorem send_closed (b : Nat) (x : X) (n : Int) (A : Option Addr) (len cap : Nat) (hs : (x.at n).state = 0) :
    Does Try.prog 13 #[pp b, .int .i64 n, .slice A len cap] (fun _ => True) [CA b x] (fun v p => v = .tuple #[.int .i64 0, .int .i64 (sendC (x.at n))] ∧ p = [CA b (x.at n).took]) := by
  refine Does.ofJ Try.func13 Try.call13 rfl [.raw (pp b), .int .i64 n, .raw (.slice A len cap)] [] 0 [.asn (CA b x)] rfl rfl (fun h k => k) (fun f hR => ?_)
  refine call_ix (at_spec b x n) rfl [0] (fun h k => sat_pick 0 rfl (by first | exact fun _ k => k | exact fun _ k => blk_to rfl rfl k | exact fun _ k => vec_to rfl k | exact fun _ k => blk_of rfl rfl k | exact fun _ k => vec_of rfl k | exact fun _ k => blk_of rfl rfl (blk_to rfl rfl k) | exact fun _ k => vec_of rfl (vec_to rfl k) | exact fun _ k => mp_to rfl k | exact fun _ k => mp_of rfl k | exact fun _ k => mp_of rfl (mp_to rfl k)) (fun h k => sat_nil k) k) (fun _ _ _ _ => trivial) ?_
  rintro v post ⟨rfl, rfl⟩
  refine ⟨.tuple [], _, 0, [.asn (CA b (x.at n))], NmExt.refl _, rfl, (fun h k => sat_pick 0 rfl (by first | exact fun _ k => k | exact fun _ k => blk_to rfl rfl k | exact fun _ k => vec_to rfl k | exact fun _ k => blk_of rfl rfl k | exact fun _ k => vec_of rfl k | exact fun _ k => blk_of rfl rfl (blk_to rfl rfl k) | exact fun _ k => vec_of rfl (vec_to rfl k) | exact fun _ k => mp_to rfl k | exact fun _ k => mp_of rfl k | exact fun _ k => mp_of rfl (mp_to rfl k)) (fun h k => sat_nil k) k), ?_⟩
  generalize x.at n = y at *
  refine call_ix (take_spec b y) rfl [0] (fun h k => sat_pick 0 rfl (by first | exact fun _ k => k | exact fun _ k => blk_to rfl rfl k | exact fun _ k => vec_to rfl k | exact fun _ k => blk_of rfl rfl k | exact fun _ k => vec_of rfl k | exact fun _ k => blk_of rfl rfl (blk_to rfl rfl k) | exact fun _ k => vec_of rfl (vec_to rfl k) | exact fun _ k => mp_to rfl k | exact fun _ k => mp_of rfl k | exact fun _ k => mp_of rfl (mp_to rfl k)) (fun h k => sat_nil k) k) (fun _ _ _ _ => trivial) ?_
  rintro v post ⟨rfl, rfl⟩
  refine ⟨.int .i64 y.fault, _, 0, [.asn (CA b y.took)], NmExt.refl _, rfl, (fun h k => sat_pick 0 rfl (by first | exact fun _ k => k | exact fun _ k => blk_to rfl rfl k | exact fun _ k => vec_to rfl k | exact fun _ k => blk_of rfl rfl k | exact fun _ k => vec_of rfl k | exact fun _ k => blk_of rfl rfl (blk_to rfl rfl k) | exact fun _ k => vec_of rfl (vec_to rfl k) | exact fun _ k => mp_to rfl k | exact fun _ k => mp_of rfl k | exact fun _ k => mp_of rfl (mp_to rfl k)) (fun h k => sat_nil k) k), ?_⟩
  refine CondOb.split (fun g => ?_) (fun g => ?_)
  · have g : y.fault ≠ 0 := by simpa using g
    exact FinOb.mk [.int .i64 0, .int .i64 y.fault] [CA b y.took] rfl (fun h k => sat_pick 0 rfl (by first | exact fun _ k => k | exact fun _ k => blk_to rfl rfl k | exact fun _ k => vec_to rfl k | exact fun _ k => blk_of rfl rfl k | exact fun _ k => vec_of rfl k | exact fun _ k => blk_of rfl rfl (blk_to rfl rfl k) | exact fun _ k => vec_of rfl (vec_to rfl k) | exact fun _ k => mp_to rfl k | exact fun _ k => mp_of rfl k | exact fun _ k => mp_of rfl (mp_to rfl k)) (fun h k => sat_nil k) k) ⟨by unfold sendC; rw [if_neg g]; rfl, rfl⟩
  have g : y.fault = 0 := by simpa using g
  have hs' : y.took.state = 0 := hs
  refine RdRaw.told (.int .i64 y.took.state) _ rfl (fun h k => sat_rd k 0 rfl 13 _ rfl) ?_
  refine CondOb.split (fun g => absurd g (by rw [hs']; decide)) (fun _ => ?_)
  refine CondOb.split (fun g => absurd g (by rw [hs']; decide)) (fun _ => ?_)
  refine CondOb.split (fun g => absurd g (by rw [hs']; decide)) (fun _ => ?_)
  refine CondOb.split (fun g => absurd g (by rw [hs']; decide)) (fun _ => ?_)
  exact FinOb.mk [.int .i64 0, .int .i64 223] [CA b y.took] rfl (fun h k => sat_pick 0 rfl (by first | exact fun _ k => k | exact fun _ k => blk_to rfl rfl k | exact fun _ k => vec_to rfl k | exact fun _ k => blk_of rfl rfl k | exact fun _ k => vec_of rfl k | exact fun _ k => blk_of rfl rfl (blk_to rfl rfl k) | exact fun _ k => vec_of rfl (vec_to rfl k) | exact fun _ k => mp_to rfl k | exact fun _ k => mp_of rfl k | exact fun _ k => mp_of rfl (mp_to rfl k)) (fun h k => sat_nil k) k) ⟨by unfold sendC; rw [if_pos g]; rfl, rfl⟩
theorem recv_closed (b : Nat) (x : X) (n : Int) (hs : (x.at n).state = 0) (hf : (x.at n).fault = 0) (hn : (x.at n).inn.n = 0) (he : (x.at n).ended = false) :
    Does Try.prog 14 #[pp b, .int .i64 n, .int .i64 1] (fun _ => True) [CA b x] (fun v p => v = .tuple #[.slice none 0 0, .bool false, .int .i64 225] ∧ p = [CA b (x.at n).took]) := by
  refine Does.ofJ Try.func14 Try.call14 rfl [.raw (pp b), .int .i64 n, .int .i64 1] [] 0 [.asn (CA b x)] rfl rfl (fun h k => k) (fun f hR => ?_)
  refine CondOb.split (fun g => absurd g (by decide)) (fun _ => ?_)
  refine call_ix (at_spec b x n) rfl [0] (fun h k => sat_pick 0 rfl (by first | exact fun _ k => k | exact fun _ k => blk_to rfl rfl k | exact fun _ k => vec_to rfl k | exact fun _ k => blk_of rfl rfl k | exact fun _ k => vec_of rfl k | exact fun _ k => blk_of rfl rfl (blk_to rfl rfl k) | exact fun _ k => vec_of rfl (vec_to rfl k) | exact fun _ k => mp_to rfl k | exact fun _ k => mp_of rfl k | exact fun _ k => mp_of rfl (mp_to rfl k)) (fun h k => sat_nil k) k) (fun _ _ _ _ => trivial) ?_
  rintro v post ⟨rfl, rfl⟩
  refine ⟨.tuple [], _, 0, [.asn (CA b (x.at n))], NmExt.refl _, rfl, (fun h k => sat_pick 0 rfl (by first | exact fun _ k => k | exact fun _ k => blk_to rfl rfl k | exact fun _ k => vec_to rfl k | exact fun _ k => blk_of rfl rfl k | exact fun _ k => vec_of rfl k | exact fun _ k => blk_of rfl rfl (blk_to rfl rfl k) | exact fun _ k => vec_of rfl (vec_to rfl k) | exact fun _ k => mp_to rfl k | exact fun _ k => mp_of rfl k | exact fun _ k => mp_of rfl (mp_to rfl k)) (fun h k => sat_nil k) k), ?_⟩
  generalize x.at n = y at *
  refine RdRaw.told (.raw (pp y.bi)) _ rfl (fun h k => sat_rd k 0 rfl 39 _ rfl) ?_
  refine useR (.int .i64 y.inn.n) (hlen_spec y.bi y.inn) rfl (fun f' b' hs kb => Fr.toldP hs kb 0 rfl 2 rfl) rfl ?_
  refine CondOb.split (fun g => absurd g (by rw [hn]; decide)) (fun _ => ?_)
  refine call_ix (take_spec b y) rfl [0] (fun h k => sat_pick 0 rfl (by first | exact fun _ k => k | exact fun _ k => blk_to rfl rfl k | exact fun _ k => vec_to rfl k | exact fun _ k => blk_of rfl rfl k | exact fun _ k => vec_of rfl k | exact fun _ k => blk_of rfl rfl (blk_to rfl rfl k) | exact fun _ k => vec_of rfl (vec_to rfl k) | exact fun _ k => mp_to rfl k | exact fun _ k => mp_of rfl k | exact fun _ k => mp_of rfl (mp_to rfl k)) (fun h k => sat_nil k) k) (fun _ _ _ _ => trivial) ?_
  rintro v post ⟨rfl, rfl⟩
  refine ⟨.int .i64 y.fault, _, 0, [.asn (CA b y.took)], NmExt.refl _, rfl, (fun h k => sat_pick 0 rfl (by first | exact fun _ k => k | exact fun _ k => blk_to rfl rfl k | exact fun _ k => vec_to rfl k | exact fun _ k => blk_of rfl rfl k | exact fun _ k => vec_of rfl k | exact fun _ k => blk_of rfl rfl (blk_to rfl rfl k) | exact fun _ k => vec_of rfl (vec_to rfl k) | exact fun _ k => mp_to rfl k | exact fun _ k => mp_of rfl k | exact fun _ k => mp_of rfl (mp_to rfl k)) (fun h k => sat_nil k) k), ?_⟩
  refine CondOb.split (fun g => absurd g (by rw [hf]; decide)) (fun _ => ?_)
  refine RdRaw.told (.bool y.took.ended) _ rfl (fun h k => sat_rd k 0 rfl 43 _ rfl) ?_
  refine CondOb.split (fun g => absurd (show y.ended = true from g) (by rw [he]; decide)) (fun _ => ?_)
  refine RdRaw.told (.int .i64 y.took.state) _ rfl (fun h k => sat_rd k 0 rfl 13 _ rfl) ?_
  refine CondOb.split (fun _ => ?_) (fun g => absurd g (by rw [show y.took.state = 0 from hs]; decide))
  exact FinOb.mk [.slice none 0 0, .bool false, .int .i64 225] [CA b y.took] rfl (fun h k => sat_pick 0 rfl (by first | exact fun _ k => k | exact fun _ k => blk_to rfl rfl k | exact fun _ k => vec_to rfl k | exact fun _ k => blk_of rfl rfl k | exact fun _ k => vec_of rfl k | exact fun _ k => blk_of rfl rfl (blk_to rfl rfl k) | exact fun _ k => vec_of rfl (vec_to rfl k) | exact fun _ k => mp_to rfl k | exact fun _ k => mp_of rfl k | exact fun _ k => mp_of rfl (mp_to rfl k)) (fun h k => sat_nil k) k) ⟨rfl, rfl⟩
theorem shut_closed (b : Nat) (x : X) (n : Int) (hs : x.state = 0) :
    Does Try.prog 15 #[pp b, .int .i64 n] (Fr (CA b x)) [] (fun v p => v = .int .i64 225 ∧ p = []) := by
  refine Does.ofJ Try.func15 Try.call15 rfl [.raw (pp b), .int .i64 n] [] 0 [] rfl rfl (fun h k => k) (fun f hR => ?_)
  refine RdRaw.mk (.int .i64 x.state) _ rfl (hR.own 13 _ rfl) ?_
  refine CondOb.split (fun _ => ?_) (fun g => absurd g (by rw [hs]; decide))
  exact FinOb.mk [.int .i64 225] [] rfl (fun h k => trivial) ⟨rfl, rfl⟩
/-! ### The reference's tries -/
def wt (c : Cf) : Nat → Int
  | 0 => c.first
  | k + 1 => mn (2 * wt c k) c.most
def tt (c : Cf) (now : Int) : Nat → Int
  | 0 => now
  | k + 1 => tt c now k + wt c k
theorem wt_ok {c : Cf} (h : c.Ok) (k : Nat) : 1 ≤ wt c k ∧ wt c k ≤ 1048576 ∧ wt c k ≤ c.most := by
  obtain ⟨_, _, _, ⟨h1, h2, h3, h4⟩, h5, _⟩ := h
  induction k with
  | zero => unfold wt; omega
  | succ k ih => unfold wt mn; split <;> omega
theorem tt_le {c : Cf} (h : c.Ok) (now : Int) (k : Nat) : now + k ≤ tt c now k ∧ tt c now k ≤ now + 1048576 * k := by
  induction k with
  | zero => unfold tt; omega
  | succ k ih => have := wt_ok h k; unfold tt; omega
/-- What the tries are, and the end. -/
structure TrR (c : Cf) (now : Int) (n : Nat) (e : Int) : Prop where
  few : (n : Int) ≤ c.tries
  each : ∀ i, i < n → tt c now (i + 1) < now + c.user
  last : (now + c.user ≤ tt c now (n + 1) ∧ e = now + c.user) ∨ (tt c now (n + 1) < now + c.user ∧ (n : Int) = c.tries ∧ e = tt c now (n + 1))
abbrev IL : Lay Int := ints .i64
theorem lI (l : List Int) : (IL.flat l).length = l.length := by rw [IL.flat_length]; simp [ints]
def trL (c : Cf) (now : Int) (n : Nat) : List Int := (List.range n).map fun i => tt c now (i + 1)
theorem trL_len (c : Cf) (now : Int) (n : Nat) : (trL c now n).length = n := by simp [trL]
theorem trL_snoc (c : Cf) (now : Int) (n : Nat) : trL c now (n + 1) = trL c now n ++ [tt c now (n + 1)] := by unfold trL; rw [List.range_succ, List.map_append]; rfl
theorem tries_spec (c : Cf) (now : Int) (hc : c.Ok) (h0 : 0 ≤ now) (h1 : now ≤ 1099511627776) :
    Does Try.prog 8 #[.agg c.vals.toArray, .int .i64 now] (fun _ => True) [] (fun v p => ∃ n e pl cap, v = .tuple #[.slice (locAddr 0 pl) n cap, .int .i64 e] ∧ TrR c now n e ∧ n ≤ cap ∧ (0 < n → ∃ q o, pl = .at q o) ∧ p = [Vec pl 3 1 cap (IL.flat (trL c now n))]) := by
  refine Does.ofJ Try.func8 Try.call8 rfl [.agg c.svs, .int .i64 now] [] 0 [] rfl rfl (fun h k => k) (fun f hR => ?_)
  intro b2
  have ht := hc.2.2.2.2.2.1
  have hu := hc.2.2.2.2.2.2.2
  refine LoopOb.mk { z : Nat × Plc × Nat // (z.1 : Int) ≤ c.tries ∧ (∀ i, i < z.1 → tt c now (i + 1) < now + c.user) ∧ z.1 ≤ z.2.2 ∧ (0 < z.1 → ∃ q o, z.2.1 = .at q o) } (fun z => ⟨47, [(1, .int .i64 now), (2, .ptr 0 0), (6, .sl 1 0 z.1.1 z.1.2.2), (7, .int .i64 (wt c z.1.1)), (8, .int .i64 (tt c now z.1.1)), (9, .int .i64 z.1.1)], [(1, z.1.2.1), (0, .at b2 0)], 2, [.blk 0 23 c.svs, .vec 1 3 1 z.1.2.2 (IL.flat (trL c now z.1.1))]⟩) (fun z => c.tries.toNat - z.1.1)
    ⟨(0, .nil, 0), by show (0 : Int) ≤ _; omega, fun i hi => absurd hi (Nat.not_lt_zero _), Nat.le_refl _, fun h => absurd h (Nat.lt_irrefl _)⟩ ?_ ?_
  · exact Le.of rfl ⟨⟨_, rfl, rfl⟩, ⟨_, rfl, rfl⟩, ⟨_, rfl, rfl⟩, ⟨_, rfl, rfl⟩, ⟨_, rfl, rfl⟩, ⟨_, rfl, rfl⟩, trivial⟩ (fun h k => sat_pick 0 rfl (by first | exact fun _ k => k | exact fun _ k => blk_to rfl rfl k | exact fun _ k => vec_to rfl k | exact fun _ k => blk_of rfl rfl k | exact fun _ k => vec_of rfl k | exact fun _ k => blk_of rfl rfl (blk_to rfl rfl k) | exact fun _ k => vec_of rfl (vec_to rfl k) | exact fun _ k => mp_to rfl k | exact fun _ k => mp_of rfl k | exact fun _ k => mp_of rfl (mp_to rfl k)) (fun h k => sat_add (vec_of rfl vec_emp) ((fun h k => sat_nil k) h k)) k)
  rintro ⟨⟨n, pl, cap⟩, hn, heach, hcap, hpl⟩
  simp only at hn heach hcap hpl
  have hw := wt_ok hc n
  have htt := tt_le hc now n
  have eT : IntKind.i64.wrap (tt c now n + wt c n) = tt c now (n + 1) := by rw [w64 (by omega) (by omega)]; rfl
  have eU : IntKind.i64.wrap (now + c.user) = now + c.user := w64 (by omega) (by omega)
  refine CondOb.split (fun g => ?_) (fun g => ?_)
  · have g := of_decide_eq_true g
    rw [eT, eU] at g
    refine DrawOb.mk [] (.run [0, 1, 2, 3, 4, 5, 6] .nil) (by kernel_rfl) ?_
    exact FinOb.mk [.slice (locAddr 0 pl) n cap, .int .i64 (IntKind.i64.wrap (now + c.user))] [Vec pl 3 1 cap (IL.flat (trL c now n))] rfl (fun h k => sat_pick 1 rfl (fun h k => vec_to rfl k) (fun h k => sat_nil k) k) ⟨n, _, pl, cap, rfl, ⟨hn, heach, .inl ⟨g, eU⟩⟩, hcap, hpl, rfl⟩
  have g := of_decide_eq_false g
  rw [eT, eU] at g
  refine CondOb.split (fun g2 => ?_) (fun g2 => ?_)
  · have g2 : (n : Int) = c.tries := by simpa using g2
    exact FinOb.mk [.slice (locAddr 0 pl) n cap, .int .i64 (IntKind.i64.wrap (tt c now n + wt c n))] [Vec pl 3 1 cap (IL.flat (trL c now n))] rfl (fun h k => sat_pick 1 rfl (fun h k => vec_to rfl k) (fun h k => sat_nil k) k) ⟨n, _, pl, cap, rfl, ⟨hn, heach, .inr ⟨by omega, g2, eT⟩⟩, hcap, hpl, rfl⟩
  have g2 : (n : Int) ≠ c.tries := by simpa using g2
  intro b3
  refine StOb.mk [.int .i64 (tt c now (n + 1))] (show denL _ [.int .i64 (IntKind.i64.wrap (tt c now n + wt c n))] = _ from by rw [eT]; rfl) (Need.mk rfl ?_)
  refine Need.mk ⟨by dsimp only; rw [lI, trL_len]; omega, by dsimp only; omega, hcap⟩ ?_
  refine Need.mk ⟨by dsimp only; omega, by dsimp only; simp only [maxLen]; omega, fun v hv => by simp at hv; subst hv; rfl⟩ ?_
  refine NewSl.pos (Nat.succ_pos _) (fun q o cap2 hcap2 => ?_)
  have eF : List.take (n * 1) (List.drop 0 (IL.flat (trL c now n))) ++ [.int .i64 (tt c now (n + 1))] = IL.flat (trL c now (n + 1)) := by
    rw [List.drop_zero, List.take_of_length_le (by rw [lI, trL_len]; omega), trL_snoc, IL.flat_append]; rfl
  have e2 : IntKind.i64.wrap (2 * wt c n) = 2 * wt c n := w64 (by omega) (by omega)
  have en : IntKind.i64.wrap ((n : Int) + 1) = ((n + 1 : Nat) : Int) := by rw [w64 (by omega) (by omega)]; omega
  have hst : ∀ i, i < n + 1 → tt c now (i + 1) < now + c.user := fun i hi => by
    rcases Nat.lt_or_ge i n with h | h
    · exact heach i h
    · obtain rfl : i = n := by omega
      omega
  refine CondOb.split (fun g3 => ?_) (fun g3 => ?_)
  · have g3 := of_decide_eq_true g3
    rw [e2] at g3
    have ew : wt c (n + 1) = c.most := by unfold wt mn; rw [if_pos g3]
    exact ⟨⟨(n + 1, .at q o, cap2), by show ((n + 1 : Nat) : Int) ≤ c.tries; omega, hst, hcap2, fun _ => ⟨q, o, rfl⟩⟩, by show c.tries.toNat - (n + 1) < c.tries.toNat - n; omega, Le.of rfl ⟨⟨_, rfl, rfl⟩, ⟨_, rfl, rfl⟩, ⟨_, rfl, rfl⟩, ⟨_, rfl, (congrArg (fun z => some (Value.int .i64 z)) ew.symm)⟩, ⟨_, rfl, (congrArg (fun z => some (Value.int .i64 z)) eT)⟩, ⟨_, rfl, congrArg (fun z => some (Value.int .i64 z)) en⟩, trivial⟩ (fun h k => sat_pick 2 rfl (by first | exact fun _ k => k | exact fun _ k => blk_to rfl rfl k | exact fun _ k => vec_to rfl k | exact fun _ k => blk_of rfl rfl k | exact fun _ k => vec_of rfl k | exact fun _ k => blk_of rfl rfl (blk_to rfl rfl k) | exact fun _ k => vec_of rfl (vec_to rfl k) | exact fun _ k => mp_to rfl k | exact fun _ k => mp_of rfl k | exact fun _ k => mp_of rfl (mp_to rfl k)) (fun h k => sat_pick 0 rfl (fun h k => vec_of rfl (vec_cast eF (vec_to rfl k))) (fun h k => sat_nil k) k) k)⟩
  · have g3 := of_decide_eq_false g3
    rw [e2] at g3
    have ew : IntKind.i64.wrap (2 * wt c n) = wt c (n + 1) := by rw [e2]; show 2 * wt c n = mn (2 * wt c n) c.most; unfold mn; rw [if_neg g3]
    exact ⟨⟨(n + 1, .at q o, cap2), by show ((n + 1 : Nat) : Int) ≤ c.tries; omega, hst, hcap2, fun _ => ⟨q, o, rfl⟩⟩, by show c.tries.toNat - (n + 1) < c.tries.toNat - n; omega, Le.of rfl ⟨⟨_, rfl, rfl⟩, ⟨_, rfl, rfl⟩, ⟨_, rfl, rfl⟩, ⟨_, rfl, (congrArg (fun z => some (Value.int .i64 z)) ew)⟩, ⟨_, rfl, (congrArg (fun z => some (Value.int .i64 z)) eT)⟩, ⟨_, rfl, congrArg (fun z => some (Value.int .i64 z)) en⟩, trivial⟩ (fun h k => sat_pick 2 rfl (by first | exact fun _ k => k | exact fun _ k => blk_to rfl rfl k | exact fun _ k => vec_to rfl k | exact fun _ k => blk_of rfl rfl k | exact fun _ k => vec_of rfl k | exact fun _ k => blk_of rfl rfl (blk_to rfl rfl k) | exact fun _ k => vec_of rfl (vec_to rfl k) | exact fun _ k => mp_to rfl k | exact fun _ k => mp_of rfl k | exact fun _ k => mp_of rfl (mp_to rfl k)) (fun h k => sat_pick 0 rfl (fun h k => vec_of rfl (vec_cast eF (vec_to rfl k))) (fun h k => sat_nil k) k) k)⟩
end Go.Proofs.Ytljgcapejcnmgaa.Tc
