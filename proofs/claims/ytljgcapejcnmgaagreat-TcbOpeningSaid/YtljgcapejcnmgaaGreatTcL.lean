/- tcb: TcbOpening, walked. Conditions: none. -/
import Derived.Test.YtljgcapejcnmgaaGreatTcK
namespace Go.Proofs.YtljgcapejcnmgaaGreat.Tc
open Go Go.Proofs Sx
set_option maxRecDepth 100000
set_option linter.unusedVariables false
set_option linter.unusedSimpArgs false
set_option maxHeartbeats 4000000

def X.waiting (c : Cf) (q : Qd) (iss : Int) (bs bi be bc br qb o co : Nat) : X := ((X.opened c q iss 0 bs bi be bc br qb o co).outed).at 0
theorem opening_law (c : Cf) (iss : Int) (s : Sg) (hi : 0 ≤ iss ∧ iss ≤ 4294967295) (hs : s.Fit) :
    Does Tryz.prog 3 #[.agg c.vals.toArray, .int .u32 iss, .agg s.vals.toArray] (fun _ => True) [] (fun v p => v = .bool true ∧ p = []) := by
  refine Does.ofJ Tryz.func3 Tryz.call3 rfl [.agg c.svs, .int .u32 iss, .agg s.svs] [] 0 [] rfl rfl (fun h k => k) (fun f hR => ?_)
  intro b1 b2
  refine RegOb.join { z : Bool // z = false → s.len ≤ 1000 ∧ 0 ≤ s.scale ∧ s.scale ≤ 15 ∧ 0 ≤ s.mss ∧ s.mss ≤ 65535 } (fun z => ⟨142, [(1, .int .u32 iss), (3, .ptr 0 0), (5, .ptr 1 0), (37, .bool z.1)], [(1, .at b2 0), (0, .at b1 0)], 2, [.blk 0 23 c.svs, .blk 1 28 s.svs]⟩) ?_ ?_
  · refine Br.mk (fun g => ?_) (fun g1 => ?_)
    · exact ⟨⟨true, fun h => (by cases h)⟩, Le.of rfl ⟨⟨_, rfl, rfl⟩, ⟨_, rfl, rfl⟩, ⟨_, rfl, rfl⟩, ⟨_, rfl, rfl⟩, trivial⟩ (fun h k => sat_pick 1 rfl (by first | exact fun _ k => k | exact fun _ k => blk_to rfl rfl k | exact fun _ k => vec_to rfl k | exact fun _ k => blk_of rfl rfl k | exact fun _ k => vec_of rfl k | exact fun _ k => blk_of rfl rfl (blk_to rfl rfl k) | exact fun _ k => vec_of rfl (vec_to rfl k) | exact fun _ k => mp_to rfl k | exact fun _ k => mp_of rfl k | exact fun _ k => mp_of rfl (mp_to rfl k)) (fun h k => sat_pick 0 rfl (by first | exact fun _ k => k | exact fun _ k => blk_to rfl rfl k | exact fun _ k => vec_to rfl k | exact fun _ k => blk_of rfl rfl k | exact fun _ k => vec_of rfl k | exact fun _ k => blk_of rfl rfl (blk_to rfl rfl k) | exact fun _ k => vec_of rfl (vec_to rfl k) | exact fun _ k => mp_to rfl k | exact fun _ k => mp_of rfl k | exact fun _ k => mp_of rfl (mp_to rfl k)) (fun h k => sat_nil k) k) k)⟩
    refine Br.mk (fun g => ?_) (fun g2 => ?_)
    · exact ⟨⟨true, fun h => (by cases h)⟩, Le.of rfl ⟨⟨_, rfl, rfl⟩, ⟨_, rfl, rfl⟩, ⟨_, rfl, rfl⟩, ⟨_, rfl, rfl⟩, trivial⟩ (fun h k => sat_pick 1 rfl (by first | exact fun _ k => k | exact fun _ k => blk_to rfl rfl k | exact fun _ k => vec_to rfl k | exact fun _ k => blk_of rfl rfl k | exact fun _ k => vec_of rfl k | exact fun _ k => blk_of rfl rfl (blk_to rfl rfl k) | exact fun _ k => vec_of rfl (vec_to rfl k) | exact fun _ k => mp_to rfl k | exact fun _ k => mp_of rfl k | exact fun _ k => mp_of rfl (mp_to rfl k)) (fun h k => sat_pick 0 rfl (by first | exact fun _ k => k | exact fun _ k => blk_to rfl rfl k | exact fun _ k => vec_to rfl k | exact fun _ k => blk_of rfl rfl k | exact fun _ k => vec_of rfl k | exact fun _ k => blk_of rfl rfl (blk_to rfl rfl k) | exact fun _ k => vec_of rfl (vec_to rfl k) | exact fun _ k => mp_to rfl k | exact fun _ k => mp_of rfl k | exact fun _ k => mp_of rfl (mp_to rfl k)) (fun h k => sat_nil k) k) k)⟩
    refine Br.mk (fun g => ?_) (fun g3 => ?_)
    · exact ⟨⟨true, fun h => (by cases h)⟩, Le.of rfl ⟨⟨_, rfl, rfl⟩, ⟨_, rfl, rfl⟩, ⟨_, rfl, rfl⟩, ⟨_, rfl, rfl⟩, trivial⟩ (fun h k => sat_pick 1 rfl (by first | exact fun _ k => k | exact fun _ k => blk_to rfl rfl k | exact fun _ k => vec_to rfl k | exact fun _ k => blk_of rfl rfl k | exact fun _ k => vec_of rfl k | exact fun _ k => blk_of rfl rfl (blk_to rfl rfl k) | exact fun _ k => vec_of rfl (vec_to rfl k) | exact fun _ k => mp_to rfl k | exact fun _ k => mp_of rfl k | exact fun _ k => mp_of rfl (mp_to rfl k)) (fun h k => sat_pick 0 rfl (by first | exact fun _ k => k | exact fun _ k => blk_to rfl rfl k | exact fun _ k => vec_to rfl k | exact fun _ k => blk_of rfl rfl k | exact fun _ k => vec_of rfl k | exact fun _ k => blk_of rfl rfl (blk_to rfl rfl k) | exact fun _ k => vec_of rfl (vec_to rfl k) | exact fun _ k => mp_to rfl k | exact fun _ k => mp_of rfl k | exact fun _ k => mp_of rfl (mp_to rfl k)) (fun h k => sat_nil k) k) k)⟩
    refine Br.mk (fun g => ?_) (fun g4 => ?_)
    · exact ⟨⟨true, fun h => (by cases h)⟩, Le.of rfl ⟨⟨_, rfl, rfl⟩, ⟨_, rfl, rfl⟩, ⟨_, rfl, rfl⟩, ⟨_, rfl, rfl⟩, trivial⟩ (fun h k => sat_pick 1 rfl (by first | exact fun _ k => k | exact fun _ k => blk_to rfl rfl k | exact fun _ k => vec_to rfl k | exact fun _ k => blk_of rfl rfl k | exact fun _ k => vec_of rfl k | exact fun _ k => blk_of rfl rfl (blk_to rfl rfl k) | exact fun _ k => vec_of rfl (vec_to rfl k) | exact fun _ k => mp_to rfl k | exact fun _ k => mp_of rfl k | exact fun _ k => mp_of rfl (mp_to rfl k)) (fun h k => sat_pick 0 rfl (by first | exact fun _ k => k | exact fun _ k => blk_to rfl rfl k | exact fun _ k => vec_to rfl k | exact fun _ k => blk_of rfl rfl k | exact fun _ k => vec_of rfl k | exact fun _ k => blk_of rfl rfl (blk_to rfl rfl k) | exact fun _ k => vec_of rfl (vec_to rfl k) | exact fun _ k => mp_to rfl k | exact fun _ k => mp_of rfl k | exact fun _ k => mp_of rfl (mp_to rfl k)) (fun h k => sat_nil k) k) k)⟩
    refine ⟨⟨decide (s.mss > 65535), fun h => ?_⟩, Le.of rfl ⟨⟨_, rfl, rfl⟩, ⟨_, rfl, rfl⟩, ⟨_, rfl, rfl⟩, ⟨_, rfl, rfl⟩, trivial⟩ (fun h k => sat_pick 1 rfl (by first | exact fun _ k => k | exact fun _ k => blk_to rfl rfl k | exact fun _ k => vec_to rfl k | exact fun _ k => blk_of rfl rfl k | exact fun _ k => vec_of rfl k | exact fun _ k => blk_of rfl rfl (blk_to rfl rfl k) | exact fun _ k => vec_of rfl (vec_to rfl k) | exact fun _ k => mp_to rfl k | exact fun _ k => mp_of rfl k | exact fun _ k => mp_of rfl (mp_to rfl k)) (fun h k => sat_pick 0 rfl (by first | exact fun _ k => k | exact fun _ k => blk_to rfl rfl k | exact fun _ k => vec_to rfl k | exact fun _ k => blk_of rfl rfl k | exact fun _ k => vec_of rfl k | exact fun _ k => blk_of rfl rfl (blk_to rfl rfl k) | exact fun _ k => vec_of rfl (vec_to rfl k) | exact fun _ k => mp_to rfl k | exact fun _ k => mp_of rfl k | exact fun _ k => mp_of rfl (mp_to rfl k)) (fun h k => sat_nil k) k) k)⟩
    have g1 := of_decide_eq_false g1
    have g2 := of_decide_eq_false g2
    have g3 := of_decide_eq_false g3
    have g4 := of_decide_eq_false g4
    have h := of_decide_eq_false h
    omega
  rintro ⟨z, hz⟩
  refine CondOb.split (fun g => ?_) (fun g => ?_)
  · refine useP .tt live_spec rfl rfl ?_
    exact FinOb.mk [.bool true] [] rfl (fun h k => trivial) ⟨rfl, rfl⟩
  obtain ⟨z1, z2, z3, z4, z5⟩ := hz g
  refine DrawOb.mk [(1, [0, 2])] (.run [0, 2, 1, 3, 4, 5, 6, 7, 8] .nil) (by kernel_rfl) ?_
  refine useP (.agg (Qd.mk 1 1000 2 80).svs) (quad_spec 0 rfl) rfl rfl ?_
  refine Need.mk rfl ?_
  by_cases hc : c.Ok
  rotate_left
  · refine useP (.tuple [.nilp, .int .i64 1]) (open_bad c ⟨1, 1000, 2, 80⟩ iss 0 (fun h => hc h.1)) rfl rfl ?_
    refine useP (.int .i64 1) (code_spec 1) rfl rfl ?_
    refine CondOb.split (fun _ => ?_) (fun g => absurd g (by decide))
    refine RegOb.go ?_
    have hck := rcheck_spec c
    rw [if_neg hc] at hck
    refine useP (.int .i64 1) hck rfl rfl ?_
    refine Br.mk (fun _ => ?_) (fun g => absurd g (by decide))
    refine useP .tt live_spec rfl rfl ?_
    exact FinOb.mk [.bool true] [] rfl (fun h k => trivial) ⟨rfl, rfl⟩
  refine call_ix (open_ok c ⟨1, 1000, 2, 80⟩ iss 0 hc (by decide) (by decide)) rfl [] (fun h k => k) (fun _ _ _ _ => trivial) ?_
  rintro v post ⟨b, bs, bi, be, bc, br, qb, o, co, rfl, hco, rfl⟩
  refine ⟨.tuple [.raw (pp b), .int .i64 0], _, 2, [.asn (CA b (X.opened c ⟨1, 1000, 2, 80⟩ iss 0 bs bi be bc br qb o co))], NmExt.refl _, rfl, (fun h k => sat_pick 0 rfl (by first | exact fun _ k => k | exact fun _ k => blk_to rfl rfl k | exact fun _ k => vec_to rfl k | exact fun _ k => blk_of rfl rfl k | exact fun _ k => vec_of rfl k | exact fun _ k => blk_of rfl rfl (blk_to rfl rfl k) | exact fun _ k => vec_of rfl (vec_to rfl k) | exact fun _ k => mp_to rfl k | exact fun _ k => mp_of rfl k | exact fun _ k => mp_of rfl (mp_to rfl k)) (fun h k => sat_nil k) k), ?_⟩
  refine useP (.int .i64 0) (code_spec 0) rfl rfl ?_
  refine CondOb.split (fun g => absurd g (by decide)) (fun _ => ?_)
  have F : (X.opened c ⟨1, 1000, 2, 80⟩ iss 0 bs bi be bc br qb o co).state = 1 ∧ (X.opened c ⟨1, 1000, 2, 80⟩ iss 0 bs bi be bc br qb o co).fault = 0 ∧ (X.opened c ⟨1, 1000, 2, 80⟩ iss 0 bs bi be bc br qb o co).iss = iss ∧ (X.opened c ⟨1, 1000, 2, 80⟩ iss 0 bs bi be bc br qb o co).top = addQ iss 1 ∧ 0 ≤ (X.opened c ⟨1, 1000, 2, 80⟩ iss 0 bs bi be bc br qb o co).si ∧ (X.opened c ⟨1, 1000, 2, 80⟩ iss 0 bs bi be bc br qb o co).cfg.Ok :=
    ⟨rfl, rfl, rfl, maxQ_next hi.1 hi.2, Int.le_refl 0, hc⟩
  generalize X.opened c ⟨1, 1000, 2, 80⟩ iss 0 bs bi be bc br qb o co = w at F ⊢
  obtain ⟨F1, F2, F3, F4, F5, F6⟩ := F
  refine call_ix (out_spec b w) rfl [0] (fun h k => sat_pick 0 rfl (by first | exact fun _ k => k | exact fun _ k => blk_to rfl rfl k | exact fun _ k => vec_to rfl k | exact fun _ k => blk_of rfl rfl k | exact fun _ k => vec_of rfl k | exact fun _ k => blk_of rfl rfl (blk_to rfl rfl k) | exact fun _ k => vec_of rfl (vec_to rfl k) | exact fun _ k => mp_to rfl k | exact fun _ k => mp_of rfl k | exact fun _ k => mp_of rfl (mp_to rfl k)) (fun h k => sat_pick 0 rfl (by first | exact fun _ k => k | exact fun _ k => blk_to rfl rfl k | exact fun _ k => vec_to rfl k | exact fun _ k => blk_of rfl rfl k | exact fun _ k => vec_of rfl k | exact fun _ k => blk_of rfl rfl (blk_to rfl rfl k) | exact fun _ k => vec_of rfl (vec_to rfl k) | exact fun _ k => mp_to rfl k | exact fun _ k => mp_of rfl k | exact fun _ k => mp_of rfl (mp_to rfl k)) (fun h k => sat_pick 0 rfl (by first | exact fun _ k => k | exact fun _ k => blk_to rfl rfl k | exact fun _ k => vec_to rfl k | exact fun _ k => blk_of rfl rfl k | exact fun _ k => vec_of rfl k | exact fun _ k => blk_of rfl rfl (blk_to rfl rfl k) | exact fun _ k => vec_of rfl (vec_to rfl k) | exact fun _ k => mp_to rfl k | exact fun _ k => mp_of rfl k | exact fun _ k => mp_of rfl (mp_to rfl k)) (fun h k => sat_nil k) k) k) k) (fun _ _ _ _ => trivial) ?_
  rintro v post ⟨rfl, rfl⟩
  refine ⟨.raw (.slice (locAddr 0 w.po) w.out.length w.co), _, 2, [.asn (CA b w.outed)], NmExt.refl _, rfl, (fun h k => sat_pick 0 rfl (by first | exact fun _ k => k | exact fun _ k => blk_to rfl rfl k | exact fun _ k => vec_to rfl k | exact fun _ k => blk_of rfl rfl k | exact fun _ k => vec_of rfl k | exact fun _ k => blk_of rfl rfl (blk_to rfl rfl k) | exact fun _ k => vec_of rfl (vec_to rfl k) | exact fun _ k => mp_to rfl k | exact fun _ k => mp_of rfl k | exact fun _ k => mp_of rfl (mp_to rfl k)) (fun h k => sat_nil k) k), ?_⟩
  have q2 : w.outed.Sm := ⟨F5, Nat.le_refl 0, Nat.zero_le _, F6⟩
  refine call_ix (input_syn b w.outed 0 s q2 F1) rfl [0] (fun h k => sat_pick 0 rfl (by first | exact fun _ k => k | exact fun _ k => blk_to rfl rfl k | exact fun _ k => vec_to rfl k | exact fun _ k => blk_of rfl rfl k | exact fun _ k => vec_of rfl k | exact fun _ k => blk_of rfl rfl (blk_to rfl rfl k) | exact fun _ k => vec_of rfl (vec_to rfl k) | exact fun _ k => mp_to rfl k | exact fun _ k => mp_of rfl k | exact fun _ k => mp_of rfl (mp_to rfl k)) (fun h k => sat_pick 0 rfl (by first | exact fun _ k => k | exact fun _ k => blk_to rfl rfl k | exact fun _ k => vec_to rfl k | exact fun _ k => blk_of rfl rfl k | exact fun _ k => vec_of rfl k | exact fun _ k => blk_of rfl rfl (blk_to rfl rfl k) | exact fun _ k => vec_of rfl (vec_to rfl k) | exact fun _ k => mp_to rfl k | exact fun _ k => mp_of rfl k | exact fun _ k => mp_of rfl (mp_to rfl k)) (fun h k => sat_pick 0 rfl (by first | exact fun _ k => k | exact fun _ k => blk_to rfl rfl k | exact fun _ k => vec_to rfl k | exact fun _ k => blk_of rfl rfl k | exact fun _ k => vec_of rfl k | exact fun _ k => blk_of rfl rfl (blk_to rfl rfl k) | exact fun _ k => vec_of rfl (vec_to rfl k) | exact fun _ k => mp_to rfl k | exact fun _ k => mp_of rfl k | exact fun _ k => mp_of rfl (mp_to rfl k)) (fun h k => sat_nil k) k) k) k) (fun _ _ _ _ => trivial) ?_
  rintro v post ⟨bc2, q, oo, co2, rfl, hco2, rfl⟩
  have hf : (w.outed.at 0).fault = 0 ∧ (w.outed.at 0).state = 1 ∧ (w.outed.at 0).out = [] ∧ (w.outed.at 0).iss = iss ∧ (w.outed.at 0).top = addQ iss 1 :=
    ⟨F2, F1, rfl, F3, F4⟩
  obtain ⟨f1, f2, f3, f4, f5⟩ := hf
  have hop := opens (bc := bc2) (q := q) (o := oo) (co := co2) (s := s) f2 f1 f3 (by rw [f4]; exact f5) (by rw [f4]; exact hi.1) (by rw [f4]; exact hi.2) hs.ack.1 hs.ack.2
  rw [f4] at hop
  generalize (w.outed.at 0).opening s bc2 q oo co2 = y at hop hco2 ⊢
  refine ⟨.tuple [], _, 2, [.asn (CA b y)], NmExt.refl _, rfl, (fun h k => sat_pick 0 rfl (by first | exact fun _ k => k | exact fun _ k => blk_to rfl rfl k | exact fun _ k => vec_to rfl k | exact fun _ k => blk_of rfl rfl k | exact fun _ k => vec_of rfl k | exact fun _ k => blk_of rfl rfl (blk_to rfl rfl k) | exact fun _ k => vec_of rfl (vec_to rfl k) | exact fun _ k => mp_to rfl k | exact fun _ k => mp_of rfl k | exact fun _ k => mp_of rfl (mp_to rfl k)) (fun h k => sat_nil k) k), ?_⟩
  obtain ⟨st, fa, fl, at_, hr⟩ : ∃ st fa fl at_, roQ iss s = (st, fa, fl, at_) := ⟨_, _, _, _, rfl⟩
  have hrs := ropening_spec iss s hi
  unfold roV at hrs
  obtain ⟨o1, o2, o3, o4, o5⟩ := hop
  rw [hr] at hrs o1 o2 o3 o4 o5
  simp only at hrs o1 o2 o3 o4 o5
  refine useP (.tuple [.int .i64 st, .int .i64 fa, .int .i64 fl, .int .u32 at_]) hrs rfl rfl ?_
  refine call_ix (out_spec b y) rfl [0] (fun h k => sat_pick 0 rfl (by first | exact fun _ k => k | exact fun _ k => blk_to rfl rfl k | exact fun _ k => vec_to rfl k | exact fun _ k => blk_of rfl rfl k | exact fun _ k => vec_of rfl k | exact fun _ k => blk_of rfl rfl (blk_to rfl rfl k) | exact fun _ k => vec_of rfl (vec_to rfl k) | exact fun _ k => mp_to rfl k | exact fun _ k => mp_of rfl k | exact fun _ k => mp_of rfl (mp_to rfl k)) (fun h k => sat_pick 0 rfl (by first | exact fun _ k => k | exact fun _ k => blk_to rfl rfl k | exact fun _ k => vec_to rfl k | exact fun _ k => blk_of rfl rfl k | exact fun _ k => vec_of rfl k | exact fun _ k => blk_of rfl rfl (blk_to rfl rfl k) | exact fun _ k => vec_of rfl (vec_to rfl k) | exact fun _ k => mp_to rfl k | exact fun _ k => mp_of rfl k | exact fun _ k => mp_of rfl (mp_to rfl k)) (fun h k => sat_pick 0 rfl (by first | exact fun _ k => k | exact fun _ k => blk_to rfl rfl k | exact fun _ k => vec_to rfl k | exact fun _ k => blk_of rfl rfl k | exact fun _ k => vec_of rfl k | exact fun _ k => blk_of rfl rfl (blk_to rfl rfl k) | exact fun _ k => vec_of rfl (vec_to rfl k) | exact fun _ k => mp_to rfl k | exact fun _ k => mp_of rfl k | exact fun _ k => mp_of rfl (mp_to rfl k)) (fun h k => sat_nil k) k) k) k) (fun _ _ _ _ => trivial) ?_
  rintro v post ⟨rfl, rfl⟩
  by_cases h0 : fl = 0
  · have e0 := o3 h0
    refine ⟨.raw (.slice (locAddr 0 y.po) 0 y.co), _, 2, [.asn (CA b y.outed)], NmExt.refl _, by rw [e0]; rfl, (fun h k => sat_pick 0 rfl (by first | exact fun _ k => k | exact fun _ k => blk_to rfl rfl k | exact fun _ k => vec_to rfl k | exact fun _ k => blk_of rfl rfl k | exact fun _ k => vec_of rfl k | exact fun _ k => blk_of rfl rfl (blk_to rfl rfl k) | exact fun _ k => vec_of rfl (vec_to rfl k) | exact fun _ k => mp_to rfl k | exact fun _ k => mp_of rfl k | exact fun _ k => mp_of rfl (mp_to rfl k)) (fun h k => sat_nil k) k), ?_⟩
    refine RegOb.join Unit (fun _ => ⟨142, [(5, .ptr 1 0), (7, .raw (pp b)), (11, .int .i64 fl), (12, .int .u32 at_), (13, .raw (.slice (locAddr 0 y.po) 0 y.co)), (84, .ff)], [(1, .at b2 0), (0, .at b1 0)], 2, [.asn (CA b y.outed), .blk 1 28 s.svs]⟩) ?_ (fun _ => ?_)
    · refine useR (.int .i64 st) ((state_spec b y.outed).mono (by rintro v p ⟨rfl, rfl⟩; exact ⟨by rw [← o1]; rfl, rfl⟩)) rfl (fun f' b' hs kb => Fr.told 0 rfl hs kb) rfl ?_
      refine Br.mk (fun g => absurd g (by simp)) (fun _ => ?_)
      refine useR (.int .i64 fa) ((fault_spec b y.outed).mono (by rintro v p ⟨rfl, rfl⟩; exact ⟨by rw [← o2]; rfl, rfl⟩)) rfl (fun f' b' hs kb => Fr.told 0 rfl hs kb) rfl ?_
      refine useP (.int .i64 fa) (code_spec fa) rfl rfl ?_
      exact ⟨(), Le.of rfl ⟨⟨_, rfl, rfl⟩, ⟨_, rfl, rfl⟩, ⟨_, rfl, rfl⟩, ⟨_, rfl, rfl⟩, ⟨_, rfl, rfl⟩, ⟨_, rfl, (by simp; rfl)⟩, trivial⟩ (fun h k => sat_pick 0 rfl (by first | exact fun _ k => k | exact fun _ k => blk_to rfl rfl k | exact fun _ k => vec_to rfl k | exact fun _ k => blk_of rfl rfl k | exact fun _ k => vec_of rfl k | exact fun _ k => blk_of rfl rfl (blk_to rfl rfl k) | exact fun _ k => vec_of rfl (vec_to rfl k) | exact fun _ k => mp_to rfl k | exact fun _ k => mp_of rfl k | exact fun _ k => mp_of rfl (mp_to rfl k)) (fun h k => sat_pick 1 rfl (by first | exact fun _ k => k | exact fun _ k => blk_to rfl rfl k | exact fun _ k => vec_to rfl k | exact fun _ k => blk_of rfl rfl k | exact fun _ k => vec_of rfl k | exact fun _ k => blk_of rfl rfl (blk_to rfl rfl k) | exact fun _ k => vec_of rfl (vec_to rfl k) | exact fun _ k => mp_to rfl k | exact fun _ k => mp_of rfl k | exact fun _ k => mp_of rfl (mp_to rfl k)) (fun h k => sat_nil k) k) k)⟩
    refine CondOb.split (fun _ => ?_) (fun g => absurd g (by simp [h0]))
    refine RegOb.go ?_
    refine Br.mk (fun _ => ?_) (fun g => absurd g (by decide))
    refine useP .tt live_spec rfl rfl ?_
    exact FinOb.mk [.bool true] [] rfl (fun h k => trivial) ⟨rfl, rfl⟩
  obtain ⟨p1, sg, p2, p3, p4, p5, p6⟩ := o4 h0
  refine ⟨.sl 2 0 1 y.co, (2, .at q oo) :: _, 3, [.asn (CA b y.outed), .vec 2 28 9 y.co sg.vals], NmExt.push rfl, by rw [p1, p2]; rfl, (fun h k => sat_pick 0 rfl (by first | exact fun _ k => k | exact fun _ k => blk_to rfl rfl k | exact fun _ k => vec_to rfl k | exact fun _ k => blk_of rfl rfl k | exact fun _ k => vec_of rfl k | exact fun _ k => blk_of rfl rfl (blk_to rfl rfl k) | exact fun _ k => vec_of rfl (vec_to rfl k) | exact fun _ k => mp_to rfl k | exact fun _ k => mp_of rfl k | exact fun _ k => mp_of rfl (mp_to rfl k)) (fun h k => sat_pick 0 rfl (fun h k => vec_of rfl (by rw [p1, p2] at k; exact vec_cast (SL.flat_one sg) k)) (fun h k => sat_nil k) k) k), ?_⟩
  refine RegOb.join Unit (fun _ => ⟨142, [(5, .ptr 1 0), (7, .raw (pp b)), (11, .int .i64 fl), (12, .int .u32 at_), (13, .sl 2 0 1 y.co), (84, .ff)], [(2, .at q oo),(1, .at b2 0), (0, .at b1 0)], 3, [.asn (CA b y.outed), .vec 2 28 9 y.co sg.vals,.blk 1 28 s.svs]⟩) ?_ (fun _ => ?_)
  · refine useR (.int .i64 st) ((state_spec b y.outed).mono (by rintro v p ⟨rfl, rfl⟩; exact ⟨by rw [← o1]; rfl, rfl⟩)) rfl (fun f' b' hs kb => Fr.told 0 rfl hs kb) rfl ?_
    refine Br.mk (fun g => absurd g (by simp)) (fun _ => ?_)
    refine useR (.int .i64 fa) ((fault_spec b y.outed).mono (by rintro v p ⟨rfl, rfl⟩; exact ⟨by rw [← o2]; rfl, rfl⟩)) rfl (fun f' b' hs kb => Fr.told 0 rfl hs kb) rfl ?_
    refine useP (.int .i64 fa) (code_spec fa) rfl rfl ?_
    exact ⟨(), Le.of rfl ⟨⟨_, rfl, rfl⟩, ⟨_, rfl, rfl⟩, ⟨_, rfl, rfl⟩, ⟨_, rfl, rfl⟩, ⟨_, rfl, rfl⟩, ⟨_, rfl, (by simp; rfl)⟩, trivial⟩ (fun h k => sat_pick 0 rfl (by first | exact fun _ k => k | exact fun _ k => blk_to rfl rfl k | exact fun _ k => vec_to rfl k | exact fun _ k => blk_of rfl rfl k | exact fun _ k => vec_of rfl k | exact fun _ k => blk_of rfl rfl (blk_to rfl rfl k) | exact fun _ k => vec_of rfl (vec_to rfl k) | exact fun _ k => mp_to rfl k | exact fun _ k => mp_of rfl k | exact fun _ k => mp_of rfl (mp_to rfl k)) (fun h k => sat_pick 0 rfl (by first | exact fun _ k => k | exact fun _ k => blk_to rfl rfl k | exact fun _ k => vec_to rfl k | exact fun _ k => blk_of rfl rfl k | exact fun _ k => vec_of rfl k | exact fun _ k => blk_of rfl rfl (blk_to rfl rfl k) | exact fun _ k => vec_of rfl (vec_to rfl k) | exact fun _ k => mp_to rfl k | exact fun _ k => mp_of rfl k | exact fun _ k => mp_of rfl (mp_to rfl k)) (fun h k => sat_pick 1 rfl (by first | exact fun _ k => k | exact fun _ k => blk_to rfl rfl k | exact fun _ k => vec_to rfl k | exact fun _ k => blk_of rfl rfl k | exact fun _ k => vec_of rfl k | exact fun _ k => blk_of rfl rfl (blk_to rfl rfl k) | exact fun _ k => vec_of rfl (vec_to rfl k) | exact fun _ k => mp_to rfl k | exact fun _ k => mp_of rfl k | exact fun _ k => mp_of rfl (mp_to rfl k)) (fun h k => sat_nil k) k) k) k)⟩
  refine CondOb.split (fun g => absurd g (by simp [h0])) (fun _ => ?_)
  refine CondOb.split (fun g => absurd g (by decide)) (fun _ => ?_)
  have hfl : IntKind.i64.wrap sg.flags = fl := by rw [p3]; rcases o5 with e | e | e | e <;> rw [e] <;> rfl
  refine RegOb.join Unit (fun _ => ⟨142, [(5, .ptr 1 0), (7, .raw (pp b)), (11, .int .i64 fl), (13, .sl 2 0 1 y.co), (118, .ff)], [(2, .at q oo), (1, .at b2 0), (0, .at b1 0)], 3, [.asn (CA b y.outed), .vec 2 28 9 y.co sg.vals, .blk 1 28 s.svs]⟩) ?_ (fun _ => ?_)
  · refine Need.mk (by decide) ?_
    refine RdOb.mk (.int .u8 sg.flags) _ rfl rfl ?_
    refine Br.mk (fun g => absurd g (by rw [hfl]; simp)) (fun _ => ?_)
    refine Need.mk (by decide) ?_
    refine RdOb.mk (.int .u32 sg.seq) _ rfl rfl ?_
    refine Br.mk (fun g => absurd g (by simp [p4])) (fun _ => ?_)
    refine Need.mk (by decide) ?_
    refine RdOb.mk (.raw (.slice sg.A sg.len sg.cap)) _ rfl rfl ?_
    exact ⟨(), Le.of rfl ⟨⟨_, rfl, rfl⟩, ⟨_, rfl, rfl⟩, ⟨_, rfl, rfl⟩, ⟨_, rfl, rfl⟩, ⟨_, rfl, (by rw [p5]; rfl)⟩, trivial⟩ (fun h k => sat_pick 0 rfl (by first | exact fun _ k => k | exact fun _ k => blk_to rfl rfl k | exact fun _ k => vec_to rfl k | exact fun _ k => blk_of rfl rfl k | exact fun _ k => vec_of rfl k | exact fun _ k => blk_of rfl rfl (blk_to rfl rfl k) | exact fun _ k => vec_of rfl (vec_to rfl k) | exact fun _ k => mp_to rfl k | exact fun _ k => mp_of rfl k | exact fun _ k => mp_of rfl (mp_to rfl k)) (fun h k => sat_pick 0 rfl (by first | exact fun _ k => k | exact fun _ k => blk_to rfl rfl k | exact fun _ k => vec_to rfl k | exact fun _ k => blk_of rfl rfl k | exact fun _ k => vec_of rfl k | exact fun _ k => blk_of rfl rfl (blk_to rfl rfl k) | exact fun _ k => vec_of rfl (vec_to rfl k) | exact fun _ k => mp_to rfl k | exact fun _ k => mp_of rfl k | exact fun _ k => mp_of rfl (mp_to rfl k)) (fun h k => sat_pick 0 rfl (by first | exact fun _ k => k | exact fun _ k => blk_to rfl rfl k | exact fun _ k => vec_to rfl k | exact fun _ k => blk_of rfl rfl k | exact fun _ k => vec_of rfl k | exact fun _ k => blk_of rfl rfl (blk_to rfl rfl k) | exact fun _ k => vec_of rfl (vec_to rfl k) | exact fun _ k => mp_to rfl k | exact fun _ k => mp_of rfl k | exact fun _ k => mp_of rfl (mp_to rfl k)) (fun h k => sat_nil k) k) k) k)⟩
  refine RegOb.go ?_
  refine DrawOb.mk [(9, [3, 4, 5, 6]), (13, [15, 16])] (.run [0, 1, 2, 3, 4, 5, 6, 7, 8, 9, 10, 11, 12, 15, 16, 13, 14, 17, 18, 19, 20, 21, 22, 23] .nil) (by kernel_rfl) ?_
  refine Br.mk (fun _ => ?_) (fun g4 => ?_)
  · refine useP .tt live_spec rfl rfl ?_
    exact FinOb.mk [.bool true] [] rfl (fun h k => trivial) ⟨rfl, rfl⟩
  have g4 : fl ≠ 4 := by simpa using g4
  obtain ⟨p7, p8⟩ : sg.ack = addQ s.seq 1 ∧ y.irs = s.seq := by rcases p6 with h | h; exact absurd h g4; exact h
  refine Need.mk (by decide) ?_
  refine RdOb.mk (.int .u32 sg.ack) _ rfl rfl ?_
  refine useP (.int .u32 (addQ s.seq 1)) (radd_spec _ _ hs.seq (by decide)) rfl rfl ?_
  refine RdOb.mk (.int .u32 sg.ack) _ rfl rfl ?_
  refine Need.mk rfl ?_
  refine Br.mk (fun _ => ?_) (fun g => absurd g (by simp [p7]))
  refine useR (.agg y.outed.varsS) (vars_spec b y.outed) rfl (fun f' b' hs kb => Fr.told 0 rfl hs kb) rfl ?_
  refine Need.mk rfl ?_
  refine Br.mk (fun _ => ?_) (fun g => absurd g (by show ¬ (y.irs == s.seq) = false; simp [p8]))
  refine useP .tt live_spec rfl rfl ?_
  exact FinOb.mk [.bool true] [] rfl (fun h k => trivial) ⟨rfl, rfl⟩
theorem c_reads {f : HP} {n : Nat} {cs : List Value} (h : RdS Tryz.prog f (n + 2) 23 cs) : ∃ c : Cf, cs = c.vals := by
  have hl := RdS.cells Tryz.underlying23 h
  rw [show Tryz.prog.cellsOf 23 = 9 by kernel_rfl] at hl
  match cs, hl with
  | [x0, x1, x2, x3, x4, x5, x6, x7, x8], _ =>
  obtain ⟨a0, h0, w0⟩ := RdS.int Tryz.underlying3 (RdS.field Tryz.underlying23 h 0 rfl (ds := [x0]) (by simp only [c3]; rfl))
  obtain ⟨a1, h1, w1⟩ := RdS.int Tryz.underlying3 (RdS.field Tryz.underlying23 h 1 rfl (ds := [x1]) (by simp only [c3]; rfl))
  obtain ⟨a2, h2, w2⟩ := RdS.int Tryz.underlying3 (RdS.field Tryz.underlying23 h 2 rfl (ds := [x2]) (by simp only [c3]; rfl))
  obtain ⟨a3, h3, w3⟩ := RdS.int Tryz.underlying3 (RdS.field Tryz.underlying23 h 3 rfl (ds := [x3]) (by simp only [c3]; rfl))
  obtain ⟨a4, h4, w4⟩ := RdS.int Tryz.underlying3 (RdS.field Tryz.underlying23 h 4 rfl (ds := [x4]) (by simp only [c3]; rfl))
  obtain ⟨a5, h5, w5⟩ := RdS.int Tryz.underlying3 (RdS.field Tryz.underlying23 h 5 rfl (ds := [x5]) (by simp only [c3]; rfl))
  obtain ⟨a6, h6, w6⟩ := RdS.int Tryz.underlying3 (RdS.field Tryz.underlying23 h 6 rfl (ds := [x6]) (by simp only [c3]; rfl))
  obtain ⟨a7, h7, w7⟩ := RdS.int Tryz.underlying3 (RdS.field Tryz.underlying23 h 7 rfl (ds := [x7]) (by simp only [c3]; rfl))
  obtain ⟨a8, h8, w8⟩ := RdS.int Tryz.underlying3 (RdS.field Tryz.underlying23 h 8 rfl (ds := [x8]) (by simp only [c3]; rfl))
  simp only [List.cons.injEq, and_true] at h0 h1 h2 h3 h4 h5 h6 h7 h8
  subst h0; subst h1; subst h2; subst h3; subst h4; subst h5; subst h6; subst h7; subst h8
  exact ⟨⟨a0, a1, a2, a3, a4, a5, a6, a7, a8⟩, rfl⟩
theorem opening_row (x : Array Value) (iss : Int) (hi : (Lit.int .u32 iss).wf = true) (y : Array Value) : Does Tryz.prog 3 #[.agg x, .int .u32 iss, .agg y] (fun f => RdS Tryz.prog f 6 23 x.toList ∧ RdS Tryz.prog f 6 28 y.toList) [] (fun v q => v = .bool true ∧ q = []) := by
  refine ⟨Tryz.call3, fun f w0 hR hat => ?_⟩
  obtain ⟨c, e⟩ := c_reads (n := 4) hR.1
  obtain ⟨s, e2, hs, _⟩ := seg_reads (n := 4) hR.2
  obtain rfl : x = c.vals.toArray := by rw [← e]
  obtain rfl : y = s.vals.toArray := by rw [← e2]
  exact (opening_law c iss s (u32_of hi) hs).run f w0 trivial hat
end Go.Proofs.YtljgcapejcnmgaaGreat.Tc
