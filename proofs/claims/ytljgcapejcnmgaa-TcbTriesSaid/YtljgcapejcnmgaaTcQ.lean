/- tcb: TcbTries, walked. Conditions: none. -/
import Derived.Test.YtljgcapejcnmgaaTcP
namespace Go.Proofs.Ytljgcapejcnmgaa.Tc
open Go Go.Proofs Sx
set_option maxRecDepth 100000
set_option linter.unusedVariables false
set_option linter.unusedSimpArgs false
set_option maxHeartbeats 4000000

theorem tick_try (b : Nat) (c : Cf) (now : Int) (k : Nat) (x : X) (hc : c.Ok) (h0 : 0 ≤ now) (hnow : now ≤ 1099507433472) (h : Wait c now k x) (hk : (k : Int) < c.tries) (h2 : tt c now (k + 1) < now + c.user) :
    Does Try.prog 11 #[pp b, .int .i64 (tt c now (k + 1))] (fun _ => True) [CA b x] (fun v p => ∃ q o co, v = .tuple #[] ∧ p = [CA b (x.again_ (tt c now (k + 1)) q o co)]) := by
  have hu := hc.2.2.2.2.2.2.2
  have htr := hc.2.2.2.2.2.1
  have hr := hc.2.2.1
  have hn1 := h.n1
  have ea : x.at (tt c now (k + 1)) = { x with now := tt c now (k + 1) } := at_now (by omega) (by omega)
  have hsp := tick_syn b x (tt c now (k + 1)) (by rw [ea]; show x.user.due (tt c now (k + 1)) = false; rw [h.us]; unfold Al.due; simp; omega) (by rw [ea]; show x.wait.due _ = false; unfold Al.due; rw [h.wa]; rfl)
    (by rw [ea]; show x.again.due (tt c now (k + 1)) = true; rw [h.ag]; unfold Al.due; simp) (by rw [ea]; show ¬ IntKind.i64.wrap (x.tries + 1) > x.cfg.tries; rw [h.tr, h.cfg, w64 (by omega) (by omega)]; omega)
    (by rw [ea]; exact h.st) (by rw [ea]; exact h.si) (by rw [ea]; show x.out.length ≤ x.co; rw [h.out]; exact Nat.zero_le _) (by rw [ea]; show x.out.length ≤ 1000000; rw [h.out]; exact Nat.zero_le _) (by rw [ea]; show 0 ≤ x.cfg.rcv; rw [h.cfg]; omega) (by rw [ea]; show x.cfg.rcv ≤ 1048576; rw [h.cfg]; exact hr.2)
  refine hsp.mono ?_
  rintro v p ⟨q, o, co, rfl, _, rfl⟩
  exact ⟨q, o, co, rfl, by rw [ea]; rfl⟩
theorem tries_walk (c : Cf) (now : Int) : Does Try.prog 3 #[.agg c.vals.toArray, .int .i64 now] (fun _ => True) [] (fun v p => v = .bool true ∧ p = []) := by
  refine Does.ofJ Try.func3 Try.call3 rfl [.agg c.svs, .int .i64 now] [] 0 [] rfl rfl (fun h k => k) (fun f hR => ?_)
  intro b1
  refine DrawOb.mk [(1, [0, 2])] (.run [0, 2, 1, 3, 4, 5, 6, 7, 8] .nil) (by kernel_rfl) ?_
  refine useP (.agg (Qd.mk 1 1000 2 80).svs) (quad_spec 0 rfl) rfl rfl ?_
  refine Need.mk rfl ?_
  by_cases hok : c.Ok ∧ 0 ≤ now ∧ now ≤ 1099511627776
  rotate_left
  · refine useP (.tuple [.nilp, .int .i64 1]) (open_bad c ⟨1, 1000, 2, 80⟩ 7 now hok) rfl rfl ?_
    refine useP (.int .i64 1) (code_spec 1) rfl rfl ?_
    refine CondOb.split (fun _ => ?_) (fun g => absurd g (by decide))
    refine RegOb.go ?_
    refine useP .tt live_spec rfl rfl ?_
    exact FinOb.mk [.bool true] [] rfl (fun h k => trivial) ⟨rfl, rfl⟩
  obtain ⟨hc, h0, h1⟩ := hok
  refine call_ix (open_ok c ⟨1, 1000, 2, 80⟩ 7 now hc h0 h1) rfl [] (fun h k => k) (fun _ _ _ _ => trivial) ?_
  rintro v post ⟨b, bs, bi, be, bc, br, qb, o, co, rfl, hco, rfl⟩
  have hw := wt_ok hc 0
  have hu := hc.2.2.2.2.2.2.2
  have htr := hc.2.2.2.2.2.1
  have F : Wait c now 0 (X.opened c ⟨1, 1000, 2, 80⟩ 7 now bs bi be bc br qb o co).outed := by
    refine ⟨rfl, rfl, rfl, rfl, rfl, ?_, ?_, rfl, rfl, rfl, rfl, rfl, Int.le_refl 0, rfl, rfl, ?_, ?_⟩
    · show Al.mk (IntKind.i64.wrap (now + c.first)) true = Al.mk (now + c.first) true
      have : wt c 0 = c.first := rfl
      rw [w64 (by omega) (by omega)]
    · show Al.mk (IntKind.i64.wrap (now + c.user)) true = _
      rw [w64 (by omega) (by omega)]
    · show now < now + wt c 0; omega
    · show now < now + c.user; omega
  generalize X.opened c ⟨1, 1000, 2, 80⟩ 7 now bs bi be bc br qb o co = w at F ⊢
  refine ⟨.tuple [.raw (pp b), .int .i64 0], _, 1, [.asn (CA b w)], NmExt.refl _, rfl, (fun h k => sat_pick 0 rfl (by first | exact fun _ k => k | exact fun _ k => blk_to rfl rfl k | exact fun _ k => vec_to rfl k | exact fun _ k => blk_of rfl rfl k | exact fun _ k => vec_of rfl k | exact fun _ k => blk_of rfl rfl (blk_to rfl rfl k) | exact fun _ k => vec_of rfl (vec_to rfl k) | exact fun _ k => mp_to rfl k | exact fun _ k => mp_of rfl k | exact fun _ k => mp_of rfl (mp_to rfl k)) (fun h k => sat_nil k) k), ?_⟩
  refine useP (.int .i64 0) (code_spec 0) rfl rfl ?_
  refine CondOb.split (fun g => absurd g (by decide)) (fun _ => ?_)
  refine CondOb.split (fun g => ?_) (fun g => ?_)
  · refine useP .tt live_spec rfl rfl ?_
    exact FinOb.mk [.bool true] [] rfl (fun h k => trivial) ⟨rfl, rfl⟩
  have hnow : now ≤ 1099507433472 := by have g := of_decide_eq_false g; omega
  refine call_ix (tries_spec c now hc h0 (by omega)) rfl [] (fun h k => k) (fun _ _ _ _ => trivial) ?_
  rintro v post ⟨n, e, pl, cap, rfl, hT, hcap, hpl, rfl⟩
  refine ⟨.tuple [.sl 1 0 n cap, .int .i64 e], (1, pl) :: _, 2, [.vec 1 3 1 cap (IL.flat (trL c now n))], NmExt.push rfl, rfl, (fun h k => sat_pick 0 rfl (fun h k => vec_of rfl k) (fun h k => sat_nil k) k), ?_⟩
  refine call_ix (out_spec b w) rfl [1] (fun h k => sat_pick 1 rfl (by first | exact fun _ k => k | exact fun _ k => blk_to rfl rfl k | exact fun _ k => vec_to rfl k | exact fun _ k => blk_of rfl rfl k | exact fun _ k => vec_of rfl k | exact fun _ k => blk_of rfl rfl (blk_to rfl rfl k) | exact fun _ k => vec_of rfl (vec_to rfl k) | exact fun _ k => mp_to rfl k | exact fun _ k => mp_of rfl k | exact fun _ k => mp_of rfl (mp_to rfl k)) (fun h k => sat_pick 0 rfl (by first | exact fun _ k => k | exact fun _ k => blk_to rfl rfl k | exact fun _ k => vec_to rfl k | exact fun _ k => blk_of rfl rfl k | exact fun _ k => vec_of rfl k | exact fun _ k => blk_of rfl rfl (blk_to rfl rfl k) | exact fun _ k => vec_of rfl (vec_to rfl k) | exact fun _ k => mp_to rfl k | exact fun _ k => mp_of rfl k | exact fun _ k => mp_of rfl (mp_to rfl k)) (fun h k => sat_pick 0 rfl (by first | exact fun _ k => k | exact fun _ k => blk_to rfl rfl k | exact fun _ k => vec_to rfl k | exact fun _ k => blk_of rfl rfl k | exact fun _ k => vec_of rfl k | exact fun _ k => blk_of rfl rfl (blk_to rfl rfl k) | exact fun _ k => vec_of rfl (vec_to rfl k) | exact fun _ k => mp_to rfl k | exact fun _ k => mp_of rfl k | exact fun _ k => mp_of rfl (mp_to rfl k)) (fun h k => sat_nil k) k) k) k) (fun _ _ _ _ => trivial) ?_
  rintro v post ⟨rfl, rfl⟩
  refine ⟨.raw (.slice (locAddr 0 w.po) w.out.length w.co), _, 2, [.asn (CA b w.outed)], NmExt.refl _, rfl, (fun h k => sat_pick 0 rfl (by first | exact fun _ k => k | exact fun _ k => blk_to rfl rfl k | exact fun _ k => vec_to rfl k | exact fun _ k => blk_of rfl rfl k | exact fun _ k => vec_of rfl k | exact fun _ k => blk_of rfl rfl (blk_to rfl rfl k) | exact fun _ k => vec_of rfl (vec_to rfl k) | exact fun _ k => mp_to rfl k | exact fun _ k => mp_of rfl k | exact fun _ k => mp_of rfl (mp_to rfl k)) (fun h k => sat_nil k) k), ?_⟩
  have hfew := hT.few
  refine LoopOb.mk { z : Nat × X // z.1 ≤ n ∧ Wait c now z.1 z.2 } (fun z => ⟨198, [(5, .raw (pp b)), (7, .sl 1 0 n cap), (8, .int .i64 e), (9, .int .i64 z.1.1)], [(1, pl)], 2, [.asn (CA b z.1.2), .vec 1 3 1 cap (IL.flat (trL c now n))]⟩) (fun z => n - z.1.1) ⟨(0, w.outed), Nat.zero_le _, F⟩ ?_ ?_
  · exact Le.of rfl ⟨⟨_, rfl, rfl⟩, ⟨_, rfl, rfl⟩, ⟨_, rfl, rfl⟩, ⟨_, rfl, rfl⟩, trivial⟩ (fun h k => sat_pick 0 rfl (by first | exact fun _ k => k | exact fun _ k => blk_to rfl rfl k | exact fun _ k => vec_to rfl k | exact fun _ k => blk_of rfl rfl k | exact fun _ k => vec_of rfl k | exact fun _ k => blk_of rfl rfl (blk_to rfl rfl k) | exact fun _ k => vec_of rfl (vec_to rfl k) | exact fun _ k => mp_to rfl k | exact fun _ k => mp_of rfl k | exact fun _ k => mp_of rfl (mp_to rfl k)) (fun h k => sat_pick 0 rfl (by first | exact fun _ k => k | exact fun _ k => blk_to rfl rfl k | exact fun _ k => vec_to rfl k | exact fun _ k => blk_of rfl rfl k | exact fun _ k => vec_of rfl k | exact fun _ k => blk_of rfl rfl (blk_to rfl rfl k) | exact fun _ k => vec_of rfl (vec_to rfl k) | exact fun _ k => mp_to rfl k | exact fun _ k => mp_of rfl k | exact fun _ k => mp_of rfl (mp_to rfl k)) (fun h k => sat_nil k) k) k)
  clear F
  rintro ⟨⟨i, x⟩, hi, hx⟩
  simp only at hi hx
  refine CondOb.split (fun gi => ?_) (fun gi => ?_)
  · have gi : i < n := by
      have g := of_decide_eq_true gi
      have : (i : Int) < n := g
      omega
    obtain ⟨pq, po, rfl⟩ := hpl (by omega)
    have hlt := hT.each i gi
    have hb := tt_le hc now (i + 1)
    have hni : (0 : Int) ≤ (i : Int) ∧ (i : Int) < n := by omega
    have hrd : (IL.flat (trL c now n))[0 + (i : Int).toNat * 1]? = some (.int .i64 (tt c now (i + 1))) := by
      rw [Int.toNat_natCast, Nat.zero_add]
      exact IL.flat_at (l := trL c now n) (i := i) (a := tt c now (i + 1)) (j := 0) (by simp [trL, gi]) rfl
    have ei : IntKind.i64.wrap ((i : Int) + 1) = ((i + 1 : Nat) : Int) := by rw [w64 (by omega) (by omega)]; omega
    have em : IntKind.i64.wrap (tt c now (i + 1) - 1) = tt c now (i + 1) - 1 := w64 (by omega) (by omega)
    refine useR (.tuple [.int .i64 (tt c now (i + 1)), .tt]) ((next_spec b x).mono (by rintro v p ⟨rfl, rfl⟩; exact ⟨by rw [hx.next, if_pos hlt], rfl⟩)) rfl (fun f' b' hs kb => Fr.told 0 rfl hs kb) rfl ?_
    refine Need.mk hni ?_
    refine RdOb.mk (.int .i64 (tt c now (i + 1))) _ rfl hrd ?_
    obtain ⟨hx1, d1, d2, d3, d4⟩ := hx.later (m := IntKind.i64.wrap (tt c now (i + 1) - 1)) (by rw [em]; omega) (by rw [em]; omega) (by rw [em]; omega)
    refine call_ix (tick_idle b x _ d1 d2 d3 d4) rfl [0] (fun h k => sat_pick 0 rfl (by first | exact fun _ k => k | exact fun _ k => blk_to rfl rfl k | exact fun _ k => vec_to rfl k | exact fun _ k => blk_of rfl rfl k | exact fun _ k => vec_of rfl k | exact fun _ k => blk_of rfl rfl (blk_to rfl rfl k) | exact fun _ k => vec_of rfl (vec_to rfl k) | exact fun _ k => mp_to rfl k | exact fun _ k => mp_of rfl k | exact fun _ k => mp_of rfl (mp_to rfl k)) (fun h k => sat_pick 0 rfl (by first | exact fun _ k => k | exact fun _ k => blk_to rfl rfl k | exact fun _ k => vec_to rfl k | exact fun _ k => blk_of rfl rfl k | exact fun _ k => vec_of rfl k | exact fun _ k => blk_of rfl rfl (blk_to rfl rfl k) | exact fun _ k => vec_of rfl (vec_to rfl k) | exact fun _ k => mp_to rfl k | exact fun _ k => mp_of rfl k | exact fun _ k => mp_of rfl (mp_to rfl k)) (fun h k => sat_nil k) k) k) (fun _ _ _ _ => trivial) ?_
    rintro v post ⟨rfl, rfl⟩
    generalize x.at (IntKind.i64.wrap (tt c now (i + 1) - 1)) = x1 at hx1 ⊢
    clear d1 d2 d3 d4
    refine ⟨.tuple [], _, 2, [.asn (CA b x1)], NmExt.refl _, rfl, (fun h k => sat_pick 0 rfl (by first | exact fun _ k => k | exact fun _ k => blk_to rfl rfl k | exact fun _ k => vec_to rfl k | exact fun _ k => blk_of rfl rfl k | exact fun _ k => vec_of rfl k | exact fun _ k => blk_of rfl rfl (blk_to rfl rfl k) | exact fun _ k => vec_of rfl (vec_to rfl k) | exact fun _ k => mp_to rfl k | exact fun _ k => mp_of rfl k | exact fun _ k => mp_of rfl (mp_to rfl k)) (fun h k => sat_nil k) k), ?_⟩
    refine RegOb.join Unit (fun _ => ⟨198, [(5, .raw (pp b)), (7, .sl 1 0 n cap), (8, .int .i64 e), (9, .int .i64 i), (86, .ff)], [(1, .at pq po)], 2, [.asn (CA b x1.outed), .vec 1 3 1 cap (IL.flat (trL c now n))]⟩) ?_ (fun _ => ?_)
    · refine Need.mk hni ?_
      refine RdOb.mk (.int .i64 (tt c now (i + 1))) _ rfl hrd ?_
      refine Br.mk (fun g => absurd g (by simp)) (fun _ => ?_)
      refine call_ix (out_spec b x1) rfl [0] (fun h k => sat_pick 0 rfl (by first | exact fun _ k => k | exact fun _ k => blk_to rfl rfl k | exact fun _ k => vec_to rfl k | exact fun _ k => blk_of rfl rfl k | exact fun _ k => vec_of rfl k | exact fun _ k => blk_of rfl rfl (blk_to rfl rfl k) | exact fun _ k => vec_of rfl (vec_to rfl k) | exact fun _ k => mp_to rfl k | exact fun _ k => mp_of rfl k | exact fun _ k => mp_of rfl (mp_to rfl k)) (fun h k => sat_pick 0 rfl (by first | exact fun _ k => k | exact fun _ k => blk_to rfl rfl k | exact fun _ k => vec_to rfl k | exact fun _ k => blk_of rfl rfl k | exact fun _ k => vec_of rfl k | exact fun _ k => blk_of rfl rfl (blk_to rfl rfl k) | exact fun _ k => vec_of rfl (vec_to rfl k) | exact fun _ k => mp_to rfl k | exact fun _ k => mp_of rfl k | exact fun _ k => mp_of rfl (mp_to rfl k)) (fun h k => sat_nil k) k) k) (fun _ _ _ _ => trivial) ?_
      rintro v post ⟨rfl, rfl⟩
      refine ⟨.raw (.slice (locAddr 0 x1.po) 0 x1.co), _, 2, [.asn (CA b x1.outed)], NmExt.refl _, by rw [hx1.out]; rfl, (fun h k => sat_pick 0 rfl (by first | exact fun _ k => k | exact fun _ k => blk_to rfl rfl k | exact fun _ k => vec_to rfl k | exact fun _ k => blk_of rfl rfl k | exact fun _ k => vec_of rfl k | exact fun _ k => blk_of rfl rfl (blk_to rfl rfl k) | exact fun _ k => vec_of rfl (vec_to rfl k) | exact fun _ k => mp_to rfl k | exact fun _ k => mp_of rfl k | exact fun _ k => mp_of rfl (mp_to rfl k)) (fun h k => sat_nil k) k), ?_⟩
      refine Br.mk (fun g => absurd g (by decide)) (fun _ => ?_)
      refine useR (.int .i64 1) ((state_spec b x1.outed).mono (by rintro v p ⟨rfl, rfl⟩; exact ⟨congrArg (Value.int .i64) hx1.st, rfl⟩)) rfl (fun f' b' hs kb => Fr.told 0 rfl hs kb) rfl ?_
      exact ⟨(), Le.of rfl ⟨⟨_, rfl, rfl⟩, ⟨_, rfl, rfl⟩, ⟨_, rfl, rfl⟩, ⟨_, rfl, rfl⟩, ⟨_, rfl, rfl⟩, trivial⟩ (fun h k => sat_pick 0 rfl (by first | exact fun _ k => k | exact fun _ k => blk_to rfl rfl k | exact fun _ k => vec_to rfl k | exact fun _ k => blk_of rfl rfl k | exact fun _ k => vec_of rfl k | exact fun _ k => blk_of rfl rfl (blk_to rfl rfl k) | exact fun _ k => vec_of rfl (vec_to rfl k) | exact fun _ k => mp_to rfl k | exact fun _ k => mp_of rfl k | exact fun _ k => mp_of rfl (mp_to rfl k)) (fun h k => sat_pick 0 rfl (by first | exact fun _ k => k | exact fun _ k => blk_to rfl rfl k | exact fun _ k => vec_to rfl k | exact fun _ k => blk_of rfl rfl k | exact fun _ k => vec_of rfl k | exact fun _ k => blk_of rfl rfl (blk_to rfl rfl k) | exact fun _ k => vec_of rfl (vec_to rfl k) | exact fun _ k => mp_to rfl k | exact fun _ k => mp_of rfl k | exact fun _ k => mp_of rfl (mp_to rfl k)) (fun h k => sat_nil k) k) k)⟩
    have hx2 := hx1.outed
    generalize x1.outed = x2 at hx2 ⊢
    refine Need.mk hni ?_
    refine RdOb.mk (.int .i64 (tt c now (i + 1))) _ rfl hrd ?_
    refine call_ix (tick_try b c now i x2 hc h0 hnow hx2 (by omega) hlt) rfl [0] (fun h k => sat_pick 0 rfl (by first | exact fun _ k => k | exact fun _ k => blk_to rfl rfl k | exact fun _ k => vec_to rfl k | exact fun _ k => blk_of rfl rfl k | exact fun _ k => vec_of rfl k | exact fun _ k => blk_of rfl rfl (blk_to rfl rfl k) | exact fun _ k => vec_of rfl (vec_to rfl k) | exact fun _ k => mp_to rfl k | exact fun _ k => mp_of rfl k | exact fun _ k => mp_of rfl (mp_to rfl k)) (fun h k => sat_pick 0 rfl (by first | exact fun _ k => k | exact fun _ k => blk_to rfl rfl k | exact fun _ k => vec_to rfl k | exact fun _ k => blk_of rfl rfl k | exact fun _ k => vec_of rfl k | exact fun _ k => blk_of rfl rfl (blk_to rfl rfl k) | exact fun _ k => vec_of rfl (vec_to rfl k) | exact fun _ k => mp_to rfl k | exact fun _ k => mp_of rfl k | exact fun _ k => mp_of rfl (mp_to rfl k)) (fun h k => sat_nil k) k) k) (fun _ _ _ _ => trivial) ?_
    rintro v post ⟨q2, o2, co2, rfl, rfl⟩
    obtain ⟨hy, sg, hy1, hy2, hy3⟩ := hx2.try_ hc (by omega) h0 (by omega) hlt q2 o2 co2
    have hpo : (x2.again_ (tt c now (i + 1)) q2 o2 co2).po = .at q2 o2 := rfl
    generalize x2.again_ (tt c now (i + 1)) q2 o2 co2 = y at hy hy1 hpo ⊢
    refine ⟨.tuple [], _, 2, [.asn (CA b y)], NmExt.refl _, rfl, (fun h k => sat_pick 0 rfl (by first | exact fun _ k => k | exact fun _ k => blk_to rfl rfl k | exact fun _ k => vec_to rfl k | exact fun _ k => blk_of rfl rfl k | exact fun _ k => vec_of rfl k | exact fun _ k => blk_of rfl rfl (blk_to rfl rfl k) | exact fun _ k => vec_of rfl (vec_to rfl k) | exact fun _ k => mp_to rfl k | exact fun _ k => mp_of rfl k | exact fun _ k => mp_of rfl (mp_to rfl k)) (fun h k => sat_nil k) k), ?_⟩
    refine call_ix (out_spec b y) rfl [0] (fun h k => sat_pick 0 rfl (by first | exact fun _ k => k | exact fun _ k => blk_to rfl rfl k | exact fun _ k => vec_to rfl k | exact fun _ k => blk_of rfl rfl k | exact fun _ k => vec_of rfl k | exact fun _ k => blk_of rfl rfl (blk_to rfl rfl k) | exact fun _ k => vec_of rfl (vec_to rfl k) | exact fun _ k => mp_to rfl k | exact fun _ k => mp_of rfl k | exact fun _ k => mp_of rfl (mp_to rfl k)) (fun h k => sat_pick 0 rfl (by first | exact fun _ k => k | exact fun _ k => blk_to rfl rfl k | exact fun _ k => vec_to rfl k | exact fun _ k => blk_of rfl rfl k | exact fun _ k => vec_of rfl k | exact fun _ k => blk_of rfl rfl (blk_to rfl rfl k) | exact fun _ k => vec_of rfl (vec_to rfl k) | exact fun _ k => mp_to rfl k | exact fun _ k => mp_of rfl k | exact fun _ k => mp_of rfl (mp_to rfl k)) (fun h k => sat_nil k) k) k) (fun _ _ _ _ => trivial) ?_
    rintro v post ⟨rfl, rfl⟩
    refine ⟨.sl 2 0 1 y.co, (2, .at q2 o2) :: _, 3, [.asn (CA b y.outed), .vec 2 49 9 y.co sg.vals], NmExt.push rfl, by rw [hpo, hy1]; rfl, (fun h k => sat_pick 0 rfl (by first | exact fun _ k => k | exact fun _ k => blk_to rfl rfl k | exact fun _ k => vec_to rfl k | exact fun _ k => blk_of rfl rfl k | exact fun _ k => vec_of rfl k | exact fun _ k => blk_of rfl rfl (blk_to rfl rfl k) | exact fun _ k => vec_of rfl (vec_to rfl k) | exact fun _ k => mp_to rfl k | exact fun _ k => mp_of rfl k | exact fun _ k => mp_of rfl (mp_to rfl k)) (fun h k => sat_pick 0 rfl (fun h k => vec_of rfl (by rw [hpo, hy1] at k; exact vec_cast (SL.flat_one sg) k)) (fun h k => sat_nil k) k) k), ?_⟩
    refine RegOb.go ?_
    refine Br.mk (fun g => absurd g (by decide)) (fun _ => ?_)
    refine Need.mk (by decide) ?_
    refine RdOb.mk (.int .u8 sg.flags) _ rfl rfl ?_
    refine Br.mk (fun g => absurd g (by rw [hy2]; decide)) (fun _ => ?_)
    refine Need.mk (by decide) ?_
    refine RdOb.mk (.int .u32 sg.seq) _ rfl rfl ?_
    refine CondOb.split (fun g => absurd g (by rw [hy3]; decide)) (fun _ => ?_)
    exact ⟨⟨(i + 1, y.outed), gi, hy⟩, by show n - (i + 1) < n - i; omega, Le.of rfl ⟨⟨_, rfl, rfl⟩, ⟨_, rfl, rfl⟩, ⟨_, rfl, rfl⟩, ⟨_, rfl, congrArg (fun z => some (Value.int .i64 z)) ei⟩, trivial⟩ (fun h k => sat_pick 0 rfl (by first | exact fun _ k => k | exact fun _ k => blk_to rfl rfl k | exact fun _ k => vec_to rfl k | exact fun _ k => blk_of rfl rfl k | exact fun _ k => vec_of rfl k | exact fun _ k => blk_of rfl rfl (blk_to rfl rfl k) | exact fun _ k => vec_of rfl (vec_to rfl k) | exact fun _ k => mp_to rfl k | exact fun _ k => mp_of rfl k | exact fun _ k => mp_of rfl (mp_to rfl k)) (fun h k => sat_pick 1 rfl (by first | exact fun _ k => k | exact fun _ k => blk_to rfl rfl k | exact fun _ k => vec_to rfl k | exact fun _ k => blk_of rfl rfl k | exact fun _ k => vec_of rfl k | exact fun _ k => blk_of rfl rfl (blk_to rfl rfl k) | exact fun _ k => vec_of rfl (vec_to rfl k) | exact fun _ k => mp_to rfl k | exact fun _ k => mp_of rfl k | exact fun _ k => mp_of rfl (mp_to rfl k)) (fun h k => sat_nil k) k) k)⟩
  obtain rfl : i = n := by
    have g := of_decide_eq_false gi
    have : ¬ (i : Int) < n := g
    omega
  have hb := tt_le hc now (i + 1)
  have hn1 := hx.n1
  have hn2 := hx.n2
  have hE : (if tt c now (i + 1) < now + c.user then tt c now (i + 1) else now + c.user) = e ∧ e ≤ now + c.user ∧ e ≤ tt c now (i + 1) ∧ now < e := by
    rcases hT.last with ⟨g, rfl⟩ | ⟨g, _, rfl⟩
    · rw [if_neg (by omega)]; omega
    · rw [if_pos g]; omega
  obtain ⟨hE1, hE2, hE3, hE4⟩ := hE
  have em : IntKind.i64.wrap (e - 1) = e - 1 := w64 (by omega) (by omega)
  refine useR (.tuple [.int .i64 e, .tt]) ((next_spec b x).mono (by rintro v p ⟨rfl, rfl⟩; exact ⟨by rw [hx.next, hE1], rfl⟩)) rfl (fun f' b' hs kb => Fr.told 0 rfl hs kb) rfl ?_
  obtain ⟨hx1, d1, d2, d3, d4⟩ := hx.later (m := IntKind.i64.wrap (e - 1)) (by rw [em]; omega) (by rw [em]; omega) (by rw [em]; omega)
  refine call_ix (tick_idle b x _ d1 d2 d3 d4) rfl [0] (fun h k => sat_pick 0 rfl (by first | exact fun _ k => k | exact fun _ k => blk_to rfl rfl k | exact fun _ k => vec_to rfl k | exact fun _ k => blk_of rfl rfl k | exact fun _ k => vec_of rfl k | exact fun _ k => blk_of rfl rfl (blk_to rfl rfl k) | exact fun _ k => vec_of rfl (vec_to rfl k) | exact fun _ k => mp_to rfl k | exact fun _ k => mp_of rfl k | exact fun _ k => mp_of rfl (mp_to rfl k)) (fun h k => sat_pick 0 rfl (by first | exact fun _ k => k | exact fun _ k => blk_to rfl rfl k | exact fun _ k => vec_to rfl k | exact fun _ k => blk_of rfl rfl k | exact fun _ k => vec_of rfl k | exact fun _ k => blk_of rfl rfl (blk_to rfl rfl k) | exact fun _ k => vec_of rfl (vec_to rfl k) | exact fun _ k => mp_to rfl k | exact fun _ k => mp_of rfl k | exact fun _ k => mp_of rfl (mp_to rfl k)) (fun h k => sat_nil k) k) k) (fun _ _ _ _ => trivial) ?_
  rintro v post ⟨rfl, rfl⟩
  generalize x.at (IntKind.i64.wrap (e - 1)) = x1 at hx1 ⊢
  clear d1 d2 d3 d4
  refine ⟨.tuple [], _, 2, [.asn (CA b x1)], NmExt.refl _, rfl, (fun h k => sat_pick 0 rfl (by first | exact fun _ k => k | exact fun _ k => blk_to rfl rfl k | exact fun _ k => vec_to rfl k | exact fun _ k => blk_of rfl rfl k | exact fun _ k => vec_of rfl k | exact fun _ k => blk_of rfl rfl (blk_to rfl rfl k) | exact fun _ k => vec_of rfl (vec_to rfl k) | exact fun _ k => mp_to rfl k | exact fun _ k => mp_of rfl k | exact fun _ k => mp_of rfl (mp_to rfl k)) (fun h k => sat_nil k) k), ?_⟩
  refine RegOb.join Unit (fun _ => ⟨198, [(5, .raw (pp b)), (8, .int .i64 e), (132, .ff)], [], 0, [.asn (CA b x1)]⟩) ?_ (fun _ => ?_)
  · refine Br.mk (fun g => absurd g (by simp)) (fun _ => ?_)
    refine useR (.int .i64 1) ((state_spec b x1).mono (by rintro v p ⟨rfl, rfl⟩; exact ⟨congrArg (Value.int .i64) hx1.st, rfl⟩)) rfl (fun f' b' hs kb => Fr.told 0 rfl hs kb) rfl ?_
    exact ⟨(), Le.of rfl ⟨⟨_, rfl, rfl⟩, ⟨_, rfl, rfl⟩, ⟨_, rfl, rfl⟩, trivial⟩ (fun h k => sat_pick 0 rfl (by first | exact fun _ k => k | exact fun _ k => blk_to rfl rfl k | exact fun _ k => vec_to rfl k | exact fun _ k => blk_of rfl rfl k | exact fun _ k => vec_of rfl k | exact fun _ k => blk_of rfl rfl (blk_to rfl rfl k) | exact fun _ k => vec_of rfl (vec_to rfl k) | exact fun _ k => mp_to rfl k | exact fun _ k => mp_of rfl k | exact fun _ k => mp_of rfl (mp_to rfl k)) (fun h k => sat_nil k) k)⟩
  refine call_ix (tick_done b c now i e x1 hc h0 hnow hx1 hT) rfl [0] (fun h k => sat_pick 0 rfl (by first | exact fun _ k => k | exact fun _ k => blk_to rfl rfl k | exact fun _ k => vec_to rfl k | exact fun _ k => blk_of rfl rfl k | exact fun _ k => vec_of rfl k | exact fun _ k => blk_of rfl rfl (blk_to rfl rfl k) | exact fun _ k => vec_of rfl (vec_to rfl k) | exact fun _ k => mp_to rfl k | exact fun _ k => mp_of rfl k | exact fun _ k => mp_of rfl (mp_to rfl k)) (fun h k => sat_nil k) k) (fun _ _ _ _ => trivial) ?_
  rintro v post ⟨z, rfl, hz, hzf, rfl⟩
  refine ⟨.tuple [], _, 0, [.asn (CA b z)], NmExt.refl _, rfl, (fun h k => sat_pick 0 rfl (by first | exact fun _ k => k | exact fun _ k => blk_to rfl rfl k | exact fun _ k => vec_to rfl k | exact fun _ k => blk_of rfl rfl k | exact fun _ k => vec_of rfl k | exact fun _ k => blk_of rfl rfl (blk_to rfl rfl k) | exact fun _ k => vec_of rfl (vec_to rfl k) | exact fun _ k => mp_to rfl k | exact fun _ k => mp_of rfl k | exact fun _ k => mp_of rfl (mp_to rfl k)) (fun h k => sat_nil k) k), ?_⟩
  refine useR (.tuple [.int .i64 0, .ff]) ((next_spec b z).mono (by rintro v p ⟨rfl, rfl⟩; exact ⟨by rw [hz.next], rfl⟩)) rfl (fun f' b' hs kb => Fr.told 0 rfl hs kb) rfl ?_
  intro b4
  have hs1 : (z.at e).state = 0 := (hz.at e).st
  have hc1 : sendC (z.at e) = 222 := by unfold sendC; rw [at_fault, hzf]; rfl
  refine call_ix ((send_closed b z e (some ⟨b4, 0, none⟩) 1 1 hs1).mono (Q' := fun v p => v = .tuple #[.int .i64 0, .int .i64 222] ∧ p = [CA b (z.at e).took]) (by rintro v p ⟨rfl, rfl⟩; exact ⟨by rw [hc1], rfl⟩)) rfl [1] (fun h k => sat_pick 1 rfl (by first | exact fun _ k => k | exact fun _ k => blk_to rfl rfl k | exact fun _ k => vec_to rfl k | exact fun _ k => blk_of rfl rfl k | exact fun _ k => vec_of rfl k | exact fun _ k => blk_of rfl rfl (blk_to rfl rfl k) | exact fun _ k => vec_of rfl (vec_to rfl k) | exact fun _ k => mp_to rfl k | exact fun _ k => mp_of rfl k | exact fun _ k => mp_of rfl (mp_to rfl k)) (fun h k => sat_pick 0 rfl (by first | exact fun _ k => k | exact fun _ k => blk_to rfl rfl k | exact fun _ k => vec_to rfl k | exact fun _ k => blk_of rfl rfl k | exact fun _ k => vec_of rfl k | exact fun _ k => blk_of rfl rfl (blk_to rfl rfl k) | exact fun _ k => vec_of rfl (vec_to rfl k) | exact fun _ k => mp_to rfl k | exact fun _ k => mp_of rfl k | exact fun _ k => mp_of rfl (mp_to rfl k)) (fun h k => sat_nil k) k) k) (fun _ _ _ _ => trivial) ?_
  rintro v post ⟨rfl, rfl⟩
  have hz1 : Ended (z.at e).took := (hz.at e).took
  have hf1 : (z.at e).took.fault = 0 := rfl
  generalize (z.at e).took = z1 at hz1 hf1 ⊢
  refine ⟨.tuple [.int .i64 0, .int .i64 222], _, 1, [.asn (CA b z1)], NmExt.refl _, rfl, (fun h k => sat_pick 0 rfl (by first | exact fun _ k => k | exact fun _ k => blk_to rfl rfl k | exact fun _ k => vec_to rfl k | exact fun _ k => blk_of rfl rfl k | exact fun _ k => vec_of rfl k | exact fun _ k => blk_of rfl rfl (blk_to rfl rfl k) | exact fun _ k => vec_of rfl (vec_to rfl k) | exact fun _ k => mp_to rfl k | exact fun _ k => mp_of rfl k | exact fun _ k => mp_of rfl (mp_to rfl k)) (fun h k => sat_nil k) k), ?_⟩
  intro b5
  have hs2 : (z1.at e).state = 0 := (hz1.at e).st
  have hc2 : sendC (z1.at e) = 223 := by unfold sendC; rw [at_fault, hf1]; rfl
  refine call_ix ((send_closed b z1 e (some ⟨b5, 0, none⟩) 1 1 hs2).mono (Q' := fun v p => v = .tuple #[.int .i64 0, .int .i64 223] ∧ p = [CA b (z1.at e).took]) (by rintro v p ⟨rfl, rfl⟩; exact ⟨by rw [hc2], rfl⟩)) rfl [1] (fun h k => sat_pick 1 rfl (by first | exact fun _ k => k | exact fun _ k => blk_to rfl rfl k | exact fun _ k => vec_to rfl k | exact fun _ k => blk_of rfl rfl k | exact fun _ k => vec_of rfl k | exact fun _ k => blk_of rfl rfl (blk_to rfl rfl k) | exact fun _ k => vec_of rfl (vec_to rfl k) | exact fun _ k => mp_to rfl k | exact fun _ k => mp_of rfl k | exact fun _ k => mp_of rfl (mp_to rfl k)) (fun h k => sat_pick 0 rfl (by first | exact fun _ k => k | exact fun _ k => blk_to rfl rfl k | exact fun _ k => vec_to rfl k | exact fun _ k => blk_of rfl rfl k | exact fun _ k => vec_of rfl k | exact fun _ k => blk_of rfl rfl (blk_to rfl rfl k) | exact fun _ k => vec_of rfl (vec_to rfl k) | exact fun _ k => mp_to rfl k | exact fun _ k => mp_of rfl k | exact fun _ k => mp_of rfl (mp_to rfl k)) (fun h k => sat_pick 0 rfl (by first | exact fun _ k => k | exact fun _ k => blk_to rfl rfl k | exact fun _ k => vec_to rfl k | exact fun _ k => blk_of rfl rfl k | exact fun _ k => vec_of rfl k | exact fun _ k => blk_of rfl rfl (blk_to rfl rfl k) | exact fun _ k => vec_of rfl (vec_to rfl k) | exact fun _ k => mp_to rfl k | exact fun _ k => mp_of rfl k | exact fun _ k => mp_of rfl (mp_to rfl k)) (fun h k => sat_nil k) k) k) k) (fun _ _ _ _ => trivial) ?_
  rintro v post ⟨rfl, rfl⟩
  have hz2 : Ended (z1.at e).took := (hz1.at e).took
  have hf2 : (z1.at e).took.fault = 0 := rfl
  generalize (z1.at e).took = z2 at hz2 hf2 ⊢
  refine ⟨.tuple [.int .i64 0, .int .i64 223], _, 2, [.asn (CA b z2)], NmExt.refl _, rfl, (fun h k => sat_pick 0 rfl (by first | exact fun _ k => k | exact fun _ k => blk_to rfl rfl k | exact fun _ k => vec_to rfl k | exact fun _ k => blk_of rfl rfl k | exact fun _ k => vec_of rfl k | exact fun _ k => blk_of rfl rfl (blk_to rfl rfl k) | exact fun _ k => vec_of rfl (vec_to rfl k) | exact fun _ k => mp_to rfl k | exact fun _ k => mp_of rfl k | exact fun _ k => mp_of rfl (mp_to rfl k)) (fun h k => sat_nil k) k), ?_⟩
  refine call_ix (recv_closed b z2 e (hz2.at e).st (by rw [at_fault]; exact hf2) (hz2.at e).inn (hz2.at e).en) rfl [0] (fun h k => sat_pick 0 rfl (by first | exact fun _ k => k | exact fun _ k => blk_to rfl rfl k | exact fun _ k => vec_to rfl k | exact fun _ k => blk_of rfl rfl k | exact fun _ k => vec_of rfl k | exact fun _ k => blk_of rfl rfl (blk_to rfl rfl k) | exact fun _ k => vec_of rfl (vec_to rfl k) | exact fun _ k => mp_to rfl k | exact fun _ k => mp_of rfl k | exact fun _ k => mp_of rfl (mp_to rfl k)) (fun h k => sat_pick 0 rfl (by first | exact fun _ k => k | exact fun _ k => blk_to rfl rfl k | exact fun _ k => vec_to rfl k | exact fun _ k => blk_of rfl rfl k | exact fun _ k => vec_of rfl k | exact fun _ k => blk_of rfl rfl (blk_to rfl rfl k) | exact fun _ k => vec_of rfl (vec_to rfl k) | exact fun _ k => mp_to rfl k | exact fun _ k => mp_of rfl k | exact fun _ k => mp_of rfl (mp_to rfl k)) (fun h k => sat_pick 0 rfl (by first | exact fun _ k => k | exact fun _ k => blk_to rfl rfl k | exact fun _ k => vec_to rfl k | exact fun _ k => blk_of rfl rfl k | exact fun _ k => vec_of rfl k | exact fun _ k => blk_of rfl rfl (blk_to rfl rfl k) | exact fun _ k => vec_of rfl (vec_to rfl k) | exact fun _ k => mp_to rfl k | exact fun _ k => mp_of rfl k | exact fun _ k => mp_of rfl (mp_to rfl k)) (fun h k => sat_nil k) k) k) k) (fun _ _ _ _ => trivial) ?_
  rintro v post ⟨rfl, rfl⟩
  have hz3 : Ended (z2.at e).took := (hz2.at e).took
  generalize (z2.at e).took = z3 at hz3 ⊢
  refine ⟨.tuple [.raw (.slice none 0 0), .ff, .int .i64 225], _, 2, [.asn (CA b z3)], NmExt.refl _, rfl, (fun h k => sat_pick 0 rfl (by first | exact fun _ k => k | exact fun _ k => blk_to rfl rfl k | exact fun _ k => vec_to rfl k | exact fun _ k => blk_of rfl rfl k | exact fun _ k => vec_of rfl k | exact fun _ k => blk_of rfl rfl (blk_to rfl rfl k) | exact fun _ k => vec_of rfl (vec_to rfl k) | exact fun _ k => mp_to rfl k | exact fun _ k => mp_of rfl k | exact fun _ k => mp_of rfl (mp_to rfl k)) (fun h k => sat_nil k) k), ?_⟩
  refine RegOb.go ?_
  refine useR (.int .i64 0) ((state_spec b z3).mono (by rintro v p ⟨rfl, rfl⟩; exact ⟨congrArg (Value.int .i64) hz3.st, rfl⟩)) rfl (fun f' b' hs kb => Fr.told 0 rfl hs kb) rfl ?_
  refine Br.mk (fun _ => ?_) (fun g => absurd g (by decide))
  refine Br.mk (fun _ => ?_) (fun g => absurd g (by decide))
  refine useP (.int .i64 222) (code_spec 222) rfl rfl ?_
  refine Br.mk (fun _ => ?_) (fun g => absurd g (by decide))
  refine useP (.int .i64 223) (code_spec 223) rfl rfl ?_
  refine Br.mk (fun _ => ?_) (fun g => absurd g (by decide))
  refine useP (.int .i64 225) (code_spec 225) rfl rfl ?_
  refine Br.mk (fun _ => ?_) (fun g => absurd g (by decide))
  refine useR (.int .i64 225) (shut_closed b z3 e hz3.st) rfl (fun f' b' hs kb => Fr.told 0 rfl hs kb) rfl ?_
  refine useP (.int .i64 225) (code_spec 225) rfl rfl ?_
  refine Br.mk (fun _ => ?_) (fun g => absurd g (by decide))
  refine useP .tt live_spec rfl rfl ?_
  exact FinOb.mk [.bool true] [] rfl (fun h k => trivial) ⟨rfl, rfl⟩
theorem c_reads {f : HP} {n : Nat} {cs : List Value} (h : RdS Try.prog f (n + 2) 23 cs) : ∃ c : Cf, cs = c.vals := by
  have hl := RdS.cells Try.underlying23 h
  rw [show Try.prog.cellsOf 23 = 9 by kernel_rfl] at hl
  match cs, hl with
  | [x0, x1, x2, x3, x4, x5, x6, x7, x8], _ =>
  obtain ⟨a0, h0, w0⟩ := RdS.int Try.underlying3 (RdS.field Try.underlying23 h 0 rfl (ds := [x0]) (by simp only [c3]; rfl))
  obtain ⟨a1, h1, w1⟩ := RdS.int Try.underlying3 (RdS.field Try.underlying23 h 1 rfl (ds := [x1]) (by simp only [c3]; rfl))
  obtain ⟨a2, h2, w2⟩ := RdS.int Try.underlying3 (RdS.field Try.underlying23 h 2 rfl (ds := [x2]) (by simp only [c3]; rfl))
  obtain ⟨a3, h3, w3⟩ := RdS.int Try.underlying3 (RdS.field Try.underlying23 h 3 rfl (ds := [x3]) (by simp only [c3]; rfl))
  obtain ⟨a4, h4, w4⟩ := RdS.int Try.underlying3 (RdS.field Try.underlying23 h 4 rfl (ds := [x4]) (by simp only [c3]; rfl))
  obtain ⟨a5, h5, w5⟩ := RdS.int Try.underlying3 (RdS.field Try.underlying23 h 5 rfl (ds := [x5]) (by simp only [c3]; rfl))
  obtain ⟨a6, h6, w6⟩ := RdS.int Try.underlying3 (RdS.field Try.underlying23 h 6 rfl (ds := [x6]) (by simp only [c3]; rfl))
  obtain ⟨a7, h7, w7⟩ := RdS.int Try.underlying3 (RdS.field Try.underlying23 h 7 rfl (ds := [x7]) (by simp only [c3]; rfl))
  obtain ⟨a8, h8, w8⟩ := RdS.int Try.underlying3 (RdS.field Try.underlying23 h 8 rfl (ds := [x8]) (by simp only [c3]; rfl))
  simp only [List.cons.injEq, and_true] at h0 h1 h2 h3 h4 h5 h6 h7 h8
  subst h0; subst h1; subst h2; subst h3; subst h4; subst h5; subst h6; subst h7; subst h8
  exact ⟨⟨a0, a1, a2, a3, a4, a5, a6, a7, a8⟩, rfl⟩
theorem tries_row (x : Array Value) (now : Int) : Does Try.prog 3 #[.agg x, .int .i64 now] (fun f => RdS Try.prog f 6 23 x.toList) [] (fun v q => v = .bool true ∧ q = []) := by
  refine ⟨Try.call3, fun f w0 hR hat => ?_⟩
  obtain ⟨c, e⟩ := c_reads (n := 4) hR
  obtain rfl : x = c.vals.toArray := by rw [← e]
  exact (tries_walk c now).run f w0 trivial hat
end Go.Proofs.Ytljgcapejcnmgaa.Tc
