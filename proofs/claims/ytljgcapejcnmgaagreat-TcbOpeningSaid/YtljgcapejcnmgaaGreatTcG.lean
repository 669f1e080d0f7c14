/- tcb: greet; what waits. Conditions: none. -/
import Derived.Test.YtljgcapejcnmgaaGreatTcF
namespace Go.Proofs.YtljgcapejcnmgaaGreat.Tc
open Go Go.Proofs Sx
set_option maxRecDepth 100000
set_option linter.unusedVariables false
set_option linter.unusedSimpArgs false
set_option maxHeartbeats 4000000

/-- Cells of the one, parts of the other. -/
def CM (b : Nat) (x y : X) : Asn := fun h => sat (pt b (.cells x.vals.toArray 97 (0, 0)) :: y.rest) h
theorem sat_rdm {As : List Asn} {h : HP} (k : sat As h) (n : Nat) {b : Nat} {x y : X} (e : As[n]? = some (CM b x y)) (i : Nat) (v : Value) (e2 : x.vals[i]? = some v) : fcell h b i = some v :=
  sat_cell n e (fun y ky => sat_cell 0 rfl (fun z kz => fcell_of (pt_get z kz) (by simpa using e2)) ky) k
theorem cm_st {b : Nat} {x x' y : X} {off : Nat} {vs : List Value} {h : HP} (k : CM b x y h) (hl : off + vs.length ≤ 52) (hv : putV x.vals off vs = x'.vals) :
    ∃ c t, h b = some (.cells c t (0, 0)) ∧ off + vs.length ≤ c.size ∧ CM b x' y (upd h b (.cells (putV c.toList off vs).toArray t (0, 0))) := by
  obtain ⟨p, q, t, hp, hq⟩ := k
  refine ⟨x.vals.toArray, _, t.get (pt_get p hp), by simpa [X.vals] using hl, ?_⟩
  refine ⟨_, q, t.updL (pt_get p hp), ?_, hq⟩
  have := (pt_upd (.cells x'.vals.toArray 97 (0, 0)) p hp).2
  simpa [hv] using this
/-- A new way of sending is put in. -/
theorem cm_cong {b : Nat} {x y : X} {As : List Asn} {h : HP} (k : sat (CM b x y :: coA x.bc x.cong :: As) h) (e1 : x.rest.eraseIdx 4 = y.rest.eraseIdx 4) : sat (CA b x :: As) h := by
  obtain ⟨u, v, t, hu, w, z, t2, hw, hz⟩ := k
  have h1 : sat (pt b (.cells x.vals.toArray 97 (0, 0)) :: y.rest.eraseIdx 4) u := by
    obtain ⟨p, q, t3, hp, hq⟩ := hu
    exact ⟨p, q, t3, hp, sat_subset (List.eraseIdx_sublist _ _) hq⟩
  rw [← e1] at h1
  have h2 : sat ((pt b (.cells x.vals.toArray 97 (0, 0)) :: x.rest.eraseIdx 4) ++ (coA x.bc x.cong :: As)) h := sat_join t h1 ⟨w, z, t2, hw, hz⟩
  have h3 : sat ((pt b (.cells x.vals.toArray 97 (0, 0)) :: x.rest) ++ As) h := by
    refine sat_perm ?_ h2
    simp only [X.rest, List.eraseIdx, List.cons_append, List.nil_append]
    refine List.Perm.cons _ (List.Perm.cons _ (List.Perm.cons _ (List.Perm.cons _ (List.Perm.cons _ (List.Perm.swap _ _ _)))))
  obtain ⟨a, c, t4, ha, hc⟩ := sat_append h3
  exact ⟨a, c, t4, ha, hc⟩
def X.greet1 (x : X) (s : Sg) (bc : Nat) : X :=
  let m := mn x.cfg.mss (if s.mss > 0 then mx s.mss 88 else 536)
  { x with irs := s.seq, rcv := addQ s.seq 1, mss := m, bc := bc, cong := Co.new m, scaled := decide (s.scale > 0), so := if s.scale > 0 then IntKind.i64.wrap (s.scale - 1) else x.so, si := if s.scale > 0 then scl x.cfg.rcv else x.si }
def X.greet (x : X) (s : Sg) (bc : Nat) : X := { x.greet1 s bc with peer := IntKind.i64.wrap s.win, wl1 := s.seq, wl2 := s.ack }
theorem greet_spec (b : Nat) (x : X) (s : Sg) (hc : x.cfg.Ok) :
    Does Tryz.prog 90 #[pp b, .agg s.vals.toArray] (fun _ => True) [CA b x] (fun v p => ∃ bc, v = .tuple #[] ∧ p = [CA b (x.greet s bc)]) := by
  refine Does.ofJ Tryz.func90 Tryz.call90 rfl [.raw (pp b), .agg s.svs] [] 0 [.asn (CA b x)] rfl rfl (fun h k => k) (fun f hR => ?_)
  intro b3
  refine DrawOb.mk [(6, [0, 1, 2, 3]), (9, [1])] (.run [0, 1, 2, 3, 4, 5, 6, 7, 8, 9, 10, 11, 12] .nil) (by kernel_rfl) ?_
  refine useP (.int .u32 (addQ s.seq 1)) (add_spec s.seq 1) rfl rfl ?_
  refine Need.mk rfl ?_
  refine StRaw.on 1 (CA b { x with irs := s.seq }) [.int .u32 s.seq] rfl rfl (fun h k => ca_st k (Nat.le_of_ble_eq_true rfl) rfl rfl) ?_
  refine StRaw.on 1 (CA b { x with irs := s.seq, rcv := addQ s.seq 1 }) [.int .u32 (addQ s.seq 1)] rfl rfl (fun h k => ca_st k (Nat.le_of_ble_eq_true rfl) rfl rfl) ?_
  refine CondOb.join Unit (fun _ => ⟨80, [(0, .raw (pp b)), (3, .ptr 0 0), (4, .int .i64 (if s.mss > 0 then mx s.mss 88 else 536))], [(0, .at b3 0)], 1, [.asn (CA b { x with irs := s.seq, rcv := addQ s.seq 1 }), .blk 0 28 s.svs]⟩) (fun g => ?_) (fun g => ?_) (fun _ => ?_)
  · have g := of_decide_eq_true g
    exact ⟨(), Le.of rfl ⟨⟨_, rfl, rfl⟩, ⟨_, rfl, rfl⟩, ⟨_, rfl, (by rw [if_pos g]; rfl)⟩, trivial⟩ (fun h k => sat_pick 1 rfl (by first | exact fun _ k => k | exact fun _ k => blk_to rfl rfl k | exact fun _ k => vec_to rfl k | exact fun _ k => blk_of rfl rfl k | exact fun _ k => vec_of rfl k | exact fun _ k => blk_of rfl rfl (blk_to rfl rfl k) | exact fun _ k => vec_of rfl (vec_to rfl k) | exact fun _ k => mp_to rfl k | exact fun _ k => mp_of rfl k | exact fun _ k => mp_of rfl (mp_to rfl k)) (fun h k => sat_pick 0 rfl (by first | exact fun _ k => k | exact fun _ k => blk_to rfl rfl k | exact fun _ k => vec_to rfl k | exact fun _ k => blk_of rfl rfl k | exact fun _ k => vec_of rfl k | exact fun _ k => blk_of rfl rfl (blk_to rfl rfl k) | exact fun _ k => vec_of rfl (vec_to rfl k) | exact fun _ k => mp_to rfl k | exact fun _ k => mp_of rfl k | exact fun _ k => mp_of rfl (mp_to rfl k)) (fun h k => sat_nil k) k) k)⟩
  · have g := of_decide_eq_false g
    exact ⟨(), Le.of rfl ⟨⟨_, rfl, rfl⟩, ⟨_, rfl, rfl⟩, ⟨_, rfl, (by rw [if_neg g])⟩, trivial⟩ (fun h k => sat_pick 1 rfl (by first | exact fun _ k => k | exact fun _ k => blk_to rfl rfl k | exact fun _ k => vec_to rfl k | exact fun _ k => blk_of rfl rfl k | exact fun _ k => vec_of rfl k | exact fun _ k => blk_of rfl rfl (blk_to rfl rfl k) | exact fun _ k => vec_of rfl (vec_to rfl k) | exact fun _ k => mp_to rfl k | exact fun _ k => mp_of rfl k | exact fun _ k => mp_of rfl (mp_to rfl k)) (fun h k => sat_pick 0 rfl (by first | exact fun _ k => k | exact fun _ k => blk_to rfl rfl k | exact fun _ k => vec_to rfl k | exact fun _ k => blk_of rfl rfl k | exact fun _ k => vec_of rfl k | exact fun _ k => blk_of rfl rfl (blk_to rfl rfl k) | exact fun _ k => vec_of rfl (vec_to rfl k) | exact fun _ k => mp_to rfl k | exact fun _ k => mp_of rfl k | exact fun _ k => mp_of rfl (mp_to rfl k)) (fun h k => sat_nil k) k) k)⟩
  generalize hm : (if s.mss > 0 then mx s.mss 88 else 536) = other
  have ho : 88 ≤ other := by
    rw [← hm]; unfold mx; split <;> (try split) <;> omega
  have hcm := hc.1
  have hm2 : 1 ≤ mn x.cfg.mss other ∧ mn x.cfg.mss other ≤ 65535 := by unfold mn; split <;> omega
  refine RdRaw.told (.int .i64 x.cfg.mss) _ rfl (fun h k => sat_rd k 0 rfl 0 _ rfl) ?_
  refine StRaw.on 0 (CA b { x with irs := s.seq, rcv := addQ s.seq 1, mss := mn x.cfg.mss other }) [.int .i64 (mn x.cfg.mss other)] rfl rfl (fun h k => ca_st k (Nat.le_of_ble_eq_true rfl) rfl rfl) ?_
  refine RdRaw.told (.int .i64 (mn x.cfg.mss other)) _ rfl (fun h k => sat_rd k 0 rfl 27 _ rfl) ?_
  refine call_ix (cnew_ok (mn x.cfg.mss other) hm2.1 hm2.2) rfl [] (fun h k => k) (fun _ _ _ _ => trivial) ?_
  rintro v post ⟨bc, rfl, rfl⟩
  refine ⟨.tuple [.raw (pp bc), .int .i64 0], _, 1, [.asn (coA bc (Co.new (mn x.cfg.mss other)))], NmExt.refl _, rfl, (fun h k => sat_pick 0 rfl (by first | exact fun _ k => k | exact fun _ k => blk_to rfl rfl k | exact fun _ k => vec_to rfl k | exact fun _ k => blk_of rfl rfl k | exact fun _ k => vec_of rfl k | exact fun _ k => blk_of rfl rfl (blk_to rfl rfl k) | exact fun _ k => vec_of rfl (vec_to rfl k) | exact fun _ k => mp_to rfl k | exact fun _ k => mp_of rfl k | exact fun _ k => mp_of rfl (mp_to rfl k)) (fun h k => sat_nil k) k), ?_⟩
  refine StRaw.on 1 (CM b { x with irs := s.seq, rcv := addQ s.seq 1, mss := mn x.cfg.mss other, bc := bc, cong := Co.new (mn x.cfg.mss other) } { x with irs := s.seq, rcv := addQ s.seq 1, mss := mn x.cfg.mss other }) [pp bc] rfl rfl (fun h k => cm_st (y := { x with irs := s.seq, rcv := addQ s.seq 1, mss := mn x.cfg.mss other }) k (Nat.le_of_ble_eq_true rfl) rfl) ?_
  refine StRaw.on 1 (CM b { x with irs := s.seq, rcv := addQ s.seq 1, mss := mn x.cfg.mss other, bc := bc, cong := Co.new (mn x.cfg.mss other), scaled := decide (s.scale > 0) } { x with irs := s.seq, rcv := addQ s.seq 1, mss := mn x.cfg.mss other }) [.bool (decide (s.scale > 0))] rfl rfl (fun h k => cm_st k (Nat.le_of_ble_eq_true rfl) rfl) ?_
  refine RdRaw.told (.bool (decide (s.scale > 0))) _ rfl (fun h k => sat_rdm k 1 rfl 30 _ rfl) ?_
  refine CondOb.join Unit (fun _ => ⟨80, [(0, .raw (pp b)), (3, .ptr 0 0)], [(0, .at b3 0)], 1, [.asn (CA b (x.greet1 s bc)), .blk 0 28 s.svs]⟩) (fun g => ?_) (fun g => ?_) (fun _ => ?_)
  · have g := of_decide_eq_true g
    have e1 : x.greet1 s bc = { x with irs := s.seq, rcv := addQ s.seq 1, mss := mn x.cfg.mss other, bc := bc, cong := Co.new (mn x.cfg.mss other), scaled := decide (s.scale > 0), so := IntKind.i64.wrap (s.scale - 1), si := scl x.cfg.rcv } := by
      unfold X.greet1; simp only [hm, if_pos g]
    have hr := hc.2.2.1
    refine DrawOb.mk [(6, [0, 1, 2, 3, 4]), (9, [1])] (.run [0, 1, 2, 3, 4, 5, 6, 7, 8, 9, 10, 11, 12] .nil) (by kernel_rfl) ?_
    refine useR (.int .i64 (scl x.cfg.rcv)) (scale_spec b { x with irs := s.seq, rcv := addQ s.seq 1, mss := mn x.cfg.mss other, bc := bc, cong := Co.new (mn x.cfg.mss other), scaled := decide (s.scale > 0) } (by show 0 ≤ x.cfg.rcv; omega) hr.2) rfl (fun f' b' hs kb => Fr.of (fun h k => cm_cong (y := { x with irs := s.seq, rcv := addQ s.seq 1, mss := mn x.cfg.mss other }) (As := []) ((fun h k => sat_pick 1 rfl (fun _ k => k) (fun h k => sat_pick 0 rfl (fun _ k => k) (fun h k => sat_nil k) k) k) h k) rfl) hs kb) rfl ?_
    refine Need.mk rfl ?_
    refine StRaw.on 1 (CM b { x with irs := s.seq, rcv := addQ s.seq 1, mss := mn x.cfg.mss other, bc := bc, cong := Co.new (mn x.cfg.mss other), scaled := decide (s.scale > 0), so := IntKind.i64.wrap (s.scale - 1) } { x with irs := s.seq, rcv := addQ s.seq 1, mss := mn x.cfg.mss other }) [.int .i64 (IntKind.i64.wrap (s.scale - 1))] rfl rfl (fun h k => cm_st k (Nat.le_of_ble_eq_true rfl) rfl) ?_
    refine StRaw.on 1 (CM b { x with irs := s.seq, rcv := addQ s.seq 1, mss := mn x.cfg.mss other, bc := bc, cong := Co.new (mn x.cfg.mss other), scaled := decide (s.scale > 0), so := IntKind.i64.wrap (s.scale - 1), si := scl x.cfg.rcv } { x with irs := s.seq, rcv := addQ s.seq 1, mss := mn x.cfg.mss other }) [.int .i64 (scl x.cfg.rcv)] rfl rfl (fun h k => cm_st k (Nat.le_of_ble_eq_true rfl) rfl) ?_
    exact ⟨(), Le.of rfl ⟨⟨_, rfl, rfl⟩, ⟨_, rfl, rfl⟩, trivial⟩ (fun h k => by
      refine sat_perm (List.Perm.refl _) (show sat (CA b (x.greet1 s bc) :: _) h from ?_)
      rw [e1]
      exact cm_cong (y := { x with irs := s.seq, rcv := addQ s.seq 1, mss := mn x.cfg.mss other }) ((fun h k => sat_pick 1 rfl (fun _ k => k) (fun h k => sat_pick 0 rfl (fun _ k => k) (fun h k => sat_pick 0 rfl (fun _ k => k) (fun h k => sat_nil k) k) k) k) h k) rfl)⟩
  · have g := of_decide_eq_false g
    have e1 : x.greet1 s bc = { x with irs := s.seq, rcv := addQ s.seq 1, mss := mn x.cfg.mss other, bc := bc, cong := Co.new (mn x.cfg.mss other), scaled := decide (s.scale > 0) } := by
      unfold X.greet1; simp only [hm, if_neg g]
    exact ⟨(), Le.of rfl ⟨⟨_, rfl, rfl⟩, ⟨_, rfl, rfl⟩, trivial⟩ (fun h k => by
      refine sat_perm (List.Perm.refl _) (show sat (CA b (x.greet1 s bc) :: _) h from ?_)
      rw [e1]
      exact cm_cong (y := { x with irs := s.seq, rcv := addQ s.seq 1, mss := mn x.cfg.mss other }) ((fun h k => sat_pick 1 rfl (fun _ k => k) (fun h k => sat_pick 0 rfl (fun _ k => k) (fun h k => sat_pick 0 rfl (fun _ k => k) (fun h k => sat_nil k) k) k) k) h k) rfl)⟩
  generalize hy : x.greet1 s bc = y
  refine DrawOb.mk [(12, [1, 2, 6, 7, 8, 9]), (15, [2, 8, 9])] (.run [0, 1, 2, 3, 4, 5, 6, 7, 8, 9, 10, 11, 12, 13, 14, 15, 16, 17, 18] .nil) (by kernel_rfl) ?_
  refine StRaw.on 0 (CA b { y with peer := IntKind.i64.wrap s.win }) [.int .i64 (IntKind.i64.wrap s.win)] rfl rfl (fun h k => ca_st k (Nat.le_of_ble_eq_true rfl) rfl rfl) ?_
  refine Need.mk rfl (Need.mk rfl ?_)
  refine StRaw.on 0 (CA b { y with peer := IntKind.i64.wrap s.win, wl1 := s.seq }) [.int .u32 s.seq] rfl rfl (fun h k => ca_st k (Nat.le_of_ble_eq_true rfl) rfl rfl) ?_
  refine Need.mk rfl ?_
  refine StRaw.on 0 (CA b { y with peer := IntKind.i64.wrap s.win, wl1 := s.seq, wl2 := s.ack }) [.int .u32 s.ack] rfl rfl (fun h k => ca_st k (Nat.le_of_ble_eq_true rfl) rfl rfl) ?_
  exact FinOb.mk [] [CA b { y with peer := IntKind.i64.wrap s.win, wl1 := s.seq, wl2 := s.ack }] rfl (fun h k => sat_pick 0 rfl (by first | exact fun _ k => k | exact fun _ k => blk_to rfl rfl k | exact fun _ k => vec_to rfl k | exact fun _ k => blk_of rfl rfl k | exact fun _ k => vec_of rfl k | exact fun _ k => blk_of rfl rfl (blk_to rfl rfl k) | exact fun _ k => vec_of rfl (vec_to rfl k) | exact fun _ k => mp_to rfl k | exact fun _ k => mp_of rfl k | exact fun _ k => mp_of rfl (mp_to rfl k)) (fun h k => sat_nil k) k) ⟨bc, rfl, by rw [← hy]; rfl⟩
end Go.Proofs.YtljgcapejcnmgaaGreat.Tc
