/- tcb: Input in SynSent; what is told; TcbOpening. Conditions: none. -/
import Derived.Test.YtljgcapejcnmgaaGreatTcI
namespace Go.Proofs.YtljgcapejcnmgaaGreat.Tc
open Go Go.Proofs Sx
set_option maxRecDepth 100000
set_option linter.unusedVariables false
set_option linter.unusedSimpArgs false
set_option maxHeartbeats 4000000

theorem sm_at {x : X} {n : Int} (h : x.Sm) : (x.at n).Sm := by unfold X.at; split <;> exact ⟨h.si, h.oc, h.ol, h.cfg⟩
theorem input_syn (b : Nat) (x : X) (now : Int) (s : Sg) (hx : x.Sm) (hs : x.state = 1) :
    Does Tryz.prog 17 #[pp b, .int .i64 now, .agg s.vals.toArray] (fun _ => True) [CA b x] (fun v p => ∃ bc q o co, v = .tuple #[] ∧ ((x.at now).opening s bc q o co).out.length ≤ ((x.at now).opening s bc q o co).co ∧ p = [CA b ((x.at now).opening s bc q o co)]) := by
  refine Does.ofJ Tryz.func17 Tryz.call17 rfl [.raw (pp b), .int .i64 now, .agg s.svs] [] 0 [.asn (CA b x)] rfl rfl (fun h k => k) (fun f hR => ?_)
  intro b5
  refine RegOb.go ?_
  refine RdRaw.told (.int .i64 x.state) _ rfl (fun h k => sat_rd k 1 rfl 13 _ rfl) ?_
  refine CondOb.split (fun g => absurd g (by rw [hs]; decide)) (fun _ => ?_)
  refine call_ix (at_spec b x now) rfl [1] (fun h k => sat_pick 1 rfl (by first | exact fun _ k => k | exact fun _ k => blk_to rfl rfl k | exact fun _ k => vec_to rfl k | exact fun _ k => blk_of rfl rfl k | exact fun _ k => vec_of rfl k | exact fun _ k => blk_of rfl rfl (blk_to rfl rfl k) | exact fun _ k => vec_of rfl (vec_to rfl k) | exact fun _ k => mp_to rfl k | exact fun _ k => mp_of rfl k | exact fun _ k => mp_of rfl (mp_to rfl k)) (fun h k => sat_pick 0 rfl (by first | exact fun _ k => k | exact fun _ k => blk_to rfl rfl k | exact fun _ k => vec_to rfl k | exact fun _ k => blk_of rfl rfl k | exact fun _ k => vec_of rfl k | exact fun _ k => blk_of rfl rfl (blk_to rfl rfl k) | exact fun _ k => vec_of rfl (vec_to rfl k) | exact fun _ k => mp_to rfl k | exact fun _ k => mp_of rfl k | exact fun _ k => mp_of rfl (mp_to rfl k)) (fun h k => sat_nil k) k) k) (fun _ _ _ _ => trivial) ?_
  rintro v post ⟨rfl, rfl⟩
  refine ⟨.tuple [], _, 1, [.asn (CA b (x.at now))], NmExt.refl _, rfl, (fun h k => sat_pick 0 rfl (by first | exact fun _ k => k | exact fun _ k => blk_to rfl rfl k | exact fun _ k => vec_to rfl k | exact fun _ k => blk_of rfl rfl k | exact fun _ k => vec_of rfl k | exact fun _ k => blk_of rfl rfl (blk_to rfl rfl k) | exact fun _ k => vec_of rfl (vec_to rfl k) | exact fun _ k => mp_to rfl k | exact fun _ k => mp_of rfl k | exact fun _ k => mp_of rfl (mp_to rfl k)) (fun h k => sat_nil k) k), ?_⟩
  have hs2 : (x.at now).state = 1 := by unfold X.at; split <;> exact hs
  refine RdRaw.told (.int .i64 (x.at now).state) _ rfl (fun h k => sat_rd k 0 rfl 13 _ rfl) ?_
  refine CondOb.split (fun _ => ?_) (fun g => absurd g (by rw [hs2]; decide))
  refine call_ix (opening_spec b (x.at now) s (sm_at hx)) rfl [0] (fun h k => sat_pick 0 rfl (by first | exact fun _ k => k | exact fun _ k => blk_to rfl rfl k | exact fun _ k => vec_to rfl k | exact fun _ k => blk_of rfl rfl k | exact fun _ k => vec_of rfl k | exact fun _ k => blk_of rfl rfl (blk_to rfl rfl k) | exact fun _ k => vec_of rfl (vec_to rfl k) | exact fun _ k => mp_to rfl k | exact fun _ k => mp_of rfl k | exact fun _ k => mp_of rfl (mp_to rfl k)) (fun h k => sat_pick 0 rfl (by first | exact fun _ k => k | exact fun _ k => blk_to rfl rfl k | exact fun _ k => vec_to rfl k | exact fun _ k => blk_of rfl rfl k | exact fun _ k => vec_of rfl k | exact fun _ k => blk_of rfl rfl (blk_to rfl rfl k) | exact fun _ k => vec_of rfl (vec_to rfl k) | exact fun _ k => mp_to rfl k | exact fun _ k => mp_of rfl k | exact fun _ k => mp_of rfl (mp_to rfl k)) (fun h k => sat_nil k) k) k) (fun _ _ _ _ => trivial) ?_
  rintro v post ⟨bc, q, o, co, rfl, hco, rfl⟩
  refine ⟨.tuple [], _, 1, [.asn (CA b ((x.at now).opening s bc q o co))], NmExt.refl _, rfl, (fun h k => sat_pick 0 rfl (by first | exact fun _ k => k | exact fun _ k => blk_to rfl rfl k | exact fun _ k => vec_to rfl k | exact fun _ k => blk_of rfl rfl k | exact fun _ k => vec_of rfl k | exact fun _ k => blk_of rfl rfl (blk_to rfl rfl k) | exact fun _ k => vec_of rfl (vec_to rfl k) | exact fun _ k => mp_to rfl k | exact fun _ k => mp_of rfl k | exact fun _ k => mp_of rfl (mp_to rfl k)) (fun h k => sat_nil k) k), ?_⟩
  exact FinOb.mk [] [CA b ((x.at now).opening s bc q o co)] rfl (fun h k => sat_pick 0 rfl (by first | exact fun _ k => k | exact fun _ k => blk_to rfl rfl k | exact fun _ k => vec_to rfl k | exact fun _ k => blk_of rfl rfl k | exact fun _ k => vec_of rfl k | exact fun _ k => blk_of rfl rfl (blk_to rfl rfl k) | exact fun _ k => vec_of rfl (vec_to rfl k) | exact fun _ k => mp_to rfl k | exact fun _ k => mp_of rfl k | exact fun _ k => mp_of rfl (mp_to rfl k)) (fun h k => sat_nil k) k) ⟨bc, q, o, co, rfl, hco, rfl⟩
def X.outed (x : X) : X := { x with out := [], po := .nil, co := 0 }
theorem outed_of {b : Nat} {x : X} {h : HP} (k : sat [pt b (.cells x.outed.vals.toArray 97 (0, 0)), CP x] h) : CA b x.outed h := by
  obtain ⟨a, c, t, ha, d, e, t2, hd, _⟩ := k
  exact ⟨a, c, t, ha, sat_add vec_emp (sat_more t2.comm hd)⟩
theorem out_spec (b : Nat) (x : X) : Does Tryz.prog 16 #[pp b] (fun _ => True) [CA b x] (fun v p => v = .slice (locAddr 0 x.po) x.out.length x.co ∧ p = [CA b x.outed, Vec x.po 28 9 x.co (SL.flat x.out)]) := by
  refine Does.ofJ Tryz.func16 Tryz.call16 rfl [.ptr 0 0] [(1, x.po), (0, .at b 0)] 2 [.blk 0 97 (x.svs 1), .vec 1 28 9 x.co (SL.flat x.out), .asn (CP x)] rfl rfl (fun h k => ca_names rfl rfl rfl k) (fun f hR => ?_)
  refine FinOb.mk [.slice (locAddr 0 x.po) x.out.length x.co] [CA b x.outed, Vec x.po 28 9 x.co (SL.flat x.out)] rfl (fun h k => ?_) ⟨rfl, rfl⟩
  exact (fun h k => sat_pick2 0 1 rfl rfl (fun h k => outed_of (b := b) (x := x) (sat_cons (fun h k => blk_to rfl rfl k) (fun h k => k) k)) (fun h k => sat_pick 0 rfl (fun h k => vec_to rfl k) (fun h k => sat_nil k) k) k) h k
theorem state_spec (b : Nat) (x : X) : Does Tryz.prog 19 #[pp b] (Fr (CA b x)) [] (fun v p => v = .int .i64 x.state ∧ p = []) := by
  refine Does.ofJ Tryz.func19 Tryz.call19 rfl [.raw (pp b)] [] 0 [] rfl rfl (fun h k => k) (fun f hR => ?_)
  refine RdRaw.mk (.int .i64 x.state) _ rfl (hR.own 13 _ rfl) ?_
  exact FinOb.mk [.int .i64 x.state] [] rfl (fun h k => trivial) ⟨rfl, rfl⟩
theorem fault_spec (b : Nat) (x : X) : Does Tryz.prog 20 #[pp b] (Fr (CA b x)) [] (fun v p => v = .int .i64 x.fault ∧ p = []) := by
  refine Does.ofJ Tryz.func20 Tryz.call20 rfl [.raw (pp b)] [] 0 [] rfl rfl (fun h k => k) (fun f hR => ?_)
  refine RdRaw.mk (.int .i64 x.fault) _ rfl (hR.own 15 _ rfl) ?_
  exact FinOb.mk [.int .i64 x.fault] [] rfl (fun h k => trivial) ⟨rfl, rfl⟩
def X.vars (x : X) : List Value := [.int .u32 x.iss, .int .u32 x.una, .int .u32 x.nxt, .int .u32 x.top, .int .u32 x.irs, .int .u32 x.rcv, .int .i64 x.room, .int .i64 x.peer, .int .i64 x.inn.n, .int .i64 x.snd.n]
def X.varsS (x : X) : List SV := [.int .u32 x.iss, .int .u32 x.una, .int .u32 x.nxt, .int .u32 x.top, .int .u32 x.irs, .int .u32 x.rcv, .int .i64 x.room, .int .i64 x.peer, .int .i64 x.inn.n, .int .i64 x.snd.n]
theorem vars_spec (b : Nat) (x : X) : Does Tryz.prog 22 #[pp b] (Fr (CA b x)) [] (fun v p => v = .agg x.vars.toArray ∧ p = []) := by
  refine Does.ofJ Tryz.func22 Tryz.call22 rfl [.raw (pp b)] [] 0 [] rfl rfl (fun h k => k) (fun f hR => ?_)
  intro b2
  refine DrawOb.mk [(28, [0, 1, 2, 3, 4, 5, 6, 7, 8, 9, 10, 11, 12, 13, 14, 15, 16, 17, 18, 19, 20, 21, 22, 23, 29, 30, 31, 32, 33, 34, 35, 36, 38, 39, 40, 41]), (37, [0, 1, 2, 3, 4, 5, 6, 7, 8, 9, 10, 11, 12, 13, 14, 15, 16, 17, 18, 19, 20, 21, 22, 23, 29, 30, 31, 32, 38, 39, 40, 41]), (42, [0, 1, 2, 3, 4, 5, 6, 7, 8, 9, 10, 11, 12, 13, 14, 15, 16, 17, 18, 19, 20, 21, 22, 23, 29, 30, 31, 32])] (.run [0, 1, 2, 3, 4, 5, 6, 7, 8, 9, 10, 11, 12, 13, 14, 15, 16, 17, 18, 19, 20, 21, 22, 23, 24, 25, 26, 27, 29, 30, 31, 32, 33, 34, 35, 36, 38, 39, 40, 41, 28, 37, 42, 43, 44] .nil) (by kernel_rfl) ?_
  refine RdRaw.mk (.int .u32 x.iss) _ rfl (hR.own 18 _ rfl) ?_
  refine RdRaw.mk (.int .u32 x.una) _ rfl (hR.own 19 _ rfl) ?_
  refine RdRaw.mk (.int .u32 x.nxt) _ rfl (hR.own 20 _ rfl) ?_
  refine RdRaw.mk (.int .u32 x.top) _ rfl (hR.own 21 _ rfl) ?_
  refine RdRaw.mk (.int .u32 x.irs) _ rfl (hR.own 37 _ rfl) ?_
  refine RdRaw.mk (.int .u32 x.rcv) _ rfl (hR.own 38 _ rfl) ?_
  refine RdRaw.mk (.raw (pp x.bi)) _ rfl (hR.own 39 _ rfl) ?_
  refine RdRaw.mk (.int .i64 x.peer) _ rfl (hR.own 24 _ rfl) ?_
  refine RdRaw.mk (.raw (pp x.bi)) _ rfl (hR.own 39 _ rfl) ?_
  refine RdRaw.mk (.raw (pp x.bs)) _ rfl (hR.own 22 _ rfl) ?_
  refine useR (.int .i64 x.room) (room_spec x.bi x.inn) rfl (fun f' b' hs kb => (hR.part 2 rfl).mono hs) rfl ?_
  refine RdRaw.mk (.raw (pp x.bs)) _ rfl (hR.own 22 _ rfl) ?_
  refine Need.mk rfl ?_
  refine RdRaw.mk (.raw (pp x.bi)) _ rfl (hR.own 39 _ rfl) ?_
  refine Need.mk rfl ?_
  refine RdRaw.mk (.int .i64 x.peer) _ rfl (hR.own 24 _ rfl) ?_
  refine Need.mk rfl ?_
  refine RdRaw.mk (.int .u32 x.rcv) _ rfl (hR.own 38 _ rfl) ?_
  refine Need.mk rfl ?_
  refine RdRaw.mk (.int .u32 x.irs) _ rfl (hR.own 37 _ rfl) ?_
  refine Need.mk rfl ?_
  refine RdRaw.mk (.int .u32 x.top) _ rfl (hR.own 21 _ rfl) ?_
  refine Need.mk rfl ?_
  refine RdRaw.mk (.int .u32 x.nxt) _ rfl (hR.own 20 _ rfl) ?_
  refine Need.mk rfl ?_
  refine RdRaw.mk (.int .u32 x.una) _ rfl (hR.own 19 _ rfl) ?_
  refine Need.mk rfl ?_
  refine RdRaw.mk (.int .u32 x.iss) _ rfl (hR.own 18 _ rfl) ?_
  refine Need.mk rfl ?_
  refine useR (.int .i64 x.inn.n) (hlen_spec x.bi x.inn) rfl (fun f' b' hs kb => (hR.part 2 rfl).mono hs) rfl ?_
  refine RdRaw.mk (.raw (pp x.bs)) _ rfl (hR.own 22 _ rfl) ?_
  refine Need.mk rfl ?_
  refine RdRaw.mk (.int .i64 x.peer) _ rfl (hR.own 24 _ rfl) ?_
  refine Need.mk rfl ?_
  refine RdRaw.mk (.int .u32 x.rcv) _ rfl (hR.own 38 _ rfl) ?_
  refine Need.mk rfl ?_
  refine RdRaw.mk (.int .u32 x.irs) _ rfl (hR.own 37 _ rfl) ?_
  refine Need.mk rfl ?_
  refine RdRaw.mk (.int .u32 x.top) _ rfl (hR.own 21 _ rfl) ?_
  refine Need.mk rfl ?_
  refine RdRaw.mk (.int .u32 x.nxt) _ rfl (hR.own 20 _ rfl) ?_
  refine Need.mk rfl ?_
  refine RdRaw.mk (.int .u32 x.una) _ rfl (hR.own 19 _ rfl) ?_
  refine Need.mk rfl ?_
  refine RdRaw.mk (.int .u32 x.iss) _ rfl (hR.own 18 _ rfl) ?_
  refine Need.mk rfl ?_
  refine useR (.int .i64 x.snd.n) (hlen_spec x.bs x.snd) rfl (fun f' b' hs kb => (hR.part 1 rfl).mono hs) rfl ?_
  refine RdRaw.mk (.int .i64 x.peer) _ rfl (hR.own 24 _ rfl) ?_
  refine Need.mk rfl ?_
  refine RdRaw.mk (.int .u32 x.rcv) _ rfl (hR.own 38 _ rfl) ?_
  refine Need.mk rfl ?_
  refine RdRaw.mk (.int .u32 x.irs) _ rfl (hR.own 37 _ rfl) ?_
  refine Need.mk rfl ?_
  refine RdRaw.mk (.int .u32 x.top) _ rfl (hR.own 21 _ rfl) ?_
  refine Need.mk rfl ?_
  refine RdRaw.mk (.int .u32 x.nxt) _ rfl (hR.own 20 _ rfl) ?_
  refine Need.mk rfl ?_
  refine RdRaw.mk (.int .u32 x.una) _ rfl (hR.own 19 _ rfl) ?_
  refine Need.mk rfl ?_
  refine RdRaw.mk (.int .u32 x.iss) _ rfl (hR.own 18 _ rfl) ?_
  refine Need.mk rfl ?_
  exact FinOb.mk [.agg x.vars.toArray] [] rfl (fun h k => trivial) ⟨rfl, rfl⟩
theorem quad_spec (i : Int) (hi : i = 0) : Does Tryz.prog 13 #[.int .i64 i] (fun _ => True) [] (fun v p => v = .agg (Qd.mk 1 1000 2 80).vals.toArray ∧ p = []) := by
  subst hi
  refine Does.ofJ Tryz.func13 Tryz.call13 rfl [.int .i64 0] [] 0 [] rfl rfl (fun h k => k) (fun f hR => ?_)
  intro b2 b3 b4
  refine CondOb.split (fun _ => ?_) (fun g => absurd g (by decide))
  exact FinOb.mk [.agg (Qd.mk 1 1000 2 80).vals.toArray] [] rfl (fun h k => trivial) ⟨rfl, rfl⟩
/-- What a segment in SynSent should do. -/
def roQ (iss : Int) (s : Sg) : Int × Int × Int × Int :=
  if bit s.flags 16 && !(s.ack == addQ iss 1) then (if bit s.flags 4 then (1, 0, 0, 0) else (1, 0, 4, s.ack))
  else if bit s.flags 4 then (if bit s.flags 16 then (0, 220, 0, 0) else (1, 0, 0, 0))
  else if bit s.flags 2 then (if bit s.flags 16 then (3, 0, 16, addQ iss 1) else (2, 0, 18, iss))
  else (1, 0, 0, 0)
def roV (iss : Int) (s : Sg) : Value := .tuple #[.int .i64 (roQ iss s).1, .int .i64 (roQ iss s).2.1, .int .i64 (roQ iss s).2.2.1, .int .u32 (roQ iss s).2.2.2]
theorem ropening_spec (iss : Int) (s : Sg) (hi : 0 ≤ iss ∧ iss ≤ 4294967295) : Does Tryz.prog 18 #[.int .u32 iss, .agg s.vals.toArray] (fun _ => True) [] (fun v p => v = roV iss s ∧ p = []) := by
  refine Does.ofJ Tryz.func18 Tryz.call18 rfl [.int .u32 iss, .agg s.svs] [] 0 [] rfl rfl (fun h k => k) (fun f hR => ?_)
  intro b3
  refine DrawOb.mk [] (.run [0, 1, 2, 3, 4, 5, 6, 7, 8, 9, 10, 11, 12, 13, 14] .nil) (by kernel_rfl) ?_
  refine DrawOb.mk [(3, [0, 1])] (.run [0, 1, 2, 3, 4, 5] .nil) (by kernel_rfl) ?_
  refine useP (.int .u32 (addQ iss 1)) (radd_spec _ _ hi (by decide)) rfl rfl ?_
  refine Need.mk rfl ?_
  refine RegOb.join Unit (fun _ => ⟨45, [(0, .int .u32 iss), (3, .ptr 0 0), (8, .bool (bit s.flags 16)), (9, .bool (bit s.flags 2)), (10, .bool (bit s.flags 4)), (33, .bool (bit s.flags 16 && !(s.ack == addQ iss 1)))], [(0, .at b3 0)], 1, [.blk 0 28 s.svs]⟩) ?_ (fun _ => ?_)
  · refine Br.mk (fun g => ?_) (fun g => ?_)
    · have g : bit s.flags 16 = true := g
      exact ⟨(), Le.of rfl ⟨⟨_, rfl, rfl⟩, ⟨_, rfl, rfl⟩, ⟨_, rfl, rfl⟩, ⟨_, rfl, rfl⟩, ⟨_, rfl, rfl⟩, ⟨_, rfl, (by rw [g]; rfl)⟩, trivial⟩ (fun h k => sat_pick 0 rfl (by first | exact fun _ k => k | exact fun _ k => blk_to rfl rfl k | exact fun _ k => vec_to rfl k | exact fun _ k => blk_of rfl rfl k | exact fun _ k => vec_of rfl k | exact fun _ k => blk_of rfl rfl (blk_to rfl rfl k) | exact fun _ k => vec_of rfl (vec_to rfl k) | exact fun _ k => mp_to rfl k | exact fun _ k => mp_of rfl k | exact fun _ k => mp_of rfl (mp_to rfl k)) (fun h k => sat_nil k) k)⟩
    · have g : bit s.flags 16 = false := g
      exact ⟨(), Le.of rfl ⟨⟨_, rfl, rfl⟩, ⟨_, rfl, rfl⟩, ⟨_, rfl, rfl⟩, ⟨_, rfl, rfl⟩, ⟨_, rfl, rfl⟩, ⟨_, rfl, (by rw [g]; rfl)⟩, trivial⟩ (fun h k => sat_pick 0 rfl (by first | exact fun _ k => k | exact fun _ k => blk_to rfl rfl k | exact fun _ k => vec_to rfl k | exact fun _ k => blk_of rfl rfl k | exact fun _ k => vec_of rfl k | exact fun _ k => blk_of rfl rfl (blk_to rfl rfl k) | exact fun _ k => vec_of rfl (vec_to rfl k) | exact fun _ k => mp_to rfl k | exact fun _ k => mp_of rfl k | exact fun _ k => mp_of rfl (mp_to rfl k)) (fun h k => sat_nil k) k)⟩
  refine CondOb.split (fun g1 => ?_) (fun g1 => ?_)
  · refine CondOb.split (fun g2 => ?_) (fun g2 => ?_)
    · exact FinOb.mk [.int .i64 (1), .int .i64 (0), .int .i64 (0), .int .u32 (0)] [] rfl (fun h k => trivial) ⟨by unfold roV roQ; rw [g1, g2]; rfl, rfl⟩
    · refine DrawOb.mk [] (.run [0, 1, 2, 3, 4, 5] .nil) (by kernel_rfl) ?_
      exact FinOb.mk [.int .i64 (1), .int .i64 (0), .int .i64 (4), .int .u32 (s.ack)] [] rfl (fun h k => trivial) ⟨by unfold roV roQ; rw [g1, g2]; rfl, rfl⟩
  refine CondOb.split (fun g2 => ?_) (fun g2 => ?_)
  · refine CondOb.split (fun g3 => ?_) (fun g3 => ?_)
    · exact FinOb.mk [.int .i64 (0), .int .i64 (220), .int .i64 (0), .int .u32 (0)] [] rfl (fun h k => trivial) ⟨by unfold roV roQ; rw [g1, g2, g3]; rfl, rfl⟩
    · exact FinOb.mk [.int .i64 (1), .int .i64 (0), .int .i64 (0), .int .u32 (0)] [] rfl (fun h k => trivial) ⟨by unfold roV roQ; rw [g1, g2, g3]; rfl, rfl⟩
  refine CondOb.split (fun g3 => ?_) (fun g3 => ?_)
  · have g3 : bit s.flags 2 = false := by simpa using g3
    exact FinOb.mk [.int .i64 (1), .int .i64 (0), .int .i64 (0), .int .u32 (0)] [] rfl (fun h k => trivial) ⟨by unfold roV roQ; rw [g1, g2, g3]; rfl, rfl⟩
  have g3 : bit s.flags 2 = true := by simpa using g3
  refine CondOb.split (fun g4 => ?_) (fun g4 => ?_)
  · refine useP (.int .u32 (addQ iss 1)) (radd_spec _ _ hi (by decide)) rfl rfl ?_
    exact FinOb.mk [.int .i64 (3), .int .i64 (0), .int .i64 (16), .int .u32 (addQ iss 1)] [] rfl (fun h k => trivial) ⟨by unfold roV roQ; rw [g1, g2, g3, g4]; rfl, rfl⟩
  · exact FinOb.mk [.int .i64 (2), .int .i64 (0), .int .i64 (18), .int .u32 (iss)] [] rfl (fun h k => trivial) ⟨by unfold roV roQ; rw [g1, g2, g3, g4]; rfl, rfl⟩
end Go.Proofs.YtljgcapejcnmgaaGreat.Tc
