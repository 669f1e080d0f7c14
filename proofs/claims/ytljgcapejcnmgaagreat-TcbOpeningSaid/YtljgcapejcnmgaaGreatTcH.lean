/- tcb: what waits; watch; a segment in SynSent. Conditions: none. -/
import Derived.Test.YtljgcapejcnmgaaGreatTcG
namespace Go.Proofs.YtljgcapejcnmgaaGreat.Tc
open Go Go.Proofs Sx
set_option maxRecDepth 100000
set_option linter.unusedVariables false
set_option linter.unusedSimpArgs false
set_option maxHeartbeats 4000000

def X.endQ (x : X) : Int := addQ x.iss (IntKind.i64.wrap (1 + x.snd.in_))
theorem end_spec (b : Nat) (x : X) : Does Tryz.prog 104 #[pp b] (Fr (CA b x)) [] (fun v p => v = .int .u32 x.endQ ∧ p = []) := by
  refine Does.ofJ Tryz.func104 Tryz.call104 rfl [.raw (pp b)] [] 0 [] rfl rfl (fun h k => k) (fun f hR => ?_)
  refine RdRaw.mk (.raw (pp x.bs)) _ rfl (hR.own 22 _ rfl) ?_
  refine useR (.tuple [.int .i64 x.snd.in_, .int .i64 x.snd.out]) (passed_spec x.bs x.snd) rfl (fun f' b' hs kb => (hR.part 1 rfl).mono hs) rfl ?_
  refine RdRaw.mk (.int .u32 x.iss) _ rfl (hR.own 18 _ rfl) ?_
  refine useP (.int .u32 x.endQ) (add_spec _ _) rfl rfl ?_
  exact FinOb.mk [.int .u32 x.endQ] [] rfl (fun h k => trivial) ⟨rfl, rfl⟩
def X.finished (x : X) : Bool := x.shut && (x.una == addQ x.endQ 1)
theorem finished_spec (b : Nat) (x : X) : Does Tryz.prog 98 #[pp b] (Fr (CA b x)) [] (fun v p => v = .bool x.finished ∧ p = []) := by
  refine Does.ofJ Tryz.func98 Tryz.call98 rfl [.raw (pp b)] [] 0 [] rfl rfl (fun h k => k) (fun f hR => ?_)
  refine RegOb.go ?_
  refine DrawOb.mk [(10, [5, 6, 7, 8]), (11, [5, 6, 7, 8])] (.run [0, 1, 2, 3, 4, 5, 6, 7, 8, 9, 10, 11, 12, 13, 14] .nil) (by kernel_rfl) ?_
  refine RdRaw.mk (.bool x.shut) _ rfl (hR.own 23 _ rfl) ?_
  refine Br.mk (fun g => ?_) (fun g => ?_)
  rotate_left
  · exact FinOb.mk [.bool false] [] rfl (fun h k => trivial) ⟨by unfold X.finished; rw [g]; rfl, rfl⟩
  refine RdRaw.mk (.int .u32 x.una) _ rfl (hR.own 19 _ rfl) ?_
  refine useR (.int .u32 x.endQ) (end_spec b x) rfl (fun f' b' hs kb => hR.mono hs) rfl ?_
  refine RdRaw.mk (.int .u32 x.una) _ rfl (hR.own 19 _ rfl) ?_
  refine Need.mk rfl ?_
  refine useP (.int .u32 (addQ x.endQ 1)) (add_spec _ _) rfl rfl ?_
  refine RdRaw.mk (.int .u32 x.una) _ rfl (hR.own 19 _ rfl) ?_
  refine Need.mk rfl ?_
  exact FinOb.mk [.bool (x.una == addQ x.endQ 1)] [] rfl (fun h k => trivial) ⟨by unfold X.finished; rw [g]; rfl, rfl⟩
def X.waits (x : X) : Bool := decide (x.snd.n > 0) || (x.una != x.top) || (x.shut && !x.finished)
theorem waits_spec (b : Nat) (x : X) : Does Tryz.prog 108 #[pp b] (Fr (CA b x)) [] (fun v p => v = .bool x.waits ∧ p = []) := by
  refine Does.ofJ Tryz.func108 Tryz.call108 rfl [.raw (pp b)] [] 0 [] rfl rfl (fun h k => k) (fun f hR => ?_)
  refine RegOb.go ?_
  refine DrawOb.mk [] (.run [0, 1, 2, 3, 4, 5, 6, 7, 8, 9, 10, 11, 12, 13, 14, 15, 16, 17, 18, 19, 20, 21, 22, 23, 24, 25, 26, 27, 28] .nil) (by kernel_rfl) ?_
  refine RdRaw.mk (.raw (pp x.bs)) _ rfl (hR.own 22 _ rfl) ?_
  refine useR (.int .i64 x.snd.n) (hlen_spec x.bs x.snd) rfl (fun f' b' hs kb => (hR.part 1 rfl).mono hs) rfl ?_
  refine Br.mk (fun g => ?_) (fun g => ?_)
  · exact FinOb.mk [.bool true] [] rfl (fun h k => trivial) ⟨by unfold X.waits; rw [g]; rfl, rfl⟩
  refine RdRaw.mk (.int .u32 x.una) _ rfl (hR.own 19 _ rfl) ?_
  refine RdRaw.mk (.int .u32 x.top) _ rfl (hR.own 21 _ rfl) ?_
  refine Br.mk (fun g2 => ?_) (fun g2 => ?_)
  · exact FinOb.mk [.bool true] [] rfl (fun h k => trivial) ⟨by unfold X.waits; rw [g, g2]; rfl, rfl⟩
  refine RdRaw.mk (.bool x.shut) _ rfl (hR.own 23 _ rfl) ?_
  refine Br.mk (fun g3 => ?_) (fun g3 => ?_)
  rotate_left
  · exact FinOb.mk [.bool false] [] rfl (fun h k => trivial) ⟨by unfold X.waits; rw [g, g2, g3]; rfl, rfl⟩
  refine useR (.bool x.finished) (finished_spec b x) rfl (fun f' b' hs kb => hR.mono hs) rfl ?_
  exact FinOb.mk [.bool (!x.finished)] [] rfl (fun h k => trivial) ⟨by unfold X.waits; rw [g, g2, g3]; rfl, rfl⟩
def X.watch (x : X) (anew : Bool) : X := if x.waits then (if anew || !x.user.set then { x with user := ⟨IntKind.i64.wrap (x.now + x.cfg.user), true⟩ } else x) else { x with user := ⟨x.user.at_, false⟩ }
theorem watch_spec (b : Nat) (x : X) (anew : Bool) : Does Tryz.prog 91 #[pp b, .bool anew] (fun _ => True) [CA b x] (fun v p => v = .tuple #[] ∧ p = [CA b (x.watch anew)]) := by
  refine Does.ofJ Tryz.func91 Tryz.call91 rfl [.raw (pp b), .bool anew] [] 0 [.asn (CA b x)] rfl rfl (fun h k => k) (fun f hR => ?_)
  refine useR (.bool x.waits) (waits_spec b x) rfl (fun f' b' hs kb => Fr.told 0 rfl hs kb) rfl ?_
  refine CondOb.split (fun g => ?_) (fun g => ?_)
  · have g : x.waits = false := by simpa using g
    refine StRaw.on 0 (CA b { x with user := ⟨x.user.at_, false⟩ }) [.bool false] rfl rfl (fun h k => ca_st k (Nat.le_of_ble_eq_true rfl) rfl rfl) ?_
    exact FinOb.mk [] [CA b (x.watch anew)] rfl (fun h k => sat_pick 0 rfl (fun h k => by unfold X.watch; rw [g]; exact k) (fun h k => sat_nil k) k) ⟨rfl, rfl⟩
  have g : x.waits = true := by simpa using g
  refine RegOb.join Unit (fun _ => ⟨36, [(0, .raw (pp b)), (12, .bool (anew || !x.user.set))], [], 0, [.asn (CA b x)]⟩) ?_ (fun _ => ?_)
  · refine Br.mk (fun g2 => ?_) (fun g2 => ?_)
    · exact ⟨(), Le.of rfl ⟨⟨_, rfl, rfl⟩, ⟨_, rfl, (by rw [g2]; rfl)⟩, trivial⟩ (fun h k => sat_pick 0 rfl (by first | exact fun _ k => k | exact fun _ k => blk_to rfl rfl k | exact fun _ k => vec_to rfl k | exact fun _ k => blk_of rfl rfl k | exact fun _ k => vec_of rfl k | exact fun _ k => blk_of rfl rfl (blk_to rfl rfl k) | exact fun _ k => vec_of rfl (vec_to rfl k) | exact fun _ k => mp_to rfl k | exact fun _ k => mp_of rfl k | exact fun _ k => mp_of rfl (mp_to rfl k)) (fun h k => sat_nil k) k)⟩
    · refine RdRaw.told (.bool x.user.set) _ rfl (fun h k => sat_rd k 0 rfl 51 _ rfl) ?_
      exact ⟨(), Le.of rfl ⟨⟨_, rfl, rfl⟩, ⟨_, rfl, (by rw [g2]; rfl)⟩, trivial⟩ (fun h k => sat_pick 0 rfl (by first | exact fun _ k => k | exact fun _ k => blk_to rfl rfl k | exact fun _ k => vec_to rfl k | exact fun _ k => blk_of rfl rfl k | exact fun _ k => vec_of rfl k | exact fun _ k => blk_of rfl rfl (blk_to rfl rfl k) | exact fun _ k => vec_of rfl (vec_to rfl k) | exact fun _ k => mp_to rfl k | exact fun _ k => mp_of rfl k | exact fun _ k => mp_of rfl (mp_to rfl k)) (fun h k => sat_nil k) k)⟩
  refine CondOb.split (fun g2 => ?_) (fun g2 => ?_)
  rotate_left
  · exact FinOb.mk [] [CA b (x.watch anew)] rfl (fun h k => sat_pick 0 rfl (fun h k => by unfold X.watch; rw [g, g2]; exact k) (fun h k => sat_nil k) k) ⟨rfl, rfl⟩
  refine DrawOb.mk [] (.run [0, 1, 2, 3, 4, 5, 6, 7, 8, 9, 10, 11, 12, 13] .nil) (by kernel_rfl) ?_
  refine RdRaw.told (.int .i64 x.now) _ rfl (fun h k => sat_rd k 0 rfl 14 _ rfl) ?_
  refine RdRaw.told (.int .i64 x.cfg.user) _ rfl (fun h k => sat_rd k 0 rfl 8 _ rfl) ?_
  refine call_ix (start_spec b x { x with user := ⟨IntKind.i64.wrap (x.now + x.cfg.user), true⟩ } 50 (IntKind.i64.wrap (x.now + x.cfg.user)) (Nat.le_of_ble_eq_true rfl) rfl rfl) rfl [0] (fun h k => sat_pick 0 rfl (by first | exact fun _ k => k | exact fun _ k => blk_to rfl rfl k | exact fun _ k => vec_to rfl k | exact fun _ k => blk_of rfl rfl k | exact fun _ k => vec_of rfl k | exact fun _ k => blk_of rfl rfl (blk_to rfl rfl k) | exact fun _ k => vec_of rfl (vec_to rfl k) | exact fun _ k => mp_to rfl k | exact fun _ k => mp_of rfl k | exact fun _ k => mp_of rfl (mp_to rfl k)) (fun h k => sat_nil k) k) (fun _ _ _ _ => trivial) ?_
  rintro v post ⟨rfl, rfl⟩
  refine ⟨.tuple [], _, 0, [.asn (CA b { x with user := ⟨IntKind.i64.wrap (x.now + x.cfg.user), true⟩ })], NmExt.refl _, rfl, (fun h k => sat_pick 0 rfl (by first | exact fun _ k => k | exact fun _ k => blk_to rfl rfl k | exact fun _ k => vec_to rfl k | exact fun _ k => blk_of rfl rfl k | exact fun _ k => vec_of rfl k | exact fun _ k => blk_of rfl rfl (blk_to rfl rfl k) | exact fun _ k => vec_of rfl (vec_to rfl k) | exact fun _ k => mp_to rfl k | exact fun _ k => mp_of rfl k | exact fun _ k => mp_of rfl (mp_to rfl k)) (fun h k => sat_nil k) k), ?_⟩
  exact FinOb.mk [] [CA b (x.watch anew)] rfl (fun h k => sat_pick 0 rfl (fun h k => by unfold X.watch; rw [g, g2]; exact k) (fun h k => sat_nil k) k) ⟨rfl, rfl⟩
end Go.Proofs.YtljgcapejcnmgaaGreat.Tc
