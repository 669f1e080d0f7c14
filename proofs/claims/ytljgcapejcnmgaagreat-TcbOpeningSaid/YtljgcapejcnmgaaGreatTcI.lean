/- tcb: a segment in SynSent. Conditions: none. -/
import Derived.Test.YtljgcapejcnmgaaGreatTcH
namespace Go.Proofs.YtljgcapejcnmgaaGreat.Tc
open Go Go.Proofs Sx
set_option maxRecDepth 100000
set_option linter.unusedVariables false
set_option linter.unusedSimpArgs false
set_option maxHeartbeats 4000000

/-- What a connection may be told without running over. -/
structure X.Sm (x : X) : Prop where
  si : 0 ≤ x.si
  oc : x.out.length ≤ x.co
  ol : x.out.length ≤ 1000000
  cfg : x.cfg.Ok
def X.wrong (x : X) (s : Sg) : Bool := decide (diffQ s.ack x.iss ≤ 0) || decide (diffQ s.ack x.top > 0)
def X.synack (x : X) (s : Sg) (bc : Nat) : X := ({ x.greet s bc with una := s.ack, state := 3, again := ⟨x.again.at_, false⟩, timed := false, tries := 0 } : X).watch true
/-- A segment in SynSent; where the new things lie. -/
def X.opening (x : X) (s : Sg) (bc q o co : Nat) : X :=
  if bit s.flags 16 && x.wrong s then (if bit s.flags 4 then x else x.put (x.seg 4 s.ack none 0 0) (.at q o) co)
  else if bit s.flags 4 then (if bit s.flags 16 then x.close 220 else x)
  else if bit s.flags 2 then
    (if bit s.flags 16 then (x.synack s bc).put ((x.synack s bc).seg 16 (x.synack s bc).top none 0 0) (.at q o) co
     else ({ x.greet s bc with state := 2 } : X).hello (x.greet s bc).scaled q o co)
  else x
theorem sm_synack {x : X} {s : Sg} {bc : Nat} (h : x.Sm) : (x.synack s bc).Sm := by
  have h0 := h.si
  have h1 : 0 ≤ (x.greet s bc).si := by
    show 0 ≤ (if s.scale > 0 then (scl x.cfg.rcv : Int) else x.si)
    split <;> omega
  unfold X.synack X.watch
  split
  · split
    · exact ⟨h1, h.oc, h.ol, h.cfg⟩
    · exact ⟨h1, h.oc, h.ol, h.cfg⟩
  · exact ⟨h1, h.oc, h.ol, h.cfg⟩
theorem opening_spec (b : Nat) (x : X) (s : Sg) (hx : x.Sm) :
    Does Tryz.prog 51 #[pp b, .agg s.vals.toArray] (fun _ => True) [CA b x] (fun v p => ∃ bc q o co, v = .tuple #[] ∧ (x.opening s bc q o co).out.length ≤ (x.opening s bc q o co).co ∧ p = [CA b (x.opening s bc q o co)]) := by
  refine Does.ofJ Tryz.func51 Tryz.call51 rfl [.raw (pp b), .agg s.svs] [] 0 [.asn (CA b x)] rfl rfl (fun h k => k) (fun f hR => ?_)
  intro b3
  refine RegOb.join Unit (fun _ => ⟨85, [(0, .raw (pp b)), (3, .ptr 0 0), (4, .bool (bit s.flags 16)), (29, .bool (bit s.flags 16 && x.wrong s))], [(0, .at b3 0)], 1, [.asn (CA b x), .blk 0 28 s.svs]⟩) ?_ (fun _ => ?_)
  · refine DrawOb.mk [] (.run [0, 1, 2, 3, 4, 5, 6, 7, 8, 9, 10, 11, 12, 13, 14, 15, 16, 17, 18, 19, 20] .nil) (by kernel_rfl) ?_
    refine Br.mk (fun g => ?_) (fun g => ?_)
    rotate_left
    · have g : bit s.flags 16 = false := g
      exact ⟨(), Le.of rfl ⟨⟨_, rfl, rfl⟩, ⟨_, rfl, rfl⟩, ⟨_, rfl, rfl⟩, ⟨_, rfl, (by rw [g]; rfl)⟩, trivial⟩ (fun h k => sat_pick 1 rfl (by first | exact fun _ k => k | exact fun _ k => blk_to rfl rfl k | exact fun _ k => vec_to rfl k | exact fun _ k => blk_of rfl rfl k | exact fun _ k => vec_of rfl k | exact fun _ k => blk_of rfl rfl (blk_to rfl rfl k) | exact fun _ k => vec_of rfl (vec_to rfl k) | exact fun _ k => mp_to rfl k | exact fun _ k => mp_of rfl k | exact fun _ k => mp_of rfl (mp_to rfl k)) (fun h k => sat_pick 0 rfl (by first | exact fun _ k => k | exact fun _ k => blk_to rfl rfl k | exact fun _ k => vec_to rfl k | exact fun _ k => blk_of rfl rfl k | exact fun _ k => vec_of rfl k | exact fun _ k => blk_of rfl rfl (blk_to rfl rfl k) | exact fun _ k => vec_of rfl (vec_to rfl k) | exact fun _ k => mp_to rfl k | exact fun _ k => mp_of rfl k | exact fun _ k => mp_of rfl (mp_to rfl k)) (fun h k => sat_nil k) k) k)⟩
    have g : bit s.flags 16 = true := g
    refine RdRaw.told (.int .u32 x.iss) _ rfl (fun h k => sat_rd k 1 rfl 18 _ rfl) ?_
    refine useP (.int .i64 (diffQ s.ack x.iss)) (diff_spec _ _) rfl rfl ?_
    refine Br.mk (fun g2 => ?_) (fun g2 => ?_)
    · exact ⟨(), Le.of rfl ⟨⟨_, rfl, rfl⟩, ⟨_, rfl, rfl⟩, ⟨_, rfl, rfl⟩, ⟨_, rfl, (by unfold X.wrong; rw [g, g2]; rfl)⟩, trivial⟩ (fun h k => sat_pick 1 rfl (by first | exact fun _ k => k | exact fun _ k => blk_to rfl rfl k | exact fun _ k => vec_to rfl k | exact fun _ k => blk_of rfl rfl k | exact fun _ k => vec_of rfl k | exact fun _ k => blk_of rfl rfl (blk_to rfl rfl k) | exact fun _ k => vec_of rfl (vec_to rfl k) | exact fun _ k => mp_to rfl k | exact fun _ k => mp_of rfl k | exact fun _ k => mp_of rfl (mp_to rfl k)) (fun h k => sat_pick 0 rfl (by first | exact fun _ k => k | exact fun _ k => blk_to rfl rfl k | exact fun _ k => vec_to rfl k | exact fun _ k => blk_of rfl rfl k | exact fun _ k => vec_of rfl k | exact fun _ k => blk_of rfl rfl (blk_to rfl rfl k) | exact fun _ k => vec_of rfl (vec_to rfl k) | exact fun _ k => mp_to rfl k | exact fun _ k => mp_of rfl k | exact fun _ k => mp_of rfl (mp_to rfl k)) (fun h k => sat_nil k) k) k)⟩
    refine RdRaw.told (.int .u32 x.top) _ rfl (fun h k => sat_rd k 1 rfl 21 _ rfl) ?_
    refine useP (.int .i64 (diffQ s.ack x.top)) (diff_spec _ _) rfl rfl ?_
    exact ⟨(), Le.of rfl ⟨⟨_, rfl, rfl⟩, ⟨_, rfl, rfl⟩, ⟨_, rfl, rfl⟩, ⟨_, rfl, (by unfold X.wrong; rw [g, g2]; rfl)⟩, trivial⟩ (fun h k => sat_pick 1 rfl (by first | exact fun _ k => k | exact fun _ k => blk_to rfl rfl k | exact fun _ k => vec_to rfl k | exact fun _ k => blk_of rfl rfl k | exact fun _ k => vec_of rfl k | exact fun _ k => blk_of rfl rfl (blk_to rfl rfl k) | exact fun _ k => vec_of rfl (vec_to rfl k) | exact fun _ k => mp_to rfl k | exact fun _ k => mp_of rfl k | exact fun _ k => mp_of rfl (mp_to rfl k)) (fun h k => sat_pick 0 rfl (by first | exact fun _ k => k | exact fun _ k => blk_to rfl rfl k | exact fun _ k => vec_to rfl k | exact fun _ k => blk_of rfl rfl k | exact fun _ k => vec_of rfl k | exact fun _ k => blk_of rfl rfl (blk_to rfl rfl k) | exact fun _ k => vec_of rfl (vec_to rfl k) | exact fun _ k => mp_to rfl k | exact fun _ k => mp_of rfl k | exact fun _ k => mp_of rfl (mp_to rfl k)) (fun h k => sat_nil k) k) k)⟩
  refine CondOb.split (fun g1 => ?_) (fun g1 => ?_)
  · refine CondOb.split (fun g2 => ?_) (fun g2 => ?_)
    · have g2 : bit s.flags 4 = false := by unfold bit; rw [bne, g2]; rfl
      refine call_ix (put_spec b x 4 s.ack none 0 0 hx.si hx.oc hx.ol) rfl [0] (fun h k => sat_pick 0 rfl (by first | exact fun _ k => k | exact fun _ k => blk_to rfl rfl k | exact fun _ k => vec_to rfl k | exact fun _ k => blk_of rfl rfl k | exact fun _ k => vec_of rfl k | exact fun _ k => blk_of rfl rfl (blk_to rfl rfl k) | exact fun _ k => vec_of rfl (vec_to rfl k) | exact fun _ k => mp_to rfl k | exact fun _ k => mp_of rfl k | exact fun _ k => mp_of rfl (mp_to rfl k)) (fun h k => sat_pick 0 rfl (by first | exact fun _ k => k | exact fun _ k => blk_to rfl rfl k | exact fun _ k => vec_to rfl k | exact fun _ k => blk_of rfl rfl k | exact fun _ k => vec_of rfl k | exact fun _ k => blk_of rfl rfl (blk_to rfl rfl k) | exact fun _ k => vec_of rfl (vec_to rfl k) | exact fun _ k => mp_to rfl k | exact fun _ k => mp_of rfl k | exact fun _ k => mp_of rfl (mp_to rfl k)) (fun h k => sat_nil k) k) k) (fun _ _ _ _ => trivial) ?_
      rintro v post ⟨q, o, co, rfl, hco, rfl⟩
      refine ⟨.tuple [], _, 1, [.asn (CA b (x.put (x.seg 4 s.ack none 0 0) (.at q o) co))], NmExt.refl _, rfl, (fun h k => sat_pick 0 rfl (by first | exact fun _ k => k | exact fun _ k => blk_to rfl rfl k | exact fun _ k => vec_to rfl k | exact fun _ k => blk_of rfl rfl k | exact fun _ k => vec_of rfl k | exact fun _ k => blk_of rfl rfl (blk_to rfl rfl k) | exact fun _ k => vec_of rfl (vec_to rfl k) | exact fun _ k => mp_to rfl k | exact fun _ k => mp_of rfl k | exact fun _ k => mp_of rfl (mp_to rfl k)) (fun h k => sat_nil k) k), ?_⟩
      have e : ∀ bc, x.opening s bc q o co = x.put (x.seg 4 s.ack none 0 0) (.at q o) co := fun bc => by unfold X.opening; rw [g1, g2]; rfl
      exact FinOb.mk [] [CA b (x.put (x.seg 4 s.ack none 0 0) (.at q o) co)] rfl (fun h k => sat_pick 0 rfl (by first | exact fun _ k => k | exact fun _ k => blk_to rfl rfl k | exact fun _ k => vec_to rfl k | exact fun _ k => blk_of rfl rfl k | exact fun _ k => vec_of rfl k | exact fun _ k => blk_of rfl rfl (blk_to rfl rfl k) | exact fun _ k => vec_of rfl (vec_to rfl k) | exact fun _ k => mp_to rfl k | exact fun _ k => mp_of rfl k | exact fun _ k => mp_of rfl (mp_to rfl k)) (fun h k => sat_nil k) k) ⟨0, q, o, co, rfl, by rw [e]; simpa [X.put] using hco, by rw [e]⟩
    · have g2 : bit s.flags 4 = true := by unfold bit; rw [bne, g2]; rfl
      have e : ∀ bc q o co, x.opening s bc q o co = x := fun bc q o co => by unfold X.opening; rw [g1, g2]; rfl
      exact FinOb.mk [] [CA b x] rfl (fun h k => sat_pick 0 rfl (by first | exact fun _ k => k | exact fun _ k => blk_to rfl rfl k | exact fun _ k => vec_to rfl k | exact fun _ k => blk_of rfl rfl k | exact fun _ k => vec_of rfl k | exact fun _ k => blk_of rfl rfl (blk_to rfl rfl k) | exact fun _ k => vec_of rfl (vec_to rfl k) | exact fun _ k => mp_to rfl k | exact fun _ k => mp_of rfl k | exact fun _ k => mp_of rfl (mp_to rfl k)) (fun h k => sat_nil k) k) ⟨0, 0, 0, 0, rfl, by rw [e]; exact hx.oc, by rw [e]⟩
  refine CondOb.split (fun g2 => ?_) (fun g2 => ?_)
  · have g2 : bit s.flags 4 = true := g2
    refine CondOb.split (fun g3 => ?_) (fun g3 => ?_)
    · have e : ∀ bc q o co, x.opening s bc q o co = x.close 220 := fun bc q o co => by unfold X.opening; rw [g1, g2, g3]; rfl
      refine call_ix (close_spec b x 220) rfl [0] (fun h k => sat_pick 0 rfl (by first | exact fun _ k => k | exact fun _ k => blk_to rfl rfl k | exact fun _ k => vec_to rfl k | exact fun _ k => blk_of rfl rfl k | exact fun _ k => vec_of rfl k | exact fun _ k => blk_of rfl rfl (blk_to rfl rfl k) | exact fun _ k => vec_of rfl (vec_to rfl k) | exact fun _ k => mp_to rfl k | exact fun _ k => mp_of rfl k | exact fun _ k => mp_of rfl (mp_to rfl k)) (fun h k => sat_pick 0 rfl (by first | exact fun _ k => k | exact fun _ k => blk_to rfl rfl k | exact fun _ k => vec_to rfl k | exact fun _ k => blk_of rfl rfl k | exact fun _ k => vec_of rfl k | exact fun _ k => blk_of rfl rfl (blk_to rfl rfl k) | exact fun _ k => vec_of rfl (vec_to rfl k) | exact fun _ k => mp_to rfl k | exact fun _ k => mp_of rfl k | exact fun _ k => mp_of rfl (mp_to rfl k)) (fun h k => sat_nil k) k) k) (fun _ _ _ _ => trivial) ?_
      rintro v post ⟨rfl, rfl⟩
      refine ⟨.tuple [], _, 1, [.asn (CA b (x.close 220))], NmExt.refl _, rfl, (fun h k => sat_pick 0 rfl (by first | exact fun _ k => k | exact fun _ k => blk_to rfl rfl k | exact fun _ k => vec_to rfl k | exact fun _ k => blk_of rfl rfl k | exact fun _ k => vec_of rfl k | exact fun _ k => blk_of rfl rfl (blk_to rfl rfl k) | exact fun _ k => vec_of rfl (vec_to rfl k) | exact fun _ k => mp_to rfl k | exact fun _ k => mp_of rfl k | exact fun _ k => mp_of rfl (mp_to rfl k)) (fun h k => sat_nil k) k), ?_⟩
      exact FinOb.mk [] [CA b (x.close 220)] rfl (fun h k => sat_pick 0 rfl (by first | exact fun _ k => k | exact fun _ k => blk_to rfl rfl k | exact fun _ k => vec_to rfl k | exact fun _ k => blk_of rfl rfl k | exact fun _ k => vec_of rfl k | exact fun _ k => blk_of rfl rfl (blk_to rfl rfl k) | exact fun _ k => vec_of rfl (vec_to rfl k) | exact fun _ k => mp_to rfl k | exact fun _ k => mp_of rfl k | exact fun _ k => mp_of rfl (mp_to rfl k)) (fun h k => sat_nil k) k) ⟨0, 0, 0, 0, rfl, by rw [e]; exact hx.oc, by rw [e]⟩
    · have e : ∀ bc q o co, x.opening s bc q o co = x := fun bc q o co => by unfold X.opening; rw [g1, g2, g3]; rfl
      exact FinOb.mk [] [CA b x] rfl (fun h k => sat_pick 0 rfl (by first | exact fun _ k => k | exact fun _ k => blk_to rfl rfl k | exact fun _ k => vec_to rfl k | exact fun _ k => blk_of rfl rfl k | exact fun _ k => vec_of rfl k | exact fun _ k => blk_of rfl rfl (blk_to rfl rfl k) | exact fun _ k => vec_of rfl (vec_to rfl k) | exact fun _ k => mp_to rfl k | exact fun _ k => mp_of rfl k | exact fun _ k => mp_of rfl (mp_to rfl k)) (fun h k => sat_nil k) k) ⟨0, 0, 0, 0, rfl, by rw [e]; exact hx.oc, by rw [e]⟩
  have g2 : bit s.flags 4 = false := g2
  refine CondOb.split (fun g3 => ?_) (fun g3 => ?_)
  · have g3 : bit s.flags 2 = false := by unfold bit; rw [bne, g3]; rfl
    have e : ∀ bc q o co, x.opening s bc q o co = x := fun bc q o co => by unfold X.opening; rw [g1, g2, g3]; rfl
    exact FinOb.mk [] [CA b x] rfl (fun h k => sat_pick 0 rfl (by first | exact fun _ k => k | exact fun _ k => blk_to rfl rfl k | exact fun _ k => vec_to rfl k | exact fun _ k => blk_of rfl rfl k | exact fun _ k => vec_of rfl k | exact fun _ k => blk_of rfl rfl (blk_to rfl rfl k) | exact fun _ k => vec_of rfl (vec_to rfl k) | exact fun _ k => mp_to rfl k | exact fun _ k => mp_of rfl k | exact fun _ k => mp_of rfl (mp_to rfl k)) (fun h k => sat_nil k) k) ⟨0, 0, 0, 0, rfl, by rw [e]; exact hx.oc, by rw [e]⟩
  have g3 : bit s.flags 2 = true := by unfold bit; rw [bne, g3]; rfl
  refine call_ix (greet_spec b x s hx.cfg) rfl [0] (fun h k => sat_pick 0 rfl (by first | exact fun _ k => k | exact fun _ k => blk_to rfl rfl k | exact fun _ k => vec_to rfl k | exact fun _ k => blk_of rfl rfl k | exact fun _ k => vec_of rfl k | exact fun _ k => blk_of rfl rfl (blk_to rfl rfl k) | exact fun _ k => vec_of rfl (vec_to rfl k) | exact fun _ k => mp_to rfl k | exact fun _ k => mp_of rfl k | exact fun _ k => mp_of rfl (mp_to rfl k)) (fun h k => sat_pick 0 rfl (by first | exact fun _ k => k | exact fun _ k => blk_to rfl rfl k | exact fun _ k => vec_to rfl k | exact fun _ k => blk_of rfl rfl k | exact fun _ k => vec_of rfl k | exact fun _ k => blk_of rfl rfl (blk_to rfl rfl k) | exact fun _ k => vec_of rfl (vec_to rfl k) | exact fun _ k => mp_to rfl k | exact fun _ k => mp_of rfl k | exact fun _ k => mp_of rfl (mp_to rfl k)) (fun h k => sat_nil k) k) k) (fun _ _ _ _ => trivial) ?_
  rintro v post ⟨bc, rfl, rfl⟩
  refine ⟨.tuple [], _, 1, [.asn (CA b (x.greet s bc))], NmExt.refl _, rfl, (fun h k => sat_pick 0 rfl (by first | exact fun _ k => k | exact fun _ k => blk_to rfl rfl k | exact fun _ k => vec_to rfl k | exact fun _ k => blk_of rfl rfl k | exact fun _ k => vec_of rfl k | exact fun _ k => blk_of rfl rfl (blk_to rfl rfl k) | exact fun _ k => vec_of rfl (vec_to rfl k) | exact fun _ k => mp_to rfl k | exact fun _ k => mp_of rfl k | exact fun _ k => mp_of rfl (mp_to rfl k)) (fun h k => sat_nil k) k), ?_⟩
  have hr := hx.cfg.2.2.1
  refine CondOb.split (fun g4 => ?_) (fun g4 => ?_)
  · have g4 : bit s.flags 16 = false := by simpa using g4
    have hsi : 0 ≤ (x.greet s bc).si := by
      have := hx.si
      show 0 ≤ (if s.scale > 0 then (scl x.cfg.rcv : Int) else x.si)
      split <;> omega
    refine StRaw.on 0 (CA b { x.greet s bc with state := 2 }) [.int .i64 2] rfl rfl (fun h k => ca_st k (Nat.le_of_ble_eq_true rfl) rfl rfl) ?_
    refine RdRaw.told (.bool (x.greet s bc).scaled) _ rfl (fun h k => sat_rd k 0 rfl 30 _ rfl) ?_
    refine call_ix (hello_spec b { x.greet s bc with state := 2 } (x.greet s bc).scaled hsi hx.oc hx.ol (by show 0 ≤ x.cfg.rcv; omega) hr.2) rfl [0] (fun h k => sat_pick 0 rfl (by first | exact fun _ k => k | exact fun _ k => blk_to rfl rfl k | exact fun _ k => vec_to rfl k | exact fun _ k => blk_of rfl rfl k | exact fun _ k => vec_of rfl k | exact fun _ k => blk_of rfl rfl (blk_to rfl rfl k) | exact fun _ k => vec_of rfl (vec_to rfl k) | exact fun _ k => mp_to rfl k | exact fun _ k => mp_of rfl k | exact fun _ k => mp_of rfl (mp_to rfl k)) (fun h k => sat_pick 0 rfl (by first | exact fun _ k => k | exact fun _ k => blk_to rfl rfl k | exact fun _ k => vec_to rfl k | exact fun _ k => blk_of rfl rfl k | exact fun _ k => vec_of rfl k | exact fun _ k => blk_of rfl rfl (blk_to rfl rfl k) | exact fun _ k => vec_of rfl (vec_to rfl k) | exact fun _ k => mp_to rfl k | exact fun _ k => mp_of rfl k | exact fun _ k => mp_of rfl (mp_to rfl k)) (fun h k => sat_nil k) k) k) (fun _ _ _ _ => trivial) ?_
    rintro v post ⟨q, o, co, rfl, hco, rfl⟩
    refine ⟨.tuple [], _, 1, [.asn (CA b (({ x.greet s bc with state := 2 } : X).hello (x.greet s bc).scaled q o co))], NmExt.refl _, rfl, (fun h k => sat_pick 0 rfl (by first | exact fun _ k => k | exact fun _ k => blk_to rfl rfl k | exact fun _ k => vec_to rfl k | exact fun _ k => blk_of rfl rfl k | exact fun _ k => vec_of rfl k | exact fun _ k => blk_of rfl rfl (blk_to rfl rfl k) | exact fun _ k => vec_of rfl (vec_to rfl k) | exact fun _ k => mp_to rfl k | exact fun _ k => mp_of rfl k | exact fun _ k => mp_of rfl (mp_to rfl k)) (fun h k => sat_nil k) k), ?_⟩
    have e : x.opening s bc q o co = ({ x.greet s bc with state := 2 } : X).hello (x.greet s bc).scaled q o co := by unfold X.opening; rw [g1, g2, g3, g4]; rfl
    exact FinOb.mk [] [CA b (({ x.greet s bc with state := 2 } : X).hello (x.greet s bc).scaled q o co)] rfl (fun h k => sat_pick 0 rfl (by first | exact fun _ k => k | exact fun _ k => blk_to rfl rfl k | exact fun _ k => vec_to rfl k | exact fun _ k => blk_of rfl rfl k | exact fun _ k => vec_of rfl k | exact fun _ k => blk_of rfl rfl (blk_to rfl rfl k) | exact fun _ k => vec_of rfl (vec_to rfl k) | exact fun _ k => mp_to rfl k | exact fun _ k => mp_of rfl k | exact fun _ k => mp_of rfl (mp_to rfl k)) (fun h k => sat_nil k) k) ⟨bc, q, o, co, rfl, by rw [e]; show (x.out ++ [_]).length ≤ co; rw [List.length_append]; exact hco, by rw [e]⟩
  · have g4 : bit s.flags 16 = true := by simpa using g4
    refine StRaw.on 0 (CA b { x.greet s bc with una := s.ack }) [.int .u32 s.ack] rfl rfl (fun h k => ca_st k (Nat.le_of_ble_eq_true rfl) rfl rfl) ?_
    refine StRaw.on 0 (CA b { x.greet s bc with una := s.ack, state := 3 }) [.int .i64 3] rfl rfl (fun h k => ca_st k (Nat.le_of_ble_eq_true rfl) rfl rfl) ?_
    refine StRaw.on 0 (CA b { x.greet s bc with una := s.ack, state := 3, again := ⟨x.again.at_, false⟩ }) [.bool false] rfl rfl (fun h k => ca_st k (Nat.le_of_ble_eq_true rfl) rfl rfl) ?_
    refine StRaw.on 0 (CA b { x.greet s bc with una := s.ack, state := 3, again := ⟨x.again.at_, false⟩, timed := false }) [.bool false] rfl rfl (fun h k => ca_st k (Nat.le_of_ble_eq_true rfl) rfl rfl) ?_
    refine StRaw.on 0 (CA b { x.greet s bc with una := s.ack, state := 3, again := ⟨x.again.at_, false⟩, timed := false, tries := 0 }) [.int .i64 0] rfl rfl (fun h k => ca_st k (Nat.le_of_ble_eq_true rfl) rfl rfl) ?_
    refine call_ix (watch_spec b { x.greet s bc with una := s.ack, state := 3, again := ⟨x.again.at_, false⟩, timed := false, tries := 0 } true) rfl [0] (fun h k => sat_pick 0 rfl (by first | exact fun _ k => k | exact fun _ k => blk_to rfl rfl k | exact fun _ k => vec_to rfl k | exact fun _ k => blk_of rfl rfl k | exact fun _ k => vec_of rfl k | exact fun _ k => blk_of rfl rfl (blk_to rfl rfl k) | exact fun _ k => vec_of rfl (vec_to rfl k) | exact fun _ k => mp_to rfl k | exact fun _ k => mp_of rfl k | exact fun _ k => mp_of rfl (mp_to rfl k)) (fun h k => sat_pick 0 rfl (by first | exact fun _ k => k | exact fun _ k => blk_to rfl rfl k | exact fun _ k => vec_to rfl k | exact fun _ k => blk_of rfl rfl k | exact fun _ k => vec_of rfl k | exact fun _ k => blk_of rfl rfl (blk_to rfl rfl k) | exact fun _ k => vec_of rfl (vec_to rfl k) | exact fun _ k => mp_to rfl k | exact fun _ k => mp_of rfl k | exact fun _ k => mp_of rfl (mp_to rfl k)) (fun h k => sat_nil k) k) k) (fun _ _ _ _ => trivial) ?_
    rintro v post ⟨rfl, rfl⟩
    refine ⟨.tuple [], _, 1, [.asn (CA b (x.synack s bc))], NmExt.refl _, rfl, (fun h k => sat_pick 0 rfl (by first | exact fun _ k => k | exact fun _ k => blk_to rfl rfl k | exact fun _ k => vec_to rfl k | exact fun _ k => blk_of rfl rfl k | exact fun _ k => vec_of rfl k | exact fun _ k => blk_of rfl rfl (blk_to rfl rfl k) | exact fun _ k => vec_of rfl (vec_to rfl k) | exact fun _ k => mp_to rfl k | exact fun _ k => mp_of rfl k | exact fun _ k => mp_of rfl (mp_to rfl k)) (fun h k => sat_nil k) k), ?_⟩
    have hy : (x.synack s bc).Sm := sm_synack hx
    generalize hz : x.synack s bc = z at *
    refine call_ix (ack_spec b z hy.si hy.oc hy.ol) rfl [0] (fun h k => sat_pick 0 rfl (by first | exact fun _ k => k | exact fun _ k => blk_to rfl rfl k | exact fun _ k => vec_to rfl k | exact fun _ k => blk_of rfl rfl k | exact fun _ k => vec_of rfl k | exact fun _ k => blk_of rfl rfl (blk_to rfl rfl k) | exact fun _ k => vec_of rfl (vec_to rfl k) | exact fun _ k => mp_to rfl k | exact fun _ k => mp_of rfl k | exact fun _ k => mp_of rfl (mp_to rfl k)) (fun h k => sat_pick 0 rfl (by first | exact fun _ k => k | exact fun _ k => blk_to rfl rfl k | exact fun _ k => vec_to rfl k | exact fun _ k => blk_of rfl rfl k | exact fun _ k => vec_of rfl k | exact fun _ k => blk_of rfl rfl (blk_to rfl rfl k) | exact fun _ k => vec_of rfl (vec_to rfl k) | exact fun _ k => mp_to rfl k | exact fun _ k => mp_of rfl k | exact fun _ k => mp_of rfl (mp_to rfl k)) (fun h k => sat_nil k) k) k) (fun _ _ _ _ => trivial) ?_
    rintro v post ⟨q, o, co, rfl, hco, rfl⟩
    refine ⟨.tuple [], _, 1, [.asn (CA b (z.put (z.seg 16 z.top none 0 0) (.at q o) co))], NmExt.refl _, rfl, (fun h k => sat_pick 0 rfl (by first | exact fun _ k => k | exact fun _ k => blk_to rfl rfl k | exact fun _ k => vec_to rfl k | exact fun _ k => blk_of rfl rfl k | exact fun _ k => vec_of rfl k | exact fun _ k => blk_of rfl rfl (blk_to rfl rfl k) | exact fun _ k => vec_of rfl (vec_to rfl k) | exact fun _ k => mp_to rfl k | exact fun _ k => mp_of rfl k | exact fun _ k => mp_of rfl (mp_to rfl k)) (fun h k => sat_nil k) k), ?_⟩
    have e : x.opening s bc q o co = z.put (z.seg 16 z.top none 0 0) (.at q o) co := by unfold X.opening; rw [g1, g2, g3, g4, hz]; rfl
    exact FinOb.mk [] [CA b (z.put (z.seg 16 z.top none 0 0) (.at q o) co)] rfl (fun h k => sat_pick 0 rfl (by first | exact fun _ k => k | exact fun _ k => blk_to rfl rfl k | exact fun _ k => vec_to rfl k | exact fun _ k => blk_of rfl rfl k | exact fun _ k => vec_of rfl k | exact fun _ k => blk_of rfl rfl (blk_to rfl rfl k) | exact fun _ k => vec_of rfl (vec_to rfl k) | exact fun _ k => mp_to rfl k | exact fun _ k => mp_of rfl k | exact fun _ k => mp_of rfl (mp_to rfl k)) (fun h k => sat_nil k) k) ⟨bc, q, o, co, rfl, by rw [e]; simpa [X.put] using hco, by rw [e]⟩
end Go.Proofs.YtljgcapejcnmgaaGreat.Tc
