/- agenda: the pile's Push, Pop. Conditions: none. -/
import Derived.Test.YtiknkeakielncaaAgB
namespace Go.Proofs.Ytiknkeakielncaa.Ag
open Go Go.Proofs Sx
set_option maxRecDepth 100000
set_option linter.unusedVariables false
set_option linter.unusedSimpArgs false
set_option maxHeartbeats 4000000

theorem hd_store {b : Nat} {g : Ag} {n n' : Nat} {pl' : Plc} {cap' : Nat} (x : HP) (k : Hd b g n x) :
    ∃ c t, x b = some (.cells c t (0, 0)) ∧ (2 + 0) + 1 ≤ c.size ∧ Hd b { g with pl := pl', cap := cap' } n' (upd x b (.cells (putV c.toList (2 + 0) [.slice (locAddr 0 pl') n' cap']).toArray t (0, 0))) :=
  ⟨_, _, pt_get x k, by show 3 ≤ 4; omega, (pt_upd _ x k).2⟩
theorem en_store {e : En} {p p' : Int} (x : HP) (k : EnA (e, p) x) :
    ∃ c t, x e.blk = some (.cells c t (0, 0)) ∧ (0 + 4) + 1 ≤ c.size ∧ EnA (e, p') (upd x e.blk (.cells (putV c.toList (0 + 4) [.int .i64 p']).toArray t (0, 0))) :=
  ⟨_, _, pt_get x k, by show 5 ≤ 5; omega, (pt_upd _ x k).2⟩
theorem es_snoc {H : List En} {e : En} (h : HP) (k : sat [EnA (e, (H.length : Int)), Es H] h) : Es (H ++ [e]) h := by
  have e1 : (withI (H ++ [e])).map EnA = (withI H).map EnA ++ [EnA (e, (H.length : Int))] := by
    unfold withI
    rw [List.zipIdx_append, List.map_append, List.map_append]
    simp
  unfold Es EnsP
  rw [e1]
  exact alls_snoc h k
theorem ppush_spec (b : Nat) (g : Ag) (H : List En) (e : En) (p0 : Int) (hl : H.length ≤ 100000) (hc : H.length ≤ g.cap) :
    Does Try.prog 189 #[pp b, .iface 163 e.ptr] (fun _ => True) (Hp b g H ++ [EnA (e, p0)]) (fun v p => ∃ pl cap, v = .tuple #[] ∧ H.length + 1 ≤ cap ∧ p = Hp b { g with pl := pl, cap := cap } (H ++ [e])) := by
  obtain ⟨most, no, pl, cap, mb⟩ := g
  refine Does.ofJ Try.func189 Try.call189 rfl [.raw (pp b), .ifc 163 (.raw e.ptr)] [(0, pl)] 1 [.asn (Hd b ⟨most, no, pl, cap, mb⟩ H.length), .vec 0 163 1 cap (PL.flat H), .asn (Es H), .asn (EnA (e, p0))] rfl rfl (fun h k => sat_pick 0 rfl (by first | exact fun _ k => k | exact fun _ k => blk_to rfl rfl k | exact fun _ k => vec_to rfl k | exact fun _ k => blk_of rfl rfl k | exact fun _ k => vec_of rfl k | exact fun _ k => blk_of rfl rfl (blk_to rfl rfl k) | exact fun _ k => vec_of rfl (vec_to rfl k) | exact fun _ k => mp_to rfl k | exact fun _ k => mp_of rfl k | exact fun _ k => mp_of rfl (mp_to rfl k)) (fun h k => sat_pick 0 rfl (fun _ k => vec_of rfl k) (fun h k => sat_pick 0 rfl (by first | exact fun _ k => k | exact fun _ k => blk_to rfl rfl k | exact fun _ k => vec_to rfl k | exact fun _ k => blk_of rfl rfl k | exact fun _ k => vec_of rfl k | exact fun _ k => blk_of rfl rfl (blk_to rfl rfl k) | exact fun _ k => vec_of rfl (vec_to rfl k) | exact fun _ k => mp_to rfl k | exact fun _ k => mp_of rfl k | exact fun _ k => mp_of rfl (mp_to rfl k)) (fun h k => sat_pick 0 rfl (by first | exact fun _ k => k | exact fun _ k => blk_to rfl rfl k | exact fun _ k => vec_to rfl k | exact fun _ k => blk_of rfl rfl k | exact fun _ k => vec_of rfl k | exact fun _ k => blk_of rfl rfl (blk_to rfl rfl k) | exact fun _ k => vec_of rfl (vec_to rfl k) | exact fun _ k => mp_to rfl k | exact fun _ k => mp_of rfl k | exact fun _ k => mp_of rfl (mp_to rfl k)) (fun h k => sat_nil k) k) k) k) k) (fun f hR => ?_)
  refine RdRaw.told (.sl 0 0 H.length cap) _ rfl (fun h k => sat_cell 0 rfl (fun x kx => hd_sl x kx) k) ?_
  refine StRaw.on 3 (EnA (e, (H.length : Int))) [.int .i64 H.length] rfl rfl (fun y ky => en_store y ky) ?_
  refine RdRaw.told (.sl 0 0 H.length cap) _ rfl (fun h k => sat_cell 0 rfl (fun x kx => hd_sl x kx) k) ?_
  intro b6
  have hF := lP H
  refine StOb.mk [e.ptr] rfl (Need.mk rfl ?_)
  refine Need.mk ⟨by rw [hF]; omega, by omega, hc⟩ ?_
  refine Need.mk ⟨by omega, by simp only [maxLen]; omega, fun v hv => by simp at hv; subst hv; rfl⟩ ?_
  refine NewSl.pos (by omega) (fun b7 o7 c7 hc7 => ?_)
  have hln : (H ++ [e]).length = H.length + 1 := by simp
  refine StRaw.on 2 (Hd b ⟨most, no, .at b7 o7, c7, mb⟩ (H.length + 1)) [.slice (some ⟨b7, o7, none⟩) (H.length + 1) c7] rfl rfl (fun y ky => hd_store (g := ⟨most, no, pl, cap, mb⟩) (pl' := .at b7 o7) (cap' := c7) y ky) ?_
  refine FinOb.mk [] (Hp b ⟨most, no, .at b7 o7, c7, mb⟩ (H ++ [e])) rfl (fun h k => sat_pick 2 rfl (fun _ k => by rw [hln]; exact k) (fun h k => sat_pick 0 rfl (fun _ k => ?_) (fun h k => sat_pick2 2 1 rfl rfl (fun h k => es_snoc h k) (fun h k => sat_nil k) k) k) k) ⟨.at b7 o7, c7, rfl, hc7, rfl⟩
  have kk := vec_to (l := .at b7 o7) rfl k
  rw [List.drop_zero, List.take_of_length_le (by rw [hF]; omega)] at kk
  unfold HV
  rw [PL.flat_append, PL.flat_one]
  exact kk
theorem ppop_spec (b : Nat) (g : Ag) (H : List En) (e : En) (hl : H.length ≤ 100000) (hc : H.length ≤ g.cap) :
    Does Try.prog 188 #[pp b] (fun _ => True) (Hp b g (H ++ [e])) (fun v p => v = .iface 163 e.ptr ∧ p = Hp b g H) := by
  have hln : (H ++ [e]).length = H.length + 1 := by simp
  obtain ⟨most, no, pl, cap, mb⟩ := g
  refine Does.presure (φ := ∃ c o, pl = .at c o) Try.call188 (fun h k => hp_at (by omega) k) (fun hpl => ?_)
  obtain ⟨vb, vo, rfl⟩ := hpl
  refine Does.ofJ Try.func188 Try.call188 rfl [.raw (pp b)] [(0, .at vb vo)] 1 [.asn (Hd b ⟨most, no, .at vb vo, cap, mb⟩ (H.length + 1)), .vec 0 163 1 cap (PL.flat (H ++ [e])), .asn (Es (H ++ [e]))] rfl rfl (fun h k => sat_pick 0 rfl (fun _ k => by rw [hln] at k; exact k) (fun h k => sat_pick 0 rfl (fun _ k => vec_of rfl k) (fun h k => sat_pick 0 rfl (by first | exact fun _ k => k | exact fun _ k => blk_to rfl rfl k | exact fun _ k => vec_to rfl k | exact fun _ k => blk_of rfl rfl k | exact fun _ k => vec_of rfl k | exact fun _ k => blk_of rfl rfl (blk_to rfl rfl k) | exact fun _ k => vec_of rfl (vec_to rfl k) | exact fun _ k => mp_to rfl k | exact fun _ k => mp_of rfl k | exact fun _ k => mp_of rfl (mp_to rfl k)) (fun h k => sat_nil k) k) k) k) (fun f hR => ?_)
  have e1 : IntKind.i64.wrap (((H.length + 1 : Nat) : Int) - 1) = (H.length : Nat) := by rw [w64 (by omega) (by omega)]; omega
  refine DrawOb.mk [] (.run [0, 1, 2, 3, 4, 5, 6, 7, 8, 9, 10, 11, 12] .nil) (by kernel_rfl) ?_
  refine RdRaw.told (.sl 0 0 (H.length + 1) cap) _ rfl (fun h k => sat_cell 0 rfl (fun x kx => hd_sl x kx) k) ?_
  refine RdRaw.told (.sl 0 0 (H.length + 1) cap) _ rfl (fun h k => sat_cell 0 rfl (fun x kx => hd_sl x kx) k) ?_
  refine Need.mk (by rw [e1]; omega) ?_
  refine RdOb.mk (.raw e.ptr) _ rfl (by rw [e1, Int.toNat_natCast, Nat.zero_add]; exact PL.flat_at (a := e) (j := 0) (by simp) rfl) ?_
  refine DrawOb.mk [] (.run [0, 1, 2, 3, 4, 5, 6, 7, 8, 9, 10, 11, 12, 13, 14] .nil) (by kernel_rfl) ?_
  refine RdRaw.told (.sl 0 0 (H.length + 1) cap) _ rfl (fun h k => sat_cell 0 rfl (fun x kx => hd_sl x kx) k) ?_
  refine RdRaw.told (.sl 0 0 (H.length + 1) cap) _ rfl (fun h k => sat_cell 0 rfl (fun x kx => hd_sl x kx) k) ?_
  refine Need.mk (by rw [e1]; have hc : H.length ≤ cap := hc; omega) ?_
  refine StRaw.on 0 (Hd b ⟨most, no, .at vb vo, cap, mb⟩ H.length) [.slice (locAddr 0 (.at vb vo)) H.length cap] (by rw [e1]; rfl) rfl (fun y ky => hd_store (g := ⟨most, no, .at vb vo, cap, mb⟩) (pl' := .at vb vo) (cap' := cap) y ky) ?_
  refine FinOb.mk [.iface 163 e.ptr] (Hp b ⟨most, no, .at vb vo, cap, mb⟩ H) rfl (fun h k => sat_pick 0 rfl (by first | exact fun _ k => k | exact fun _ k => blk_to rfl rfl k | exact fun _ k => vec_to rfl k | exact fun _ k => blk_of rfl rfl k | exact fun _ k => vec_of rfl k | exact fun _ k => blk_of rfl rfl (blk_to rfl rfl k) | exact fun _ k => vec_of rfl (vec_to rfl k) | exact fun _ k => mp_to rfl k | exact fun _ k => mp_of rfl k | exact fun _ k => mp_of rfl (mp_to rfl k)) (fun h k => sat_pick 0 rfl (fun _ k => ?_) (fun h k => sat_pick 0 rfl (fun h k => ?_) (fun h k => sat_nil k) k) k) k) ⟨rfl, rfl⟩
  · have kk := vec_to (l := .at vb vo) rfl k
    rw [PL.flat_append] at kk
    exact vec_cut kk
  · have e1 : (withI (H ++ [e])).map EnA = (withI H).map EnA ++ [EnA (e, (H.length : Int))] := by
      unfold withI
      rw [List.zipIdx_append, List.map_append, List.map_append]
      simp
    have k2 : sat ((withI (H ++ [e])).map EnA) h := k
    rw [e1] at k2
    obtain ⟨x, y, s, hx, _⟩ := sat_append k2
    exact sat_more s.comm hx
end Go.Proofs.Ytiknkeakielncaa.Ag
