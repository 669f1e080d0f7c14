/- script: an entry. Conditions: none. -/
import Derived.Test.YtlgdagjbphafcaaScC
namespace Go.Proofs.Ytlgdagjbphafcaa.Sc
open Go Go.Proofs Sx
set_option maxRecDepth 100000
set_option linter.unusedVariables false
set_option linter.unusedSimpArgs false
set_option maxHeartbeats 4000000

structure Sq where
  op : Int
  fl : Int
  fd : Int
  addr : Int := 0
  port : Int := 0
  len : Int := 0
  group : Int := 0
  count : Int := 0
  aux : Int := 0
  user : Int
  data : List Int := []
def Sq.vals (q : Sq) (D : Option Addr) (d : Nat) : List Value := [.int .u8 q.op, .int .u8 q.fl, .int .i64 q.fd, .int .u32 q.addr, .int .u16 q.port, .int .i64 q.len, .int .i64 q.group, .int .i64 q.count, .int .u64 q.aux, .int .u64 q.user, .slice D q.data.length d]
def many (n : Int) (k : Nat) : List Int := (List.range k).map (fun i => (n + (i : Nat)) % 256)
def entN (op : Int) : Nat := if op = 4 then 6 else if op = 0 ∨ op = 5 ∨ op = 8 ∨ op = 9 then 4 else 5
def ent (L : List Int) (p : Nat) : Sq :=
  let op := L.getD p 0 % 14
  let u := L.getD (p + 4) 0
  let q : Sq := { op := op, fl := flg op (L.getD (p + 1) 0), fd := L.getD (p + 2) 0 % 8, user := L.getD (p + 3) 0 }
  if op = 1 then { q with count := 1 + u % 2 } else
  if op = 2 then { q with port := u } else
  if op = 3 then { q with count := 1 + u % 4 } else
  if op = 4 then { q with addr := 167772161 + u % 3, port := L.getD (p + 5) 0 } else
  if op = 6 then { q with data := many u (u % 64).toNat } else
  if op = 7 then { q with len := u + 1, group := u % 2 } else
  if op = 10 ∨ op = 11 ∨ op = 12 then { q with aux := u } else
  if op = 13 then { q with group := u % 2, count := 1 + u / 4 % 4, len := 32 } else q
theorem byte {L : List Int} (hb : ∀ x ∈ L, 0 ≤ x ∧ x ≤ 255) (i : Nat) : 0 ≤ L.getD i 0 ∧ L.getD i 0 ≤ 255 := by
  rw [List.getD_eq_getElem?_getD]
  cases h : L[i]? with
  | none => simp
  | some x => simpa using hb x (List.mem_of_getElem? h)
theorem entry_spec (b : Nat) (A : Option Addr) (c : Nat) (L : List Int) (p : Nat) (hc : L.length ≤ c) (hb : ∀ x ∈ L, 0 ≤ x ∧ x ≤ 255) :
    Does Try.prog 94 #[.pointer (some ⟨b, 0, none⟩)] (fun f => Reads f A (U8.flat L)) [rdr b A c L p]
      (fun v q => ∃ pd cd, v = .agg ((ent L p).vals (locAddr 0 pd) cd).toArray ∧ q = [rdr b A c L (p + entN (ent L p).op), Vec pd 5 1 cd (U8.flat (ent L p).data)]) := by
  refine Does.of Try.func94 Try.call94 rfl [.ptr 0 0] [(0, .at b 0)] 1 [.asn (rdr b A c L p)] rfl rfl (fun h k => sat_pick 0 rfl (by first | exact fun _ k => k | exact fun _ k => blk_to rfl rfl k | exact fun _ k => vec_to rfl k | exact fun _ k => blk_of rfl rfl k | exact fun _ k => vec_of rfl k | exact fun _ k => blk_of rfl rfl (blk_to rfl rfl k) | exact fun _ k => vec_of rfl (vec_to rfl k) | exact fun _ k => mp_to rfl k | exact fun _ k => mp_of rfl k | exact fun _ k => mp_of rfl (mp_to rfl k)) (fun h k => sat_nil k) k) (fun f hA => ?_)
  intro b1
  refine call_ix (next_spec b A c L (p) hc hb) rfl [1] (fun h k => sat_pick 1 rfl (by first | exact fun _ k => k | exact fun _ k => blk_to rfl rfl k | exact fun _ k => vec_to rfl k | exact fun _ k => blk_of rfl rfl k | exact fun _ k => vec_of rfl k | exact fun _ k => blk_of rfl rfl (blk_to rfl rfl k) | exact fun _ k => vec_of rfl (vec_to rfl k) | exact fun _ k => mp_to rfl k | exact fun _ k => mp_of rfl k | exact fun _ k => mp_of rfl (mp_to rfl k)) (fun h k => sat_pick 0 rfl (by first | exact fun _ k => k | exact fun _ k => blk_to rfl rfl k | exact fun _ k => vec_to rfl k | exact fun _ k => blk_of rfl rfl k | exact fun _ k => vec_of rfl k | exact fun _ k => blk_of rfl rfl (blk_to rfl rfl k) | exact fun _ k => vec_of rfl (vec_to rfl k) | exact fun _ k => mp_to rfl k | exact fun _ k => mp_of rfl k | exact fun _ k => mp_of rfl (mp_to rfl k)) (fun h k => sat_nil k) k) k) (fun f' b' hs _ => hA.frame hs) ?_
  rintro v post ⟨rfl, rfl⟩
  refine ⟨.int .i64 (L.getD (p) 0), _, 2, [.asn _], NmExt.refl _, rfl, (fun h k => sat_pick 0 rfl (by first | exact fun _ k => k | exact fun _ k => blk_to rfl rfl k | exact fun _ k => vec_to rfl k | exact fun _ k => blk_of rfl rfl k | exact fun _ k => vec_of rfl k | exact fun _ k => blk_of rfl rfl (blk_to rfl rfl k) | exact fun _ k => vec_of rfl (vec_to rfl k) | exact fun _ k => mp_to rfl k | exact fun _ k => mp_of rfl k | exact fun _ k => mp_of rfl (mp_to rfl k)) (fun h k => sat_nil k) k), ?_⟩
  refine Need.mk (by decide) ?_
  intro b2
  have u0 := byte hb p
  have e0 : IntKind.u8.wrap ((L.getD p 0).tmod 14) = L.getD p 0 % 14 := by rw [Int.tmod_eq_emod_of_nonneg u0.1, w8 (by omega) (by omega)]
  refine DrawOb.mk [(2, [0])] (.run [0, 1, 2, 3, 4, 5] .nil) (by kernel_rfl) ?_
  refine call_ix (next_spec b A c L (p + 1) hc hb) rfl [1] (fun h k => sat_pick 1 rfl (by first | exact fun _ k => k | exact fun _ k => blk_to rfl rfl k | exact fun _ k => vec_to rfl k | exact fun _ k => blk_of rfl rfl k | exact fun _ k => vec_of rfl k | exact fun _ k => blk_of rfl rfl (blk_to rfl rfl k) | exact fun _ k => vec_of rfl (vec_to rfl k) | exact fun _ k => mp_to rfl k | exact fun _ k => mp_of rfl k | exact fun _ k => mp_of rfl (mp_to rfl k)) (fun h k => sat_pick 0 rfl (by first | exact fun _ k => k | exact fun _ k => blk_to rfl rfl k | exact fun _ k => vec_to rfl k | exact fun _ k => blk_of rfl rfl k | exact fun _ k => vec_of rfl k | exact fun _ k => blk_of rfl rfl (blk_to rfl rfl k) | exact fun _ k => vec_of rfl (vec_to rfl k) | exact fun _ k => mp_to rfl k | exact fun _ k => mp_of rfl k | exact fun _ k => mp_of rfl (mp_to rfl k)) (fun h k => sat_pick 0 rfl (by first | exact fun _ k => k | exact fun _ k => blk_to rfl rfl k | exact fun _ k => vec_to rfl k | exact fun _ k => blk_of rfl rfl k | exact fun _ k => vec_of rfl k | exact fun _ k => blk_of rfl rfl (blk_to rfl rfl k) | exact fun _ k => vec_of rfl (vec_to rfl k) | exact fun _ k => mp_to rfl k | exact fun _ k => mp_of rfl k | exact fun _ k => mp_of rfl (mp_to rfl k)) (fun h k => sat_nil k) k) k) k) (fun f' b' hs _ => hA.frame hs) ?_
  rintro v post ⟨rfl, rfl⟩
  refine ⟨.int .i64 (L.getD (p + 1) 0), _, 3, [.asn _], NmExt.refl _, rfl, (fun h k => sat_pick 0 rfl (by first | exact fun _ k => k | exact fun _ k => blk_to rfl rfl k | exact fun _ k => vec_to rfl k | exact fun _ k => blk_of rfl rfl k | exact fun _ k => vec_of rfl k | exact fun _ k => blk_of rfl rfl (blk_to rfl rfl k) | exact fun _ k => vec_of rfl (vec_to rfl k) | exact fun _ k => mp_to rfl k | exact fun _ k => mp_of rfl k | exact fun _ k => mp_of rfl (mp_to rfl k)) (fun h k => sat_nil k) k), ?_⟩
  refine Need.mk rfl ?_
  have u1 := byte hb (p + 1)
  refine useP (.int .u8 _) (flags_spec (IntKind.u8.wrap ((L.getD p 0).tmod 14)) (L.getD (p + 1) 0) (by rw [e0]; omega) (by rw [e0]; omega) u1.1 u1.2) rfl rfl ?_
  refine call_ix (next_spec b A c L (p + 2) hc hb) rfl [1] (fun h k => sat_pick 1 rfl (by first | exact fun _ k => k | exact fun _ k => blk_to rfl rfl k | exact fun _ k => vec_to rfl k | exact fun _ k => blk_of rfl rfl k | exact fun _ k => vec_of rfl k | exact fun _ k => blk_of rfl rfl (blk_to rfl rfl k) | exact fun _ k => vec_of rfl (vec_to rfl k) | exact fun _ k => mp_to rfl k | exact fun _ k => mp_of rfl k | exact fun _ k => mp_of rfl (mp_to rfl k)) (fun h k => sat_pick 0 rfl (by first | exact fun _ k => k | exact fun _ k => blk_to rfl rfl k | exact fun _ k => vec_to rfl k | exact fun _ k => blk_of rfl rfl k | exact fun _ k => vec_of rfl k | exact fun _ k => blk_of rfl rfl (blk_to rfl rfl k) | exact fun _ k => vec_of rfl (vec_to rfl k) | exact fun _ k => mp_to rfl k | exact fun _ k => mp_of rfl k | exact fun _ k => mp_of rfl (mp_to rfl k)) (fun h k => sat_pick 0 rfl (by first | exact fun _ k => k | exact fun _ k => blk_to rfl rfl k | exact fun _ k => vec_to rfl k | exact fun _ k => blk_of rfl rfl k | exact fun _ k => vec_of rfl k | exact fun _ k => blk_of rfl rfl (blk_to rfl rfl k) | exact fun _ k => vec_of rfl (vec_to rfl k) | exact fun _ k => mp_to rfl k | exact fun _ k => mp_of rfl k | exact fun _ k => mp_of rfl (mp_to rfl k)) (fun h k => sat_nil k) k) k) k) (fun f' b' hs _ => hA.frame hs) ?_
  rintro v post ⟨rfl, rfl⟩
  refine ⟨.int .i64 (L.getD (p + 2) 0), _, 3, [.asn _], NmExt.refl _, rfl, (fun h k => sat_pick 0 rfl (by first | exact fun _ k => k | exact fun _ k => blk_to rfl rfl k | exact fun _ k => vec_to rfl k | exact fun _ k => blk_of rfl rfl k | exact fun _ k => vec_of rfl k | exact fun _ k => blk_of rfl rfl (blk_to rfl rfl k) | exact fun _ k => vec_of rfl (vec_to rfl k) | exact fun _ k => mp_to rfl k | exact fun _ k => mp_of rfl k | exact fun _ k => mp_of rfl (mp_to rfl k)) (fun h k => sat_nil k) k), ?_⟩
  refine Need.mk (by decide) ?_
  refine call_ix (next_spec b A c L (p + 3) hc hb) rfl [1] (fun h k => sat_pick 1 rfl (by first | exact fun _ k => k | exact fun _ k => blk_to rfl rfl k | exact fun _ k => vec_to rfl k | exact fun _ k => blk_of rfl rfl k | exact fun _ k => vec_of rfl k | exact fun _ k => blk_of rfl rfl (blk_to rfl rfl k) | exact fun _ k => vec_of rfl (vec_to rfl k) | exact fun _ k => mp_to rfl k | exact fun _ k => mp_of rfl k | exact fun _ k => mp_of rfl (mp_to rfl k)) (fun h k => sat_pick 0 rfl (by first | exact fun _ k => k | exact fun _ k => blk_to rfl rfl k | exact fun _ k => vec_to rfl k | exact fun _ k => blk_of rfl rfl k | exact fun _ k => vec_of rfl k | exact fun _ k => blk_of rfl rfl (blk_to rfl rfl k) | exact fun _ k => vec_of rfl (vec_to rfl k) | exact fun _ k => mp_to rfl k | exact fun _ k => mp_of rfl k | exact fun _ k => mp_of rfl (mp_to rfl k)) (fun h k => sat_pick 0 rfl (by first | exact fun _ k => k | exact fun _ k => blk_to rfl rfl k | exact fun _ k => vec_to rfl k | exact fun _ k => blk_of rfl rfl k | exact fun _ k => vec_of rfl k | exact fun _ k => blk_of rfl rfl (blk_to rfl rfl k) | exact fun _ k => vec_of rfl (vec_to rfl k) | exact fun _ k => mp_to rfl k | exact fun _ k => mp_of rfl k | exact fun _ k => mp_of rfl (mp_to rfl k)) (fun h k => sat_nil k) k) k) k) (fun f' b' hs _ => hA.frame hs) ?_
  rintro v post ⟨rfl, rfl⟩
  refine ⟨.int .i64 (L.getD (p + 3) 0), _, 3, [.asn _], NmExt.refl _, rfl, (fun h k => sat_pick 0 rfl (by first | exact fun _ k => k | exact fun _ k => blk_to rfl rfl k | exact fun _ k => vec_to rfl k | exact fun _ k => blk_of rfl rfl k | exact fun _ k => vec_of rfl k | exact fun _ k => blk_of rfl rfl (blk_to rfl rfl k) | exact fun _ k => vec_of rfl (vec_to rfl k) | exact fun _ k => mp_to rfl k | exact fun _ k => mp_of rfl k | exact fun _ k => mp_of rfl (mp_to rfl k)) (fun h k => sat_nil k) k), ?_⟩
  have u2 := byte hb (p + 2)
  have u3 := byte hb (p + 3)
  have u4 := byte hb (p + 4)
  have u5 := byte hb (p + 5)
  have e2 : (L.getD (p + 2) 0).tmod 8 = L.getD (p + 2) 0 % 8 := Int.tmod_eq_emod_of_nonneg u2.1
  have e3 : IntKind.u64.wrap (L.getD (p + 3) 0) = L.getD (p + 3) 0 := wu64 (by omega) (by omega)
  have et : ∀ k : Int, (L.getD (p + 4) 0).tmod k = L.getD (p + 4) 0 % k := fun k => Int.tmod_eq_emod_of_nonneg u4.1
  have ed : (L.getD (p + 4) 0).tdiv 4 = L.getD (p + 4) 0 / 4 := Int.tdiv_eq_ediv_of_nonneg u4.1
  have hE : ∀ k : Int, (IntKind.u8.wrap ((L.getD p 0).tmod 14) == k) = true → L.getD p 0 % 14 = k := fun k h => by rw [e0] at h; simpa using h
  have hN : ∀ k : Int, (IntKind.u8.wrap ((L.getD p 0).tmod 14) == k) = false → L.getD p 0 % 14 ≠ k := fun k h => by rw [e0] at h; simpa using h
  refine CondOb.split (fun g => ?_) (fun g1 => ?_)
  · have g := hE _ g
    refine call_ix (next_spec b A c L (p + 4) hc hb) rfl [1] (fun h k => sat_pick 1 rfl (by first | exact fun _ k => k | exact fun _ k => blk_to rfl rfl k | exact fun _ k => vec_to rfl k | exact fun _ k => blk_of rfl rfl k | exact fun _ k => vec_of rfl k | exact fun _ k => blk_of rfl rfl (blk_to rfl rfl k) | exact fun _ k => vec_of rfl (vec_to rfl k) | exact fun _ k => mp_to rfl k | exact fun _ k => mp_of rfl k | exact fun _ k => mp_of rfl (mp_to rfl k)) (fun h k => sat_pick 0 rfl (by first | exact fun _ k => k | exact fun _ k => blk_to rfl rfl k | exact fun _ k => vec_to rfl k | exact fun _ k => blk_of rfl rfl k | exact fun _ k => vec_of rfl k | exact fun _ k => blk_of rfl rfl (blk_to rfl rfl k) | exact fun _ k => vec_of rfl (vec_to rfl k) | exact fun _ k => mp_to rfl k | exact fun _ k => mp_of rfl k | exact fun _ k => mp_of rfl (mp_to rfl k)) (fun h k => sat_pick 0 rfl (by first | exact fun _ k => k | exact fun _ k => blk_to rfl rfl k | exact fun _ k => vec_to rfl k | exact fun _ k => blk_of rfl rfl k | exact fun _ k => vec_of rfl k | exact fun _ k => blk_of rfl rfl (blk_to rfl rfl k) | exact fun _ k => vec_of rfl (vec_to rfl k) | exact fun _ k => mp_to rfl k | exact fun _ k => mp_of rfl k | exact fun _ k => mp_of rfl (mp_to rfl k)) (fun h k => sat_nil k) k) k) k) (fun f' b' hs _ => hA.frame hs) ?_
    rintro v post ⟨rfl, rfl⟩
    refine ⟨.int .i64 (L.getD (p + 4) 0), _, 3, [.asn _], NmExt.refl _, rfl, (fun h k => sat_pick 0 rfl (by first | exact fun _ k => k | exact fun _ k => blk_to rfl rfl k | exact fun _ k => vec_to rfl k | exact fun _ k => blk_of rfl rfl k | exact fun _ k => vec_of rfl k | exact fun _ k => blk_of rfl rfl (blk_to rfl rfl k) | exact fun _ k => vec_of rfl (vec_to rfl k) | exact fun _ k => mp_to rfl k | exact fun _ k => mp_of rfl k | exact fun _ k => mp_of rfl (mp_to rfl k)) (fun h k => sat_nil k) k), ?_⟩
    refine Need.mk (by decide) ?_
    have ec : IntKind.i64.wrap (1 + L.getD (p + 4) 0 % 2) = 1 + L.getD (p + 4) 0 % 2 := w64 (by omega) (by omega)
    have hq : ent L p = { op := 1, fl := flg 1 (L.getD (p + 1) 0), fd := L.getD (p + 2) 0 % 8, user := L.getD (p + 3) 0, count := 1 + L.getD (p + 4) 0 % 2 } := by simp [ent, g, -List.getD_eq_getElem?_getD]
    refine FinOb.mk _ [rdr b A c L (p + 5), Vec .nil 5 1 0 []] rfl (fun h k => sat_pick 2 rfl (by first | exact fun _ k => k | exact fun _ k => blk_to rfl rfl k | exact fun _ k => vec_to rfl k | exact fun _ k => blk_of rfl rfl k | exact fun _ k => vec_of rfl k | exact fun _ k => blk_of rfl rfl (blk_to rfl rfl k) | exact fun _ k => vec_of rfl (vec_to rfl k) | exact fun _ k => mp_to rfl k | exact fun _ k => mp_of rfl k | exact fun _ k => mp_of rfl (mp_to rfl k)) (fun h k => sat_add vec_emp ((fun h k => sat_nil k) h k)) k) ⟨.nil, 0, ?_, by rw [hq]; rfl⟩
    rw [hq]
    simp only [e0, g, e2, e3, et, ec, ret1, Sq.vals]
    rfl
  have g1 := hN _ g1
  refine CondOb.split (fun g => ?_) (fun g2 => ?_)
  · have g := hE _ g
    refine call_ix (next_spec b A c L (p + 4) hc hb) rfl [1] (fun h k => sat_pick 1 rfl (by first | exact fun _ k => k | exact fun _ k => blk_to rfl rfl k | exact fun _ k => vec_to rfl k | exact fun _ k => blk_of rfl rfl k | exact fun _ k => vec_of rfl k | exact fun _ k => blk_of rfl rfl (blk_to rfl rfl k) | exact fun _ k => vec_of rfl (vec_to rfl k) | exact fun _ k => mp_to rfl k | exact fun _ k => mp_of rfl k | exact fun _ k => mp_of rfl (mp_to rfl k)) (fun h k => sat_pick 0 rfl (by first | exact fun _ k => k | exact fun _ k => blk_to rfl rfl k | exact fun _ k => vec_to rfl k | exact fun _ k => blk_of rfl rfl k | exact fun _ k => vec_of rfl k | exact fun _ k => blk_of rfl rfl (blk_to rfl rfl k) | exact fun _ k => vec_of rfl (vec_to rfl k) | exact fun _ k => mp_to rfl k | exact fun _ k => mp_of rfl k | exact fun _ k => mp_of rfl (mp_to rfl k)) (fun h k => sat_pick 0 rfl (by first | exact fun _ k => k | exact fun _ k => blk_to rfl rfl k | exact fun _ k => vec_to rfl k | exact fun _ k => blk_of rfl rfl k | exact fun _ k => vec_of rfl k | exact fun _ k => blk_of rfl rfl (blk_to rfl rfl k) | exact fun _ k => vec_of rfl (vec_to rfl k) | exact fun _ k => mp_to rfl k | exact fun _ k => mp_of rfl k | exact fun _ k => mp_of rfl (mp_to rfl k)) (fun h k => sat_nil k) k) k) k) (fun f' b' hs _ => hA.frame hs) ?_
    rintro v post ⟨rfl, rfl⟩
    refine ⟨.int .i64 (L.getD (p + 4) 0), _, 3, [.asn _], NmExt.refl _, rfl, (fun h k => sat_pick 0 rfl (by first | exact fun _ k => k | exact fun _ k => blk_to rfl rfl k | exact fun _ k => vec_to rfl k | exact fun _ k => blk_of rfl rfl k | exact fun _ k => vec_of rfl k | exact fun _ k => blk_of rfl rfl (blk_to rfl rfl k) | exact fun _ k => vec_of rfl (vec_to rfl k) | exact fun _ k => mp_to rfl k | exact fun _ k => mp_of rfl k | exact fun _ k => mp_of rfl (mp_to rfl k)) (fun h k => sat_nil k) k), ?_⟩
    have ec : IntKind.u16.wrap (L.getD (p + 4) 0) = L.getD (p + 4) 0 := w16 (by omega) (by omega)
    have hq : ent L p = { op := 2, fl := flg 2 (L.getD (p + 1) 0), fd := L.getD (p + 2) 0 % 8, user := L.getD (p + 3) 0, port := L.getD (p + 4) 0 } := by simp [ent, g, -List.getD_eq_getElem?_getD]
    refine FinOb.mk _ [rdr b A c L (p + 5), Vec .nil 5 1 0 []] rfl (fun h k => sat_pick 2 rfl (by first | exact fun _ k => k | exact fun _ k => blk_to rfl rfl k | exact fun _ k => vec_to rfl k | exact fun _ k => blk_of rfl rfl k | exact fun _ k => vec_of rfl k | exact fun _ k => blk_of rfl rfl (blk_to rfl rfl k) | exact fun _ k => vec_of rfl (vec_to rfl k) | exact fun _ k => mp_to rfl k | exact fun _ k => mp_of rfl k | exact fun _ k => mp_of rfl (mp_to rfl k)) (fun h k => sat_add vec_emp ((fun h k => sat_nil k) h k)) k) ⟨.nil, 0, ?_, by rw [hq]; rfl⟩
    rw [hq]
    simp only [e0, g, e2, e3, ec, ret1, Sq.vals]
    rfl
  have g2 := hN _ g2
  refine CondOb.split (fun g => ?_) (fun g3 => ?_)
  · have g := hE _ g
    refine call_ix (next_spec b A c L (p + 4) hc hb) rfl [1] (fun h k => sat_pick 1 rfl (by first | exact fun _ k => k | exact fun _ k => blk_to rfl rfl k | exact fun _ k => vec_to rfl k | exact fun _ k => blk_of rfl rfl k | exact fun _ k => vec_of rfl k | exact fun _ k => blk_of rfl rfl (blk_to rfl rfl k) | exact fun _ k => vec_of rfl (vec_to rfl k) | exact fun _ k => mp_to rfl k | exact fun _ k => mp_of rfl k | exact fun _ k => mp_of rfl (mp_to rfl k)) (fun h k => sat_pick 0 rfl (by first | exact fun _ k => k | exact fun _ k => blk_to rfl rfl k | exact fun _ k => vec_to rfl k | exact fun _ k => blk_of rfl rfl k | exact fun _ k => vec_of rfl k | exact fun _ k => blk_of rfl rfl (blk_to rfl rfl k) | exact fun _ k => vec_of rfl (vec_to rfl k) | exact fun _ k => mp_to rfl k | exact fun _ k => mp_of rfl k | exact fun _ k => mp_of rfl (mp_to rfl k)) (fun h k => sat_pick 0 rfl (by first | exact fun _ k => k | exact fun _ k => blk_to rfl rfl k | exact fun _ k => vec_to rfl k | exact fun _ k => blk_of rfl rfl k | exact fun _ k => vec_of rfl k | exact fun _ k => blk_of rfl rfl (blk_to rfl rfl k) | exact fun _ k => vec_of rfl (vec_to rfl k) | exact fun _ k => mp_to rfl k | exact fun _ k => mp_of rfl k | exact fun _ k => mp_of rfl (mp_to rfl k)) (fun h k => sat_nil k) k) k) k) (fun f' b' hs _ => hA.frame hs) ?_
    rintro v post ⟨rfl, rfl⟩
    refine ⟨.int .i64 (L.getD (p + 4) 0), _, 3, [.asn _], NmExt.refl _, rfl, (fun h k => sat_pick 0 rfl (by first | exact fun _ k => k | exact fun _ k => blk_to rfl rfl k | exact fun _ k => vec_to rfl k | exact fun _ k => blk_of rfl rfl k | exact fun _ k => vec_of rfl k | exact fun _ k => blk_of rfl rfl (blk_to rfl rfl k) | exact fun _ k => vec_of rfl (vec_to rfl k) | exact fun _ k => mp_to rfl k | exact fun _ k => mp_of rfl k | exact fun _ k => mp_of rfl (mp_to rfl k)) (fun h k => sat_nil k) k), ?_⟩
    refine Need.mk (by decide) ?_
    have ec : IntKind.i64.wrap (1 + L.getD (p + 4) 0 % 4) = 1 + L.getD (p + 4) 0 % 4 := w64 (by omega) (by omega)
    have hq : ent L p = { op := 3, fl := flg 3 (L.getD (p + 1) 0), fd := L.getD (p + 2) 0 % 8, user := L.getD (p + 3) 0, count := 1 + L.getD (p + 4) 0 % 4 } := by simp [ent, g, -List.getD_eq_getElem?_getD]
    refine FinOb.mk _ [rdr b A c L (p + 5), Vec .nil 5 1 0 []] rfl (fun h k => sat_pick 2 rfl (by first | exact fun _ k => k | exact fun _ k => blk_to rfl rfl k | exact fun _ k => vec_to rfl k | exact fun _ k => blk_of rfl rfl k | exact fun _ k => vec_of rfl k | exact fun _ k => blk_of rfl rfl (blk_to rfl rfl k) | exact fun _ k => vec_of rfl (vec_to rfl k) | exact fun _ k => mp_to rfl k | exact fun _ k => mp_of rfl k | exact fun _ k => mp_of rfl (mp_to rfl k)) (fun h k => sat_add vec_emp ((fun h k => sat_nil k) h k)) k) ⟨.nil, 0, ?_, by rw [hq]; rfl⟩
    rw [hq]
    simp only [e0, g, e2, e3, et, ec, ret1, Sq.vals]
    rfl
  have g3 := hN _ g3
  refine CondOb.split (fun g => ?_) (fun g4 => ?_)
  · have g := hE _ g
    refine call_ix (next_spec b A c L (p + 4) hc hb) rfl [1] (fun h k => sat_pick 1 rfl (by first | exact fun _ k => k | exact fun _ k => blk_to rfl rfl k | exact fun _ k => vec_to rfl k | exact fun _ k => blk_of rfl rfl k | exact fun _ k => vec_of rfl k | exact fun _ k => blk_of rfl rfl (blk_to rfl rfl k) | exact fun _ k => vec_of rfl (vec_to rfl k) | exact fun _ k => mp_to rfl k | exact fun _ k => mp_of rfl k | exact fun _ k => mp_of rfl (mp_to rfl k)) (fun h k => sat_pick 0 rfl (by first | exact fun _ k => k | exact fun _ k => blk_to rfl rfl k | exact fun _ k => vec_to rfl k | exact fun _ k => blk_of rfl rfl k | exact fun _ k => vec_of rfl k | exact fun _ k => blk_of rfl rfl (blk_to rfl rfl k) | exact fun _ k => vec_of rfl (vec_to rfl k) | exact fun _ k => mp_to rfl k | exact fun _ k => mp_of rfl k | exact fun _ k => mp_of rfl (mp_to rfl k)) (fun h k => sat_pick 0 rfl (by first | exact fun _ k => k | exact fun _ k => blk_to rfl rfl k | exact fun _ k => vec_to rfl k | exact fun _ k => blk_of rfl rfl k | exact fun _ k => vec_of rfl k | exact fun _ k => blk_of rfl rfl (blk_to rfl rfl k) | exact fun _ k => vec_of rfl (vec_to rfl k) | exact fun _ k => mp_to rfl k | exact fun _ k => mp_of rfl k | exact fun _ k => mp_of rfl (mp_to rfl k)) (fun h k => sat_nil k) k) k) k) (fun f' b' hs _ => hA.frame hs) ?_
    rintro v post ⟨rfl, rfl⟩
    refine ⟨.int .i64 (L.getD (p + 4) 0), _, 3, [.asn _], NmExt.refl _, rfl, (fun h k => sat_pick 0 rfl (by first | exact fun _ k => k | exact fun _ k => blk_to rfl rfl k | exact fun _ k => vec_to rfl k | exact fun _ k => blk_of rfl rfl k | exact fun _ k => vec_of rfl k | exact fun _ k => blk_of rfl rfl (blk_to rfl rfl k) | exact fun _ k => vec_of rfl (vec_to rfl k) | exact fun _ k => mp_to rfl k | exact fun _ k => mp_of rfl k | exact fun _ k => mp_of rfl (mp_to rfl k)) (fun h k => sat_nil k) k), ?_⟩
    refine Need.mk (by decide) ?_
    refine call_ix (next_spec b A c L (p + 5) hc hb) rfl [1] (fun h k => sat_pick 1 rfl (by first | exact fun _ k => k | exact fun _ k => blk_to rfl rfl k | exact fun _ k => vec_to rfl k | exact fun _ k => blk_of rfl rfl k | exact fun _ k => vec_of rfl k | exact fun _ k => blk_of rfl rfl (blk_to rfl rfl k) | exact fun _ k => vec_of rfl (vec_to rfl k) | exact fun _ k => mp_to rfl k | exact fun _ k => mp_of rfl k | exact fun _ k => mp_of rfl (mp_to rfl k)) (fun h k => sat_pick 0 rfl (by first | exact fun _ k => k | exact fun _ k => blk_to rfl rfl k | exact fun _ k => vec_to rfl k | exact fun _ k => blk_of rfl rfl k | exact fun _ k => vec_of rfl k | exact fun _ k => blk_of rfl rfl (blk_to rfl rfl k) | exact fun _ k => vec_of rfl (vec_to rfl k) | exact fun _ k => mp_to rfl k | exact fun _ k => mp_of rfl k | exact fun _ k => mp_of rfl (mp_to rfl k)) (fun h k => sat_pick 0 rfl (by first | exact fun _ k => k | exact fun _ k => blk_to rfl rfl k | exact fun _ k => vec_to rfl k | exact fun _ k => blk_of rfl rfl k | exact fun _ k => vec_of rfl k | exact fun _ k => blk_of rfl rfl (blk_to rfl rfl k) | exact fun _ k => vec_of rfl (vec_to rfl k) | exact fun _ k => mp_to rfl k | exact fun _ k => mp_of rfl k | exact fun _ k => mp_of rfl (mp_to rfl k)) (fun h k => sat_nil k) k) k) k) (fun f' b' hs _ => hA.frame hs) ?_
    rintro v post ⟨rfl, rfl⟩
    refine ⟨.int .i64 (L.getD (p + 5) 0), _, 3, [.asn _], NmExt.refl _, rfl, (fun h k => sat_pick 0 rfl (by first | exact fun _ k => k | exact fun _ k => blk_to rfl rfl k | exact fun _ k => vec_to rfl k | exact fun _ k => blk_of rfl rfl k | exact fun _ k => vec_of rfl k | exact fun _ k => blk_of rfl rfl (blk_to rfl rfl k) | exact fun _ k => vec_of rfl (vec_to rfl k) | exact fun _ k => mp_to rfl k | exact fun _ k => mp_of rfl k | exact fun _ k => mp_of rfl (mp_to rfl k)) (fun h k => sat_nil k) k), ?_⟩
    have ec : IntKind.u32.wrap (IntKind.i64.wrap (167772161 + L.getD (p + 4) 0 % 3)) = 167772161 + L.getD (p + 4) 0 % 3 := by rw [w64 (by omega) (by omega), w32 (by omega) (by omega)]
    have ec5 : IntKind.u16.wrap (L.getD (p + 5) 0) = L.getD (p + 5) 0 := w16 (by omega) (by omega)
    have hq : ent L p = { op := 4, fl := flg 4 (L.getD (p + 1) 0), fd := L.getD (p + 2) 0 % 8, user := L.getD (p + 3) 0, addr := 167772161 + L.getD (p + 4) 0 % 3, port := L.getD (p + 5) 0 } := by simp [ent, g, -List.getD_eq_getElem?_getD]
    refine FinOb.mk _ [rdr b A c L (p + 6), Vec .nil 5 1 0 []] rfl (fun h k => sat_pick 2 rfl (by first | exact fun _ k => k | exact fun _ k => blk_to rfl rfl k | exact fun _ k => vec_to rfl k | exact fun _ k => blk_of rfl rfl k | exact fun _ k => vec_of rfl k | exact fun _ k => blk_of rfl rfl (blk_to rfl rfl k) | exact fun _ k => vec_of rfl (vec_to rfl k) | exact fun _ k => mp_to rfl k | exact fun _ k => mp_of rfl k | exact fun _ k => mp_of rfl (mp_to rfl k)) (fun h k => sat_add vec_emp ((fun h k => sat_nil k) h k)) k) ⟨.nil, 0, ?_, by rw [hq]; rfl⟩
    rw [hq]
    simp only [e0, g, e2, e3, et, ec, ec5, ret1, Sq.vals]
    rfl
  have g4 := hN _ g4
  refine CondOb.split (fun g => ?_) (fun g6 => ?_)
  · have g := hE _ g
    refine call_ix (next_spec b A c L (p + 4) hc hb) rfl [1] (fun h k => sat_pick 1 rfl (by first | exact fun _ k => k | exact fun _ k => blk_to rfl rfl k | exact fun _ k => vec_to rfl k | exact fun _ k => blk_of rfl rfl k | exact fun _ k => vec_of rfl k | exact fun _ k => blk_of rfl rfl (blk_to rfl rfl k) | exact fun _ k => vec_of rfl (vec_to rfl k) | exact fun _ k => mp_to rfl k | exact fun _ k => mp_of rfl k | exact fun _ k => mp_of rfl (mp_to rfl k)) (fun h k => sat_pick 0 rfl (by first | exact fun _ k => k | exact fun _ k => blk_to rfl rfl k | exact fun _ k => vec_to rfl k | exact fun _ k => blk_of rfl rfl k | exact fun _ k => vec_of rfl k | exact fun _ k => blk_of rfl rfl (blk_to rfl rfl k) | exact fun _ k => vec_of rfl (vec_to rfl k) | exact fun _ k => mp_to rfl k | exact fun _ k => mp_of rfl k | exact fun _ k => mp_of rfl (mp_to rfl k)) (fun h k => sat_pick 0 rfl (by first | exact fun _ k => k | exact fun _ k => blk_to rfl rfl k | exact fun _ k => vec_to rfl k | exact fun _ k => blk_of rfl rfl k | exact fun _ k => vec_of rfl k | exact fun _ k => blk_of rfl rfl (blk_to rfl rfl k) | exact fun _ k => vec_of rfl (vec_to rfl k) | exact fun _ k => mp_to rfl k | exact fun _ k => mp_of rfl k | exact fun _ k => mp_of rfl (mp_to rfl k)) (fun h k => sat_nil k) k) k) k) (fun f' b' hs _ => hA.frame hs) ?_
    rintro v post ⟨rfl, rfl⟩
    refine ⟨.int .i64 (L.getD (p + 4) 0), _, 3, [.asn _], NmExt.refl _, rfl, (fun h k => sat_pick 0 rfl (by first | exact fun _ k => k | exact fun _ k => blk_to rfl rfl k | exact fun _ k => vec_to rfl k | exact fun _ k => blk_of rfl rfl k | exact fun _ k => vec_of rfl k | exact fun _ k => blk_of rfl rfl (blk_to rfl rfl k) | exact fun _ k => vec_of rfl (vec_to rfl k) | exact fun _ k => mp_to rfl k | exact fun _ k => mp_of rfl k | exact fun _ k => mp_of rfl (mp_to rfl k)) (fun h k => sat_nil k) k), ?_⟩
    refine Need.mk (by decide) ?_
    have hk : ((L.getD (p + 4) 0 % 64).toNat : Int) = L.getD (p + 4) 0 % 64 := by omega
    generalize hkk : (L.getD (p + 4) 0 % 64).toNat = k at hk
    have hk64 : k < 64 := by omega
    have lm : ∀ i, (many (L.getD (p + 4) 0) i).length = i := fun i => by simp [many]
    have e68 : (L.getD (p + 4) 0).tmod 64 = k := by rw [et, hk]
    refine LoopOb.mk { z : Nat × Plc × Nat // z.1 ≤ k ∧ z.1 ≤ z.2.2 } (fun z => ⟨114, [(2, .ptr 1 0), (4, .ptr 2 0), (5, .int .i64 (L.getD (p + 4) 0)), (68, .int .i64 k), (69, .int .i64 z.1.1)], [(3, z.1.2.1), (2, .at b2 0), (1, .at b1 0), (0, .at b 0)], 4,
      [.blk 2 102 [.int .u8 (IntKind.u8.wrap ((L.getD p 0).tmod 14)), .int .u8 (flg (IntKind.u8.wrap ((L.getD p 0).tmod 14)) (L.getD (p + 1) 0)), .int .i64 ((L.getD (p + 2) 0).tmod 8), .int .u32 0, .int .u16 0, .int .i64 0, .int .i64 0, .int .i64 0, .int .u64 0, .int .u64 (IntKind.u64.wrap (L.getD (p + 3) 0)), .sl 3 0 z.1.1 z.1.2.2], .asn (rdr b A c L (p + 5)),
       .blk 1 102 [.int .u8 0, .int .u8 0, .int .i64 0, .int .u32 0, .int .u16 0, .int .i64 0, .int .i64 0, .int .i64 0, .int .u64 0, .int .u64 0, .nils], .vec 3 5 1 z.1.2.2 (U8.flat (many (L.getD (p + 4) 0) z.1.1))]⟩) (fun z => k - z.1.1) ⟨(0, .nil, 0), by omega, by omega⟩ ?_ ?_
    · exact Le.of rfl ⟨⟨_, rfl, rfl⟩, ⟨_, rfl, rfl⟩, ⟨_, rfl, rfl⟩, ⟨_, rfl, congrArg (fun z => some (Value.int .i64 z)) e68⟩, ⟨_, rfl, rfl⟩, trivial⟩ (fun h k => sat_pick 1 rfl (by first | exact fun _ k => k | exact fun _ k => blk_to rfl rfl k | exact fun _ k => vec_to rfl k | exact fun _ k => blk_of rfl rfl k | exact fun _ k => vec_of rfl k | exact fun _ k => blk_of rfl rfl (blk_to rfl rfl k) | exact fun _ k => vec_of rfl (vec_to rfl k) | exact fun _ k => mp_to rfl k | exact fun _ k => mp_of rfl k | exact fun _ k => mp_of rfl (mp_to rfl k)) (fun h k => sat_pick 0 rfl (by first | exact fun _ k => k | exact fun _ k => blk_to rfl rfl k | exact fun _ k => vec_to rfl k | exact fun _ k => blk_of rfl rfl k | exact fun _ k => vec_of rfl k | exact fun _ k => blk_of rfl rfl (blk_to rfl rfl k) | exact fun _ k => vec_of rfl (vec_to rfl k) | exact fun _ k => mp_to rfl k | exact fun _ k => mp_of rfl k | exact fun _ k => mp_of rfl (mp_to rfl k)) (fun h k => sat_pick 0 rfl (by first | exact fun _ k => k | exact fun _ k => blk_to rfl rfl k | exact fun _ k => vec_to rfl k | exact fun _ k => blk_of rfl rfl k | exact fun _ k => vec_of rfl k | exact fun _ k => blk_of rfl rfl (blk_to rfl rfl k) | exact fun _ k => vec_of rfl (vec_to rfl k) | exact fun _ k => mp_to rfl k | exact fun _ k => mp_of rfl k | exact fun _ k => mp_of rfl (mp_to rfl k)) (fun h k => sat_add (vec_of rfl vec_emp) ((fun h k => sat_nil k) h k)) k) k) k)
    rintro ⟨⟨i, pd, cd⟩, hi, hic⟩
    simp only at hi hic
    refine CondOb.split (fun gl => ?_) (fun gl => ?_)
    rotate_left
    · simp only [decide_eq_false_iff_not] at gl
      replace gl : ¬ (i : Int) < k := gl
      have ei : i = k := by omega
      subst ei
      have hq : ent L p = { op := 6, fl := flg 6 (L.getD (p + 1) 0), fd := L.getD (p + 2) 0 % 8, user := L.getD (p + 3) 0, data := many (L.getD (p + 4) 0) i } := by
        rw [← hkk]; simp [ent, g, -List.getD_eq_getElem?_getD]
      refine FinOb.mk _ [rdr b A c L (p + 5), Vec pd 5 1 cd (U8.flat (many (L.getD (p + 4) 0) i))] rfl (fun h k => sat_pick 2 rfl (by first | exact fun _ k => k | exact fun _ k => blk_to rfl rfl k | exact fun _ k => vec_to rfl k | exact fun _ k => blk_of rfl rfl k | exact fun _ k => vec_of rfl k | exact fun _ k => blk_of rfl rfl (blk_to rfl rfl k) | exact fun _ k => vec_of rfl (vec_to rfl k) | exact fun _ k => mp_to rfl k | exact fun _ k => mp_of rfl k | exact fun _ k => mp_of rfl (mp_to rfl k)) (fun h k => sat_pick 2 rfl (fun _ k => vec_to (l := pd) rfl k) (fun h k => sat_nil k) k) k) ⟨pd, cd, ?_, by rw [hq]; rfl⟩
      rw [hq]
      simp only [e0, g, e2, e3, ret1, Sq.vals, lm]
    simp only [decide_eq_true_eq] at gl
    replace gl : (i : Int) < k := gl
    have ei : IntKind.i64.wrap ((i : Int) + 1) = ((i + 1 : Nat) : Int) := by rw [w64 (by omega) (by omega)]; omega
    have eb : IntKind.u8.wrap (IntKind.i64.wrap (L.getD (p + 4) 0 + i)) = (L.getD (p + 4) 0 + i) % 256 := by rw [w64 (by omega) (by omega), IntKind.wrap_u8]
    intro b9
    refine StOb.mk [.int .u8 (IntKind.u8.wrap (IntKind.i64.wrap (L.getD (p + 4) 0 + i)))] rfl (Need.mk rfl ?_)
    refine Need.mk ⟨by rw [lU, lm]; simp, by simp only; omega, hic⟩ ?_
    refine Need.mk ⟨by simp only; omega, by simp only [maxLen]; omega, fun v hv => by simp at hv; subst hv; rfl⟩ ?_
    refine NewSl.pos (by omega) (fun b10 o10 c10 hc10 => ?_)
    refine ⟨⟨(i + 1, .at b10 o10, c10), by simp only; omega, hc10⟩, by show k - (i + 1) < k - i; omega, Le.of rfl ⟨⟨_, rfl, rfl⟩, ⟨_, rfl, rfl⟩, ⟨_, rfl, rfl⟩, ⟨_, rfl, rfl⟩, ⟨_, rfl, congrArg (fun z => some (Value.int .i64 z)) ei⟩, trivial⟩ (fun h k => sat_pick 0 rfl (by first | exact fun _ k => k | exact fun _ k => blk_to rfl rfl k | exact fun _ k => vec_to rfl k | exact fun _ k => blk_of rfl rfl k | exact fun _ k => vec_of rfl k | exact fun _ k => blk_of rfl rfl (blk_to rfl rfl k) | exact fun _ k => vec_of rfl (vec_to rfl k) | exact fun _ k => mp_to rfl k | exact fun _ k => mp_of rfl k | exact fun _ k => mp_of rfl (mp_to rfl k)) (fun h k => sat_pick 2 rfl (by first | exact fun _ k => k | exact fun _ k => blk_to rfl rfl k | exact fun _ k => vec_to rfl k | exact fun _ k => blk_of rfl rfl k | exact fun _ k => vec_of rfl k | exact fun _ k => blk_of rfl rfl (blk_to rfl rfl k) | exact fun _ k => vec_of rfl (vec_to rfl k) | exact fun _ k => mp_to rfl k | exact fun _ k => mp_of rfl k | exact fun _ k => mp_of rfl (mp_to rfl k)) (fun h k => sat_pick 2 rfl (by first | exact fun _ k => k | exact fun _ k => blk_to rfl rfl k | exact fun _ k => vec_to rfl k | exact fun _ k => blk_of rfl rfl k | exact fun _ k => vec_of rfl k | exact fun _ k => blk_of rfl rfl (blk_to rfl rfl k) | exact fun _ k => vec_of rfl (vec_to rfl k) | exact fun _ k => mp_to rfl k | exact fun _ k => mp_of rfl k | exact fun _ k => mp_of rfl (mp_to rfl k)) (fun h k => sat_pick 0 rfl (fun _ k => ?_) (fun h k => sat_nil k) k) k) k) k)⟩
    have k := vec_to (l := .at b10 o10) rfl k
    refine vec_of rfl ?_
    rw [List.drop_zero, List.take_of_length_le (by rw [lU, lm]; simp), eb] at k
    have e : U8.flat (many (L.getD (p + 4) 0) i) ++ [.int .u8 ((L.getD (p + 4) 0 + i) % 256)] = U8.flat (many (L.getD (p + 4) 0) (i + 1)) := by
      simp only [many, List.range_succ, List.map_append, U8.flat_append]; rfl
    rw [e] at k
    exact k
  have g6 := hN _ g6
  refine CondOb.split (fun g => ?_) (fun g7 => ?_)
  · have g := hE _ g
    refine call_ix (next_spec b A c L (p + 4) hc hb) rfl [1] (fun h k => sat_pick 1 rfl (by first | exact fun _ k => k | exact fun _ k => blk_to rfl rfl k | exact fun _ k => vec_to rfl k | exact fun _ k => blk_of rfl rfl k | exact fun _ k => vec_of rfl k | exact fun _ k => blk_of rfl rfl (blk_to rfl rfl k) | exact fun _ k => vec_of rfl (vec_to rfl k) | exact fun _ k => mp_to rfl k | exact fun _ k => mp_of rfl k | exact fun _ k => mp_of rfl (mp_to rfl k)) (fun h k => sat_pick 0 rfl (by first | exact fun _ k => k | exact fun _ k => blk_to rfl rfl k | exact fun _ k => vec_to rfl k | exact fun _ k => blk_of rfl rfl k | exact fun _ k => vec_of rfl k | exact fun _ k => blk_of rfl rfl (blk_to rfl rfl k) | exact fun _ k => vec_of rfl (vec_to rfl k) | exact fun _ k => mp_to rfl k | exact fun _ k => mp_of rfl k | exact fun _ k => mp_of rfl (mp_to rfl k)) (fun h k => sat_pick 0 rfl (by first | exact fun _ k => k | exact fun _ k => blk_to rfl rfl k | exact fun _ k => vec_to rfl k | exact fun _ k => blk_of rfl rfl k | exact fun _ k => vec_of rfl k | exact fun _ k => blk_of rfl rfl (blk_to rfl rfl k) | exact fun _ k => vec_of rfl (vec_to rfl k) | exact fun _ k => mp_to rfl k | exact fun _ k => mp_of rfl k | exact fun _ k => mp_of rfl (mp_to rfl k)) (fun h k => sat_nil k) k) k) k) (fun f' b' hs _ => hA.frame hs) ?_
    rintro v post ⟨rfl, rfl⟩
    refine ⟨.int .i64 (L.getD (p + 4) 0), _, 3, [.asn _], NmExt.refl _, rfl, (fun h k => sat_pick 0 rfl (by first | exact fun _ k => k | exact fun _ k => blk_to rfl rfl k | exact fun _ k => vec_to rfl k | exact fun _ k => blk_of rfl rfl k | exact fun _ k => vec_of rfl k | exact fun _ k => blk_of rfl rfl (blk_to rfl rfl k) | exact fun _ k => vec_of rfl (vec_to rfl k) | exact fun _ k => mp_to rfl k | exact fun _ k => mp_of rfl k | exact fun _ k => mp_of rfl (mp_to rfl k)) (fun h k => sat_nil k) k), ?_⟩
    refine Need.mk (by decide) ?_
    have ec : IntKind.i64.wrap (L.getD (p + 4) 0 + 1) = L.getD (p + 4) 0 + 1 := w64 (by omega) (by omega)
    have hq : ent L p = { op := 7, fl := flg 7 (L.getD (p + 1) 0), fd := L.getD (p + 2) 0 % 8, user := L.getD (p + 3) 0, len := L.getD (p + 4) 0 + 1, group := L.getD (p + 4) 0 % 2 } := by simp [ent, g, -List.getD_eq_getElem?_getD]
    refine FinOb.mk _ [rdr b A c L (p + 5), Vec .nil 5 1 0 []] rfl (fun h k => sat_pick 2 rfl (by first | exact fun _ k => k | exact fun _ k => blk_to rfl rfl k | exact fun _ k => vec_to rfl k | exact fun _ k => blk_of rfl rfl k | exact fun _ k => vec_of rfl k | exact fun _ k => blk_of rfl rfl (blk_to rfl rfl k) | exact fun _ k => vec_of rfl (vec_to rfl k) | exact fun _ k => mp_to rfl k | exact fun _ k => mp_of rfl k | exact fun _ k => mp_of rfl (mp_to rfl k)) (fun h k => sat_add vec_emp ((fun h k => sat_nil k) h k)) k) ⟨.nil, 0, ?_, by rw [hq]; rfl⟩
    rw [hq]
    simp only [e0, g, e2, e3, et, ec, ret1, Sq.vals]
    rfl
  have g7 := hN _ g7
  have ec : IntKind.u64.wrap (L.getD (p + 4) 0) = L.getD (p + 4) 0 := wu64 (by omega) (by omega)
  refine CondOb.split (fun g => ?_) (fun g10 => ?_)
  · refine CondOb.split (fun _ => ?_) (fun h => absurd g (by rw [h]; decide))
    have g := hE _ g
    refine call_ix (next_spec b A c L (p + 4) hc hb) rfl [1] (fun h k => sat_pick 1 rfl (by first | exact fun _ k => k | exact fun _ k => blk_to rfl rfl k | exact fun _ k => vec_to rfl k | exact fun _ k => blk_of rfl rfl k | exact fun _ k => vec_of rfl k | exact fun _ k => blk_of rfl rfl (blk_to rfl rfl k) | exact fun _ k => vec_of rfl (vec_to rfl k) | exact fun _ k => mp_to rfl k | exact fun _ k => mp_of rfl k | exact fun _ k => mp_of rfl (mp_to rfl k)) (fun h k => sat_pick 0 rfl (by first | exact fun _ k => k | exact fun _ k => blk_to rfl rfl k | exact fun _ k => vec_to rfl k | exact fun _ k => blk_of rfl rfl k | exact fun _ k => vec_of rfl k | exact fun _ k => blk_of rfl rfl (blk_to rfl rfl k) | exact fun _ k => vec_of rfl (vec_to rfl k) | exact fun _ k => mp_to rfl k | exact fun _ k => mp_of rfl k | exact fun _ k => mp_of rfl (mp_to rfl k)) (fun h k => sat_pick 0 rfl (by first | exact fun _ k => k | exact fun _ k => blk_to rfl rfl k | exact fun _ k => vec_to rfl k | exact fun _ k => blk_of rfl rfl k | exact fun _ k => vec_of rfl k | exact fun _ k => blk_of rfl rfl (blk_to rfl rfl k) | exact fun _ k => vec_of rfl (vec_to rfl k) | exact fun _ k => mp_to rfl k | exact fun _ k => mp_of rfl k | exact fun _ k => mp_of rfl (mp_to rfl k)) (fun h k => sat_nil k) k) k) k) (fun f' b' hs _ => hA.frame hs) ?_
    rintro v post ⟨rfl, rfl⟩
    refine ⟨.int .i64 (L.getD (p + 4) 0), _, 3, [.asn _], NmExt.refl _, rfl, (fun h k => sat_pick 0 rfl (by first | exact fun _ k => k | exact fun _ k => blk_to rfl rfl k | exact fun _ k => vec_to rfl k | exact fun _ k => blk_of rfl rfl k | exact fun _ k => vec_of rfl k | exact fun _ k => blk_of rfl rfl (blk_to rfl rfl k) | exact fun _ k => vec_of rfl (vec_to rfl k) | exact fun _ k => mp_to rfl k | exact fun _ k => mp_of rfl k | exact fun _ k => mp_of rfl (mp_to rfl k)) (fun h k => sat_nil k) k), ?_⟩
    have hq : ent L p = { op := 10, fl := flg 10 (L.getD (p + 1) 0), fd := L.getD (p + 2) 0 % 8, user := L.getD (p + 3) 0, aux := L.getD (p + 4) 0 } := by simp [ent, g, -List.getD_eq_getElem?_getD]
    refine FinOb.mk _ [rdr b A c L (p + 5), Vec .nil 5 1 0 []] rfl (fun h k => sat_pick 2 rfl (by first | exact fun _ k => k | exact fun _ k => blk_to rfl rfl k | exact fun _ k => vec_to rfl k | exact fun _ k => blk_of rfl rfl k | exact fun _ k => vec_of rfl k | exact fun _ k => blk_of rfl rfl (blk_to rfl rfl k) | exact fun _ k => vec_of rfl (vec_to rfl k) | exact fun _ k => mp_to rfl k | exact fun _ k => mp_of rfl k | exact fun _ k => mp_of rfl (mp_to rfl k)) (fun h k => sat_add vec_emp ((fun h k => sat_nil k) h k)) k) ⟨.nil, 0, ?_, by rw [hq]; rfl⟩
    rw [hq]
    simp only [e0, g, e2, e3, ec, ret1, Sq.vals]
    rfl
  have g10 := hN _ g10
  refine CondOb.split (fun g => ?_) (fun g11 => ?_)
  · refine CondOb.split (fun _ => ?_) (fun h => absurd g (by rw [h]; decide))
    have g := hE _ g
    refine call_ix (next_spec b A c L (p + 4) hc hb) rfl [1] (fun h k => sat_pick 1 rfl (by first | exact fun _ k => k | exact fun _ k => blk_to rfl rfl k | exact fun _ k => vec_to rfl k | exact fun _ k => blk_of rfl rfl k | exact fun _ k => vec_of rfl k | exact fun _ k => blk_of rfl rfl (blk_to rfl rfl k) | exact fun _ k => vec_of rfl (vec_to rfl k) | exact fun _ k => mp_to rfl k | exact fun _ k => mp_of rfl k | exact fun _ k => mp_of rfl (mp_to rfl k)) (fun h k => sat_pick 0 rfl (by first | exact fun _ k => k | exact fun _ k => blk_to rfl rfl k | exact fun _ k => vec_to rfl k | exact fun _ k => blk_of rfl rfl k | exact fun _ k => vec_of rfl k | exact fun _ k => blk_of rfl rfl (blk_to rfl rfl k) | exact fun _ k => vec_of rfl (vec_to rfl k) | exact fun _ k => mp_to rfl k | exact fun _ k => mp_of rfl k | exact fun _ k => mp_of rfl (mp_to rfl k)) (fun h k => sat_pick 0 rfl (by first | exact fun _ k => k | exact fun _ k => blk_to rfl rfl k | exact fun _ k => vec_to rfl k | exact fun _ k => blk_of rfl rfl k | exact fun _ k => vec_of rfl k | exact fun _ k => blk_of rfl rfl (blk_to rfl rfl k) | exact fun _ k => vec_of rfl (vec_to rfl k) | exact fun _ k => mp_to rfl k | exact fun _ k => mp_of rfl k | exact fun _ k => mp_of rfl (mp_to rfl k)) (fun h k => sat_nil k) k) k) k) (fun f' b' hs _ => hA.frame hs) ?_
    rintro v post ⟨rfl, rfl⟩
    refine ⟨.int .i64 (L.getD (p + 4) 0), _, 3, [.asn _], NmExt.refl _, rfl, (fun h k => sat_pick 0 rfl (by first | exact fun _ k => k | exact fun _ k => blk_to rfl rfl k | exact fun _ k => vec_to rfl k | exact fun _ k => blk_of rfl rfl k | exact fun _ k => vec_of rfl k | exact fun _ k => blk_of rfl rfl (blk_to rfl rfl k) | exact fun _ k => vec_of rfl (vec_to rfl k) | exact fun _ k => mp_to rfl k | exact fun _ k => mp_of rfl k | exact fun _ k => mp_of rfl (mp_to rfl k)) (fun h k => sat_nil k) k), ?_⟩
    have hq : ent L p = { op := 11, fl := flg 11 (L.getD (p + 1) 0), fd := L.getD (p + 2) 0 % 8, user := L.getD (p + 3) 0, aux := L.getD (p + 4) 0 } := by simp [ent, g, -List.getD_eq_getElem?_getD]
    refine FinOb.mk _ [rdr b A c L (p + 5), Vec .nil 5 1 0 []] rfl (fun h k => sat_pick 2 rfl (by first | exact fun _ k => k | exact fun _ k => blk_to rfl rfl k | exact fun _ k => vec_to rfl k | exact fun _ k => blk_of rfl rfl k | exact fun _ k => vec_of rfl k | exact fun _ k => blk_of rfl rfl (blk_to rfl rfl k) | exact fun _ k => vec_of rfl (vec_to rfl k) | exact fun _ k => mp_to rfl k | exact fun _ k => mp_of rfl k | exact fun _ k => mp_of rfl (mp_to rfl k)) (fun h k => sat_add vec_emp ((fun h k => sat_nil k) h k)) k) ⟨.nil, 0, ?_, by rw [hq]; rfl⟩
    rw [hq]
    simp only [e0, g, e2, e3, ec, ret1, Sq.vals]
    rfl
  have g11 := hN _ g11
  refine CondOb.split (fun g => ?_) (fun g12 => ?_)
  · have g := hE _ g
    refine call_ix (next_spec b A c L (p + 4) hc hb) rfl [1] (fun h k => sat_pick 1 rfl (by first | exact fun _ k => k | exact fun _ k => blk_to rfl rfl k | exact fun _ k => vec_to rfl k | exact fun _ k => blk_of rfl rfl k | exact fun _ k => vec_of rfl k | exact fun _ k => blk_of rfl rfl (blk_to rfl rfl k) | exact fun _ k => vec_of rfl (vec_to rfl k) | exact fun _ k => mp_to rfl k | exact fun _ k => mp_of rfl k | exact fun _ k => mp_of rfl (mp_to rfl k)) (fun h k => sat_pick 0 rfl (by first | exact fun _ k => k | exact fun _ k => blk_to rfl rfl k | exact fun _ k => vec_to rfl k | exact fun _ k => blk_of rfl rfl k | exact fun _ k => vec_of rfl k | exact fun _ k => blk_of rfl rfl (blk_to rfl rfl k) | exact fun _ k => vec_of rfl (vec_to rfl k) | exact fun _ k => mp_to rfl k | exact fun _ k => mp_of rfl k | exact fun _ k => mp_of rfl (mp_to rfl k)) (fun h k => sat_pick 0 rfl (by first | exact fun _ k => k | exact fun _ k => blk_to rfl rfl k | exact fun _ k => vec_to rfl k | exact fun _ k => blk_of rfl rfl k | exact fun _ k => vec_of rfl k | exact fun _ k => blk_of rfl rfl (blk_to rfl rfl k) | exact fun _ k => vec_of rfl (vec_to rfl k) | exact fun _ k => mp_to rfl k | exact fun _ k => mp_of rfl k | exact fun _ k => mp_of rfl (mp_to rfl k)) (fun h k => sat_nil k) k) k) k) (fun f' b' hs _ => hA.frame hs) ?_
    rintro v post ⟨rfl, rfl⟩
    refine ⟨.int .i64 (L.getD (p + 4) 0), _, 3, [.asn _], NmExt.refl _, rfl, (fun h k => sat_pick 0 rfl (by first | exact fun _ k => k | exact fun _ k => blk_to rfl rfl k | exact fun _ k => vec_to rfl k | exact fun _ k => blk_of rfl rfl k | exact fun _ k => vec_of rfl k | exact fun _ k => blk_of rfl rfl (blk_to rfl rfl k) | exact fun _ k => vec_of rfl (vec_to rfl k) | exact fun _ k => mp_to rfl k | exact fun _ k => mp_of rfl k | exact fun _ k => mp_of rfl (mp_to rfl k)) (fun h k => sat_nil k) k), ?_⟩
    have hq : ent L p = { op := 12, fl := flg 12 (L.getD (p + 1) 0), fd := L.getD (p + 2) 0 % 8, user := L.getD (p + 3) 0, aux := L.getD (p + 4) 0 } := by simp [ent, g, -List.getD_eq_getElem?_getD]
    refine FinOb.mk _ [rdr b A c L (p + 5), Vec .nil 5 1 0 []] rfl (fun h k => sat_pick 2 rfl (by first | exact fun _ k => k | exact fun _ k => blk_to rfl rfl k | exact fun _ k => vec_to rfl k | exact fun _ k => blk_of rfl rfl k | exact fun _ k => vec_of rfl k | exact fun _ k => blk_of rfl rfl (blk_to rfl rfl k) | exact fun _ k => vec_of rfl (vec_to rfl k) | exact fun _ k => mp_to rfl k | exact fun _ k => mp_of rfl k | exact fun _ k => mp_of rfl (mp_to rfl k)) (fun h k => sat_add vec_emp ((fun h k => sat_nil k) h k)) k) ⟨.nil, 0, ?_, by rw [hq]; rfl⟩
    rw [hq]
    simp only [e0, g, e2, e3, ec, ret1, Sq.vals]
    rfl
  have g12 := hN _ g12
  refine CondOb.split (fun g => ?_) (fun g13 => ?_)
  · have g := hE _ g
    refine call_ix (next_spec b A c L (p + 4) hc hb) rfl [1] (fun h k => sat_pick 1 rfl (by first | exact fun _ k => k | exact fun _ k => blk_to rfl rfl k | exact fun _ k => vec_to rfl k | exact fun _ k => blk_of rfl rfl k | exact fun _ k => vec_of rfl k | exact fun _ k => blk_of rfl rfl (blk_to rfl rfl k) | exact fun _ k => vec_of rfl (vec_to rfl k) | exact fun _ k => mp_to rfl k | exact fun _ k => mp_of rfl k | exact fun _ k => mp_of rfl (mp_to rfl k)) (fun h k => sat_pick 0 rfl (by first | exact fun _ k => k | exact fun _ k => blk_to rfl rfl k | exact fun _ k => vec_to rfl k | exact fun _ k => blk_of rfl rfl k | exact fun _ k => vec_of rfl k | exact fun _ k => blk_of rfl rfl (blk_to rfl rfl k) | exact fun _ k => vec_of rfl (vec_to rfl k) | exact fun _ k => mp_to rfl k | exact fun _ k => mp_of rfl k | exact fun _ k => mp_of rfl (mp_to rfl k)) (fun h k => sat_pick 0 rfl (by first | exact fun _ k => k | exact fun _ k => blk_to rfl rfl k | exact fun _ k => vec_to rfl k | exact fun _ k => blk_of rfl rfl k | exact fun _ k => vec_of rfl k | exact fun _ k => blk_of rfl rfl (blk_to rfl rfl k) | exact fun _ k => vec_of rfl (vec_to rfl k) | exact fun _ k => mp_to rfl k | exact fun _ k => mp_of rfl k | exact fun _ k => mp_of rfl (mp_to rfl k)) (fun h k => sat_nil k) k) k) k) (fun f' b' hs _ => hA.frame hs) ?_
    rintro v post ⟨rfl, rfl⟩
    refine ⟨.int .i64 (L.getD (p + 4) 0), _, 3, [.asn _], NmExt.refl _, rfl, (fun h k => sat_pick 0 rfl (by first | exact fun _ k => k | exact fun _ k => blk_to rfl rfl k | exact fun _ k => vec_to rfl k | exact fun _ k => blk_of rfl rfl k | exact fun _ k => vec_of rfl k | exact fun _ k => blk_of rfl rfl (blk_to rfl rfl k) | exact fun _ k => vec_of rfl (vec_to rfl k) | exact fun _ k => mp_to rfl k | exact fun _ k => mp_of rfl k | exact fun _ k => mp_of rfl (mp_to rfl k)) (fun h k => sat_nil k) k), ?_⟩
    refine Need.mk (by decide) ?_
    refine Need.mk (by decide) ?_
    refine Need.mk (by decide) ?_
    have ew : IntKind.i64.wrap (L.getD (p + 4) 0 / 4) = L.getD (p + 4) 0 / 4 := w64 (by omega) (by omega)
    have em : (L.getD (p + 4) 0 / 4).tmod 4 = L.getD (p + 4) 0 / 4 % 4 := Int.tmod_eq_emod_of_nonneg (by omega)
    have ec : IntKind.i64.wrap (1 + L.getD (p + 4) 0 / 4 % 4) = 1 + L.getD (p + 4) 0 / 4 % 4 := w64 (by omega) (by omega)
    have hq : ent L p = { op := 13, fl := flg 13 (L.getD (p + 1) 0), fd := L.getD (p + 2) 0 % 8, user := L.getD (p + 3) 0, group := L.getD (p + 4) 0 % 2, count := 1 + L.getD (p + 4) 0 / 4 % 4, len := 32 } := by simp [ent, g, -List.getD_eq_getElem?_getD]
    refine FinOb.mk _ [rdr b A c L (p + 5), Vec .nil 5 1 0 []] rfl (fun h k => sat_pick 2 rfl (by first | exact fun _ k => k | exact fun _ k => blk_to rfl rfl k | exact fun _ k => vec_to rfl k | exact fun _ k => blk_of rfl rfl k | exact fun _ k => vec_of rfl k | exact fun _ k => blk_of rfl rfl (blk_to rfl rfl k) | exact fun _ k => vec_of rfl (vec_to rfl k) | exact fun _ k => mp_to rfl k | exact fun _ k => mp_of rfl k | exact fun _ k => mp_of rfl (mp_to rfl k)) (fun h k => sat_add vec_emp ((fun h k => sat_nil k) h k)) k) ⟨.nil, 0, ?_, by rw [hq]; rfl⟩
    rw [hq]
    simp only [e0, g, e2, e3, et, ed, ew, em, ec, ret1, Sq.vals]
    rfl
  have g13 := hN _ g13
  rcases (show L.getD p 0 % 14 = 0 ∨ L.getD p 0 % 14 = 5 ∨ L.getD p 0 % 14 = 8 ∨ L.getD p 0 % 14 = 9 by omega) with g | g | g | g
  · have hq : ent L p = { op := 0, fl := flg 0 (L.getD (p + 1) 0), fd := L.getD (p + 2) 0 % 8, user := L.getD (p + 3) 0, count := 0 } := by simp [ent, g, -List.getD_eq_getElem?_getD]
    refine FinOb.mk _ [rdr b A c L (p + 4), Vec .nil 5 1 0 []] rfl (fun h k => sat_pick 2 rfl (by first | exact fun _ k => k | exact fun _ k => blk_to rfl rfl k | exact fun _ k => vec_to rfl k | exact fun _ k => blk_of rfl rfl k | exact fun _ k => vec_of rfl k | exact fun _ k => blk_of rfl rfl (blk_to rfl rfl k) | exact fun _ k => vec_of rfl (vec_to rfl k) | exact fun _ k => mp_to rfl k | exact fun _ k => mp_of rfl k | exact fun _ k => mp_of rfl (mp_to rfl k)) (fun h k => sat_add vec_emp ((fun h k => sat_nil k) h k)) k) ⟨.nil, 0, ?_, by rw [hq]; rfl⟩
    rw [hq]
    simp only [e0, g, e2, e3, et, ret1, Sq.vals]
    rfl
  · have hq : ent L p = { op := 5, fl := flg 5 (L.getD (p + 1) 0), fd := L.getD (p + 2) 0 % 8, user := L.getD (p + 3) 0, count := 0 } := by simp [ent, g, -List.getD_eq_getElem?_getD]
    refine FinOb.mk _ [rdr b A c L (p + 4), Vec .nil 5 1 0 []] rfl (fun h k => sat_pick 2 rfl (by first | exact fun _ k => k | exact fun _ k => blk_to rfl rfl k | exact fun _ k => vec_to rfl k | exact fun _ k => blk_of rfl rfl k | exact fun _ k => vec_of rfl k | exact fun _ k => blk_of rfl rfl (blk_to rfl rfl k) | exact fun _ k => vec_of rfl (vec_to rfl k) | exact fun _ k => mp_to rfl k | exact fun _ k => mp_of rfl k | exact fun _ k => mp_of rfl (mp_to rfl k)) (fun h k => sat_add vec_emp ((fun h k => sat_nil k) h k)) k) ⟨.nil, 0, ?_, by rw [hq]; rfl⟩
    rw [hq]
    simp only [e0, g, e2, e3, et, ret1, Sq.vals]
    rfl
  · have hq : ent L p = { op := 8, fl := flg 8 (L.getD (p + 1) 0), fd := L.getD (p + 2) 0 % 8, user := L.getD (p + 3) 0, count := 0 } := by simp [ent, g, -List.getD_eq_getElem?_getD]
    refine FinOb.mk _ [rdr b A c L (p + 4), Vec .nil 5 1 0 []] rfl (fun h k => sat_pick 2 rfl (by first | exact fun _ k => k | exact fun _ k => blk_to rfl rfl k | exact fun _ k => vec_to rfl k | exact fun _ k => blk_of rfl rfl k | exact fun _ k => vec_of rfl k | exact fun _ k => blk_of rfl rfl (blk_to rfl rfl k) | exact fun _ k => vec_of rfl (vec_to rfl k) | exact fun _ k => mp_to rfl k | exact fun _ k => mp_of rfl k | exact fun _ k => mp_of rfl (mp_to rfl k)) (fun h k => sat_add vec_emp ((fun h k => sat_nil k) h k)) k) ⟨.nil, 0, ?_, by rw [hq]; rfl⟩
    rw [hq]
    simp only [e0, g, e2, e3, et, ret1, Sq.vals]
    rfl
  · have hq : ent L p = { op := 9, fl := flg 9 (L.getD (p + 1) 0), fd := L.getD (p + 2) 0 % 8, user := L.getD (p + 3) 0, count := 0 } := by simp [ent, g, -List.getD_eq_getElem?_getD]
    refine FinOb.mk _ [rdr b A c L (p + 4), Vec .nil 5 1 0 []] rfl (fun h k => sat_pick 2 rfl (by first | exact fun _ k => k | exact fun _ k => blk_to rfl rfl k | exact fun _ k => vec_to rfl k | exact fun _ k => blk_of rfl rfl k | exact fun _ k => vec_of rfl k | exact fun _ k => blk_of rfl rfl (blk_to rfl rfl k) | exact fun _ k => vec_of rfl (vec_to rfl k) | exact fun _ k => mp_to rfl k | exact fun _ k => mp_of rfl k | exact fun _ k => mp_of rfl (mp_to rfl k)) (fun h k => sat_add vec_emp ((fun h k => sat_nil k) h k)) k) ⟨.nil, 0, ?_, by rw [hq]; rfl⟩
    rw [hq]
    simp only [e0, g, e2, e3, et, ret1, Sq.vals]
    rfl
end Go.Proofs.Ytlgdagjbphafcaa.Sc
