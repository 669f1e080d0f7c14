/- script: a step. Conditions: none. -/
import Derived.Test.YtlgdagjbphafcaaScE
namespace Go.Proofs.Ytlgdagjbphafcaa.Sc
open Go Go.Proofs Sx
set_option maxRecDepth 100000
set_option linter.unusedVariables false
set_option linter.unusedSimpArgs false
set_option maxHeartbeats 4000000

/-- All of these parts. -/
def Alls (As : List Asn) : Asn := fun h => sat As h
theorem alls_nil : Alls [] HP.emp := trivial
theorem alls_push {As Bs : List Asn} {A : Asn} {h : HP} (k : sat (Alls As :: A :: Bs) h) : sat (Alls (As ++ [A]) :: Bs) h := by
  obtain ⟨x, y, t, hx, y1, y2, t2, h1, h2⟩ := k
  have k2 : sat (As ++ (A :: Bs)) h := sat_join t hx ⟨y1, y2, t2, h1, h2⟩
  have e : As ++ (A :: Bs) = (As ++ [A]) ++ Bs := by simp
  rw [e] at k2
  obtain ⟨a, b, t3, h3, h4⟩ := sat_append k2
  exact ⟨a, b, t3, h3, h4⟩
abbrev En := Sq × Plc × Nat
def EL : Lay En where
  cells e := e.1.vals (locAddr 0 e.2.1) e.2.2
  sz := 11
  len _ := rfl
  one e v hv := by
    simp only [Sq.vals, List.mem_cons, List.not_mem_nil, or_false] at hv
    rcases hv with rfl | rfl | rfl | rfl | rfl | rfl | rfl | rfl | rfl | rfl | rfl <;> rfl
theorem lE (l : List En) : (EL.flat l).length = l.length * 11 := by rw [EL.flat_length]; rfl
def En.data (e : En) : Asn := Vec e.2.1 5 1 e.2.2 (U8.flat e.1.data)
/-- Where a reader stands behind so many entries. -/
def epos (L : List Int) (p : Nat) : Nat → Nat
  | 0 => p
  | k + 1 => epos L p k + entN (ent L (epos L p k)).op
def ents (L : List Int) (p k : Nat) : List Sq := (List.range k).map (fun i => ent L (epos L p i))
structure Stp where
  act : Int
  host : Int
  ctx : Int
  n : Int := 0
  at_ : Int := 0
  by_ : Int := 0
  l : List Sq := []
def Stp.vals (s : Stp) (D : Option Addr) (d : Nat) : List Value := [.int .i64 s.act, .int .i64 s.host, .int .i64 s.ctx, .int .i64 s.n, .int .i64 s.at_, .int .u8 s.by_, .slice D s.l.length d]
def stp (L : List Int) (p : Nat) : Stp :=
  let a := L.getD p 0 % 9
  let u := L.getD (p + 1) 0
  let s : Stp := { act := a, host := u % 4, ctx := u / 4 % 4 }
  if a = 0 then { s with l := ents L (p + 3) (1 + L.getD (p + 2) 0 % 4).toNat } else
  if a = 1 then { s with n := 16 } else
  if a = 2 ∨ a = 3 ∨ a = 4 ∨ a = 5 ∨ a = 7 then { s with n := L.getD (p + 2) 0 } else
  if a = 6 then { s with n := L.getD (p + 2) 0, at_ := L.getD (p + 3) 0, by_ := L.getD (p + 4) 0 } else s
def stpN (L : List Int) (p : Nat) : Nat :=
  let a := L.getD p 0 % 9
  if a = 0 then epos L (p + 3) (1 + L.getD (p + 2) 0 % 4).toNat else
  if a = 1 then p + 2 else
  if a = 2 ∨ a = 3 ∨ a = 4 ∨ a = 5 ∨ a = 7 then p + 3 else
  if a = 6 then p + 5 else p + 2
theorem alls_two {As : List Asn} {A : Asn} (h : HP) (k : sat [Alls As, A] h) : Alls (As ++ [A]) h := by
  obtain ⟨x, y, t, hx, _⟩ := alls_push k
  exact sat_more t.comm hx
def Sq.svs (q : Sq) (D : Option Addr) (d : Nat) : List SV := [.int .u8 q.op, .int .u8 q.fl, .int .i64 q.fd, .int .u32 q.addr, .int .u16 q.port, .int .i64 q.len, .int .i64 q.group, .int .i64 q.count, .int .u64 q.aux, .int .u64 q.user, .raw (.slice D q.data.length d)]
theorem step_spec (b : Nat) (A : Option Addr) (c : Nat) (L : List Int) (p : Nat) (hc : L.length ≤ c) (hb : ∀ x ∈ L, 0 ≤ x ∧ x ≤ 255) :
    Does Try.prog 92 #[.pointer (some ⟨b, 0, none⟩)] (fun f => Reads f A (U8.flat L)) [rdr b A c L p]
      (fun v q => ∃ (es : List En) (pl : Plc) (cl : Nat), v = .agg ((stp L p).vals (locAddr 0 pl) cl).toArray ∧ es.length ≤ cl ∧ es.map (·.1) = (stp L p).l ∧ q = [rdr b A c L (stpN L p), Vec pl 102 11 cl (EL.flat es), Alls (es.map En.data)]) := by
  refine Does.of Try.func92 Try.call92 rfl [.ptr 0 0] [(0, .at b 0)] 1 [.asn (rdr b A c L p)] rfl rfl (fun h k => sat_pick 0 rfl (by first | exact fun _ k => k | exact fun _ k => blk_to rfl rfl k | exact fun _ k => vec_to rfl k | exact fun _ k => blk_of rfl rfl k | exact fun _ k => vec_of rfl k | exact fun _ k => blk_of rfl rfl (blk_to rfl rfl k) | exact fun _ k => vec_of rfl (vec_to rfl k) | exact fun _ k => mp_to rfl k | exact fun _ k => mp_of rfl k | exact fun _ k => mp_of rfl (mp_to rfl k)) (fun h k => sat_nil k) k) (fun f hA => ?_)
  intro b1
  refine call_ix (next_spec b A c L (p) hc hb) rfl [1] (fun h k => sat_pick 1 rfl (by first | exact fun _ k => k | exact fun _ k => blk_to rfl rfl k | exact fun _ k => vec_to rfl k | exact fun _ k => blk_of rfl rfl k | exact fun _ k => vec_of rfl k | exact fun _ k => blk_of rfl rfl (blk_to rfl rfl k) | exact fun _ k => vec_of rfl (vec_to rfl k) | exact fun _ k => mp_to rfl k | exact fun _ k => mp_of rfl k | exact fun _ k => mp_of rfl (mp_to rfl k)) (fun h k => sat_pick 0 rfl (by first | exact fun _ k => k | exact fun _ k => blk_to rfl rfl k | exact fun _ k => vec_to rfl k | exact fun _ k => blk_of rfl rfl k | exact fun _ k => vec_of rfl k | exact fun _ k => blk_of rfl rfl (blk_to rfl rfl k) | exact fun _ k => vec_of rfl (vec_to rfl k) | exact fun _ k => mp_to rfl k | exact fun _ k => mp_of rfl k | exact fun _ k => mp_of rfl (mp_to rfl k)) (fun h k => sat_nil k) k) k) (fun f' b' hs _ => hA.frame hs) ?_
  rintro v post ⟨rfl, rfl⟩
  refine ⟨.int .i64 (L.getD (p) 0), _, 2, [.asn _], NmExt.refl _, rfl, (fun h k => sat_pick 0 rfl (by first | exact fun _ k => k | exact fun _ k => blk_to rfl rfl k | exact fun _ k => vec_to rfl k | exact fun _ k => blk_of rfl rfl k | exact fun _ k => vec_of rfl k | exact fun _ k => blk_of rfl rfl (blk_to rfl rfl k) | exact fun _ k => vec_of rfl (vec_to rfl k) | exact fun _ k => mp_to rfl k | exact fun _ k => mp_of rfl k | exact fun _ k => mp_of rfl (mp_to rfl k)) (fun h k => sat_nil k) k), ?_⟩
  refine Need.mk (by decide) ?_
  intro b2
  refine call_ix (next_spec b A c L (p + 1) hc hb) rfl [1] (fun h k => sat_pick 1 rfl (by first | exact fun _ k => k | exact fun _ k => blk_to rfl rfl k | exact fun _ k => vec_to rfl k | exact fun _ k => blk_of rfl rfl k | exact fun _ k => vec_of rfl k | exact fun _ k => blk_of rfl rfl (blk_to rfl rfl k) | exact fun _ k => vec_of rfl (vec_to rfl k) | exact fun _ k => mp_to rfl k | exact fun _ k => mp_of rfl k | exact fun _ k => mp_of rfl (mp_to rfl k)) (fun h k => sat_pick 0 rfl (by first | exact fun _ k => k | exact fun _ k => blk_to rfl rfl k | exact fun _ k => vec_to rfl k | exact fun _ k => blk_of rfl rfl k | exact fun _ k => vec_of rfl k | exact fun _ k => blk_of rfl rfl (blk_to rfl rfl k) | exact fun _ k => vec_of rfl (vec_to rfl k) | exact fun _ k => mp_to rfl k | exact fun _ k => mp_of rfl k | exact fun _ k => mp_of rfl (mp_to rfl k)) (fun h k => sat_pick 0 rfl (by first | exact fun _ k => k | exact fun _ k => blk_to rfl rfl k | exact fun _ k => vec_to rfl k | exact fun _ k => blk_of rfl rfl k | exact fun _ k => vec_of rfl k | exact fun _ k => blk_of rfl rfl (blk_to rfl rfl k) | exact fun _ k => vec_of rfl (vec_to rfl k) | exact fun _ k => mp_to rfl k | exact fun _ k => mp_of rfl k | exact fun _ k => mp_of rfl (mp_to rfl k)) (fun h k => sat_nil k) k) k) k) (fun f' b' hs _ => hA.frame hs) ?_
  rintro v post ⟨rfl, rfl⟩
  refine ⟨.int .i64 (L.getD (p + 1) 0), _, 3, [.asn _], NmExt.refl _, rfl, (fun h k => sat_pick 0 rfl (by first | exact fun _ k => k | exact fun _ k => blk_to rfl rfl k | exact fun _ k => vec_to rfl k | exact fun _ k => blk_of rfl rfl k | exact fun _ k => vec_of rfl k | exact fun _ k => blk_of rfl rfl (blk_to rfl rfl k) | exact fun _ k => vec_of rfl (vec_to rfl k) | exact fun _ k => mp_to rfl k | exact fun _ k => mp_of rfl k | exact fun _ k => mp_of rfl (mp_to rfl k)) (fun h k => sat_nil k) k), ?_⟩
  refine Need.mk (by decide) ?_
  refine Need.mk (by decide) ?_
  refine Need.mk (by decide) ?_
  have u0 := byte hb p
  have u1 := byte hb (p + 1)
  have u2 := byte hb (p + 2)
  have u3 := byte hb (p + 3)
  have u4 := byte hb (p + 4)
  have ha : (L.getD p 0).tmod 9 = L.getD p 0 % 9 := Int.tmod_eq_emod_of_nonneg u0.1
  have e1 : (L.getD (p + 1) 0).tmod 4 = L.getD (p + 1) 0 % 4 := Int.tmod_eq_emod_of_nonneg u1.1
  have e4 : (IntKind.i64.wrap ((L.getD (p + 1) 0).tdiv 4)).tmod 4 = L.getD (p + 1) 0 / 4 % 4 := by
    rw [Int.tdiv_eq_ediv_of_nonneg u1.1, w64 (by omega) (by omega), Int.tmod_eq_emod_of_nonneg (by omega)]
  have hE : ∀ k : Int, ((L.getD p 0).tmod 9 == k) = true → L.getD p 0 % 9 = k := fun k h => by rw [ha] at h; simpa using h
  have hN : ∀ k : Int, ((L.getD p 0).tmod 9 == k) = false → L.getD p 0 % 9 ≠ k := fun k h => by rw [ha] at h; simpa using h
  refine CondOb.split (fun g => ?_) (fun g0 => ?_)
  · have g := hE _ g
    refine call_ix (next_spec b A c L (p + 2) hc hb) rfl [1] (fun h k => sat_pick 1 rfl (by first | exact fun _ k => k | exact fun _ k => blk_to rfl rfl k | exact fun _ k => vec_to rfl k | exact fun _ k => blk_of rfl rfl k | exact fun _ k => vec_of rfl k | exact fun _ k => blk_of rfl rfl (blk_to rfl rfl k) | exact fun _ k => vec_of rfl (vec_to rfl k) | exact fun _ k => mp_to rfl k | exact fun _ k => mp_of rfl k | exact fun _ k => mp_of rfl (mp_to rfl k)) (fun h k => sat_pick 0 rfl (by first | exact fun _ k => k | exact fun _ k => blk_to rfl rfl k | exact fun _ k => vec_to rfl k | exact fun _ k => blk_of rfl rfl k | exact fun _ k => vec_of rfl k | exact fun _ k => blk_of rfl rfl (blk_to rfl rfl k) | exact fun _ k => vec_of rfl (vec_to rfl k) | exact fun _ k => mp_to rfl k | exact fun _ k => mp_of rfl k | exact fun _ k => mp_of rfl (mp_to rfl k)) (fun h k => sat_pick 0 rfl (by first | exact fun _ k => k | exact fun _ k => blk_to rfl rfl k | exact fun _ k => vec_to rfl k | exact fun _ k => blk_of rfl rfl k | exact fun _ k => vec_of rfl k | exact fun _ k => blk_of rfl rfl (blk_to rfl rfl k) | exact fun _ k => vec_of rfl (vec_to rfl k) | exact fun _ k => mp_to rfl k | exact fun _ k => mp_of rfl k | exact fun _ k => mp_of rfl (mp_to rfl k)) (fun h k => sat_nil k) k) k) k) (fun f' b' hs _ => hA.frame hs) ?_
    rintro v post ⟨rfl, rfl⟩
    refine ⟨.int .i64 (L.getD (p + 2) 0), _, 3, [.asn _], NmExt.refl _, rfl, (fun h k => sat_pick 0 rfl (by first | exact fun _ k => k | exact fun _ k => blk_to rfl rfl k | exact fun _ k => vec_to rfl k | exact fun _ k => blk_of rfl rfl k | exact fun _ k => vec_of rfl k | exact fun _ k => blk_of rfl rfl (blk_to rfl rfl k) | exact fun _ k => vec_of rfl (vec_to rfl k) | exact fun _ k => mp_to rfl k | exact fun _ k => mp_of rfl k | exact fun _ k => mp_of rfl (mp_to rfl k)) (fun h k => sat_nil k) k), ?_⟩
    refine Need.mk (by decide) ?_
    have hk : ((1 + L.getD (p + 2) 0 % 4).toNat : Int) = 1 + L.getD (p + 2) 0 % 4 := by omega
    generalize hkk : (1 + L.getD (p + 2) 0 % 4).toNat = k at hk
    have hk4 : k ≤ 4 := by omega
    have ek : IntKind.i64.wrap (1 + (L.getD (p + 2) 0).tmod 4) = k := by rw [Int.tmod_eq_emod_of_nonneg u2.1, ← hk, w64 (by omega) (by omega)]
    refine LoopOb.mk { z : Nat × List En × Plc × Nat // z.1 ≤ k ∧ z.2.1.length = z.1 ∧ z.1 ≤ z.2.2.2 ∧ z.2.1.map (·.1) = ents L (p + 3) z.1 } (fun z => ⟨61, [(0, .ptr 0 0), (2, .ptr 1 0), (3, .ptr 2 0), (25, .int .i64 k), (26, .int .i64 z.1.1)], [(3, z.1.2.2.1), (2, .at b2 0), (1, .at b1 0), (0, .at b 0)], 4,
      [.blk 2 111 [.int .i64 ((L.getD p 0).tmod 9), .int .i64 ((L.getD (p + 1) 0).tmod 4), .int .i64 ((IntKind.i64.wrap ((L.getD (p + 1) 0).tdiv 4)).tmod 4), .int .i64 0, .int .i64 0, .int .u8 0, .sl 3 0 z.1.1 z.1.2.2.2], .asn (rdr b A c L (epos L (p + 3) z.1.1)),
       .blk 1 111 [.int .i64 0, .int .i64 0, .int .i64 0, .int .i64 0, .int .i64 0, .int .u8 0, .nils], .vec 3 102 11 z.1.2.2.2 (EL.flat z.1.2.1), .asn (Alls (z.1.2.1.map En.data))]⟩) (fun z => k - z.1.1) ⟨(0, [], .nil, 0), by omega, rfl, by omega, rfl⟩ ?_ ?_
    · exact Le.of rfl ⟨⟨_, rfl, rfl⟩, ⟨_, rfl, rfl⟩, ⟨_, rfl, rfl⟩, ⟨_, rfl, congrArg (fun z => some (Value.int .i64 z)) ek⟩, ⟨_, rfl, rfl⟩, trivial⟩ (fun h k => sat_pick 1 rfl (by first | exact fun _ k => k | exact fun _ k => blk_to rfl rfl k | exact fun _ k => vec_to rfl k | exact fun _ k => blk_of rfl rfl k | exact fun _ k => vec_of rfl k | exact fun _ k => blk_of rfl rfl (blk_to rfl rfl k) | exact fun _ k => vec_of rfl (vec_to rfl k) | exact fun _ k => mp_to rfl k | exact fun _ k => mp_of rfl k | exact fun _ k => mp_of rfl (mp_to rfl k)) (fun h k => sat_pick 0 rfl (by first | exact fun _ k => k | exact fun _ k => blk_to rfl rfl k | exact fun _ k => vec_to rfl k | exact fun _ k => blk_of rfl rfl k | exact fun _ k => vec_of rfl k | exact fun _ k => blk_of rfl rfl (blk_to rfl rfl k) | exact fun _ k => vec_of rfl (vec_to rfl k) | exact fun _ k => mp_to rfl k | exact fun _ k => mp_of rfl k | exact fun _ k => mp_of rfl (mp_to rfl k)) (fun h k => sat_pick 0 rfl (by first | exact fun _ k => k | exact fun _ k => blk_to rfl rfl k | exact fun _ k => vec_to rfl k | exact fun _ k => blk_of rfl rfl k | exact fun _ k => vec_of rfl k | exact fun _ k => blk_of rfl rfl (blk_to rfl rfl k) | exact fun _ k => vec_of rfl (vec_to rfl k) | exact fun _ k => mp_to rfl k | exact fun _ k => mp_of rfl k | exact fun _ k => mp_of rfl (mp_to rfl k)) (fun h k => sat_add (vec_of rfl vec_emp) ((fun h k => sat_add alls_nil ((fun h k => sat_nil k) h k)) h k)) k) k) k)
    rintro ⟨⟨i, es, pl, cl⟩, hi, hlen, hic, hes⟩
    simp only at hi hlen hic hes
    refine CondOb.split (fun gl => ?_) (fun gl => ?_)
    rotate_left
    · simp only [decide_eq_false_iff_not] at gl
      replace gl : ¬ (i : Int) < k := gl
      have ei : i = k := by omega
      subst ei
      have hq : stp L p = { act := 0, host := L.getD (p + 1) 0 % 4, ctx := L.getD (p + 1) 0 / 4 % 4, l := ents L (p + 3) i } := by
        rw [← hkk]; simp [stp, g, -List.getD_eq_getElem?_getD]
      have hp : stpN L p = epos L (p + 3) i := by rw [← hkk]; simp [stpN, g, -List.getD_eq_getElem?_getD]
      have hel : (ents L (p + 3) i).length = i := by simp [ents]
      refine FinOb.mk _ [rdr b A c L (epos L (p + 3) i), Vec pl 102 11 cl (EL.flat es), Alls (es.map En.data)] rfl (fun h k => sat_pick 2 rfl (by first | exact fun _ k => k | exact fun _ k => blk_to rfl rfl k | exact fun _ k => vec_to rfl k | exact fun _ k => blk_of rfl rfl k | exact fun _ k => vec_of rfl k | exact fun _ k => blk_of rfl rfl (blk_to rfl rfl k) | exact fun _ k => vec_of rfl (vec_to rfl k) | exact fun _ k => mp_to rfl k | exact fun _ k => mp_of rfl k | exact fun _ k => mp_of rfl (mp_to rfl k)) (fun h k => sat_pick 2 rfl (fun _ k => vec_to (l := pl) rfl k) (fun h k => sat_pick 2 rfl (by first | exact fun _ k => k | exact fun _ k => blk_to rfl rfl k | exact fun _ k => vec_to rfl k | exact fun _ k => blk_of rfl rfl k | exact fun _ k => vec_of rfl k | exact fun _ k => blk_of rfl rfl (blk_to rfl rfl k) | exact fun _ k => vec_of rfl (vec_to rfl k) | exact fun _ k => mp_to rfl k | exact fun _ k => mp_of rfl k | exact fun _ k => mp_of rfl (mp_to rfl k)) (fun h k => sat_nil k) k) k) k) ⟨es, pl, cl, ?_, by omega, (by rw [hq]; exact hes), (by rw [hp])⟩
      rw [hq]
      simp only [g, ha, e1, e4, ret1, Stp.vals, hel]
    simp only [decide_eq_true_eq] at gl
    replace gl : (i : Int) < k := gl
    have ei : IntKind.i64.wrap ((i : Int) + 1) = ((i + 1 : Nat) : Int) := by rw [w64 (by omega) (by omega)]; omega
    refine DrawOb.mk [(3, [0, 1]), (4, [0, 1])] (.run [0, 1, 2, 3, 4, 5, 6, 7] .nil) (by kernel_rfl) ?_
    refine call_ix (entry_spec b A c L (epos L (p + 3) i) hc hb) rfl [1] (fun h k => sat_pick 1 rfl (by first | exact fun _ k => k | exact fun _ k => blk_to rfl rfl k | exact fun _ k => vec_to rfl k | exact fun _ k => blk_of rfl rfl k | exact fun _ k => vec_of rfl k | exact fun _ k => blk_of rfl rfl (blk_to rfl rfl k) | exact fun _ k => vec_of rfl (vec_to rfl k) | exact fun _ k => mp_to rfl k | exact fun _ k => mp_of rfl k | exact fun _ k => mp_of rfl (mp_to rfl k)) (fun h k => sat_pick 0 rfl (by first | exact fun _ k => k | exact fun _ k => blk_to rfl rfl k | exact fun _ k => vec_to rfl k | exact fun _ k => blk_of rfl rfl k | exact fun _ k => vec_of rfl k | exact fun _ k => blk_of rfl rfl (blk_to rfl rfl k) | exact fun _ k => vec_of rfl (vec_to rfl k) | exact fun _ k => mp_to rfl k | exact fun _ k => mp_of rfl k | exact fun _ k => mp_of rfl (mp_to rfl k)) (fun h k => sat_pick 0 rfl (by first | exact fun _ k => k | exact fun _ k => blk_to rfl rfl k | exact fun _ k => vec_to rfl k | exact fun _ k => blk_of rfl rfl k | exact fun _ k => vec_of rfl k | exact fun _ k => blk_of rfl rfl (blk_to rfl rfl k) | exact fun _ k => vec_of rfl (vec_to rfl k) | exact fun _ k => mp_to rfl k | exact fun _ k => mp_of rfl k | exact fun _ k => mp_of rfl (mp_to rfl k)) (fun h k => sat_pick 0 rfl (by first | exact fun _ k => k | exact fun _ k => blk_to rfl rfl k | exact fun _ k => vec_to rfl k | exact fun _ k => blk_of rfl rfl k | exact fun _ k => vec_of rfl k | exact fun _ k => blk_of rfl rfl (blk_to rfl rfl k) | exact fun _ k => vec_of rfl (vec_to rfl k) | exact fun _ k => mp_to rfl k | exact fun _ k => mp_of rfl k | exact fun _ k => mp_of rfl (mp_to rfl k)) (fun h k => sat_pick 0 rfl (by first | exact fun _ k => k | exact fun _ k => blk_to rfl rfl k | exact fun _ k => vec_to rfl k | exact fun _ k => blk_of rfl rfl k | exact fun _ k => vec_of rfl k | exact fun _ k => blk_of rfl rfl (blk_to rfl rfl k) | exact fun _ k => vec_of rfl (vec_to rfl k) | exact fun _ k => mp_to rfl k | exact fun _ k => mp_of rfl k | exact fun _ k => mp_of rfl (mp_to rfl k)) (fun h k => sat_nil k) k) k) k) k) k) (fun f' b' hs _ => hA.frame hs) ?_
    rintro v post ⟨pd, cd, rfl, rfl⟩
    refine ⟨.agg ((ent L (epos L (p + 3) i)).svs (locAddr 0 pd) cd), _, 4, [.asn _, .asn _], NmExt.refl _, rfl, (fun h k => sat_pick 0 rfl (by first | exact fun _ k => k | exact fun _ k => blk_to rfl rfl k | exact fun _ k => vec_to rfl k | exact fun _ k => blk_of rfl rfl k | exact fun _ k => vec_of rfl k | exact fun _ k => blk_of rfl rfl (blk_to rfl rfl k) | exact fun _ k => vec_of rfl (vec_to rfl k) | exact fun _ k => mp_to rfl k | exact fun _ k => mp_of rfl k | exact fun _ k => mp_of rfl (mp_to rfl k)) (fun h k => sat_pick 0 rfl (by first | exact fun _ k => k | exact fun _ k => blk_to rfl rfl k | exact fun _ k => vec_to rfl k | exact fun _ k => blk_of rfl rfl k | exact fun _ k => vec_of rfl k | exact fun _ k => blk_of rfl rfl (blk_to rfl rfl k) | exact fun _ k => vec_of rfl (vec_to rfl k) | exact fun _ k => mp_to rfl k | exact fun _ k => mp_of rfl k | exact fun _ k => mp_of rfl (mp_to rfl k)) (fun h k => sat_nil k) k) k), ?_⟩
    refine Need.mk rfl ?_
    intro b9
    refine Need.mk rfl ?_
    refine StOb.mk ((ent L (epos L (p + 3) i)).vals (locAddr 0 pd) cd) rfl (Need.mk rfl ?_)
    refine Need.mk ⟨by rw [lE]; simp; omega, by simp only; omega, hic⟩ ?_
    refine Need.mk ⟨by simp only; omega, by simp only [maxLen]; omega, EL.one (ent L (epos L (p + 3) i), pd, cd)⟩ ?_
    refine NewSl.pos (by omega) (fun b10 o10 c10 hc10 => ?_)
    refine ⟨⟨(i + 1, es ++ [(ent L (epos L (p + 3) i), pd, cd)], .at b10 o10, c10), by simp only; omega, by simp [hlen], hc10, by simp [hes, ents, List.range_succ]⟩, by show k - (i + 1) < k - i; omega, Le.of rfl ⟨⟨_, rfl, rfl⟩, ⟨_, rfl, rfl⟩, ⟨_, rfl, rfl⟩, ⟨_, rfl, rfl⟩, ⟨_, rfl, congrArg (fun z => some (Value.int .i64 z)) ei⟩, trivial⟩ (fun h k => sat_pick 0 rfl (by first | exact fun _ k => k | exact fun _ k => blk_to rfl rfl k | exact fun _ k => vec_to rfl k | exact fun _ k => blk_of rfl rfl k | exact fun _ k => vec_of rfl k | exact fun _ k => blk_of rfl rfl (blk_to rfl rfl k) | exact fun _ k => vec_of rfl (vec_to rfl k) | exact fun _ k => mp_to rfl k | exact fun _ k => mp_of rfl k | exact fun _ k => mp_of rfl (mp_to rfl k)) (fun h k => sat_pick 2 rfl (by first | exact fun _ k => k | exact fun _ k => blk_to rfl rfl k | exact fun _ k => vec_to rfl k | exact fun _ k => blk_of rfl rfl k | exact fun _ k => vec_of rfl k | exact fun _ k => blk_of rfl rfl (blk_to rfl rfl k) | exact fun _ k => vec_of rfl (vec_to rfl k) | exact fun _ k => mp_to rfl k | exact fun _ k => mp_of rfl k | exact fun _ k => mp_of rfl (mp_to rfl k)) (fun h k => sat_pick 3 rfl (by first | exact fun _ k => k | exact fun _ k => blk_to rfl rfl k | exact fun _ k => vec_to rfl k | exact fun _ k => blk_of rfl rfl k | exact fun _ k => vec_of rfl k | exact fun _ k => blk_of rfl rfl (blk_to rfl rfl k) | exact fun _ k => vec_of rfl (vec_to rfl k) | exact fun _ k => mp_to rfl k | exact fun _ k => mp_of rfl k | exact fun _ k => mp_of rfl (mp_to rfl k)) (fun h k => sat_pick 0 rfl (fun _ k => ?_) (fun h k => sat_pick2 2 1 rfl rfl (fun _ k => ?_) (fun h k => sat_nil k) k) k) k) k) k)⟩
    · have k := vec_to (l := .at b10 o10) rfl k
      refine vec_of rfl ?_
      rw [List.drop_zero, List.take_of_length_le (by rw [lE]; exact Nat.le_of_eq (by show es.length * 11 = i * 11; rw [hlen]))] at k
      simp only [EL.flat_append, EL.flat_one]
      exact k
    · show Alls ((es ++ [(ent L (epos L (p + 3) i), pd, cd)]).map En.data) _
      rw [List.map_append]
      exact alls_two _ k
  have g0 := hN _ g0
  refine CondOb.split (fun g => ?_) (fun g1 => ?_)
  · have g := hE _ g
    have hq : stp L p = { act := 1, host := L.getD (p + 1) 0 % 4, ctx := L.getD (p + 1) 0 / 4 % 4, n := 16 } := by simp [stp, g, -List.getD_eq_getElem?_getD]
    have hp : stpN L p = p + 2 := by simp [stpN, g, -List.getD_eq_getElem?_getD]
    refine FinOb.mk _ [rdr b A c L (p + 2), Vec .nil 102 11 0 [], Alls []] rfl (fun h k => sat_pick 2 rfl (by first | exact fun _ k => k | exact fun _ k => blk_to rfl rfl k | exact fun _ k => vec_to rfl k | exact fun _ k => blk_of rfl rfl k | exact fun _ k => vec_of rfl k | exact fun _ k => blk_of rfl rfl (blk_to rfl rfl k) | exact fun _ k => vec_of rfl (vec_to rfl k) | exact fun _ k => mp_to rfl k | exact fun _ k => mp_of rfl k | exact fun _ k => mp_of rfl (mp_to rfl k)) (fun h k => sat_add vec_emp ((fun h k => sat_add alls_nil ((fun h k => sat_nil k) h k)) h k)) k) ⟨[], .nil, 0, ?_, Nat.le_refl _, (by rw [hq]; rfl), (by rw [hp]; rfl)⟩
    rw [hq]
    simp only [g, ha, e1, e4, e1, ret1, Stp.vals]
    rfl
  have g1 := hN _ g1
  refine CondOb.split (fun g => ?_) (fun g2 => ?_)
  · refine CondOb.split (fun _ => ?_) (fun h => absurd g (by rw [h]; decide))
    have g := hE _ g
    refine call_ix (next_spec b A c L (p + 2) hc hb) rfl [1] (fun h k => sat_pick 1 rfl (by first | exact fun _ k => k | exact fun _ k => blk_to rfl rfl k | exact fun _ k => vec_to rfl k | exact fun _ k => blk_of rfl rfl k | exact fun _ k => vec_of rfl k | exact fun _ k => blk_of rfl rfl (blk_to rfl rfl k) | exact fun _ k => vec_of rfl (vec_to rfl k) | exact fun _ k => mp_to rfl k | exact fun _ k => mp_of rfl k | exact fun _ k => mp_of rfl (mp_to rfl k)) (fun h k => sat_pick 0 rfl (by first | exact fun _ k => k | exact fun _ k => blk_to rfl rfl k | exact fun _ k => vec_to rfl k | exact fun _ k => blk_of rfl rfl k | exact fun _ k => vec_of rfl k | exact fun _ k => blk_of rfl rfl (blk_to rfl rfl k) | exact fun _ k => vec_of rfl (vec_to rfl k) | exact fun _ k => mp_to rfl k | exact fun _ k => mp_of rfl k | exact fun _ k => mp_of rfl (mp_to rfl k)) (fun h k => sat_pick 0 rfl (by first | exact fun _ k => k | exact fun _ k => blk_to rfl rfl k | exact fun _ k => vec_to rfl k | exact fun _ k => blk_of rfl rfl k | exact fun _ k => vec_of rfl k | exact fun _ k => blk_of rfl rfl (blk_to rfl rfl k) | exact fun _ k => vec_of rfl (vec_to rfl k) | exact fun _ k => mp_to rfl k | exact fun _ k => mp_of rfl k | exact fun _ k => mp_of rfl (mp_to rfl k)) (fun h k => sat_nil k) k) k) k) (fun f' b' hs _ => hA.frame hs) ?_
    rintro v post ⟨rfl, rfl⟩
    refine ⟨.int .i64 (L.getD (p + 2) 0), _, 3, [.asn _], NmExt.refl _, rfl, (fun h k => sat_pick 0 rfl (by first | exact fun _ k => k | exact fun _ k => blk_to rfl rfl k | exact fun _ k => vec_to rfl k | exact fun _ k => blk_of rfl rfl k | exact fun _ k => vec_of rfl k | exact fun _ k => blk_of rfl rfl (blk_to rfl rfl k) | exact fun _ k => vec_of rfl (vec_to rfl k) | exact fun _ k => mp_to rfl k | exact fun _ k => mp_of rfl k | exact fun _ k => mp_of rfl (mp_to rfl k)) (fun h k => sat_nil k) k), ?_⟩
    have hq : stp L p = { act := 2, host := L.getD (p + 1) 0 % 4, ctx := L.getD (p + 1) 0 / 4 % 4, n := L.getD (p + 2) 0 } := by simp [stp, g, -List.getD_eq_getElem?_getD]
    have hp : stpN L p = p + 3 := by simp [stpN, g, -List.getD_eq_getElem?_getD]
    refine FinOb.mk _ [rdr b A c L (p + 3), Vec .nil 102 11 0 [], Alls []] rfl (fun h k => sat_pick 2 rfl (by first | exact fun _ k => k | exact fun _ k => blk_to rfl rfl k | exact fun _ k => vec_to rfl k | exact fun _ k => blk_of rfl rfl k | exact fun _ k => vec_of rfl k | exact fun _ k => blk_of rfl rfl (blk_to rfl rfl k) | exact fun _ k => vec_of rfl (vec_to rfl k) | exact fun _ k => mp_to rfl k | exact fun _ k => mp_of rfl k | exact fun _ k => mp_of rfl (mp_to rfl k)) (fun h k => sat_add vec_emp ((fun h k => sat_add alls_nil ((fun h k => sat_nil k) h k)) h k)) k) ⟨[], .nil, 0, ?_, Nat.le_refl _, (by rw [hq]; rfl), (by rw [hp]; rfl)⟩
    rw [hq]
    simp only [g, ha, e1, e4, e1, ret1, Stp.vals]
    rfl
  have g2 := hN _ g2
  refine CondOb.split (fun g => ?_) (fun g3 => ?_)
  · refine CondOb.split (fun _ => ?_) (fun h => absurd g (by rw [h]; decide))
    have g := hE _ g
    refine call_ix (next_spec b A c L (p + 2) hc hb) rfl [1] (fun h k => sat_pick 1 rfl (by first | exact fun _ k => k | exact fun _ k => blk_to rfl rfl k | exact fun _ k => vec_to rfl k | exact fun _ k => blk_of rfl rfl k | exact fun _ k => vec_of rfl k | exact fun _ k => blk_of rfl rfl (blk_to rfl rfl k) | exact fun _ k => vec_of rfl (vec_to rfl k) | exact fun _ k => mp_to rfl k | exact fun _ k => mp_of rfl k | exact fun _ k => mp_of rfl (mp_to rfl k)) (fun h k => sat_pick 0 rfl (by first | exact fun _ k => k | exact fun _ k => blk_to rfl rfl k | exact fun _ k => vec_to rfl k | exact fun _ k => blk_of rfl rfl k | exact fun _ k => vec_of rfl k | exact fun _ k => blk_of rfl rfl (blk_to rfl rfl k) | exact fun _ k => vec_of rfl (vec_to rfl k) | exact fun _ k => mp_to rfl k | exact fun _ k => mp_of rfl k | exact fun _ k => mp_of rfl (mp_to rfl k)) (fun h k => sat_pick 0 rfl (by first | exact fun _ k => k | exact fun _ k => blk_to rfl rfl k | exact fun _ k => vec_to rfl k | exact fun _ k => blk_of rfl rfl k | exact fun _ k => vec_of rfl k | exact fun _ k => blk_of rfl rfl (blk_to rfl rfl k) | exact fun _ k => vec_of rfl (vec_to rfl k) | exact fun _ k => mp_to rfl k | exact fun _ k => mp_of rfl k | exact fun _ k => mp_of rfl (mp_to rfl k)) (fun h k => sat_nil k) k) k) k) (fun f' b' hs _ => hA.frame hs) ?_
    rintro v post ⟨rfl, rfl⟩
    refine ⟨.int .i64 (L.getD (p + 2) 0), _, 3, [.asn _], NmExt.refl _, rfl, (fun h k => sat_pick 0 rfl (by first | exact fun _ k => k | exact fun _ k => blk_to rfl rfl k | exact fun _ k => vec_to rfl k | exact fun _ k => blk_of rfl rfl k | exact fun _ k => vec_of rfl k | exact fun _ k => blk_of rfl rfl (blk_to rfl rfl k) | exact fun _ k => vec_of rfl (vec_to rfl k) | exact fun _ k => mp_to rfl k | exact fun _ k => mp_of rfl k | exact fun _ k => mp_of rfl (mp_to rfl k)) (fun h k => sat_nil k) k), ?_⟩
    have hq : stp L p = { act := 3, host := L.getD (p + 1) 0 % 4, ctx := L.getD (p + 1) 0 / 4 % 4, n := L.getD (p + 2) 0 } := by simp [stp, g, -List.getD_eq_getElem?_getD]
    have hp : stpN L p = p + 3 := by simp [stpN, g, -List.getD_eq_getElem?_getD]
    refine FinOb.mk _ [rdr b A c L (p + 3), Vec .nil 102 11 0 [], Alls []] rfl (fun h k => sat_pick 2 rfl (by first | exact fun _ k => k | exact fun _ k => blk_to rfl rfl k | exact fun _ k => vec_to rfl k | exact fun _ k => blk_of rfl rfl k | exact fun _ k => vec_of rfl k | exact fun _ k => blk_of rfl rfl (blk_to rfl rfl k) | exact fun _ k => vec_of rfl (vec_to rfl k) | exact fun _ k => mp_to rfl k | exact fun _ k => mp_of rfl k | exact fun _ k => mp_of rfl (mp_to rfl k)) (fun h k => sat_add vec_emp ((fun h k => sat_add alls_nil ((fun h k => sat_nil k) h k)) h k)) k) ⟨[], .nil, 0, ?_, Nat.le_refl _, (by rw [hq]; rfl), (by rw [hp]; rfl)⟩
    rw [hq]
    simp only [g, ha, e1, e4, e1, ret1, Stp.vals]
    rfl
  have g3 := hN _ g3
  refine CondOb.split (fun g => ?_) (fun g4 => ?_)
  · refine CondOb.split (fun _ => ?_) (fun h => absurd g (by rw [h]; decide))
    have g := hE _ g
    refine call_ix (next_spec b A c L (p + 2) hc hb) rfl [1] (fun h k => sat_pick 1 rfl (by first | exact fun _ k => k | exact fun _ k => blk_to rfl rfl k | exact fun _ k => vec_to rfl k | exact fun _ k => blk_of rfl rfl k | exact fun _ k => vec_of rfl k | exact fun _ k => blk_of rfl rfl (blk_to rfl rfl k) | exact fun _ k => vec_of rfl (vec_to rfl k) | exact fun _ k => mp_to rfl k | exact fun _ k => mp_of rfl k | exact fun _ k => mp_of rfl (mp_to rfl k)) (fun h k => sat_pick 0 rfl (by first | exact fun _ k => k | exact fun _ k => blk_to rfl rfl k | exact fun _ k => vec_to rfl k | exact fun _ k => blk_of rfl rfl k | exact fun _ k => vec_of rfl k | exact fun _ k => blk_of rfl rfl (blk_to rfl rfl k) | exact fun _ k => vec_of rfl (vec_to rfl k) | exact fun _ k => mp_to rfl k | exact fun _ k => mp_of rfl k | exact fun _ k => mp_of rfl (mp_to rfl k)) (fun h k => sat_pick 0 rfl (by first | exact fun _ k => k | exact fun _ k => blk_to rfl rfl k | exact fun _ k => vec_to rfl k | exact fun _ k => blk_of rfl rfl k | exact fun _ k => vec_of rfl k | exact fun _ k => blk_of rfl rfl (blk_to rfl rfl k) | exact fun _ k => vec_of rfl (vec_to rfl k) | exact fun _ k => mp_to rfl k | exact fun _ k => mp_of rfl k | exact fun _ k => mp_of rfl (mp_to rfl k)) (fun h k => sat_nil k) k) k) k) (fun f' b' hs _ => hA.frame hs) ?_
    rintro v post ⟨rfl, rfl⟩
    refine ⟨.int .i64 (L.getD (p + 2) 0), _, 3, [.asn _], NmExt.refl _, rfl, (fun h k => sat_pick 0 rfl (by first | exact fun _ k => k | exact fun _ k => blk_to rfl rfl k | exact fun _ k => vec_to rfl k | exact fun _ k => blk_of rfl rfl k | exact fun _ k => vec_of rfl k | exact fun _ k => blk_of rfl rfl (blk_to rfl rfl k) | exact fun _ k => vec_of rfl (vec_to rfl k) | exact fun _ k => mp_to rfl k | exact fun _ k => mp_of rfl k | exact fun _ k => mp_of rfl (mp_to rfl k)) (fun h k => sat_nil k) k), ?_⟩
    have hq : stp L p = { act := 4, host := L.getD (p + 1) 0 % 4, ctx := L.getD (p + 1) 0 / 4 % 4, n := L.getD (p + 2) 0 } := by simp [stp, g, -List.getD_eq_getElem?_getD]
    have hp : stpN L p = p + 3 := by simp [stpN, g, -List.getD_eq_getElem?_getD]
    refine FinOb.mk _ [rdr b A c L (p + 3), Vec .nil 102 11 0 [], Alls []] rfl (fun h k => sat_pick 2 rfl (by first | exact fun _ k => k | exact fun _ k => blk_to rfl rfl k | exact fun _ k => vec_to rfl k | exact fun _ k => blk_of rfl rfl k | exact fun _ k => vec_of rfl k | exact fun _ k => blk_of rfl rfl (blk_to rfl rfl k) | exact fun _ k => vec_of rfl (vec_to rfl k) | exact fun _ k => mp_to rfl k | exact fun _ k => mp_of rfl k | exact fun _ k => mp_of rfl (mp_to rfl k)) (fun h k => sat_add vec_emp ((fun h k => sat_add alls_nil ((fun h k => sat_nil k) h k)) h k)) k) ⟨[], .nil, 0, ?_, Nat.le_refl _, (by rw [hq]; rfl), (by rw [hp]; rfl)⟩
    rw [hq]
    simp only [g, ha, e1, e4, e1, ret1, Stp.vals]
    rfl
  have g4 := hN _ g4
  refine CondOb.split (fun g => ?_) (fun g5 => ?_)
  · refine CondOb.split (fun _ => ?_) (fun h => absurd g (by rw [h]; decide))
    have g := hE _ g
    refine call_ix (next_spec b A c L (p + 2) hc hb) rfl [1] (fun h k => sat_pick 1 rfl (by first | exact fun _ k => k | exact fun _ k => blk_to rfl rfl k | exact fun _ k => vec_to rfl k | exact fun _ k => blk_of rfl rfl k | exact fun _ k => vec_of rfl k | exact fun _ k => blk_of rfl rfl (blk_to rfl rfl k) | exact fun _ k => vec_of rfl (vec_to rfl k) | exact fun _ k => mp_to rfl k | exact fun _ k => mp_of rfl k | exact fun _ k => mp_of rfl (mp_to rfl k)) (fun h k => sat_pick 0 rfl (by first | exact fun _ k => k | exact fun _ k => blk_to rfl rfl k | exact fun _ k => vec_to rfl k | exact fun _ k => blk_of rfl rfl k | exact fun _ k => vec_of rfl k | exact fun _ k => blk_of rfl rfl (blk_to rfl rfl k) | exact fun _ k => vec_of rfl (vec_to rfl k) | exact fun _ k => mp_to rfl k | exact fun _ k => mp_of rfl k | exact fun _ k => mp_of rfl (mp_to rfl k)) (fun h k => sat_pick 0 rfl (by first | exact fun _ k => k | exact fun _ k => blk_to rfl rfl k | exact fun _ k => vec_to rfl k | exact fun _ k => blk_of rfl rfl k | exact fun _ k => vec_of rfl k | exact fun _ k => blk_of rfl rfl (blk_to rfl rfl k) | exact fun _ k => vec_of rfl (vec_to rfl k) | exact fun _ k => mp_to rfl k | exact fun _ k => mp_of rfl k | exact fun _ k => mp_of rfl (mp_to rfl k)) (fun h k => sat_nil k) k) k) k) (fun f' b' hs _ => hA.frame hs) ?_
    rintro v post ⟨rfl, rfl⟩
    refine ⟨.int .i64 (L.getD (p + 2) 0), _, 3, [.asn _], NmExt.refl _, rfl, (fun h k => sat_pick 0 rfl (by first | exact fun _ k => k | exact fun _ k => blk_to rfl rfl k | exact fun _ k => vec_to rfl k | exact fun _ k => blk_of rfl rfl k | exact fun _ k => vec_of rfl k | exact fun _ k => blk_of rfl rfl (blk_to rfl rfl k) | exact fun _ k => vec_of rfl (vec_to rfl k) | exact fun _ k => mp_to rfl k | exact fun _ k => mp_of rfl k | exact fun _ k => mp_of rfl (mp_to rfl k)) (fun h k => sat_nil k) k), ?_⟩
    have hq : stp L p = { act := 5, host := L.getD (p + 1) 0 % 4, ctx := L.getD (p + 1) 0 / 4 % 4, n := L.getD (p + 2) 0 } := by simp [stp, g, -List.getD_eq_getElem?_getD]
    have hp : stpN L p = p + 3 := by simp [stpN, g, -List.getD_eq_getElem?_getD]
    refine FinOb.mk _ [rdr b A c L (p + 3), Vec .nil 102 11 0 [], Alls []] rfl (fun h k => sat_pick 2 rfl (by first | exact fun _ k => k | exact fun _ k => blk_to rfl rfl k | exact fun _ k => vec_to rfl k | exact fun _ k => blk_of rfl rfl k | exact fun _ k => vec_of rfl k | exact fun _ k => blk_of rfl rfl (blk_to rfl rfl k) | exact fun _ k => vec_of rfl (vec_to rfl k) | exact fun _ k => mp_to rfl k | exact fun _ k => mp_of rfl k | exact fun _ k => mp_of rfl (mp_to rfl k)) (fun h k => sat_add vec_emp ((fun h k => sat_add alls_nil ((fun h k => sat_nil k) h k)) h k)) k) ⟨[], .nil, 0, ?_, Nat.le_refl _, (by rw [hq]; rfl), (by rw [hp]; rfl)⟩
    rw [hq]
    simp only [g, ha, e1, e4, e1, ret1, Stp.vals]
    rfl
  have g5 := hN _ g5
  refine CondOb.split (fun g => ?_) (fun g7 => ?_)
  · have g := hE _ g
    refine call_ix (next_spec b A c L (p + 2) hc hb) rfl [1] (fun h k => sat_pick 1 rfl (by first | exact fun _ k => k | exact fun _ k => blk_to rfl rfl k | exact fun _ k => vec_to rfl k | exact fun _ k => blk_of rfl rfl k | exact fun _ k => vec_of rfl k | exact fun _ k => blk_of rfl rfl (blk_to rfl rfl k) | exact fun _ k => vec_of rfl (vec_to rfl k) | exact fun _ k => mp_to rfl k | exact fun _ k => mp_of rfl k | exact fun _ k => mp_of rfl (mp_to rfl k)) (fun h k => sat_pick 0 rfl (by first | exact fun _ k => k | exact fun _ k => blk_to rfl rfl k | exact fun _ k => vec_to rfl k | exact fun _ k => blk_of rfl rfl k | exact fun _ k => vec_of rfl k | exact fun _ k => blk_of rfl rfl (blk_to rfl rfl k) | exact fun _ k => vec_of rfl (vec_to rfl k) | exact fun _ k => mp_to rfl k | exact fun _ k => mp_of rfl k | exact fun _ k => mp_of rfl (mp_to rfl k)) (fun h k => sat_pick 0 rfl (by first | exact fun _ k => k | exact fun _ k => blk_to rfl rfl k | exact fun _ k => vec_to rfl k | exact fun _ k => blk_of rfl rfl k | exact fun _ k => vec_of rfl k | exact fun _ k => blk_of rfl rfl (blk_to rfl rfl k) | exact fun _ k => vec_of rfl (vec_to rfl k) | exact fun _ k => mp_to rfl k | exact fun _ k => mp_of rfl k | exact fun _ k => mp_of rfl (mp_to rfl k)) (fun h k => sat_nil k) k) k) k) (fun f' b' hs _ => hA.frame hs) ?_
    rintro v post ⟨rfl, rfl⟩
    refine ⟨.int .i64 (L.getD (p + 2) 0), _, 3, [.asn _], NmExt.refl _, rfl, (fun h k => sat_pick 0 rfl (by first | exact fun _ k => k | exact fun _ k => blk_to rfl rfl k | exact fun _ k => vec_to rfl k | exact fun _ k => blk_of rfl rfl k | exact fun _ k => vec_of rfl k | exact fun _ k => blk_of rfl rfl (blk_to rfl rfl k) | exact fun _ k => vec_of rfl (vec_to rfl k) | exact fun _ k => mp_to rfl k | exact fun _ k => mp_of rfl k | exact fun _ k => mp_of rfl (mp_to rfl k)) (fun h k => sat_nil k) k), ?_⟩
    have hq : stp L p = { act := 7, host := L.getD (p + 1) 0 % 4, ctx := L.getD (p + 1) 0 / 4 % 4, n := L.getD (p + 2) 0 } := by simp [stp, g, -List.getD_eq_getElem?_getD]
    have hp : stpN L p = p + 3 := by simp [stpN, g, -List.getD_eq_getElem?_getD]
    refine FinOb.mk _ [rdr b A c L (p + 3), Vec .nil 102 11 0 [], Alls []] rfl (fun h k => sat_pick 2 rfl (by first | exact fun _ k => k | exact fun _ k => blk_to rfl rfl k | exact fun _ k => vec_to rfl k | exact fun _ k => blk_of rfl rfl k | exact fun _ k => vec_of rfl k | exact fun _ k => blk_of rfl rfl (blk_to rfl rfl k) | exact fun _ k => vec_of rfl (vec_to rfl k) | exact fun _ k => mp_to rfl k | exact fun _ k => mp_of rfl k | exact fun _ k => mp_of rfl (mp_to rfl k)) (fun h k => sat_add vec_emp ((fun h k => sat_add alls_nil ((fun h k => sat_nil k) h k)) h k)) k) ⟨[], .nil, 0, ?_, Nat.le_refl _, (by rw [hq]; rfl), (by rw [hp]; rfl)⟩
    rw [hq]
    simp only [g, ha, e1, e4, e1, ret1, Stp.vals]
    rfl
  have g7 := hN _ g7
  refine CondOb.split (fun g => ?_) (fun g6 => ?_)
  · have g := hE _ g
    refine call_ix (next_spec b A c L (p + 2) hc hb) rfl [1] (fun h k => sat_pick 1 rfl (by first | exact fun _ k => k | exact fun _ k => blk_to rfl rfl k | exact fun _ k => vec_to rfl k | exact fun _ k => blk_of rfl rfl k | exact fun _ k => vec_of rfl k | exact fun _ k => blk_of rfl rfl (blk_to rfl rfl k) | exact fun _ k => vec_of rfl (vec_to rfl k) | exact fun _ k => mp_to rfl k | exact fun _ k => mp_of rfl k | exact fun _ k => mp_of rfl (mp_to rfl k)) (fun h k => sat_pick 0 rfl (by first | exact fun _ k => k | exact fun _ k => blk_to rfl rfl k | exact fun _ k => vec_to rfl k | exact fun _ k => blk_of rfl rfl k | exact fun _ k => vec_of rfl k | exact fun _ k => blk_of rfl rfl (blk_to rfl rfl k) | exact fun _ k => vec_of rfl (vec_to rfl k) | exact fun _ k => mp_to rfl k | exact fun _ k => mp_of rfl k | exact fun _ k => mp_of rfl (mp_to rfl k)) (fun h k => sat_pick 0 rfl (by first | exact fun _ k => k | exact fun _ k => blk_to rfl rfl k | exact fun _ k => vec_to rfl k | exact fun _ k => blk_of rfl rfl k | exact fun _ k => vec_of rfl k | exact fun _ k => blk_of rfl rfl (blk_to rfl rfl k) | exact fun _ k => vec_of rfl (vec_to rfl k) | exact fun _ k => mp_to rfl k | exact fun _ k => mp_of rfl k | exact fun _ k => mp_of rfl (mp_to rfl k)) (fun h k => sat_nil k) k) k) k) (fun f' b' hs _ => hA.frame hs) ?_
    rintro v post ⟨rfl, rfl⟩
    refine ⟨.int .i64 (L.getD (p + 2) 0), _, 3, [.asn _], NmExt.refl _, rfl, (fun h k => sat_pick 0 rfl (by first | exact fun _ k => k | exact fun _ k => blk_to rfl rfl k | exact fun _ k => vec_to rfl k | exact fun _ k => blk_of rfl rfl k | exact fun _ k => vec_of rfl k | exact fun _ k => blk_of rfl rfl (blk_to rfl rfl k) | exact fun _ k => vec_of rfl (vec_to rfl k) | exact fun _ k => mp_to rfl k | exact fun _ k => mp_of rfl k | exact fun _ k => mp_of rfl (mp_to rfl k)) (fun h k => sat_nil k) k), ?_⟩
    refine call_ix (next_spec b A c L (p + 3) hc hb) rfl [0] (fun h k => sat_pick 0 rfl (by first | exact fun _ k => k | exact fun _ k => blk_to rfl rfl k | exact fun _ k => vec_to rfl k | exact fun _ k => blk_of rfl rfl k | exact fun _ k => vec_of rfl k | exact fun _ k => blk_of rfl rfl (blk_to rfl rfl k) | exact fun _ k => vec_of rfl (vec_to rfl k) | exact fun _ k => mp_to rfl k | exact fun _ k => mp_of rfl k | exact fun _ k => mp_of rfl (mp_to rfl k)) (fun h k => sat_pick 0 rfl (by first | exact fun _ k => k | exact fun _ k => blk_to rfl rfl k | exact fun _ k => vec_to rfl k | exact fun _ k => blk_of rfl rfl k | exact fun _ k => vec_of rfl k | exact fun _ k => blk_of rfl rfl (blk_to rfl rfl k) | exact fun _ k => vec_of rfl (vec_to rfl k) | exact fun _ k => mp_to rfl k | exact fun _ k => mp_of rfl k | exact fun _ k => mp_of rfl (mp_to rfl k)) (fun h k => sat_pick 0 rfl (by first | exact fun _ k => k | exact fun _ k => blk_to rfl rfl k | exact fun _ k => vec_to rfl k | exact fun _ k => blk_of rfl rfl k | exact fun _ k => vec_of rfl k | exact fun _ k => blk_of rfl rfl (blk_to rfl rfl k) | exact fun _ k => vec_of rfl (vec_to rfl k) | exact fun _ k => mp_to rfl k | exact fun _ k => mp_of rfl k | exact fun _ k => mp_of rfl (mp_to rfl k)) (fun h k => sat_nil k) k) k) k) (fun f' b' hs _ => hA.frame hs) ?_
    rintro v post ⟨rfl, rfl⟩
    refine ⟨.int .i64 (L.getD (p + 3) 0), _, 3, [.asn _], NmExt.refl _, rfl, (fun h k => sat_pick 0 rfl (by first | exact fun _ k => k | exact fun _ k => blk_to rfl rfl k | exact fun _ k => vec_to rfl k | exact fun _ k => blk_of rfl rfl k | exact fun _ k => vec_of rfl k | exact fun _ k => blk_of rfl rfl (blk_to rfl rfl k) | exact fun _ k => vec_of rfl (vec_to rfl k) | exact fun _ k => mp_to rfl k | exact fun _ k => mp_of rfl k | exact fun _ k => mp_of rfl (mp_to rfl k)) (fun h k => sat_nil k) k), ?_⟩
    refine call_ix (next_spec b A c L (p + 4) hc hb) rfl [0] (fun h k => sat_pick 0 rfl (by first | exact fun _ k => k | exact fun _ k => blk_to rfl rfl k | exact fun _ k => vec_to rfl k | exact fun _ k => blk_of rfl rfl k | exact fun _ k => vec_of rfl k | exact fun _ k => blk_of rfl rfl (blk_to rfl rfl k) | exact fun _ k => vec_of rfl (vec_to rfl k) | exact fun _ k => mp_to rfl k | exact fun _ k => mp_of rfl k | exact fun _ k => mp_of rfl (mp_to rfl k)) (fun h k => sat_pick 0 rfl (by first | exact fun _ k => k | exact fun _ k => blk_to rfl rfl k | exact fun _ k => vec_to rfl k | exact fun _ k => blk_of rfl rfl k | exact fun _ k => vec_of rfl k | exact fun _ k => blk_of rfl rfl (blk_to rfl rfl k) | exact fun _ k => vec_of rfl (vec_to rfl k) | exact fun _ k => mp_to rfl k | exact fun _ k => mp_of rfl k | exact fun _ k => mp_of rfl (mp_to rfl k)) (fun h k => sat_pick 0 rfl (by first | exact fun _ k => k | exact fun _ k => blk_to rfl rfl k | exact fun _ k => vec_to rfl k | exact fun _ k => blk_of rfl rfl k | exact fun _ k => vec_of rfl k | exact fun _ k => blk_of rfl rfl (blk_to rfl rfl k) | exact fun _ k => vec_of rfl (vec_to rfl k) | exact fun _ k => mp_to rfl k | exact fun _ k => mp_of rfl k | exact fun _ k => mp_of rfl (mp_to rfl k)) (fun h k => sat_nil k) k) k) k) (fun f' b' hs _ => hA.frame hs) ?_
    rintro v post ⟨rfl, rfl⟩
    refine ⟨.int .i64 (L.getD (p + 4) 0), _, 3, [.asn _], NmExt.refl _, rfl, (fun h k => sat_pick 0 rfl (by first | exact fun _ k => k | exact fun _ k => blk_to rfl rfl k | exact fun _ k => vec_to rfl k | exact fun _ k => blk_of rfl rfl k | exact fun _ k => vec_of rfl k | exact fun _ k => blk_of rfl rfl (blk_to rfl rfl k) | exact fun _ k => vec_of rfl (vec_to rfl k) | exact fun _ k => mp_to rfl k | exact fun _ k => mp_of rfl k | exact fun _ k => mp_of rfl (mp_to rfl k)) (fun h k => sat_nil k) k), ?_⟩
    have eb : IntKind.u8.wrap (L.getD (p + 4) 0) = L.getD (p + 4) 0 := w8 (by omega) (by omega)
    have hq : stp L p = { act := 6, host := L.getD (p + 1) 0 % 4, ctx := L.getD (p + 1) 0 / 4 % 4, n := L.getD (p + 2) 0, at_ := L.getD (p + 3) 0, by_ := L.getD (p + 4) 0 } := by simp [stp, g, -List.getD_eq_getElem?_getD]
    have hp : stpN L p = p + 5 := by simp [stpN, g, -List.getD_eq_getElem?_getD]
    refine FinOb.mk _ [rdr b A c L (p + 5), Vec .nil 102 11 0 [], Alls []] rfl (fun h k => sat_pick 2 rfl (by first | exact fun _ k => k | exact fun _ k => blk_to rfl rfl k | exact fun _ k => vec_to rfl k | exact fun _ k => blk_of rfl rfl k | exact fun _ k => vec_of rfl k | exact fun _ k => blk_of rfl rfl (blk_to rfl rfl k) | exact fun _ k => vec_of rfl (vec_to rfl k) | exact fun _ k => mp_to rfl k | exact fun _ k => mp_of rfl k | exact fun _ k => mp_of rfl (mp_to rfl k)) (fun h k => sat_add vec_emp ((fun h k => sat_add alls_nil ((fun h k => sat_nil k) h k)) h k)) k) ⟨[], .nil, 0, ?_, Nat.le_refl _, (by rw [hq]; rfl), (by rw [hp]; rfl)⟩
    rw [hq]
    simp only [g, ha, e1, e4, eb, ret1, Stp.vals]
    rfl
  have g6 := hN _ g6
  have g : L.getD p 0 % 9 = 8 := by omega
  have hq : stp L p = { act := 8, host := L.getD (p + 1) 0 % 4, ctx := L.getD (p + 1) 0 / 4 % 4, n := 0 } := by simp [stp, g, -List.getD_eq_getElem?_getD]
  have hp : stpN L p = p + 2 := by simp [stpN, g, -List.getD_eq_getElem?_getD]
  refine FinOb.mk _ [rdr b A c L (p + 2), Vec .nil 102 11 0 [], Alls []] rfl (fun h k => sat_pick 2 rfl (by first | exact fun _ k => k | exact fun _ k => blk_to rfl rfl k | exact fun _ k => vec_to rfl k | exact fun _ k => blk_of rfl rfl k | exact fun _ k => vec_of rfl k | exact fun _ k => blk_of rfl rfl (blk_to rfl rfl k) | exact fun _ k => vec_of rfl (vec_to rfl k) | exact fun _ k => mp_to rfl k | exact fun _ k => mp_of rfl k | exact fun _ k => mp_of rfl (mp_to rfl k)) (fun h k => sat_add vec_emp ((fun h k => sat_add alls_nil ((fun h k => sat_nil k) h k)) h k)) k) ⟨[], .nil, 0, ?_, Nat.le_refl _, (by rw [hq]; rfl), (by rw [hp]; rfl)⟩
  rw [hq]
  simp only [g, ha, e1, e4, e1, ret1, Stp.vals]
  rfl
end Go.Proofs.Ytlgdagjbphafcaa.Sc
