/- script: Decode. Conditions: none. -/
import Derived.Test.YtlgdagjbphafcaaScF
namespace Go.Proofs.Ytlgdagjbphafcaa.Sc
open Go Go.Proofs Sx
set_option maxRecDepth 100000
set_option linter.unusedVariables false
set_option linter.unusedSimpArgs false
set_option maxHeartbeats 4000000

theorem rdr_zero (b : Nat) (A : Option Addr) (c : Nat) (L : List Int) : rdr b A c L 0 = pt b (.cells #[.slice A L.length c] 167 (0, 0)) := by simp [rdr, adr]
/-- A step, its entries as they lie. -/
abbrev Sn := Stp × List En × Plc × Nat
def SL : Lay Sn where
  cells e := e.1.vals (locAddr 0 e.2.2.1) e.2.2.2
  sz := 7
  len _ := rfl
  one e v hv := by
    simp only [Stp.vals, List.mem_cons, List.not_mem_nil, or_false] at hv
    rcases hv with rfl | rfl | rfl | rfl | rfl | rfl | rfl <;> rfl
theorem lS (l : List Sn) : (SL.flat l).length = l.length * 7 := by rw [SL.flat_length]; rfl
def Sn.parts (s : Sn) : List Asn := [Vec s.2.2.1 102 11 s.2.2.2 (EL.flat s.2.1), Alls (s.2.1.map En.data)]
def Stp.svs (s : Stp) (D : Option Addr) (d : Nat) : List SV := [.int .i64 s.act, .int .i64 s.host, .int .i64 s.ctx, .int .i64 s.n, .int .i64 s.at_, .int .u8 s.by_, .raw (.slice D s.l.length d)]
/-- Where a reader stands behind the setup and so many steps. -/
def dpos (L : List Int) : Nat → Nat
  | 0 => 8
  | k + 1 => stpN L (dpos L k)
/-- So many steps bytes are. -/
structure Dn (L : List Int) (k : Nat) : Prop where
  most : k ≤ 300
  all : ∀ j, j < k → dpos L j < L.length
  done : L.length ≤ dpos L k ∨ k = 300
structure Sns (L : List Int) (ss : List Sn) : Prop where
  steps : ss.map (·.1) = (List.range ss.length).map (fun j => stp L (dpos L j))
  lists : ∀ s ∈ ss, s.2.1.map (·.1) = s.1.l ∧ s.2.1.length ≤ s.2.2.2
def rcell (A : Option Addr) (c : Nat) (L : List Int) (p : Nat) : SV := .raw (.slice (adr A c (min p L.length)).1 (L.length - p) (adr A c (min p L.length)).2)
theorem zero96 : True := trivial
theorem decode_spec (A : Option Addr) (c : Nat) (L : List Int) (hc : L.length ≤ c) (hb : ∀ x ∈ L, 0 ≤ x ∧ x ≤ 255) (hl : L.length ≤ 1000000) :
    Does Try.prog 61 #[.slice A L.length c] (fun f => Reads f A (U8.flat L)) []
      (fun v q => ∃ (ss : List Sn) (pl : Plc) (cl : Nat), v = .tuple #[.agg (setV L).toArray, .slice (locAddr 0 pl) ss.length cl] ∧ Dn L ss.length ∧ Sns L ss ∧ ss.length ≤ cl ∧ q = [Vec pl 111 7 cl (SL.flat ss), Alls (ss.flatMap Sn.parts)]) := by
  refine Does.of Try.func61 Try.call61 rfl [.raw (.slice A L.length c)] [] 0 [] rfl rfl (fun h k => k) (fun f hA => ?_)
  intro b1 b2
  refine call_ix (setup_spec b2 A c L hc hb) rfl [0] (fun h k => sat_pick 0 rfl (fun _ k => by rw [rdr_zero]; exact blk_to rfl rfl k) (fun h k => sat_pick 0 rfl (by first | exact fun _ k => k | exact fun _ k => blk_to rfl rfl k | exact fun _ k => vec_to rfl k | exact fun _ k => blk_of rfl rfl k | exact fun _ k => vec_of rfl k | exact fun _ k => blk_of rfl rfl (blk_to rfl rfl k) | exact fun _ k => vec_of rfl (vec_to rfl k) | exact fun _ k => mp_to rfl k | exact fun _ k => mp_of rfl k | exact fun _ k => mp_of rfl (mp_to rfl k)) (fun h k => sat_nil k) k) k) (fun f' b' hs _ => hA.frame hs) ?_
  rintro v post ⟨rfl, rfl⟩
  refine ⟨.agg [.int .i64 (1 + L.getD 0 0 % 3), .int .i64 (1 + L.getD 1 0 % 2), .int .i64 (128 + 8 * L.getD 2 0),
   .int .i64 (88 + 2 * L.getD 3 0), .int .i64 (1 + 4 * L.getD 4 0), .int .i64 (1 + 4 * L.getD 5 0), .int .i64 1, .int .i64 64, .int .i64 (1 + L.getD 6 0 % 16), .int .i64 3, .int .i64 10, .int .i64 100,
   .int .i64 8, .int .i64 (1 + L.getD 7 0 % 8), .int .u32 4294967232], _, 2, [.blk 1 167 [rcell A c L 8]], NmExt.refl _, rfl, (fun h k => sat_pick 0 rfl (fun _ k => blk_of rfl rfl k) (fun h k => sat_nil k) k), ?_⟩
  intro b3
  refine LoopOb.mk { z : List Sn × Plc × Nat // z.1.length ≤ 300 ∧ (∀ j, j < z.1.length → dpos L j < L.length) ∧ Sns L z.1 ∧ z.1.length ≤ z.2.2 } (fun z => ⟨30, [(2, .ptr 0 0), (4, .ptr 1 0), (5, .ptr 2 0), (6, .sl 3 0 z.1.1.length z.1.2.2)], [(3, z.1.2.1), (2, .at b3 0), (1, .at b2 0), (0, .at b1 0)], 4,
      [.blk 2 96 [.int .i64 (1 + L.getD 0 0 % 3), .int .i64 (1 + L.getD 1 0 % 2), .int .i64 (128 + 8 * L.getD 2 0),
   .int .i64 (88 + 2 * L.getD 3 0), .int .i64 (1 + 4 * L.getD 4 0), .int .i64 (1 + 4 * L.getD 5 0), .int .i64 1, .int .i64 64, .int .i64 (1 + L.getD 6 0 % 16), .int .i64 3, .int .i64 10, .int .i64 100,
   .int .i64 8, .int .i64 (1 + L.getD 7 0 % 8), .int .u32 4294967232], .blk 1 167 [rcell A c L (dpos L z.1.1.length)],
       .blk 0 96 [.int .i64 0, .int .i64 0, .int .i64 0, .int .i64 0, .int .i64 0, .int .i64 0, .int .i64 0, .int .i64 0, .int .i64 0, .int .i64 0, .int .i64 0, .int .i64 0, .int .i64 0, .int .i64 0, .int .u32 0],
       .vec 3 111 7 z.1.2.2 (SL.flat z.1.1), .asn (Alls (z.1.1.flatMap Sn.parts))]⟩) (fun z => 300 - z.1.1.length) ⟨([], .nil, 0), by simp, by simp, ⟨rfl, by simp⟩, by simp⟩ ?_ ?_
  · exact Le.of rfl ⟨⟨_, rfl, rfl⟩, ⟨_, rfl, rfl⟩, ⟨_, rfl, rfl⟩, ⟨_, rfl, rfl⟩, trivial⟩ (fun h k => sat_pick 0 rfl (by first | exact fun _ k => k | exact fun _ k => blk_to rfl rfl k | exact fun _ k => vec_to rfl k | exact fun _ k => blk_of rfl rfl k | exact fun _ k => vec_of rfl k | exact fun _ k => blk_of rfl rfl (blk_to rfl rfl k) | exact fun _ k => vec_of rfl (vec_to rfl k) | exact fun _ k => mp_to rfl k | exact fun _ k => mp_of rfl k | exact fun _ k => mp_of rfl (mp_to rfl k)) (fun h k => sat_pick 0 rfl (by first | exact fun _ k => k | exact fun _ k => blk_to rfl rfl k | exact fun _ k => vec_to rfl k | exact fun _ k => blk_of rfl rfl k | exact fun _ k => vec_of rfl k | exact fun _ k => blk_of rfl rfl (blk_to rfl rfl k) | exact fun _ k => vec_of rfl (vec_to rfl k) | exact fun _ k => mp_to rfl k | exact fun _ k => mp_of rfl k | exact fun _ k => mp_of rfl (mp_to rfl k)) (fun h k => sat_pick 0 rfl (by first | exact fun _ k => k | exact fun _ k => blk_to rfl rfl k | exact fun _ k => vec_to rfl k | exact fun _ k => blk_of rfl rfl k | exact fun _ k => vec_of rfl k | exact fun _ k => blk_of rfl rfl (blk_to rfl rfl k) | exact fun _ k => vec_of rfl (vec_to rfl k) | exact fun _ k => mp_to rfl k | exact fun _ k => mp_of rfl k | exact fun _ k => mp_of rfl (mp_to rfl k)) (fun h k => sat_add (vec_of rfl vec_emp) ((fun h k => sat_add alls_nil ((fun h k => sat_nil k) h k)) h k)) k) k) k)
  rintro ⟨⟨ss, pl, cl⟩, h300, hall, hss, hcl⟩
  simp only at h300 hall hss hcl
  refine Br.mk (fun g => ?_) (fun g => ?_)
  · simp only [decide_eq_true_eq] at g
    replace g : ((L.length - dpos L ss.length : Nat) : Int) > 0 := g
    refine CondOb.split (fun g2 => ?_) (fun g2 => ?_)
    · simp only [decide_eq_true_eq] at g2
      replace g2 : (ss.length : Int) < 300 := g2
      refine call_ix (step_spec b2 A c L (dpos L ss.length) hc hb) rfl [1] (fun h k => sat_pick 1 rfl (fun _ k => blk_to rfl rfl k) (fun h k => sat_pick 0 rfl (by first | exact fun _ k => k | exact fun _ k => blk_to rfl rfl k | exact fun _ k => vec_to rfl k | exact fun _ k => blk_of rfl rfl k | exact fun _ k => vec_of rfl k | exact fun _ k => blk_of rfl rfl (blk_to rfl rfl k) | exact fun _ k => vec_of rfl (vec_to rfl k) | exact fun _ k => mp_to rfl k | exact fun _ k => mp_of rfl k | exact fun _ k => mp_of rfl (mp_to rfl k)) (fun h k => sat_pick 0 rfl (by first | exact fun _ k => k | exact fun _ k => blk_to rfl rfl k | exact fun _ k => vec_to rfl k | exact fun _ k => blk_of rfl rfl k | exact fun _ k => vec_of rfl k | exact fun _ k => blk_of rfl rfl (blk_to rfl rfl k) | exact fun _ k => vec_of rfl (vec_to rfl k) | exact fun _ k => mp_to rfl k | exact fun _ k => mp_of rfl k | exact fun _ k => mp_of rfl (mp_to rfl k)) (fun h k => sat_pick 0 rfl (by first | exact fun _ k => k | exact fun _ k => blk_to rfl rfl k | exact fun _ k => vec_to rfl k | exact fun _ k => blk_of rfl rfl k | exact fun _ k => vec_of rfl k | exact fun _ k => blk_of rfl rfl (blk_to rfl rfl k) | exact fun _ k => vec_of rfl (vec_to rfl k) | exact fun _ k => mp_to rfl k | exact fun _ k => mp_of rfl k | exact fun _ k => mp_of rfl (mp_to rfl k)) (fun h k => sat_pick 0 rfl (by first | exact fun _ k => k | exact fun _ k => blk_to rfl rfl k | exact fun _ k => vec_to rfl k | exact fun _ k => blk_of rfl rfl k | exact fun _ k => vec_of rfl k | exact fun _ k => blk_of rfl rfl (blk_to rfl rfl k) | exact fun _ k => vec_of rfl (vec_to rfl k) | exact fun _ k => mp_to rfl k | exact fun _ k => mp_of rfl k | exact fun _ k => mp_of rfl (mp_to rfl k)) (fun h k => sat_nil k) k) k) k) k) k) (fun f' b' hs _ => hA.frame hs) ?_
      rintro v post ⟨es, pl2, cl2, rfl, hel, hes, rfl⟩
      refine ⟨.agg ((stp L (dpos L ss.length)).svs (locAddr 0 pl2) cl2), _, 4, [.blk 1 167 [rcell A c L (stpN L (dpos L ss.length))], .asn _, .asn _], NmExt.refl _, rfl, (fun h k => sat_pick 0 rfl (fun _ k => blk_of rfl rfl k) (fun h k => sat_pick 0 rfl (by first | exact fun _ k => k | exact fun _ k => blk_to rfl rfl k | exact fun _ k => vec_to rfl k | exact fun _ k => blk_of rfl rfl k | exact fun _ k => vec_of rfl k | exact fun _ k => blk_of rfl rfl (blk_to rfl rfl k) | exact fun _ k => vec_of rfl (vec_to rfl k) | exact fun _ k => mp_to rfl k | exact fun _ k => mp_of rfl k | exact fun _ k => mp_of rfl (mp_to rfl k)) (fun h k => sat_pick 0 rfl (by first | exact fun _ k => k | exact fun _ k => blk_to rfl rfl k | exact fun _ k => vec_to rfl k | exact fun _ k => blk_of rfl rfl k | exact fun _ k => vec_of rfl k | exact fun _ k => blk_of rfl rfl (blk_to rfl rfl k) | exact fun _ k => vec_of rfl (vec_to rfl k) | exact fun _ k => mp_to rfl k | exact fun _ k => mp_of rfl k | exact fun _ k => mp_of rfl (mp_to rfl k)) (fun h k => sat_nil k) k) k) k), ?_⟩
      intro b9
      refine StOb.mk ((stp L (dpos L ss.length)).vals (locAddr 0 pl2) cl2) rfl (Need.mk rfl ?_)
      refine Need.mk ⟨by rw [lS]; simp, by simp only; omega, hcl⟩ ?_
      refine Need.mk ⟨by simp only; omega, by simp only [maxLen]; omega, SL.one (stp L (dpos L ss.length), es, pl2, cl2)⟩ ?_
      refine NewSl.pos (by omega) (fun b10 o10 c10 hc10 => ?_)
      have hlen : (ss ++ [((stp L (dpos L ss.length), es, pl2, cl2) : Sn)]).length = ss.length + 1 := by simp
      refine ⟨⟨(ss ++ [(stp L (dpos L ss.length), es, pl2, cl2)], .at b10 o10, c10), by rw [hlen]; omega, fun j hj => ?_, ⟨?_, fun s hs => ?_⟩, by rw [hlen]; exact hc10⟩, by show 300 - (ss ++ [_]).length < 300 - ss.length; rw [hlen]; omega, Le.of rfl ⟨⟨_, rfl, rfl⟩, ⟨_, rfl, rfl⟩, ⟨_, rfl, rfl⟩, ⟨_, rfl, ?_⟩, trivial⟩ (fun h k => sat_pick 5 rfl (by first | exact fun _ k => k | exact fun _ k => blk_to rfl rfl k | exact fun _ k => vec_to rfl k | exact fun _ k => blk_of rfl rfl k | exact fun _ k => vec_of rfl k | exact fun _ k => blk_of rfl rfl (blk_to rfl rfl k) | exact fun _ k => vec_of rfl (vec_to rfl k) | exact fun _ k => mp_to rfl k | exact fun _ k => mp_of rfl k | exact fun _ k => mp_of rfl (mp_to rfl k)) (fun h k => sat_pick 2 rfl (fun _ k => ?_) (fun h k => sat_pick 4 rfl (by first | exact fun _ k => k | exact fun _ k => blk_to rfl rfl k | exact fun _ k => vec_to rfl k | exact fun _ k => blk_of rfl rfl k | exact fun _ k => vec_of rfl k | exact fun _ k => blk_of rfl rfl (blk_to rfl rfl k) | exact fun _ k => vec_of rfl (vec_to rfl k) | exact fun _ k => mp_to rfl k | exact fun _ k => mp_of rfl k | exact fun _ k => mp_of rfl (mp_to rfl k)) (fun h k => sat_pick 0 rfl (fun _ k => ?_) (fun h k => ?_) k) k) k) k)⟩
      · rw [hlen] at hj
        by_cases e : j = ss.length
        · subst e; omega
        · exact hall j (by omega)
      · rw [hlen, List.range_succ, List.map_append, List.map_append, hss.steps]; rfl
      · rcases List.mem_append.1 hs with hs | hs
        · exact hss.lists s hs
        · simp at hs; subst hs; exact ⟨hes, hel⟩
      · show _ = some (Value.slice (locAddr 0 (.at b10 o10)) (ss ++ [_]).length c10)
        rw [hlen]; rfl
      · exact blk_of rfl (congrArg (fun n => some [Value.slice (adr A c (min (dpos L n) L.length)).1 (L.length - dpos L n) (adr A c (min (dpos L n) L.length)).2]) hlen) (blk_to rfl rfl k)
      · have k := vec_to (l := .at b10 o10) rfl k
        refine vec_of rfl ?_
        rw [List.drop_zero, List.take_of_length_le (by rw [lS]; exact Nat.le_refl _)] at k
        simp only [SL.flat_append, SL.flat_one]
        exact k
      · have k2 : sat [Alls (ss.flatMap Sn.parts), Vec pl2 102 11 cl2 (EL.flat es), Alls (es.map En.data)] h := (fun h k => sat_pick 3 rfl (by first | exact fun _ k => k | exact fun _ k => blk_to rfl rfl k | exact fun _ k => vec_to rfl k | exact fun _ k => blk_of rfl rfl k | exact fun _ k => vec_of rfl k | exact fun _ k => blk_of rfl rfl (blk_to rfl rfl k) | exact fun _ k => vec_of rfl (vec_to rfl k) | exact fun _ k => mp_to rfl k | exact fun _ k => mp_of rfl k | exact fun _ k => mp_of rfl (mp_to rfl k)) (fun h k => sat_pick 1 rfl (by first | exact fun _ k => k | exact fun _ k => blk_to rfl rfl k | exact fun _ k => vec_to rfl k | exact fun _ k => blk_of rfl rfl k | exact fun _ k => vec_of rfl k | exact fun _ k => blk_of rfl rfl (blk_to rfl rfl k) | exact fun _ k => vec_of rfl (vec_to rfl k) | exact fun _ k => mp_to rfl k | exact fun _ k => mp_of rfl k | exact fun _ k => mp_of rfl (mp_to rfl k)) (fun h k => sat_pick 1 rfl (by first | exact fun _ k => k | exact fun _ k => blk_to rfl rfl k | exact fun _ k => vec_to rfl k | exact fun _ k => blk_of rfl rfl k | exact fun _ k => vec_of rfl k | exact fun _ k => blk_of rfl rfl (blk_to rfl rfl k) | exact fun _ k => vec_of rfl (vec_to rfl k) | exact fun _ k => mp_to rfl k | exact fun _ k => mp_of rfl k | exact fun _ k => mp_of rfl (mp_to rfl k)) (fun h k => sat_nil k) k) k) k) h k
        have k3 := alls_push (alls_push k2)
        show sat [Alls ((ss ++ [((stp L (dpos L ss.length), es, pl2, cl2) : Sn)]).flatMap Sn.parts)] h
        have e : (ss ++ [((stp L (dpos L ss.length), es, pl2, cl2) : Sn)]).flatMap Sn.parts = ss.flatMap Sn.parts ++ [Vec pl2 102 11 cl2 (EL.flat es)] ++ [Alls (es.map En.data)] := by simp [Sn.parts]
        rw [e]
        exact k3
    · simp only [decide_eq_false_iff_not] at g2
      replace g2 : ¬ (ss.length : Int) < 300 := g2
      exact FinOb.mk _ [Vec pl 111 7 cl (SL.flat ss), Alls (ss.flatMap Sn.parts)] rfl (fun h k => sat_pick 3 rfl (fun _ k => vec_to (l := pl) rfl k) (fun h k => sat_pick 3 rfl (by first | exact fun _ k => k | exact fun _ k => blk_to rfl rfl k | exact fun _ k => vec_to rfl k | exact fun _ k => blk_of rfl rfl k | exact fun _ k => vec_of rfl k | exact fun _ k => blk_of rfl rfl (blk_to rfl rfl k) | exact fun _ k => vec_of rfl (vec_to rfl k) | exact fun _ k => mp_to rfl k | exact fun _ k => mp_of rfl k | exact fun _ k => mp_of rfl (mp_to rfl k)) (fun h k => sat_nil k) k) k) ⟨ss, pl, cl, rfl, ⟨h300, hall, .inr (by omega)⟩, hss, hcl, rfl⟩
  · simp only [decide_eq_false_iff_not] at g
    replace g : ¬ ((L.length - dpos L ss.length : Nat) : Int) > 0 := g
    exact FinOb.mk _ [Vec pl 111 7 cl (SL.flat ss), Alls (ss.flatMap Sn.parts)] rfl (fun h k => sat_pick 3 rfl (fun _ k => vec_to (l := pl) rfl k) (fun h k => sat_pick 3 rfl (by first | exact fun _ k => k | exact fun _ k => blk_to rfl rfl k | exact fun _ k => vec_to rfl k | exact fun _ k => blk_of rfl rfl k | exact fun _ k => vec_of rfl k | exact fun _ k => blk_of rfl rfl (blk_to rfl rfl k) | exact fun _ k => vec_of rfl (vec_to rfl k) | exact fun _ k => mp_to rfl k | exact fun _ k => mp_of rfl k | exact fun _ k => mp_of rfl (mp_to rfl k)) (fun h k => sat_nil k) k) k) ⟨ss, pl, cl, rfl, ⟨h300, hall, .inl (by omega)⟩, hss, hcl, rfl⟩
end Go.Proofs.Ytlgdagjbphafcaa.Sc
