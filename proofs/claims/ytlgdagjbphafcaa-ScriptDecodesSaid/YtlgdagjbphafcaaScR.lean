/- script: the reference's Decode. Conditions: none. -/
import Derived.Test.YtlgdagjbphafcaaScQ
namespace Go.Proofs.Ytlgdagjbphafcaa.Sc
open Go Go.Proofs Sx
set_option maxRecDepth 100000
set_option linter.unusedVariables false
set_option linter.unusedSimpArgs false
set_option maxHeartbeats 4000000

theorem left_zero (A : Option Addr) (c : Nat) (L : List Int) : left A c L 0 = .slice A L.length c := by simp [left, adr]
def cut (L : List Int) (i j : Nat) : Int := if j < i then L.getD j 0 else 0
def arr (L : List Int) (i : Nat) : List SV := [.int .i64 (cut L i 0), .int .i64 (cut L i 1), .int .i64 (cut L i 2), .int .i64 (cut L i 3), .int .i64 (cut L i 4), .int .i64 (cut L i 5), .int .i64 (cut L i 6), .int .i64 (cut L i 7)]
def zer96 : List SV := [.int .i64 0, .int .i64 0, .int .i64 0, .int .i64 0, .int .i64 0, .int .i64 0, .int .i64 0, .int .i64 0, .int .i64 0, .int .i64 0, .int .i64 0, .int .i64 0, .int .i64 0, .int .i64 0, .int .u32 0]
def setW (L : List Int) : List SV := [.int .i64 (1 + L.getD 0 0 % 3), .int .i64 (1 + L.getD 1 0 % 2), .int .i64 (128 + 8 * L.getD 2 0),
   .int .i64 (88 + 2 * L.getD 3 0), .int .i64 (1 + 4 * L.getD 4 0), .int .i64 (1 + 4 * L.getD 5 0), .int .i64 1, .int .i64 64, .int .i64 (1 + L.getD 6 0 % 16), .int .i64 3, .int .i64 10, .int .i64 100,
   .int .i64 8, .int .i64 (1 + L.getD 7 0 % 8), .int .u32 4294967232]
structure DInv (L : List Int) (ss : List Sn) (cl : Nat) : Prop where
  most : ss.length ≤ 300
  all : ∀ j, j < ss.length → dpos L j < L.length
  sns : Sns L ss
  cap : ss.length ≤ cl
theorem DInv.push {L : List Int} {ss : List Sn} {cl c10 : Nat} (h : DInv L ss cl) (hg : dpos L ss.length < L.length) (g2 : ss.length < 300) {es : List En} {pl2 : Plc} {cl2 : Nat} {x : Stp} (hx : x = stp L (dpos L ss.length))
    (hes : es.map (·.1) = x.l) (hel : es.length ≤ cl2) (hc : ss.length + 1 ≤ c10) : DInv L (ss ++ [(x, es, pl2, cl2)]) c10 := by
  subst hx
  have hlen : (ss ++ [((stp L (dpos L ss.length), es, pl2, cl2) : Sn)]).length = ss.length + 1 := by simp
  refine ⟨by rw [hlen]; omega, fun j hj => ?_, ⟨?_, fun s hs => ?_⟩, by rw [hlen]; exact hc⟩
  · rw [hlen] at hj
    by_cases e : j = ss.length
    · subst e; exact hg
    · exact h.all j (by omega)
  · rw [hlen, List.range_succ, List.map_append, List.map_append, h.sns.steps]; rfl
  · rcases List.mem_append.1 hs with hs | hs
    · exact h.sns.lists s hs
    · simp at hs; subst hs; exact ⟨hes, hel⟩
theorem push_parts {ss : List Sn} {x : Stp} {es : List En} {pl2 : Plc} {cl2 : Nat} (h : HP) (k2 : sat [Alls (ss.flatMap Sn.parts), Vec pl2 102 11 cl2 (EL.flat es), Alls (es.map En.data)] h) :
    sat [Alls ((ss ++ [((x, es, pl2, cl2) : Sn)]).flatMap Sn.parts)] h := by
  have k3 := alls_push (alls_push k2)
  have e : (ss ++ [((x, es, pl2, cl2) : Sn)]).flatMap Sn.parts = ss.flatMap Sn.parts ++ [Vec pl2 102 11 cl2 (EL.flat es)] ++ [Alls (es.map En.data)] := by simp [Sn.parts]
  rw [e]
  exact k3
theorem push_none {ss : List Sn} {x : Stp} (h : HP) (k : sat [Alls (ss.flatMap Sn.parts)] h) : sat [Alls ((ss ++ [((x, [], .nil, 0) : Sn)]).flatMap Sn.parts)] h := by
  have k2 : sat [Vec .nil 102 11 0 [], Alls [], Alls (ss.flatMap Sn.parts)] h := sat_add vec_emp (sat_add alls_nil k)
  exact push_parts h ((fun h k => sat_pick 2 rfl (by first | exact fun _ k => k | exact fun _ k => blk_to rfl rfl k | exact fun _ k => vec_to rfl k | exact fun _ k => blk_of rfl rfl k | exact fun _ k => vec_of rfl k | exact fun _ k => blk_of rfl rfl (blk_to rfl rfl k) | exact fun _ k => vec_of rfl (vec_to rfl k) | exact fun _ k => mp_to rfl k | exact fun _ k => mp_of rfl k | exact fun _ k => mp_of rfl (mp_to rfl k)) (fun h k => sat_pick 0 rfl (by first | exact fun _ k => k | exact fun _ k => blk_to rfl rfl k | exact fun _ k => vec_to rfl k | exact fun _ k => blk_of rfl rfl k | exact fun _ k => vec_of rfl k | exact fun _ k => blk_of rfl rfl (blk_to rfl rfl k) | exact fun _ k => vec_of rfl (vec_to rfl k) | exact fun _ k => mp_to rfl k | exact fun _ k => mp_of rfl k | exact fun _ k => mp_of rfl (mp_to rfl k)) (fun h k => sat_pick 0 rfl (by first | exact fun _ k => k | exact fun _ k => blk_to rfl rfl k | exact fun _ k => vec_to rfl k | exact fun _ k => blk_of rfl rfl k | exact fun _ k => vec_of rfl k | exact fun _ k => blk_of rfl rfl (blk_to rfl rfl k) | exact fun _ k => vec_of rfl (vec_to rfl k) | exact fun _ k => mp_to rfl k | exact fun _ k => mp_of rfl k | exact fun _ k => mp_of rfl (mp_to rfl k)) (fun h k => sat_nil k) k) k) k) h k2)
theorem push_none1 {ss : List Sn} {x : Stp} (h : HP) (k : Alls (ss.flatMap Sn.parts) h) : Alls ((ss ++ [((x, [], .nil, 0) : Sn)]).flatMap Sn.parts) h := by
  have k1 : sat [Alls (ss.flatMap Sn.parts)] h := ⟨h, HP.emp, Split.comm (Split.emp_left h), k, trivial⟩
  obtain ⟨x, y, t, hx, _⟩ := push_none (x := x) h k1
  exact sat_more t.comm hx
theorem push_vec {b10 o10 c10 : Nat} {ss : List Sn} {x : Sn} (h : HP) (k : Vec (.at b10 o10) 111 7 c10 ((List.drop 0 (SL.flat ss)).take (ss.length * 7) ++ SL.cells x) h) : Vec (.at b10 o10) 111 7 c10 (SL.flat (ss ++ [x])) h := by
  rw [List.drop_zero, List.take_of_length_le (by rw [lS]; exact Nat.le_refl _)] at k
  simp only [SL.flat_append, SL.flat_one]
  exact k
theorem rdecode_spec (A : Option Addr) (c : Nat) (L : List Int) (hc : L.length ≤ c) (hb : ∀ x ∈ L, 0 ≤ x ∧ x ≤ 255) (hl : L.length ≤ 1000000) :
    Does Try.prog 62 #[.slice A L.length c] (fun f => Reads f A (U8.flat L)) []
      (fun v q => ∃ (ss : List Sn) (pl : Plc) (cl : Nat), v = .tuple #[.agg (setV L).toArray, .slice (locAddr 0 pl) ss.length cl] ∧ Dn L ss.length ∧ Sns L ss ∧ ss.length ≤ cl ∧ q = [Vec pl 111 7 cl (SL.flat ss), Alls (ss.flatMap Sn.parts)]) := by
  refine Does.of Try.func62 Try.call62 rfl [.raw (.slice A L.length c)] [] 0 [] rfl rfl (fun h k => k) (fun f hA => ?_)
  intro b1 b2
  refine LoopOb.mk { i : Nat // i ≤ 8 } (fun z => ⟨161, [(0, .raw (left A c L z.1)), (2, .ptr 0 0), (3, .nils), (4, .ptr 1 0), (5, .int .i64 z.1)], [(1, .at b2 0), (0, .at b1 0)], 2,
      [.blk 1 170 (arr L z.1), .blk 0 96 zer96]⟩) (fun z => 8 - z.1) ⟨0, by omega⟩ ?_ ?_
  · rw [← left_zero]
    exact Le.of rfl ⟨⟨_, rfl, rfl⟩, ⟨_, rfl, rfl⟩, ⟨_, rfl, rfl⟩, ⟨_, rfl, rfl⟩, ⟨_, rfl, rfl⟩, trivial⟩ (fun h k => sat_pick 0 rfl (by first | exact fun _ k => k | exact fun _ k => blk_to rfl rfl k | exact fun _ k => vec_to rfl k | exact fun _ k => blk_of rfl rfl k | exact fun _ k => vec_of rfl k | exact fun _ k => blk_of rfl rfl (blk_to rfl rfl k) | exact fun _ k => vec_of rfl (vec_to rfl k) | exact fun _ k => mp_to rfl k | exact fun _ k => mp_of rfl k | exact fun _ k => mp_of rfl (mp_to rfl k)) (fun h k => sat_pick 0 rfl (by first | exact fun _ k => k | exact fun _ k => blk_to rfl rfl k | exact fun _ k => vec_to rfl k | exact fun _ k => blk_of rfl rfl k | exact fun _ k => vec_of rfl k | exact fun _ k => blk_of rfl rfl (blk_to rfl rfl k) | exact fun _ k => vec_of rfl (vec_to rfl k) | exact fun _ k => mp_to rfl k | exact fun _ k => mp_of rfl k | exact fun _ k => mp_of rfl (mp_to rfl k)) (fun h k => sat_nil k) k) k)
  rintro ⟨i, hi⟩
  rcases (show i = 0 ∨ i = 1 ∨ i = 2 ∨ i = 3 ∨ i = 4 ∨ i = 5 ∨ i = 6 ∨ i = 7 ∨ i = 8 by omega) with rfl | rfl | rfl | rfl | rfl | rfl | rfl | rfl | rfl
  · refine CondOb.split (fun _ => ?_) (fun h => absurd h (by show ¬ decide (((0 : Nat) : Int) < 8) = false; decide))
    refine useR (.tuple [.int .i64 (L.getD (0) 0), .raw (left A c L (0 + 1))]) (one_spec A c L (0) hc hb) rfl (fun f' b' hs _ => hA.frame hs) rfl ?_
    refine Need.mk ⟨Int.natCast_nonneg _, (by show ((0 : Nat) : Int) < 8; decide)⟩ ?_
    exact ⟨⟨0 + 1, by omega⟩, by show 8 - (0 + 1) < 8 - 0; omega, Le.of rfl ⟨⟨_, rfl, rfl⟩, ⟨_, rfl, rfl⟩, ⟨_, rfl, rfl⟩, ⟨_, rfl, rfl⟩, ⟨_, rfl, rfl⟩, trivial⟩ (fun h k => sat_pick 0 rfl (by first | exact fun _ k => k | exact fun _ k => blk_to rfl rfl k | exact fun _ k => vec_to rfl k | exact fun _ k => blk_of rfl rfl k | exact fun _ k => vec_of rfl k | exact fun _ k => blk_of rfl rfl (blk_to rfl rfl k) | exact fun _ k => vec_of rfl (vec_to rfl k) | exact fun _ k => mp_to rfl k | exact fun _ k => mp_of rfl k | exact fun _ k => mp_of rfl (mp_to rfl k)) (fun h k => sat_pick 0 rfl (by first | exact fun _ k => k | exact fun _ k => blk_to rfl rfl k | exact fun _ k => vec_to rfl k | exact fun _ k => blk_of rfl rfl k | exact fun _ k => vec_of rfl k | exact fun _ k => blk_of rfl rfl (blk_to rfl rfl k) | exact fun _ k => vec_of rfl (vec_to rfl k) | exact fun _ k => mp_to rfl k | exact fun _ k => mp_of rfl k | exact fun _ k => mp_of rfl (mp_to rfl k)) (fun h k => sat_nil k) k) k)⟩
  · refine CondOb.split (fun _ => ?_) (fun h => absurd h (by show ¬ decide (((1 : Nat) : Int) < 8) = false; decide))
    refine useR (.tuple [.int .i64 (L.getD (1) 0), .raw (left A c L (1 + 1))]) (one_spec A c L (1) hc hb) rfl (fun f' b' hs _ => hA.frame hs) rfl ?_
    refine Need.mk ⟨Int.natCast_nonneg _, (by show ((1 : Nat) : Int) < 8; decide)⟩ ?_
    exact ⟨⟨1 + 1, by omega⟩, by show 8 - (1 + 1) < 8 - 1; omega, Le.of rfl ⟨⟨_, rfl, rfl⟩, ⟨_, rfl, rfl⟩, ⟨_, rfl, rfl⟩, ⟨_, rfl, rfl⟩, ⟨_, rfl, rfl⟩, trivial⟩ (fun h k => sat_pick 0 rfl (by first | exact fun _ k => k | exact fun _ k => blk_to rfl rfl k | exact fun _ k => vec_to rfl k | exact fun _ k => blk_of rfl rfl k | exact fun _ k => vec_of rfl k | exact fun _ k => blk_of rfl rfl (blk_to rfl rfl k) | exact fun _ k => vec_of rfl (vec_to rfl k) | exact fun _ k => mp_to rfl k | exact fun _ k => mp_of rfl k | exact fun _ k => mp_of rfl (mp_to rfl k)) (fun h k => sat_pick 0 rfl (by first | exact fun _ k => k | exact fun _ k => blk_to rfl rfl k | exact fun _ k => vec_to rfl k | exact fun _ k => blk_of rfl rfl k | exact fun _ k => vec_of rfl k | exact fun _ k => blk_of rfl rfl (blk_to rfl rfl k) | exact fun _ k => vec_of rfl (vec_to rfl k) | exact fun _ k => mp_to rfl k | exact fun _ k => mp_of rfl k | exact fun _ k => mp_of rfl (mp_to rfl k)) (fun h k => sat_nil k) k) k)⟩
  · refine CondOb.split (fun _ => ?_) (fun h => absurd h (by show ¬ decide (((2 : Nat) : Int) < 8) = false; decide))
    refine useR (.tuple [.int .i64 (L.getD (2) 0), .raw (left A c L (2 + 1))]) (one_spec A c L (2) hc hb) rfl (fun f' b' hs _ => hA.frame hs) rfl ?_
    refine Need.mk ⟨Int.natCast_nonneg _, (by show ((2 : Nat) : Int) < 8; decide)⟩ ?_
    exact ⟨⟨2 + 1, by omega⟩, by show 8 - (2 + 1) < 8 - 2; omega, Le.of rfl ⟨⟨_, rfl, rfl⟩, ⟨_, rfl, rfl⟩, ⟨_, rfl, rfl⟩, ⟨_, rfl, rfl⟩, ⟨_, rfl, rfl⟩, trivial⟩ (fun h k => sat_pick 0 rfl (by first | exact fun _ k => k | exact fun _ k => blk_to rfl rfl k | exact fun _ k => vec_to rfl k | exact fun _ k => blk_of rfl rfl k | exact fun _ k => vec_of rfl k | exact fun _ k => blk_of rfl rfl (blk_to rfl rfl k) | exact fun _ k => vec_of rfl (vec_to rfl k) | exact fun _ k => mp_to rfl k | exact fun _ k => mp_of rfl k | exact fun _ k => mp_of rfl (mp_to rfl k)) (fun h k => sat_pick 0 rfl (by first | exact fun _ k => k | exact fun _ k => blk_to rfl rfl k | exact fun _ k => vec_to rfl k | exact fun _ k => blk_of rfl rfl k | exact fun _ k => vec_of rfl k | exact fun _ k => blk_of rfl rfl (blk_to rfl rfl k) | exact fun _ k => vec_of rfl (vec_to rfl k) | exact fun _ k => mp_to rfl k | exact fun _ k => mp_of rfl k | exact fun _ k => mp_of rfl (mp_to rfl k)) (fun h k => sat_nil k) k) k)⟩
  · refine CondOb.split (fun _ => ?_) (fun h => absurd h (by show ¬ decide (((3 : Nat) : Int) < 8) = false; decide))
    refine useR (.tuple [.int .i64 (L.getD (3) 0), .raw (left A c L (3 + 1))]) (one_spec A c L (3) hc hb) rfl (fun f' b' hs _ => hA.frame hs) rfl ?_
    refine Need.mk ⟨Int.natCast_nonneg _, (by show ((3 : Nat) : Int) < 8; decide)⟩ ?_
    exact ⟨⟨3 + 1, by omega⟩, by show 8 - (3 + 1) < 8 - 3; omega, Le.of rfl ⟨⟨_, rfl, rfl⟩, ⟨_, rfl, rfl⟩, ⟨_, rfl, rfl⟩, ⟨_, rfl, rfl⟩, ⟨_, rfl, rfl⟩, trivial⟩ (fun h k => sat_pick 0 rfl (by first | exact fun _ k => k | exact fun _ k => blk_to rfl rfl k | exact fun _ k => vec_to rfl k | exact fun _ k => blk_of rfl rfl k | exact fun _ k => vec_of rfl k | exact fun _ k => blk_of rfl rfl (blk_to rfl rfl k) | exact fun _ k => vec_of rfl (vec_to rfl k) | exact fun _ k => mp_to rfl k | exact fun _ k => mp_of rfl k | exact fun _ k => mp_of rfl (mp_to rfl k)) (fun h k => sat_pick 0 rfl (by first | exact fun _ k => k | exact fun _ k => blk_to rfl rfl k | exact fun _ k => vec_to rfl k | exact fun _ k => blk_of rfl rfl k | exact fun _ k => vec_of rfl k | exact fun _ k => blk_of rfl rfl (blk_to rfl rfl k) | exact fun _ k => vec_of rfl (vec_to rfl k) | exact fun _ k => mp_to rfl k | exact fun _ k => mp_of rfl k | exact fun _ k => mp_of rfl (mp_to rfl k)) (fun h k => sat_nil k) k) k)⟩
  · refine CondOb.split (fun _ => ?_) (fun h => absurd h (by show ¬ decide (((4 : Nat) : Int) < 8) = false; decide))
    refine useR (.tuple [.int .i64 (L.getD (4) 0), .raw (left A c L (4 + 1))]) (one_spec A c L (4) hc hb) rfl (fun f' b' hs _ => hA.frame hs) rfl ?_
    refine Need.mk ⟨Int.natCast_nonneg _, (by show ((4 : Nat) : Int) < 8; decide)⟩ ?_
    exact ⟨⟨4 + 1, by omega⟩, by show 8 - (4 + 1) < 8 - 4; omega, Le.of rfl ⟨⟨_, rfl, rfl⟩, ⟨_, rfl, rfl⟩, ⟨_, rfl, rfl⟩, ⟨_, rfl, rfl⟩, ⟨_, rfl, rfl⟩, trivial⟩ (fun h k => sat_pick 0 rfl (by first | exact fun _ k => k | exact fun _ k => blk_to rfl rfl k | exact fun _ k => vec_to rfl k | exact fun _ k => blk_of rfl rfl k | exact fun _ k => vec_of rfl k | exact fun _ k => blk_of rfl rfl (blk_to rfl rfl k) | exact fun _ k => vec_of rfl (vec_to rfl k) | exact fun _ k => mp_to rfl k | exact fun _ k => mp_of rfl k | exact fun _ k => mp_of rfl (mp_to rfl k)) (fun h k => sat_pick 0 rfl (by first | exact fun _ k => k | exact fun _ k => blk_to rfl rfl k | exact fun _ k => vec_to rfl k | exact fun _ k => blk_of rfl rfl k | exact fun _ k => vec_of rfl k | exact fun _ k => blk_of rfl rfl (blk_to rfl rfl k) | exact fun _ k => vec_of rfl (vec_to rfl k) | exact fun _ k => mp_to rfl k | exact fun _ k => mp_of rfl k | exact fun _ k => mp_of rfl (mp_to rfl k)) (fun h k => sat_nil k) k) k)⟩
  · refine CondOb.split (fun _ => ?_) (fun h => absurd h (by show ¬ decide (((5 : Nat) : Int) < 8) = false; decide))
    refine useR (.tuple [.int .i64 (L.getD (5) 0), .raw (left A c L (5 + 1))]) (one_spec A c L (5) hc hb) rfl (fun f' b' hs _ => hA.frame hs) rfl ?_
    refine Need.mk ⟨Int.natCast_nonneg _, (by show ((5 : Nat) : Int) < 8; decide)⟩ ?_
    exact ⟨⟨5 + 1, by omega⟩, by show 8 - (5 + 1) < 8 - 5; omega, Le.of rfl ⟨⟨_, rfl, rfl⟩, ⟨_, rfl, rfl⟩, ⟨_, rfl, rfl⟩, ⟨_, rfl, rfl⟩, ⟨_, rfl, rfl⟩, trivial⟩ (fun h k => sat_pick 0 rfl (by first | exact fun _ k => k | exact fun _ k => blk_to rfl rfl k | exact fun _ k => vec_to rfl k | exact fun _ k => blk_of rfl rfl k | exact fun _ k => vec_of rfl k | exact fun _ k => blk_of rfl rfl (blk_to rfl rfl k) | exact fun _ k => vec_of rfl (vec_to rfl k) | exact fun _ k => mp_to rfl k | exact fun _ k => mp_of rfl k | exact fun _ k => mp_of rfl (mp_to rfl k)) (fun h k => sat_pick 0 rfl (by first | exact fun _ k => k | exact fun _ k => blk_to rfl rfl k | exact fun _ k => vec_to rfl k | exact fun _ k => blk_of rfl rfl k | exact fun _ k => vec_of rfl k | exact fun _ k => blk_of rfl rfl (blk_to rfl rfl k) | exact fun _ k => vec_of rfl (vec_to rfl k) | exact fun _ k => mp_to rfl k | exact fun _ k => mp_of rfl k | exact fun _ k => mp_of rfl (mp_to rfl k)) (fun h k => sat_nil k) k) k)⟩
  · refine CondOb.split (fun _ => ?_) (fun h => absurd h (by show ¬ decide (((6 : Nat) : Int) < 8) = false; decide))
    refine useR (.tuple [.int .i64 (L.getD (6) 0), .raw (left A c L (6 + 1))]) (one_spec A c L (6) hc hb) rfl (fun f' b' hs _ => hA.frame hs) rfl ?_
    refine Need.mk ⟨Int.natCast_nonneg _, (by show ((6 : Nat) : Int) < 8; decide)⟩ ?_
    exact ⟨⟨6 + 1, by omega⟩, by show 8 - (6 + 1) < 8 - 6; omega, Le.of rfl ⟨⟨_, rfl, rfl⟩, ⟨_, rfl, rfl⟩, ⟨_, rfl, rfl⟩, ⟨_, rfl, rfl⟩, ⟨_, rfl, rfl⟩, trivial⟩ (fun h k => sat_pick 0 rfl (by first | exact fun _ k => k | exact fun _ k => blk_to rfl rfl k | exact fun _ k => vec_to rfl k | exact fun _ k => blk_of rfl rfl k | exact fun _ k => vec_of rfl k | exact fun _ k => blk_of rfl rfl (blk_to rfl rfl k) | exact fun _ k => vec_of rfl (vec_to rfl k) | exact fun _ k => mp_to rfl k | exact fun _ k => mp_of rfl k | exact fun _ k => mp_of rfl (mp_to rfl k)) (fun h k => sat_pick 0 rfl (by first | exact fun _ k => k | exact fun _ k => blk_to rfl rfl k | exact fun _ k => vec_to rfl k | exact fun _ k => blk_of rfl rfl k | exact fun _ k => vec_of rfl k | exact fun _ k => blk_of rfl rfl (blk_to rfl rfl k) | exact fun _ k => vec_of rfl (vec_to rfl k) | exact fun _ k => mp_to rfl k | exact fun _ k => mp_of rfl k | exact fun _ k => mp_of rfl (mp_to rfl k)) (fun h k => sat_nil k) k) k)⟩
  · refine CondOb.split (fun _ => ?_) (fun h => absurd h (by show ¬ decide (((7 : Nat) : Int) < 8) = false; decide))
    refine useR (.tuple [.int .i64 (L.getD (7) 0), .raw (left A c L (7 + 1))]) (one_spec A c L (7) hc hb) rfl (fun f' b' hs _ => hA.frame hs) rfl ?_
    refine Need.mk ⟨Int.natCast_nonneg _, (by show ((7 : Nat) : Int) < 8; decide)⟩ ?_
    exact ⟨⟨7 + 1, by omega⟩, by show 8 - (7 + 1) < 8 - 7; omega, Le.of rfl ⟨⟨_, rfl, rfl⟩, ⟨_, rfl, rfl⟩, ⟨_, rfl, rfl⟩, ⟨_, rfl, rfl⟩, ⟨_, rfl, rfl⟩, trivial⟩ (fun h k => sat_pick 0 rfl (by first | exact fun _ k => k | exact fun _ k => blk_to rfl rfl k | exact fun _ k => vec_to rfl k | exact fun _ k => blk_of rfl rfl k | exact fun _ k => vec_of rfl k | exact fun _ k => blk_of rfl rfl (blk_to rfl rfl k) | exact fun _ k => vec_of rfl (vec_to rfl k) | exact fun _ k => mp_to rfl k | exact fun _ k => mp_of rfl k | exact fun _ k => mp_of rfl (mp_to rfl k)) (fun h k => sat_pick 0 rfl (by first | exact fun _ k => k | exact fun _ k => blk_to rfl rfl k | exact fun _ k => vec_to rfl k | exact fun _ k => blk_of rfl rfl k | exact fun _ k => vec_of rfl k | exact fun _ k => blk_of rfl rfl (blk_to rfl rfl k) | exact fun _ k => vec_of rfl (vec_to rfl k) | exact fun _ k => mp_to rfl k | exact fun _ k => mp_of rfl k | exact fun _ k => mp_of rfl (mp_to rfl k)) (fun h k => sat_nil k) k) k)⟩
  refine CondOb.split (fun h => absurd h (by show ¬ decide (((8 : Nat) : Int) < 8) = true; decide)) (fun _ => ?_)
  iterate 5 refine Need.mk (by decide) ?_
  intro b3
  iterate 7 refine Need.mk (by decide) ?_
  intro b4
  have u := byte hb
  have et : ∀ (i : Nat) (k : Int), (L.getD i 0).tmod k = L.getD i 0 % k := fun i k => Int.tmod_eq_emod_of_nonneg (u i).1
  have w0 : IntKind.i64.wrap (1 + L.getD 0 0 % 3) = 1 + L.getD 0 0 % 3 := by have := u 0; exact w64 (by omega) (by omega)
  have w1 : IntKind.i64.wrap (1 + L.getD 1 0 % 2) = 1 + L.getD 1 0 % 2 := by have := u 1; exact w64 (by omega) (by omega)
  have w6 : IntKind.i64.wrap (1 + L.getD 6 0 % 16) = 1 + L.getD 6 0 % 16 := by have := u 6; exact w64 (by omega) (by omega)
  have w7 : IntKind.i64.wrap (1 + L.getD 7 0 % 8) = 1 + L.getD 7 0 % 8 := by have := u 7; exact w64 (by omega) (by omega)
  have wm : ∀ (m k : Int) (i : Nat), 0 ≤ m → m ≤ 1000 → 0 ≤ k → k ≤ 1000 → IntKind.i64.wrap (m + IntKind.i64.wrap (k * L.getD i 0)) = m + k * L.getD i 0 := fun m k i h1 h2 h3 h4 => by
    have hu := u i
    have hp : 0 ≤ k * L.getD i 0 ∧ k * L.getD i 0 ≤ 255000 := ⟨Int.mul_nonneg h3 hu.1, by
      have := Int.mul_le_mul h4 hu.2 hu.1 (by omega : (0 : Int) ≤ 1000)
      omega⟩
    rw [w64 (x := k * L.getD i 0) (by omega) (by omega), w64 (by omega) (by omega)]
  have m2 := wm 128 8 2 (by decide) (by decide) (by decide) (by decide)
  have m3 := wm 88 2 3 (by decide) (by decide) (by decide) (by decide)
  have m4 := wm 1 4 4 (by decide) (by decide) (by decide) (by decide)
  have m5 := wm 1 4 5 (by decide) (by decide) (by decide) (by decide)
  have cc : ∀ j : Nat, j < 8 → cut L 8 j = L.getD j 0 := fun j h => if_pos h
  refine LoopOb.mk { z : List Sn × Plc × Nat // DInv L z.1 z.2.2 } (fun z => ⟨161, [(0, .raw (left A c L (dpos L z.1.1.length))), (2, .ptr 0 0), (7, .ptr 3 0), (8, .sl 4 0 z.1.1.length z.1.2.2)], [(4, z.1.2.1), (3, .at b4 0), (0, .at b1 0)], 5,
      [.blk 3 96 (setW L), .blk 0 96 zer96, .vec 4 111 7 z.1.2.2 (SL.flat z.1.1), .asn (Alls (z.1.1.flatMap Sn.parts))]⟩) (fun z => 300 - z.1.1.length) ⟨([], .nil, 0), ⟨by simp, by simp, ⟨rfl, by simp⟩, by simp⟩⟩ ?_ ?_
  · refine Le.of rfl ⟨⟨_, rfl, rfl⟩, ⟨_, rfl, rfl⟩, ⟨_, rfl, rfl⟩, ⟨_, rfl, rfl⟩, trivial⟩ (fun h k => sat_pick 0 rfl (fun _ k => ?_) (fun h k => sat_pick 2 rfl (by first | exact fun _ k => k | exact fun _ k => blk_to rfl rfl k | exact fun _ k => vec_to rfl k | exact fun _ k => blk_of rfl rfl k | exact fun _ k => vec_of rfl k | exact fun _ k => blk_of rfl rfl (blk_to rfl rfl k) | exact fun _ k => vec_of rfl (vec_to rfl k) | exact fun _ k => mp_to rfl k | exact fun _ k => mp_of rfl k | exact fun _ k => mp_of rfl (mp_to rfl k)) (fun h k => sat_add (vec_of rfl vec_emp) ((fun h k => sat_add alls_nil ((fun h k => sat_nil k) h k)) h k)) k) k)
    refine blk_of rfl ?_ (blk_to rfl rfl k)
    show some (setV L) = some _
    simp only [cc, et, w0, w1, w6, w7, m2, m3, m4, m5, setV, Nat.reduceLT]
  rintro ⟨⟨ss, pl, cl⟩, hI⟩
  simp only at hI
  have u0 := byte hb (dpos L ss.length)
  have u1 := byte hb ((dpos L ss.length) + 1)
  have u2 := byte hb ((dpos L ss.length) + 2)
  have u3 := byte hb ((dpos L ss.length) + 3)
  have u4 := byte hb ((dpos L ss.length) + 4)
  have ha : (L.getD (dpos L ss.length) 0).tmod 9 = L.getD (dpos L ss.length) 0 % 9 := Int.tmod_eq_emod_of_nonneg u0.1
  have e1 : (L.getD ((dpos L ss.length) + 1) 0).tmod 4 = L.getD ((dpos L ss.length) + 1) 0 % 4 := Int.tmod_eq_emod_of_nonneg u1.1
  have e4 : (IntKind.i64.wrap ((L.getD ((dpos L ss.length) + 1) 0).tdiv 4)).tmod 4 = L.getD ((dpos L ss.length) + 1) 0 / 4 % 4 := by
    rw [Int.tdiv_eq_ediv_of_nonneg u1.1, w64 (by omega) (by omega), Int.tmod_eq_emod_of_nonneg (by omega)]
  have hE : ∀ k : Int, ((L.getD (dpos L ss.length) 0).tmod 9 == k) = true → L.getD (dpos L ss.length) 0 % 9 = k := fun k h => by rw [ha] at h; simpa using h
  have hN : ∀ k : Int, ((L.getD (dpos L ss.length) 0).tmod 9 == k) = false → L.getD (dpos L ss.length) 0 % 9 ≠ k := fun k h => by rw [ha] at h; simpa using h
  refine Br.mk (fun g => ?_) (fun g => ?_)
  rotate_left
  · simp only [decide_eq_false_iff_not] at g
    replace g : ¬ ((L.length - (dpos L ss.length) : Nat) : Int) > 0 := g
    exact FinOb.mk _ [Vec pl 111 7 cl (SL.flat ss), Alls (ss.flatMap Sn.parts)] rfl (fun h k => sat_pick 2 rfl (fun _ k => vec_to (l := pl) rfl k) (fun h k => sat_pick 2 rfl (by first | exact fun _ k => k | exact fun _ k => blk_to rfl rfl k | exact fun _ k => vec_to rfl k | exact fun _ k => blk_of rfl rfl k | exact fun _ k => vec_of rfl k | exact fun _ k => blk_of rfl rfl (blk_to rfl rfl k) | exact fun _ k => vec_of rfl (vec_to rfl k) | exact fun _ k => mp_to rfl k | exact fun _ k => mp_of rfl k | exact fun _ k => mp_of rfl (mp_to rfl k)) (fun h k => sat_nil k) k) k) ⟨ss, pl, cl, rfl, ⟨hI.most, hI.all, .inl (by omega)⟩, hI.sns, hI.cap, rfl⟩
  simp only [decide_eq_true_eq] at g
  replace g : ((L.length - (dpos L ss.length) : Nat) : Int) > 0 := g
  have hg : (dpos L ss.length) < L.length := by omega
  refine CondOb.split (fun g2 => ?_) (fun g2 => ?_)
  rotate_left
  · simp only [decide_eq_false_iff_not] at g2
    replace g2 : ¬ (ss.length : Int) < 300 := g2
    have h300 := hI.most
    exact FinOb.mk _ [Vec pl 111 7 cl (SL.flat ss), Alls (ss.flatMap Sn.parts)] rfl (fun h k => sat_pick 2 rfl (fun _ k => vec_to (l := pl) rfl k) (fun h k => sat_pick 2 rfl (by first | exact fun _ k => k | exact fun _ k => blk_to rfl rfl k | exact fun _ k => vec_to rfl k | exact fun _ k => blk_of rfl rfl k | exact fun _ k => vec_of rfl k | exact fun _ k => blk_of rfl rfl (blk_to rfl rfl k) | exact fun _ k => vec_of rfl (vec_to rfl k) | exact fun _ k => mp_to rfl k | exact fun _ k => mp_of rfl k | exact fun _ k => mp_of rfl (mp_to rfl k)) (fun h k => sat_nil k) k) k) ⟨ss, pl, cl, rfl, ⟨h300, hI.all, .inr (by omega)⟩, hI.sns, hI.cap, rfl⟩
  simp only [decide_eq_true_eq] at g2
  replace g2 : (ss.length : Int) < 300 := g2
  refine useR (.tuple [.int .i64 (L.getD ((dpos L ss.length)) 0), .raw (left A c L ((dpos L ss.length) + 1))]) (one_spec A c L ((dpos L ss.length)) hc hb) rfl (fun f' b' hs _ => hA.frame hs) rfl ?_
  refine useR (.tuple [.int .i64 (L.getD ((dpos L ss.length) + 1) 0), .raw (left A c L ((dpos L ss.length) + 1 + 1))]) (one_spec A c L ((dpos L ss.length) + 1) hc hb) rfl (fun f' b' hs _ => hA.frame hs) rfl ?_
  iterate 4 refine Need.mk (by decide) ?_
  intro b5
  refine CondOb.split (fun g => ?_) (fun g0 => ?_)
  · have g := hE _ g
    refine useR (.tuple [.int .i64 (L.getD ((dpos L ss.length) + 2) 0), .raw (left A c L ((dpos L ss.length) + 2 + 1))]) (one_spec A c L ((dpos L ss.length) + 2) hc hb) rfl (fun f' b' hs _ => hA.frame hs) rfl ?_
    have hk : ((1 + L.getD ((dpos L ss.length) + 2) 0 % 4).toNat : Int) = 1 + L.getD ((dpos L ss.length) + 2) 0 % 4 := by omega
    generalize hkk : (1 + L.getD ((dpos L ss.length) + 2) 0 % 4).toNat = k at hk
    have hk4 : k ≤ 4 := by omega
    have ek : (L.getD ((dpos L ss.length) + 2) 0).tmod 4 = (k : Int) - 1 := by rw [Int.tmod_eq_emod_of_nonneg u2.1]; omega
    refine LoopOb.mk { z : Nat × List En × Plc × Nat // z.1 ≤ k ∧ z.2.1.length = z.1 ∧ z.1 ≤ z.2.2.2 ∧ z.2.1.map (·.1) = ents L ((dpos L ss.length) + 3) z.1 } (fun z => ⟨161, [(0, .raw (left A c L (epos L ((dpos L ss.length) + 3) z.1.1))), (2, .ptr 0 0), (7, .ptr 3 0), (8, .sl 4 0 ss.length cl), (13, .ptr 5 0), (14, .int .i64 (L.getD ((dpos L ss.length) + 2) 0)), (15, .int .i64 z.1.1)], [(6, z.1.2.2.1), (5, .at b5 0), (4, pl), (3, .at b4 0), (0, .at b1 0)], 7,
      [.blk 5 111 [.int .i64 ((L.getD (dpos L ss.length) 0).tmod 9), .int .i64 ((L.getD ((dpos L ss.length) + 1) 0).tmod 4), .int .i64 ((IntKind.i64.wrap ((L.getD ((dpos L ss.length) + 1) 0).tdiv 4)).tmod 4), .int .i64 0, .int .i64 0, .int .u8 0, .sl 6 0 z.1.1 z.1.2.2.2],
       .blk 3 96 (setW L), .blk 0 96 zer96, .vec 4 111 7 cl (SL.flat ss), .asn (Alls (ss.flatMap Sn.parts)), .vec 6 102 11 z.1.2.2.2 (EL.flat z.1.2.1), .asn (Alls (z.1.2.1.map En.data))]⟩) (fun z => k - z.1.1) ⟨(0, [], .nil, 0), by omega, rfl, by omega, rfl⟩ ?_ ?_
    · exact Le.of rfl ⟨⟨_, rfl, rfl⟩, ⟨_, rfl, rfl⟩, ⟨_, rfl, rfl⟩, ⟨_, rfl, rfl⟩, ⟨_, rfl, rfl⟩, ⟨_, rfl, rfl⟩, ⟨_, rfl, rfl⟩, trivial⟩ (fun h k => sat_pick 0 rfl (by first | exact fun _ k => k | exact fun _ k => blk_to rfl rfl k | exact fun _ k => vec_to rfl k | exact fun _ k => blk_of rfl rfl k | exact fun _ k => vec_of rfl k | exact fun _ k => blk_of rfl rfl (blk_to rfl rfl k) | exact fun _ k => vec_of rfl (vec_to rfl k) | exact fun _ k => mp_to rfl k | exact fun _ k => mp_of rfl k | exact fun _ k => mp_of rfl (mp_to rfl k)) (fun h k => sat_pick 0 rfl (by first | exact fun _ k => k | exact fun _ k => blk_to rfl rfl k | exact fun _ k => vec_to rfl k | exact fun _ k => blk_of rfl rfl k | exact fun _ k => vec_of rfl k | exact fun _ k => blk_of rfl rfl (blk_to rfl rfl k) | exact fun _ k => vec_of rfl (vec_to rfl k) | exact fun _ k => mp_to rfl k | exact fun _ k => mp_of rfl k | exact fun _ k => mp_of rfl (mp_to rfl k)) (fun h k => sat_pick 0 rfl (by first | exact fun _ k => k | exact fun _ k => blk_to rfl rfl k | exact fun _ k => vec_to rfl k | exact fun _ k => blk_of rfl rfl k | exact fun _ k => vec_of rfl k | exact fun _ k => blk_of rfl rfl (blk_to rfl rfl k) | exact fun _ k => vec_of rfl (vec_to rfl k) | exact fun _ k => mp_to rfl k | exact fun _ k => mp_of rfl k | exact fun _ k => mp_of rfl (mp_to rfl k)) (fun h k => sat_pick 0 rfl (by first | exact fun _ k => k | exact fun _ k => blk_to rfl rfl k | exact fun _ k => vec_to rfl k | exact fun _ k => blk_of rfl rfl k | exact fun _ k => vec_of rfl k | exact fun _ k => blk_of rfl rfl (blk_to rfl rfl k) | exact fun _ k => vec_of rfl (vec_to rfl k) | exact fun _ k => mp_to rfl k | exact fun _ k => mp_of rfl k | exact fun _ k => mp_of rfl (mp_to rfl k)) (fun h k => sat_pick 0 rfl (by first | exact fun _ k => k | exact fun _ k => blk_to rfl rfl k | exact fun _ k => vec_to rfl k | exact fun _ k => blk_of rfl rfl k | exact fun _ k => vec_of rfl k | exact fun _ k => blk_of rfl rfl (blk_to rfl rfl k) | exact fun _ k => vec_of rfl (vec_to rfl k) | exact fun _ k => mp_to rfl k | exact fun _ k => mp_of rfl k | exact fun _ k => mp_of rfl (mp_to rfl k)) (fun h k => sat_add (vec_of rfl vec_emp) ((fun h k => sat_add alls_nil ((fun h k => sat_nil k) h k)) h k)) k) k) k) k) k)
    rintro ⟨⟨i, es, pl2, cl2⟩, hi, hlen, hic, hes⟩
    simp only at hi hlen hic hes
    refine Need.mk (by decide) ?_
    refine CondOb.split (fun gl => ?_) (fun gl => ?_)
    rotate_left
    · rw [ek] at gl
      simp only [decide_eq_false_iff_not] at gl
      replace gl : ¬ (i : Int) ≤ (k : Int) - 1 := gl
      have ei : i = k := by omega
      subst ei
      have hq : stp L (dpos L ss.length) = { act := 0, host := L.getD ((dpos L ss.length) + 1) 0 % 4, ctx := L.getD ((dpos L ss.length) + 1) 0 / 4 % 4, l := ents L ((dpos L ss.length) + 3) i } := by
        rw [← hkk]; simp [stp, g, -List.getD_eq_getElem?_getD]
      have hp : stpN L (dpos L ss.length) = epos L ((dpos L ss.length) + 3) i := by rw [← hkk]; simp [stpN, g, -List.getD_eq_getElem?_getD]
      have hel : (ents L ((dpos L ss.length) + 3) i).length = i := by simp [ents]
      intro b9
      refine StOb.mk ((stp L (dpos L ss.length)).vals (locAddr 0 pl2) cl2) ?_ (Need.mk rfl ?_)
      · show some [Value.int .i64 ((L.getD (dpos L ss.length) 0).tmod 9), .int .i64 ((L.getD ((dpos L ss.length) + 1) 0).tmod 4), .int .i64 ((IntKind.i64.wrap ((L.getD ((dpos L ss.length) + 1) 0).tdiv 4)).tmod 4), .int .i64 0, .int .i64 0, .int .u8 0, .slice (locAddr 0 pl2) i cl2] = some _
        rw [hq]
        simp only [g, ha, e1, e4, Stp.vals, hel]
      have hcap := hI.cap
      refine Need.mk ⟨by rw [lS]; simp, by omega, hI.cap⟩ ?_
      refine Need.mk ⟨by omega, by simp only [maxLen]; omega, SL.one (stp L (dpos L ss.length), es, pl2, cl2)⟩ ?_
      refine NewSl.pos (by omega) (fun b10 o10 c10 hc10 => ?_)
      refine ⟨⟨(ss ++ [(stp L (dpos L ss.length), es, pl2, cl2)], .at b10 o10, c10), hI.push hg (by omega) rfl (by rw [hq]; exact hes) (by omega) hc10⟩, by show 300 - (ss ++ [_]).length < 300 - ss.length; simp; omega, Le.of rfl ⟨⟨_, rfl, ?_⟩, ⟨_, rfl, rfl⟩, ⟨_, rfl, rfl⟩, ⟨_, rfl, ?_⟩, trivial⟩ (fun h k => sat_pick 3 rfl (by first | exact fun _ k => k | exact fun _ k => blk_to rfl rfl k | exact fun _ k => vec_to rfl k | exact fun _ k => blk_of rfl rfl k | exact fun _ k => vec_of rfl k | exact fun _ k => blk_of rfl rfl (blk_to rfl rfl k) | exact fun _ k => vec_of rfl (vec_to rfl k) | exact fun _ k => mp_to rfl k | exact fun _ k => mp_of rfl k | exact fun _ k => mp_of rfl (mp_to rfl k)) (fun h k => sat_pick 3 rfl (by first | exact fun _ k => k | exact fun _ k => blk_to rfl rfl k | exact fun _ k => vec_to rfl k | exact fun _ k => blk_of rfl rfl k | exact fun _ k => vec_of rfl k | exact fun _ k => blk_of rfl rfl (blk_to rfl rfl k) | exact fun _ k => vec_of rfl (vec_to rfl k) | exact fun _ k => mp_to rfl k | exact fun _ k => mp_of rfl k | exact fun _ k => mp_of rfl (mp_to rfl k)) (fun h k => sat_pick 0 rfl (fun _ k => ?_) (fun h k => ?_) k) k) k)⟩
      · show some (left A c L (epos L ((dpos L ss.length) + 3) i)) = some (left A c L (dpos L (ss ++ [_]).length))
        rw [List.length_append]
        show _ = some (left A c L (stpN L (dpos L ss.length)))
        rw [hp]
      · show _ = some (Value.slice (locAddr 0 (.at b10 o10)) (ss ++ [_]).length c10)
        rw [List.length_append]; rfl
      · exact vec_of rfl (push_vec _ (vec_to (l := .at b10 o10) rfl k))
      · exact push_parts (ss := ss) (x := stp L (dpos L ss.length)) _ ((fun h k => sat_pick 2 rfl (by first | exact fun _ k => k | exact fun _ k => blk_to rfl rfl k | exact fun _ k => vec_to rfl k | exact fun _ k => blk_of rfl rfl k | exact fun _ k => vec_of rfl k | exact fun _ k => blk_of rfl rfl (blk_to rfl rfl k) | exact fun _ k => vec_of rfl (vec_to rfl k) | exact fun _ k => mp_to rfl k | exact fun _ k => mp_of rfl k | exact fun _ k => mp_of rfl (mp_to rfl k)) (fun h k => sat_pick 2 rfl (fun _ k => vec_to (l := pl2) rfl k) (fun h k => sat_pick 2 rfl (by first | exact fun _ k => k | exact fun _ k => blk_to rfl rfl k | exact fun _ k => vec_to rfl k | exact fun _ k => blk_of rfl rfl k | exact fun _ k => vec_of rfl k | exact fun _ k => blk_of rfl rfl (blk_to rfl rfl k) | exact fun _ k => vec_of rfl (vec_to rfl k) | exact fun _ k => mp_to rfl k | exact fun _ k => mp_of rfl k | exact fun _ k => mp_of rfl (mp_to rfl k)) (fun h k => sat_nil k) k) k) k) h k)
    rw [ek] at gl
    simp only [decide_eq_true_eq] at gl
    replace gl : (i : Int) ≤ (k : Int) - 1 := gl
    have ei : IntKind.i64.wrap ((i : Int) + 1) = ((i + 1 : Nat) : Int) := by rw [w64 (by omega) (by omega)]; omega
    refine call_ix (rentry_spec A c L (epos L ((dpos L ss.length) + 3) i) hc hb) rfl [] (fun h k => k) (fun f' b' hs _ => hA.frame hs) ?_
    rintro v post ⟨pd, cd, rfl, rfl⟩
    refine ⟨.tuple [.agg ((ent L (epos L ((dpos L ss.length) + 3) i)).svs (locAddr 0 pd) cd), .raw (left A c L (epos L ((dpos L ss.length) + 3) i + entN (ent L (epos L ((dpos L ss.length) + 3) i)).op))], _, 7, [.asn _], NmExt.refl _, rfl, (fun h k => sat_pick 0 rfl (by first | exact fun _ k => k | exact fun _ k => blk_to rfl rfl k | exact fun _ k => vec_to rfl k | exact fun _ k => blk_of rfl rfl k | exact fun _ k => vec_of rfl k | exact fun _ k => blk_of rfl rfl (blk_to rfl rfl k) | exact fun _ k => vec_of rfl (vec_to rfl k) | exact fun _ k => mp_to rfl k | exact fun _ k => mp_of rfl k | exact fun _ k => mp_of rfl (mp_to rfl k)) (fun h k => sat_nil k) k), ?_⟩
    intro b6 b7
    refine StOb.mk ((ent L (epos L ((dpos L ss.length) + 3) i)).vals (locAddr 0 pd) cd) rfl (Need.mk rfl ?_)
    refine Need.mk ⟨by rw [lE]; simp; omega, by simp only; omega, hic⟩ ?_
    refine Need.mk ⟨by simp only; omega, by simp only [maxLen]; omega, EL.one (ent L (epos L ((dpos L ss.length) + 3) i), pd, cd)⟩ ?_
    refine NewSl.pos (by omega) (fun b10 o10 c10 hc10 => ?_)
    refine ⟨⟨(i + 1, es ++ [(ent L (epos L ((dpos L ss.length) + 3) i), pd, cd)], .at b10 o10, c10), by simp only; omega, by simp [hlen], hc10, by simp [hes, ents, List.range_succ]⟩, by show k - (i + 1) < k - i; omega, Le.of rfl ⟨⟨_, rfl, rfl⟩, ⟨_, rfl, rfl⟩, ⟨_, rfl, rfl⟩, ⟨_, rfl, rfl⟩, ⟨_, rfl, rfl⟩, ⟨_, rfl, rfl⟩, ⟨_, rfl, congrArg (fun z => some (Value.int .i64 z)) ei⟩, trivial⟩ (fun h k => sat_pick 0 rfl (by first | exact fun _ k => k | exact fun _ k => blk_to rfl rfl k | exact fun _ k => vec_to rfl k | exact fun _ k => blk_of rfl rfl k | exact fun _ k => vec_of rfl k | exact fun _ k => blk_of rfl rfl (blk_to rfl rfl k) | exact fun _ k => vec_of rfl (vec_to rfl k) | exact fun _ k => mp_to rfl k | exact fun _ k => mp_of rfl k | exact fun _ k => mp_of rfl (mp_to rfl k)) (fun h k => sat_pick 4 rfl (by first | exact fun _ k => k | exact fun _ k => blk_to rfl rfl k | exact fun _ k => vec_to rfl k | exact fun _ k => blk_of rfl rfl k | exact fun _ k => vec_of rfl k | exact fun _ k => blk_of rfl rfl (blk_to rfl rfl k) | exact fun _ k => vec_of rfl (vec_to rfl k) | exact fun _ k => mp_to rfl k | exact fun _ k => mp_of rfl k | exact fun _ k => mp_of rfl (mp_to rfl k)) (fun h k => sat_pick 4 rfl (by first | exact fun _ k => k | exact fun _ k => blk_to rfl rfl k | exact fun _ k => vec_to rfl k | exact fun _ k => blk_of rfl rfl k | exact fun _ k => vec_of rfl k | exact fun _ k => blk_of rfl rfl (blk_to rfl rfl k) | exact fun _ k => vec_of rfl (vec_to rfl k) | exact fun _ k => mp_to rfl k | exact fun _ k => mp_of rfl k | exact fun _ k => mp_of rfl (mp_to rfl k)) (fun h k => sat_pick 4 rfl (by first | exact fun _ k => k | exact fun _ k => blk_to rfl rfl k | exact fun _ k => vec_to rfl k | exact fun _ k => blk_of rfl rfl k | exact fun _ k => vec_of rfl k | exact fun _ k => blk_of rfl rfl (blk_to rfl rfl k) | exact fun _ k => vec_of rfl (vec_to rfl k) | exact fun _ k => mp_to rfl k | exact fun _ k => mp_of rfl k | exact fun _ k => mp_of rfl (mp_to rfl k)) (fun h k => sat_pick 4 rfl (by first | exact fun _ k => k | exact fun _ k => blk_to rfl rfl k | exact fun _ k => vec_to rfl k | exact fun _ k => blk_of rfl rfl k | exact fun _ k => vec_of rfl k | exact fun _ k => blk_of rfl rfl (blk_to rfl rfl k) | exact fun _ k => vec_of rfl (vec_to rfl k) | exact fun _ k => mp_to rfl k | exact fun _ k => mp_of rfl k | exact fun _ k => mp_of rfl (mp_to rfl k)) (fun h k => sat_pick 0 rfl (fun _ k => ?_) (fun h k => sat_pick2 3 2 rfl rfl (fun _ k => ?_) (fun h k => sat_nil k) k) k) k) k) k) k) k)⟩
    · have k := vec_to (l := .at b10 o10) rfl k
      refine vec_of rfl ?_
      rw [List.drop_zero, List.take_of_length_le (by rw [lE]; exact Nat.le_of_eq (by show es.length * 11 = i * 11; rw [hlen]))] at k
      simp only [EL.flat_append, EL.flat_one]
      exact k
    · show Alls ((es ++ [(ent L (epos L ((dpos L ss.length) + 3) i), pd, cd)]).map En.data) _
      rw [List.map_append]
      exact alls_two _ k
  have g0 := hN _ g0
  refine CondOb.split (fun g => ?_) (fun g1 => ?_)
  · have g := hE _ g
    have hq : stp L (dpos L ss.length) = { act := 1, host := L.getD ((dpos L ss.length) + 1) 0 % 4, ctx := L.getD ((dpos L ss.length) + 1) 0 / 4 % 4, n := 16 } := by simp [stp, g, -List.getD_eq_getElem?_getD]
    have hp : stpN L (dpos L ss.length) = (dpos L ss.length) + 2 := by simp [stpN, g, -List.getD_eq_getElem?_getD]
    intro b9
    refine StOb.mk ((stp L (dpos L ss.length)).vals none 0) ?_ (Need.mk rfl ?_)
    · show some [Value.int .i64 ((L.getD (dpos L ss.length) 0).tmod 9), .int .i64 ((L.getD ((dpos L ss.length) + 1) 0).tmod 4), .int .i64 ((IntKind.i64.wrap ((L.getD ((dpos L ss.length) + 1) 0).tdiv 4)).tmod 4), .int .i64 (16), .int .i64 (0), .int .u8 (0), .slice none 0 0] = some _
      rw [hq]
      simp only [g, ha, e1, e4, e1, Stp.vals]
      rfl
    refine Need.mk ⟨by rw [lS]; simp, by simp only; omega, hI.cap⟩ ?_
    refine Need.mk ⟨by simp only; omega, by simp only [maxLen]; omega, SL.one (stp L (dpos L ss.length), [], .nil, 0)⟩ ?_
    refine NewSl.pos (by omega) (fun b10 o10 c10 hc10 => ?_)
    refine ⟨⟨(ss ++ [(stp L (dpos L ss.length), [], Plc.nil, 0)], .at b10 o10, c10), hI.push hg (by omega) rfl (by rw [hq]; rfl) (by simp) hc10⟩, by show 300 - (ss ++ [_]).length < 300 - ss.length; simp; omega, Le.of rfl ⟨⟨_, rfl, ?_⟩, ⟨_, rfl, rfl⟩, ⟨_, rfl, rfl⟩, ⟨_, rfl, ?_⟩, trivial⟩ (fun h k => sat_pick 3 rfl (by first | exact fun _ k => k | exact fun _ k => blk_to rfl rfl k | exact fun _ k => vec_to rfl k | exact fun _ k => blk_of rfl rfl k | exact fun _ k => vec_of rfl k | exact fun _ k => blk_of rfl rfl (blk_to rfl rfl k) | exact fun _ k => vec_of rfl (vec_to rfl k) | exact fun _ k => mp_to rfl k | exact fun _ k => mp_of rfl k | exact fun _ k => mp_of rfl (mp_to rfl k)) (fun h k => sat_pick 3 rfl (by first | exact fun _ k => k | exact fun _ k => blk_to rfl rfl k | exact fun _ k => vec_to rfl k | exact fun _ k => blk_of rfl rfl k | exact fun _ k => vec_of rfl k | exact fun _ k => blk_of rfl rfl (blk_to rfl rfl k) | exact fun _ k => vec_of rfl (vec_to rfl k) | exact fun _ k => mp_to rfl k | exact fun _ k => mp_of rfl k | exact fun _ k => mp_of rfl (mp_to rfl k)) (fun h k => sat_pick 0 rfl (fun _ k => ?_) (fun h k => sat_pick 2 rfl (fun _ k => ?_) (fun h k => sat_nil k) k) k) k) k)⟩
    · show some (left A c L ((dpos L ss.length) + 2)) = some (left A c L (dpos L (ss ++ [_]).length))
      rw [List.length_append]
      show _ = some (left A c L (stpN L (dpos L ss.length)))
      rw [hp]
    · show _ = some (Value.slice (locAddr 0 (.at b10 o10)) (ss ++ [_]).length c10)
      rw [List.length_append]; rfl
    · exact vec_of rfl (push_vec _ (vec_to (l := .at b10 o10) rfl k))
    · exact push_none1 (ss := ss) (x := stp L (dpos L ss.length)) _ k
  have g1 := hN _ g1
  refine CondOb.split (fun g => ?_) (fun g2 => ?_)
  · refine CondOb.split (fun _ => ?_) (fun h => absurd g (by rw [h]; decide))
    have g := hE _ g
    refine useR (.tuple [.int .i64 (L.getD ((dpos L ss.length) + 2) 0), .raw (left A c L ((dpos L ss.length) + 2 + 1))]) (one_spec A c L ((dpos L ss.length) + 2) hc hb) rfl (fun f' b' hs _ => hA.frame hs) rfl ?_
    have hq : stp L (dpos L ss.length) = { act := 2, host := L.getD ((dpos L ss.length) + 1) 0 % 4, ctx := L.getD ((dpos L ss.length) + 1) 0 / 4 % 4, n := L.getD ((dpos L ss.length) + 2) 0 } := by simp [stp, g, -List.getD_eq_getElem?_getD]
    have hp : stpN L (dpos L ss.length) = (dpos L ss.length) + 3 := by simp [stpN, g, -List.getD_eq_getElem?_getD]
    intro b9
    refine StOb.mk ((stp L (dpos L ss.length)).vals none 0) ?_ (Need.mk rfl ?_)
    · show some [Value.int .i64 ((L.getD (dpos L ss.length) 0).tmod 9), .int .i64 ((L.getD ((dpos L ss.length) + 1) 0).tmod 4), .int .i64 ((IntKind.i64.wrap ((L.getD ((dpos L ss.length) + 1) 0).tdiv 4)).tmod 4), .int .i64 (L.getD ((dpos L ss.length) + 2) 0), .int .i64 (0), .int .u8 (0), .slice none 0 0] = some _
      rw [hq]
      simp only [g, ha, e1, e4, e1, Stp.vals]
      rfl
    refine Need.mk ⟨by rw [lS]; simp, by simp only; omega, hI.cap⟩ ?_
    refine Need.mk ⟨by simp only; omega, by simp only [maxLen]; omega, SL.one (stp L (dpos L ss.length), [], .nil, 0)⟩ ?_
    refine NewSl.pos (by omega) (fun b10 o10 c10 hc10 => ?_)
    refine ⟨⟨(ss ++ [(stp L (dpos L ss.length), [], Plc.nil, 0)], .at b10 o10, c10), hI.push hg (by omega) rfl (by rw [hq]; rfl) (by simp) hc10⟩, by show 300 - (ss ++ [_]).length < 300 - ss.length; simp; omega, Le.of rfl ⟨⟨_, rfl, ?_⟩, ⟨_, rfl, rfl⟩, ⟨_, rfl, rfl⟩, ⟨_, rfl, ?_⟩, trivial⟩ (fun h k => sat_pick 3 rfl (by first | exact fun _ k => k | exact fun _ k => blk_to rfl rfl k | exact fun _ k => vec_to rfl k | exact fun _ k => blk_of rfl rfl k | exact fun _ k => vec_of rfl k | exact fun _ k => blk_of rfl rfl (blk_to rfl rfl k) | exact fun _ k => vec_of rfl (vec_to rfl k) | exact fun _ k => mp_to rfl k | exact fun _ k => mp_of rfl k | exact fun _ k => mp_of rfl (mp_to rfl k)) (fun h k => sat_pick 3 rfl (by first | exact fun _ k => k | exact fun _ k => blk_to rfl rfl k | exact fun _ k => vec_to rfl k | exact fun _ k => blk_of rfl rfl k | exact fun _ k => vec_of rfl k | exact fun _ k => blk_of rfl rfl (blk_to rfl rfl k) | exact fun _ k => vec_of rfl (vec_to rfl k) | exact fun _ k => mp_to rfl k | exact fun _ k => mp_of rfl k | exact fun _ k => mp_of rfl (mp_to rfl k)) (fun h k => sat_pick 0 rfl (fun _ k => ?_) (fun h k => sat_pick 2 rfl (fun _ k => ?_) (fun h k => sat_nil k) k) k) k) k)⟩
    · show some (left A c L ((dpos L ss.length) + 3)) = some (left A c L (dpos L (ss ++ [_]).length))
      rw [List.length_append]
      show _ = some (left A c L (stpN L (dpos L ss.length)))
      rw [hp]
    · show _ = some (Value.slice (locAddr 0 (.at b10 o10)) (ss ++ [_]).length c10)
      rw [List.length_append]; rfl
    · exact vec_of rfl (push_vec _ (vec_to (l := .at b10 o10) rfl k))
    · exact push_none1 (ss := ss) (x := stp L (dpos L ss.length)) _ k
  have g2 := hN _ g2
  refine CondOb.split (fun g => ?_) (fun g3 => ?_)
  · refine CondOb.split (fun _ => ?_) (fun h => absurd g (by rw [h]; decide))
    have g := hE _ g
    refine useR (.tuple [.int .i64 (L.getD ((dpos L ss.length) + 2) 0), .raw (left A c L ((dpos L ss.length) + 2 + 1))]) (one_spec A c L ((dpos L ss.length) + 2) hc hb) rfl (fun f' b' hs _ => hA.frame hs) rfl ?_
    have hq : stp L (dpos L ss.length) = { act := 3, host := L.getD ((dpos L ss.length) + 1) 0 % 4, ctx := L.getD ((dpos L ss.length) + 1) 0 / 4 % 4, n := L.getD ((dpos L ss.length) + 2) 0 } := by simp [stp, g, -List.getD_eq_getElem?_getD]
    have hp : stpN L (dpos L ss.length) = (dpos L ss.length) + 3 := by simp [stpN, g, -List.getD_eq_getElem?_getD]
    intro b9
    refine StOb.mk ((stp L (dpos L ss.length)).vals none 0) ?_ (Need.mk rfl ?_)
    · show some [Value.int .i64 ((L.getD (dpos L ss.length) 0).tmod 9), .int .i64 ((L.getD ((dpos L ss.length) + 1) 0).tmod 4), .int .i64 ((IntKind.i64.wrap ((L.getD ((dpos L ss.length) + 1) 0).tdiv 4)).tmod 4), .int .i64 (L.getD ((dpos L ss.length) + 2) 0), .int .i64 (0), .int .u8 (0), .slice none 0 0] = some _
      rw [hq]
      simp only [g, ha, e1, e4, e1, Stp.vals]
      rfl
    refine Need.mk ⟨by rw [lS]; simp, by simp only; omega, hI.cap⟩ ?_
    refine Need.mk ⟨by simp only; omega, by simp only [maxLen]; omega, SL.one (stp L (dpos L ss.length), [], .nil, 0)⟩ ?_
    refine NewSl.pos (by omega) (fun b10 o10 c10 hc10 => ?_)
    refine ⟨⟨(ss ++ [(stp L (dpos L ss.length), [], Plc.nil, 0)], .at b10 o10, c10), hI.push hg (by omega) rfl (by rw [hq]; rfl) (by simp) hc10⟩, by show 300 - (ss ++ [_]).length < 300 - ss.length; simp; omega, Le.of rfl ⟨⟨_, rfl, ?_⟩, ⟨_, rfl, rfl⟩, ⟨_, rfl, rfl⟩, ⟨_, rfl, ?_⟩, trivial⟩ (fun h k => sat_pick 3 rfl (by first | exact fun _ k => k | exact fun _ k => blk_to rfl rfl k | exact fun _ k => vec_to rfl k | exact fun _ k => blk_of rfl rfl k | exact fun _ k => vec_of rfl k | exact fun _ k => blk_of rfl rfl (blk_to rfl rfl k) | exact fun _ k => vec_of rfl (vec_to rfl k) | exact fun _ k => mp_to rfl k | exact fun _ k => mp_of rfl k | exact fun _ k => mp_of rfl (mp_to rfl k)) (fun h k => sat_pick 3 rfl (by first | exact fun _ k => k | exact fun _ k => blk_to rfl rfl k | exact fun _ k => vec_to rfl k | exact fun _ k => blk_of rfl rfl k | exact fun _ k => vec_of rfl k | exact fun _ k => blk_of rfl rfl (blk_to rfl rfl k) | exact fun _ k => vec_of rfl (vec_to rfl k) | exact fun _ k => mp_to rfl k | exact fun _ k => mp_of rfl k | exact fun _ k => mp_of rfl (mp_to rfl k)) (fun h k => sat_pick 0 rfl (fun _ k => ?_) (fun h k => sat_pick 2 rfl (fun _ k => ?_) (fun h k => sat_nil k) k) k) k) k)⟩
    · show some (left A c L ((dpos L ss.length) + 3)) = some (left A c L (dpos L (ss ++ [_]).length))
      rw [List.length_append]
      show _ = some (left A c L (stpN L (dpos L ss.length)))
      rw [hp]
    · show _ = some (Value.slice (locAddr 0 (.at b10 o10)) (ss ++ [_]).length c10)
      rw [List.length_append]; rfl
    · exact vec_of rfl (push_vec _ (vec_to (l := .at b10 o10) rfl k))
    · exact push_none1 (ss := ss) (x := stp L (dpos L ss.length)) _ k
  have g3 := hN _ g3
  refine CondOb.split (fun g => ?_) (fun g4 => ?_)
  · refine CondOb.split (fun _ => ?_) (fun h => absurd g (by rw [h]; decide))
    have g := hE _ g
    refine useR (.tuple [.int .i64 (L.getD ((dpos L ss.length) + 2) 0), .raw (left A c L ((dpos L ss.length) + 2 + 1))]) (one_spec A c L ((dpos L ss.length) + 2) hc hb) rfl (fun f' b' hs _ => hA.frame hs) rfl ?_
    have hq : stp L (dpos L ss.length) = { act := 4, host := L.getD ((dpos L ss.length) + 1) 0 % 4, ctx := L.getD ((dpos L ss.length) + 1) 0 / 4 % 4, n := L.getD ((dpos L ss.length) + 2) 0 } := by simp [stp, g, -List.getD_eq_getElem?_getD]
    have hp : stpN L (dpos L ss.length) = (dpos L ss.length) + 3 := by simp [stpN, g, -List.getD_eq_getElem?_getD]
    intro b9
    refine StOb.mk ((stp L (dpos L ss.length)).vals none 0) ?_ (Need.mk rfl ?_)
    · show some [Value.int .i64 ((L.getD (dpos L ss.length) 0).tmod 9), .int .i64 ((L.getD ((dpos L ss.length) + 1) 0).tmod 4), .int .i64 ((IntKind.i64.wrap ((L.getD ((dpos L ss.length) + 1) 0).tdiv 4)).tmod 4), .int .i64 (L.getD ((dpos L ss.length) + 2) 0), .int .i64 (0), .int .u8 (0), .slice none 0 0] = some _
      rw [hq]
      simp only [g, ha, e1, e4, e1, Stp.vals]
      rfl
    refine Need.mk ⟨by rw [lS]; simp, by simp only; omega, hI.cap⟩ ?_
    refine Need.mk ⟨by simp only; omega, by simp only [maxLen]; omega, SL.one (stp L (dpos L ss.length), [], .nil, 0)⟩ ?_
    refine NewSl.pos (by omega) (fun b10 o10 c10 hc10 => ?_)
    refine ⟨⟨(ss ++ [(stp L (dpos L ss.length), [], Plc.nil, 0)], .at b10 o10, c10), hI.push hg (by omega) rfl (by rw [hq]; rfl) (by simp) hc10⟩, by show 300 - (ss ++ [_]).length < 300 - ss.length; simp; omega, Le.of rfl ⟨⟨_, rfl, ?_⟩, ⟨_, rfl, rfl⟩, ⟨_, rfl, rfl⟩, ⟨_, rfl, ?_⟩, trivial⟩ (fun h k => sat_pick 3 rfl (by first | exact fun _ k => k | exact fun _ k => blk_to rfl rfl k | exact fun _ k => vec_to rfl k | exact fun _ k => blk_of rfl rfl k | exact fun _ k => vec_of rfl k | exact fun _ k => blk_of rfl rfl (blk_to rfl rfl k) | exact fun _ k => vec_of rfl (vec_to rfl k) | exact fun _ k => mp_to rfl k | exact fun _ k => mp_of rfl k | exact fun _ k => mp_of rfl (mp_to rfl k)) (fun h k => sat_pick 3 rfl (by first | exact fun _ k => k | exact fun _ k => blk_to rfl rfl k | exact fun _ k => vec_to rfl k | exact fun _ k => blk_of rfl rfl k | exact fun _ k => vec_of rfl k | exact fun _ k => blk_of rfl rfl (blk_to rfl rfl k) | exact fun _ k => vec_of rfl (vec_to rfl k) | exact fun _ k => mp_to rfl k | exact fun _ k => mp_of rfl k | exact fun _ k => mp_of rfl (mp_to rfl k)) (fun h k => sat_pick 0 rfl (fun _ k => ?_) (fun h k => sat_pick 2 rfl (fun _ k => ?_) (fun h k => sat_nil k) k) k) k) k)⟩
    · show some (left A c L ((dpos L ss.length) + 3)) = some (left A c L (dpos L (ss ++ [_]).length))
      rw [List.length_append]
      show _ = some (left A c L (stpN L (dpos L ss.length)))
      rw [hp]
    · show _ = some (Value.slice (locAddr 0 (.at b10 o10)) (ss ++ [_]).length c10)
      rw [List.length_append]; rfl
    · exact vec_of rfl (push_vec _ (vec_to (l := .at b10 o10) rfl k))
    · exact push_none1 (ss := ss) (x := stp L (dpos L ss.length)) _ k
  have g4 := hN _ g4
  refine CondOb.split (fun g => ?_) (fun g5 => ?_)
  · refine CondOb.split (fun _ => ?_) (fun h => absurd g (by rw [h]; decide))
    have g := hE _ g
    refine useR (.tuple [.int .i64 (L.getD ((dpos L ss.length) + 2) 0), .raw (left A c L ((dpos L ss.length) + 2 + 1))]) (one_spec A c L ((dpos L ss.length) + 2) hc hb) rfl (fun f' b' hs _ => hA.frame hs) rfl ?_
    have hq : stp L (dpos L ss.length) = { act := 5, host := L.getD ((dpos L ss.length) + 1) 0 % 4, ctx := L.getD ((dpos L ss.length) + 1) 0 / 4 % 4, n := L.getD ((dpos L ss.length) + 2) 0 } := by simp [stp, g, -List.getD_eq_getElem?_getD]
    have hp : stpN L (dpos L ss.length) = (dpos L ss.length) + 3 := by simp [stpN, g, -List.getD_eq_getElem?_getD]
    intro b9
    refine StOb.mk ((stp L (dpos L ss.length)).vals none 0) ?_ (Need.mk rfl ?_)
    · show some [Value.int .i64 ((L.getD (dpos L ss.length) 0).tmod 9), .int .i64 ((L.getD ((dpos L ss.length) + 1) 0).tmod 4), .int .i64 ((IntKind.i64.wrap ((L.getD ((dpos L ss.length) + 1) 0).tdiv 4)).tmod 4), .int .i64 (L.getD ((dpos L ss.length) + 2) 0), .int .i64 (0), .int .u8 (0), .slice none 0 0] = some _
      rw [hq]
      simp only [g, ha, e1, e4, e1, Stp.vals]
      rfl
    refine Need.mk ⟨by rw [lS]; simp, by simp only; omega, hI.cap⟩ ?_
    refine Need.mk ⟨by simp only; omega, by simp only [maxLen]; omega, SL.one (stp L (dpos L ss.length), [], .nil, 0)⟩ ?_
    refine NewSl.pos (by omega) (fun b10 o10 c10 hc10 => ?_)
    refine ⟨⟨(ss ++ [(stp L (dpos L ss.length), [], Plc.nil, 0)], .at b10 o10, c10), hI.push hg (by omega) rfl (by rw [hq]; rfl) (by simp) hc10⟩, by show 300 - (ss ++ [_]).length < 300 - ss.length; simp; omega, Le.of rfl ⟨⟨_, rfl, ?_⟩, ⟨_, rfl, rfl⟩, ⟨_, rfl, rfl⟩, ⟨_, rfl, ?_⟩, trivial⟩ (fun h k => sat_pick 3 rfl (by first | exact fun _ k => k | exact fun _ k => blk_to rfl rfl k | exact fun _ k => vec_to rfl k | exact fun _ k => blk_of rfl rfl k | exact fun _ k => vec_of rfl k | exact fun _ k => blk_of rfl rfl (blk_to rfl rfl k) | exact fun _ k => vec_of rfl (vec_to rfl k) | exact fun _ k => mp_to rfl k | exact fun _ k => mp_of rfl k | exact fun _ k => mp_of rfl (mp_to rfl k)) (fun h k => sat_pick 3 rfl (by first | exact fun _ k => k | exact fun _ k => blk_to rfl rfl k | exact fun _ k => vec_to rfl k | exact fun _ k => blk_of rfl rfl k | exact fun _ k => vec_of rfl k | exact fun _ k => blk_of rfl rfl (blk_to rfl rfl k) | exact fun _ k => vec_of rfl (vec_to rfl k) | exact fun _ k => mp_to rfl k | exact fun _ k => mp_of rfl k | exact fun _ k => mp_of rfl (mp_to rfl k)) (fun h k => sat_pick 0 rfl (fun _ k => ?_) (fun h k => sat_pick 2 rfl (fun _ k => ?_) (fun h k => sat_nil k) k) k) k) k)⟩
    · show some (left A c L ((dpos L ss.length) + 3)) = some (left A c L (dpos L (ss ++ [_]).length))
      rw [List.length_append]
      show _ = some (left A c L (stpN L (dpos L ss.length)))
      rw [hp]
    · show _ = some (Value.slice (locAddr 0 (.at b10 o10)) (ss ++ [_]).length c10)
      rw [List.length_append]; rfl
    · exact vec_of rfl (push_vec _ (vec_to (l := .at b10 o10) rfl k))
    · exact push_none1 (ss := ss) (x := stp L (dpos L ss.length)) _ k
  have g5 := hN _ g5
  refine CondOb.split (fun g => ?_) (fun g7 => ?_)
  · have g := hE _ g
    refine useR (.tuple [.int .i64 (L.getD ((dpos L ss.length) + 2) 0), .raw (left A c L ((dpos L ss.length) + 2 + 1))]) (one_spec A c L ((dpos L ss.length) + 2) hc hb) rfl (fun f' b' hs _ => hA.frame hs) rfl ?_
    have hq : stp L (dpos L ss.length) = { act := 7, host := L.getD ((dpos L ss.length) + 1) 0 % 4, ctx := L.getD ((dpos L ss.length) + 1) 0 / 4 % 4, n := L.getD ((dpos L ss.length) + 2) 0 } := by simp [stp, g, -List.getD_eq_getElem?_getD]
    have hp : stpN L (dpos L ss.length) = (dpos L ss.length) + 3 := by simp [stpN, g, -List.getD_eq_getElem?_getD]
    intro b9
    refine StOb.mk ((stp L (dpos L ss.length)).vals none 0) ?_ (Need.mk rfl ?_)
    · show some [Value.int .i64 ((L.getD (dpos L ss.length) 0).tmod 9), .int .i64 ((L.getD ((dpos L ss.length) + 1) 0).tmod 4), .int .i64 ((IntKind.i64.wrap ((L.getD ((dpos L ss.length) + 1) 0).tdiv 4)).tmod 4), .int .i64 (L.getD ((dpos L ss.length) + 2) 0), .int .i64 (0), .int .u8 (0), .slice none 0 0] = some _
      rw [hq]
      simp only [g, ha, e1, e4, e1, Stp.vals]
      rfl
    refine Need.mk ⟨by rw [lS]; simp, by simp only; omega, hI.cap⟩ ?_
    refine Need.mk ⟨by simp only; omega, by simp only [maxLen]; omega, SL.one (stp L (dpos L ss.length), [], .nil, 0)⟩ ?_
    refine NewSl.pos (by omega) (fun b10 o10 c10 hc10 => ?_)
    refine ⟨⟨(ss ++ [(stp L (dpos L ss.length), [], Plc.nil, 0)], .at b10 o10, c10), hI.push hg (by omega) rfl (by rw [hq]; rfl) (by simp) hc10⟩, by show 300 - (ss ++ [_]).length < 300 - ss.length; simp; omega, Le.of rfl ⟨⟨_, rfl, ?_⟩, ⟨_, rfl, rfl⟩, ⟨_, rfl, rfl⟩, ⟨_, rfl, ?_⟩, trivial⟩ (fun h k => sat_pick 3 rfl (by first | exact fun _ k => k | exact fun _ k => blk_to rfl rfl k | exact fun _ k => vec_to rfl k | exact fun _ k => blk_of rfl rfl k | exact fun _ k => vec_of rfl k | exact fun _ k => blk_of rfl rfl (blk_to rfl rfl k) | exact fun _ k => vec_of rfl (vec_to rfl k) | exact fun _ k => mp_to rfl k | exact fun _ k => mp_of rfl k | exact fun _ k => mp_of rfl (mp_to rfl k)) (fun h k => sat_pick 3 rfl (by first | exact fun _ k => k | exact fun _ k => blk_to rfl rfl k | exact fun _ k => vec_to rfl k | exact fun _ k => blk_of rfl rfl k | exact fun _ k => vec_of rfl k | exact fun _ k => blk_of rfl rfl (blk_to rfl rfl k) | exact fun _ k => vec_of rfl (vec_to rfl k) | exact fun _ k => mp_to rfl k | exact fun _ k => mp_of rfl k | exact fun _ k => mp_of rfl (mp_to rfl k)) (fun h k => sat_pick 0 rfl (fun _ k => ?_) (fun h k => sat_pick 2 rfl (fun _ k => ?_) (fun h k => sat_nil k) k) k) k) k)⟩
    · show some (left A c L ((dpos L ss.length) + 3)) = some (left A c L (dpos L (ss ++ [_]).length))
      rw [List.length_append]
      show _ = some (left A c L (stpN L (dpos L ss.length)))
      rw [hp]
    · show _ = some (Value.slice (locAddr 0 (.at b10 o10)) (ss ++ [_]).length c10)
      rw [List.length_append]; rfl
    · exact vec_of rfl (push_vec _ (vec_to (l := .at b10 o10) rfl k))
    · exact push_none1 (ss := ss) (x := stp L (dpos L ss.length)) _ k
  have g7 := hN _ g7
  refine CondOb.split (fun g => ?_) (fun g6 => ?_)
  · have g := hE _ g
    refine useR (.tuple [.int .i64 (L.getD ((dpos L ss.length) + 2) 0), .raw (left A c L ((dpos L ss.length) + 2 + 1))]) (one_spec A c L ((dpos L ss.length) + 2) hc hb) rfl (fun f' b' hs _ => hA.frame hs) rfl ?_
    refine useR (.tuple [.int .i64 (L.getD ((dpos L ss.length) + 3) 0), .raw (left A c L ((dpos L ss.length) + 3 + 1))]) (one_spec A c L ((dpos L ss.length) + 3) hc hb) rfl (fun f' b' hs _ => hA.frame hs) rfl ?_
    refine useR (.tuple [.int .i64 (L.getD ((dpos L ss.length) + 4) 0), .raw (left A c L ((dpos L ss.length) + 4 + 1))]) (one_spec A c L ((dpos L ss.length) + 4) hc hb) rfl (fun f' b' hs _ => hA.frame hs) rfl ?_
    have eb : IntKind.u8.wrap (L.getD ((dpos L ss.length) + 4) 0) = L.getD ((dpos L ss.length) + 4) 0 := w8 (by omega) (by omega)
    have hq : stp L (dpos L ss.length) = { act := 6, host := L.getD ((dpos L ss.length) + 1) 0 % 4, ctx := L.getD ((dpos L ss.length) + 1) 0 / 4 % 4, n := L.getD ((dpos L ss.length) + 2) 0, at_ := L.getD ((dpos L ss.length) + 3) 0, by_ := L.getD ((dpos L ss.length) + 4) 0 } := by simp [stp, g, -List.getD_eq_getElem?_getD]
    have hp : stpN L (dpos L ss.length) = (dpos L ss.length) + 5 := by simp [stpN, g, -List.getD_eq_getElem?_getD]
    intro b9
    refine StOb.mk ((stp L (dpos L ss.length)).vals none 0) ?_ (Need.mk rfl ?_)
    · show some [Value.int .i64 ((L.getD (dpos L ss.length) 0).tmod 9), .int .i64 ((L.getD ((dpos L ss.length) + 1) 0).tmod 4), .int .i64 ((IntKind.i64.wrap ((L.getD ((dpos L ss.length) + 1) 0).tdiv 4)).tmod 4), .int .i64 (L.getD ((dpos L ss.length) + 2) 0), .int .i64 (L.getD ((dpos L ss.length) + 3) 0), .int .u8 (IntKind.u8.wrap (L.getD ((dpos L ss.length) + 4) 0)), .slice none 0 0] = some _
      rw [hq]
      simp only [g, ha, e1, e4, eb, Stp.vals]
      rfl
    refine Need.mk ⟨by rw [lS]; simp, by simp only; omega, hI.cap⟩ ?_
    refine Need.mk ⟨by simp only; omega, by simp only [maxLen]; omega, SL.one (stp L (dpos L ss.length), [], .nil, 0)⟩ ?_
    refine NewSl.pos (by omega) (fun b10 o10 c10 hc10 => ?_)
    refine ⟨⟨(ss ++ [(stp L (dpos L ss.length), [], Plc.nil, 0)], .at b10 o10, c10), hI.push hg (by omega) rfl (by rw [hq]; rfl) (by simp) hc10⟩, by show 300 - (ss ++ [_]).length < 300 - ss.length; simp; omega, Le.of rfl ⟨⟨_, rfl, ?_⟩, ⟨_, rfl, rfl⟩, ⟨_, rfl, rfl⟩, ⟨_, rfl, ?_⟩, trivial⟩ (fun h k => sat_pick 3 rfl (by first | exact fun _ k => k | exact fun _ k => blk_to rfl rfl k | exact fun _ k => vec_to rfl k | exact fun _ k => blk_of rfl rfl k | exact fun _ k => vec_of rfl k | exact fun _ k => blk_of rfl rfl (blk_to rfl rfl k) | exact fun _ k => vec_of rfl (vec_to rfl k) | exact fun _ k => mp_to rfl k | exact fun _ k => mp_of rfl k | exact fun _ k => mp_of rfl (mp_to rfl k)) (fun h k => sat_pick 3 rfl (by first | exact fun _ k => k | exact fun _ k => blk_to rfl rfl k | exact fun _ k => vec_to rfl k | exact fun _ k => blk_of rfl rfl k | exact fun _ k => vec_of rfl k | exact fun _ k => blk_of rfl rfl (blk_to rfl rfl k) | exact fun _ k => vec_of rfl (vec_to rfl k) | exact fun _ k => mp_to rfl k | exact fun _ k => mp_of rfl k | exact fun _ k => mp_of rfl (mp_to rfl k)) (fun h k => sat_pick 0 rfl (fun _ k => ?_) (fun h k => sat_pick 2 rfl (fun _ k => ?_) (fun h k => sat_nil k) k) k) k) k)⟩
    · show some (left A c L ((dpos L ss.length) + 5)) = some (left A c L (dpos L (ss ++ [_]).length))
      rw [List.length_append]
      show _ = some (left A c L (stpN L (dpos L ss.length)))
      rw [hp]
    · show _ = some (Value.slice (locAddr 0 (.at b10 o10)) (ss ++ [_]).length c10)
      rw [List.length_append]; rfl
    · exact vec_of rfl (push_vec _ (vec_to (l := .at b10 o10) rfl k))
    · exact push_none1 (ss := ss) (x := stp L (dpos L ss.length)) _ k
  have g6 := hN _ g6
  have g : L.getD (dpos L ss.length) 0 % 9 = 8 := by omega
  have hq : stp L (dpos L ss.length) = { act := 8, host := L.getD ((dpos L ss.length) + 1) 0 % 4, ctx := L.getD ((dpos L ss.length) + 1) 0 / 4 % 4, n := 0 } := by simp [stp, g, -List.getD_eq_getElem?_getD]
  have hp : stpN L (dpos L ss.length) = (dpos L ss.length) + 2 := by simp [stpN, g, -List.getD_eq_getElem?_getD]
  intro b9
  refine StOb.mk ((stp L (dpos L ss.length)).vals none 0) ?_ (Need.mk rfl ?_)
  · show some [Value.int .i64 ((L.getD (dpos L ss.length) 0).tmod 9), .int .i64 ((L.getD ((dpos L ss.length) + 1) 0).tmod 4), .int .i64 ((IntKind.i64.wrap ((L.getD ((dpos L ss.length) + 1) 0).tdiv 4)).tmod 4), .int .i64 (0), .int .i64 (0), .int .u8 (0), .slice none 0 0] = some _
    rw [hq]
    simp only [g, ha, e1, e4, e1, Stp.vals]
    rfl
  refine Need.mk ⟨by rw [lS]; simp, by simp only; omega, hI.cap⟩ ?_
  refine Need.mk ⟨by simp only; omega, by simp only [maxLen]; omega, SL.one (stp L (dpos L ss.length), [], .nil, 0)⟩ ?_
  refine NewSl.pos (by omega) (fun b10 o10 c10 hc10 => ?_)
  refine ⟨⟨(ss ++ [(stp L (dpos L ss.length), [], Plc.nil, 0)], .at b10 o10, c10), hI.push hg (by omega) rfl (by rw [hq]; rfl) (by simp) hc10⟩, by show 300 - (ss ++ [_]).length < 300 - ss.length; simp; omega, Le.of rfl ⟨⟨_, rfl, ?_⟩, ⟨_, rfl, rfl⟩, ⟨_, rfl, rfl⟩, ⟨_, rfl, ?_⟩, trivial⟩ (fun h k => sat_pick 3 rfl (by first | exact fun _ k => k | exact fun _ k => blk_to rfl rfl k | exact fun _ k => vec_to rfl k | exact fun _ k => blk_of rfl rfl k | exact fun _ k => vec_of rfl k | exact fun _ k => blk_of rfl rfl (blk_to rfl rfl k) | exact fun _ k => vec_of rfl (vec_to rfl k) | exact fun _ k => mp_to rfl k | exact fun _ k => mp_of rfl k | exact fun _ k => mp_of rfl (mp_to rfl k)) (fun h k => sat_pick 3 rfl (by first | exact fun _ k => k | exact fun _ k => blk_to rfl rfl k | exact fun _ k => vec_to rfl k | exact fun _ k => blk_of rfl rfl k | exact fun _ k => vec_of rfl k | exact fun _ k => blk_of rfl rfl (blk_to rfl rfl k) | exact fun _ k => vec_of rfl (vec_to rfl k) | exact fun _ k => mp_to rfl k | exact fun _ k => mp_of rfl k | exact fun _ k => mp_of rfl (mp_to rfl k)) (fun h k => sat_pick 0 rfl (fun _ k => ?_) (fun h k => sat_pick 2 rfl (fun _ k => ?_) (fun h k => sat_nil k) k) k) k) k)⟩
  · show some (left A c L ((dpos L ss.length) + 2)) = some (left A c L (dpos L (ss ++ [_]).length))
    rw [List.length_append]
    show _ = some (left A c L (stpN L (dpos L ss.length)))
    rw [hp]
  · show _ = some (Value.slice (locAddr 0 (.at b10 o10)) (ss ++ [_]).length c10)
    rw [List.length_append]; rfl
  · exact vec_of rfl (push_vec _ (vec_to (l := .at b10 o10) rfl k))
  · exact push_none1 (ss := ss) (x := stp L (dpos L ss.length)) _ k
end Go.Proofs.Ytlgdagjbphafcaa.Sc
