/- reasm: the reference's packets as they lie; find, top. Conditions: none. -/
import Derived.Test.YtiknkeakielncaaRsN
namespace Go.Proofs.Ytiknkeakielncaa.Rs
open Go Go.Proofs Sx
set_option maxRecDepth 100000
set_option linter.unusedVariables false
set_option linter.unusedSimpArgs false
set_option maxHeartbeats 4000000

def BL : Lay Bool where
  cells b := [.bool b]
  sz := 1
  len _ := rfl
  one e v hv := by simp at hv; subst hv; rfl
theorem lBL (l : List Bool) : (BL.flat l).length = l.length := by rw [BL.flat_length]; simp [BL]
/-- A packet that waits, as the reference keeps it: bytes, which of them came, and where both lie. -/
structure RP where
  k : Key
  d : List UInt8
  pd : Plc
  cd : Nat
  hs : List Bool
  pf : Plc
  cf : Nat
  last : Int
  fi : Option Ip
  till : Int
def RP.ip (x : RP) : Ip := x.fi.getD zeroI
def RP.vals (x : RP) : List Value := [.int .u32 x.k.src, .int .u32 x.k.dst, .int .u8 x.k.proto, .int .u16 x.k.ident, .slice (locAddr 0 x.pd) x.d.length x.cd, .slice (locAddr 0 x.pf) x.hs.length x.cf, .int .i64 x.last, .bool x.fi.isSome] ++ (x.ip.vals ++ [.int .i64 x.till])
def RP.svs (x : RP) : List SV := [.int .u32 x.k.src, .int .u32 x.k.dst, .int .u8 x.k.proto, .int .u16 x.k.ident, .raw (.slice (locAddr 0 x.pd) x.d.length x.cd), .raw (.slice (locAddr 0 x.pf) x.hs.length x.cf), .int .i64 x.last, .bool x.fi.isSome] ++ (x.ip.svs ++ [.int .i64 x.till])
def RPL : Lay RP where
  cells := RP.vals
  sz := 20
  len _ := rfl
  one e v hv := by
    simp only [RP.vals, Ip.vals, List.cons_append, List.nil_append, List.mem_cons, List.not_mem_nil, or_false] at hv
    rcases hv with rfl | rfl | rfl | rfl | rfl | rfl | rfl | rfl | rfl | rfl | rfl | rfl | rfl | rfl | rfl | rfl | rfl | rfl | rfl | rfl <;> rfl
theorem lRPL (l : List RP) : (RPL.flat l).length = l.length * 20 := by rw [RPL.flat_length]; rfl
/-- Its bytes and flags. -/
def RP.own (x : RP) : List Asn := [Vec x.pd 5 1 x.cd (U.flat x.d), Vec x.pf 4 1 x.cf (BL.flat x.hs)]
def Rs' (L : List RP) : Asn := Alls (L.flatMap RP.own)
def findR (k : Key) : List RP → Nat → Int
  | [], _ => -1
  | x :: l, i => if x.k = k then i else findR k l (i + 1)
theorem find_rows {f : HP} {A : Option Addr} {L : List RP} (h : Reads f A (RPL.flat L)) {i : Nat} {x : RP} (hx : L[i]? = some x) : ∃ b o, A = some ⟨b, o, none⟩ ∧ ∀ (j : Nat) v, x.vals[j]? = some v → fcell f b (o + i * 20 + j) = some v := by
  obtain ⟨b, o, e, h2⟩ := h.lay (by decide) hx
  exact ⟨b, o, e, fun j v hv => h2 j v hv⟩
theorem key_ne (x y : Key) : (x = y) ↔ (x.src = y.src ∧ x.dst = y.dst ∧ x.proto = y.proto ∧ x.ident = y.ident) := by
  cases x; cases y; simp
theorem find_spec (most life : Int) (A : Option Addr) (cap : Nat) (L : List RP) (hL : L.length ≤ 1000000) (i : Ip) :
    Does Try.prog 92 #[.agg #[.int .i64 most, .int .i64 life, .slice A L.length cap], .agg i.vals.toArray] (fun f => Reads f A (RPL.flat L)) [] (fun v q => v = .int .i64 (findR i.p.key L 0) ∧ q = []) := by
  refine Does.ofJ Try.func92 Try.call92 rfl [.agg [.int .i64 most, .int .i64 life, .raw (.slice A L.length cap)], .agg i.svs] [] 0 [] rfl rfl (fun h k => k) (fun f hR => ?_)
  intro b2 b3
  refine LoopOb.mk { z : Nat × List RP // L.drop z.1 = z.2 ∧ z.1 ≤ L.length ∧ findR i.p.key L 0 = findR i.p.key z.2 z.1 } (fun z => ⟨46, [(2, .ptr 0 0), (3, .ptr 1 0), (5, .int .i64 z.1.1)], [(1, .at b3 0), (0, .at b2 0)], 2, [.blk 0 88 [.int .i64 most, .int .i64 life, .raw (.slice A L.length cap)], .blk 1 40 i.svs]⟩) (fun z => L.length - z.1.1) ⟨(0, L), rfl, Nat.zero_le _, rfl⟩ ?_ ?_
  · exact Le.of rfl ⟨⟨_, rfl, rfl⟩, ⟨_, rfl, rfl⟩, ⟨_, rfl, rfl⟩, trivial⟩ (fun h k => sat_pick 1 rfl (by first | exact fun _ k => k | exact fun _ k => blk_to rfl rfl k | exact fun _ k => vec_to rfl k | exact fun _ k => blk_of rfl rfl k | exact fun _ k => vec_of rfl k | exact fun _ k => blk_of rfl rfl (blk_to rfl rfl k) | exact fun _ k => vec_of rfl (vec_to rfl k) | exact fun _ k => mp_to rfl k | exact fun _ k => mp_of rfl k | exact fun _ k => mp_of rfl (mp_to rfl k)) (fun h k => sat_pick 0 rfl (by first | exact fun _ k => k | exact fun _ k => blk_to rfl rfl k | exact fun _ k => vec_to rfl k | exact fun _ k => blk_of rfl rfl k | exact fun _ k => vec_of rfl k | exact fun _ k => blk_of rfl rfl (blk_to rfl rfl k) | exact fun _ k => vec_of rfl (vec_to rfl k) | exact fun _ k => mp_to rfl k | exact fun _ k => mp_of rfl k | exact fun _ k => mp_of rfl (mp_to rfl k)) (fun h k => sat_nil k) k) k)
  rintro ⟨⟨j, T⟩, hT, hj, hF⟩
  simp only at hT hj hF
  refine CondOb.split (fun g => ?_) (fun g => ?_)
  rotate_left
  · have g : ¬ (j : Int) < L.length := of_decide_eq_false g
    have : T = [] := by rw [← hT]; exact List.drop_of_length_le (by omega)
    exact FinOb.mk [.int .i64 (-1)] [] rfl (fun h k => trivial) ⟨by rw [hF, this]; rfl, rfl⟩
  have g : (j : Int) < L.length := of_decide_eq_true g
  have hx := List.getElem?_eq_getElem (show j < L.length by omega)
  generalize L[j]'(by omega) = x at hx
  have hTx : T = x :: L.drop (j + 1) := by
    obtain ⟨h1, h2⟩ := List.getElem?_eq_some_iff.1 hx
    rw [← hT, List.drop_eq_getElem_cons h1, h2]
  obtain ⟨b0, o0, rfl, hc0⟩ := find_rows hR hx
  refine Need.mk (show (0 : Int) ≤ (j : Int) ∧ (j : Int) < (L.length : Nat) from ⟨by omega, by omega⟩) (RawAt.mk b0 o0 rfl ?_)
  refine RdF.mk x.svs x.vals rfl rfl (fun u v hv => by rw [Int.toNat_natCast]; exact hc0 u v hv) ?_
  intro b6
  have hkk := key_ne x.k i.p.key
  simp only [Pl.key] at hkk
  refine RegOb.join Unit (fun _ => ⟨46, [(2, .ptr 0 0), (3, .ptr 1 0), (5, .int .i64 j), (44, .bool (decide (x.k = i.p.key)))], [(1, .at b3 0), (0, .at b2 0)], 2, [.blk 0 88 [.int .i64 most, .int .i64 life, .raw (.slice (some ⟨b0, o0, none⟩) L.length cap)], .blk 1 40 i.svs]⟩) ?_ (fun _ => ?_)
  · refine Br.mk (fun h1 => ?_) (fun h1 => ?_)
    rotate_left
    · exact ⟨(), Le.of rfl ⟨⟨_, rfl, rfl⟩, ⟨_, rfl, rfl⟩, ⟨_, rfl, rfl⟩, ⟨_, rfl, (bool_eq (by simp at h1 ⊢; simp [Pl.key, hkk, h1]))⟩, trivial⟩ (fun h k => sat_pick 1 rfl (by first | exact fun _ k => k | exact fun _ k => blk_to rfl rfl k | exact fun _ k => vec_to rfl k | exact fun _ k => blk_of rfl rfl k | exact fun _ k => vec_of rfl k | exact fun _ k => blk_of rfl rfl (blk_to rfl rfl k) | exact fun _ k => vec_of rfl (vec_to rfl k) | exact fun _ k => mp_to rfl k | exact fun _ k => mp_of rfl k | exact fun _ k => mp_of rfl (mp_to rfl k)) (fun h k => sat_pick 1 rfl (by first | exact fun _ k => k | exact fun _ k => blk_to rfl rfl k | exact fun _ k => vec_to rfl k | exact fun _ k => blk_of rfl rfl k | exact fun _ k => vec_of rfl k | exact fun _ k => blk_of rfl rfl (blk_to rfl rfl k) | exact fun _ k => vec_of rfl (vec_to rfl k) | exact fun _ k => mp_to rfl k | exact fun _ k => mp_of rfl k | exact fun _ k => mp_of rfl (mp_to rfl k)) (fun h k => sat_nil k) k) k)⟩
    refine Br.mk (fun h2 => ?_) (fun h2 => ?_)
    rotate_left
    · exact ⟨(), Le.of rfl ⟨⟨_, rfl, rfl⟩, ⟨_, rfl, rfl⟩, ⟨_, rfl, rfl⟩, ⟨_, rfl, (bool_eq (by simp at h1 h2 ⊢; simp [Pl.key, hkk, h1, h2]))⟩, trivial⟩ (fun h k => sat_pick 1 rfl (by first | exact fun _ k => k | exact fun _ k => blk_to rfl rfl k | exact fun _ k => vec_to rfl k | exact fun _ k => blk_of rfl rfl k | exact fun _ k => vec_of rfl k | exact fun _ k => blk_of rfl rfl (blk_to rfl rfl k) | exact fun _ k => vec_of rfl (vec_to rfl k) | exact fun _ k => mp_to rfl k | exact fun _ k => mp_of rfl k | exact fun _ k => mp_of rfl (mp_to rfl k)) (fun h k => sat_pick 1 rfl (by first | exact fun _ k => k | exact fun _ k => blk_to rfl rfl k | exact fun _ k => vec_to rfl k | exact fun _ k => blk_of rfl rfl k | exact fun _ k => vec_of rfl k | exact fun _ k => blk_of rfl rfl (blk_to rfl rfl k) | exact fun _ k => vec_of rfl (vec_to rfl k) | exact fun _ k => mp_to rfl k | exact fun _ k => mp_of rfl k | exact fun _ k => mp_of rfl (mp_to rfl k)) (fun h k => sat_nil k) k) k)⟩
    refine Br.mk (fun h3 => ?_) (fun h3 => ?_)
    rotate_left
    · exact ⟨(), Le.of rfl ⟨⟨_, rfl, rfl⟩, ⟨_, rfl, rfl⟩, ⟨_, rfl, rfl⟩, ⟨_, rfl, (bool_eq (by simp at h1 h2 h3 ⊢; simp [Pl.key, hkk, h1, h2, h3]))⟩, trivial⟩ (fun h k => sat_pick 1 rfl (by first | exact fun _ k => k | exact fun _ k => blk_to rfl rfl k | exact fun _ k => vec_to rfl k | exact fun _ k => blk_of rfl rfl k | exact fun _ k => vec_of rfl k | exact fun _ k => blk_of rfl rfl (blk_to rfl rfl k) | exact fun _ k => vec_of rfl (vec_to rfl k) | exact fun _ k => mp_to rfl k | exact fun _ k => mp_of rfl k | exact fun _ k => mp_of rfl (mp_to rfl k)) (fun h k => sat_pick 1 rfl (by first | exact fun _ k => k | exact fun _ k => blk_to rfl rfl k | exact fun _ k => vec_to rfl k | exact fun _ k => blk_of rfl rfl k | exact fun _ k => vec_of rfl k | exact fun _ k => blk_of rfl rfl (blk_to rfl rfl k) | exact fun _ k => vec_of rfl (vec_to rfl k) | exact fun _ k => mp_to rfl k | exact fun _ k => mp_of rfl k | exact fun _ k => mp_of rfl (mp_to rfl k)) (fun h k => sat_nil k) k) k)⟩
    · exact ⟨(), Le.of rfl ⟨⟨_, rfl, rfl⟩, ⟨_, rfl, rfl⟩, ⟨_, rfl, rfl⟩, ⟨_, rfl, (bool_eq (by simp at h1 h2 h3 ⊢; simp [Pl.key, hkk, h1, h2, h3]))⟩, trivial⟩ (fun h k => sat_pick 1 rfl (by first | exact fun _ k => k | exact fun _ k => blk_to rfl rfl k | exact fun _ k => vec_to rfl k | exact fun _ k => blk_of rfl rfl k | exact fun _ k => vec_of rfl k | exact fun _ k => blk_of rfl rfl (blk_to rfl rfl k) | exact fun _ k => vec_of rfl (vec_to rfl k) | exact fun _ k => mp_to rfl k | exact fun _ k => mp_of rfl k | exact fun _ k => mp_of rfl (mp_to rfl k)) (fun h k => sat_pick 1 rfl (by first | exact fun _ k => k | exact fun _ k => blk_to rfl rfl k | exact fun _ k => vec_to rfl k | exact fun _ k => blk_of rfl rfl k | exact fun _ k => vec_of rfl k | exact fun _ k => blk_of rfl rfl (blk_to rfl rfl k) | exact fun _ k => vec_of rfl (vec_to rfl k) | exact fun _ k => mp_to rfl k | exact fun _ k => mp_of rfl k | exact fun _ k => mp_of rfl (mp_to rfl k)) (fun h k => sat_nil k) k) k)⟩
  refine CondOb.split (fun g2 => ?_) (fun g2 => ?_)
  · have g2 := of_decide_eq_true g2
    exact FinOb.mk [.int .i64 j] [] rfl (fun h k => trivial) ⟨by rw [hF, hTx]; simp only [findR]; rw [if_pos g2]; rfl, rfl⟩
  · have g2 := of_decide_eq_false g2
    have ej : IntKind.i64.wrap ((j : Int) + 1) = ((j + 1 : Nat) : Int) := by rw [w64 (by omega) (by omega)]; omega
    exact ⟨⟨(j + 1, L.drop (j + 1)), rfl, by show j + 1 ≤ L.length; omega, by show _ = findR i.p.key (L.drop (j + 1)) (j + 1); rw [hF, hTx]; simp only [findR]; rw [if_neg g2]⟩, by show L.length - (j + 1) < L.length - j; omega, Le.of rfl ⟨⟨_, rfl, rfl⟩, ⟨_, rfl, rfl⟩, ⟨_, rfl, congrArg (fun z => some (Value.int .i64 z)) ej⟩, trivial⟩ (fun h k => k)⟩
/-! ### What it holds -/
/-- The place behind the last byte that came, of the first n. -/
def topN (hs : List Bool) (n : Nat) : Nat := (List.range n).foldl (fun a k => if hs[k]? = some true then k + 1 else a) 0
theorem topN_le (hs : List Bool) : ∀ n, topN hs n ≤ n
  | 0 => Nat.le_refl _
  | n + 1 => by
    unfold topN
    rw [List.range_succ, List.foldl_append]
    show (if hs[n]? = some true then n + 1 else topN hs n) ≤ n + 1
    have := topN_le hs n
    split <;> omega
theorem topN_succ (hs : List Bool) (n : Nat) : topN hs (n + 1) = if hs[n]? = some true then n + 1 else topN hs n := by
  unfold topN
  rw [List.range_succ, List.foldl_append]
  rfl
theorem rtop_spec (x : RP) (hl : x.hs.length ≤ 1000000) : Does Try.prog 93 #[.agg x.vals.toArray] (fun f => Reads f (locAddr 0 x.pf) (BL.flat x.hs)) [] (fun v q => v = .int .i64 (topN x.hs x.hs.length) ∧ q = []) := by
  refine Does.ofJ Try.func93 Try.call93 rfl [.agg x.svs] [] 0 [] rfl rfl (fun h k => k) (fun f hR => ?_)
  intro b1
  refine LoopOb.mk { z : Nat // z ≤ x.hs.length } (fun z => ⟨20, [(1, .ptr 0 0), (3, .int .i64 (topN x.hs z.1)), (4, .int .i64 z.1)], [(0, .at b1 0)], 1, [.blk 0 178 x.svs]⟩) (fun z => x.hs.length - z.1) ⟨0, Nat.zero_le _⟩ ?_ ?_
  · exact Le.of rfl ⟨⟨_, rfl, rfl⟩, ⟨_, rfl, rfl⟩, ⟨_, rfl, rfl⟩, trivial⟩ (fun h k => sat_pick 0 rfl (by first | exact fun _ k => k | exact fun _ k => blk_to rfl rfl k | exact fun _ k => vec_to rfl k | exact fun _ k => blk_of rfl rfl k | exact fun _ k => vec_of rfl k | exact fun _ k => blk_of rfl rfl (blk_to rfl rfl k) | exact fun _ k => vec_of rfl (vec_to rfl k) | exact fun _ k => mp_to rfl k | exact fun _ k => mp_of rfl k | exact fun _ k => mp_of rfl (mp_to rfl k)) (fun h k => sat_nil k) k)
  rintro ⟨j, hj⟩
  refine CondOb.split (fun g => ?_) (fun g => ?_)
  rotate_left
  · have g : ¬ (j : Int) < x.hs.length := of_decide_eq_false g
    obtain rfl : j = x.hs.length := by omega
    exact FinOb.mk [.int .i64 (topN x.hs x.hs.length)] [] rfl (fun h k => trivial) ⟨rfl, rfl⟩
  have g : (j : Int) < x.hs.length := of_decide_eq_true g
  have hx := List.getElem?_eq_getElem (show j < x.hs.length by omega)
  generalize x.hs[j]'(by omega) = c at hx
  have ej : IntKind.i64.wrap ((j : Int) + 1) = ((j + 1 : Nat) : Int) := by rw [w64 (by omega) (by omega)]; omega
  obtain ⟨b0, o0, ea, hc0⟩ := hR.lay (by decide) hx
  refine Need.mk (show (0 : Int) ≤ (j : Int) ∧ (j : Int) < (x.hs.length : Nat) from ⟨by omega, by omega⟩) (RawAt.mk b0 o0 ea ?_)
  refine RdRaw.mk (.bool c) _ rfl (by rw [Int.toNat_natCast]; exact hc0 0 _ rfl) ?_
  have hsu := topN_succ x.hs j
  rw [hx] at hsu
  refine CondOb.split (fun g2 => ?_) (fun g2 => ?_)
  · subst g2
    rw [if_pos rfl] at hsu
    exact ⟨⟨j + 1, g |> fun _ => by omega⟩, by show x.hs.length - (j + 1) < x.hs.length - j; omega, Le.of rfl ⟨⟨_, rfl, rfl⟩, ⟨_, rfl, (by show some (Value.int .i64 (IntKind.i64.wrap ((j : Int) + 1))) = some (Value.int .i64 ((topN x.hs (j + 1) : Nat) : Int)); rw [hsu, ej])⟩, ⟨_, rfl, congrArg (fun z => some (Value.int .i64 z)) ej⟩, trivial⟩ (fun h k => k)⟩
  · have g2 : c = false := by simpa using g2
    subst g2
    rw [if_neg (by simp)] at hsu
    exact ⟨⟨j + 1, by omega⟩, by show x.hs.length - (j + 1) < x.hs.length - j; omega, Le.of rfl ⟨⟨_, rfl, rfl⟩, ⟨_, rfl, (by show some (Value.int .i64 ((topN x.hs j : Nat) : Int)) = some (Value.int .i64 ((topN x.hs (j + 1) : Nat) : Int)); rw [hsu])⟩, ⟨_, rfl, congrArg (fun z => some (Value.int .i64 z)) ej⟩, trivial⟩ (fun h k => k)⟩
end Go.Proofs.Ytiknkeakielncaa.Rs
