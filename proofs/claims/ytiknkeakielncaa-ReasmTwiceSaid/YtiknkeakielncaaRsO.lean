/- reasm: cutting a packet, by the document: Split. Conditions: none. -/
import Derived.Test.YtiknkeakielncaaRsN
namespace Go.Proofs.Ytiknkeakielncaa.Rs
open Go Go.Proofs Sx
set_option maxRecDepth 100000
set_option linter.unusedVariables false
set_option linter.unusedSimpArgs false
set_option maxHeartbeats 4000000

/-- What pieces carry besides: bytes, and where they lie. -/
structure Cy where
  pl : Plc
  c : Nat
  m : List UInt8
def oA (i : Ip) (y : Cy) (a : Nat) : Option Addr := if a = 0 then i.ao else locAddr 0 y.pl
def oL (i : Ip) (y : Cy) (a : Nat) : List UInt8 := if a = 0 then i.p.opts else y.m
def oC (i : Ip) (y : Cy) (a : Nat) : Nat := if a = 0 then i.co else y.c
/-- The piece from a on, of n bytes. -/
def Ip.pc (i : Ip) (y : Cy) (a n : Nat) : Ip :=
  ⟨⟨{ i.p.h with off := i.p.h.off + (a / 8 : Nat), more := i.p.h.more || decide (a + n < i.p.data.length) }, oL i y a, (i.p.data.drop a).take n⟩, oA i y a, oC i y a, if i.cd = a then i.ad else i.ad.map (·.add (a * 1)), i.cd - a⟩
def pcs (i : Ip) (y : Cy) : Nat → List Nat → List Ip
  | _, [] => []
  | a, n :: ns => i.pc y a n :: pcs i y (a + n) ns
theorem pcs_snoc (i : Ip) (y : Cy) : ∀ (ns : List Nat) (a n : Nat), pcs i y a (ns ++ [n]) = pcs i y a ns ++ [i.pc y (a + ns.sum) n]
  | [], a, n => rfl
  | m :: ns, a, n => by
    show i.pc y a m :: pcs i y (a + m) (ns ++ [n]) = i.pc y a m :: (pcs i y (a + m) ns ++ _)
    rw [pcs_snoc i y ns (a + m) n, List.sum_cons, Nat.add_assoc]
theorem pcs_len (i : Ip) (y : Cy) : ∀ (ns : List Nat) (a : Nat), (pcs i y a ns).length = ns.length
  | [], _ => rfl
  | n :: ns, a => by show (pcs i y (a + n) ns).length + 1 = _; rw [pcs_len i y ns (a + n)]; rfl
/-- Sizes of pieces up to a place. -/
structure Sizes (len : Nat) (at_ : Nat) (ns : List Nat) : Prop where
  sum : ns.sum = at_
  le : at_ ≤ len
  by8 : at_ < len → 8 ∣ at_
  ok : ∀ pre n post, ns = pre ++ n :: post → 0 < n ∧ 8 ∣ pre.sum ∧ (pre.sum + n < len → 8 ∣ n)
theorem Sizes.snoc {len a : Nat} {ns : List Nat} (h : Sizes len a ns) {n : Nat} (h0 : 0 < n) (h1 : a + n ≤ len) (h2 : a + n < len → 8 ∣ n) (ha : a < len) : Sizes len (a + n) (ns ++ [n]) := by
  refine ⟨by rw [List.sum_append, h.sum]; simp, h1, fun h3 => ?_, fun pre m post e => ?_⟩
  · obtain ⟨x, hx⟩ := h.by8 ha
    obtain ⟨z, hz⟩ := h2 h3
    exact ⟨x + z, by omega⟩
  · rcases List.eq_nil_or_concat post with rfl | ⟨q, z, rfl⟩
    · obtain ⟨e1, e2⟩ := List.append_inj' e rfl
      simp at e2
      subst e1 e2
      exact ⟨h0, by rw [h.sum]; exact h.by8 ha, by rw [h.sum]; exact h2⟩
    · rw [List.concat_eq_append, ← List.cons_append, ← List.append_assoc] at e
      obtain ⟨e1, e2⟩ := List.append_inj' e rfl
      exact h.ok pre m q e1
theorem Sizes.few {len a : Nat} {ns : List Nat} (h : Sizes len a ns) : ns.length ≤ len := by
  have : ∀ (l : List Nat), (∀ n ∈ l, 0 < n) → l.length ≤ l.sum := by
    intro l
    induction l with
    | nil => intro _; simp
    | cons n l ih =>
      intro hl
      have := ih (fun m hm => hl m (List.mem_cons_of_mem _ hm))
      have := hl n (by simp)
      rw [List.length_cons, List.sum_cons]
      omega
  have h1 := this ns (fun n hn => by
    obtain ⟨pre, post, e⟩ := List.append_of_mem hn
    exact (h.ok pre n post e).1)
  have := h.sum
  have := h.le
  omega
def SplitQ (i : Ip) (v : Value) (q : List Asn) : Prop :=
  (∃ e : Int, e ≠ 0 ∧ v = .tuple #[.slice none 0 0, .int .i64 e] ∧ q = []) ∨
  (∃ pl c, v = .tuple #[.slice (locAddr 0 pl) 1 c, .int .i64 0] ∧ 1 ≤ c ∧ q = [Vec pl 40 11 c (IL.flat [i])]) ∨
  (∃ pl c y ns, v = .tuple #[.slice (locAddr 0 pl) ns.length c, .int .i64 0] ∧ ns.length ≤ c ∧ y.m.length ≤ 40 ∧ y.m.length ≤ y.c ∧ Sizes i.p.data.length i.p.data.length ns ∧ 0 ≤ i.p.h.off ∧ i.p.h.off ≤ 8191 ∧ q = [Vec pl 40 11 c (IL.flat (pcs i y 0 ns)), Vec y.pl 5 1 y.c (U.flat y.m)])
theorem split_spec (i : Ip) (hf : i.Fits) (mtu : Int) : Does Try.prog 21 #[.agg i.vals.toArray, .int .i64 mtu] i.Sees [] (SplitQ i) := by
  refine Does.ofJ Try.func21 Try.call21 rfl [.agg i.svs, .int .i64 mtu] [] 0 [] rfl rfl (fun h k => k) (fun f hR => ?_)
  intro b2
  refine useP (.int .i64 (checkH i.p)) (rcheck_spec i hf) rfl rfl ?_
  refine CondOb.split (fun g => ?_) (fun g => ?_)
  · have g : checkH i.p ≠ 0 := by simpa using g
    exact FinOb.mk [.slice none 0 0, .int .i64 _] [] rfl (fun h k => trivial) (.inl ⟨_, g, rfl, rfl⟩)
  have g : checkH i.p = 0 := by simpa using g
  have hch : 0 ≤ i.p.h.off ∧ i.p.h.off ≤ 8191 ∧ i.p.opts.length ≤ 40 ∧ i.p.opts.length % 4 = 0 ∧ i.p.data.length ≤ 65535 := by
    unfold checkH at g
    split at g
    · cases g
    split at g
    · cases g
    omega
  refine RegOb.join Unit (fun _ => ⟨103, [(1, .int .i64 mtu), (2, .ptr 0 0), (4, .nils), (5, .int .i64 0), (24, .bool (decide (mtu < 68 ∨ mtu > 65535)))], [(0, .at b2 0)], 1, [.blk 0 40 i.svs]⟩) ?_ (fun _ => ?_)
  · refine Br.mk (fun h1 => ?_) (fun h1 => ?_)
    · exact ⟨(), Le.of rfl ⟨⟨_, rfl, rfl⟩, ⟨_, rfl, rfl⟩, ⟨_, rfl, rfl⟩, ⟨_, rfl, rfl⟩, ⟨_, rfl, (bool_eq (by simp at h1 ⊢; simp [h1]))⟩, trivial⟩ (fun h k => k)⟩
    · exact ⟨(), Le.of rfl ⟨⟨_, rfl, rfl⟩, ⟨_, rfl, rfl⟩, ⟨_, rfl, rfl⟩, ⟨_, rfl, rfl⟩, ⟨_, rfl, (bool_eq (by simp at h1 ⊢; omega))⟩, trivial⟩ (fun h k => k)⟩
  refine CondOb.split (fun gm => ?_) (fun gm => ?_)
  · exact FinOb.mk [.slice none 0 0, .int .i64 1] [] rfl (fun h k => trivial) (.inl ⟨1, by decide, rfl, rfl⟩)
  have gm : ¬ (mtu < 68 ∨ mtu > 65535) := of_decide_eq_false gm
  refine useP (.int .i64 (20 + i.p.opts.length + i.p.data.length)) (rlen_spec i hf) rfl rfl ?_
  refine CondOb.split (fun gl => ?_) (fun gl => ?_)
  · intro b30
    exact FinOb.mk [.slice (locAddr 0 (.at b30 0)) 1 1, .int .i64 0] [Vec (.at b30 0) 40 11 1 (IL.flat [i])] rfl (fun h k => sat_pick 0 rfl (fun _ k9 => by exact blk_vec (xs := i.vals) (fun v hv => IL.one i v hv) (by simp [Ip.vals]) (blk_to (b := b30) rfl rfl k9)) (fun h k => sat_nil k) k) (.inr (.inl ⟨_, _, rfl, Nat.le_refl _, rfl⟩))
  refine CondOb.split (fun gw => ?_) (fun gw => ?_)
  · exact FinOb.mk [.slice none 0 0, .int .i64 110] [] rfl (fun h k => trivial) (.inl ⟨110, by decide, rfl, rfl⟩)
  refine call_ix (carried_spec i.ao i.co i.p.opts ⟨hch.2.2.1, hch.2.2.2.1⟩ hf.o) rfl [] (fun h k => k) (fun f' b' hs kb => rd_sub (fun r q hq => hs.get_right hq) hR.o) ?_
  rintro v post (⟨e, he, rfl, rfl⟩ | ⟨pc, cc, m, rfl, hm, hmc, rfl⟩)
  · refine ⟨.tuple [.nils, .int .i64 e], _, 1, [], NmExt.refl _, rfl, fun h k => k, ?_⟩
    refine CondOb.split (fun _ => ?_) (fun h => absurd he (by simpa using h))
    exact FinOb.mk [.slice none 0 0, .int .i64 e] [] rfl (fun h k => trivial) (.inl ⟨e, he, rfl, rfl⟩)
  refine ⟨.tuple [.raw (.slice (locAddr 0 pc) m.length cc), .int .i64 0], _, 1, [.asn (Vec pc 5 1 cc (U.flat m))], NmExt.refl _, rfl, fun h k => k, ?_⟩
  refine CondOb.split (fun h => absurd h (by decide)) (fun _ => ?_)
  have hfd := hf.d
  have hfo := hf.o
  generalize hy : (⟨pc, cc, m⟩ : Cy) = y
  have hypl : y.pl = pc := by rw [← hy]
  have hyc : y.c = cc := by rw [← hy]
  have hym : y.m = m := by rw [← hy]
  rw [← hypl, ← hyc, ← hym]
  rw [← hym] at hm hmc
  rw [← hyc] at hmc
  clear hy hypl hyc hym
  refine LoopOb.mk { z : Nat × Plc × Nat × List Nat // Sizes i.p.data.length z.1 z.2.2.2 ∧ z.2.2.2.length ≤ z.2.2.1 } (fun z => ⟨103, [(1, .int .i64 mtu), (2, .ptr 0 0), (4, .nils), (5, .int .i64 0), (7, .raw (.slice (locAddr 0 y.pl) y.m.length y.c)), (9, .sl 1 0 z.1.2.2.2.length z.1.2.2.1), (10, .int .i64 z.1.1)], [(1, z.1.2.1), (0, .at b2 0)], 2, [.blk 0 40 i.svs, .vec 1 40 11 z.1.2.2.1 (IL.flat (pcs i y 0 z.1.2.2.2)), .asn (Vec y.pl 5 1 y.c (U.flat y.m))]⟩) (fun z => i.p.data.length - z.1.1) ⟨(0, .nil, 0, []), ⟨rfl, Nat.zero_le _, fun _ => ⟨0, rfl⟩, fun pre n post e => by simp at e⟩, Nat.le_refl _⟩ ?_ ?_
  · exact Le.of rfl ⟨⟨_, rfl, rfl⟩, ⟨_, rfl, rfl⟩, ⟨_, rfl, rfl⟩, ⟨_, rfl, rfl⟩, ⟨_, rfl, rfl⟩, ⟨_, rfl, rfl⟩, ⟨_, rfl, rfl⟩, trivial⟩ (fun h k => sat_pick 1 rfl (by first | exact fun _ k => k | exact fun _ k => blk_to rfl rfl k | exact fun _ k => vec_to rfl k | exact fun _ k => blk_of rfl rfl k | exact fun _ k => vec_of rfl k | exact fun _ k => blk_of rfl rfl (blk_to rfl rfl k) | exact fun _ k => vec_of rfl (vec_to rfl k) | exact fun _ k => mp_to rfl k | exact fun _ k => mp_of rfl k | exact fun _ k => mp_of rfl (mp_to rfl k)) (fun h k => sat_add (vec_of rfl vec_emp) ((fun h k => sat_pick 0 rfl (by first | exact fun _ k => k | exact fun _ k => blk_to rfl rfl k | exact fun _ k => vec_to rfl k | exact fun _ k => blk_of rfl rfl k | exact fun _ k => vec_of rfl k | exact fun _ k => blk_of rfl rfl (blk_to rfl rfl k) | exact fun _ k => vec_of rfl (vec_to rfl k) | exact fun _ k => mp_to rfl k | exact fun _ k => mp_of rfl k | exact fun _ k => mp_of rfl (mp_to rfl k)) (fun h k => sat_nil k) k) h k)) k)
  rintro ⟨⟨a, pv, cv, ns⟩, hS, hcv⟩
  simp only at hS hcv
  refine CondOb.split (fun ga => ?_) (fun ga => ?_)
  rotate_left
  · have e : a = i.p.data.length := by
      have ga := of_decide_eq_false ga
      have : ¬ (a : Int) < i.p.data.length := ga
      have := hS.le
      omega
    subst e
    exact FinOb.mk [.slice (locAddr 0 pv) ns.length cv, .int .i64 0] [Vec pv 40 11 cv (IL.flat (pcs i y 0 ns)), Vec y.pl 5 1 y.c (U.flat y.m)] rfl (fun h k => sat_pick 1 rfl (fun _ k => vec_to (l := pv) rfl k) (fun h k => sat_pick 1 rfl (by first | exact fun _ k => k | exact fun _ k => blk_to rfl rfl k | exact fun _ k => vec_to rfl k | exact fun _ k => blk_of rfl rfl k | exact fun _ k => vec_of rfl k | exact fun _ k => blk_of rfl rfl (blk_to rfl rfl k) | exact fun _ k => vec_of rfl (vec_to rfl k) | exact fun _ k => mp_to rfl k | exact fun _ k => mp_of rfl k | exact fun _ k => mp_of rfl (mp_to rfl k)) (fun h k => sat_nil k) k) k) (.inr (.inr ⟨pv, cv, y, ns, rfl, hcv, hm, hmc, hS, hch.1, hch.2.1, rfl⟩))
  have hal : a < i.p.data.length := by
    have ga := of_decide_eq_true ga
    have : (a : Int) < i.p.data.length := ga
    omega
  have hol : (oL i y a).length ≤ 40 := by unfold oL; split <;> omega
  intro b11
  refine CondOb.join Unit (fun _ => ⟨103, [(1, .int .i64 mtu), (2, .ptr 0 0), (4, .nils), (5, .int .i64 0), (7, .raw (.slice (locAddr 0 y.pl) y.m.length y.c)), (9, .sl 1 0 ns.length cv), (10, .int .i64 a), (11, .ptr 2 0)], [(2, .at b11 0), (1, pv), (0, .at b2 0)], 3, [.blk 2 40 [.int .u8 i.p.h.tos, .int .u16 i.p.h.ident, .bool i.p.h.whole, .bool i.p.h.more, .int .i64 i.p.h.off, .int .u8 i.p.h.ttl, .int .u8 i.p.h.proto, .int .u32 i.p.h.src, .int .u32 i.p.h.dst, .raw (.slice (oA i y a) (oL i y a).length (oC i y a)), .raw (.slice i.ad i.p.data.length i.cd)], .blk 0 40 i.svs, .vec 1 40 11 cv (IL.flat (pcs i y 0 ns)), .asn (Vec y.pl 5 1 y.c (U.flat y.m))]⟩) (fun g0 => ?_) (fun g0 => ?_) (fun _ => ?_)
  · have g0 : a ≠ 0 := by
      have g0 := of_decide_eq_true g0
      have : (a : Int) > 0 := g0
      omega
    have e1 : oA i y a = locAddr 0 y.pl := if_neg g0
    have e2 : oL i y a = y.m := if_neg g0
    have e3 : oC i y a = y.c := if_neg g0
    rw [e1, e2, e3]
    exact ⟨(), Le.of rfl ⟨⟨_, rfl, rfl⟩, ⟨_, rfl, rfl⟩, ⟨_, rfl, rfl⟩, ⟨_, rfl, rfl⟩, ⟨_, rfl, rfl⟩, ⟨_, rfl, rfl⟩, ⟨_, rfl, rfl⟩, ⟨_, rfl, rfl⟩, trivial⟩ (fun h k => sat_pick 0 rfl (by first | exact fun _ k => k | exact fun _ k => blk_to rfl rfl k | exact fun _ k => vec_to rfl k | exact fun _ k => blk_of rfl rfl k | exact fun _ k => vec_of rfl k | exact fun _ k => blk_of rfl rfl (blk_to rfl rfl k) | exact fun _ k => vec_of rfl (vec_to rfl k) | exact fun _ k => mp_to rfl k | exact fun _ k => mp_of rfl k | exact fun _ k => mp_of rfl (mp_to rfl k)) (fun h k => sat_pick 0 rfl (by first | exact fun _ k => k | exact fun _ k => blk_to rfl rfl k | exact fun _ k => vec_to rfl k | exact fun _ k => blk_of rfl rfl k | exact fun _ k => vec_of rfl k | exact fun _ k => blk_of rfl rfl (blk_to rfl rfl k) | exact fun _ k => vec_of rfl (vec_to rfl k) | exact fun _ k => mp_to rfl k | exact fun _ k => mp_of rfl k | exact fun _ k => mp_of rfl (mp_to rfl k)) (fun h k => sat_pick 0 rfl (by first | exact fun _ k => k | exact fun _ k => blk_to rfl rfl k | exact fun _ k => vec_to rfl k | exact fun _ k => blk_of rfl rfl k | exact fun _ k => vec_of rfl k | exact fun _ k => blk_of rfl rfl (blk_to rfl rfl k) | exact fun _ k => vec_of rfl (vec_to rfl k) | exact fun _ k => mp_to rfl k | exact fun _ k => mp_of rfl k | exact fun _ k => mp_of rfl (mp_to rfl k)) (fun h k => sat_pick 0 rfl (by first | exact fun _ k => k | exact fun _ k => blk_to rfl rfl k | exact fun _ k => vec_to rfl k | exact fun _ k => blk_of rfl rfl k | exact fun _ k => vec_of rfl k | exact fun _ k => blk_of rfl rfl (blk_to rfl rfl k) | exact fun _ k => vec_of rfl (vec_to rfl k) | exact fun _ k => mp_to rfl k | exact fun _ k => mp_of rfl k | exact fun _ k => mp_of rfl (mp_to rfl k)) (fun h k => sat_nil k) k) k) k) k)⟩
  · have g0 : a = 0 := by
      have g0 := of_decide_eq_false g0
      have : ¬ (a : Int) > 0 := g0
      omega
    have e1 : oA i y a = i.ao := if_pos g0
    have e2 : oL i y a = i.p.opts := if_pos g0
    have e3 : oC i y a = i.co := if_pos g0
    rw [e1, e2, e3]
    exact ⟨(), Le.of rfl ⟨⟨_, rfl, rfl⟩, ⟨_, rfl, rfl⟩, ⟨_, rfl, rfl⟩, ⟨_, rfl, rfl⟩, ⟨_, rfl, rfl⟩, ⟨_, rfl, rfl⟩, ⟨_, rfl, rfl⟩, ⟨_, rfl, rfl⟩, trivial⟩ (fun h k => sat_pick 0 rfl (by first | exact fun _ k => k | exact fun _ k => blk_to rfl rfl k | exact fun _ k => vec_to rfl k | exact fun _ k => blk_of rfl rfl k | exact fun _ k => vec_of rfl k | exact fun _ k => blk_of rfl rfl (blk_to rfl rfl k) | exact fun _ k => vec_of rfl (vec_to rfl k) | exact fun _ k => mp_to rfl k | exact fun _ k => mp_of rfl k | exact fun _ k => mp_of rfl (mp_to rfl k)) (fun h k => sat_pick 0 rfl (by first | exact fun _ k => k | exact fun _ k => blk_to rfl rfl k | exact fun _ k => vec_to rfl k | exact fun _ k => blk_of rfl rfl k | exact fun _ k => vec_of rfl k | exact fun _ k => blk_of rfl rfl (blk_to rfl rfl k) | exact fun _ k => vec_of rfl (vec_to rfl k) | exact fun _ k => mp_to rfl k | exact fun _ k => mp_of rfl k | exact fun _ k => mp_of rfl (mp_to rfl k)) (fun h k => sat_pick 0 rfl (by first | exact fun _ k => k | exact fun _ k => blk_to rfl rfl k | exact fun _ k => vec_to rfl k | exact fun _ k => blk_of rfl rfl k | exact fun _ k => vec_of rfl k | exact fun _ k => blk_of rfl rfl (blk_to rfl rfl k) | exact fun _ k => vec_of rfl (vec_to rfl k) | exact fun _ k => mp_to rfl k | exact fun _ k => mp_of rfl k | exact fun _ k => mp_of rfl (mp_to rfl k)) (fun h k => sat_pick 0 rfl (by first | exact fun _ k => k | exact fun _ k => blk_to rfl rfl k | exact fun _ k => vec_to rfl k | exact fun _ k => blk_of rfl rfl k | exact fun _ k => vec_of rfl k | exact fun _ k => blk_of rfl rfl (blk_to rfl rfl k) | exact fun _ k => vec_of rfl (vec_to rfl k) | exact fun _ k => mp_to rfl k | exact fun _ k => mp_of rfl k | exact fun _ k => mp_of rfl (mp_to rfl k)) (fun h k => sat_nil k) k) k) k) k)⟩
  generalize hroom : mtu - 20 - (oL i y a).length = room
  have er : IntKind.i64.wrap (IntKind.i64.wrap (mtu - 20) - ((oL i y a).length : Int)) = room := by rw [w64 (x := mtu - 20) (by omega) (by omega), w64 (by omega) (by omega)]; exact hroom
  have el : IntKind.i64.wrap ((i.p.data.length : Int) - a) = ((i.p.data.length - a : Nat) : Int) := by rw [w64 (by omega) (by omega)]; omega
  have eo : IntKind.i64.wrap (i.p.h.off + IntKind.i64.wrap ((a : Int).tdiv 8)) = i.p.h.off + (a / 8 : Nat) := by rw [show (a : Int).tdiv 8 = ((a / 8 : Nat) : Int) from rfl, w64 (x := ((a / 8 : Nat) : Int)) (by omega) (by omega), w64 (by omega) (by omega)]
  refine Need.mk (by decide) ?_
  refine CondOb.split (fun gx => ?_) (fun gx => ?_)
  · exact FinOb.mk [.slice none 0 0, .int .i64 8] [] rfl (fun h k => trivial) (.inl ⟨8, by decide, rfl, rfl⟩)
  refine CondOb.join { n : Nat // 0 < n ∧ a + n ≤ i.p.data.length ∧ (a + n < i.p.data.length → 8 ∣ n) } (fun n => ⟨103, [(1, .int .i64 mtu), (2, .ptr 0 0), (4, .nils), (5, .int .i64 0), (7, .raw (.slice (locAddr 0 y.pl) y.m.length y.c)), (9, .sl 1 0 ns.length cv), (10, .int .i64 (a + n.1 : Nat)), (11, .ptr 2 0)], [(2, .at b11 0), (1, pv), (0, .at b2 0)], 3, [.blk 2 40 (i.pc y a n.1).svs, .blk 0 40 i.svs, .vec 1 40 11 cv (IL.flat (pcs i y 0 ns)), .asn (Vec y.pl 5 1 y.c (U.flat y.m))]⟩) (fun gr => ?_) (fun gr => ?_) (fun n => ?_)
  · refine Need.mk (show (0 : Int) ≤ (a : Int) ∧ (a : Int) ≤ (i.p.data.length : Nat) from by omega) ?_
    have en : a + (i.p.data.length - a) = i.p.data.length := by omega
    have hdt : ((i.p.data.drop a).take (i.p.data.length - a)).length = i.p.data.length - a := by rw [List.length_take, List.length_drop]; omega
    have hmo : (i.p.h.more || decide (a + (i.p.data.length - a) < i.p.data.length)) = i.p.h.more := by rw [en]; simp
    refine ⟨⟨i.p.data.length - a, by omega, by omega, fun h => by omega⟩, Le.of rfl ⟨⟨_, rfl, rfl⟩, ⟨_, rfl, rfl⟩, ⟨_, rfl, rfl⟩, ⟨_, rfl, rfl⟩, ⟨_, rfl, rfl⟩, ⟨_, rfl, rfl⟩, ⟨_, rfl, (congrArg (fun z : Nat => some (Value.int .i64 (z : Int))) en.symm)⟩, ⟨_, rfl, rfl⟩, trivial⟩ (fun h k => sat_pick 0 rfl (fun _ k9 => by
      refine blk_cast ?_ k9
      unfold Ip.svs Ip.pc
      simp only [hmo, hdt]
      rw [eo]
      rfl) (fun h k => sat_pick 0 rfl (by first | exact fun _ k => k | exact fun _ k => blk_to rfl rfl k | exact fun _ k => vec_to rfl k | exact fun _ k => blk_of rfl rfl k | exact fun _ k => vec_of rfl k | exact fun _ k => blk_of rfl rfl (blk_to rfl rfl k) | exact fun _ k => vec_of rfl (vec_to rfl k) | exact fun _ k => mp_to rfl k | exact fun _ k => mp_of rfl k | exact fun _ k => mp_of rfl (mp_to rfl k)) (fun h k => sat_pick 0 rfl (by first | exact fun _ k => k | exact fun _ k => blk_to rfl rfl k | exact fun _ k => vec_to rfl k | exact fun _ k => blk_of rfl rfl k | exact fun _ k => vec_of rfl k | exact fun _ k => blk_of rfl rfl (blk_to rfl rfl k) | exact fun _ k => vec_of rfl (vec_to rfl k) | exact fun _ k => mp_to rfl k | exact fun _ k => mp_of rfl k | exact fun _ k => mp_of rfl (mp_to rfl k)) (fun h k => sat_pick 0 rfl (by first | exact fun _ k => k | exact fun _ k => blk_to rfl rfl k | exact fun _ k => vec_to rfl k | exact fun _ k => blk_of rfl rfl k | exact fun _ k => vec_of rfl k | exact fun _ k => blk_of rfl rfl (blk_to rfl rfl k) | exact fun _ k => vec_of rfl (vec_to rfl k) | exact fun _ k => mp_to rfl k | exact fun _ k => mp_of rfl k | exact fun _ k => mp_of rfl (mp_to rfl k)) (fun h k => sat_nil k) k) k) k) k)⟩
  · have gr := of_decide_eq_false gr
    have gr : ¬ IntKind.i64.wrap ((i.p.data.length : Int) - a) ≤ IntKind.i64.wrap (IntKind.i64.wrap (mtu - 20) - ((oL i y a).length : Int)) := gr
    rw [el, er] at gr
    generalize hr8 : room.toNat / 8 * 8 = r8
    have e8 : ∀ R : Int, R = room → IntKind.i64.wrap (IntKind.i64.wrap (R.tdiv 8) * 8) = (r8 : Int) := by
      intro R hRe
      rw [hRe]
      obtain ⟨k, hk⟩ : ∃ k : Nat, room = k := ⟨room.toNat, by omega⟩
      subst hk
      rw [Int.toNat_natCast] at hr8
      rw [show (k : Int).tdiv 8 = ((k / 8 : Nat) : Int) from rfl, w64 (x := ((k / 8 : Nat) : Int)) (by omega) (by omega), w64 (by omega) (by omega)]
      omega
    have h8 : 8 ≤ r8 ∧ (r8 : Int) ≤ room ∧ 8 ∣ r8 := ⟨by omega, by omega, ⟨room.toNat / 8, by omega⟩⟩
    have ean : ∀ R : Int, R = (r8 : Int) → IntKind.i64.wrap ((a : Int) + R) = ((a + r8 : Nat) : Int) := by
      rintro _ rfl
      rw [w64 (by omega) (by omega)]; omega
    have ean := ean _ (e8 _ er)
    refine Need.mk (by decide) ?_
    refine Need.mk (show (0 : Int) ≤ (a : Int) ∧ (a : Int) ≤ IntKind.i64.wrap ((a : Int) + IntKind.i64.wrap (IntKind.i64.wrap ((IntKind.i64.wrap (IntKind.i64.wrap (mtu - 20) - ((oL i y a).length : Int))).tdiv 8) * 8)) ∧ IntKind.i64.wrap ((a : Int) + IntKind.i64.wrap (IntKind.i64.wrap ((IntKind.i64.wrap (IntKind.i64.wrap (mtu - 20) - ((oL i y a).length : Int))).tdiv 8) * 8)) ≤ (i.cd : Nat) from by rw [ean]; omega) ?_
    have hdt : ((i.p.data.drop a).take r8).length = r8 := by rw [List.length_take, List.length_drop]; omega
    have hmo : (i.p.h.more || decide (a + r8 < i.p.data.length)) = true := by rw [decide_eq_true (by omega)]; simp
    have hsz : ∀ R : Int, R = ((a + r8 : Nat) : Int) → R.toNat - (a : Int).toNat = r8 := by
      rintro _ rfl
      rw [Int.toNat_natCast, Int.toNat_natCast]; omega
    have hsz := hsz _ ean
    have hv : ∀ E : Int, E.toNat - (a : Int).toNat = r8 → (i.pc y a r8).vals = [.int .u8 i.p.h.tos, .int .u16 i.p.h.ident, .bool i.p.h.whole, .bool true, .int .i64 (IntKind.i64.wrap (i.p.h.off + IntKind.i64.wrap ((a : Int).tdiv 8))), .int .u8 i.p.h.ttl, .int .u8 i.p.h.proto, .int .u32 i.p.h.src, .int .u32 i.p.h.dst, .slice (oA i y a) (oL i y a).length (oC i y a), .slice (if i.cd = (a : Int).toNat then i.ad else i.ad.map (·.add ((a : Int).toNat * 1))) (E.toNat - (a : Int).toNat) (i.cd - (a : Int).toNat)] := by
      intro E hE
      unfold Ip.vals Ip.pc
      simp only [hmo, hdt]
      rw [eo, hE]
      rfl
    have hv := hv _ hsz
    exact ⟨⟨r8, by omega, by omega, fun _ => h8.2.2⟩, Le.of rfl ⟨⟨_, rfl, rfl⟩, ⟨_, rfl, rfl⟩, ⟨_, rfl, rfl⟩, ⟨_, rfl, rfl⟩, ⟨_, rfl, rfl⟩, ⟨_, rfl, rfl⟩, ⟨_, rfl, (congrArg (fun z : Int => some (Value.int .i64 z)) ean)⟩, ⟨_, rfl, rfl⟩, trivial⟩ (fun h k => sat_pick 0 rfl (fun _ k9 => by exact blk_of (b := b11) rfl rfl (blk_to (b := b11) (vs := (i.pc y a r8).vals) rfl (by rw [hv]; rfl) k9)) (fun h k => sat_pick 0 rfl (by first | exact fun _ k => k | exact fun _ k => blk_to rfl rfl k | exact fun _ k => vec_to rfl k | exact fun _ k => blk_of rfl rfl k | exact fun _ k => vec_of rfl k | exact fun _ k => blk_of rfl rfl (blk_to rfl rfl k) | exact fun _ k => vec_of rfl (vec_to rfl k) | exact fun _ k => mp_to rfl k | exact fun _ k => mp_of rfl k | exact fun _ k => mp_of rfl (mp_to rfl k)) (fun h k => sat_pick 0 rfl (by first | exact fun _ k => k | exact fun _ k => blk_to rfl rfl k | exact fun _ k => vec_to rfl k | exact fun _ k => blk_of rfl rfl k | exact fun _ k => vec_of rfl k | exact fun _ k => blk_of rfl rfl (blk_to rfl rfl k) | exact fun _ k => vec_of rfl (vec_to rfl k) | exact fun _ k => mp_to rfl k | exact fun _ k => mp_of rfl k | exact fun _ k => mp_of rfl (mp_to rfl k)) (fun h k => sat_pick 0 rfl (by first | exact fun _ k => k | exact fun _ k => blk_to rfl rfl k | exact fun _ k => vec_to rfl k | exact fun _ k => blk_of rfl rfl k | exact fun _ k => vec_of rfl k | exact fun _ k => blk_of rfl rfl (blk_to rfl rfl k) | exact fun _ k => vec_of rfl (vec_to rfl k) | exact fun _ k => mp_to rfl k | exact fun _ k => mp_of rfl k | exact fun _ k => mp_of rfl (mp_to rfl k)) (fun h k => sat_nil k) k) k) k) k)⟩
  obtain ⟨n, hn0, hn1, hn2⟩ := n
  intro b100
  have hlP : (IL.flat (pcs i y 0 ns)).length = ns.length * 11 := by rw [lIL, pcs_len]
  have hfew := hS.few
  refine StOb.mk (IL.cells (i.pc y a n)) rfl (Need.mk rfl ?_)
  refine Need.mk ⟨by omega, by omega, hcv⟩ ?_
  refine Need.mk ⟨by omega, by simp only [maxLen]; omega, IL.one _⟩ ?_
  refine NewSl.pos (Nat.succ_pos _) (fun b8 o8 c8 hc8 => ?_)
  have e3 : (ns ++ [n]).length = ns.length + 1 := List.length_append
  have hfl : List.take (ns.length * 11) (List.drop 0 (IL.flat (pcs i y 0 ns))) ++ IL.cells (i.pc y a n) = IL.flat (pcs i y 0 (ns ++ [n])) := by
    rw [List.drop_zero, List.take_of_length_le (by omega), pcs_snoc, hS.sum, Nat.zero_add, IL.flat_append, IL.flat_one]
  exact ⟨⟨(a + n, .at b8 o8, c8, ns ++ [n]), hS.snoc hn0 hn1 hn2 hal, by show (ns ++ [n]).length ≤ c8; rw [e3]; exact hc8⟩, by show i.p.data.length - (a + n) < i.p.data.length - a; omega, Le.of rfl ⟨⟨_, rfl, rfl⟩, ⟨_, rfl, rfl⟩, ⟨_, rfl, rfl⟩, ⟨_, rfl, rfl⟩, ⟨_, rfl, rfl⟩, ⟨_, rfl, (congrArg (fun n => some (Value.slice (some ⟨b8, o8 + 0, none⟩) n c8)) e3.symm)⟩, ⟨_, rfl, rfl⟩, trivial⟩ (fun h k => sat_pick 3 rfl (by first | exact fun _ k => k | exact fun _ k => blk_to rfl rfl k | exact fun _ k => vec_to rfl k | exact fun _ k => blk_of rfl rfl k | exact fun _ k => vec_of rfl k | exact fun _ k => blk_of rfl rfl (blk_to rfl rfl k) | exact fun _ k => vec_of rfl (vec_to rfl k) | exact fun _ k => mp_to rfl k | exact fun _ k => mp_of rfl k | exact fun _ k => mp_of rfl (mp_to rfl k)) (fun h k => sat_pick 0 rfl (fun _ k9 => by exact vec_of rfl (vec_cast hfl (vec_to (l := .at b8 o8) rfl k9))) (fun h k => sat_pick 2 rfl (by first | exact fun _ k => k | exact fun _ k => blk_to rfl rfl k | exact fun _ k => vec_to rfl k | exact fun _ k => blk_of rfl rfl k | exact fun _ k => vec_of rfl k | exact fun _ k => blk_of rfl rfl (blk_to rfl rfl k) | exact fun _ k => vec_of rfl (vec_to rfl k) | exact fun _ k => mp_to rfl k | exact fun _ k => mp_of rfl k | exact fun _ k => mp_of rfl (mp_to rfl k)) (fun h k => sat_nil k) k) k) k)⟩
end Go.Proofs.Ytiknkeakielncaa.Rs
