/- reasm: the law ReasmWhole, walked. Conditions: none. -/
import Derived.Test.YtiknkeakielncaaRsQ
namespace Go.Proofs.Ytiknkeakielncaa.Rs
open Go Go.Proofs Sx
set_option maxRecDepth 100000
set_option linter.unusedVariables false
set_option linter.unusedSimpArgs false
set_option maxHeartbeats 4000000

theorem pcs_get (i : Ip) (y : Cy) : ∀ (ns : List Nat) (a j : Nat), (pcs i y a ns)[j]? = ns[j]?.map (fun n => i.pc y (a + st ns j) n)
  | [], a, j => by simp [pcs]
  | n :: ns, a, 0 => by simp [pcs, st]
  | n :: ns, a, j + 1 => by
    have e : st (n :: ns) (j + 1) = n + st ns j := by unfold st; rw [List.take_succ_cons, List.sum_cons]
    show (pcs i y (a + n) ns)[j]? = _
    rw [pcs_get i y ns (a + n) j, List.getElem?_cons_succ, e, Nat.add_assoc]
theorem part_pcs {i : Ip} {y : Cy} {ns : List Nat} (hS : Sizes i.p.data.length i.p.data.length ns) (h0 : i.p.h.off = 0) (hm : i.p.h.more = false) (h2 : 2 ≤ ns.length) (ho : i.p.opts.length ≤ 40) (hd : i.p.data.length ≤ 60000) : Part i.p ((pcs i y 0 ns).map Ip.p) ns := by
  refine ⟨by rw [List.length_map, pcs_len], hS.sum, fun j x n hx hn => ?_, h0, hm, h2, ho, hd⟩
  rw [List.getElem?_map, pcs_get, hn] at hx
  simp only [Option.map_some, Option.some.injEq, Nat.zero_add] at hx
  subst hx
  have hsp : ns = ns.take j ++ n :: ns.drop (j + 1) := by
    have hj := (List.getElem?_eq_some_iff.1 hn)
    obtain ⟨hj, e⟩ := hj
    rw [← e, ← List.drop_eq_getElem_cons hj, List.take_append_drop]
  obtain ⟨q1, q2, q3⟩ := hS.ok _ _ _ hsp
  have hle : st ns j + n ≤ i.p.data.length := by
    have := hS.sum
    rw [hsp, List.sum_append, List.sum_cons] at this
    unfold st
    omega
  refine ⟨?_, rfl, q2, q1, hle, q3, fun e => ?_⟩
  · unfold Ip.pc
    simp only [h0, hm, Bool.false_or, Int.zero_add]
  · show oL i y (st ns j) = _
    rw [e]; rfl
def SplitR (i : Ip) (v : Value) (q : List Asn) : Prop :=
  (∃ e : Int, e ≠ 0 ∧ v = .tuple #[.slice none 0 0, .int .i64 e] ∧ q = []) ∨
  (∃ b o c, v = .tuple #[.slice (locAddr 0 (.at b o)) 1 c, .int .i64 0] ∧ q = [Vec (.at b o) 40 11 c (IL.flat [i])]) ∨
  (∃ pl c y ns, v = .tuple #[.slice (locAddr 0 pl) ns.length c, .int .i64 0] ∧ (ns ≠ [] → ∃ b o, pl = .at b o) ∧ y.m.length ≤ 40 ∧ y.m.length ≤ y.c ∧ Sizes i.p.data.length i.p.data.length ns ∧ 0 ≤ i.p.h.off ∧ i.p.h.off ≤ 8191 ∧ q = [Vec pl 40 11 c (IL.flat (pcs i y 0 ns)), Vec y.pl 5 1 y.c (U.flat y.m)])
theorem split2_spec (i : Ip) (hf : i.Fits) (mtu : Int) : Does Try.prog 21 #[.agg i.vals.toArray, .int .i64 mtu] i.Sees [] (SplitR i) := by
  refine (split_spec i hf mtu).sure ?_
  rintro v q h (h1 | ⟨pl, c, rfl, hc, rfl⟩ | ⟨pl, c, y, ns, rfl, hc, h1, h2, h3, h4, h5, rfl⟩) k
  · exact .inl h1
  · obtain ⟨x, _, _, hx, _⟩ := k
    obtain ⟨b, o, rfl⟩ := vec_at (by rw [IL.flat_one]; simp [IL, Ip.vals]) hx
    exact .inr (.inl ⟨b, o, c, rfl, rfl⟩)
  · obtain ⟨x, _, _, hx, _⟩ := k
    refine .inr (.inr ⟨pl, c, y, ns, rfl, fun hne => vec_at (fun e => hne ?_) hx, h1, h2, h3, h4, h5, rfl⟩)
    have := congrArg List.length e
    rw [lIL, pcs_len] at this
    exact List.eq_nil_of_length_eq_zero (by simp at this; omega)
/-- What a piece's bytes read. -/
theorem pc_sees {f : HP} {i : Ip} {y : Cy} (hi : i.Sees f) (hf : i.Fits) (hy : Reads f (locAddr 0 y.pl) (U.flat y.m)) (a n : Nat) : (i.pc y a n).Sees f := by
  refine ⟨?_, take_rd (slice_rd hi.d hf.d)⟩
  show Reads f (oA i y a) (U.flat (oL i y a))
  unfold oA oL
  split
  · exact hi.o
  · exact hy
theorem pc_fits {i : Ip} {y : Cy} (hf : i.Fits) (hm : y.m.length ≤ 40) (hc : y.m.length ≤ y.c) {a n : Nat} (h : a + n ≤ i.p.data.length) : (i.pc y a n).Fits := by
  have h1 := hf.o; have h2 := hf.d; have h3 := hf.lo; have h4 := hf.ld
  refine ⟨?_, ?_, ?_, ?_⟩
  · show (oL i y a).length ≤ oC i y a
    unfold oL oC
    split <;> omega
  · show ((i.p.data.drop a).take n).length ≤ i.cd - a
    rw [List.length_take, List.length_drop]; omega
  · show (oL i y a).length ≤ 1000000
    unfold oL
    split <;> omega
  · show ((i.p.data.drop a).take n).length ≤ 1000000
    rw [List.length_take, List.length_drop]; omega
def BL : Lay Bool where
  cells b := [.bool b]
  sz := 1
  len _ := rfl
  one e v hv := by simp at hv; subst hv; rfl
theorem lBL (l : List Bool) : (BL.flat l).length = l.length := by rw [BL.flat_length]; simp [BL]
def lack (l : List Bool) : Nat := (l.filter (fun b => !b)).length
theorem lack_set : ∀ {l : List Bool} {k : Nat}, l[k]? = some false → lack (l.set k true) + 1 = lack l
  | [], k, h => by simp at h
  | b :: l, 0, h => by
    simp at h; subst h
    show (l.filter _).length + 1 = (false :: l.filter _).length
    rfl
  | b :: l, k + 1, h => by
    have := lack_set (l := l) (k := k) (by simpa using h)
    unfold lack at this ⊢
    rw [List.set_cons_succ, List.filter_cons, List.filter_cons]
    cases b <;> simp <;> omega
theorem lack_zero {l : List Bool} : lack l = 0 ↔ ∀ k, k < l.length → l[k]? = some true := by
  unfold lack
  rw [List.length_eq_zero_iff, List.filter_eq_nil_iff]
  constructor
  · intro h k hk
    have := h l[k] (List.getElem_mem hk)
    rw [List.getElem?_eq_getElem hk]
    simpa using this
  · intro h b hb
    obtain ⟨k, hk, rfl⟩ := List.getElem_of_mem hb
    have := h k hk
    rw [List.getElem?_eq_getElem hk] at this
    simp at this
    simp [this]
theorem bl_rep (n : Nat) : (List.replicate n [Value.bool false]).flatten = BL.flat (List.replicate n false) := by
  induction n with
  | zero => rfl
  | succ n ih => rw [List.replicate_succ, List.flatten_cons, ih, List.replicate_succ, BL.flat_cons]; rfl
structure WI (p : Pl) (ns : List Nat) (lo : Nat) (i : Nat) (n : Int) (M : List Mp) (hs : List Bool) (J : List Nat) : Prop where
  len : hs.length = ns.length
  inv : InvM p ns J M
  has : ∀ j, hs[j]? = some true ↔ j ∈ J
  le : i ≤ lo + ns.length
  lack : ∃ k, k < ns.length ∧ k ∉ J
  done : ∀ k, k + lo < i → k ∈ J
  n0 : 0 ≤ n ∧ n ≤ i
theorem whole_spec (i : Ip) (hf : i.Fits) (mtu : Int) (A : Option Addr) (cap : Nat) (ord : List UInt8) :
    Does Try.prog 4 #[.agg i.vals.toArray, .int .i64 mtu, .slice A ord.length cap] (fun f => i.Sees f ∧ Reads f A (U.flat ord)) [] (fun v q => v = .bool true ∧ q = []) := by
  refine Does.ofJ Try.func4 Try.call4 rfl [.agg i.svs, .int .i64 mtu, .raw (.slice A ord.length cap)] [] 0 [] rfl rfl (fun h k => k) (fun f hR => ?_)
  intro b3
  refine RegOb.join Unit (fun _ => ⟨141, [(1, .int .i64 mtu), (2, .raw (.slice A ord.length cap)), (3, .ptr 0 0), (6, .ff), (41, .bool (decide (i.p.opts.length > 40 ∨ i.p.data.length > 3000 ∨ i.p.h.off ≠ 0 ∨ i.p.h.more = true ∨ ord.length > 300)))], [(0, .at b3 0)], 1, [.blk 0 40 i.svs]⟩) ?_ (fun _ => ?_)
  · refine Br.mk (fun h1 => ?_) (fun h1 => ?_)
    · exact ⟨(), Le.of rfl ⟨⟨_, rfl, rfl⟩, ⟨_, rfl, rfl⟩, ⟨_, rfl, rfl⟩, ⟨_, rfl, rfl⟩, ⟨_, rfl, (bool_eq (by have h1 := of_decide_eq_true h1; have h1 : (i.p.opts.length : Int) > 40 := h1; simp; omega))⟩, trivial⟩ (fun h k => k)⟩
    refine Br.mk (fun h2 => ?_) (fun h2 => ?_)
    · exact ⟨(), Le.of rfl ⟨⟨_, rfl, rfl⟩, ⟨_, rfl, rfl⟩, ⟨_, rfl, rfl⟩, ⟨_, rfl, rfl⟩, ⟨_, rfl, (bool_eq (by have h2 := of_decide_eq_true h2; have h2 : (i.p.data.length : Int) > 3000 := h2; simp; omega))⟩, trivial⟩ (fun h k => k)⟩
    refine Br.mk (fun h3 => ?_) (fun h3 => ?_)
    · have h3 : i.p.h.off ≠ 0 := by simpa using h3
      exact ⟨(), Le.of rfl ⟨⟨_, rfl, rfl⟩, ⟨_, rfl, rfl⟩, ⟨_, rfl, rfl⟩, ⟨_, rfl, rfl⟩, ⟨_, rfl, (bool_eq (by simp [h3]))⟩, trivial⟩ (fun h k => k)⟩
    refine Br.mk (fun h4 => ?_) (fun h4 => ?_)
    · exact ⟨(), Le.of rfl ⟨⟨_, rfl, rfl⟩, ⟨_, rfl, rfl⟩, ⟨_, rfl, rfl⟩, ⟨_, rfl, rfl⟩, ⟨_, rfl, (bool_eq (by simp [h4]))⟩, trivial⟩ (fun h k => k)⟩
    have h1 := of_decide_eq_false h1
    have h1 : ¬ (i.p.opts.length : Int) > 40 := h1
    have h2 := of_decide_eq_false h2
    have h2 : ¬ (i.p.data.length : Int) > 3000 := h2
    have h3 : i.p.h.off = 0 := by simpa using h3
    have h1 : ¬ i.p.opts.length > 40 := by omega
    have h2 : ¬ i.p.data.length > 3000 := by omega
    exact ⟨(), Le.of rfl ⟨⟨_, rfl, rfl⟩, ⟨_, rfl, rfl⟩, ⟨_, rfl, rfl⟩, ⟨_, rfl, rfl⟩, ⟨_, rfl, (bool_eq (by simp [h1, h2, h3, h4]; omega))⟩, trivial⟩ (fun h k => k)⟩
  refine CondOb.split (fun g => ?_) (fun g => ?_)
  · refine useP .tt live_spec rfl rfl ?_
    exact FinOb.mk [.bool true] [] rfl (fun h k => trivial) ⟨rfl, rfl⟩
  have g := of_decide_eq_false g
  refine call_ix (split2_spec i hf mtu) rfl [] (fun h k => k) (fun f' b' hs kb => ⟨rd_sub (fun r q hq => hs.get_right hq) hR.1.o, rd_sub (fun r q hq => hs.get_right hq) hR.1.d⟩) ?_
  rintro v post (⟨e, he, rfl, rfl⟩ | ⟨b, o, c, rfl, rfl⟩ | ⟨pl, c, y, ns, rfl, hpl, hm, hmc, hS, hof, hof2, rfl⟩)
  · refine ⟨.tuple [.nils, .int .i64 e], _, 1, [], NmExt.refl _, rfl, fun h k => k, ?_⟩
    refine RegOb.go ?_
    refine Br.mk (fun _ => ?_) (fun h => absurd he (by simpa using h))
    refine useP .tt live_spec rfl rfl ?_
    exact FinOb.mk [.bool true] [] rfl (fun h k => trivial) ⟨rfl, rfl⟩
  · refine ⟨.tuple [.raw (.slice (locAddr 0 (.at b o)) 1 c), .int .i64 0], _, 1, [.asn (Vec (.at b o) 40 11 c (IL.flat [i]))], NmExt.refl _, rfl, fun h k => k, ?_⟩
    refine RegOb.go ?_
    refine Br.mk (fun h => absurd h (by decide)) (fun _ => ?_)
    refine CondOb.split (fun _ => ?_) (fun h => absurd h (by decide))
    refine useP .tt live_spec rfl rfl ?_
    exact FinOb.mk [.bool true] [] rfl (fun h k => trivial) ⟨rfl, rfl⟩
  refine ⟨.tuple [.raw (.slice (locAddr 0 pl) ns.length c), .int .i64 0], _, 1, [.asn (Vec pl 40 11 c (IL.flat (pcs i y 0 ns))), .asn (Vec y.pl 5 1 y.c (U.flat y.m))], NmExt.refl _, rfl, fun h k => k, ?_⟩
  refine RegOb.go ?_
  refine Br.mk (fun h => absurd h (by decide)) (fun _ => ?_)
  refine CondOb.split (fun g2 => ?_) (fun g2 => ?_)
  · refine useP .tt live_spec rfl rfl ?_
    exact FinOb.mk [.bool true] [] rfl (fun h k => trivial) ⟨rfl, rfl⟩
  have g2 := of_decide_eq_false g2
  have g2 : ¬ (ns.length : Int) < 2 := g2
  have hfewn := hS.few
  obtain ⟨pb, po, rfl⟩ := hpl (by intro e; rw [e] at g2; simp at g2)
  have P : Part i.p ((pcs i y 0 ns).map Ip.p) ns := part_pcs hS (by simp at g; omega) (by simp at g; simp [g]) (by omega) (by omega) (by omega)
  refine call_ix (tnew_spec 1 100) rfl [] (fun h k => k) (fun f' b' hs kb => trivial) ?_
  rintro v post (⟨h1, _⟩ | ⟨_, tb, rfl, rfl⟩)
  · exact absurd h1 (by decide)
  refine ⟨.tuple [.raw (pp tb), .int .i64 0], _, 1, [.asn (TA tb 1 100 0 [])], NmExt.refl _, rfl, fun h k => k, ?_⟩
  refine RegOb.go ?_
  refine useP (.int .i64 0) (code_spec 0) rfl rfl ?_
  refine Br.mk (fun h => absurd h (by decide)) (fun _ => ?_)
  refine Need.mk (show (0 : Int) ≤ (ns.length : Int) ∧ (ns.length : Int) ≤ ns.length ∧ ((1 : Nat) : Int) * (ns.length : Int) ≤ 281474976710656 ∧ (ns.length : Int) ≤ 9223372036854775807 from by omega) ?_
  intro b11
  have hord : ord.length ≤ 300 := by simp at g; omega
  have hnl : ns.length ≤ 3000 := by simp at g; omega
  have hk1 : ∀ k, k < ns.length → ∃ m, ns[k]? = some m := fun k hk => ⟨_, List.getElem?_eq_getElem hk⟩
  refine LoopOb.mk { z : Nat × Int × List Mp × List Bool × List Nat // WI i.p ns ord.length z.1 z.2.1 z.2.2.1 z.2.2.2.1 z.2.2.2.2 } (fun z => ⟨141, [(2, .raw (.slice A ord.length cap)), (3, .ptr 0 0), (6, .ff), (7, .raw (.slice (locAddr 0 (.at pb po)) ns.length c)), (9, .raw (pp tb)), (11, .sl 1 0 ns.length ns.length), (12, .int .i64 (lack z.1.2.2.2.1)), (13, .int .i64 z.1.1)], [(1, .at b11 0), (0, .at b3 0)], 2, [.blk 0 40 i.svs, .vec 1 4 1 ns.length (BL.flat z.1.2.2.2.1), .asn (TA tb 1 100 z.1.2.1 z.1.2.2.1), .asn (Vec (.at pb po) 40 11 c (IL.flat (pcs i y 0 ns))), .asn (Vec y.pl 5 1 y.c (U.flat y.m))]⟩) (fun z => ord.length + ns.length - z.1.1) ⟨(0, 0, [], List.replicate ns.length false, []), ?_⟩ ?_ ?_
  · exact ⟨List.length_replicate, .inl ⟨rfl, rfl⟩, fun j => by simp [List.getElem?_replicate], Nat.zero_le _, ⟨0, by omega, by simp⟩, fun k hk => absurd hk (Nat.not_lt_zero _), Int.le_refl _, Int.le_refl _⟩
  · refine Le.of rfl ⟨⟨_, rfl, rfl⟩, ⟨_, rfl, rfl⟩, ⟨_, rfl, rfl⟩, ⟨_, rfl, rfl⟩, ⟨_, rfl, rfl⟩, ⟨_, rfl, rfl⟩, ⟨_, rfl, (by show some (Value.int .i64 ((ns.length : Nat) : Int)) = some (Value.int .i64 ((lack (List.replicate ns.length false) : Nat) : Int)); unfold lack; simp)⟩, ⟨_, rfl, rfl⟩, trivial⟩ (fun h k => sat_pick 4 rfl (by first | exact fun _ k => k | exact fun _ k => blk_to rfl rfl k | exact fun _ k => vec_to rfl k | exact fun _ k => blk_of rfl rfl k | exact fun _ k => vec_of rfl k | exact fun _ k => blk_of rfl rfl (blk_to rfl rfl k) | exact fun _ k => vec_of rfl (vec_to rfl k) | exact fun _ k => mp_to rfl k | exact fun _ k => mp_of rfl k | exact fun _ k => mp_of rfl (mp_to rfl k)) (fun h k => sat_pick 0 rfl (fun _ k9 => by exact vec_of rfl (vec_cast (bl_rep ns.length) (vec_to (l := .at b11 0) rfl k9))) (fun h k => sat_pick 0 rfl (by first | exact fun _ k => k | exact fun _ k => blk_to rfl rfl k | exact fun _ k => vec_to rfl k | exact fun _ k => blk_of rfl rfl k | exact fun _ k => vec_of rfl k | exact fun _ k => blk_of rfl rfl (blk_to rfl rfl k) | exact fun _ k => vec_of rfl (vec_to rfl k) | exact fun _ k => mp_to rfl k | exact fun _ k => mp_of rfl k | exact fun _ k => mp_of rfl (mp_to rfl k)) (fun h k => sat_pick 0 rfl (by first | exact fun _ k => k | exact fun _ k => blk_to rfl rfl k | exact fun _ k => vec_to rfl k | exact fun _ k => blk_of rfl rfl k | exact fun _ k => vec_of rfl k | exact fun _ k => blk_of rfl rfl (blk_to rfl rfl k) | exact fun _ k => vec_of rfl (vec_to rfl k) | exact fun _ k => mp_to rfl k | exact fun _ k => mp_of rfl k | exact fun _ k => mp_of rfl (mp_to rfl k)) (fun h k => sat_pick 0 rfl (by first | exact fun _ k => k | exact fun _ k => blk_to rfl rfl k | exact fun _ k => vec_to rfl k | exact fun _ k => blk_of rfl rfl k | exact fun _ k => vec_of rfl k | exact fun _ k => blk_of rfl rfl (blk_to rfl rfl k) | exact fun _ k => vec_of rfl (vec_to rfl k) | exact fun _ k => mp_to rfl k | exact fun _ k => mp_of rfl k | exact fun _ k => mp_of rfl (mp_to rfl k)) (fun h k => sat_nil k) k) k) k) k) k)
  rintro ⟨⟨j, n, M, hs, J⟩, W⟩
  obtain ⟨wl, wi, wh, wle, wk, wd, wn⟩ := W
  simp only at wl wi wh wle wk wd wn
  have ej : IntKind.i64.wrap ((j : Int) + 1) = ((j + 1 : Nat) : Int) := by rw [w64 (by omega) (by omega)]; omega
  have esum : IntKind.i64.wrap ((ord.length : Int) + ns.length) = ((ord.length + ns.length : Nat) : Int) := by rw [w64 (by omega) (by omega)]; omega
  refine CondOb.split (fun gj => ?_) (fun gj => ?_)
  rotate_left
  · have gj := of_decide_eq_false gj
    have gj : ¬ (j : Int) < IntKind.i64.wrap ((ord.length : Int) + ns.length) := gj
    rw [esum] at gj
    obtain ⟨k, hk1, hk2⟩ := wk
    exact absurd (wd k (by omega)) hk2
  have gj := of_decide_eq_true gj
  have gj : (j : Int) < IntKind.i64.wrap ((ord.length : Int) + ns.length) := gj
  rw [esum] at gj
  have eij : IntKind.i64.wrap ((j : Int) - ord.length) = (j : Int) - ord.length := w64 (by omega) (by omega)
  refine CondOb.join { k : Nat // k < ns.length ∧ (ord.length ≤ j → k = j - ord.length) } (fun k => ⟨141, [(2, .raw (.slice A ord.length cap)), (3, .ptr 0 0), (6, .ff), (7, .raw (.slice (locAddr 0 (.at pb po)) ns.length c)), (9, .raw (pp tb)), (11, .sl 1 0 ns.length ns.length), (12, .int .i64 (lack hs)), (13, .int .i64 j), (14, .int .i64 k.1)], [(1, .at b11 0), (0, .at b3 0)], 2, [.blk 0 40 i.svs, .vec 1 4 1 ns.length (BL.flat hs), .asn (TA tb 1 100 n M), .asn (Vec (.at pb po) 40 11 c (IL.flat (pcs i y 0 ns))), .asn (Vec y.pl 5 1 y.c (U.flat y.m))]⟩) (fun gk => ?_) (fun gk => ?_) (fun k => ?_)
  · have gk := of_decide_eq_true gk
    have gk : (j : Int) < ord.length := gk
    have hx := List.getElem?_eq_getElem (show j < ord.length by omega)
    generalize ord[j]'(by omega) = x at hx
    obtain ⟨b0, o0, rfl, hc0⟩ := reads_at hR.2 hx
    have hxb : x.toNat ≤ 255 := by have := x.toNat_lt; omega
    refine Need.mk (show (0 : Int) ≤ (j : Int) ∧ (j : Int) < (ord.length : Nat) from ⟨by omega, by omega⟩) (RawAt.mk b0 o0 rfl ?_)
    refine RdRaw.mk (.int .u8 x.toNat) _ rfl (by rw [Int.toNat_natCast, Nat.mul_one]; exact hc0) ?_
    refine Need.mk (show (ns.length : Int) ≠ 0 from by omega) ?_
    have ek : (IntKind.i64.wrap (x.toNat : Int)).tmod (ns.length : Int) = ((x.toNat % ns.length : Nat) : Int) := by rw [w64 (by omega) (by omega)]; rfl
    exact ⟨⟨x.toNat % ns.length, Nat.mod_lt _ (by omega), fun h => by omega⟩, Le.of rfl ⟨⟨_, rfl, rfl⟩, ⟨_, rfl, rfl⟩, ⟨_, rfl, rfl⟩, ⟨_, rfl, rfl⟩, ⟨_, rfl, rfl⟩, ⟨_, rfl, rfl⟩, ⟨_, rfl, rfl⟩, ⟨_, rfl, rfl⟩, ⟨_, rfl, congrArg (fun z => some (Value.int .i64 z)) ek⟩, trivial⟩ (fun h k => sat_pick 0 rfl (by first | exact fun _ k => k | exact fun _ k => blk_to rfl rfl k | exact fun _ k => vec_to rfl k | exact fun _ k => blk_of rfl rfl k | exact fun _ k => vec_of rfl k | exact fun _ k => blk_of rfl rfl (blk_to rfl rfl k) | exact fun _ k => vec_of rfl (vec_to rfl k) | exact fun _ k => mp_to rfl k | exact fun _ k => mp_of rfl k | exact fun _ k => mp_of rfl (mp_to rfl k)) (fun h k => sat_pick 0 rfl (by first | exact fun _ k => k | exact fun _ k => blk_to rfl rfl k | exact fun _ k => vec_to rfl k | exact fun _ k => blk_of rfl rfl k | exact fun _ k => vec_of rfl k | exact fun _ k => blk_of rfl rfl (blk_to rfl rfl k) | exact fun _ k => vec_of rfl (vec_to rfl k) | exact fun _ k => mp_to rfl k | exact fun _ k => mp_of rfl k | exact fun _ k => mp_of rfl (mp_to rfl k)) (fun h k => sat_pick 0 rfl (by first | exact fun _ k => k | exact fun _ k => blk_to rfl rfl k | exact fun _ k => vec_to rfl k | exact fun _ k => blk_of rfl rfl k | exact fun _ k => vec_of rfl k | exact fun _ k => blk_of rfl rfl (blk_to rfl rfl k) | exact fun _ k => vec_of rfl (vec_to rfl k) | exact fun _ k => mp_to rfl k | exact fun _ k => mp_of rfl k | exact fun _ k => mp_of rfl (mp_to rfl k)) (fun h k => sat_pick 0 rfl (by first | exact fun _ k => k | exact fun _ k => blk_to rfl rfl k | exact fun _ k => vec_to rfl k | exact fun _ k => blk_of rfl rfl k | exact fun _ k => vec_of rfl k | exact fun _ k => blk_of rfl rfl (blk_to rfl rfl k) | exact fun _ k => vec_of rfl (vec_to rfl k) | exact fun _ k => mp_to rfl k | exact fun _ k => mp_of rfl k | exact fun _ k => mp_of rfl (mp_to rfl k)) (fun h k => sat_pick 0 rfl (by first | exact fun _ k => k | exact fun _ k => blk_to rfl rfl k | exact fun _ k => vec_to rfl k | exact fun _ k => blk_of rfl rfl k | exact fun _ k => vec_of rfl k | exact fun _ k => blk_of rfl rfl (blk_to rfl rfl k) | exact fun _ k => vec_of rfl (vec_to rfl k) | exact fun _ k => mp_to rfl k | exact fun _ k => mp_of rfl k | exact fun _ k => mp_of rfl (mp_to rfl k)) (fun h k => sat_nil k) k) k) k) k) k)⟩
  · have gk := of_decide_eq_false gk
    have gk : ¬ (j : Int) < ord.length := gk
    exact ⟨⟨j - ord.length, by omega, fun _ => rfl⟩, Le.of rfl ⟨⟨_, rfl, rfl⟩, ⟨_, rfl, rfl⟩, ⟨_, rfl, rfl⟩, ⟨_, rfl, rfl⟩, ⟨_, rfl, rfl⟩, ⟨_, rfl, rfl⟩, ⟨_, rfl, rfl⟩, ⟨_, rfl, rfl⟩, ⟨_, rfl, (congrArg (fun z : Int => some (Value.int .i64 z)) (eij.trans (show (j : Int) - ord.length = ((j - ord.length : Nat) : Int) from by omega)))⟩, trivial⟩ (fun h k => sat_pick 0 rfl (by first | exact fun _ k => k | exact fun _ k => blk_to rfl rfl k | exact fun _ k => vec_to rfl k | exact fun _ k => blk_of rfl rfl k | exact fun _ k => vec_of rfl k | exact fun _ k => blk_of rfl rfl (blk_to rfl rfl k) | exact fun _ k => vec_of rfl (vec_to rfl k) | exact fun _ k => mp_to rfl k | exact fun _ k => mp_of rfl k | exact fun _ k => mp_of rfl (mp_to rfl k)) (fun h k => sat_pick 0 rfl (by first | exact fun _ k => k | exact fun _ k => blk_to rfl rfl k | exact fun _ k => vec_to rfl k | exact fun _ k => blk_of rfl rfl k | exact fun _ k => vec_of rfl k | exact fun _ k => blk_of rfl rfl (blk_to rfl rfl k) | exact fun _ k => vec_of rfl (vec_to rfl k) | exact fun _ k => mp_to rfl k | exact fun _ k => mp_of rfl k | exact fun _ k => mp_of rfl (mp_to rfl k)) (fun h k => sat_pick 0 rfl (by first | exact fun _ k => k | exact fun _ k => blk_to rfl rfl k | exact fun _ k => vec_to rfl k | exact fun _ k => blk_of rfl rfl k | exact fun _ k => vec_of rfl k | exact fun _ k => blk_of rfl rfl (blk_to rfl rfl k) | exact fun _ k => vec_of rfl (vec_to rfl k) | exact fun _ k => mp_to rfl k | exact fun _ k => mp_of rfl k | exact fun _ k => mp_of rfl (mp_to rfl k)) (fun h k => sat_pick 0 rfl (by first | exact fun _ k => k | exact fun _ k => blk_to rfl rfl k | exact fun _ k => vec_to rfl k | exact fun _ k => blk_of rfl rfl k | exact fun _ k => vec_of rfl k | exact fun _ k => blk_of rfl rfl (blk_to rfl rfl k) | exact fun _ k => vec_of rfl (vec_to rfl k) | exact fun _ k => mp_to rfl k | exact fun _ k => mp_of rfl k | exact fun _ k => mp_of rfl (mp_to rfl k)) (fun h k => sat_pick 0 rfl (by first | exact fun _ k => k | exact fun _ k => blk_to rfl rfl k | exact fun _ k => vec_to rfl k | exact fun _ k => blk_of rfl rfl k | exact fun _ k => vec_of rfl k | exact fun _ k => blk_of rfl rfl (blk_to rfl rfl k) | exact fun _ k => vec_of rfl (vec_to rfl k) | exact fun _ k => mp_to rfl k | exact fun _ k => mp_of rfl k | exact fun _ k => mp_of rfl (mp_to rfl k)) (fun h k => sat_nil k) k) k) k) k) k)⟩
  obtain ⟨k, hkn, hkj⟩ := k
  have hbk : ∃ bk, hs[k]? = some bk := ⟨_, List.getElem?_eq_getElem (by omega)⟩
  obtain ⟨bk, hbk⟩ := hbk
  refine Need.mk (show (0 : Int) ≤ (k : Int) ∧ (k : Int) < (ns.length : Nat) from ⟨by omega, by omega⟩) ?_
  refine RdOb.mk (.bool bk) _ rfl (by rw [Int.toNat_natCast, Nat.zero_add]; exact BL.flat_at hbk (j := 0) rfl) ?_
  refine CondOb.join { z : List Bool // z.length = ns.length ∧ ∀ q, z[q]? = some true ↔ q ∈ k :: J } (fun z => ⟨141, [(2, .raw (.slice A ord.length cap)), (3, .ptr 0 0), (6, .ff), (7, .raw (.slice (locAddr 0 (.at pb po)) ns.length c)), (9, .raw (pp tb)), (11, .sl 1 0 ns.length ns.length), (12, .int .i64 (lack z.1)), (13, .int .i64 j), (14, .int .i64 k)], [(1, .at b11 0), (0, .at b3 0)], 2, [.blk 0 40 i.svs, .vec 1 4 1 ns.length (BL.flat z.1), .asn (TA tb 1 100 n M), .asn (Vec (.at pb po) 40 11 c (IL.flat (pcs i y 0 ns))), .asn (Vec y.pl 5 1 y.c (U.flat y.m))]⟩) (fun gb => ?_) (fun gb => ?_) (fun z => ?_)
  · have gb : bk = false := by simpa using gb
    subst gb
    refine Need.mk (show (0 : Int) ≤ (k : Int) ∧ (k : Int) < (ns.length : Nat) from ⟨by omega, by omega⟩) ?_
    refine StOb.mk [.bool true] rfl (Need.mk (by rw [lBL]; simp; omega) ?_)
    have hls := lack_set hbk
    have hll : lack hs ≤ ns.length := by unfold lack; rw [← wl]; exact List.length_filter_le _ _
    have em : IntKind.i64.wrap ((lack hs : Int) - 1) = ((lack (hs.set k true) : Nat) : Int) := by rw [w64 (by omega) (by omega)]; omega
    have hfs : putV (BL.flat hs) (0 + (k : Int).toNat * 1) [.bool true] = BL.flat (hs.set k true) := by
      rw [Int.toNat_natCast, Nat.zero_add]
      exact BL.flat_set (a := true) (by omega)
    refine ⟨⟨hs.set k true, by rw [List.length_set]; exact wl, fun q => ?_⟩, Le.of rfl ⟨⟨_, rfl, rfl⟩, ⟨_, rfl, rfl⟩, ⟨_, rfl, rfl⟩, ⟨_, rfl, rfl⟩, ⟨_, rfl, rfl⟩, ⟨_, rfl, rfl⟩, ⟨_, rfl, (congrArg (fun z : Int => some (Value.int .i64 z)) em)⟩, ⟨_, rfl, rfl⟩, ⟨_, rfl, rfl⟩, trivial⟩ (fun h k => sat_pick 1 rfl (by first | exact fun _ k => k | exact fun _ k => blk_to rfl rfl k | exact fun _ k => vec_to rfl k | exact fun _ k => blk_of rfl rfl k | exact fun _ k => vec_of rfl k | exact fun _ k => blk_of rfl rfl (blk_to rfl rfl k) | exact fun _ k => vec_of rfl (vec_to rfl k) | exact fun _ k => mp_to rfl k | exact fun _ k => mp_of rfl k | exact fun _ k => mp_of rfl (mp_to rfl k)) (fun h k => sat_pick 0 rfl (fun _ k9 => by exact vec_of rfl (vec_cast hfs (vec_to (l := .at b11 0) rfl k9))) (fun h k => sat_pick 0 rfl (by first | exact fun _ k => k | exact fun _ k => blk_to rfl rfl k | exact fun _ k => vec_to rfl k | exact fun _ k => blk_of rfl rfl k | exact fun _ k => vec_of rfl k | exact fun _ k => blk_of rfl rfl (blk_to rfl rfl k) | exact fun _ k => vec_of rfl (vec_to rfl k) | exact fun _ k => mp_to rfl k | exact fun _ k => mp_of rfl k | exact fun _ k => mp_of rfl (mp_to rfl k)) (fun h k => sat_pick 0 rfl (by first | exact fun _ k => k | exact fun _ k => blk_to rfl rfl k | exact fun _ k => vec_to rfl k | exact fun _ k => blk_of rfl rfl k | exact fun _ k => vec_of rfl k | exact fun _ k => blk_of rfl rfl (blk_to rfl rfl k) | exact fun _ k => vec_of rfl (vec_to rfl k) | exact fun _ k => mp_to rfl k | exact fun _ k => mp_of rfl k | exact fun _ k => mp_of rfl (mp_to rfl k)) (fun h k => sat_pick 0 rfl (by first | exact fun _ k => k | exact fun _ k => blk_to rfl rfl k | exact fun _ k => vec_to rfl k | exact fun _ k => blk_of rfl rfl k | exact fun _ k => vec_of rfl k | exact fun _ k => blk_of rfl rfl (blk_to rfl rfl k) | exact fun _ k => vec_of rfl (vec_to rfl k) | exact fun _ k => mp_to rfl k | exact fun _ k => mp_of rfl k | exact fun _ k => mp_of rfl (mp_to rfl k)) (fun h k => sat_nil k) k) k) k) k) k)⟩
    rw [List.getElem?_set, List.mem_cons]
    by_cases e : k = q
    · subst e
      simp [show k < hs.length by omega]
    · rw [if_neg e, wh q]
      exact ⟨.inr, fun h => h.resolve_left (fun h => e h.symm)⟩
  · have gb : bk = true := by simpa using gb
    subst gb
    refine ⟨⟨hs, wl, fun q => ?_⟩, Le.of rfl ⟨⟨_, rfl, rfl⟩, ⟨_, rfl, rfl⟩, ⟨_, rfl, rfl⟩, ⟨_, rfl, rfl⟩, ⟨_, rfl, rfl⟩, ⟨_, rfl, rfl⟩, ⟨_, rfl, rfl⟩, ⟨_, rfl, rfl⟩, ⟨_, rfl, rfl⟩, trivial⟩ (fun h k => sat_pick 0 rfl (by first | exact fun _ k => k | exact fun _ k => blk_to rfl rfl k | exact fun _ k => vec_to rfl k | exact fun _ k => blk_of rfl rfl k | exact fun _ k => vec_of rfl k | exact fun _ k => blk_of rfl rfl (blk_to rfl rfl k) | exact fun _ k => vec_of rfl (vec_to rfl k) | exact fun _ k => mp_to rfl k | exact fun _ k => mp_of rfl k | exact fun _ k => mp_of rfl (mp_to rfl k)) (fun h k => sat_pick 0 rfl (by first | exact fun _ k => k | exact fun _ k => blk_to rfl rfl k | exact fun _ k => vec_to rfl k | exact fun _ k => blk_of rfl rfl k | exact fun _ k => vec_of rfl k | exact fun _ k => blk_of rfl rfl (blk_to rfl rfl k) | exact fun _ k => vec_of rfl (vec_to rfl k) | exact fun _ k => mp_to rfl k | exact fun _ k => mp_of rfl k | exact fun _ k => mp_of rfl (mp_to rfl k)) (fun h k => sat_pick 0 rfl (by first | exact fun _ k => k | exact fun _ k => blk_to rfl rfl k | exact fun _ k => vec_to rfl k | exact fun _ k => blk_of rfl rfl k | exact fun _ k => vec_of rfl k | exact fun _ k => blk_of rfl rfl (blk_to rfl rfl k) | exact fun _ k => vec_of rfl (vec_to rfl k) | exact fun _ k => mp_to rfl k | exact fun _ k => mp_of rfl k | exact fun _ k => mp_of rfl (mp_to rfl k)) (fun h k => sat_pick 0 rfl (by first | exact fun _ k => k | exact fun _ k => blk_to rfl rfl k | exact fun _ k => vec_to rfl k | exact fun _ k => blk_of rfl rfl k | exact fun _ k => vec_of rfl k | exact fun _ k => blk_of rfl rfl (blk_to rfl rfl k) | exact fun _ k => vec_of rfl (vec_to rfl k) | exact fun _ k => mp_to rfl k | exact fun _ k => mp_of rfl k | exact fun _ k => mp_of rfl (mp_to rfl k)) (fun h k => sat_pick 0 rfl (by first | exact fun _ k => k | exact fun _ k => blk_to rfl rfl k | exact fun _ k => vec_to rfl k | exact fun _ k => blk_of rfl rfl k | exact fun _ k => vec_of rfl k | exact fun _ k => blk_of rfl rfl (blk_to rfl rfl k) | exact fun _ k => vec_of rfl (vec_to rfl k) | exact fun _ k => mp_to rfl k | exact fun _ k => mp_of rfl k | exact fun _ k => mp_of rfl (mp_to rfl k)) (fun h k => sat_nil k) k) k) k) k) k)⟩
    rw [List.mem_cons, ← wh q]
    constructor
    · exact .inr
    · rintro (rfl | h)
      · exact hbk
      · exact h
  obtain ⟨hs2, wl2, wh2⟩ := z
  obtain ⟨m, hm2⟩ := hk1 k hkn
  have hpy := part_pcs (y := y) hS (by simp at g; omega) (by simp at g; simp [g]) (by omega) (by omega) (by omega)
  have hstl : st ns k + m ≤ i.p.data.length := by
    have h1 := st_mono (ns := ns) (show k + 1 ≤ ns.length from hkn)
    rw [st_all, hS.sum, st_succ hm2] at h1
    exact h1
  have hw : (pcs i y 0 ns)[k]? = some (i.pc y (st ns k) m) := by rw [pcs_get, hm2]; simp
  refine Need.mk (by decide) ?_
  refine Need.mk (show (0 : Int) ≤ (k : Int) ∧ (k : Int) < (ns.length : Nat) from ⟨by omega, by omega⟩) (RawAt.mk pb (po + 0) rfl ?_)
  refine RdF.told (i.pc y (st ns k) m).svs (i.pc y (st ns k) m).vals rfl rfl (fun h q u v hv => sat_cell 3 rfl (fun z kz => ?_) q) ?_
  · rw [Int.toNat_natCast, Nat.add_assoc]
    exact vec_rd kz (k * 11 + u) v (IL.flat_at hw hv)
  have enow : (j : Int).tmod 50 = ((j % 50 : Nat) : Int) := rfl
  refine call_ix (tadd_spec tb 1 100 n M ((j : Int).tmod 50) (i.pc y (st ns k) m) (pc_fits hf hm hmc hstl) (by decide) (by decide) (by omega)) rfl [2] (fun h k => sat_pick 2 rfl (by first | exact fun _ k => k | exact fun _ k => blk_to rfl rfl k | exact fun _ k => vec_to rfl k | exact fun _ k => blk_of rfl rfl k | exact fun _ k => vec_of rfl k | exact fun _ k => blk_of rfl rfl (blk_to rfl rfl k) | exact fun _ k => vec_of rfl (vec_to rfl k) | exact fun _ k => mp_to rfl k | exact fun _ k => mp_of rfl k | exact fun _ k => mp_of rfl (mp_to rfl k)) (fun h k => sat_pick 0 rfl (by first | exact fun _ k => k | exact fun _ k => blk_to rfl rfl k | exact fun _ k => vec_to rfl k | exact fun _ k => blk_of rfl rfl k | exact fun _ k => vec_of rfl k | exact fun _ k => blk_of rfl rfl (blk_to rfl rfl k) | exact fun _ k => vec_of rfl (vec_to rfl k) | exact fun _ k => mp_to rfl k | exact fun _ k => mp_of rfl k | exact fun _ k => mp_of rfl (mp_to rfl k)) (fun h k => sat_pick 0 rfl (by first | exact fun _ k => k | exact fun _ k => blk_to rfl rfl k | exact fun _ k => vec_to rfl k | exact fun _ k => blk_of rfl rfl k | exact fun _ k => vec_of rfl k | exact fun _ k => blk_of rfl rfl (blk_to rfl rfl k) | exact fun _ k => vec_of rfl (vec_to rfl k) | exact fun _ k => mp_to rfl k | exact fun _ k => mp_of rfl k | exact fun _ k => mp_of rfl (mp_to rfl k)) (fun h k => sat_pick 0 rfl (by first | exact fun _ k => k | exact fun _ k => blk_to rfl rfl k | exact fun _ k => vec_to rfl k | exact fun _ k => blk_of rfl rfl k | exact fun _ k => vec_of rfl k | exact fun _ k => blk_of rfl rfl (blk_to rfl rfl k) | exact fun _ k => vec_of rfl (vec_to rfl k) | exact fun _ k => mp_to rfl k | exact fun _ k => mp_of rfl k | exact fun _ k => mp_of rfl (mp_to rfl k)) (fun h k => sat_pick 0 rfl (by first | exact fun _ k => k | exact fun _ k => blk_to rfl rfl k | exact fun _ k => vec_to rfl k | exact fun _ k => blk_of rfl rfl k | exact fun _ k => vec_of rfl k | exact fun _ k => blk_of rfl rfl (blk_to rfl rfl k) | exact fun _ k => vec_of rfl (vec_to rfl k) | exact fun _ k => mp_to rfl k | exact fun _ k => mp_of rfl k | exact fun _ k => mp_of rfl (mp_to rfl k)) (fun h k => sat_nil k) k) k) k) k) k) (fun f' b' hs' kb => ?_) ?_
  · obtain ⟨z, hz, kz⟩ := sat_sub (n := 3) (A := Vec y.pl 5 1 y.c (U.flat y.m)) rfl kb
    exact pc_sees ⟨rd_sub (fun r q hq => hs'.get_right hq) hR.1.o, rd_sub (fun r q hq => hs'.get_right hq) hR.1.d⟩ hf (rd_sub (fun r q hq => hs'.get (hz r q hq)) (vec_reads' kz)) _ _
  rintro v post ⟨M', r, dn, e, own, rfl, ha, ho, rfl⟩
  obtain ⟨rfl, a2, a3, a4⟩ := add_piece hpy (j := k) (by rw [enow]; omega) wi (by rw [List.getElem?_map, hw]; rfl) ha
  have hall : lack hs2 = 0 ↔ ∀ q, q < ns.length → q ∈ k :: J := by
    rw [lack_zero, wl2]
    exact ⟨fun h q hq => (wh2 q).1 (h q hq), fun h q hq => (wh2 q).2 (h q hq)⟩
  rcases ho with ⟨rfl, rfl, rfl⟩ | ⟨rfl, po', pd', co', cd', hr, h1, h2, rfl⟩
  · refine ⟨.tuple [.agg zeroI.svs, .ff, .int .i64 0], _, 2, [.asn (TA tb 1 100 (n + 1) M')], NmExt.refl _, rfl, fun h k => k, ?_⟩
    intro b15
    refine RegOb.go ?_
    refine useP (.int .i64 0) (code_spec 0) rfl rfl ?_
    refine Br.mk (fun h => absurd h (by decide)) (fun _ => ?_)
    have hnz : ¬ lack hs2 = 0 := fun e => by
      have := a2.2 (hall.1 e)
      cases this
    refine CondOb.split (fun gd => ?_) (fun gd => ?_)
    · exact absurd gd (by simp; omega)
    refine ⟨⟨(j + 1, n + 1, M', hs2, k :: J), ⟨wl2, a3 rfl, wh2, by show j + 1 ≤ ord.length + ns.length; omega, ?_, fun q hq => ?_, by show 0 ≤ n + 1 ∧ n + 1 ≤ ((j + 1 : Nat) : Int); omega⟩⟩, by show ord.length + ns.length - (j + 1) < ord.length + ns.length - j; omega, Le.of rfl ⟨⟨_, rfl, rfl⟩, ⟨_, rfl, rfl⟩, ⟨_, rfl, rfl⟩, ⟨_, rfl, rfl⟩, ⟨_, rfl, rfl⟩, ⟨_, rfl, rfl⟩, ⟨_, rfl, rfl⟩, ⟨_, rfl, congrArg (fun z => some (Value.int .i64 z)) ej⟩, trivial⟩ (fun h k => sat_pick 2 rfl (by first | exact fun _ k => k | exact fun _ k => blk_to rfl rfl k | exact fun _ k => vec_to rfl k | exact fun _ k => blk_of rfl rfl k | exact fun _ k => vec_of rfl k | exact fun _ k => blk_of rfl rfl (blk_to rfl rfl k) | exact fun _ k => vec_of rfl (vec_to rfl k) | exact fun _ k => mp_to rfl k | exact fun _ k => mp_of rfl k | exact fun _ k => mp_of rfl (mp_to rfl k)) (fun h k => sat_pick 2 rfl (by first | exact fun _ k => k | exact fun _ k => blk_to rfl rfl k | exact fun _ k => vec_to rfl k | exact fun _ k => blk_of rfl rfl k | exact fun _ k => vec_of rfl k | exact fun _ k => blk_of rfl rfl (blk_to rfl rfl k) | exact fun _ k => vec_of rfl (vec_to rfl k) | exact fun _ k => mp_to rfl k | exact fun _ k => mp_of rfl k | exact fun _ k => mp_of rfl (mp_to rfl k)) (fun h k => sat_pick 1 rfl (by first | exact fun _ k => k | exact fun _ k => blk_to rfl rfl k | exact fun _ k => vec_to rfl k | exact fun _ k => blk_of rfl rfl k | exact fun _ k => vec_of rfl k | exact fun _ k => blk_of rfl rfl (blk_to rfl rfl k) | exact fun _ k => vec_of rfl (vec_to rfl k) | exact fun _ k => mp_to rfl k | exact fun _ k => mp_of rfl k | exact fun _ k => mp_of rfl (mp_to rfl k)) (fun h k => sat_pick 1 rfl (by first | exact fun _ k => k | exact fun _ k => blk_to rfl rfl k | exact fun _ k => vec_to rfl k | exact fun _ k => blk_of rfl rfl k | exact fun _ k => vec_of rfl k | exact fun _ k => blk_of rfl rfl (blk_to rfl rfl k) | exact fun _ k => vec_of rfl (vec_to rfl k) | exact fun _ k => mp_to rfl k | exact fun _ k => mp_of rfl k | exact fun _ k => mp_of rfl (mp_to rfl k)) (fun h k => sat_pick 1 rfl (by first | exact fun _ k => k | exact fun _ k => blk_to rfl rfl k | exact fun _ k => vec_to rfl k | exact fun _ k => blk_of rfl rfl k | exact fun _ k => vec_of rfl k | exact fun _ k => blk_of rfl rfl (blk_to rfl rfl k) | exact fun _ k => vec_of rfl (vec_to rfl k) | exact fun _ k => mp_to rfl k | exact fun _ k => mp_of rfl k | exact fun _ k => mp_of rfl (mp_to rfl k)) (fun h k => sat_nil k) k) k) k) k) k)⟩
    · refine Classical.byContradiction fun hc => hnz (hall.2 fun q hq => Classical.byContradiction fun h => hc ⟨q, hq, h⟩)
    · have hq : q + ord.length < j + 1 := hq
      by_cases e : q + ord.length < j
      · exact List.mem_cons_of_mem _ (wd q e)
      · have : q = k := by have := hkj (by omega); omega
        subst this; simp
  · have hnz : lack hs2 = 0 := hall.2 (a2.1 rfl)
    obtain ⟨hrp, rfl⟩ := a4 rfl
    obtain ⟨rp, ra, rc, rb, rd⟩ := r
    unfold Ip.own at hr
    simp only [Ip.mk.injEq, true_and] at hr
    obtain ⟨rfl, rfl, rfl, rfl⟩ := hr
    simp only at hrp h1 h2
    subst hrp
    refine ⟨.tuple [.agg (Ip.mk i.p (locAddr 0 po') rc (locAddr 0 pd') rd).svs, .tt, .int .i64 0], _, 2, [.asn (TA tb 1 100 (n + 1) []), .asn (Vec po' 5 1 rc (U.flat i.p.opts)), .asn (Vec pd' 5 1 rd (U.flat i.p.data))], NmExt.refl _, rfl, fun h k => k, ?_⟩
    intro b15
    refine RegOb.go ?_
    refine useP (.int .i64 0) (code_spec 0) rfl rfl ?_
    refine Br.mk (fun h => absurd h (by decide)) (fun _ => ?_)
    refine CondOb.split (fun gd => ?_) (fun gd => ?_)
    · exact absurd gd (by simp [hnz])
    refine RegOb.go ?_
    have hsame := same_spec i ⟨i.p, locAddr 0 po', rc, locAddr 0 pd', rd⟩ hf ⟨h1, h2, hf.lo, hf.ld⟩
    rw [decide_eq_true rfl] at hsame
    refine useR .tt hsame rfl (fun f' b' hs' kb => ?_) rfl ?_
    · obtain ⟨z, hz, kz⟩ := sat_sub (n := 2) (A := Vec po' 5 1 rc (U.flat i.p.opts)) rfl kb
      obtain ⟨z2, hz2, kz2⟩ := sat_sub (n := 3) (A := Vec pd' 5 1 rd (U.flat i.p.data)) rfl kb
      exact ⟨⟨rd_sub (fun r q hq => hs'.get_right hq) hR.1.o, rd_sub (fun r q hq => hs'.get_right hq) hR.1.d⟩, rd_sub (fun r q hq => hs'.get (hz r q hq)) (vec_reads' kz), rd_sub (fun r q hq => hs'.get (hz2 r q hq)) (vec_reads' kz2)⟩
    refine call_ix (tlen_spec tb 1 100 (n + 1) []) rfl [1] (fun h k => sat_pick 1 rfl (by first | exact fun _ k => k | exact fun _ k => blk_to rfl rfl k | exact fun _ k => vec_to rfl k | exact fun _ k => blk_of rfl rfl k | exact fun _ k => vec_of rfl k | exact fun _ k => blk_of rfl rfl (blk_to rfl rfl k) | exact fun _ k => vec_of rfl (vec_to rfl k) | exact fun _ k => mp_to rfl k | exact fun _ k => mp_of rfl k | exact fun _ k => mp_of rfl (mp_to rfl k)) (fun h k => sat_pick 0 rfl (by first | exact fun _ k => k | exact fun _ k => blk_to rfl rfl k | exact fun _ k => vec_to rfl k | exact fun _ k => blk_of rfl rfl k | exact fun _ k => vec_of rfl k | exact fun _ k => blk_of rfl rfl (blk_to rfl rfl k) | exact fun _ k => vec_of rfl (vec_to rfl k) | exact fun _ k => mp_to rfl k | exact fun _ k => mp_of rfl k | exact fun _ k => mp_of rfl (mp_to rfl k)) (fun h k => sat_pick 0 rfl (by first | exact fun _ k => k | exact fun _ k => blk_to rfl rfl k | exact fun _ k => vec_to rfl k | exact fun _ k => blk_of rfl rfl k | exact fun _ k => vec_of rfl k | exact fun _ k => blk_of rfl rfl (blk_to rfl rfl k) | exact fun _ k => vec_of rfl (vec_to rfl k) | exact fun _ k => mp_to rfl k | exact fun _ k => mp_of rfl k | exact fun _ k => mp_of rfl (mp_to rfl k)) (fun h k => sat_pick 0 rfl (by first | exact fun _ k => k | exact fun _ k => blk_to rfl rfl k | exact fun _ k => vec_to rfl k | exact fun _ k => blk_of rfl rfl k | exact fun _ k => vec_of rfl k | exact fun _ k => blk_of rfl rfl (blk_to rfl rfl k) | exact fun _ k => vec_of rfl (vec_to rfl k) | exact fun _ k => mp_to rfl k | exact fun _ k => mp_of rfl k | exact fun _ k => mp_of rfl (mp_to rfl k)) (fun h k => sat_pick 0 rfl (by first | exact fun _ k => k | exact fun _ k => blk_to rfl rfl k | exact fun _ k => vec_to rfl k | exact fun _ k => blk_of rfl rfl k | exact fun _ k => vec_of rfl k | exact fun _ k => blk_of rfl rfl (blk_to rfl rfl k) | exact fun _ k => vec_of rfl (vec_to rfl k) | exact fun _ k => mp_to rfl k | exact fun _ k => mp_of rfl k | exact fun _ k => mp_of rfl (mp_to rfl k)) (fun h k => sat_pick 0 rfl (by first | exact fun _ k => k | exact fun _ k => blk_to rfl rfl k | exact fun _ k => vec_to rfl k | exact fun _ k => blk_of rfl rfl k | exact fun _ k => vec_of rfl k | exact fun _ k => blk_of rfl rfl (blk_to rfl rfl k) | exact fun _ k => vec_of rfl (vec_to rfl k) | exact fun _ k => mp_to rfl k | exact fun _ k => mp_of rfl k | exact fun _ k => mp_of rfl (mp_to rfl k)) (fun h k => sat_pick 0 rfl (by first | exact fun _ k => k | exact fun _ k => blk_to rfl rfl k | exact fun _ k => vec_to rfl k | exact fun _ k => blk_of rfl rfl k | exact fun _ k => vec_of rfl k | exact fun _ k => blk_of rfl rfl (blk_to rfl rfl k) | exact fun _ k => vec_of rfl (vec_to rfl k) | exact fun _ k => mp_to rfl k | exact fun _ k => mp_of rfl k | exact fun _ k => mp_of rfl (mp_to rfl k)) (fun h k => sat_pick 0 rfl (by first | exact fun _ k => k | exact fun _ k => blk_to rfl rfl k | exact fun _ k => vec_to rfl k | exact fun _ k => blk_of rfl rfl k | exact fun _ k => vec_of rfl k | exact fun _ k => blk_of rfl rfl (blk_to rfl rfl k) | exact fun _ k => vec_of rfl (vec_to rfl k) | exact fun _ k => mp_to rfl k | exact fun _ k => mp_of rfl k | exact fun _ k => mp_of rfl (mp_to rfl k)) (fun h k => sat_nil k) k) k) k) k) k) k) k) k) (fun f' b' hs kb => trivial) ?_
    rintro v post ⟨rfl, rfl⟩
    refine ⟨.int .i64 0, _, 3, [], NmExt.refl _, rfl, fun h k => trivial, ?_⟩
    refine Br.mk (fun _ => ?_) (fun h => absurd h (by decide))
    refine useP .tt live_spec rfl rfl ?_
    exact FinOb.mk [.bool true] [] rfl (fun h k => trivial) ⟨rfl, rfl⟩
theorem whole_big (i : Ip) (hb : i.p.opts.length > 40 ∨ i.p.data.length > 3000) (mtu : Int) (A : Option Addr) (cap : Nat) (ord : List UInt8) :
    Does Try.prog 4 #[.agg i.vals.toArray, .int .i64 mtu, .slice A ord.length cap] (fun f => True) [] (fun v q => v = .bool true ∧ q = []) := by
  refine Does.ofJ Try.func4 Try.call4 rfl [.agg i.svs, .int .i64 mtu, .raw (.slice A ord.length cap)] [] 0 [] rfl rfl (fun h k => k) (fun f hR => ?_)
  intro b3
  refine RegOb.join Unit (fun _ => ⟨141, [(1, .int .i64 mtu), (2, .raw (.slice A ord.length cap)), (3, .ptr 0 0), (6, .ff), (41, .bool (decide (i.p.opts.length > 40 ∨ i.p.data.length > 3000 ∨ i.p.h.off ≠ 0 ∨ i.p.h.more = true ∨ ord.length > 300)))], [(0, .at b3 0)], 1, [.blk 0 40 i.svs]⟩) ?_ (fun _ => ?_)
  · refine Br.mk (fun h1 => ?_) (fun h1 => ?_)
    · exact ⟨(), Le.of rfl ⟨⟨_, rfl, rfl⟩, ⟨_, rfl, rfl⟩, ⟨_, rfl, rfl⟩, ⟨_, rfl, rfl⟩, ⟨_, rfl, (bool_eq (by have h1 := of_decide_eq_true h1; have h1 : (i.p.opts.length : Int) > 40 := h1; simp; omega))⟩, trivial⟩ (fun h k => k)⟩
    refine Br.mk (fun h2 => ?_) (fun h2 => ?_)
    · exact ⟨(), Le.of rfl ⟨⟨_, rfl, rfl⟩, ⟨_, rfl, rfl⟩, ⟨_, rfl, rfl⟩, ⟨_, rfl, rfl⟩, ⟨_, rfl, (bool_eq (by have h2 := of_decide_eq_true h2; have h2 : (i.p.data.length : Int) > 3000 := h2; simp; omega))⟩, trivial⟩ (fun h k => k)⟩
    refine Br.mk (fun h3 => ?_) (fun h3 => ?_)
    · have h3 : i.p.h.off ≠ 0 := by simpa using h3
      exact ⟨(), Le.of rfl ⟨⟨_, rfl, rfl⟩, ⟨_, rfl, rfl⟩, ⟨_, rfl, rfl⟩, ⟨_, rfl, rfl⟩, ⟨_, rfl, (bool_eq (by simp [h3]))⟩, trivial⟩ (fun h k => k)⟩
    refine Br.mk (fun h4 => ?_) (fun h4 => ?_)
    · exact ⟨(), Le.of rfl ⟨⟨_, rfl, rfl⟩, ⟨_, rfl, rfl⟩, ⟨_, rfl, rfl⟩, ⟨_, rfl, rfl⟩, ⟨_, rfl, (bool_eq (by simp [h4]))⟩, trivial⟩ (fun h k => k)⟩
    have h1 := of_decide_eq_false h1
    have h1 : ¬ (i.p.opts.length : Int) > 40 := h1
    have h2 := of_decide_eq_false h2
    have h2 : ¬ (i.p.data.length : Int) > 3000 := h2
    have h3 : i.p.h.off = 0 := by simpa using h3
    have h1 : ¬ i.p.opts.length > 40 := by omega
    have h2 : ¬ i.p.data.length > 3000 := by omega
    exact ⟨(), Le.of rfl ⟨⟨_, rfl, rfl⟩, ⟨_, rfl, rfl⟩, ⟨_, rfl, rfl⟩, ⟨_, rfl, rfl⟩, ⟨_, rfl, (bool_eq (by simp [h1, h2, h3, h4]; omega))⟩, trivial⟩ (fun h k => k)⟩
  refine CondOb.split (fun g => ?_) (fun g => ?_)
  · refine useP .tt live_spec rfl rfl ?_
    exact FinOb.mk [.bool true] [] rfl (fun h k => trivial) ⟨rfl, rfl⟩
  · have g := of_decide_eq_false g
    exact absurd (hb.elim .inl (fun h => .inr (.inl h))) g
theorem whole_law (x : Array Value) (mtu : Int) (A : Option Addr) (len cap : Nat) : Does Try.prog 4 #[.agg x, .int .i64 mtu, .slice A len cap] (fun f => RdS Try.prog f 6 40 x.toList ∧ RdS Try.prog f 6 38 [.slice A len cap]) [] (fun v q => v = .bool true ∧ q = []) := by
  refine ⟨Try.call4, fun f w0 hR hat => ?_⟩
  obtain ⟨i, e, hs, ho, hd, hco, hcd⟩ := ip_reads (n := 3) hR.1
  obtain ⟨ord, rfl, hr, _, _⟩ := bytes_list (n := 4) hR.2
  obtain rfl : x = i.vals.toArray := by rw [← e]
  by_cases hb : i.p.opts.length > 40 ∨ i.p.data.length > 3000
  · exact (whole_big i hb mtu A cap ord).run f w0 trivial hat
  · exact (whole_spec i ⟨ho, hd, by omega, by omega⟩ mtu A cap ord).run f w0 ⟨hs, hr⟩ hat
end Go.Proofs.Ytiknkeakielncaa.Rs
