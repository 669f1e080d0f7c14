/- reasm: the law ReasmTwice, walked. Conditions: none. -/
import Derived.Test.YtiknkeakielncaaRsS
namespace Go.Proofs.Ytiknkeakielncaa.Rs
open Go Go.Proofs Sx
set_option maxRecDepth 100000
set_option linter.unusedVariables false
set_option linter.unusedSimpArgs false
set_option maxHeartbeats 4000000

def Cy.A (y : Cy) : Asn := Vec y.pl 5 1 y.c (U.flat y.m)
def Cys (Y : List Cy) : Asn := Alls (Y.map Cy.A)
def SeesL (i : Ip) (Y : List Cy) (L : List Ip) : Prop := ∀ f, i.Sees f → (∀ y ∈ Y, Reads f (locAddr 0 y.pl) (U.flat y.m)) → ∀ x ∈ L, x.Sees f
def Kind (x : Ip) (M : List Ip) : Prop := M = [x] ∨ ∃ y ms, M = pcs x y 0 ms ∧ Sizes x.p.data.length x.p.data.length ms
theorem cys_reads {Y : List Cy} {h : HP} (k : Cys Y h) : ∀ y ∈ Y, Reads h (locAddr 0 y.pl) (U.flat y.m) := fun y hy => by
  obtain ⟨n, hn⟩ := List.getElem?_of_mem hy
  obtain ⟨z, hz, kz⟩ := sat_sub (n := n) (A := y.A) (by rw [List.getElem?_map, hn]; rfl) (show sat (Y.map Cy.A) h from k)
  exact rd_sub hz (vec_reads' kz)
theorem cys_app {Y Z : List Cy} (h : HP) (k : sat [Cys Y, Cys Z] h) : Cys (Y ++ Z) h := by
  obtain ⟨a, b, s, ka, b1, b2, s2, kb, _⟩ := k
  unfold Cys Alls
  rw [List.map_append]
  exact sat_join s ka (sat_more s2.comm kb)
theorem split3_spec (i : Ip) (hf : i.Fits) (mtu : Int) : Does Try.prog 21 #[.agg i.vals.toArray, .int .i64 mtu] i.Sees [] (fun v q =>
    (∃ e : Int, e ≠ 0 ∧ v = .tuple #[.slice none 0 0, .int .i64 e] ∧ q = []) ∨
    (∃ pl c L Y, v = .tuple #[.slice (locAddr 0 pl) L.length c, .int .i64 0] ∧ (L ≠ [] → ∃ b o, pl = .at b o) ∧ L.length ≤ i.p.data.length + 1 ∧ (∀ x ∈ L, x.Fits) ∧ SeesL i Y L ∧ Kind i L ∧ q = [Vec pl 40 11 c (IL.flat L), Cys Y])) := by
  refine (split2_spec i hf mtu).post ?_
  rintro v q (h | ⟨b, o, c, rfl, rfl⟩ | ⟨pl, c, y, ns, rfl, hpl, hm, hmc, hS, _, _, rfl⟩)
  · exact ⟨q, .inl h, fun h k => k⟩
  · refine ⟨_, .inr ⟨.at b o, c, [i], [], rfl, fun _ => ⟨b, o, rfl⟩, by simp, fun x hx => by simp at hx; subst hx; exact hf, fun f h1 _ x hx => by simp at hx; subst hx; exact h1, .inl rfl, rfl⟩, (fun h k => sat_pick 0 rfl (by first | exact fun _ k => k | exact fun _ k => blk_to rfl rfl k | exact fun _ k => vec_to rfl k | exact fun _ k => blk_of rfl rfl k | exact fun _ k => vec_of rfl k | exact fun _ k => blk_of rfl rfl (blk_to rfl rfl k) | exact fun _ k => vec_of rfl (vec_to rfl k) | exact fun _ k => mp_to rfl k | exact fun _ k => mp_of rfl k | exact fun _ k => mp_of rfl (mp_to rfl k)) (fun h k => sat_add (show Alls [] HP.emp from trivial) ((fun h k => sat_nil k) h k)) k)⟩
  · refine ⟨_, .inr ⟨pl, c, pcs i y 0 ns, [y], by rw [pcs_len], fun hne => hpl (fun e => hne (by rw [e]; rfl)), ?_, fun x hx => ?_, fun f h1 h2 x hx => ?_, .inr ⟨y, ns, rfl, hS⟩, rfl⟩, (fun h k => sat_pick 0 rfl (by first | exact fun _ k => k | exact fun _ k => blk_to rfl rfl k | exact fun _ k => vec_to rfl k | exact fun _ k => blk_of rfl rfl k | exact fun _ k => vec_of rfl k | exact fun _ k => blk_of rfl rfl (blk_to rfl rfl k) | exact fun _ k => vec_of rfl (vec_to rfl k) | exact fun _ k => mp_to rfl k | exact fun _ k => mp_of rfl k | exact fun _ k => mp_of rfl (mp_to rfl k)) (fun h k => sat_pick 0 rfl (fun h k => ⟨h, HP.emp, .emp_right h, k, trivial⟩) (fun h k => sat_nil k) k) k)⟩
    · rw [pcs_len]; exact Nat.le_succ_of_le hS.few
    · obtain ⟨j, hj⟩ := List.getElem?_of_mem hx
      rw [pcs_get] at hj
      cases hn : ns[j]? with
      | none => rw [hn] at hj; cases hj
      | some n =>
        rw [hn] at hj
        simp at hj; subst hj
        refine pc_fits hf hm hmc ?_
        have h1 := st_mono (ns := ns) (show j + 1 ≤ ns.length from (List.getElem?_eq_some_iff.1 hn).1)
        rw [st_all, hS.sum, st_succ hn] at h1
        exact h1
    · obtain ⟨j, hj⟩ := List.getElem?_of_mem hx
      rw [pcs_get] at hj
      cases hn : ns[j]? with
      | none => rw [hn] at hj; cases hj
      | some n =>
        rw [hn] at hj
        simp at hj; subst hj
        exact pc_sees h1 hf (h2 y (by simp)) _ _
theorem good_len {i : Ip} {L : List Ip} {ns : List Nat} (hL : Lst i L ns) {t : Nat} (ht : t ≤ L.length) {all : List Ip} (hg : Good i ns t all) : all.length ≤ i.p.data.length + 1 := by
  rcases hg with ⟨_, rfl | ⟨_, rfl⟩⟩ | ⟨hd, zs, hC⟩
  · simp
  · simp
  · rcases hL with ⟨h, _⟩ | ⟨_, hlen, hsum, _⟩
    · exact absurd h hd
    have h1 := st_mono (ns := ns) (show t ≤ ns.length by omega)
    rw [st_all, hsum] at h1
    have : ∀ (l : List Nat), (∀ n ∈ l, 0 < n) → l.length ≤ l.sum := by
      intro l
      induction l with
      | nil => intro _; simp
      | cons n l ih =>
        intro hl
        have := ih (fun m hm => hl m (List.mem_cons_of_mem _ hm))
        have := hl n (by simp)
        rw [List.length_cons, List.sum_cons]
        omega
    have h2 := this zs (fun n hn => by
      obtain ⟨j, hj⟩ := List.getElem?_of_mem hn
      obtain ⟨x, hx⟩ : ∃ x, all[j]? = some x := ⟨_, List.getElem?_eq_getElem (by rw [hC.len]; exact (List.getElem?_eq_some_iff.1 hj).1)⟩
      exact (hC.pc j x n hx hj).n0)
    have h3 := hC.len
    have h4 := hC.sum
    omega
theorem twice_spec (i : Ip) (hf : i.Fits) (mtu small : Int) (back : Bool) : Does Try.prog 5 #[.agg i.vals.toArray, .int .i64 mtu, .int .i64 small, .bool back] i.Sees [] (fun v q => v = .bool true ∧ q = []) := by
  refine Does.ofJ Try.func5 Try.call5 rfl [.agg i.svs, .int .i64 mtu, .int .i64 small, .bool back] [] 0 [] rfl rfl (fun h k => k) (fun f hR => ?_)
  intro b4
  refine RegOb.join Unit (fun _ => ⟨140, [(1, .int .i64 mtu), (2, .int .i64 small), (3, .bool back), (4, .ptr 0 0), (8, .ff), (45, .bool (decide (i.p.opts.length > 40 ∨ i.p.data.length > 2500 ∨ i.p.h.off ≠ 0 ∨ i.p.h.more = true ∨ small > mtu)))], [(0, .at b4 0)], 1, [.blk 0 40 i.svs]⟩) ?_ (fun _ => ?_)
  · refine Br.mk (fun h1 => ?_) (fun h1 => ?_)
    · exact ⟨(), Le.of rfl ⟨⟨_, rfl, rfl⟩, ⟨_, rfl, rfl⟩, ⟨_, rfl, rfl⟩, ⟨_, rfl, rfl⟩, ⟨_, rfl, rfl⟩, ⟨_, rfl, (bool_eq (by have h1 := of_decide_eq_true h1; have h1 : (i.p.opts.length : Int) > 40 := h1; simp; omega))⟩, trivial⟩ (fun h k => k)⟩
    refine Br.mk (fun h2 => ?_) (fun h2 => ?_)
    · exact ⟨(), Le.of rfl ⟨⟨_, rfl, rfl⟩, ⟨_, rfl, rfl⟩, ⟨_, rfl, rfl⟩, ⟨_, rfl, rfl⟩, ⟨_, rfl, rfl⟩, ⟨_, rfl, (bool_eq (by have h2 := of_decide_eq_true h2; have h2 : (i.p.data.length : Int) > 2500 := h2; simp; omega))⟩, trivial⟩ (fun h k => k)⟩
    refine Br.mk (fun h3 => ?_) (fun h3 => ?_)
    · have h3 : i.p.h.off ≠ 0 := by simpa using h3
      exact ⟨(), Le.of rfl ⟨⟨_, rfl, rfl⟩, ⟨_, rfl, rfl⟩, ⟨_, rfl, rfl⟩, ⟨_, rfl, rfl⟩, ⟨_, rfl, rfl⟩, ⟨_, rfl, (bool_eq (by simp [h3]))⟩, trivial⟩ (fun h k => k)⟩
    refine Br.mk (fun h4 => ?_) (fun h4 => ?_)
    · exact ⟨(), Le.of rfl ⟨⟨_, rfl, rfl⟩, ⟨_, rfl, rfl⟩, ⟨_, rfl, rfl⟩, ⟨_, rfl, rfl⟩, ⟨_, rfl, rfl⟩, ⟨_, rfl, (bool_eq (by simp [h4]))⟩, trivial⟩ (fun h k => k)⟩
    have h1 := of_decide_eq_false h1
    have h1 : ¬ (i.p.opts.length : Int) > 40 := h1
    have h2 := of_decide_eq_false h2
    have h2 : ¬ (i.p.data.length : Int) > 2500 := h2
    have h3 : i.p.h.off = 0 := by simpa using h3
    have h1 : ¬ i.p.opts.length > 40 := by omega
    have h2 : ¬ i.p.data.length > 2500 := by omega
    exact ⟨(), Le.of rfl ⟨⟨_, rfl, rfl⟩, ⟨_, rfl, rfl⟩, ⟨_, rfl, rfl⟩, ⟨_, rfl, rfl⟩, ⟨_, rfl, rfl⟩, ⟨_, rfl, (bool_eq (by simp [h1, h2, h3, h4]))⟩, trivial⟩ (fun h k => k)⟩
  refine CondOb.split (fun g => ?_) (fun g => ?_)
  · refine useP .tt live_spec rfl rfl ?_
    exact FinOb.mk [.bool true] [] rfl (fun h k => trivial) ⟨rfl, rfl⟩
  have g := of_decide_eq_false g
  have g1 : i.p.opts.length ≤ 40 ∧ i.p.data.length ≤ 2500 := by simp at g; omega
  have g2 : i.p.h.off = 0 := by simp at g; exact g.2.2.1
  have g3 : i.p.h.more = false := by simp at g; exact g.2.2.2.1
  clear g
  refine call_ix (split3_spec i hf mtu) rfl [] (fun h k => k) (fun f' b' hs kb => ⟨rd_sub (fun r q hq => hs.get_right hq) hR.o, rd_sub (fun r q hq => hs.get_right hq) hR.d⟩) ?_
  rintro v post (⟨e, he, rfl, rfl⟩ | ⟨pl, c, L, Y0, rfl, hpl, hLn, hLf, hLs, hLk, rfl⟩)
  · refine ⟨.tuple [.nils, .int .i64 e], _, 1, [], NmExt.refl _, rfl, fun h k => k, ?_⟩
    refine CondOb.split (fun _ => ?_) (fun h => absurd he (by simpa using h))
    refine useP .tt live_spec rfl rfl ?_
    exact FinOb.mk [.bool true] [] rfl (fun h k => trivial) ⟨rfl, rfl⟩
  obtain ⟨ns, hL⟩ : ∃ ns, Lst i L ns := by
    rcases hLk with rfl | ⟨y, ms, rfl, hS⟩
    · exact ⟨_, lst_one g2 g3⟩
    · exact ⟨_, lst_pcs hS g2 g3⟩
  refine ⟨.tuple [.raw (.slice (locAddr 0 pl) L.length c), .int .i64 0], _, 1, [.asn (Vec pl 40 11 c (IL.flat L)), .asn (Cys Y0)], NmExt.refl _, rfl, fun h k => k, ?_⟩
  refine CondOb.split (fun h => absurd h (by decide)) (fun _ => ?_)
  refine LoopOb.mk { z : Nat × Plc × Nat × List Ip × List Cy // z.1 ≤ L.length ∧ z.2.2.2.1.length ≤ z.2.2.1 ∧ Good i ns z.1 z.2.2.2.1 ∧ (∀ x ∈ z.2.2.2.1, x.Fits) ∧ SeesL i (Y0 ++ z.2.2.2.2) z.2.2.2.1 ∧ (z.2.2.2.1 ≠ [] → ∃ b o, z.2.1 = .at b o) } (fun z => ⟨140, [(2, .int .i64 small), (3, .bool back), (4, .ptr 0 0), (8, .ff), (9, .raw (.slice (locAddr 0 pl) L.length c)), (11, .sl 1 0 z.1.2.2.2.1.length z.1.2.2.1), (12, .int .i64 z.1.1)], [(1, z.1.2.1), (0, .at b4 0)], 2, [.blk 0 40 i.svs, .asn (Vec pl 40 11 c (IL.flat L)), .asn (Cys Y0), .vec 1 40 11 z.1.2.2.1 (IL.flat z.1.2.2.2.1), .asn (Cys z.1.2.2.2.2)]⟩) (fun z => L.length - z.1.1) ⟨(0, .nil, 0, [], []), Nat.zero_le _, Nat.le_refl _, good_nil i ns, by simp, fun _ _ _ x hx => by simp at hx, by simp⟩ ?_ ?_
  · exact Le.of rfl ⟨⟨_, rfl, rfl⟩, ⟨_, rfl, rfl⟩, ⟨_, rfl, rfl⟩, ⟨_, rfl, rfl⟩, ⟨_, rfl, rfl⟩, ⟨_, rfl, rfl⟩, ⟨_, rfl, rfl⟩, trivial⟩ (fun h k => sat_pick 2 rfl (by first | exact fun _ k => k | exact fun _ k => blk_to rfl rfl k | exact fun _ k => vec_to rfl k | exact fun _ k => blk_of rfl rfl k | exact fun _ k => vec_of rfl k | exact fun _ k => blk_of rfl rfl (blk_to rfl rfl k) | exact fun _ k => vec_of rfl (vec_to rfl k) | exact fun _ k => mp_to rfl k | exact fun _ k => mp_of rfl k | exact fun _ k => mp_of rfl (mp_to rfl k)) (fun h k => sat_pick 0 rfl (by first | exact fun _ k => k | exact fun _ k => blk_to rfl rfl k | exact fun _ k => vec_to rfl k | exact fun _ k => blk_of rfl rfl k | exact fun _ k => vec_of rfl k | exact fun _ k => blk_of rfl rfl (blk_to rfl rfl k) | exact fun _ k => vec_of rfl (vec_to rfl k) | exact fun _ k => mp_to rfl k | exact fun _ k => mp_of rfl k | exact fun _ k => mp_of rfl (mp_to rfl k)) (fun h k => sat_pick 0 rfl (by first | exact fun _ k => k | exact fun _ k => blk_to rfl rfl k | exact fun _ k => vec_to rfl k | exact fun _ k => blk_of rfl rfl k | exact fun _ k => vec_of rfl k | exact fun _ k => blk_of rfl rfl (blk_to rfl rfl k) | exact fun _ k => vec_of rfl (vec_to rfl k) | exact fun _ k => mp_to rfl k | exact fun _ k => mp_of rfl k | exact fun _ k => mp_of rfl (mp_to rfl k)) (fun h k => sat_add (vec_of rfl vec_emp) ((fun h k => sat_add (show Alls [] HP.emp from trivial) ((fun h k => sat_nil k) h k)) h k)) k) k) k)
  rintro ⟨⟨t, pv, cv, all, Ys⟩, ht, hcv, hg, hfa, hsa, hpv⟩
  simp only at ht hcv hg hfa hsa hpv
  have hal := good_len hL ht hg
  refine CondOb.split (fun gt => ?_) (fun gt => ?_)
  · have gt : t < L.length := by
      have gt := of_decide_eq_true gt
      have : (t : Int) < L.length := gt
      omega
    obtain ⟨pb, po, rfl⟩ := hpl (by intro e; rw [e] at gt; simp at gt)
    have hx := List.getElem?_eq_getElem gt
    have hxm : L[t] ∈ L := List.getElem_mem gt
    generalize L[t] = x at hx hxm
    have hxf := hLf x hxm
    refine Need.mk (show (0 : Int) ≤ (t : Int) ∧ (t : Int) < (L.length : Nat) from ⟨by omega, by omega⟩) (RawAt.mk pb (po + 0) rfl ?_)
    refine RdF.told x.svs x.vals rfl rfl (fun h q u v hv => sat_cell 1 rfl (fun z kz => by rw [Int.toNat_natCast, Nat.add_assoc]; exact vec_rd kz (t * 11 + u) v (IL.flat_at hx hv)) q) ?_
    refine call_ix (split3_spec x hxf small) rfl [] (fun h k => k) (fun f' b' hs kb => ?_) ?_
    · obtain ⟨z, hz, kz⟩ := sat_sub (n := 2) (A := Cys Y0) rfl kb
      exact hLs f' ⟨rd_sub (fun r q hq => hs.get_right hq) hR.o, rd_sub (fun r q hq => hs.get_right hq) hR.d⟩ (fun y hy => rd_sub (fun r q hq => hs.get (hz r q hq)) (cys_reads kz y hy)) x hxm
    rintro v post (⟨e, he, rfl, rfl⟩ | ⟨pm, cm, M, Ym, rfl, hpm, hMn, hMf, hMs, hMk, rfl⟩)
    · refine ⟨.tuple [.nils, .int .i64 e], _, 2, [], NmExt.refl _, rfl, fun h k => k, ?_⟩
      refine CondOb.split (fun _ => ?_) (fun h => absurd he (by simpa using h))
      refine useP .tt live_spec rfl rfl ?_
      exact FinOb.mk [.bool true] [] rfl (fun h k => trivial) ⟨rfl, rfl⟩
    refine ⟨.tuple [.raw (.slice (locAddr 0 pm) M.length cm), .int .i64 0], _, 2, [.asn (Vec pm 40 11 cm (IL.flat M)), .asn (Cys Ym)], NmExt.refl _, rfl, fun h k => k, ?_⟩
    refine CondOb.split (fun h => absurd h (by decide)) (fun _ => ?_)
    have hg2 : Good i ns (t + 1) (all ++ M) := good_step hL hx hg hMk
    have hal2 := good_len hL (show t + 1 ≤ L.length from gt) hg2
    rw [List.length_append] at hal2
    have hxs : SeesL i (Y0 ++ (Ys ++ Ym)) (all ++ M) := fun f' h1 h2 z hz => by
      rcases List.mem_append.1 hz with hz | hz
      · exact hsa f' h1 (fun y hy => h2 y (by simp at hy ⊢; rcases hy with hy | hy <;> simp [hy])) z hz
      · exact hMs f' (hLs f' h1 (fun y hy => h2 y (by simp [hy])) x hxm) (fun y hy => h2 y (by simp [hy])) z hz
    have hfs : ∀ z ∈ all ++ M, z.Fits := fun z hz => by
      rcases List.mem_append.1 hz with hz | hz
      · exact hfa z hz
      · exact hMf z hz
    have et : IntKind.i64.wrap ((t : Int) + 1) = ((t + 1 : Nat) : Int) := by rw [w64 (by omega) (by omega)]; omega
    have hla := lIL all
    have hlM := lIL M
    have hfl : List.take (all.length * 11) (List.drop 0 (IL.flat all)) ++ IL.flat M = IL.flat (all ++ M) := by
      rw [List.drop_zero, List.take_of_length_le (by omega), IL.flat_append]
    have e3 : (all ++ M).length = all.length + M.length := List.length_append
    by_cases hM0 : M = []
    · subst hM0
      refine SrcF.mk [] rfl (fun i v h => by simp at h) ?_
      refine Need.mk ⟨by dsimp only; omega, by dsimp only; omega, hcv⟩ ?_
      refine Need.mk ⟨by dsimp only; simp only [List.length_nil]; omega, by dsimp only; simp only [maxLen, List.length_nil]; omega, by simp⟩ ?_
      rw [List.append_nil] at hg2 hfs hxs
      have hfl : List.take (all.length * 11) (List.drop 0 (IL.flat all)) ++ [] = IL.flat all := by
        rw [List.drop_zero, List.take_of_length_le (by omega), List.append_nil]
      by_cases ha0 : all = []
      · refine NewSl.any (fun l8 c8 hc8 => ?_)
        exact ⟨⟨(t + 1, l8, c8, all, Ys ++ Ym), gt, by simpa using hc8, hg2, hfs, hxs, fun h => absurd ha0 h⟩, by show L.length - (t + 1) < L.length - t; omega, Le.of rfl ⟨⟨_, rfl, rfl⟩, ⟨_, rfl, rfl⟩, ⟨_, rfl, rfl⟩, ⟨_, rfl, rfl⟩, ⟨_, rfl, rfl⟩, ⟨_, rfl, rfl⟩, ⟨_, rfl, congrArg (fun z => some (Value.int .i64 z)) et⟩, trivial⟩ (fun h k => sat_pick 3 rfl (by first | exact fun _ k => k | exact fun _ k => blk_to rfl rfl k | exact fun _ k => vec_to rfl k | exact fun _ k => blk_of rfl rfl k | exact fun _ k => vec_of rfl k | exact fun _ k => blk_of rfl rfl (blk_to rfl rfl k) | exact fun _ k => vec_of rfl (vec_to rfl k) | exact fun _ k => mp_to rfl k | exact fun _ k => mp_of rfl k | exact fun _ k => mp_of rfl (mp_to rfl k)) (fun h k => sat_pick 3 rfl (by first | exact fun _ k => k | exact fun _ k => blk_to rfl rfl k | exact fun _ k => vec_to rfl k | exact fun _ k => blk_of rfl rfl k | exact fun _ k => vec_of rfl k | exact fun _ k => blk_of rfl rfl (blk_to rfl rfl k) | exact fun _ k => vec_of rfl (vec_to rfl k) | exact fun _ k => mp_to rfl k | exact fun _ k => mp_of rfl k | exact fun _ k => mp_of rfl (mp_to rfl k)) (fun h k => sat_pick 3 rfl (by first | exact fun _ k => k | exact fun _ k => blk_to rfl rfl k | exact fun _ k => vec_to rfl k | exact fun _ k => blk_of rfl rfl k | exact fun _ k => vec_of rfl k | exact fun _ k => blk_of rfl rfl (blk_to rfl rfl k) | exact fun _ k => vec_of rfl (vec_to rfl k) | exact fun _ k => mp_to rfl k | exact fun _ k => mp_of rfl k | exact fun _ k => mp_of rfl (mp_to rfl k)) (fun h k => sat_pick 0 rfl (fun _ k9 => by exact vec_of rfl (vec_cast hfl (vec_to (l := l8) rfl k9))) (fun h k => sat_pick2 2 1 rfl rfl (fun h9 k9 => cys_app h9 k9) (fun h k => sat_nil k) k) k) k) k) k)⟩
      · have hap := List.length_pos_iff.2 ha0
        refine NewSl.pos (by dsimp only; omega) (fun b8 o8 c8 hc8 => ?_)
        exact ⟨⟨(t + 1, .at b8 o8, c8, all, Ys ++ Ym), gt, by simpa using hc8, hg2, hfs, hxs, fun _ => ⟨b8, o8, rfl⟩⟩, by show L.length - (t + 1) < L.length - t; omega, Le.of rfl ⟨⟨_, rfl, rfl⟩, ⟨_, rfl, rfl⟩, ⟨_, rfl, rfl⟩, ⟨_, rfl, rfl⟩, ⟨_, rfl, rfl⟩, ⟨_, rfl, rfl⟩, ⟨_, rfl, congrArg (fun z => some (Value.int .i64 z)) et⟩, trivial⟩ (fun h k => sat_pick 3 rfl (by first | exact fun _ k => k | exact fun _ k => blk_to rfl rfl k | exact fun _ k => vec_to rfl k | exact fun _ k => blk_of rfl rfl k | exact fun _ k => vec_of rfl k | exact fun _ k => blk_of rfl rfl (blk_to rfl rfl k) | exact fun _ k => vec_of rfl (vec_to rfl k) | exact fun _ k => mp_to rfl k | exact fun _ k => mp_of rfl k | exact fun _ k => mp_of rfl (mp_to rfl k)) (fun h k => sat_pick 3 rfl (by first | exact fun _ k => k | exact fun _ k => blk_to rfl rfl k | exact fun _ k => vec_to rfl k | exact fun _ k => blk_of rfl rfl k | exact fun _ k => vec_of rfl k | exact fun _ k => blk_of rfl rfl (blk_to rfl rfl k) | exact fun _ k => vec_of rfl (vec_to rfl k) | exact fun _ k => mp_to rfl k | exact fun _ k => mp_of rfl k | exact fun _ k => mp_of rfl (mp_to rfl k)) (fun h k => sat_pick 3 rfl (by first | exact fun _ k => k | exact fun _ k => blk_to rfl rfl k | exact fun _ k => vec_to rfl k | exact fun _ k => blk_of rfl rfl k | exact fun _ k => vec_of rfl k | exact fun _ k => blk_of rfl rfl (blk_to rfl rfl k) | exact fun _ k => vec_of rfl (vec_to rfl k) | exact fun _ k => mp_to rfl k | exact fun _ k => mp_of rfl k | exact fun _ k => mp_of rfl (mp_to rfl k)) (fun h k => sat_pick 0 rfl (fun _ k9 => by exact vec_of rfl (vec_cast hfl (vec_to (l := .at b8 o8) rfl k9))) (fun h k => sat_pick2 2 1 rfl rfl (fun h9 k9 => cys_app h9 k9) (fun h k => sat_nil k) k) k) k) k) k)⟩
    · obtain ⟨mb, mo, rfl⟩ := hpm hM0
      have hMp := List.length_pos_iff.2 hM0
      refine SrcF.told mb (mo + 0) (IL.flat M) rfl (by rw [hlM]) (fun h k u v hv => sat_cell 0 rfl (fun z kz => vec_rd kz u v hv) k) ?_
      refine Need.mk ⟨by dsimp only; omega, by dsimp only; omega, hcv⟩ ?_
      refine Need.mk ⟨by dsimp only; omega, by dsimp only; simp only [maxLen]; omega, IL.flat_one' _⟩ ?_
      refine NewSl.pos (by dsimp only; omega) (fun b8 o8 c8 hc8 => ?_)
      exact ⟨⟨(t + 1, .at b8 o8, c8, all ++ M, Ys ++ Ym), gt, by show (all ++ M).length ≤ c8; rw [e3]; exact hc8, hg2, hfs, hxs, fun _ => ⟨b8, o8, rfl⟩⟩, by show L.length - (t + 1) < L.length - t; omega, Le.of rfl ⟨⟨_, rfl, rfl⟩, ⟨_, rfl, rfl⟩, ⟨_, rfl, rfl⟩, ⟨_, rfl, rfl⟩, ⟨_, rfl, rfl⟩, ⟨_, rfl, (congrArg (fun n => some (Value.slice (some ⟨b8, o8 + 0, none⟩) n c8)) e3.symm)⟩, ⟨_, rfl, congrArg (fun z => some (Value.int .i64 z)) et⟩, trivial⟩ (fun h k => sat_pick 3 rfl (by first | exact fun _ k => k | exact fun _ k => blk_to rfl rfl k | exact fun _ k => vec_to rfl k | exact fun _ k => blk_of rfl rfl k | exact fun _ k => vec_of rfl k | exact fun _ k => blk_of rfl rfl (blk_to rfl rfl k) | exact fun _ k => vec_of rfl (vec_to rfl k) | exact fun _ k => mp_to rfl k | exact fun _ k => mp_of rfl k | exact fun _ k => mp_of rfl (mp_to rfl k)) (fun h k => sat_pick 3 rfl (by first | exact fun _ k => k | exact fun _ k => blk_to rfl rfl k | exact fun _ k => vec_to rfl k | exact fun _ k => blk_of rfl rfl k | exact fun _ k => vec_of rfl k | exact fun _ k => blk_of rfl rfl (blk_to rfl rfl k) | exact fun _ k => vec_of rfl (vec_to rfl k) | exact fun _ k => mp_to rfl k | exact fun _ k => mp_of rfl k | exact fun _ k => mp_of rfl (mp_to rfl k)) (fun h k => sat_pick 3 rfl (by first | exact fun _ k => k | exact fun _ k => blk_to rfl rfl k | exact fun _ k => vec_to rfl k | exact fun _ k => blk_of rfl rfl k | exact fun _ k => vec_of rfl k | exact fun _ k => blk_of rfl rfl (blk_to rfl rfl k) | exact fun _ k => vec_of rfl (vec_to rfl k) | exact fun _ k => mp_to rfl k | exact fun _ k => mp_of rfl k | exact fun _ k => mp_of rfl (mp_to rfl k)) (fun h k => sat_pick 0 rfl (fun _ k9 => by exact vec_of rfl (vec_cast hfl (vec_to (l := .at b8 o8) rfl k9))) (fun h k => sat_pick2 2 1 rfl rfl (fun h9 k9 => cys_app h9 k9) (fun h k => sat_nil k) k) k) k) k) k)⟩
  have gt : t = L.length := by
    have gt := of_decide_eq_false gt
    have : ¬ (t : Int) < L.length := gt
    omega
  subst gt
  have hall := good_all hL hg g2 g3 g1.1 (by omega)
  refine call_ix (tnew_spec 1 100) rfl [] (fun h k => k) (fun f' b' hs kb => trivial) ?_
  rintro v post (⟨h1, _⟩ | ⟨_, tb, rfl, rfl⟩)
  · exact absurd h1 (by decide)
  refine ⟨.tuple [.raw (pp tb), .int .i64 0], _, 2, [.asn (TA tb 1 100 0 [])], NmExt.refl _, rfl, fun h k => k, ?_⟩
  refine RegOb.go ?_
  refine useP (.int .i64 0) (code_spec 0) rfl rfl ?_
  refine Br.mk (fun h => absurd h (by decide)) (fun _ => ?_)
  refine LoopOb.mk { z : Nat × Int × List Mp // z.1 ≤ all.length ∧ 0 ≤ z.2.1 ∧ z.2.1 ≤ z.1 ∧ RunI i back all z.1 z.2.2 } (fun z => ⟨140, [(3, .bool back), (4, .ptr 0 0), (8, .ff), (11, .sl 1 0 all.length cv), (15, .raw (pp tb)), (17, .int .i64 z.1.1)], [(1, pv), (0, .at b4 0)], 2, [.asn (TA tb 1 100 z.1.2.1 z.1.2.2), .blk 0 40 i.svs, .asn (Cys Y0), .vec 1 40 11 cv (IL.flat all), .asn (Cys Ys)]⟩) (fun z => all.length - z.1.1) ⟨(0, 0, []), Nat.zero_le _, Int.le_refl _, Int.le_refl _, run_nil back hall⟩ ?_ ?_
  · exact Le.of rfl ⟨⟨_, rfl, rfl⟩, ⟨_, rfl, rfl⟩, ⟨_, rfl, rfl⟩, ⟨_, rfl, rfl⟩, ⟨_, rfl, rfl⟩, ⟨_, rfl, rfl⟩, trivial⟩ (fun h k => sat_pick 0 rfl (by first | exact fun _ k => k | exact fun _ k => blk_to rfl rfl k | exact fun _ k => vec_to rfl k | exact fun _ k => blk_of rfl rfl k | exact fun _ k => vec_of rfl k | exact fun _ k => blk_of rfl rfl (blk_to rfl rfl k) | exact fun _ k => vec_of rfl (vec_to rfl k) | exact fun _ k => mp_to rfl k | exact fun _ k => mp_of rfl k | exact fun _ k => mp_of rfl (mp_to rfl k)) (fun h k => sat_pick 0 rfl (by first | exact fun _ k => k | exact fun _ k => blk_to rfl rfl k | exact fun _ k => vec_to rfl k | exact fun _ k => blk_of rfl rfl k | exact fun _ k => vec_of rfl k | exact fun _ k => blk_of rfl rfl (blk_to rfl rfl k) | exact fun _ k => vec_of rfl (vec_to rfl k) | exact fun _ k => mp_to rfl k | exact fun _ k => mp_of rfl k | exact fun _ k => mp_of rfl (mp_to rfl k)) (fun h k => sat_pick 1 rfl (by first | exact fun _ k => k | exact fun _ k => blk_to rfl rfl k | exact fun _ k => vec_to rfl k | exact fun _ k => blk_of rfl rfl k | exact fun _ k => vec_of rfl k | exact fun _ k => blk_of rfl rfl (blk_to rfl rfl k) | exact fun _ k => vec_of rfl (vec_to rfl k) | exact fun _ k => mp_to rfl k | exact fun _ k => mp_of rfl k | exact fun _ k => mp_of rfl (mp_to rfl k)) (fun h k => sat_pick 1 rfl (by first | exact fun _ k => k | exact fun _ k => blk_to rfl rfl k | exact fun _ k => vec_to rfl k | exact fun _ k => blk_of rfl rfl k | exact fun _ k => vec_of rfl k | exact fun _ k => blk_of rfl rfl (blk_to rfl rfl k) | exact fun _ k => vec_of rfl (vec_to rfl k) | exact fun _ k => mp_to rfl k | exact fun _ k => mp_of rfl k | exact fun _ k => mp_of rfl (mp_to rfl k)) (fun h k => sat_pick 1 rfl (by first | exact fun _ k => k | exact fun _ k => blk_to rfl rfl k | exact fun _ k => vec_to rfl k | exact fun _ k => blk_of rfl rfl k | exact fun _ k => vec_of rfl k | exact fun _ k => blk_of rfl rfl (blk_to rfl rfl k) | exact fun _ k => vec_of rfl (vec_to rfl k) | exact fun _ k => mp_to rfl k | exact fun _ k => mp_of rfl k | exact fun _ k => mp_of rfl (mp_to rfl k)) (fun h k => sat_nil k) k) k) k) k) k)
  rintro ⟨⟨q, n, M⟩, hq, hn0, hn1, hI⟩
  simp only at hq hn0 hn1 hI
  refine CondOb.split (fun gq => ?_) (fun gq => ?_)
  rotate_left
  · have gq : q = all.length := by
      have gq := of_decide_eq_false gq
      have : ¬ (q : Int) < all.length := gq
      omega
    obtain rfl := hI.1 gq
    refine RegOb.go ?_
    refine call_ix (tlen_spec tb 1 100 n []) rfl [0] (fun h k => k) (fun f' b' hs kb => trivial) ?_
    rintro v post ⟨rfl, rfl⟩
    refine ⟨.int .i64 0, _, 2, [], NmExt.refl _, rfl, fun h k => trivial, ?_⟩
    refine Br.mk (fun _ => ?_) (fun h => absurd h (by decide))
    refine useP .tt live_spec rfl rfl ?_
    exact FinOb.mk [.bool true] [] rfl (fun h k => trivial) ⟨rfl, rfl⟩
  have gq : q < all.length := by
    have gq := of_decide_eq_true gq
    have : (q : Int) < all.length := gq
    omega
  obtain ⟨vb, vo, rfl⟩ := hpv (by intro e; rw [e] at gq; simp at gq)
  have eq1 : IntKind.i64.wrap ((q : Int) + 1) = ((q + 1 : Nat) : Int) := by rw [w64 (by omega) (by omega)]; omega
  have hsg : sg back all.length q < all.length := by unfold sg; split <;> omega
  refine CondOb.join Unit (fun _ => ⟨140, [(3, .bool back), (4, .ptr 0 0), (8, .ff), (11, .sl 1 0 all.length cv), (15, .raw (pp tb)), (17, .int .i64 q), (18, .int .i64 (sg back all.length q))], [(1, .at vb vo), (0, .at b4 0)], 2, [.asn (TA tb 1 100 n M), .blk 0 40 i.svs, .asn (Cys Y0), .vec 1 40 11 cv (IL.flat all), .asn (Cys Ys)]⟩) (fun gb => ?_) (fun gb => ?_) (fun _ => ?_)
  · have gb : back = true := gb
    have es : IntKind.i64.wrap (IntKind.i64.wrap ((all.length : Int) - 1) - q) = ((sg back all.length q : Nat) : Int) := by
      rw [w64 (x := (all.length : Int) - 1) (by omega) (by omega), w64 (by omega) (by omega)]
      unfold sg
      rw [if_pos gb]
      omega
    exact ⟨(), Le.of rfl ⟨⟨_, rfl, rfl⟩, ⟨_, rfl, rfl⟩, ⟨_, rfl, rfl⟩, ⟨_, rfl, rfl⟩, ⟨_, rfl, rfl⟩, ⟨_, rfl, rfl⟩, ⟨_, rfl, congrArg (fun z => some (Value.int .i64 z)) es⟩, trivial⟩ (fun h k => sat_pick 0 rfl (by first | exact fun _ k => k | exact fun _ k => blk_to rfl rfl k | exact fun _ k => vec_to rfl k | exact fun _ k => blk_of rfl rfl k | exact fun _ k => vec_of rfl k | exact fun _ k => blk_of rfl rfl (blk_to rfl rfl k) | exact fun _ k => vec_of rfl (vec_to rfl k) | exact fun _ k => mp_to rfl k | exact fun _ k => mp_of rfl k | exact fun _ k => mp_of rfl (mp_to rfl k)) (fun h k => sat_pick 0 rfl (by first | exact fun _ k => k | exact fun _ k => blk_to rfl rfl k | exact fun _ k => vec_to rfl k | exact fun _ k => blk_of rfl rfl k | exact fun _ k => vec_of rfl k | exact fun _ k => blk_of rfl rfl (blk_to rfl rfl k) | exact fun _ k => vec_of rfl (vec_to rfl k) | exact fun _ k => mp_to rfl k | exact fun _ k => mp_of rfl k | exact fun _ k => mp_of rfl (mp_to rfl k)) (fun h k => sat_pick 0 rfl (by first | exact fun _ k => k | exact fun _ k => blk_to rfl rfl k | exact fun _ k => vec_to rfl k | exact fun _ k => blk_of rfl rfl k | exact fun _ k => vec_of rfl k | exact fun _ k => blk_of rfl rfl (blk_to rfl rfl k) | exact fun _ k => vec_of rfl (vec_to rfl k) | exact fun _ k => mp_to rfl k | exact fun _ k => mp_of rfl k | exact fun _ k => mp_of rfl (mp_to rfl k)) (fun h k => sat_pick 0 rfl (by first | exact fun _ k => k | exact fun _ k => blk_to rfl rfl k | exact fun _ k => vec_to rfl k | exact fun _ k => blk_of rfl rfl k | exact fun _ k => vec_of rfl k | exact fun _ k => blk_of rfl rfl (blk_to rfl rfl k) | exact fun _ k => vec_of rfl (vec_to rfl k) | exact fun _ k => mp_to rfl k | exact fun _ k => mp_of rfl k | exact fun _ k => mp_of rfl (mp_to rfl k)) (fun h k => sat_pick 0 rfl (by first | exact fun _ k => k | exact fun _ k => blk_to rfl rfl k | exact fun _ k => vec_to rfl k | exact fun _ k => blk_of rfl rfl k | exact fun _ k => vec_of rfl k | exact fun _ k => blk_of rfl rfl (blk_to rfl rfl k) | exact fun _ k => vec_of rfl (vec_to rfl k) | exact fun _ k => mp_to rfl k | exact fun _ k => mp_of rfl k | exact fun _ k => mp_of rfl (mp_to rfl k)) (fun h k => sat_nil k) k) k) k) k) k)⟩
  · have gb : back = false := gb
    have es : sg back all.length q = q := by unfold sg; rw [if_neg (by rw [gb]; simp)]
    exact ⟨(), Le.of rfl ⟨⟨_, rfl, rfl⟩, ⟨_, rfl, rfl⟩, ⟨_, rfl, rfl⟩, ⟨_, rfl, rfl⟩, ⟨_, rfl, rfl⟩, ⟨_, rfl, rfl⟩, ⟨_, rfl, (by rw [es])⟩, trivial⟩ (fun h k => sat_pick 0 rfl (by first | exact fun _ k => k | exact fun _ k => blk_to rfl rfl k | exact fun _ k => vec_to rfl k | exact fun _ k => blk_of rfl rfl k | exact fun _ k => vec_of rfl k | exact fun _ k => blk_of rfl rfl (blk_to rfl rfl k) | exact fun _ k => vec_of rfl (vec_to rfl k) | exact fun _ k => mp_to rfl k | exact fun _ k => mp_of rfl k | exact fun _ k => mp_of rfl (mp_to rfl k)) (fun h k => sat_pick 0 rfl (by first | exact fun _ k => k | exact fun _ k => blk_to rfl rfl k | exact fun _ k => vec_to rfl k | exact fun _ k => blk_of rfl rfl k | exact fun _ k => vec_of rfl k | exact fun _ k => blk_of rfl rfl (blk_to rfl rfl k) | exact fun _ k => vec_of rfl (vec_to rfl k) | exact fun _ k => mp_to rfl k | exact fun _ k => mp_of rfl k | exact fun _ k => mp_of rfl (mp_to rfl k)) (fun h k => sat_pick 0 rfl (by first | exact fun _ k => k | exact fun _ k => blk_to rfl rfl k | exact fun _ k => vec_to rfl k | exact fun _ k => blk_of rfl rfl k | exact fun _ k => vec_of rfl k | exact fun _ k => blk_of rfl rfl (blk_to rfl rfl k) | exact fun _ k => vec_of rfl (vec_to rfl k) | exact fun _ k => mp_to rfl k | exact fun _ k => mp_of rfl k | exact fun _ k => mp_of rfl (mp_to rfl k)) (fun h k => sat_pick 0 rfl (by first | exact fun _ k => k | exact fun _ k => blk_to rfl rfl k | exact fun _ k => vec_to rfl k | exact fun _ k => blk_of rfl rfl k | exact fun _ k => vec_of rfl k | exact fun _ k => blk_of rfl rfl (blk_to rfl rfl k) | exact fun _ k => vec_of rfl (vec_to rfl k) | exact fun _ k => mp_to rfl k | exact fun _ k => mp_of rfl k | exact fun _ k => mp_of rfl (mp_to rfl k)) (fun h k => sat_pick 0 rfl (by first | exact fun _ k => k | exact fun _ k => blk_to rfl rfl k | exact fun _ k => vec_to rfl k | exact fun _ k => blk_of rfl rfl k | exact fun _ k => vec_of rfl k | exact fun _ k => blk_of rfl rfl (blk_to rfl rfl k) | exact fun _ k => vec_of rfl (vec_to rfl k) | exact fun _ k => mp_to rfl k | exact fun _ k => mp_of rfl k | exact fun _ k => mp_of rfl (mp_to rfl k)) (fun h k => sat_nil k) k) k) k) k) k)⟩
  have hz := List.getElem?_eq_getElem hsg
  have hzm : all[sg back all.length q] ∈ all := List.getElem_mem hsg
  generalize all[sg back all.length q] = z at hz hzm
  generalize hK : sg back all.length q = K at hz hsg
  refine Need.mk (by decide) ?_
  refine Need.mk (show (0 : Int) ≤ (K : Int) ∧ (K : Int) < (all.length : Nat) from ⟨by omega, by omega⟩) ?_
  have hlz := lIL all
  refine RdObL.mk z.svs (by decide) (by rw [hlz, Int.toNat_natCast]; omega) (by rw [Int.toNat_natCast, Nat.zero_add]; exact (congrArg some (IL.flat_get hz)).symm) ?_
  have enow : (q : Int).tmod 90 = ((q % 90 : Nat) : Int) := rfl
  refine call_ix (tadd_spec tb 1 100 n M ((q : Int).tmod 90) z (hfa z hzm) (by decide) (by decide) (by omega)) rfl [0] (fun h k => k) (fun f' b' hs' kb => ?_) ?_
  · obtain ⟨u, hu, ku⟩ := sat_sub (n := 1) (A := Cys Y0) rfl kb
    obtain ⟨w, hw, kw⟩ := sat_sub (n := 3) (A := Cys Ys) rfl kb
    exact hsa f' ⟨rd_sub (fun r q hq => hs'.get_right hq) hR.o, rd_sub (fun r q hq => hs'.get_right hq) hR.d⟩ (fun y hy => by
      rcases List.mem_append.1 hy with hy | hy
      · exact rd_sub (fun r q hq => hs'.get (hu r q hq)) (cys_reads ku y hy)
      · exact rd_sub (fun r q hq => hs'.get (hw r q hq)) (cys_reads kw y hy)) z hzm
  rintro v post ⟨M', r, dn, e, own, rfl, ha, ho, rfl⟩
  obtain ⟨rfl, a2, a3, a4⟩ := run_step g2 g3 hI gq (by rw [enow]; omega) (by rw [hK]; exact hz) ha
  rcases ho with ⟨rfl, rfl, rfl⟩ | ⟨rfl, po', pd', co', cd', hr, h1, h2, rfl⟩
  · have hnl : ¬ q + 1 = all.length := fun e => by have := a2.2 e; cases this
    refine ⟨.tuple [.agg zeroI.svs, .ff, .int .i64 0], _, 2, [.asn (TA tb 1 100 (n + 1) M')], NmExt.refl _, rfl, fun h k => k, ?_⟩
    intro b19
    refine RegOb.go ?_
    refine useP (.int .i64 0) (code_spec 0) rfl rfl ?_
    refine Br.mk (fun h => absurd h (by decide)) (fun _ => ?_)
    refine Br.mk (fun h => ?_) (fun _ => ?_)
    · have h : (false != (IntKind.i64.wrap ((q : Int) + 1) == (all.length : Int))) = true := h
      rw [eq1] at h
      simp at h
      omega
    exact ⟨⟨(q + 1, n + 1, M'), gq, by show 0 ≤ n + 1; omega, by show n + 1 ≤ ((q + 1 : Nat) : Int); omega, a4⟩, by show all.length - (q + 1) < all.length - q; omega, Le.of rfl ⟨⟨_, rfl, rfl⟩, ⟨_, rfl, rfl⟩, ⟨_, rfl, rfl⟩, ⟨_, rfl, rfl⟩, ⟨_, rfl, rfl⟩, ⟨_, rfl, congrArg (fun z => some (Value.int .i64 z)) eq1⟩, trivial⟩ (fun h k => sat_pick 1 rfl (by first | exact fun _ k => k | exact fun _ k => blk_to rfl rfl k | exact fun _ k => vec_to rfl k | exact fun _ k => blk_of rfl rfl k | exact fun _ k => vec_of rfl k | exact fun _ k => blk_of rfl rfl (blk_to rfl rfl k) | exact fun _ k => vec_of rfl (vec_to rfl k) | exact fun _ k => mp_to rfl k | exact fun _ k => mp_of rfl k | exact fun _ k => mp_of rfl (mp_to rfl k)) (fun h k => sat_pick 1 rfl (by first | exact fun _ k => k | exact fun _ k => blk_to rfl rfl k | exact fun _ k => vec_to rfl k | exact fun _ k => blk_of rfl rfl k | exact fun _ k => vec_of rfl k | exact fun _ k => blk_of rfl rfl (blk_to rfl rfl k) | exact fun _ k => vec_of rfl (vec_to rfl k) | exact fun _ k => mp_to rfl k | exact fun _ k => mp_of rfl k | exact fun _ k => mp_of rfl (mp_to rfl k)) (fun h k => sat_pick 1 rfl (by first | exact fun _ k => k | exact fun _ k => blk_to rfl rfl k | exact fun _ k => vec_to rfl k | exact fun _ k => blk_of rfl rfl k | exact fun _ k => vec_of rfl k | exact fun _ k => blk_of rfl rfl (blk_to rfl rfl k) | exact fun _ k => vec_of rfl (vec_to rfl k) | exact fun _ k => mp_to rfl k | exact fun _ k => mp_of rfl k | exact fun _ k => mp_of rfl (mp_to rfl k)) (fun h k => sat_pick 1 rfl (by first | exact fun _ k => k | exact fun _ k => blk_to rfl rfl k | exact fun _ k => vec_to rfl k | exact fun _ k => blk_of rfl rfl k | exact fun _ k => vec_of rfl k | exact fun _ k => blk_of rfl rfl (blk_to rfl rfl k) | exact fun _ k => vec_of rfl (vec_to rfl k) | exact fun _ k => mp_to rfl k | exact fun _ k => mp_of rfl k | exact fun _ k => mp_of rfl (mp_to rfl k)) (fun h k => sat_pick 1 rfl (by first | exact fun _ k => k | exact fun _ k => blk_to rfl rfl k | exact fun _ k => vec_to rfl k | exact fun _ k => blk_of rfl rfl k | exact fun _ k => vec_of rfl k | exact fun _ k => blk_of rfl rfl (blk_to rfl rfl k) | exact fun _ k => vec_of rfl (vec_to rfl k) | exact fun _ k => mp_to rfl k | exact fun _ k => mp_of rfl k | exact fun _ k => mp_of rfl (mp_to rfl k)) (fun h k => sat_nil k) k) k) k) k) k)⟩
  · have hnl := a2.1 rfl
    have hrp := a3 rfl
    obtain ⟨rp, ra, rc, rb, rd⟩ := r
    unfold Ip.own at hr
    simp only [Ip.mk.injEq, true_and] at hr
    obtain ⟨rfl, rfl, rfl, rfl⟩ := hr
    simp only at hrp h1 h2
    subst hrp
    refine ⟨.tuple [.agg (Ip.mk i.p (locAddr 0 po') rc (locAddr 0 pd') rd).svs, .tt, .int .i64 0], _, 2, [.asn (TA tb 1 100 (n + 1) M'), .asn (Vec po' 5 1 rc (U.flat i.p.opts)), .asn (Vec pd' 5 1 rd (U.flat i.p.data))], NmExt.refl _, rfl, fun h k => k, ?_⟩
    intro b19
    refine RegOb.go ?_
    refine useP (.int .i64 0) (code_spec 0) rfl rfl ?_
    refine Br.mk (fun h => absurd h (by decide)) (fun _ => ?_)
    refine Br.mk (fun h => ?_) (fun _ => ?_)
    · have h : (true != (IntKind.i64.wrap ((q : Int) + 1) == (all.length : Int))) = true := h
      rw [eq1] at h
      simp at h
      omega
    have hsame := same_spec i ⟨i.p, locAddr 0 po', rc, locAddr 0 pd', rd⟩ hf ⟨h1, h2, hf.lo, hf.ld⟩
    rw [decide_eq_true rfl] at hsame
    refine useR .tt hsame rfl (fun f' b' hs' kb => ?_) rfl ?_
    · obtain ⟨z, hz, kz⟩ := sat_sub (n := 2) (A := Vec po' 5 1 rc (U.flat i.p.opts)) rfl kb
      obtain ⟨z2, hz2, kz2⟩ := sat_sub (n := 3) (A := Vec pd' 5 1 rd (U.flat i.p.data)) rfl kb
      exact ⟨⟨rd_sub (fun r q hq => hs'.get_right hq) hR.o, rd_sub (fun r q hq => hs'.get_right hq) hR.d⟩, rd_sub (fun r q hq => hs'.get (hz r q hq)) (vec_reads' kz), rd_sub (fun r q hq => hs'.get (hz2 r q hq)) (vec_reads' kz2)⟩
    exact ⟨⟨(q + 1, n + 1, M'), gq, by show 0 ≤ n + 1; omega, by show n + 1 ≤ ((q + 1 : Nat) : Int); omega, a4⟩, by show all.length - (q + 1) < all.length - q; omega, Le.of rfl ⟨⟨_, rfl, rfl⟩, ⟨_, rfl, rfl⟩, ⟨_, rfl, rfl⟩, ⟨_, rfl, rfl⟩, ⟨_, rfl, rfl⟩, ⟨_, rfl, congrArg (fun z => some (Value.int .i64 z)) eq1⟩, trivial⟩ (fun h k => sat_pick 1 rfl (by first | exact fun _ k => k | exact fun _ k => blk_to rfl rfl k | exact fun _ k => vec_to rfl k | exact fun _ k => blk_of rfl rfl k | exact fun _ k => vec_of rfl k | exact fun _ k => blk_of rfl rfl (blk_to rfl rfl k) | exact fun _ k => vec_of rfl (vec_to rfl k) | exact fun _ k => mp_to rfl k | exact fun _ k => mp_of rfl k | exact fun _ k => mp_of rfl (mp_to rfl k)) (fun h k => sat_pick 3 rfl (by first | exact fun _ k => k | exact fun _ k => blk_to rfl rfl k | exact fun _ k => vec_to rfl k | exact fun _ k => blk_of rfl rfl k | exact fun _ k => vec_of rfl k | exact fun _ k => blk_of rfl rfl (blk_to rfl rfl k) | exact fun _ k => vec_of rfl (vec_to rfl k) | exact fun _ k => mp_to rfl k | exact fun _ k => mp_of rfl k | exact fun _ k => mp_of rfl (mp_to rfl k)) (fun h k => sat_pick 3 rfl (by first | exact fun _ k => k | exact fun _ k => blk_to rfl rfl k | exact fun _ k => vec_to rfl k | exact fun _ k => blk_of rfl rfl k | exact fun _ k => vec_of rfl k | exact fun _ k => blk_of rfl rfl (blk_to rfl rfl k) | exact fun _ k => vec_of rfl (vec_to rfl k) | exact fun _ k => mp_to rfl k | exact fun _ k => mp_of rfl k | exact fun _ k => mp_of rfl (mp_to rfl k)) (fun h k => sat_pick 3 rfl (by first | exact fun _ k => k | exact fun _ k => blk_to rfl rfl k | exact fun _ k => vec_to rfl k | exact fun _ k => blk_of rfl rfl k | exact fun _ k => vec_of rfl k | exact fun _ k => blk_of rfl rfl (blk_to rfl rfl k) | exact fun _ k => vec_of rfl (vec_to rfl k) | exact fun _ k => mp_to rfl k | exact fun _ k => mp_of rfl k | exact fun _ k => mp_of rfl (mp_to rfl k)) (fun h k => sat_pick 3 rfl (by first | exact fun _ k => k | exact fun _ k => blk_to rfl rfl k | exact fun _ k => vec_to rfl k | exact fun _ k => blk_of rfl rfl k | exact fun _ k => vec_of rfl k | exact fun _ k => blk_of rfl rfl (blk_to rfl rfl k) | exact fun _ k => vec_of rfl (vec_to rfl k) | exact fun _ k => mp_to rfl k | exact fun _ k => mp_of rfl k | exact fun _ k => mp_of rfl (mp_to rfl k)) (fun h k => sat_nil k) k) k) k) k) k)⟩
theorem twice_big (i : Ip) (hb : i.p.opts.length > 40 ∨ i.p.data.length > 2500) (mtu small : Int) (back : Bool) : Does Try.prog 5 #[.agg i.vals.toArray, .int .i64 mtu, .int .i64 small, .bool back] (fun _ => True) [] (fun v q => v = .bool true ∧ q = []) := by
  refine Does.ofJ Try.func5 Try.call5 rfl [.agg i.svs, .int .i64 mtu, .int .i64 small, .bool back] [] 0 [] rfl rfl (fun h k => k) (fun f hR => ?_)
  intro b4
  refine RegOb.join Unit (fun _ => ⟨140, [(1, .int .i64 mtu), (2, .int .i64 small), (3, .bool back), (4, .ptr 0 0), (8, .ff), (45, .bool (decide (i.p.opts.length > 40 ∨ i.p.data.length > 2500 ∨ i.p.h.off ≠ 0 ∨ i.p.h.more = true ∨ small > mtu)))], [(0, .at b4 0)], 1, [.blk 0 40 i.svs]⟩) ?_ (fun _ => ?_)
  · refine Br.mk (fun h1 => ?_) (fun h1 => ?_)
    · exact ⟨(), Le.of rfl ⟨⟨_, rfl, rfl⟩, ⟨_, rfl, rfl⟩, ⟨_, rfl, rfl⟩, ⟨_, rfl, rfl⟩, ⟨_, rfl, rfl⟩, ⟨_, rfl, (bool_eq (by have h1 := of_decide_eq_true h1; have h1 : (i.p.opts.length : Int) > 40 := h1; simp; omega))⟩, trivial⟩ (fun h k => k)⟩
    refine Br.mk (fun h2 => ?_) (fun h2 => ?_)
    · exact ⟨(), Le.of rfl ⟨⟨_, rfl, rfl⟩, ⟨_, rfl, rfl⟩, ⟨_, rfl, rfl⟩, ⟨_, rfl, rfl⟩, ⟨_, rfl, rfl⟩, ⟨_, rfl, (bool_eq (by have h2 := of_decide_eq_true h2; have h2 : (i.p.data.length : Int) > 2500 := h2; simp; omega))⟩, trivial⟩ (fun h k => k)⟩
    refine Br.mk (fun h3 => ?_) (fun h3 => ?_)
    · have h3 : i.p.h.off ≠ 0 := by simpa using h3
      exact ⟨(), Le.of rfl ⟨⟨_, rfl, rfl⟩, ⟨_, rfl, rfl⟩, ⟨_, rfl, rfl⟩, ⟨_, rfl, rfl⟩, ⟨_, rfl, rfl⟩, ⟨_, rfl, (bool_eq (by simp [h3]))⟩, trivial⟩ (fun h k => k)⟩
    refine Br.mk (fun h4 => ?_) (fun h4 => ?_)
    · exact ⟨(), Le.of rfl ⟨⟨_, rfl, rfl⟩, ⟨_, rfl, rfl⟩, ⟨_, rfl, rfl⟩, ⟨_, rfl, rfl⟩, ⟨_, rfl, rfl⟩, ⟨_, rfl, (bool_eq (by simp [h4]))⟩, trivial⟩ (fun h k => k)⟩
    have h1 := of_decide_eq_false h1
    have h1 : ¬ (i.p.opts.length : Int) > 40 := h1
    have h2 := of_decide_eq_false h2
    have h2 : ¬ (i.p.data.length : Int) > 2500 := h2
    have h3 : i.p.h.off = 0 := by simpa using h3
    have h1 : ¬ i.p.opts.length > 40 := by omega
    have h2 : ¬ i.p.data.length > 2500 := by omega
    exact ⟨(), Le.of rfl ⟨⟨_, rfl, rfl⟩, ⟨_, rfl, rfl⟩, ⟨_, rfl, rfl⟩, ⟨_, rfl, rfl⟩, ⟨_, rfl, rfl⟩, ⟨_, rfl, (bool_eq (by simp [h1, h2, h3, h4]))⟩, trivial⟩ (fun h k => k)⟩
  refine CondOb.split (fun g => ?_) (fun g => ?_)
  · refine useP .tt live_spec rfl rfl ?_
    exact FinOb.mk [.bool true] [] rfl (fun h k => trivial) ⟨rfl, rfl⟩
  · have g := of_decide_eq_false g
    exact absurd (hb.elim .inl (fun h => .inr (.inl h))) g
theorem twice_law (x : Array Value) (mtu small : Int) (back : Bool) : Does Try.prog 5 #[.agg x, .int .i64 mtu, .int .i64 small, .bool back] (fun f => RdS Try.prog f 6 40 x.toList) [] (fun v q => v = .bool true ∧ q = []) := by
  refine ⟨Try.call5, fun f w0 hR hat => ?_⟩
  obtain ⟨i, e, hs, ho, hd, hco, hcd⟩ := ip_reads (n := 3) hR
  obtain rfl : x = i.vals.toArray := by rw [← e]
  by_cases hb : i.p.opts.length > 40 ∨ i.p.data.length > 2500
  · exact (twice_big i hb mtu small back).run f w0 trivial hat
  · exact (twice_spec i ⟨ho, hd, by omega, by omega⟩ mtu small back).run f w0 hs hat
end Go.Proofs.Ytiknkeakielncaa.Rs
