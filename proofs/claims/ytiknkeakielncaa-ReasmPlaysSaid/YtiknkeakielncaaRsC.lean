/- reasm: melting (the walk). Conditions: none. -/
import Derived.Test.YtiknkeakielncaaRsB
namespace Go.Proofs.Ytiknkeakielncaa.Rs
open Go Go.Proofs Sx
set_option maxRecDepth 100000
set_option linter.unusedVariables false
set_option linter.unusedSimpArgs false
set_option maxHeartbeats 4000000

/-- A packet that waits, and all that is its own. -/
def PkA (w : Nat) (p : Pk) : Asn := fun h => sat [pt w (.cells p.vals.toArray 154 (0, 0)), Vec p.pl 148 2 p.cap (SrL.flat p.ll), Ds p.ll] h
theorem pka_close {w : Nat} {p : Pk} {h : HP} (k : sat [pt w (.cells p.vals.toArray 154 (0, 0)), Vec p.pl 148 2 p.cap (SrL.flat p.ll), Ds p.ll] h) : sat [PkA w p] h := ⟨h, HP.emp, .emp_right h, k, trivial⟩
theorem pka_open {w : Nat} {p : Pk} {h : HP} (k : sat [PkA w p] h) : sat [pt w (.cells p.vals.toArray 154 (0, 0)), Vec p.pl 148 2 p.cap (SrL.flat p.ll), Ds p.ll] h := by
  obtain ⟨x, y, t, hx, hy⟩ := k
  exact sat_perm (by simp) (sat_join t (show sat [_, _, _] x from hx) (Bs := []) hy)
def Pk.svs (p : Pk) (m : Nat) : List SV := [.sl m 0 p.ll.length p.cap, .int .i64 p.last, .raw (.pointer (p.fst.map fun b => ⟨b, 0, none⟩)), .int .i64 p.till, .int .i64 p.num]
theorem pka_names {w n m : Nat} {p : Pk} {nm : List (Nat × Plc)} {h : HP} (hn : getN nm n = some (.at w 0)) (hm : getN nm m = some p.pl) (hd : denL nm (p.svs m) = some p.vals) (k : sat [PkA w p] h) :
    sat ([Ent.blk n 154 (p.svs m), .vec m 148 2 p.cap (SrL.flat p.ll), .asn (Ds p.ll)].map (entDen nm)) h := by
  obtain ⟨a, c, t, ha, d, e, t2, hd2, r⟩ := pka_open k
  exact ⟨a, c, t, blk_of hn hd ha, d, e, t2, vec_of hm hd2, r⟩
theorem fold_bound {l : List Sr} {i : Nat} (hf : So (l.map Sr.t)) (hne : ∀ s ∈ l, s.bs ≠ []) (h1 : ∀ s ∈ l, 0 ≤ s.at_ ∧ s.stop ≤ 1000000) {y : Sr} (hy : y.t ∈ ((l.map Sr.t).take i).foldl mstep []) : 0 ≤ y.at_ ∧ y.stop ≤ 1000000 := by
  have hm : ∀ x ∈ (l.map Sr.t).take i, ∃ s ∈ l, s.t = x := fun x hx => List.mem_map.1 (List.mem_of_mem_take hx)
  obtain ⟨_, _, c, d⟩ := fold_does (l := (l.map Sr.t).take i) wf_nil (hf.sublist (List.take_sublist _ _)) (fun x hx => by obtain ⟨s, hs, rfl⟩ := hm x hx; exact hne s hs) (by simp)
  exact ⟨d 0 (by simp) (fun x hx => by obtain ⟨s, hs, rfl⟩ := hm x hx; exact (h1 s hs).1) _ hy, c 1000000 (by simp) (fun x hx => by obtain ⟨s, hs, rfl⟩ := hm x hx; exact (h1 s hs).2) _ hy⟩
theorem ds_out {o r : List Sr} {y : Sr} {Cs : List Asn} {h : HP} (k : sat (Ds (o ++ [y] ++ r) :: Cs) h) : sat (y.dat :: Ds (o ++ r) :: Cs) h := by
  unfold Ds at *
  rw [List.append_assoc, List.map_append, List.singleton_append, List.map_cons] at k
  rw [List.map_append]
  exact alls_out k
theorem ds_in {o r : List Sr} {y : Sr} (h : HP) (k : sat [y.dat, Ds (o ++ r)] h) : Ds (o ++ [y] ++ r) h := by
  unfold Ds at *
  rw [List.append_assoc, List.map_append, List.singleton_append, List.map_cons]
  rw [List.map_append] at k
  exact alls_in h k
theorem ds_less {l m : List Sr} (s : m.Sublist l) (h : HP) (k : Ds l h) : Ds m h := sat_subset (s.map _) k
theorem putV_sl (o : List Sr) (y : Sr) (v : Value) {at_ : Int} {bs : List UInt8} {b p c : Nat} (ha : at_ = y.at_) (hv : v = .slice (some ⟨b, p, none⟩) bs.length c) : putV (SrL.flat (o ++ [y])) (o.length * 2 + 1) [v] = SrL.flat (o ++ [⟨at_, bs, b, p, c⟩]) := by
  subst ha hv
  rw [SrL.flat_append, SrL.flat_append, SrL.flat_one, SrL.flat_one, ← lSr o, putV_pre]
  rfl
/-- One more stretch melts in: what lies there then. -/
theorem melt_walk (w : Nat) (p : Pk) (h2 : p.ll.length ≤ 100000) (h1 : ∀ s ∈ p.ll, 0 ≤ s.at_ ∧ s.stop ≤ 1000000) (hpl : p.ll ≠ [] → ∃ b o, p.pl = .at b o) (hne : ∀ s ∈ p.ll, s.bs ≠ []) (hfit : So p.ts) (hcap : ∀ s ∈ p.ll, s.bs.length ≤ s.cap) :
    Does Try.prog 108 #[pp w] (fun _ => True) [PkA w p] (fun v q => ∃ ll pl cap, v = .tuple #[] ∧ ll.length ≤ cap ∧ ll.map Sr.t = melt p.ts ∧ (ll ≠ [] → ∃ b o, pl = .at b o) ∧ (∀ s ∈ ll, s.bs.length ≤ s.cap) ∧ q = [PkA w { p with ll := ll, pl := pl, cap := cap }]) := by
  refine Does.ofJ Try.func108 Try.call108 rfl [.ptr 0 0] [(0, .at w 0), (1, p.pl)] 2 [.blk 0 154 [.sl 1 0 p.ll.length p.cap, .int .i64 p.last, .raw (.pointer (p.fst.map fun b => ⟨b, 0, none⟩)), .int .i64 p.till, .int .i64 p.num], .vec 1 148 2 p.cap (SrL.flat p.ll), .asn (Ds p.ll)] rfl rfl (fun h k => ?_) (fun f hR => ?_)
  · exact pka_names rfl rfl rfl k
  refine LoopOb.mk { z : Nat × Plc × Nat × List Sr // z.1 ≤ p.ll.length ∧ z.2.2.2.length ≤ z.2.2.1 ∧ z.2.2.2.length ≤ z.1 ∧ z.2.2.2.map Sr.t = (p.ts.take z.1).foldl mstep [] ∧ (z.2.2.2 ≠ [] → ∃ b o, z.2.1 = .at b o) ∧ ∀ s ∈ z.2.2.2, s.bs.length ≤ s.cap }
    (fun z => ⟨51, [(0, .ptr 0 0), (9, .sl 1 0 p.ll.length p.cap), (10, .int .i64 p.ll.length), (2, .sl 2 0 z.1.2.2.2.length z.1.2.2.1), (11, .int .i64 z.1.1)], [(0, .at w 0), (1, p.pl), (2, z.1.2.1)], 3,
      [.blk 0 154 [.sl 1 0 p.ll.length p.cap, .int .i64 p.last, .raw (.pointer (p.fst.map fun b => ⟨b, 0, none⟩)), .int .i64 p.till, .int .i64 p.num], .vec 1 148 2 p.cap (SrL.flat p.ll), .vec 2 148 2 z.1.2.2.1 (SrL.flat z.1.2.2.2), .asn (Ds (z.1.2.2.2 ++ p.ll.drop z.1.1))]⟩) (fun z => p.ll.length - z.1.1)
    ⟨(0, .nil, 0, []), by simp, by simp, by simp, by simp, by simp, by simp⟩ ?_ ?_
  · exact Le.of rfl ⟨⟨_, rfl, rfl⟩, ⟨_, rfl, rfl⟩, ⟨_, rfl, rfl⟩, ⟨_, rfl, rfl⟩, ⟨_, rfl, rfl⟩, trivial⟩ (fun h k => sat_pick 0 rfl (by first | exact fun _ k => k | exact fun _ k => blk_to rfl rfl k | exact fun _ k => vec_to rfl k | exact fun _ k => blk_of rfl rfl k | exact fun _ k => vec_of rfl k | exact fun _ k => blk_of rfl rfl (blk_to rfl rfl k) | exact fun _ k => vec_of rfl (vec_to rfl k) | exact fun _ k => mp_to rfl k | exact fun _ k => mp_of rfl k | exact fun _ k => mp_of rfl (mp_to rfl k)) (fun h k => sat_pick 0 rfl (by first | exact fun _ k => k | exact fun _ k => blk_to rfl rfl k | exact fun _ k => vec_to rfl k | exact fun _ k => blk_of rfl rfl k | exact fun _ k => vec_of rfl k | exact fun _ k => blk_of rfl rfl (blk_to rfl rfl k) | exact fun _ k => vec_of rfl (vec_to rfl k) | exact fun _ k => mp_to rfl k | exact fun _ k => mp_of rfl k | exact fun _ k => mp_of rfl (mp_to rfl k)) (fun h k => sat_add (vec_of rfl vec_emp) ((fun h k => sat_pick 0 rfl (by first | exact fun _ k => k | exact fun _ k => blk_to rfl rfl k | exact fun _ k => vec_to rfl k | exact fun _ k => blk_of rfl rfl k | exact fun _ k => vec_of rfl k | exact fun _ k => blk_of rfl rfl (blk_to rfl rfl k) | exact fun _ k => vec_of rfl (vec_to rfl k) | exact fun _ k => mp_to rfl k | exact fun _ k => mp_of rfl k | exact fun _ k => mp_of rfl (mp_to rfl k)) (fun h k => sat_nil k) k) h k)) k) k)
  rintro ⟨⟨i, pl, c, out⟩, hi, hc, hoi, hm, hop, hb⟩
  simp only at hi hc hoi hm hop hb
  refine CondOb.split (fun g => ?_) (fun g => ?_)
  rotate_left
  · have g := of_decide_eq_false g
    have e : i = p.ll.length := by
      have : ¬ (i : Int) < p.ll.length := g
      omega
    subst e
    refine FinOb.mk [] [PkA w { p with ll := out, pl := pl, cap := c }] rfl (fun h k => pka_close ((fun h k => sat_pick 0 rfl (fun _ k9 => blk_to rfl rfl k9) (fun h k => sat_pick 1 rfl (fun _ k9 => vec_to (l := pl) rfl k9) (fun h k => sat_pick 1 rfl (fun _ k9 => (by rw [List.drop_length, List.append_nil] at k9; exact k9)) (fun h k => sat_nil k) k) k) k) h k)) ⟨out, pl, c, rfl, hc, ?_, hop, hb, rfl⟩
    rw [hm, List.take_of_length_le (by simp [Pk.ts])]; rfl
  have gi : i < p.ll.length := by
    have g := of_decide_eq_true g
    have : (i : Int) < p.ll.length := g
    omega
  have hx := List.getElem?_eq_getElem gi
  generalize p.ll[i] = x at hx
  have hn2 : 0 ≤ (i : Int) ∧ (i : Int) < p.ll.length := by omega
  have ei : IntKind.i64.wrap ((i : Int) + 1) = ((i + 1 : Nat) : Int) := by rw [w64 (by omega) (by omega)]; omega
  obtain ⟨pb, po, hpl⟩ := hpl (by intro e; rw [e] at gi; simp at gi)
  obtain ⟨ll, ppl, pcap, plast, pfst, ptill, pnum⟩ := p
  simp only at *
  subst hpl
  refine Need.mk hn2 ?_
  refine RdObL.mk x.svs (by decide) (by rw [lSr]; omega) (by rw [Int.toNat_natCast, Nat.zero_add]; exact (congrArg some (SrL.flat_get hx)).symm) ?_
  intro b4
  have hcs : out = [] ∨ ∃ o y, out = o ++ [y] := by
    rcases List.eq_nil_or_concat out with h | ⟨o, y, h⟩
    · exact .inl h
    · exact .inr ⟨o, y, by rw [h, List.concat_eq_append]⟩
  rcases hcs with rfl | ⟨o, y, rfl⟩
  · refine RegOb.go ?_
    refine DrawOb.mk [(7, [8, 9])] (.run [0, 1, 2, 3, 4, 5, 6, 8, 9, 7, 10, 11] .nil) (by kernel_rfl) ?_
    refine Br.mk (fun h => absurd h (by decide)) (fun _ => ?_)
    intro b5
    refine StOb.mk (SrL.cells x) rfl (Need.mk rfl ?_)
    refine Need.mk ⟨by simp, by omega, by simp⟩ ?_
    refine Need.mk ⟨by simp, by simp [maxLen], SrL.one _⟩ ?_
    refine NewSl.pos (by simp) (fun b6 o6 c6 hc6 => ?_)
    have hd : List.drop i ll = x :: List.drop (i + 1) ll := by
      rw [List.drop_eq_getElem_cons gi]
      congr 1
      rw [List.getElem?_eq_getElem gi] at hx
      exact Option.some.inj hx
    have hts : (Pk.mk ll (.at pb po) pcap plast pfst ptill pnum).ts.take (i + 1) = (Pk.mk ll (.at pb po) pcap plast pfst ptill pnum).ts.take i ++ [x.t] := by
      rw [List.take_add_one]; simp [Pk.ts, hx]
    refine ⟨⟨(i + 1, .at b6 o6, c6, [x]), by show i + 1 ≤ ll.length; omega, by simpa using hc6, by simp, ?_, fun _ => ⟨_, _, rfl⟩, ?_⟩, by show ll.length - (i + 1) < ll.length - i; omega, Le.of rfl ⟨⟨_, rfl, rfl⟩, ⟨_, rfl, rfl⟩, ⟨_, rfl, rfl⟩, ⟨_, rfl, rfl⟩, ⟨_, rfl, congrArg (fun z => some (Value.int .i64 z)) ei⟩, trivial⟩ (fun h k => sat_pick 3 rfl (by first | exact fun _ k => k | exact fun _ k => blk_to rfl rfl k | exact fun _ k => vec_to rfl k | exact fun _ k => blk_of rfl rfl k | exact fun _ k => vec_of rfl k | exact fun _ k => blk_of rfl rfl (blk_to rfl rfl k) | exact fun _ k => vec_of rfl (vec_to rfl k) | exact fun _ k => mp_to rfl k | exact fun _ k => mp_of rfl k | exact fun _ k => mp_of rfl (mp_to rfl k)) (fun h k => sat_pick 3 rfl (by first | exact fun _ k => k | exact fun _ k => blk_to rfl rfl k | exact fun _ k => vec_to rfl k | exact fun _ k => blk_of rfl rfl k | exact fun _ k => vec_of rfl k | exact fun _ k => blk_of rfl rfl (blk_to rfl rfl k) | exact fun _ k => vec_of rfl (vec_to rfl k) | exact fun _ k => mp_to rfl k | exact fun _ k => mp_of rfl k | exact fun _ k => mp_of rfl (mp_to rfl k)) (fun h k => sat_pick 0 rfl (fun _ k9 => vec_of rfl (vec_to (l := .at b6 o6) rfl k9)) (fun h k => sat_pick 2 rfl (fun _ k9 => (by rw [hd] at k9; exact k9)) (fun h k => sat_nil k) k) k) k) k)⟩
    · rw [hts, List.foldl_append, ← hm]; rfl
    · intro s hs
      simp only [List.mem_singleton] at hs; subst hs
      exact hcap _ (List.mem_of_getElem? hx)
  · obtain ⟨qb, qo, rfl⟩ := hop (by simp)
    refine RegOb.go ?_
    refine DrawOb.mk [(7, [8, 9])] (.run [0, 1, 2, 3, 4, 5, 6, 8, 9, 7, 10, 11] .nil) (by kernel_rfl) ?_
    have ek : IntKind.i64.wrap (((o ++ [y]).length : Nat) - (1 : Int)) = (o.length : Int) := by
      have h3 : ((o ++ [y]).length : Int) = o.length + 1 := by simp
      rw [h3, w64 (by omega) (by omega)]; omega
    refine Br.mk (fun _ => ?_) (fun h => ?_)
    rotate_left
    · have h := of_decide_eq_false h
      exact absurd h (by simp only [Classical.not_not]; show 0 ≤ IntKind.i64.wrap _; rw [ek]; omega)
    have hy : (o ++ [y])[o.length]? = some y := by simp
    refine Need.mk (by rw [ek, List.length_append, List.length_singleton]; omega) ?_
    refine RdObL.mk y.svs (by decide) (by rw [lSr, ek, Int.toNat_natCast, List.length_append, List.length_singleton]; omega) (by rw [ek, Int.toNat_natCast, Nat.zero_add]; exact (congrArg some (SrL.flat_get hy)).symm) ?_
    have hyb : 0 ≤ y.at_ ∧ y.stop ≤ 1000000 := fold_bound (i := i) hfit hne h1 (by rw [show List.foldl mstep [] (List.take i (ll.map Sr.t)) = (o ++ [y]).map Sr.t from hm.symm]; simp)
    have hys : y.stop = y.at_ + y.bs.length := rfl
    refine useP (.int .i64 y.stop) (stop_spec y.at_ (some ⟨y.b, y.o, none⟩) y.bs.length y.cap (by omega) (by omega) (by omega)) rfl rfl ?_
    refine Need.mk rfl ?_
    refine CondOb.split (fun ge => ?_) (fun ge => ?_)
    · refine DrawOb.mk [(9, [0, 1])] (.run [0, 1, 2, 3, 4, 5, 6, 7, 8, 9, 10, 11, 12] .nil) (by kernel_rfl) ?_
      refine Need.mk (by rw [ek, List.length_append, List.length_singleton]; omega) ?_
      have hlo : (SrL.flat (o ++ [y])).length = (o ++ [y]).length * 2 := lSr _
      have hol : (o ++ [y]).length = o.length + 1 := by simp
      have hd : List.drop i ll = x :: List.drop (i + 1) ll := by
        rw [List.drop_eq_getElem_cons gi]
        congr 1
        rw [List.getElem?_eq_getElem gi] at hx
        exact Option.some.inj hx
      refine RdOb.mk (.raw (.slice (some ⟨y.b, y.o, none⟩) y.bs.length y.cap)) _ rfl (by rw [ek, Int.toNat_natCast, Nat.zero_add]; exact SrL.flat_at hy (j := 1) rfl) ?_
      refine RawSl.vec (.at y.b y.o) (.sl 4 0 y.bs.length y.cap) [.vec 4 5 1 y.cap (U.flat y.bs), .asn (Ds (o ++ List.drop i ll)), .blk 3 148 x.svs, .blk 0 154 [.sl 1 0 ll.length pcap, .int .i64 plast, .raw (.pointer (pfst.map fun b => ⟨b, 0, none⟩)), .int .i64 ptill, .int .i64 pnum], .vec 1 148 2 pcap (SrL.flat ll), .vec 2 148 2 c (SrL.flat (o ++ [y]))] rfl rfl (fun h k => sat_head (fun _ k => vec_of (l := .at y.b y.o) rfl k) (ds_out ((fun h k => sat_pick 4 rfl (by first | exact fun _ k => k | exact fun _ k => blk_to rfl rfl k | exact fun _ k => vec_to rfl k | exact fun _ k => blk_of rfl rfl k | exact fun _ k => vec_of rfl k | exact fun _ k => blk_of rfl rfl (blk_to rfl rfl k) | exact fun _ k => vec_of rfl (vec_to rfl k) | exact fun _ k => mp_to rfl k | exact fun _ k => mp_of rfl k | exact fun _ k => mp_of rfl (mp_to rfl k)) (fun h k => sat_pick 0 rfl (by first | exact fun _ k => k | exact fun _ k => blk_to rfl rfl k | exact fun _ k => vec_to rfl k | exact fun _ k => blk_of rfl rfl k | exact fun _ k => vec_of rfl k | exact fun _ k => blk_of rfl rfl (blk_to rfl rfl k) | exact fun _ k => vec_of rfl (vec_to rfl k) | exact fun _ k => mp_to rfl k | exact fun _ k => mp_of rfl k | exact fun _ k => mp_of rfl (mp_to rfl k)) (fun h k => sat_pick 0 rfl (by first | exact fun _ k => k | exact fun _ k => blk_to rfl rfl k | exact fun _ k => vec_to rfl k | exact fun _ k => blk_of rfl rfl k | exact fun _ k => vec_of rfl k | exact fun _ k => blk_of rfl rfl (blk_to rfl rfl k) | exact fun _ k => vec_of rfl (vec_to rfl k) | exact fun _ k => mp_to rfl k | exact fun _ k => mp_of rfl k | exact fun _ k => mp_of rfl (mp_to rfl k)) (fun h k => sat_pick 0 rfl (by first | exact fun _ k => k | exact fun _ k => blk_to rfl rfl k | exact fun _ k => vec_to rfl k | exact fun _ k => blk_of rfl rfl k | exact fun _ k => vec_of rfl k | exact fun _ k => blk_of rfl rfl (blk_to rfl rfl k) | exact fun _ k => vec_of rfl (vec_to rfl k) | exact fun _ k => mp_to rfl k | exact fun _ k => mp_of rfl k | exact fun _ k => mp_of rfl (mp_to rfl k)) (fun h k => sat_pick 0 rfl (by first | exact fun _ k => k | exact fun _ k => blk_to rfl rfl k | exact fun _ k => vec_to rfl k | exact fun _ k => blk_of rfl rfl k | exact fun _ k => vec_of rfl k | exact fun _ k => blk_of rfl rfl (blk_to rfl rfl k) | exact fun _ k => vec_of rfl (vec_to rfl k) | exact fun _ k => mp_to rfl k | exact fun _ k => mp_of rfl k | exact fun _ k => mp_of rfl (mp_to rfl k)) (fun h k => sat_nil k) k) k) k) k) k) h k))) ?_
      refine SrcF.told x.b x.o (U.flat x.bs) rfl (by rw [lU]; omega) (fun h k j v hv => sat_cell 1 rfl (fun z kz => ds_rd (by rw [hd]; simp) z kz j v hv) k) ?_
      have hbs : y.bs.length + x.bs.length ≤ 2000000 := by
        have h1x := h1 x (List.mem_of_getElem? hx)
        have hxs : x.stop = x.at_ + x.bs.length := rfl
        omega
      have hxp : 0 < x.bs.length := List.length_pos_iff.2 (hne x (List.mem_of_getElem? hx))
      have hyc : y.bs.length ≤ y.cap := hb y (by simp)
      refine Need.mk ⟨by rw [lU]; omega, by omega, hyc⟩ ?_
      refine Need.mk ⟨by omega, by simp only [maxLen]; omega, U.flat_one' _⟩ ?_
      refine NewSl.pos (by omega) (fun b6 o6 c6 hc6 => ?_)
      have hfl : List.take (y.bs.length * 1) (List.drop 0 (U.flat y.bs)) ++ U.flat x.bs = U.flat (y.bs ++ x.bs) := by
        rw [List.drop_zero, List.take_of_length_le (by rw [lU]; omega), U.flat_append]
      refine Need.mk (by rw [ek]; omega) ?_
      refine StOb.mk [.slice (some ⟨b6, o6, none⟩) (y.bs.length + x.bs.length) c6] rfl (Need.mk (by rw [ek, Int.toNat_natCast, Nat.zero_add, hlo, hol]; simp only [List.length_singleton]; omega) ?_)
      have hts : (Pk.mk ll (.at pb po) pcap plast pfst ptill pnum).ts.take (i + 1) = (Pk.mk ll (.at pb po) pcap plast pfst ptill pnum).ts.take i ++ [x.t] := by
        rw [List.take_add_one]; simp [Pk.ts, hx]
      have e3 : (o ++ [(⟨y.at_, y.bs ++ x.bs, b6, o6, c6⟩ : Sr)]).length = (o ++ [y]).length := by simp
      refine ⟨⟨(i + 1, .at qb qo, c, o ++ [⟨y.at_, y.bs ++ x.bs, b6, o6, c6⟩]), by show i + 1 ≤ ll.length; omega, by show (o ++ [_]).length ≤ c; rw [e3]; exact hc, by show (o ++ [_]).length ≤ i + 1; rw [e3]; omega, ?_, fun _ => ⟨_, _, rfl⟩, ?_⟩, by show ll.length - (i + 1) < ll.length - i; omega, Le.of rfl ⟨⟨_, rfl, rfl⟩, ⟨_, rfl, rfl⟩, ⟨_, rfl, rfl⟩, ⟨_, rfl, (congrArg (fun n => some (Value.slice (some ⟨qb, qo + 0, none⟩) n c)) e3.symm)⟩, ⟨_, rfl, congrArg (fun z => some (Value.int .i64 z)) ei⟩, trivial⟩ (fun h k => ?_)⟩
      · rw [hts, List.foldl_append, ← hm]
        have ge2 : y.stop = x.at_ := by simpa using ge
        show _ = mstep ((o ++ [y]).map Sr.t) x.t
        rw [List.map_append (l₁ := o), List.map_cons, List.map_nil, List.map_append (l₁ := o), List.map_cons, List.map_nil, mstep_some, if_pos (show T.stop y.t = x.t.1 from ge2)]
        rfl
      · intro s hs
        simp only [List.mem_append, List.mem_singleton] at hs
        rcases hs with hs | rfl
        · exact hb s (by simp [hs])
        · show (y.bs ++ x.bs).length ≤ c6
          rw [List.length_append]; exact hc6
      · have hpv : putV (SrL.flat (o ++ [y])) (0 + (IntKind.i64.wrap (((o ++ [y]).length : Nat) - (1 : Int))).toNat * 2 + 1) [.slice (some ⟨b6, o6, none⟩) (y.bs.length + x.bs.length) c6] = SrL.flat (o ++ [⟨y.at_, y.bs ++ x.bs, b6, o6, c6⟩]) := by
          rw [ek, Int.toNat_natCast, Nat.zero_add]
          exact putV_sl o y _ rfl (by rw [List.length_append])
        have hsub : (o ++ List.drop (i + 1) ll).Sublist (o ++ List.drop i ll) := by rw [hd]; exact List.Sublist.append_left (List.sublist_cons_self _ _) _
        exact (fun h k => sat_pick 4 rfl (by first | exact fun _ k => k | exact fun _ k => blk_to rfl rfl k | exact fun _ k => vec_to rfl k | exact fun _ k => blk_of rfl rfl k | exact fun _ k => vec_of rfl k | exact fun _ k => blk_of rfl rfl (blk_to rfl rfl k) | exact fun _ k => vec_of rfl (vec_to rfl k) | exact fun _ k => mp_to rfl k | exact fun _ k => mp_of rfl k | exact fun _ k => mp_of rfl (mp_to rfl k)) (fun h k => sat_pick 4 rfl (by first | exact fun _ k => k | exact fun _ k => blk_to rfl rfl k | exact fun _ k => vec_to rfl k | exact fun _ k => blk_of rfl rfl k | exact fun _ k => vec_of rfl k | exact fun _ k => blk_of rfl rfl (blk_to rfl rfl k) | exact fun _ k => vec_of rfl (vec_to rfl k) | exact fun _ k => mp_to rfl k | exact fun _ k => mp_of rfl k | exact fun _ k => mp_of rfl (mp_to rfl k)) (fun h k => sat_pick 0 rfl (fun _ k9 => by exact vec_of rfl (vec_cast hpv (vec_to (l := .at qb qo) rfl k9))) (fun h k => sat_pick2 0 0 rfl rfl (fun h9 k9 => ds_in (y := ⟨y.at_, y.bs ++ x.bs, b6, o6, c6⟩) h9 (let ⟨a9, b9, t9, ka9, b1, b2, t2, kb9, kc9⟩ := k9; ⟨a9, b9, t9, vec_cast hfl (vec_to (l := .at b6 o6) rfl ka9), b1, b2, t2, ds_less hsub _ kb9, kc9⟩)) (fun h k => sat_nil k) k) k) k) k) h k
    · intro b5
      have hlo : (SrL.flat (o ++ [y])).length = (o ++ [y]).length * 2 := lSr _
      refine StOb.mk (SrL.cells x) rfl (Need.mk rfl ?_)
      refine Need.mk ⟨by omega, by omega, hc⟩ ?_
      refine Need.mk ⟨by omega, by simp only [maxLen]; omega, SrL.one _⟩ ?_
      refine NewSl.pos (by omega) (fun b6 o6 c6 hc6 => ?_)
      have hd : List.drop i ll = x :: List.drop (i + 1) ll := by
        rw [List.drop_eq_getElem_cons gi]
        congr 1
        rw [List.getElem?_eq_getElem gi] at hx
        exact Option.some.inj hx
      have hts : (Pk.mk ll (.at pb po) pcap plast pfst ptill pnum).ts.take (i + 1) = (Pk.mk ll (.at pb po) pcap plast pfst ptill pnum).ts.take i ++ [x.t] := by
        rw [List.take_add_one]; simp [Pk.ts, hx]
      have hfl : List.take ((o ++ [y]).length * 2) (List.drop 0 (SrL.flat (o ++ [y]))) ++ SrL.cells x = SrL.flat (o ++ [y] ++ [x]) := by
        rw [List.drop_zero, List.take_of_length_le (by omega), SrL.flat_append (o ++ [y]), SrL.flat_one]
      have e3 : (o ++ [y] ++ [x]).length = (o ++ [y]).length + 1 := List.length_append
      refine ⟨⟨(i + 1, .at b6 o6, c6, o ++ [y] ++ [x]), by show i + 1 ≤ ll.length; omega, by show (o ++ [y] ++ [x]).length ≤ c6; rw [e3]; exact hc6, by show (o ++ [y] ++ [x]).length ≤ i + 1; rw [e3]; omega, ?_, fun _ => ⟨_, _, rfl⟩, ?_⟩, by show ll.length - (i + 1) < ll.length - i; omega, Le.of rfl ⟨⟨_, rfl, rfl⟩, ⟨_, rfl, rfl⟩, ⟨_, rfl, rfl⟩, ⟨_, rfl, (congrArg (fun n => some (Value.slice (some ⟨b6, o6 + 0, none⟩) n c6)) e3.symm)⟩, ⟨_, rfl, congrArg (fun z => some (Value.int .i64 z)) ei⟩, trivial⟩ (fun h k => sat_pick 3 rfl (by first | exact fun _ k => k | exact fun _ k => blk_to rfl rfl k | exact fun _ k => vec_to rfl k | exact fun _ k => blk_of rfl rfl k | exact fun _ k => vec_of rfl k | exact fun _ k => blk_of rfl rfl (blk_to rfl rfl k) | exact fun _ k => vec_of rfl (vec_to rfl k) | exact fun _ k => mp_to rfl k | exact fun _ k => mp_of rfl k | exact fun _ k => mp_of rfl (mp_to rfl k)) (fun h k => sat_pick 3 rfl (by first | exact fun _ k => k | exact fun _ k => blk_to rfl rfl k | exact fun _ k => vec_to rfl k | exact fun _ k => blk_of rfl rfl k | exact fun _ k => vec_of rfl k | exact fun _ k => blk_of rfl rfl (blk_to rfl rfl k) | exact fun _ k => vec_of rfl (vec_to rfl k) | exact fun _ k => mp_to rfl k | exact fun _ k => mp_of rfl k | exact fun _ k => mp_of rfl (mp_to rfl k)) (fun h k => sat_pick 0 rfl (fun _ k9 => by have kk := vec_to (l := .at b6 o6) rfl k9; rw [hfl] at kk; exact vec_of rfl kk) (fun h k => sat_pick 2 rfl (fun h9 k9 => (by have kk : Ds (o ++ [y] ++ List.drop i ll) h9 := k9; rw [hd] at kk; show Ds (o ++ [y] ++ [x] ++ List.drop (i + 1) ll) h9; rw [List.append_assoc _ [x]]; exact kk)) (fun h k => sat_nil k) k) k) k) k)⟩
      · rw [hts, List.foldl_append, ← hm]
        have ge2 : ¬ y.stop = x.at_ := by simpa using ge
        show _ = mstep ((o ++ [y]).map Sr.t) x.t
        rw [List.map_append (l₁ := o), List.map_cons, List.map_nil, mstep_some, if_neg (show ¬ T.stop y.t = x.t.1 from ge2)]
        simp
      · intro s hs
        simp only [List.mem_append, List.mem_singleton] at hs
        rcases hs with hs | rfl
        · exact hb s (by simpa using hs)
        · exact hcap _ (List.mem_of_getElem? hx)
end Go.Proofs.Ytiknkeakielncaa.Rs
