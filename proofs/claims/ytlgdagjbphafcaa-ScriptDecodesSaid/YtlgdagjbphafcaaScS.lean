/- script: the same steps. Conditions: none. -/
import Derived.Test.YtlgdagjbphafcaaScR
namespace Go.Proofs.Ytlgdagjbphafcaa.Sc
open Go Go.Proofs Sx
set_option maxRecDepth 100000
set_option linter.unusedVariables false
set_option linter.unusedSimpArgs false
set_option maxHeartbeats 4000000

theorem Dn.uniq {L : List Int} {m n : Nat} (h : Dn L m) (k : Dn L n) : m = n := by
  rcases Nat.lt_trichotomy m n with g | g | g
  · have := k.all m g
    have := k.most
    rcases h.done with d | d <;> omega
  · exact g
  · have := h.all n g
    have := h.most
    rcases k.done with d | d <;> omega
theorem cell_vec {l : Plc} {t : TypeId} {sz cap : Nat} {xs : List Value} {h : HP} (k : Vec l t sz cap xs h) {i : Nat} {v : Value} (hi : xs[i]? = some v) : ∃ b o, l = .at b o ∧ ∃ ob, h b = some ob ∧ ∀ h', h' b = some ob → fcell h' b (o + i) = some v := by
  obtain ⟨_, hv⟩ := k
  rcases hv with ⟨_, hx, _⟩ | ⟨b, o, pre, post, rfl, hp, ho, _⟩
  · subst hx; simp at hi
  · refine ⟨b, o, rfl, .cells (pre ++ xs ++ post).toArray t (0, 0), by rw [hp]; simp [one], fun h' h1 => ?_⟩
    have hl := (List.getElem?_eq_some_iff.1 hi).1
    unfold fcell
    rw [h1]
    simp only [List.getElem?_toArray, List.append_assoc]
    rw [List.getElem?_append_right (by omega), ho, show o + i - o = i by omega, List.getElem?_append_left hl]
    exact hi
theorem in_alls {As : List Asn} {h : HP} (k : Alls As h) {A : Asn} (hA : A ∈ As) : ∃ x y, Split h x y ∧ A x := by
  obtain ⟨m, hm, e⟩ := List.getElem_of_mem hA
  obtain ⟨x, y, t, hx, _⟩ := sat_nth m (by rw [List.getElem?_eq_getElem hm, e]) (show sat As h from k)
  exact ⟨x, y, t, hx⟩
theorem in_sat {Bs : List Asn} {h : HP} (k : sat Bs h) (n : Nat) {A : Asn} (hn : Bs[n]? = some A) : ∃ x y, Split h x y ∧ A x := by
  obtain ⟨x, y, t, hx, _⟩ := sat_nth n hn k
  exact ⟨x, y, t, hx⟩
/-- A step's entries, read where they lie. -/
theorem step_cell {ss : List Sn} {s : Sn} {Bs : List Asn} {h : HP} (n : Nat) (k : sat Bs h) (hn : Bs[n]? = some (Alls (ss.flatMap Sn.parts))) (hs : s ∈ ss) {i : Nat} {v : Value} (hi : (EL.flat s.2.1)[i]? = some v) :
    ∃ b o, s.2.2.1 = .at b o ∧ fcell h b (o + i) = some v := by
  obtain ⟨x, y, t, hx⟩ := in_sat k n hn
  obtain ⟨x2, y2, t2, hx2⟩ := in_alls hx (A := Vec s.2.2.1 102 11 s.2.2.2 (EL.flat s.2.1)) (List.mem_flatMap.2 ⟨s, hs, by simp [Sn.parts]⟩)
  obtain ⟨b, o, e, ob, h1, h2⟩ := cell_vec hx2 hi
  exact ⟨b, o, e, h2 h (t.get (t2.get h1))⟩
theorem data_reads {ss : List Sn} {s : Sn} {e : En} {Bs : List Asn} {f' f b : HP} (n : Nat) (hs : Split f' b f) (k : sat Bs b) (hn : Bs[n]? = some (Alls (ss.flatMap Sn.parts))) (hm : s ∈ ss) (he : e ∈ s.2.1) : Reads f' (locAddr 0 e.2.1) (U8.flat e.1.data) := fun i v hv => by
  obtain ⟨x, y, t, hx⟩ := in_sat k n hn
  obtain ⟨x2, y2, t2, hx2⟩ := in_alls hx (A := Alls (s.2.1.map En.data)) (List.mem_flatMap.2 ⟨s, hm, by simp [Sn.parts]⟩)
  obtain ⟨x3, y3, t3, hx3⟩ := in_alls hx2 (A := En.data e) (List.mem_map.2 ⟨e, he, rfl⟩)
  obtain ⟨c, o, e1, ob, h1, h2⟩ := cell_vec hx3 hv
  refine ⟨c, o, by rw [e1]; rfl, h2 f' (hs.get (t.get (t2.get (t3.get h1))))⟩
theorem ents_small {L : List Int} (hb : ∀ x ∈ L, 0 ≤ x ∧ x ≤ 255) (p : Nat) : (stp L p).l.length ≤ 4 := by
  unfold stp
  simp only
  have hu := byte hb (p + 2)
  (repeat' split) <;> simp [ents, -List.getD_eq_getElem?_getD] <;> omega
theorem many_ok {L : List Int} (p : Nat) : ∀ q ∈ (stp L p).l, ∀ x ∈ q.data, 0 ≤ x ∧ x ≤ 255 := by
  have : ∀ p', ∀ x ∈ (ent L p').data, 0 ≤ x ∧ x ≤ 255 := fun p' => by
    unfold ent
    simp only
    (repeat' split) <;> intro x hx <;> first | (simp at hx; done) | exact many_bytes _ _ x hx
  unfold stp
  simp only
  (repeat' split) <;> intro q hq <;> first | (simp at hq; done) | (simp only [ents, List.mem_map] at hq; obtain ⟨j, _, rfl⟩ := hq; exact this _)
theorem same_spec (L : List Int) (hb : ∀ x ∈ L, 0 ≤ x ∧ x ≤ 255) (ss1 ss2 : List Sn) (pl1 pl2 : Plc) (cl1 cl2 n : Nat) (h1 : Sns L ss1) (h2 : Sns L ss2) (hn1 : ss1.length = n) (hn2 : ss2.length = n) (hn : n ≤ 300) (hp1 : ss1 ≠ [] → ∃ b o, pl1 = .at b o) (hp2 : ss2 ≠ [] → ∃ b o, pl2 = .at b o)
    (he1 : ∀ s ∈ ss1, s.2.1 ≠ [] → ∃ b o, s.2.2.1 = .at b o) (he2 : ∀ s ∈ ss2, s.2.1 ≠ [] → ∃ b o, s.2.2.1 = .at b o) :
    Does Try.prog 65 #[.slice (locAddr 0 pl1) n cl1, .slice (locAddr 0 pl2) n cl2] (fun _ => True) [Vec pl1 111 7 cl1 (SL.flat ss1), Alls (ss1.flatMap Sn.parts), Vec pl2 111 7 cl2 (SL.flat ss2), Alls (ss2.flatMap Sn.parts)] (fun v q => v = .bool true ∧ q = []) := by
  refine Does.of Try.func65 Try.call65 rfl [.sl 0 0 n cl1, .sl 1 0 n cl2] [(1, pl2), (0, pl1)] 2 [.vec 0 111 7 cl1 (SL.flat ss1), .asn (Alls (ss1.flatMap Sn.parts)), .vec 1 111 7 cl2 (SL.flat ss2), .asn (Alls (ss2.flatMap Sn.parts))] rfl rfl (fun h k => sat_pick 0 rfl (by first | exact fun _ k => k | exact fun _ k => blk_to rfl rfl k | exact fun _ k => vec_to rfl k | exact fun _ k => blk_of rfl rfl k | exact fun _ k => vec_of rfl k | exact fun _ k => blk_of rfl rfl (blk_to rfl rfl k) | exact fun _ k => vec_of rfl (vec_to rfl k) | exact fun _ k => mp_to rfl k | exact fun _ k => mp_of rfl k | exact fun _ k => mp_of rfl (mp_to rfl k)) (fun h k => sat_pick 0 rfl (by first | exact fun _ k => k | exact fun _ k => blk_to rfl rfl k | exact fun _ k => vec_to rfl k | exact fun _ k => blk_of rfl rfl k | exact fun _ k => vec_of rfl k | exact fun _ k => blk_of rfl rfl (blk_to rfl rfl k) | exact fun _ k => vec_of rfl (vec_to rfl k) | exact fun _ k => mp_to rfl k | exact fun _ k => mp_of rfl k | exact fun _ k => mp_of rfl (mp_to rfl k)) (fun h k => sat_pick 0 rfl (by first | exact fun _ k => k | exact fun _ k => blk_to rfl rfl k | exact fun _ k => vec_to rfl k | exact fun _ k => blk_of rfl rfl k | exact fun _ k => vec_of rfl k | exact fun _ k => blk_of rfl rfl (blk_to rfl rfl k) | exact fun _ k => vec_of rfl (vec_to rfl k) | exact fun _ k => mp_to rfl k | exact fun _ k => mp_of rfl k | exact fun _ k => mp_of rfl (mp_to rfl k)) (fun h k => sat_pick 0 rfl (by first | exact fun _ k => k | exact fun _ k => blk_to rfl rfl k | exact fun _ k => vec_to rfl k | exact fun _ k => blk_of rfl rfl k | exact fun _ k => vec_of rfl k | exact fun _ k => blk_of rfl rfl (blk_to rfl rfl k) | exact fun _ k => vec_of rfl (vec_to rfl k) | exact fun _ k => mp_to rfl k | exact fun _ k => mp_of rfl k | exact fun _ k => mp_of rfl (mp_to rfl k)) (fun h k => sat_nil k) k) k) k) k) (fun f hR => ?_)
  refine CondOb.split (fun h => absurd h (by simp)) (fun _ => ?_)
  refine LoopOb.mk { i : Nat // i ≤ n } (fun z => ⟨96, [(0, .sl 0 0 n cl1), (1, .sl 1 0 n cl2), (5, .int .i64 z.1)], [(1, pl2), (0, pl1)], 2, [.vec 0 111 7 cl1 (SL.flat ss1), .asn (Alls (ss1.flatMap Sn.parts)), .vec 1 111 7 cl2 (SL.flat ss2), .asn (Alls (ss2.flatMap Sn.parts))]⟩) (fun z => n - z.1) ⟨0, by omega⟩ ?_ ?_
  · exact Le.of rfl ⟨⟨_, rfl, rfl⟩, ⟨_, rfl, rfl⟩, ⟨_, rfl, rfl⟩, trivial⟩ (fun h k => sat_pick 0 rfl (by first | exact fun _ k => k | exact fun _ k => blk_to rfl rfl k | exact fun _ k => vec_to rfl k | exact fun _ k => blk_of rfl rfl k | exact fun _ k => vec_of rfl k | exact fun _ k => blk_of rfl rfl (blk_to rfl rfl k) | exact fun _ k => vec_of rfl (vec_to rfl k) | exact fun _ k => mp_to rfl k | exact fun _ k => mp_of rfl k | exact fun _ k => mp_of rfl (mp_to rfl k)) (fun h k => sat_pick 0 rfl (by first | exact fun _ k => k | exact fun _ k => blk_to rfl rfl k | exact fun _ k => vec_to rfl k | exact fun _ k => blk_of rfl rfl k | exact fun _ k => vec_of rfl k | exact fun _ k => blk_of rfl rfl (blk_to rfl rfl k) | exact fun _ k => vec_of rfl (vec_to rfl k) | exact fun _ k => mp_to rfl k | exact fun _ k => mp_of rfl k | exact fun _ k => mp_of rfl (mp_to rfl k)) (fun h k => sat_pick 0 rfl (by first | exact fun _ k => k | exact fun _ k => blk_to rfl rfl k | exact fun _ k => vec_to rfl k | exact fun _ k => blk_of rfl rfl k | exact fun _ k => vec_of rfl k | exact fun _ k => blk_of rfl rfl (blk_to rfl rfl k) | exact fun _ k => vec_of rfl (vec_to rfl k) | exact fun _ k => mp_to rfl k | exact fun _ k => mp_of rfl k | exact fun _ k => mp_of rfl (mp_to rfl k)) (fun h k => sat_pick 0 rfl (by first | exact fun _ k => k | exact fun _ k => blk_to rfl rfl k | exact fun _ k => vec_to rfl k | exact fun _ k => blk_of rfl rfl k | exact fun _ k => vec_of rfl k | exact fun _ k => blk_of rfl rfl (blk_to rfl rfl k) | exact fun _ k => vec_of rfl (vec_to rfl k) | exact fun _ k => mp_to rfl k | exact fun _ k => mp_of rfl k | exact fun _ k => mp_of rfl (mp_to rfl k)) (fun h k => sat_nil k) k) k) k) k)
  rintro ⟨i, hi⟩
  refine CondOb.split (fun g => ?_) (fun g => ?_)
  rotate_left
  · exact FinOb.mk _ [] rfl (fun h k => trivial) ⟨rfl, rfl⟩
  simp only [decide_eq_true_eq] at g
  replace g : (i : Int) < n := g
  have ei : IntKind.i64.wrap ((i : Int) + 1) = ((i + 1 : Nat) : Int) := by rw [w64 (by omega) (by omega)]; omega
  obtain ⟨b1, o1, rfl⟩ := hp1 (fun h => by subst h; simp at hn1; omega)
  obtain ⟨b2, o2, rfl⟩ := hp2 (fun h => by subst h; simp at hn2; omega)
  have hs1 := List.getElem?_eq_getElem (show i < ss1.length by omega)
  have hs2 := List.getElem?_eq_getElem (show i < ss2.length by omega)
  have hm1 := List.getElem_mem (show i < ss1.length by omega)
  have hm2 := List.getElem_mem (show i < ss2.length by omega)
  have hst1 : ss1[i].1 = stp L (dpos L i) := by
    have h9 : (ss1.map (·.1))[i]? = some ss1[i].1 := by rw [List.getElem?_map, hs1]; rfl
    rw [h1.steps, List.getElem?_map, List.getElem?_range (by omega)] at h9
    exact (Option.some.inj h9).symm
  have hst2 : ss2[i].1 = stp L (dpos L i) := by
    have h9 : (ss2.map (·.1))[i]? = some ss2[i].1 := by rw [List.getElem?_map, hs2]; rfl
    rw [h2.steps, List.getElem?_map, List.getElem?_range (by omega)] at h9
    exact (Option.some.inj h9).symm
  obtain ⟨hl1, hc1⟩ := h1.lists _ hm1
  obtain ⟨hl2, hc2⟩ := h2.lists _ hm2
  have he1' := he1 _ hm1
  have he2' := he2 _ hm2
  generalize hsg1 : ss1[i]'(by omega) = s1 at *
  generalize hsg2 : ss2[i]'(by omega) = s2 at *
  obtain ⟨x, es1, pe1, ce1⟩ := s1
  obtain ⟨x2, es2, pe2, ce2⟩ := s2
  simp only at hst1 hst2 hl1 hl2 hc1 hc2 he1' he2'
  have hxx : x2 = x := by rw [hst1, hst2]
  subst hxx
  have hs4 := ents_small hb (dpos L i)
  have hda := many_ok (L := L) (dpos L i)
  rw [← hst2] at hs4 hda
  generalize hm : x2.l.length = m at hs4
  have hlen1 : es1.length = m := by rw [← hm, ← hl1]; simp
  have hlen2 : es2.length = m := by rw [← hm, ← hl2]; simp
  have hf1 := SL.flat_get hs1
  have hf2 := SL.flat_get hs2
  have hz1 : i * 7 + 7 ≤ (SL.flat ss1).length := by rw [lS]; omega
  have hz2 : i * 7 + 7 ≤ (SL.flat ss2).length := by rw [lS]; omega
  have hd1 : ((SL.flat ss1).drop (0 + i * 7)).take 7 = x2.vals (locAddr 0 pe1) ce1 := by rw [Nat.zero_add]; exact hf1
  have hd2 : ((SL.flat ss2).drop (0 + i * 7)).take 7 = x2.vals (locAddr 0 pe2) ce2 := by rw [Nat.zero_add]; exact hf2
  refine DrawOb.mk [(8, [0, 1, 2, 3, 4, 5, 6, 7]), (9, [0, 1, 2, 3, 4, 5, 6, 7]), (10, [4, 5, 6, 7])] (.run [0, 1, 2, 3, 4, 5, 6, 7] (.two 8 (.run [9, 10, 11] .nil) 9 (.run [8, 10, 11] .nil))) (by kernel_rfl) ?_
  refine Need.mk ⟨Int.natCast_nonneg i, g⟩ ?_
  refine RdObL.mk (x2.svs (locAddr 0 pe1) ce1) (by decide) (by simpa using hz1) ((show _ = _ from rfl).trans (congrArg some hd1.symm)) ?_
  refine Need.mk ⟨Int.natCast_nonneg i, g⟩ ?_
  refine RdObL.mk (x2.svs (locAddr 0 pe2) ce2) (by decide) (by simpa using hz2) ((show _ = _ from rfl).trans (congrArg some hd2.symm)) ?_
  refine ⟨?_, ?_⟩
  · intro b8
    refine RdObL.mk (x2.svs (locAddr 0 pe2) ce2) (by decide) (by simpa using hz2) ((show _ = _ from rfl).trans (congrArg some hd2.symm)) (Need.mk rfl ?_)
    refine RdObL.mk (x2.svs (locAddr 0 pe1) ce1) (by decide) (by simpa using hz1) ((show _ = _ from rfl).trans (congrArg some hd1.symm)) (Need.mk rfl ?_)
    intro b9
    refine RdObL.mk (x2.svs (locAddr 0 pe2) ce2) (by decide) (by simpa using hz2) ((show _ = _ from rfl).trans (congrArg some hd2.symm)) (Need.mk rfl ?_)
    refine RdObL.mk (x2.svs (locAddr 0 pe1) ce1) (by decide) (by simpa using hz1) ((show _ = _ from rfl).trans (congrArg some hd1.symm)) (Need.mk rfl ?_)
    refine RdObL.mk (x2.svs (locAddr 0 pe2) ce2) (by decide) (by simpa using hz2) ((show _ = _ from rfl).trans (congrArg some hd2.symm)) (Need.mk rfl ?_)
    iterate 6 refine Br.mk (fun h => absurd h (by simp)) (fun _ => ?_)
    refine CondOb.split (fun h => absurd h (by simp)) (fun _ => ?_)
    refine LoopOb.mk { k : Nat // k ≤ m } (fun z => ⟨96, [(0, .sl 0 0 n cl1), (1, .sl 1 0 n cl2), (5, .int .i64 i), (6, .ptr 2 0), (7, .ptr 3 0), (8, .int .i64 z.1)], [(3, .at b9 0), (2, .at b8 0), (1, .at b2 o2), (0, .at b1 o1)], 4,
      [.blk 2 111 (x2.svs (locAddr 0 pe1) ce1), .blk 3 111 (x2.svs (locAddr 0 pe2) ce2), .vec 0 111 7 cl1 (SL.flat ss1), .asn (Alls (ss1.flatMap Sn.parts)), .vec 1 111 7 cl2 (SL.flat ss2), .asn (Alls (ss2.flatMap Sn.parts))]⟩) (fun z => m - z.1) ⟨0, by omega⟩ ?_ ?_
    · exact Le.of rfl ⟨⟨_, rfl, rfl⟩, ⟨_, rfl, rfl⟩, ⟨_, rfl, rfl⟩, ⟨_, rfl, rfl⟩, ⟨_, rfl, rfl⟩, ⟨_, rfl, rfl⟩, trivial⟩ (fun h k => sat_pick 1 rfl (by first | exact fun _ k => k | exact fun _ k => blk_to rfl rfl k | exact fun _ k => vec_to rfl k | exact fun _ k => blk_of rfl rfl k | exact fun _ k => vec_of rfl k | exact fun _ k => blk_of rfl rfl (blk_to rfl rfl k) | exact fun _ k => vec_of rfl (vec_to rfl k) | exact fun _ k => mp_to rfl k | exact fun _ k => mp_of rfl k | exact fun _ k => mp_of rfl (mp_to rfl k)) (fun h k => sat_pick 0 rfl (by first | exact fun _ k => k | exact fun _ k => blk_to rfl rfl k | exact fun _ k => vec_to rfl k | exact fun _ k => blk_of rfl rfl k | exact fun _ k => vec_of rfl k | exact fun _ k => blk_of rfl rfl (blk_to rfl rfl k) | exact fun _ k => vec_of rfl (vec_to rfl k) | exact fun _ k => mp_to rfl k | exact fun _ k => mp_of rfl k | exact fun _ k => mp_of rfl (mp_to rfl k)) (fun h k => sat_pick 0 rfl (by first | exact fun _ k => k | exact fun _ k => blk_to rfl rfl k | exact fun _ k => vec_to rfl k | exact fun _ k => blk_of rfl rfl k | exact fun _ k => vec_of rfl k | exact fun _ k => blk_of rfl rfl (blk_to rfl rfl k) | exact fun _ k => vec_of rfl (vec_to rfl k) | exact fun _ k => mp_to rfl k | exact fun _ k => mp_of rfl k | exact fun _ k => mp_of rfl (mp_to rfl k)) (fun h k => sat_pick 0 rfl (by first | exact fun _ k => k | exact fun _ k => blk_to rfl rfl k | exact fun _ k => vec_to rfl k | exact fun _ k => blk_of rfl rfl k | exact fun _ k => vec_of rfl k | exact fun _ k => blk_of rfl rfl (blk_to rfl rfl k) | exact fun _ k => vec_of rfl (vec_to rfl k) | exact fun _ k => mp_to rfl k | exact fun _ k => mp_of rfl k | exact fun _ k => mp_of rfl (mp_to rfl k)) (fun h k => sat_pick 0 rfl (by first | exact fun _ k => k | exact fun _ k => blk_to rfl rfl k | exact fun _ k => vec_to rfl k | exact fun _ k => blk_of rfl rfl k | exact fun _ k => vec_of rfl k | exact fun _ k => blk_of rfl rfl (blk_to rfl rfl k) | exact fun _ k => vec_of rfl (vec_to rfl k) | exact fun _ k => mp_to rfl k | exact fun _ k => mp_of rfl k | exact fun _ k => mp_of rfl (mp_to rfl k)) (fun h k => sat_pick 0 rfl (by first | exact fun _ k => k | exact fun _ k => blk_to rfl rfl k | exact fun _ k => vec_to rfl k | exact fun _ k => blk_of rfl rfl k | exact fun _ k => vec_of rfl k | exact fun _ k => blk_of rfl rfl (blk_to rfl rfl k) | exact fun _ k => vec_of rfl (vec_to rfl k) | exact fun _ k => mp_to rfl k | exact fun _ k => mp_of rfl k | exact fun _ k => mp_of rfl (mp_to rfl k)) (fun h k => sat_nil k) k) k) k) k) k) k)
    rintro ⟨k, hk⟩
    refine CondOb.split (fun gk => ?_) (fun gk => ?_)
    rotate_left
    · exact ⟨⟨i + 1, by omega⟩, by show n - (i + 1) < n - i; omega, Le.of rfl ⟨⟨_, rfl, rfl⟩, ⟨_, rfl, rfl⟩, ⟨_, rfl, congrArg (fun z => some (Value.int .i64 z)) ei⟩, trivial⟩ (fun h k => sat_pick 2 rfl (by first | exact fun _ k => k | exact fun _ k => blk_to rfl rfl k | exact fun _ k => vec_to rfl k | exact fun _ k => blk_of rfl rfl k | exact fun _ k => vec_of rfl k | exact fun _ k => blk_of rfl rfl (blk_to rfl rfl k) | exact fun _ k => vec_of rfl (vec_to rfl k) | exact fun _ k => mp_to rfl k | exact fun _ k => mp_of rfl k | exact fun _ k => mp_of rfl (mp_to rfl k)) (fun h k => sat_pick 2 rfl (by first | exact fun _ k => k | exact fun _ k => blk_to rfl rfl k | exact fun _ k => vec_to rfl k | exact fun _ k => blk_of rfl rfl k | exact fun _ k => vec_of rfl k | exact fun _ k => blk_of rfl rfl (blk_to rfl rfl k) | exact fun _ k => vec_of rfl (vec_to rfl k) | exact fun _ k => mp_to rfl k | exact fun _ k => mp_of rfl k | exact fun _ k => mp_of rfl (mp_to rfl k)) (fun h k => sat_pick 2 rfl (by first | exact fun _ k => k | exact fun _ k => blk_to rfl rfl k | exact fun _ k => vec_to rfl k | exact fun _ k => blk_of rfl rfl k | exact fun _ k => vec_of rfl k | exact fun _ k => blk_of rfl rfl (blk_to rfl rfl k) | exact fun _ k => vec_of rfl (vec_to rfl k) | exact fun _ k => mp_to rfl k | exact fun _ k => mp_of rfl k | exact fun _ k => mp_of rfl (mp_to rfl k)) (fun h k => sat_pick 2 rfl (by first | exact fun _ k => k | exact fun _ k => blk_to rfl rfl k | exact fun _ k => vec_to rfl k | exact fun _ k => blk_of rfl rfl k | exact fun _ k => vec_of rfl k | exact fun _ k => blk_of rfl rfl (blk_to rfl rfl k) | exact fun _ k => vec_of rfl (vec_to rfl k) | exact fun _ k => mp_to rfl k | exact fun _ k => mp_of rfl k | exact fun _ k => mp_of rfl (mp_to rfl k)) (fun h k => sat_nil k) k) k) k) k)⟩
    replace gk : decide ((k : Int) < x2.l.length) = true := gk
    rw [hm] at gk
    simp only [decide_eq_true_eq] at gk
    have ek : IntKind.i64.wrap ((k : Int) + 1) = ((k + 1 : Nat) : Int) := by rw [w64 (by omega) (by omega)]; omega
    have hq1 := List.getElem?_eq_getElem (show k < es1.length by omega)
    have hq2 := List.getElem?_eq_getElem (show k < es2.length by omega)
    have hqm1 := List.getElem_mem (show k < es1.length by omega)
    have hqm2 := List.getElem_mem (show k < es2.length by omega)
    generalize hqg1 : es1[k]'(by omega) = e1 at *
    generalize hqg2 : es2[k]'(by omega) = e2 at *
    obtain ⟨q, pd1, cd1⟩ := e1
    obtain ⟨q2, pd2, cd2⟩ := e2
    have hx1 : x2.l[k]? = some q := by rw [← hl1, List.getElem?_map, hq1]; rfl
    have hx2 : x2.l[k]? = some q2 := by rw [← hl2, List.getElem?_map, hq2]; rfl
    have hqq : q2 = q := Option.some.inj (hx2.symm.trans hx1)
    subst hqq
    have hqd := hda q2 (List.mem_of_getElem? hx1)
    obtain ⟨x1, y1, rfl⟩ := he1' (fun h => by subst h; simp at hlen1; omega)
    obtain ⟨x3, y3, rfl⟩ := he2' (fun h => by subst h; simp at hlen2; omega)
    refine DrawOb.mk [] (.run [0, 1, 2, 3, 4, 5, 6, 7, 8, 9, 10, 11] .nil) (by kernel_rfl) ?_
    have gk1 : 0 ≤ (k : Int) ∧ (k : Int) < x2.l.length := ⟨Int.natCast_nonneg k, by rw [hm]; omega⟩
    refine Need.mk gk1 (RawAt.mk x1 y1 rfl ?_)
    refine RdF.told (q2.svs (locAddr 0 pd1) cd1) (q2.vals (locAddr 0 pd1) cd1) rfl rfl (fun h kk j v hj => ?_) ?_
    · obtain ⟨b', o', r1, r2⟩ := step_cell 3 kk rfl hm1 (EL.flat_at hq1 hj)
      simp only [Plc.at.injEq] at r1
      obtain ⟨rfl, rfl⟩ := r1
      rw [← r2]; congr 1
      show y1 + k * 11 + j = y1 + (k * 11 + j)
      omega
    refine Need.mk gk1 (RawAt.mk x3 y3 rfl ?_)
    refine RdF.told (q2.svs (locAddr 0 pd2) cd2) (q2.vals (locAddr 0 pd2) cd2) rfl rfl (fun h kk j v hj => ?_) ?_
    · obtain ⟨b', o', r1, r2⟩ := step_cell 5 kk rfl hm2 (EL.flat_at hq2 hj)
      simp only [Plc.at.injEq] at r1
      obtain ⟨rfl, rfl⟩ := r1
      rw [← r2]; congr 1
      show y3 + k * 11 + j = y3 + (k * 11 + j)
      omega
    refine call_ix (esame_spec q2 (locAddr 0 pd1) (locAddr 0 pd2) cd1 cd2 hqd) rfl [] (fun h k => k) (fun f' b' hs kk => ⟨data_reads 3 hs kk rfl hm1 hqm1, data_reads 5 hs kk rfl hm2 hqm2⟩) ?_
    rintro v post ⟨rfl, rfl⟩
    refine ⟨.tt, _, 4, [], NmExt.refl _, rfl, fun h k => trivial, ?_⟩
    exact ⟨⟨k + 1, by omega⟩, by show m - (k + 1) < m - k; omega, Le.of rfl ⟨⟨_, rfl, rfl⟩, ⟨_, rfl, rfl⟩, ⟨_, rfl, rfl⟩, ⟨_, rfl, rfl⟩, ⟨_, rfl, rfl⟩, ⟨_, rfl, congrArg (fun z => some (Value.int .i64 z)) ek⟩, trivial⟩ (fun h k => sat_pick 0 rfl (by first | exact fun _ k => k | exact fun _ k => blk_to rfl rfl k | exact fun _ k => vec_to rfl k | exact fun _ k => blk_of rfl rfl k | exact fun _ k => vec_of rfl k | exact fun _ k => blk_of rfl rfl (blk_to rfl rfl k) | exact fun _ k => vec_of rfl (vec_to rfl k) | exact fun _ k => mp_to rfl k | exact fun _ k => mp_of rfl k | exact fun _ k => mp_of rfl (mp_to rfl k)) (fun h k => sat_pick 0 rfl (by first | exact fun _ k => k | exact fun _ k => blk_to rfl rfl k | exact fun _ k => vec_to rfl k | exact fun _ k => blk_of rfl rfl k | exact fun _ k => vec_of rfl k | exact fun _ k => blk_of rfl rfl (blk_to rfl rfl k) | exact fun _ k => vec_of rfl (vec_to rfl k) | exact fun _ k => mp_to rfl k | exact fun _ k => mp_of rfl k | exact fun _ k => mp_of rfl (mp_to rfl k)) (fun h k => sat_pick 0 rfl (by first | exact fun _ k => k | exact fun _ k => blk_to rfl rfl k | exact fun _ k => vec_to rfl k | exact fun _ k => blk_of rfl rfl k | exact fun _ k => vec_of rfl k | exact fun _ k => blk_of rfl rfl (blk_to rfl rfl k) | exact fun _ k => vec_of rfl (vec_to rfl k) | exact fun _ k => mp_to rfl k | exact fun _ k => mp_of rfl k | exact fun _ k => mp_of rfl (mp_to rfl k)) (fun h k => sat_pick 0 rfl (by first | exact fun _ k => k | exact fun _ k => blk_to rfl rfl k | exact fun _ k => vec_to rfl k | exact fun _ k => blk_of rfl rfl k | exact fun _ k => vec_of rfl k | exact fun _ k => blk_of rfl rfl (blk_to rfl rfl k) | exact fun _ k => vec_of rfl (vec_to rfl k) | exact fun _ k => mp_to rfl k | exact fun _ k => mp_of rfl k | exact fun _ k => mp_of rfl (mp_to rfl k)) (fun h k => sat_pick 0 rfl (by first | exact fun _ k => k | exact fun _ k => blk_to rfl rfl k | exact fun _ k => vec_to rfl k | exact fun _ k => blk_of rfl rfl k | exact fun _ k => vec_of rfl k | exact fun _ k => blk_of rfl rfl (blk_to rfl rfl k) | exact fun _ k => vec_of rfl (vec_to rfl k) | exact fun _ k => mp_to rfl k | exact fun _ k => mp_of rfl k | exact fun _ k => mp_of rfl (mp_to rfl k)) (fun h k => sat_pick 0 rfl (by first | exact fun _ k => k | exact fun _ k => blk_to rfl rfl k | exact fun _ k => vec_to rfl k | exact fun _ k => blk_of rfl rfl k | exact fun _ k => vec_of rfl k | exact fun _ k => blk_of rfl rfl (blk_to rfl rfl k) | exact fun _ k => vec_of rfl (vec_to rfl k) | exact fun _ k => mp_to rfl k | exact fun _ k => mp_of rfl k | exact fun _ k => mp_of rfl (mp_to rfl k)) (fun h k => sat_nil k) k) k) k) k) k) k)⟩
  · intro b8
    refine RdObL.mk (x2.svs (locAddr 0 pe2) ce2) (by decide) (by simpa using hz2) ((show _ = _ from rfl).trans (congrArg some hd2.symm)) (Need.mk rfl ?_)
    refine RdObL.mk (x2.svs (locAddr 0 pe1) ce1) (by decide) (by simpa using hz1) ((show _ = _ from rfl).trans (congrArg some hd1.symm)) (Need.mk rfl ?_)
    intro b9
    refine RdObL.mk (x2.svs (locAddr 0 pe2) ce2) (by decide) (by simpa using hz2) ((show _ = _ from rfl).trans (congrArg some hd2.symm)) (Need.mk rfl ?_)
    refine RdObL.mk (x2.svs (locAddr 0 pe1) ce1) (by decide) (by simpa using hz1) ((show _ = _ from rfl).trans (congrArg some hd1.symm)) (Need.mk rfl ?_)
    refine RdObL.mk (x2.svs (locAddr 0 pe2) ce2) (by decide) (by simpa using hz2) ((show _ = _ from rfl).trans (congrArg some hd2.symm)) (Need.mk rfl ?_)
    iterate 6 refine Br.mk (fun h => absurd h (by simp)) (fun _ => ?_)
    refine CondOb.split (fun h => absurd h (by simp)) (fun _ => ?_)
    refine LoopOb.mk { k : Nat // k ≤ m } (fun z => ⟨96, [(0, .sl 0 0 n cl1), (1, .sl 1 0 n cl2), (5, .int .i64 i), (6, .ptr 3 0), (7, .ptr 2 0), (8, .int .i64 z.1)], [(3, .at b9 0), (2, .at b8 0), (1, .at b2 o2), (0, .at b1 o1)], 4,
      [.blk 3 111 (x2.svs (locAddr 0 pe1) ce1), .blk 2 111 (x2.svs (locAddr 0 pe2) ce2), .vec 0 111 7 cl1 (SL.flat ss1), .asn (Alls (ss1.flatMap Sn.parts)), .vec 1 111 7 cl2 (SL.flat ss2), .asn (Alls (ss2.flatMap Sn.parts))]⟩) (fun z => m - z.1) ⟨0, by omega⟩ ?_ ?_
    · exact Le.of rfl ⟨⟨_, rfl, rfl⟩, ⟨_, rfl, rfl⟩, ⟨_, rfl, rfl⟩, ⟨_, rfl, rfl⟩, ⟨_, rfl, rfl⟩, ⟨_, rfl, rfl⟩, trivial⟩ (fun h k => sat_pick 1 rfl (by first | exact fun _ k => k | exact fun _ k => blk_to rfl rfl k | exact fun _ k => vec_to rfl k | exact fun _ k => blk_of rfl rfl k | exact fun _ k => vec_of rfl k | exact fun _ k => blk_of rfl rfl (blk_to rfl rfl k) | exact fun _ k => vec_of rfl (vec_to rfl k) | exact fun _ k => mp_to rfl k | exact fun _ k => mp_of rfl k | exact fun _ k => mp_of rfl (mp_to rfl k)) (fun h k => sat_pick 0 rfl (by first | exact fun _ k => k | exact fun _ k => blk_to rfl rfl k | exact fun _ k => vec_to rfl k | exact fun _ k => blk_of rfl rfl k | exact fun _ k => vec_of rfl k | exact fun _ k => blk_of rfl rfl (blk_to rfl rfl k) | exact fun _ k => vec_of rfl (vec_to rfl k) | exact fun _ k => mp_to rfl k | exact fun _ k => mp_of rfl k | exact fun _ k => mp_of rfl (mp_to rfl k)) (fun h k => sat_pick 0 rfl (by first | exact fun _ k => k | exact fun _ k => blk_to rfl rfl k | exact fun _ k => vec_to rfl k | exact fun _ k => blk_of rfl rfl k | exact fun _ k => vec_of rfl k | exact fun _ k => blk_of rfl rfl (blk_to rfl rfl k) | exact fun _ k => vec_of rfl (vec_to rfl k) | exact fun _ k => mp_to rfl k | exact fun _ k => mp_of rfl k | exact fun _ k => mp_of rfl (mp_to rfl k)) (fun h k => sat_pick 0 rfl (by first | exact fun _ k => k | exact fun _ k => blk_to rfl rfl k | exact fun _ k => vec_to rfl k | exact fun _ k => blk_of rfl rfl k | exact fun _ k => vec_of rfl k | exact fun _ k => blk_of rfl rfl (blk_to rfl rfl k) | exact fun _ k => vec_of rfl (vec_to rfl k) | exact fun _ k => mp_to rfl k | exact fun _ k => mp_of rfl k | exact fun _ k => mp_of rfl (mp_to rfl k)) (fun h k => sat_pick 0 rfl (by first | exact fun _ k => k | exact fun _ k => blk_to rfl rfl k | exact fun _ k => vec_to rfl k | exact fun _ k => blk_of rfl rfl k | exact fun _ k => vec_of rfl k | exact fun _ k => blk_of rfl rfl (blk_to rfl rfl k) | exact fun _ k => vec_of rfl (vec_to rfl k) | exact fun _ k => mp_to rfl k | exact fun _ k => mp_of rfl k | exact fun _ k => mp_of rfl (mp_to rfl k)) (fun h k => sat_pick 0 rfl (by first | exact fun _ k => k | exact fun _ k => blk_to rfl rfl k | exact fun _ k => vec_to rfl k | exact fun _ k => blk_of rfl rfl k | exact fun _ k => vec_of rfl k | exact fun _ k => blk_of rfl rfl (blk_to rfl rfl k) | exact fun _ k => vec_of rfl (vec_to rfl k) | exact fun _ k => mp_to rfl k | exact fun _ k => mp_of rfl k | exact fun _ k => mp_of rfl (mp_to rfl k)) (fun h k => sat_nil k) k) k) k) k) k) k)
    rintro ⟨k, hk⟩
    refine CondOb.split (fun gk => ?_) (fun gk => ?_)
    rotate_left
    · exact ⟨⟨i + 1, by omega⟩, by show n - (i + 1) < n - i; omega, Le.of rfl ⟨⟨_, rfl, rfl⟩, ⟨_, rfl, rfl⟩, ⟨_, rfl, congrArg (fun z => some (Value.int .i64 z)) ei⟩, trivial⟩ (fun h k => sat_pick 2 rfl (by first | exact fun _ k => k | exact fun _ k => blk_to rfl rfl k | exact fun _ k => vec_to rfl k | exact fun _ k => blk_of rfl rfl k | exact fun _ k => vec_of rfl k | exact fun _ k => blk_of rfl rfl (blk_to rfl rfl k) | exact fun _ k => vec_of rfl (vec_to rfl k) | exact fun _ k => mp_to rfl k | exact fun _ k => mp_of rfl k | exact fun _ k => mp_of rfl (mp_to rfl k)) (fun h k => sat_pick 2 rfl (by first | exact fun _ k => k | exact fun _ k => blk_to rfl rfl k | exact fun _ k => vec_to rfl k | exact fun _ k => blk_of rfl rfl k | exact fun _ k => vec_of rfl k | exact fun _ k => blk_of rfl rfl (blk_to rfl rfl k) | exact fun _ k => vec_of rfl (vec_to rfl k) | exact fun _ k => mp_to rfl k | exact fun _ k => mp_of rfl k | exact fun _ k => mp_of rfl (mp_to rfl k)) (fun h k => sat_pick 2 rfl (by first | exact fun _ k => k | exact fun _ k => blk_to rfl rfl k | exact fun _ k => vec_to rfl k | exact fun _ k => blk_of rfl rfl k | exact fun _ k => vec_of rfl k | exact fun _ k => blk_of rfl rfl (blk_to rfl rfl k) | exact fun _ k => vec_of rfl (vec_to rfl k) | exact fun _ k => mp_to rfl k | exact fun _ k => mp_of rfl k | exact fun _ k => mp_of rfl (mp_to rfl k)) (fun h k => sat_pick 2 rfl (by first | exact fun _ k => k | exact fun _ k => blk_to rfl rfl k | exact fun _ k => vec_to rfl k | exact fun _ k => blk_of rfl rfl k | exact fun _ k => vec_of rfl k | exact fun _ k => blk_of rfl rfl (blk_to rfl rfl k) | exact fun _ k => vec_of rfl (vec_to rfl k) | exact fun _ k => mp_to rfl k | exact fun _ k => mp_of rfl k | exact fun _ k => mp_of rfl (mp_to rfl k)) (fun h k => sat_nil k) k) k) k) k)⟩
    replace gk : decide ((k : Int) < x2.l.length) = true := gk
    rw [hm] at gk
    simp only [decide_eq_true_eq] at gk
    have ek : IntKind.i64.wrap ((k : Int) + 1) = ((k + 1 : Nat) : Int) := by rw [w64 (by omega) (by omega)]; omega
    have hq1 := List.getElem?_eq_getElem (show k < es1.length by omega)
    have hq2 := List.getElem?_eq_getElem (show k < es2.length by omega)
    have hqm1 := List.getElem_mem (show k < es1.length by omega)
    have hqm2 := List.getElem_mem (show k < es2.length by omega)
    generalize hqg1 : es1[k]'(by omega) = e1 at *
    generalize hqg2 : es2[k]'(by omega) = e2 at *
    obtain ⟨q, pd1, cd1⟩ := e1
    obtain ⟨q2, pd2, cd2⟩ := e2
    have hx1 : x2.l[k]? = some q := by rw [← hl1, List.getElem?_map, hq1]; rfl
    have hx2 : x2.l[k]? = some q2 := by rw [← hl2, List.getElem?_map, hq2]; rfl
    have hqq : q2 = q := Option.some.inj (hx2.symm.trans hx1)
    subst hqq
    have hqd := hda q2 (List.mem_of_getElem? hx1)
    obtain ⟨x1, y1, rfl⟩ := he1' (fun h => by subst h; simp at hlen1; omega)
    obtain ⟨x3, y3, rfl⟩ := he2' (fun h => by subst h; simp at hlen2; omega)
    refine DrawOb.mk [] (.run [0, 1, 2, 3, 4, 5, 6, 7, 8, 9, 10, 11] .nil) (by kernel_rfl) ?_
    have gk1 : 0 ≤ (k : Int) ∧ (k : Int) < x2.l.length := ⟨Int.natCast_nonneg k, by rw [hm]; omega⟩
    refine Need.mk gk1 (RawAt.mk x1 y1 rfl ?_)
    refine RdF.told (q2.svs (locAddr 0 pd1) cd1) (q2.vals (locAddr 0 pd1) cd1) rfl rfl (fun h kk j v hj => ?_) ?_
    · obtain ⟨b', o', r1, r2⟩ := step_cell 3 kk rfl hm1 (EL.flat_at hq1 hj)
      simp only [Plc.at.injEq] at r1
      obtain ⟨rfl, rfl⟩ := r1
      rw [← r2]; congr 1
      show y1 + k * 11 + j = y1 + (k * 11 + j)
      omega
    refine Need.mk gk1 (RawAt.mk x3 y3 rfl ?_)
    refine RdF.told (q2.svs (locAddr 0 pd2) cd2) (q2.vals (locAddr 0 pd2) cd2) rfl rfl (fun h kk j v hj => ?_) ?_
    · obtain ⟨b', o', r1, r2⟩ := step_cell 5 kk rfl hm2 (EL.flat_at hq2 hj)
      simp only [Plc.at.injEq] at r1
      obtain ⟨rfl, rfl⟩ := r1
      rw [← r2]; congr 1
      show y3 + k * 11 + j = y3 + (k * 11 + j)
      omega
    refine call_ix (esame_spec q2 (locAddr 0 pd1) (locAddr 0 pd2) cd1 cd2 hqd) rfl [] (fun h k => k) (fun f' b' hs kk => ⟨data_reads 3 hs kk rfl hm1 hqm1, data_reads 5 hs kk rfl hm2 hqm2⟩) ?_
    rintro v post ⟨rfl, rfl⟩
    refine ⟨.tt, _, 4, [], NmExt.refl _, rfl, fun h k => trivial, ?_⟩
    exact ⟨⟨k + 1, by omega⟩, by show m - (k + 1) < m - k; omega, Le.of rfl ⟨⟨_, rfl, rfl⟩, ⟨_, rfl, rfl⟩, ⟨_, rfl, rfl⟩, ⟨_, rfl, rfl⟩, ⟨_, rfl, rfl⟩, ⟨_, rfl, congrArg (fun z => some (Value.int .i64 z)) ek⟩, trivial⟩ (fun h k => sat_pick 0 rfl (by first | exact fun _ k => k | exact fun _ k => blk_to rfl rfl k | exact fun _ k => vec_to rfl k | exact fun _ k => blk_of rfl rfl k | exact fun _ k => vec_of rfl k | exact fun _ k => blk_of rfl rfl (blk_to rfl rfl k) | exact fun _ k => vec_of rfl (vec_to rfl k) | exact fun _ k => mp_to rfl k | exact fun _ k => mp_of rfl k | exact fun _ k => mp_of rfl (mp_to rfl k)) (fun h k => sat_pick 0 rfl (by first | exact fun _ k => k | exact fun _ k => blk_to rfl rfl k | exact fun _ k => vec_to rfl k | exact fun _ k => blk_of rfl rfl k | exact fun _ k => vec_of rfl k | exact fun _ k => blk_of rfl rfl (blk_to rfl rfl k) | exact fun _ k => vec_of rfl (vec_to rfl k) | exact fun _ k => mp_to rfl k | exact fun _ k => mp_of rfl k | exact fun _ k => mp_of rfl (mp_to rfl k)) (fun h k => sat_pick 0 rfl (by first | exact fun _ k => k | exact fun _ k => blk_to rfl rfl k | exact fun _ k => vec_to rfl k | exact fun _ k => blk_of rfl rfl k | exact fun _ k => vec_of rfl k | exact fun _ k => blk_of rfl rfl (blk_to rfl rfl k) | exact fun _ k => vec_of rfl (vec_to rfl k) | exact fun _ k => mp_to rfl k | exact fun _ k => mp_of rfl k | exact fun _ k => mp_of rfl (mp_to rfl k)) (fun h k => sat_pick 0 rfl (by first | exact fun _ k => k | exact fun _ k => blk_to rfl rfl k | exact fun _ k => vec_to rfl k | exact fun _ k => blk_of rfl rfl k | exact fun _ k => vec_of rfl k | exact fun _ k => blk_of rfl rfl (blk_to rfl rfl k) | exact fun _ k => vec_of rfl (vec_to rfl k) | exact fun _ k => mp_to rfl k | exact fun _ k => mp_of rfl k | exact fun _ k => mp_of rfl (mp_to rfl k)) (fun h k => sat_pick 0 rfl (by first | exact fun _ k => k | exact fun _ k => blk_to rfl rfl k | exact fun _ k => vec_to rfl k | exact fun _ k => blk_of rfl rfl k | exact fun _ k => vec_of rfl k | exact fun _ k => blk_of rfl rfl (blk_to rfl rfl k) | exact fun _ k => vec_of rfl (vec_to rfl k) | exact fun _ k => mp_to rfl k | exact fun _ k => mp_of rfl k | exact fun _ k => mp_of rfl (mp_to rfl k)) (fun h k => sat_pick 0 rfl (by first | exact fun _ k => k | exact fun _ k => blk_to rfl rfl k | exact fun _ k => vec_to rfl k | exact fun _ k => blk_of rfl rfl k | exact fun _ k => vec_of rfl k | exact fun _ k => blk_of rfl rfl (blk_to rfl rfl k) | exact fun _ k => vec_of rfl (vec_to rfl k) | exact fun _ k => mp_to rfl k | exact fun _ k => mp_of rfl k | exact fun _ k => mp_of rfl (mp_to rfl k)) (fun h k => sat_nil k) k) k) k) k) k) k)⟩
end Go.Proofs.Ytlgdagjbphafcaa.Sc
