/- script: the walk of ScriptRight. Conditions: none. -/
import Derived.Test.YtlgdagjbphafcaaScK
namespace Go.Proofs.Ytlgdagjbphafcaa.Sc
open Go Go.Proofs Sx
set_option maxRecDepth 100000
set_option linter.unusedVariables false
set_option linter.unusedSimpArgs false
set_option maxHeartbeats 4000000

theorem vec_cell {l : Plc} {t : TypeId} {sz cap : Nat} {xs : List Value} {h : HP} (k : Vec l t sz cap xs h) {i : Nat} {v : Value} (hi : xs[i]? = some v) : ∃ b o, l = .at b o ∧ ∃ ob, h b = some ob ∧ ∀ h', h' b = some ob → fcell h' b (o + i) = some v := by
  obtain ⟨_, hv⟩ := k
  rcases hv with ⟨_, hx, _⟩ | ⟨b, o, pre, post, rfl, hp, ho, _⟩
  · subst hx; simp at hi
  · refine ⟨b, o, rfl, .cells (pre ++ xs ++ post).toArray t (0, 0), by rw [hp]; simp [one], fun h' h1 => ?_⟩
    have hl := (List.getElem?_eq_some_iff.1 hi).1
    unfold fcell
    rw [h1]
    simp only [List.getElem?_toArray, List.append_assoc]
    rw [List.getElem?_append_right (by omega), ho, show o + i - o = i by omega, List.getElem?_append_left hl]
    exact hi
/-- What lies in one of all these parts. -/
theorem alls_cell {As Bs : List Asn} {h : HP} (n : Nat) (k : sat Bs h) (hn : Bs[n]? = some (Alls As)) {l : Plc} {t : TypeId} {sz cap : Nat} {xs : List Value} (hA : Vec l t sz cap xs ∈ As) {i : Nat} {v : Value} (hi : xs[i]? = some v) : ∃ b o, l = .at b o ∧ fcell h b (o + i) = some v := by
  obtain ⟨x, y, t1, hx, _⟩ := sat_nth n hn k
  obtain ⟨m, hm, e⟩ := List.getElem_of_mem hA
  obtain ⟨x2, y2, t2, hx2, _⟩ := sat_nth m (by rw [List.getElem?_eq_getElem hm, e]) (show sat As x from hx)
  obtain ⟨b, o, e1, ob, h1, h2⟩ := vec_cell hx2 hi
  exact ⟨b, o, e1, h2 h (t1.get (t2.get h1))⟩
theorem mem_parts {ss : List Sn} {s : Sn} (h : s ∈ ss) : Vec s.2.2.1 102 11 s.2.2.2 (EL.flat s.2.1) ∈ ss.flatMap Sn.parts := List.mem_flatMap.2 ⟨s, h, by simp [Sn.parts]⟩
theorem decode_sure (A : Option Addr) (c : Nat) (L : List Int) (hc : L.length ≤ c) (hb : ∀ x ∈ L, 0 ≤ x ∧ x ≤ 255) (hl : L.length ≤ 1000000) :
    Does Try.prog 61 #[.slice A L.length c] (fun f => Reads f A (U8.flat L)) []
      (fun v q => ∃ (ss : List Sn) (pl : Plc) (cl : Nat), v = .tuple #[.agg (setV L).toArray, .slice (locAddr 0 pl) ss.length cl] ∧ Dn L ss.length ∧ Sns L ss ∧ ss.length ≤ cl ∧ (ss ≠ [] → ∃ b o, pl = .at b o) ∧ (∀ s ∈ ss, s.2.1 ≠ [] → ∃ b o, s.2.2.1 = .at b o) ∧ q = [Vec pl 111 7 cl (SL.flat ss), Alls (ss.flatMap Sn.parts)]) := by
  refine (decode_spec A c L hc hb hl).sure ?_
  rintro v q h ⟨ss, pl, cl, h1, h2, h3, h4, rfl⟩ hs
  refine ⟨ss, pl, cl, h1, h2, h3, h4, fun hne => ?_, fun s hm hne => ?_, rfl⟩
  · refine vec_sures (As := []) ((fun h k => sat_pick 0 rfl (by first | exact fun _ k => k | exact fun _ k => blk_to rfl rfl k | exact fun _ k => vec_to rfl k | exact fun _ k => blk_of rfl rfl k | exact fun _ k => vec_of rfl k | exact fun _ k => blk_of rfl rfl (blk_to rfl rfl k) | exact fun _ k => vec_of rfl (vec_to rfl k) | exact fun _ k => mp_to rfl k | exact fun _ k => mp_of rfl k | exact fun _ k => mp_of rfl (mp_to rfl k)) (fun h k => sat_nil k) k) h hs) (fun h0 => hne ?_)
    have := congrArg List.length h0
    rw [lS] at this
    have h9 : ss.length * 7 = 0 := this
    exact List.length_eq_zero_iff.1 (by omega)
  · cases he : s.2.1 with
    | nil => exact absurd he hne
    | cons e es =>
      have hi : (EL.flat s.2.1)[0]? = some (.int .u8 e.1.op) := by rw [he]; rfl
      obtain ⟨b, o, h5, _⟩ := alls_cell 1 hs rfl (mem_parts hm) hi
      exact ⟨b, o, h5⟩
theorem right_walk (A : Option Addr) (c : Nat) (L : List Int) (hc : L.length ≤ c) (hb : ∀ x ∈ L, 0 ≤ x ∧ x ≤ 255) (hl : L.length ≤ 140737488355328) :
    Does Try.prog 12 #[.slice A L.length c] (fun f => Reads f A (U8.flat L)) [] (fun v q => v = .bool true ∧ q = []) := by
  refine Does.of Try.func12 Try.call12 rfl [.raw (.slice A L.length c)] [] 0 [] rfl rfl (fun h k => k) (fun f hA => ?_)
  refine CondOb.split (fun _ => ?_) (fun g0 => ?_)
  · refine useP .tt live_spec rfl rfl ?_
    exact FinOb.mk _ [] rfl (fun h k => trivial) ⟨rfl, rfl⟩
  simp only [decide_eq_false_iff_not] at g0
  replace g0 : ¬ (3000 : Int) < L.length := g0
  refine call_ix (decode_sure A c L hc hb (by omega)) rfl [] (fun h k => k) (fun f' b' hs _ => hA.frame hs) ?_
  rintro v post ⟨ss, pl, cl, rfl, hd, hss, hcl, hpl, hes, rfl⟩
  refine ⟨.tuple [.agg (setS L), .sl 0 0 ss.length cl], [(0, pl)], 1, [.vec 0 111 7 cl (SL.flat ss), .asn (Alls (ss.flatMap Sn.parts))], NmExt.push rfl, rfl, (fun h k => sat_pick 0 rfl (by first | exact fun _ k => k | exact fun _ k => blk_to rfl rfl k | exact fun _ k => vec_to rfl k | exact fun _ k => blk_of rfl rfl k | exact fun _ k => vec_of rfl k | exact fun _ k => blk_of rfl rfl (blk_to rfl rfl k) | exact fun _ k => vec_of rfl (vec_to rfl k) | exact fun _ k => mp_to rfl k | exact fun _ k => mp_of rfl k | exact fun _ k => mp_of rfl (mp_to rfl k)) (fun h k => sat_pick 0 rfl (by first | exact fun _ k => k | exact fun _ k => blk_to rfl rfl k | exact fun _ k => vec_to rfl k | exact fun _ k => blk_of rfl rfl k | exact fun _ k => vec_of rfl k | exact fun _ k => blk_of rfl rfl (blk_to rfl rfl k) | exact fun _ k => vec_of rfl (vec_to rfl k) | exact fun _ k => mp_to rfl k | exact fun _ k => mp_of rfl k | exact fun _ k => mp_of rfl (mp_to rfl k)) (fun h k => sat_nil k) k) k), ?_⟩
  intro b1
  refine useP (.bool true) (right_spec L hb) rfl rfl ?_
  refine Br.mk (fun h => absurd h (by decide)) (fun _ => ?_)
  refine CondOb.split (fun h => absurd h (by have := hd.most; simp; omega)) (fun _ => ?_)
  refine LoopOb.mk { i : Nat // i ≤ ss.length } (fun z => ⟨63, [(0, .raw (.slice A L.length c)), (4, .sl 0 0 ss.length cl), (5, .int .i64 z.1)], [(0, pl)], 1, [.vec 0 111 7 cl (SL.flat ss), .asn (Alls (ss.flatMap Sn.parts))]⟩) (fun z => ss.length - z.1) ⟨0, by omega⟩ ?_ ?_
  · exact Le.of rfl ⟨⟨_, rfl, rfl⟩, ⟨_, rfl, rfl⟩, ⟨_, rfl, rfl⟩, trivial⟩ (fun h k => sat_pick 1 rfl (by first | exact fun _ k => k | exact fun _ k => blk_to rfl rfl k | exact fun _ k => vec_to rfl k | exact fun _ k => blk_of rfl rfl k | exact fun _ k => vec_of rfl k | exact fun _ k => blk_of rfl rfl (blk_to rfl rfl k) | exact fun _ k => vec_of rfl (vec_to rfl k) | exact fun _ k => mp_to rfl k | exact fun _ k => mp_of rfl k | exact fun _ k => mp_of rfl (mp_to rfl k)) (fun h k => sat_pick 1 rfl (by first | exact fun _ k => k | exact fun _ k => blk_to rfl rfl k | exact fun _ k => vec_to rfl k | exact fun _ k => blk_of rfl rfl k | exact fun _ k => vec_of rfl k | exact fun _ k => blk_of rfl rfl (blk_to rfl rfl k) | exact fun _ k => vec_of rfl (vec_to rfl k) | exact fun _ k => mp_to rfl k | exact fun _ k => mp_of rfl k | exact fun _ k => mp_of rfl (mp_to rfl k)) (fun h k => sat_nil k) k) k)
  rintro ⟨i, hi⟩
  refine CondOb.split (fun g => ?_) (fun g => ?_)
  rotate_left
  · refine call_ix (entry'_spec A c L hc hb (by omega)) rfl [] (fun h k => sat_pick 0 rfl (by first | exact fun _ k => k | exact fun _ k => blk_to rfl rfl k | exact fun _ k => vec_to rfl k | exact fun _ k => blk_of rfl rfl k | exact fun _ k => vec_of rfl k | exact fun _ k => blk_of rfl rfl (blk_to rfl rfl k) | exact fun _ k => vec_of rfl (vec_to rfl k) | exact fun _ k => mp_to rfl k | exact fun _ k => mp_of rfl k | exact fun _ k => mp_of rfl (mp_to rfl k)) (fun h k => sat_pick 0 rfl (by first | exact fun _ k => k | exact fun _ k => blk_to rfl rfl k | exact fun _ k => vec_to rfl k | exact fun _ k => blk_of rfl rfl k | exact fun _ k => vec_of rfl k | exact fun _ k => blk_of rfl rfl (blk_to rfl rfl k) | exact fun _ k => vec_of rfl (vec_to rfl k) | exact fun _ k => mp_to rfl k | exact fun _ k => mp_of rfl k | exact fun _ k => mp_of rfl (mp_to rfl k)) (fun h k => sat_nil k) k) k) (fun f' b' hs _ => hA.frame hs) ?_
    rintro v post ⟨pd, cd, p2, c2, rfl, rfl⟩
    refine ⟨.tuple [.agg ((ent L 0).svs (locAddr 0 pd) cd), .raw (.slice (locAddr 0 p2) (L.drop (0 + entN (ent L 0).op)).length c2)], _, 1, [.asn _, .asn _], NmExt.refl _, rfl, (fun h k => sat_pick 0 rfl (by first | exact fun _ k => k | exact fun _ k => blk_to rfl rfl k | exact fun _ k => vec_to rfl k | exact fun _ k => blk_of rfl rfl k | exact fun _ k => vec_of rfl k | exact fun _ k => blk_of rfl rfl (blk_to rfl rfl k) | exact fun _ k => vec_of rfl (vec_to rfl k) | exact fun _ k => mp_to rfl k | exact fun _ k => mp_of rfl k | exact fun _ k => mp_of rfl (mp_to rfl k)) (fun h k => sat_pick 0 rfl (by first | exact fun _ k => k | exact fun _ k => blk_to rfl rfl k | exact fun _ k => vec_to rfl k | exact fun _ k => blk_of rfl rfl k | exact fun _ k => vec_of rfl k | exact fun _ k => blk_of rfl rfl (blk_to rfl rfl k) | exact fun _ k => vec_of rfl (vec_to rfl k) | exact fun _ k => mp_to rfl k | exact fun _ k => mp_of rfl k | exact fun _ k => mp_of rfl (mp_to rfl k)) (fun h k => sat_nil k) k) k), ?_⟩
    intro b9
    refine useP (.int .i64 0) (check_spec (ent L 0) (ent_ok hb 0) (locAddr 0 pd) cd) rfl rfl ?_
    refine Br.mk (fun _ => ?_) (fun h => absurd h (by decide))
    refine useP .tt live_spec rfl rfl ?_
    exact FinOb.mk _ [] rfl (fun h k => trivial) ⟨rfl, rfl⟩
  simp only [decide_eq_true_eq] at g
  replace g : (i : Int) < ss.length := g
  have ei : IntKind.i64.wrap ((i : Int) + 1) = ((i + 1 : Nat) : Int) := by have := hd.most; rw [w64 (by omega) (by omega)]; omega
  have hs := List.getElem?_eq_getElem (show i < ss.length by omega)
  have hm := List.getElem_mem (show i < ss.length by omega)
  have hst : ss[i].1 = stp L (dpos L i) := by
    have h1 : (ss.map (·.1))[i]? = some ss[i].1 := by rw [List.getElem?_map, hs]; rfl
    rw [hss.steps, List.getElem?_map, List.getElem?_range (by omega)] at h1
    exact (Option.some.inj h1).symm
  obtain ⟨hl1, hl2⟩ := hss.lists _ hm
  have hes' := hes _ hm
  have hmem := mem_parts hm
  obtain ⟨bp, op, rfl⟩ := hpl (fun h => by rw [h] at g; simp at g; omega)
  generalize hsg : ss[i]'(by omega) = s at *
  obtain ⟨st, es, pe, ce⟩ := s
  simp only at hst hl1 hl2 hes'
  have hlen : st.l.length = es.length := by rw [← hl1]; simp
  have hcell : (SL.flat ss)[i * 7 + 6]? = some (.slice (locAddr 0 pe) es.length ce) := by
    have := SL.flat_at hs (j := 6) (v := .slice (locAddr 0 pe) es.length ce) (by rw [← hlen]; rfl)
    exact this
  have hsmall : es.length ≤ 1000000 := by
    rw [← hlen, hst]
    unfold stp
    simp only
    have hu := byte hb (dpos L i + 2)
    (repeat' split) <;> simp [ents, -List.getD_eq_getElem?_getD] <;> omega
  refine LoopOb.mk { k : Nat // k ≤ es.length } (fun z => ⟨63, [(0, .raw (.slice A L.length c)), (4, .sl 0 0 ss.length cl), (5, .int .i64 i), (6, .int .i64 z.1)], [(0, .at bp op)], 1, [.vec 0 111 7 cl (SL.flat ss), .asn (Alls (ss.flatMap Sn.parts))]⟩) (fun z => es.length - z.1) ⟨0, by omega⟩ ?_ ?_
  · exact Le.of rfl ⟨⟨_, rfl, rfl⟩, ⟨_, rfl, rfl⟩, ⟨_, rfl, rfl⟩, ⟨_, rfl, rfl⟩, trivial⟩ (fun h k => sat_pick 0 rfl (by first | exact fun _ k => k | exact fun _ k => blk_to rfl rfl k | exact fun _ k => vec_to rfl k | exact fun _ k => blk_of rfl rfl k | exact fun _ k => vec_of rfl k | exact fun _ k => blk_of rfl rfl (blk_to rfl rfl k) | exact fun _ k => vec_of rfl (vec_to rfl k) | exact fun _ k => mp_to rfl k | exact fun _ k => mp_of rfl k | exact fun _ k => mp_of rfl (mp_to rfl k)) (fun h k => sat_pick 0 rfl (by first | exact fun _ k => k | exact fun _ k => blk_to rfl rfl k | exact fun _ k => vec_to rfl k | exact fun _ k => blk_of rfl rfl k | exact fun _ k => vec_of rfl k | exact fun _ k => blk_of rfl rfl (blk_to rfl rfl k) | exact fun _ k => vec_of rfl (vec_to rfl k) | exact fun _ k => mp_to rfl k | exact fun _ k => mp_of rfl k | exact fun _ k => mp_of rfl (mp_to rfl k)) (fun h k => sat_nil k) k) k)
  rintro ⟨k, hk⟩
  refine Need.mk ⟨Int.natCast_nonneg i, g⟩ ?_
  refine RdOb.mk (.raw (.slice (locAddr 0 pe) es.length ce)) _ rfl (by simpa using hcell) ?_
  refine CondOb.split (fun g2 => ?_) (fun g2 => ?_)
  rotate_left
  · exact ⟨⟨i + 1, by omega⟩, by show ss.length - (i + 1) < ss.length - i; omega, Le.of rfl ⟨⟨_, rfl, rfl⟩, ⟨_, rfl, rfl⟩, ⟨_, rfl, congrArg (fun z => some (Value.int .i64 z)) ei⟩, trivial⟩ (fun h k => sat_pick 0 rfl (by first | exact fun _ k => k | exact fun _ k => blk_to rfl rfl k | exact fun _ k => vec_to rfl k | exact fun _ k => blk_of rfl rfl k | exact fun _ k => vec_of rfl k | exact fun _ k => blk_of rfl rfl (blk_to rfl rfl k) | exact fun _ k => vec_of rfl (vec_to rfl k) | exact fun _ k => mp_to rfl k | exact fun _ k => mp_of rfl k | exact fun _ k => mp_of rfl (mp_to rfl k)) (fun h k => sat_pick 0 rfl (by first | exact fun _ k => k | exact fun _ k => blk_to rfl rfl k | exact fun _ k => vec_to rfl k | exact fun _ k => blk_of rfl rfl k | exact fun _ k => vec_of rfl k | exact fun _ k => blk_of rfl rfl (blk_to rfl rfl k) | exact fun _ k => vec_of rfl (vec_to rfl k) | exact fun _ k => mp_to rfl k | exact fun _ k => mp_of rfl k | exact fun _ k => mp_of rfl (mp_to rfl k)) (fun h k => sat_nil k) k) k)⟩
  simp only [decide_eq_true_eq] at g2
  replace g2 : (k : Int) < es.length := g2
  have ek : IntKind.i64.wrap ((k : Int) + 1) = ((k + 1 : Nat) : Int) := by rw [w64 (by omega) (by omega)]; omega
  have hq := List.getElem?_eq_getElem (show k < es.length by omega)
  obtain ⟨be, oe, rfl⟩ := hes' (fun h => by rw [h] at g2; simp at g2; omega)
  generalize es[k]'(by omega) = e at *
  obtain ⟨q, pd, cd⟩ := e
  have hqo : QOk q := by
    have h1 : (es.map (·.1))[k]? = some q := by rw [List.getElem?_map, hq]; rfl
    rw [hl1, hst] at h1
    have h2 := List.mem_of_getElem? h1
    have : ∀ x ∈ (stp L (dpos L i)).l, QOk x := by
      unfold stp
      simp only
      (repeat' split) <;> intro x hx <;> first | (simp at hx; done) | (simp only [ents, List.mem_map] at hx; obtain ⟨j, _, rfl⟩ := hx; exact ent_ok hb _)
    exact this q h2
  refine Need.mk ⟨Int.natCast_nonneg i, g⟩ ?_
  refine RdOb.mk (.raw (.slice (locAddr 0 (.at be oe)) es.length ce)) _ rfl (by simpa using hcell) ?_
  refine Need.mk ⟨Int.natCast_nonneg k, g2⟩ (RawAt.mk be oe rfl ?_)
  refine RdF.told (q.svs (locAddr 0 pd) cd) (q.vals (locAddr 0 pd) cd) rfl rfl (fun h kk j v hj => ?_) ?_
  · have hi2 : (EL.flat es)[k * 11 + j]? = some v := EL.flat_at hq hj
    obtain ⟨b', o', e1, e2⟩ := alls_cell 1 kk rfl hmem hi2
    simp only [Plc.at.injEq] at e1
    obtain ⟨rfl, rfl⟩ := e1
    rw [← e2]; congr 1
    show oe + k * 11 + j = oe + (k * 11 + j)
    omega
  refine useP (.int .i64 0) (check_spec q hqo (locAddr 0 pd) cd) rfl rfl ?_
  refine CondOb.split (fun h => absurd h (by decide)) (fun _ => ?_)
  exact ⟨⟨k + 1, by omega⟩, by show es.length - (k + 1) < es.length - k; omega, Le.of rfl ⟨⟨_, rfl, rfl⟩, ⟨_, rfl, rfl⟩, ⟨_, rfl, rfl⟩, ⟨_, rfl, congrArg (fun z => some (Value.int .i64 z)) ek⟩, trivial⟩ (fun h k => sat_pick 0 rfl (by first | exact fun _ k => k | exact fun _ k => blk_to rfl rfl k | exact fun _ k => vec_to rfl k | exact fun _ k => blk_of rfl rfl k | exact fun _ k => vec_of rfl k | exact fun _ k => blk_of rfl rfl (blk_to rfl rfl k) | exact fun _ k => vec_of rfl (vec_to rfl k) | exact fun _ k => mp_to rfl k | exact fun _ k => mp_of rfl k | exact fun _ k => mp_of rfl (mp_to rfl k)) (fun h k => sat_pick 0 rfl (by first | exact fun _ k => k | exact fun _ k => blk_to rfl rfl k | exact fun _ k => vec_to rfl k | exact fun _ k => blk_of rfl rfl k | exact fun _ k => vec_of rfl k | exact fun _ k => blk_of rfl rfl (blk_to rfl rfl k) | exact fun _ k => vec_of rfl (vec_to rfl k) | exact fun _ k => mp_to rfl k | exact fun _ k => mp_of rfl k | exact fun _ k => mp_of rfl (mp_to rfl k)) (fun h k => sat_nil k) k) k)⟩
end Go.Proofs.Ytlgdagjbphafcaa.Sc
