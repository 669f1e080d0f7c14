/- audit: one mark, as the program takes it. Conditions: none. -/
import Derived.Test.YtlgdagjbphafcaaAuL
namespace Go.Proofs.Ytlgdagjbphafcaa.Au
open Go Go.Proofs Sx
set_option maxRecDepth 100000
set_option linter.unusedVariables false
set_option linter.unusedSimpArgs false
set_option maxHeartbeats 4000000

theorem ids_set {zs : List Z} {i : Nat} {z z' : Z} (hz : zs[i]? = some z) (e : z'.1.key = z.1.key) (eb : z'.2.1 = z.2.1) (h c : Int) : ids (zs.set i z') h c = ids zs h c := by
  have key : ∀ l : List Z, ids l h c = ((l.map fun z => (z.1.key, z.2.1)).filter (fun k => at' h c k.1)).map (·.2) := fun l => by
    unfold ids
    rw [List.filter_map, List.map_map]; rfl
  rw [key, key, map_set_same hz (by show (z'.1.key, z'.2.1) = (z.1.key, z.2.1); rw [e, eb])]
theorem bk_set {rb mb : Nat} {ps : List P} {zs : List Z} {i : Nat} {z z' : Z} (hz : zs[i]? = some z) (e : z'.1.key = z.1.key) (eb : z'.2.1 = z.2.1) :
    Bk rb mb ps (zs.set i z') = [pt rb (.cells #[.map (some mb)] 145 (0, 0)), MapA mb K2 (ps.map (P.key zs)), Alls (ps.map (P.vec zs)), Blks ((zs.map zblk).set i (zblk z'))] := by
  have h1 : ps.map (P.key (zs.set i z')) = ps.map (P.key zs) := List.map_congr_left fun q _ => by unfold P.key; rw [ids_set hz e eb]
  have h2 : ps.map (P.vec (zs.set i z')) = ps.map (P.vec zs) := List.map_congr_left fun q _ => by unfold P.vec; rw [ids_set hz e eb]
  unfold Bk
  rw [h1, h2, List.map_set]
theorem inv_set {ps : List P} {zs : List Z} (I : Inv ps zs) {i : Nat} {z : Z} (hz : zs[i]? = some z) {y : X} (e : y.key = z.1.key) (q : y.q = z.1.q) (t : y.tied = z.1.tied) (g : y.ended = false → y.gone = false) : Inv ps (zs.set i (y, z.2)) := by
  have hk : y.host = z.1.host ∧ y.ctx = z.1.ctx ∧ y.ticket = z.1.ticket := by simpa [X.key] using e
  have hzm := List.mem_of_getElem? hz
  have hil := (List.getElem?_eq_some_iff.1 hz).1
  have hw : (zs.set i (y, z.2)).map (·.1) = (zs.map (·.1)).set i y := by rw [List.map_set]
  have hm : ∀ a ∈ zs, ∃ a' ∈ zs.set i (y, z.2), a'.1.key = a.1.key ∧ a'.2.1 = a.2.1 := fun a ha => by
    obtain ⟨j, hj, rfl⟩ := List.getElem_of_mem ha
    by_cases e9 : j = i
    · subst e9
      refine ⟨(y, z.2), List.mem_of_getElem? (List.getElem?_set_self hil), ?_⟩
      rw [List.getElem?_eq_getElem hj] at hz
      rw [Option.some.inj hz]; exact ⟨e, rfl⟩
    · refine ⟨zs[j], List.mem_of_getElem? (i := j) (by rw [List.getElem?_set_ne (Ne.symm e9), List.getElem?_eq_getElem hj]), rfl, rfl⟩
  have back : ∀ a ∈ zs.set i (y, z.2), a = (y, z.2) ∨ a ∈ zs := fun a ha => by
    rcases List.mem_or_eq_of_mem_set ha with h | h
    · exact .inr h
    · exact .inl h
  have ahT : ∀ a : Z, AhZ zs a → AhZ (zs.set i (y, z.2)) a := fun a h => by
    unfold AhZ at h ⊢
    split
    · rename_i ht
      rw [if_pos ht] at h
      obtain ⟨b, h1, h2, h3⟩ := h
      obtain ⟨b', h4, h5, h6⟩ := hm b h1
      have hb : b'.1.host = b.1.host ∧ b'.1.ctx = b.1.ctx ∧ b'.1.ticket = b.1.ticket := by simpa [X.key] using h5
      obtain ⟨r1, r2, r3⟩ := hit_iff.1 h2
      exact ⟨b', h4, hit_iff.2 ⟨by rw [hb.1, r1], by rw [hb.2.1, r2], by rw [hb.2.2, r3]⟩, by rw [h6]; exact h3⟩
    · rename_i ht
      rw [if_neg ht] at h
      exact h
  refine ⟨I.nd, fun a ha => ?_, fun p hp => ?_, fun p hp => ?_, I.at_, ?_, fun a ha => ?_, by rw [List.length_set]; exact I.few, fun a ha => ?_⟩
  · rcases back a ha with rfl | h
    · show ∃ p ∈ ps, p.h = y.host ∧ p.c = y.ctx
      rw [hk.1, hk.2.1]; exact I.cover z hzm
    · exact I.cover a h
  · rw [ids_set (z' := (y, z.2)) hz e rfl]; exact I.cap p hp
  · rw [ids_set (z' := (y, z.2)) hz e rfl]; exact I.some p hp
  · rw [hw]
    exact I.wf.put (x := z.1) (by rw [List.getElem?_map, hz]; rfl) e q
  · rcases back a ha with rfl | h
    · refine ahT _ ?_
      have := I.ah z hzm
      unfold AhZ at this ⊢
      rw [← t, ← hk.1, ← hk.2.1, ← hk.2.2] at this
      exact this
    · exact ahT a (I.ah a h)
  · rcases back a ha with rfl | h
    · exact g
    · exact I.gn a h
/-- What holds of the one ahead of an entry. -/
theorem ah_of {ps : List P} {zs : List Z} (I : Inv ps zs) {z : Z} (hz : z ∈ zs) : AhB (zs.map zblk) (began (zs.map (·.1)) z.1) (waits (zs.map (·.1)) z.1) z.2.2 := by
  have h := I.ah z hz
  unfold AhZ at h
  unfold began waits
  by_cases ht : z.1.tied = true
  · rw [if_pos ht] at h ⊢
    obtain ⟨a, h1, h2, h3⟩ := h
    have ham : a.1 ∈ zs.map (·.1) := List.mem_map.2 ⟨a, h1, rfl⟩
    obtain ⟨j, hj, e⟩ := List.getElem_of_mem ham
    have hl := look_of I.wf.uq (i := j) (by rw [List.getElem?_eq_getElem hj, e]) h2
    rw [hl, h3, ht]
    exact ⟨a.1, a.2.2, I.wf.qs _ ham, List.mem_map.2 ⟨a, h1, rfl⟩, rfl, by simp⟩
  · rw [if_neg ht] at h ⊢
    rw [h]
    have : z.1.tied = false := by simpa using ht
    exact ⟨rfl, by rw [this]; rfl⟩
theorem more_bad (l : List X) (m : M) (x : X) : moreP x m.c (began l x) = !badM l m x := by
  rw [Bool.eq_iff_iff]
  simp only [moreP, badM, Bool.and_eq_true, Bool.or_eq_true, Bool.not_eq_true', Bool.or_eq_false_iff, Bool.and_eq_false_iff, beq_iff_eq, bne_iff_ne, decide_eq_true_eq, decide_eq_false_iff_not, bne_eq_false_iff_eq, beq_eq_false_iff_ne, Bool.not_eq_false', ne_eq]
  constructor
  · rintro ⟨h1, h2, h3, h4⟩
    exact ⟨⟨⟨h1, by omega⟩, h3⟩, by omega⟩
  · rintro ⟨⟨⟨h1, h2⟩, h3⟩, h4⟩
    exact ⟨h1, by omega, h3, by omega⟩
def Agree (m : M) (d : Option X) (p : Bool × X) : Prop := match d with
  | none => p.1 = false
  | some y => p.1 = true ∧ (∀ ah, scells y ah = scells p.2 ah) ∧ (y.ended = false → y.gone = false)
theorem done_eq {l : List X} {m : M} {x : X} (hg : x.ended = false → x.gone = false) : Agree m (doneX l m x) (doneP x m.c (began l x) (waits l x)) := by
  by_cases h1 : (x.ended || m.c.user != x.q.user) = true
  · have hd : doneX l m x = none := by unfold doneX; rw [if_pos h1]
    have hp : doneP x m.c (began l x) (waits l x) = (false, x) := by unfold doneP; rw [if_pos (by rw [h1]; rfl)]
    rw [hd, hp]; rfl
  by_cases h2 : waits l x = true
  · have hd : doneX l m x = none := by unfold doneX; rw [if_neg h1, if_pos h2]
    have hp : doneP x m.c (began l x) (waits l x) = (false, x) := by unfold doneP; rw [if_pos (by rw [h2]; simp)]
    rw [hd, hp]; rfl
  have hn : ¬ (x.ended || m.c.user != x.q.user || waits l x) = true := by
    intro h
    rcases Bool.or_eq_true_iff.1 h with h | h
    · exact h1 h
    · exact h2 h
  have he : x.ended = false := by
    cases h : x.ended with
    | false => rfl
    | true => rw [h] at h1; simp at h1
  by_cases h3 : m.c.fl % 2 = 1
  · have hgo := hg he
    have hp : doneP x m.c (began l x) (waits l x) = (moreP x m.c (began l x) && okQ x.q, x) := by unfold doneP; rw [if_neg hn, if_pos h3]
    have hd : doneX l m x = if badM l m x then none else chk m { x with more := IntKind.i64.wrap (x.more + 1) } := by unfold doneX; rw [if_neg h1, if_neg h2, if_pos h3]
    rw [hd, hp, more_bad]
    cases hb : badM l m x with
    | true => rfl
    | false =>
      have hres : ¬ m.c.res < 0 := by
        simp only [badM, Bool.or_eq_false_iff, decide_eq_false_iff_not] at hb
        exact hb.2
      have e1 : badG m { x with more := IntKind.i64.wrap (x.more + 1) } = false := by simp [badG, hgo]
      cases hk : okQ x.q with
      | true =>
        have e2 : badK m { x with more := IntKind.i64.wrap (x.more + 1) } = false := by simp [badK, hk]
        have ec : chk m { x with more := IntKind.i64.wrap (x.more + 1) } = some { x with more := IntKind.i64.wrap (x.more + 1) } := by unfold chk; rw [e1, e2]; rfl
        rw [if_neg (by decide), ec]
        exact ⟨rfl, fun _ => rfl, fun _ => hgo⟩
      | false =>
        have e2 : badK m { x with more := IntKind.i64.wrap (x.more + 1) } = true := by simp [badK, hk, hgo]; omega
        have ec : chk m { x with more := IntKind.i64.wrap (x.more + 1) } = none := by unfold chk; rw [e1, e2]; rfl
        rw [if_neg (by decide), ec]
        rfl
  · have hp : doneP x m.c (began l x) (waits l x) = (endsP m.c (endX x m.c (began l x)), endX x m.c (began l x)) := by unfold doneP; rw [if_neg hn, if_neg h3]
    have hd : doneX l m x = chk m (endX x m.c (began l x)) := by unfold doneX; rw [if_neg h1, if_neg h2, if_neg h3]; rfl
    rw [hd, hp]
    generalize began l x = r
    have e3 : endsP m.c (endX x m.c r) = (!badG m (endX x m.c r) && !badK m (endX x m.c r)) := by
      rw [Bool.eq_iff_iff]
      cases r with
      | true =>
        simp only [endsP, badG, badK, endX, Bool.not_true, Bool.false_and, Bool.not_false, Bool.true_and, Bool.and_eq_true, Bool.or_eq_true, Bool.not_eq_true', Bool.and_eq_false_iff, bne_eq_false_iff_eq, beq_iff_eq, Bool.not_eq_false', Bool.false_eq_true, if_false]
      | false =>
        simp only [endsP, badG, badK, endX, Bool.not_true, Bool.false_and, Bool.not_false, Bool.true_and, Bool.and_true, Bool.and_eq_true, Bool.or_eq_true, Bool.not_eq_true', Bool.and_eq_false_iff, Bool.or_eq_false_iff, bne_eq_false_iff_eq, beq_iff_eq, Bool.not_eq_false', if_true]
    rw [e3]
    unfold chk
    cases badG m (endX x m.c r) with
    | true => rfl
    | false =>
      cases badK m (endX x m.c r) with
      | true => rfl
      | false => exact ⟨rfl, fun _ => rfl, fun h => by cases h⟩
end Go.Proofs.Ytlgdagjbphafcaa.Au
