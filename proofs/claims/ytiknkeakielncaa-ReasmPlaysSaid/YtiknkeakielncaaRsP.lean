/- reasm: stretches by themselves (no program): laying one more, melting. Conditions: none. -/
import Derived.Test.YtiknkeakielncaaRsA
namespace Go.Proofs.Ytiknkeakielncaa.Rs
open Go Go.Proofs Sx
set_option linter.unusedVariables false
set_option linter.unusedSimpArgs false

/-- A stretch, told by itself. -/
abbrev T := Int × List UInt8
def T.stop (s : T) : Int := s.1 + s.2.length
/-- The byte at a place. -/
def T.get (s : T) (k : Int) : Option UInt8 := if s.1 ≤ k then s.2[(k - s.1).toNat]? else none
def cov (l : List T) (k : Int) : Option UInt8 := l.findSome? (fun s => s.get k)
theorem get_none {s : T} {k : Int} : s.get k = none ↔ k < s.1 ∨ s.stop ≤ k := by
  unfold T.get T.stop
  split
  · rw [List.getElem?_eq_none_iff]; omega
  · simp; omega
theorem get_take {s : T} {n : Nat} {k : Int} (h : k < s.1 + n) : T.get (s.1, s.2.take n) k = s.get k := by
  unfold T.get
  split
  · rename_i h1
    simp only at h1
    rw [List.getElem?_take, if_pos (by simp only; omega)]
  · rfl
theorem get_drop {s : T} {n : Nat} {k : Int} (h : s.1 + n ≤ k) : T.get (s.1 + n, s.2.drop n) k = s.get k := by
  unfold T.get
  simp only
  rw [if_pos h, if_pos (by omega), List.getElem?_drop]
  congr 1; omega
theorem cov_nil (k : Int) : cov [] k = none := rfl
theorem cov_cons (s : T) (l : List T) (k : Int) : cov (s :: l) k = (s.get k).or (cov l k) := by
  unfold cov
  rw [List.findSome?_cons]
  cases s.get k <;> rfl
theorem cov_append (l m : List T) (k : Int) : cov (l ++ m) k = (cov l k).or (cov m k) := by
  unfold cov
  rw [List.findSome?_append]
theorem cov_none {l : List T} {k : Int} (h : ∀ s ∈ l, k < s.1 ∨ s.stop ≤ k) : cov l k = none := by
  unfold cov
  rw [List.findSome?_eq_none_iff]
  exact fun s hs => get_none.2 (h s hs)
def T.cut (s : T) (n : Nat) : T := (s.1 + n, s.2.drop n)
/-- What is new, by what is there. -/
def gaps : List T → T → List T
  | [], s => if s.2 = [] then [] else [s]
  | x :: l, s =>
    if s.2 = [] then [] else
    if s.1 < x.1 then
      let n := min s.2.length (x.1 - s.1).toNat
      let s' := s.cut n
      (s.1, s.2.take n) :: gaps l (s'.cut (min (x.stop - s'.1).toNat s'.2.length))
    else gaps l (s.cut (min (x.stop - s.1).toNat s.2.length))
def So (l : List T) : Prop := l.Pairwise (fun x y => x.stop ≤ y.1)
theorem cut_stop (s : T) {n : Nat} (h : n ≤ s.2.length) : (s.cut n).stop = s.stop := by
  unfold T.cut T.stop
  simp only [List.length_drop]; omega
theorem gaps_in : ∀ {l : List T} {s : T}, ∀ y ∈ gaps l s, y.2 ≠ [] ∧ s.1 ≤ y.1 ∧ y.stop ≤ s.stop
  | [], s, y, hy => by
    unfold gaps at hy
    split at hy
    · cases hy
    · rename_i h
      simp only [List.mem_singleton] at hy; subst hy
      exact ⟨h, by omega, by omega⟩
  | x :: l, s, y, hy => by
    unfold gaps at hy
    split at hy
    · cases hy
    rename_i h
    have h0 : 0 < s.2.length := by
      cases hs : s.2 with
      | nil => exact absurd hs h
      | cons => simp
    split at hy
    · rename_i h1
      simp only [List.mem_cons] at hy
      rcases hy with rfl | hy
      · refine ⟨?_, by simp only; omega, ?_⟩
        · intro e
          have e2 := congrArg List.length e
          simp only [List.length_take, List.length_nil] at e2
          omega
        · unfold T.stop; simp only [List.length_take]; omega
      · obtain ⟨a, b, c⟩ := gaps_in y hy
        rw [cut_stop _ (by omega), cut_stop _ (by omega)] at c
        refine ⟨a, ?_, c⟩
        unfold T.cut at b
        simp only at b
        omega
    · obtain ⟨a, b, c⟩ := gaps_in y hy
      rw [cut_stop _ (by omega)] at c
      refine ⟨a, ?_, c⟩
      unfold T.cut at b
      simp only at b
      omega
theorem so_tail {x : T} {l : List T} (h : So (x :: l)) : So l ∧ ∀ y ∈ l, x.stop ≤ y.1 := ⟨(List.pairwise_cons.1 h).2, (List.pairwise_cons.1 h).1⟩
theorem gaps_so : ∀ {l : List T} {s : T}, So (gaps l s)
  | [], s => by
    unfold gaps
    split
    · exact .nil
    · exact List.pairwise_singleton _ _
  | x :: l, s => by
    unfold gaps
    split
    · exact .nil
    split
    · refine List.pairwise_cons.2 ⟨fun y hy => ?_, gaps_so⟩
      obtain ⟨_, b, _⟩ := gaps_in y hy
      unfold T.cut at b
      unfold T.stop
      simp only [List.length_take] at b ⊢
      omega
    · exact gaps_so
theorem gaps_off : ∀ {l : List T} {s : T}, So l → (∀ x ∈ l, x.2 ≠ []) → ∀ y ∈ gaps l s, ∀ x ∈ l, y.stop ≤ x.1 ∨ x.stop ≤ y.1
  | [], _, _, _ => by simp
  | x :: l, s, hl, he => by
    obtain ⟨h1, h2⟩ := so_tail hl
    unfold gaps
    split
    · simp
    rename_i h
    split
    · rename_i h3
      intro y hy z hz
      simp only [List.mem_cons] at hy hz
      rcases hy with rfl | hy
      · left
        have h4 : T.stop (s.1, List.take (min s.2.length (x.1 - s.1).toNat) s.2) ≤ x.1 := by
          unfold T.stop; simp only [List.length_take]; omega
        rcases hz with rfl | hz
        · exact h4
        · have := h2 z hz
          have : x.1 ≤ x.stop := by unfold T.stop; omega
          omega
      · obtain ⟨a, b, c⟩ := gaps_in y hy
        rcases hz with rfl | hz
        · right
          have d : 0 < y.2.length := List.length_pos_iff.2 a
          rw [cut_stop _ (by omega), cut_stop _ (by omega)] at c
          unfold T.cut at b
          unfold T.stop at *
          simp only [List.length_drop] at b c ⊢
          omega
        · exact gaps_off h1 (fun x hx => he x (List.mem_cons_of_mem _ hx)) y hy z hz
    · rename_i h3
      intro y hy z hz
      simp only [List.mem_cons] at hz
      rcases hz with rfl | hz
      · right
        obtain ⟨a, b, c⟩ := gaps_in y hy
        have d : 0 < y.2.length := List.length_pos_iff.2 a
        rw [cut_stop _ (by omega)] at c
        unfold T.cut at b
        unfold T.stop at *
        simp only [List.length_drop] at b c ⊢
        omega
      · exact gaps_off h1 (fun x hx => he x (List.mem_cons_of_mem _ hx)) y hy z hz
theorem or_comm_of {α : Type} {a b : Option α} (h : a = none ∨ b = none) : a.or b = b.or a := by
  rcases h with rfl | rfl
  · cases b <;> rfl
  · cases a <;> rfl
/-- Where the old ones have nothing, the gaps have what the new one has. -/
theorem gaps_cov : ∀ {l : List T} {s : T} {k : Int}, So l → cov l k = none → cov (gaps l s) k = s.get k
  | [], s, k, _, _ => by
    unfold gaps
    split
    · rename_i h
      rw [cov_nil]; unfold T.get
      rw [h]; simp
    · rw [cov_cons, cov_nil]; cases s.get k <;> rfl
  | x :: l, s, k, hl, hc => by
    obtain ⟨h1, h2⟩ := so_tail hl
    rw [cov_cons, Option.or_eq_none_iff] at hc
    obtain ⟨hx, hc⟩ := hc
    have hx := get_none.1 hx
    have hcut : ∀ (z : T), x.1 ≤ z.1 → T.get (z.cut (min (x.stop - z.1).toNat z.2.length)) k = z.get k := by
      intro z hz
      by_cases h3 : z.1 + (min (x.stop - z.1).toNat z.2.length : Nat) ≤ k
      · exact get_drop h3
      · have : z.get k = none := get_none.2 (by omega)
        rw [this]
        exact get_none.2 (.inl (by unfold T.cut; simp only; omega))
    unfold gaps
    split
    · rename_i h
      rw [cov_nil]; unfold T.get
      rw [h]; simp
    split
    · rename_i h3
      simp only
      rw [cov_cons, gaps_cov h1 hc]
      generalize hn : min s.2.length (x.1 - s.1).toNat = n
      by_cases h4 : k < s.1 + n
      · rw [get_take h4]
        cases hg : s.get k with
        | some v => rfl
        | none =>
          rw [Option.none_or]
          refine get_none.2 ?_
          rw [get_none] at hg
          have : (T.cut s n).stop = s.stop := cut_stop _ (by omega)
          rw [cut_stop _ (by omega), this]
          rcases hg with hg | hg
          · left; unfold T.cut; simp only; omega
          · right; exact hg
      · have e1 : T.get (s.1, s.2.take n) k = none := get_none.2 (.inr (by unfold T.stop; simp only [List.length_take]; omega))
        rw [e1, Option.none_or]
        by_cases h5 : n = s.2.length
        · have e2 : s.get k = none := get_none.2 (.inr (by unfold T.stop; omega))
          rw [e2]
          refine get_none.2 (.inr ?_)
          rw [cut_stop _ (by omega), cut_stop _ (by omega)]
          unfold T.stop; omega
        · rw [hcut _ (by unfold T.cut; simp only; omega)]
          exact get_drop (by omega)
    · rename_i h3
      rw [gaps_cov h1 hc]
      exact hcut _ (by omega)
/-! ### Melting -/
def mstep (out : List T) (x : T) : List T :=
  match out.getLast? with
  | some y => if y.stop = x.1 then out.dropLast ++ [(y.1, y.2 ++ x.2)] else out ++ [x]
  | none => [x]
def melt (l : List T) : List T := l.foldl mstep []
structure WF (l : List T) : Prop where
  apart : l.Pairwise (fun x y => x.stop < y.1)
  some : ∀ x ∈ l, x.2 ≠ []
theorem wf_nil : WF [] := ⟨.nil, by simp⟩
theorem WF.so {l : List T} (w : WF l) : So l := w.apart.imp (fun h => by omega)
def Dis (l : List T) : Prop := l.Pairwise (fun x y => x.stop ≤ y.1 ∨ y.stop ≤ x.1)
theorem So.dis {l : List T} (w : So l) : Dis l := w.imp .inl
theorem get_some {s : T} {k : Int} {v : UInt8} (h : s.get k = some v) : s.1 ≤ k ∧ k < s.stop := by
  by_cases h1 : k < s.1 ∨ s.stop ≤ k
  · rw [get_none.2 h1] at h; cases h
  · omega
theorem cov_some {l : List T} {k : Int} {v : UInt8} (d : Dis l) : cov l k = some v ↔ ∃ s ∈ l, s.get k = some v := by
  constructor
  · intro h
    exact List.exists_of_findSome?_eq_some h
  · rintro ⟨s, hs, h⟩
    induction l with
    | nil => cases hs
    | cons x l ih =>
      obtain ⟨d1, d2⟩ := List.pairwise_cons.1 d
      rw [cov_cons]
      simp only [List.mem_cons] at hs
      rcases hs with rfl | hs
      · rw [h]; rfl
      · have e : x.get k = none := by
          have := get_some h
          exact get_none.2 (by have := d1 s hs; omega)
        rw [e, Option.none_or]
        exact ih d2 hs
theorem cov_perm {l m : List T} (d : Dis l) (p : l.Perm m) (k : Int) : cov l k = cov m k := by
  have d2 : Dis m := (p.pairwise_iff (fun h => Or.symm h)).1 d
  apply Option.ext
  intro v
  rw [cov_some d, cov_some d2]
  exact ⟨fun ⟨s, a, b⟩ => ⟨s, p.mem_iff.1 a, b⟩, fun ⟨s, a, b⟩ => ⟨s, p.mem_iff.2 a, b⟩⟩
theorem dis_so : ∀ {l : List T}, Dis l → (∀ x ∈ l, x.2 ≠ []) → l.Pairwise (fun x y => x.1 ≤ y.1) → So l
  | [], _, _, _ => .nil
  | x :: l, d, e, p => by
    obtain ⟨d1, d2⟩ := List.pairwise_cons.1 d
    obtain ⟨p1, p2⟩ := List.pairwise_cons.1 p
    refine List.pairwise_cons.2 ⟨fun y hy => ?_, dis_so d2 (fun z hz => e z (List.mem_cons_of_mem _ hz)) p2⟩
    have a := d1 y hy
    have b := p1 y hy
    have c := List.length_pos_iff.2 (e y (List.mem_cons_of_mem _ hy))
    unfold T.stop at *
    omega
theorem get_app (y : T) (b : List UInt8) (k : Int) : T.get (y.1, y.2 ++ b) k = (y.get k).or (T.get (y.stop, b) k) := by
  unfold T.get T.stop
  simp only
  by_cases h : y.1 ≤ k
  · rw [if_pos h, if_pos h]
    by_cases h2 : k < y.1 + y.2.length
    · rw [List.getElem?_append_left (by omega), List.getElem?_eq_getElem (by omega)]; rfl
    · rw [List.getElem?_append_right (by omega), List.getElem?_eq_none (l := y.2) (by omega), Option.none_or, if_pos (by omega)]
      congr 1; omega
  · rw [if_neg h, if_neg h, if_neg (by omega)]; rfl
theorem mstep_none (x : T) : mstep [] x = [x] := rfl
theorem mstep_some (o : List T) (y x : T) : mstep (o ++ [y]) x = if y.stop = x.1 then o ++ [(y.1, y.2 ++ x.2)] else o ++ [y] ++ [x] := by
  unfold mstep
  simp only [List.getLast?_append, List.getLast?_singleton, Option.some_or, List.dropLast_concat]
theorem mstep_does {out : List T} {x : T} (w : WF out) (hx : x.2 ≠ []) (h : ∀ y ∈ out, y.stop ≤ x.1) :
    WF (mstep out x) ∧ (∀ k, cov (mstep out x) k = (cov out k).or (x.get k)) ∧ (∀ y ∈ mstep out x, y.stop ≤ x.stop) ∧ (∀ lo, (∀ y ∈ out, lo ≤ y.1) → lo ≤ x.1 → ∀ y ∈ mstep out x, lo ≤ y.1) := by
  have hp : 0 < x.2.length := List.length_pos_iff.2 hx
  have hsx : x.1 ≤ x.stop := by unfold T.stop; omega
  rcases List.eq_nil_or_concat out with rfl | ⟨o, y, rfl⟩
  · rw [mstep_none]
    exact ⟨⟨List.pairwise_singleton _ _, by simpa using hx⟩, fun k => by rw [cov_cons, cov_nil]; cases x.get k <;> rfl, by simp, by simp⟩
  · rw [List.concat_eq_append] at *
    obtain ⟨a1, a2, a3⟩ := List.pairwise_append.1 w.apart
    rw [mstep_some]
    split
    · rename_i e
      have hs : T.stop (y.1, y.2 ++ x.2) = x.stop := by unfold T.stop at *; simp only [List.length_append]; omega
      refine ⟨⟨List.pairwise_append.2 ⟨a1, List.pairwise_singleton _ _, ?_⟩, ?_⟩, fun k => ?_, ?_, ?_⟩
      · intro a ha b hb
        simp only [List.mem_singleton] at hb; subst hb
        exact a3 a ha y (by simp)
      · intro z hz
        simp only [List.mem_append, List.mem_singleton] at hz
        rcases hz with hz | rfl
        · exact w.some z (by simp [hz])
        · simp [hx]
      · rw [cov_append, cov_append, cov_cons, cov_cons, cov_nil, get_app, e]
        simp only [Option.or_none, Option.or_assoc]
      · intro z hz
        simp only [List.mem_append, List.mem_singleton] at hz
        rcases hz with hz | rfl
        · have := h z (by simp [hz]); omega
        · omega
      · intro lo h1 h2 z hz
        simp only [List.mem_append, List.mem_singleton] at hz
        rcases hz with hz | rfl
        · exact h1 z (by simp [hz])
        · exact h1 y (by simp)
    · rename_i e
      have hy := h y (by simp)
      refine ⟨⟨List.pairwise_append.2 ⟨w.apart, List.pairwise_singleton _ _, ?_⟩, ?_⟩, fun k => ?_, ?_, ?_⟩
      · intro a ha b hb
        simp only [List.mem_singleton] at hb; subst hb
        simp only [List.mem_append, List.mem_singleton] at ha
        rcases ha with ha | rfl
        · have := a3 a ha y (by simp)
          have : y.1 ≤ y.stop := by unfold T.stop; omega
          omega
        · omega
      · intro z hz
        simp only [List.mem_append, List.mem_singleton] at hz
        rcases hz with hz | rfl
        · exact w.some z (by simpa using hz)
        · exact hx
      · rw [cov_append, cov_cons, cov_nil]
        simp only [Option.or_none]
      · intro z hz
        simp only [List.mem_append, List.mem_singleton] at hz
        rcases hz with hz | rfl
        · have := h z (by simpa using hz); omega
        · omega
      · intro lo h1 h2 z hz
        simp only [List.mem_append, List.mem_singleton] at hz
        rcases hz with hz | rfl
        · exact h1 z (by simpa using hz)
        · exact h2
theorem fold_does : ∀ {l out : List T}, WF out → So l → (∀ x ∈ l, x.2 ≠ []) → (∀ y ∈ out, ∀ x ∈ l, y.stop ≤ x.1) →
    WF (l.foldl mstep out) ∧ (∀ k, cov (l.foldl mstep out) k = (cov out k).or (cov l k)) ∧ (∀ hi, (∀ y ∈ out, y.stop ≤ hi) → (∀ x ∈ l, x.stop ≤ hi) → ∀ y ∈ l.foldl mstep out, y.stop ≤ hi) ∧ (∀ lo, (∀ y ∈ out, lo ≤ y.1) → (∀ x ∈ l, lo ≤ x.1) → ∀ y ∈ l.foldl mstep out, lo ≤ y.1)
  | [], out, w, _, _, _ => ⟨w, fun k => by rw [cov_nil, Option.or_none]; rfl, fun hi h _ => h, fun lo h _ => h⟩
  | x :: l, out, w, s, e, h => by
    obtain ⟨s1, s2⟩ := so_tail s
    obtain ⟨a1, a2, a3, a4⟩ := mstep_does w (e x (by simp)) (fun y hy => h y hy x (by simp))
    obtain ⟨b1, b2, b3, b4⟩ := fold_does (l := l) a1 s1 (fun z hz => e z (List.mem_cons_of_mem _ hz)) (fun y hy z hz => Int.le_trans (a3 y hy) (s2 z hz))
    refine ⟨b1, fun k => ?_, fun hi h1 h2 => ?_, fun lo h1 h2 => ?_⟩
    · show cov (l.foldl mstep (mstep out x)) k = _
      rw [b2, a2, cov_cons, Option.or_assoc]
    · exact b3 hi (fun y hy => Int.le_trans (a3 y hy) (h2 x (by simp))) (fun z hz => h2 z (List.mem_cons_of_mem _ hz))
    · exact b4 lo (a4 lo h1 (h2 x (by simp))) (fun z hz => h2 z (List.mem_cons_of_mem _ hz))
/-- One more laid. -/
theorem laid {l m : List T} {s : T} (w : WF l) (p : (l ++ gaps l s).Perm m) (q : m.Pairwise (fun x y => x.1 ≤ y.1)) :
    WF (melt m) ∧ (∀ k, cov (melt m) k = (cov l k).or (s.get k)) ∧ (∀ hi, (∀ y ∈ l, y.stop ≤ hi) → s.stop ≤ hi → ∀ y ∈ melt m, y.stop ≤ hi) ∧ (∀ lo, (∀ y ∈ l, lo ≤ y.1) → lo ≤ s.1 → ∀ y ∈ melt m, lo ≤ y.1) := by
  have hso := w.so
  have hd : Dis (l ++ gaps l s) := List.pairwise_append.2 ⟨hso.dis, gaps_so.dis, fun a ha b hb => (gaps_off hso w.some b hb a ha).symm⟩
  have he : ∀ x ∈ l ++ gaps l s, x.2 ≠ [] := by
    intro x hx
    rcases List.mem_append.1 hx with hx | hx
    · exact w.some x hx
    · exact (gaps_in x hx).1
  have hdm : Dis m := (p.pairwise_iff (fun h => Or.symm h)).1 hd
  have hem : ∀ x ∈ m, x.2 ≠ [] := fun x hx => he x (p.mem_iff.2 hx)
  obtain ⟨a, b, c, d⟩ := fold_does (l := m) wf_nil (dis_so hdm hem q) hem (by simp)
  refine ⟨a, fun k => ?_, fun hi h1 h2 => ?_, fun lo h1 h2 => ?_⟩
  · show cov (m.foldl mstep []) k = _
    rw [b, cov_nil, Option.none_or, ← cov_perm hd p, cov_append]
    cases h : cov l k with
    | some v => rfl
    | none => rw [gaps_cov hso h]
  · refine c hi (by simp) (fun x hx => ?_)
    rcases List.mem_append.1 (p.mem_iff.2 hx) with hx | hx
    · exact h1 x hx
    · exact Int.le_trans (gaps_in x hx).2.2 h2
  · refine d lo (by simp) (fun x hx => ?_)
    rcases List.mem_append.1 (p.mem_iff.2 hx) with hx | hx
    · exact h1 x hx
    · exact Int.le_trans h2 (gaps_in x hx).2.1
theorem get_is {s : T} {k : Int} (h1 : s.1 ≤ k) (h2 : k < s.stop) : ∃ v, s.get k = some v := by
  cases h : s.get k with
  | some v => exact ⟨v, rfl⟩
  | none => rw [get_none] at h; omega
/-- All there is one stretch. -/
theorem full_one {l : List T} {n : Int} (w : WF l) (h0 : 0 < n) (hlo : ∀ x ∈ l, 0 ≤ x.1) (hhi : ∀ x ∈ l, x.stop ≤ n) : (∀ k, 0 ≤ k → k < n → cov l k ≠ none) ↔ ∃ x, l = [x] ∧ x.1 = 0 ∧ x.stop = n := by
  constructor
  · intro h
    cases l with
    | nil => exact absurd (cov_nil 0) (h 0 (by omega) h0)
    | cons x l =>
      obtain ⟨a1, a2⟩ := List.pairwise_cons.1 w.apart
      have hd := w.so.dis
      have hx : x.1 = 0 := by
        obtain ⟨v, hv⟩ := Option.ne_none_iff_exists'.1 (h 0 (by omega) h0)
        obtain ⟨s, hs, hg⟩ := (cov_some hd).1 hv
        have g := get_some hg
        simp only [List.mem_cons] at hs
        rcases hs with rfl | hs
        · have := hlo s (by simp); omega
        · have := a1 s hs
          have := hlo x (by simp)
          have : x.1 ≤ x.stop := by unfold T.stop; omega
          omega
      have hs : x.stop = n := by
        by_cases e : x.stop = n
        · exact e
        have := hhi x (by simp)
        obtain ⟨v, hv⟩ := Option.ne_none_iff_exists'.1 (h x.stop (by unfold T.stop; omega) (by omega))
        obtain ⟨s, hs, hg⟩ := (cov_some hd).1 hv
        have g := get_some hg
        simp only [List.mem_cons] at hs
        rcases hs with rfl | hs
        · omega
        · have := a1 s hs; omega
      refine ⟨x, ?_, hx, hs⟩
      cases l with
      | nil => rfl
      | cons y l =>
        have := a1 y (by simp)
        have := hhi y (by simp)
        have := List.length_pos_iff.2 (w.some y (by simp))
        unfold T.stop at *
        omega
  · rintro ⟨x, rfl, h1, h2⟩ k hk hn
    rw [cov_cons, cov_nil, Option.or_none]
    obtain ⟨v, hv⟩ := get_is (s := x) (k := k) (by omega) (by omega)
    rw [hv]; simp
def topT (l : List T) : Int := match l.getLast? with | some x => x.stop | none => 0
/-- The last of them stops last. -/
theorem top_last {l : List T} (w : WF l) : ∀ x ∈ l, x.stop ≤ topT l := by
  intro x hx
  rcases List.eq_nil_or_concat l with rfl | ⟨o, y, rfl⟩
  · cases hx
  · rw [List.concat_eq_append] at *
    obtain ⟨a1, a2, a3⟩ := List.pairwise_append.1 w.apart
    unfold topT
    simp only [List.getLast?_append, List.getLast?_singleton, Option.some_or]
    simp only [List.mem_append, List.mem_singleton] at hx
    rcases hx with hx | rfl
    · have := a3 x hx y (by simp)
      have : y.1 ≤ y.stop := by unfold T.stop; omega
      omega
    · omega
end Go.Proofs.Ytiknkeakielncaa.Rs
