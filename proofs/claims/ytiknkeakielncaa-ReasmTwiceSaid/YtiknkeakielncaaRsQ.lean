/- reasm: pieces of a packet, put together (no program). Conditions: none. -/
import Derived.Test.YtiknkeakielncaaRsO
namespace Go.Proofs.Ytiknkeakielncaa.Rs
open Go Go.Proofs Sx
set_option linter.unusedVariables false
set_option linter.unusedSimpArgs false

/-- x is the piece of p from a on, of n bytes. -/
structure Piece (p x : Pl) (a n : Nat) : Prop where
  h : x.h = { p.h with off := (a / 8 : Nat), more := decide (a + n < p.data.length) }
  d : x.data = (p.data.drop a).take n
  a8 : 8 ∣ a
  n0 : 0 < n
  le : a + n ≤ p.data.length
  n8 : a + n < p.data.length → 8 ∣ n
  o : a = 0 → x.opts = p.opts
def st (ns : List Nat) (j : Nat) : Nat := (ns.take j).sum
/-- All pieces, one behind the other. -/
structure Part (p : Pl) (X : List Pl) (ns : List Nat) : Prop where
  len : X.length = ns.length
  sum : ns.sum = p.data.length
  pc : ∀ j x n, X[j]? = some x → ns[j]? = some n → Piece p x (st ns j) n
  off : p.h.off = 0
  mor : p.h.more = false
  two : 2 ≤ ns.length
  ol : p.opts.length ≤ 40
  dl : p.data.length ≤ 60000
def In (ns : List Nat) (j : Nat) (k : Int) : Prop := ∃ n, ns[j]? = some n ∧ (st ns j : Int) ≤ k ∧ k < st ns j + n
def byteAt (l : List UInt8) (k : Int) : Option UInt8 := if 0 ≤ k then l[k.toNat]? else none
theorem st_succ {ns : List Nat} {j n : Nat} (h : ns[j]? = some n) : st ns (j + 1) = st ns j + n := by
  unfold st
  rw [List.take_add_one, h, List.sum_append]
  simp
theorem st_mono {ns : List Nat} {i j : Nat} (h : i ≤ j) : st ns i ≤ st ns j := by
  unfold st
  have : ns.take j = ns.take i ++ (ns.take j).drop i := by
    conv => lhs; rw [← List.take_append_drop i (ns.take j)]
    rw [List.take_take, Nat.min_eq_left h]
  rw [this, List.sum_append]
  omega
theorem in_apart {ns : List Nat} {i j : Nat} {k : Int} (h1 : In ns i k) (h2 : In ns j k) : i = j := by
  obtain ⟨n, hn, a1, a2⟩ := h1
  obtain ⟨m, hm, b1, b2⟩ := h2
  by_cases h : i < j
  · have := st_mono (ns := ns) (show i + 1 ≤ j from h)
    rw [st_succ hn] at this
    omega
  · by_cases h' : j < i
    · have := st_mono (ns := ns) (show j + 1 ≤ i from h')
      rw [st_succ hm] at this
      omega
    · omega
theorem st_all (ns : List Nat) : st ns ns.length = ns.sum := by unfold st; rw [List.take_length]
/-- Each place is in one. -/
theorem in_some {ns : List Nat} {k : Int} (h0 : 0 ≤ k) (h1 : k < ns.sum) : ∃ j, j < ns.length ∧ In ns j k := by
  have key : ∀ m, m ≤ ns.length → k < st ns m → ∃ j, j < m ∧ In ns j k := by
    intro m
    induction m with
    | zero => intro _ h; simp [st] at h; omega
    | succ m ih =>
      intro hm h
      by_cases h2 : k < st ns m
      · obtain ⟨j, hj, hi⟩ := ih (by omega) h2
        exact ⟨j, by omega, hi⟩
      · have hn := List.getElem?_eq_getElem (show m < ns.length by omega)
        rw [st_succ hn] at h
        exact ⟨m, by omega, _, hn, by omega, by omega⟩
  exact key ns.length (Nat.le_refl _) (by rw [st_all]; exact h1)
/-- What waits behind the pieces J. -/
structure InvX (p : Pl) (ns : List Nat) (J : List Nat) (x : Mp) : Prop where
  k : x.k = p.key
  wf : WF x.ts
  lo : ∀ y ∈ x.ts, 0 ≤ y.1
  hi : ∀ y ∈ x.ts, y.stop ≤ p.data.length
  cov1 : ∀ k j, j ∈ J → In ns j k → cov x.ts k = byteAt p.data k
  cov0 : ∀ k, (∀ j ∈ J, ¬ In ns j k) → cov x.ts k = none
  last : (x.last = -1 ∧ ∀ j ∈ J, j + 1 < ns.length) ∨ (x.last = p.data.length ∧ ∃ j ∈ J, j + 1 = ns.length)
  fi : (x.fi = none ∧ ∀ j ∈ J, j ≠ 0) ∨ (0 ∈ J ∧ ∃ q, x.fi = some q ∧ q.opts = p.opts ∧ q.h = { p.h with off := 0, more := q.h.more })
theorem invx_new {p : Pl} {ns : List Nat} (till : Int) : InvX p ns [] (newM p.key till) :=
  ⟨rfl, wf_nil, by simp [newM], by simp [newM], by simp, fun _ _ => rfl, .inl ⟨rfl, by simp⟩, .inl ⟨rfl, by simp⟩⟩
theorem st_last {p : Pl} {X : List Pl} {ns : List Nat} (P : Part p X ns) {j n : Nat} (hn : ns[j]? = some n) : (st ns j + n = p.data.length ↔ j + 1 = ns.length) := by
  have hj := (List.getElem?_eq_some_iff.1 hn).1
  constructor
  · intro h
    by_cases e : j + 1 = ns.length
    · exact e
    · have h2 := List.getElem?_eq_getElem (show j + 1 < ns.length by omega)
      have h3 := st_mono (ns := ns) (show j + 1 + 1 ≤ ns.length by omega)
      rw [st_all, P.sum, st_succ h2, st_succ hn] at h3
      obtain ⟨x, hx⟩ : ∃ x, X[j + 1]? = some x := ⟨_, List.getElem?_eq_getElem (by rw [P.len]; omega)⟩
      have := (P.pc _ _ _ hx h2).n0
      omega
  · intro h
    rw [← st_succ hn, h, st_all, P.sum]
theorem get_piece {p x : Pl} {a n : Nat} (hp : Piece p x a n) (k : Int) : x.t.get k = if (a : Int) ≤ k ∧ k < a + n then byteAt p.data k else none := by
  have e8 : (8 * ((a / 8 : Nat) : Int)) = a := by obtain ⟨c, hc⟩ := hp.a8; omega
  unfold T.get Pl.t
  simp only [hp.h, hp.d, e8]
  have hl : ((p.data.drop a).take n).length = n := by rw [List.length_take, List.length_drop]; have := hp.le; omega
  by_cases h1 : (a : Int) ≤ k
  · rw [if_pos h1]
    by_cases h2 : k < a + n
    · rw [if_pos ⟨h1, h2⟩, List.getElem?_take, if_pos (by omega), List.getElem?_drop]
      unfold byteAt
      rw [if_pos (by omega)]
      congr 1; omega
    · rw [if_neg (by omega), List.getElem?_eq_none (by rw [hl]; omega)]
  · rw [if_neg h1, if_neg (by omega)]
theorem stop_piece {p x : Pl} {a n : Nat} (hp : Piece p x a n) : x.t.stop = a + n := by
  have e8 : (8 * ((a / 8 : Nat) : Int)) = a := by obtain ⟨c, hc⟩ := hp.a8; omega
  have hl : ((p.data.drop a).take n).length = n := by rw [List.length_take, List.length_drop]; have := hp.le; omega
  unfold T.stop Pl.t
  simp only [hp.h, hp.d, e8, hl]
theorem key_piece {p x : Pl} {a n : Nat} (hp : Piece p x a n) : x.key = p.key := by
  unfold Pl.key
  rw [hp.h]
/-- One more piece comes. -/
theorem invx_step {p : Pl} {X : List Pl} {ns J : List Nat} (P : Part p X ns) {x : Mp} (I : InvX p ns J x) {j : Nat} {y : Pl} {n : Nat} (hy : X[j]? = some y) (hn : ns[j]? = some n) {ts' : List T} (hl : LaidT x.ts y.t ts') : InvX p ns (j :: J) (moreM x y ts') := by
  have hp := P.pc j y n hy hn
  have hg := get_piece hp
  have hs := stop_piece hp
  have hle := hp.le
  have hmor : y.h.more = decide (st ns j + n < p.data.length) := by rw [hp.h]
  have hoff : y.h.off = ((st ns j / 8 : Nat) : Int) := by rw [hp.h]
  have hjl := st_last P hn
  have hjn := (List.getElem?_eq_some_iff.1 hn).1
  have hj0 : y.h.off = 0 ↔ j = 0 := by
    rw [hoff]
    constructor
    · intro h
      by_cases e : j = 0
      · exact e
      · have h0 := List.getElem?_eq_getElem (show 0 < ns.length by omega)
        obtain ⟨x0, hx0⟩ : ∃ x, X[0]? = some x := ⟨_, List.getElem?_eq_getElem (by rw [P.len]; omega)⟩
        have h1 := (P.pc _ _ _ hx0 h0).n0
        have h2 := st_mono (ns := ns) (show 0 + 1 ≤ j by omega)
        rw [st_succ h0] at h2
        obtain ⟨c, hc⟩ := hp.a8
        omega
    · rintro rfl; simp [st]
  have hcov : ∀ k, cov ts' k = (cov x.ts k).or (y.t.get k) := hl.cov
  refine ⟨I.k, hl.wf, hl.lo, hl.hi _ I.hi (by rw [hs]; omega), fun k i hi hin => ?_, fun k hk => ?_, ?_, ?_⟩
  · show cov ts' k = _
    rw [hcov]
    by_cases hJ : ∃ i' ∈ J, In ns i' k
    · obtain ⟨i', hi', hin'⟩ := hJ
      rw [I.cov1 k i' hi' hin']
      have hne : byteAt p.data k ≠ none := by
        obtain ⟨m, hm, a1, a2⟩ := hin
        obtain ⟨z, hz⟩ : ∃ z, X[i]? = some z := ⟨_, List.getElem?_eq_getElem (by rw [P.len]; exact (List.getElem?_eq_some_iff.1 hm).1)⟩
        have := (P.pc _ _ _ hz hm).le
        unfold byteAt
        rw [if_pos (by omega), List.getElem?_eq_getElem (by omega)]
        simp
      cases hb : byteAt p.data k with
      | none => exact absurd hb hne
      | some v => rfl
    · have hJ : ∀ i' ∈ J, ¬ In ns i' k := fun i' h1 h2 => hJ ⟨i', h1, h2⟩
      rw [I.cov0 k hJ, Option.none_or, hg]
      rcases List.mem_cons.1 hi with rfl | hi
      · obtain ⟨m, hm, a1, a2⟩ := hin
        rw [hn] at hm; cases hm
        rw [if_pos ⟨a1, a2⟩]
      · exact absurd hin (hJ i hi)
  · show cov ts' k = none
    rw [hcov, I.cov0 k (fun i hi => hk i (List.mem_cons_of_mem _ hi)), Option.none_or, hg, if_neg]
    rintro ⟨a1, a2⟩
    exact hk j (by simp) ⟨n, hn, a1, a2⟩
  · show ((if y.h.more = true then x.last else y.t.stop) = -1 ∧ _) ∨ ((if y.h.more = true then x.last else y.t.stop) = p.data.length ∧ _)
    by_cases hm : y.h.more = true
    · rw [if_pos hm]
      have hm2 : j + 1 ≠ ns.length := fun e => by
        rw [hmor] at hm
        have := of_decide_eq_true hm
        have := hjl.2 e
        omega
      rcases I.last with ⟨l1, l2⟩ | ⟨l1, i, l2, l3⟩
      · exact .inl ⟨l1, fun i hi => by
          rcases List.mem_cons.1 hi with rfl | hi
          · omega
          · exact l2 i hi⟩
      · exact .inr ⟨l1, i, List.mem_cons_of_mem _ l2, l3⟩
    · rw [if_neg hm, hs]
      have e : st ns j + n = p.data.length := by
        rw [hmor] at hm
        simp at hm
        omega
      exact .inr ⟨by omega, j, by simp, hjl.1 e⟩
  · show ((if y.h.off = 0 ∧ x.fi = none then some y else x.fi) = none ∧ _) ∨ (_ ∧ ∃ q, (if y.h.off = 0 ∧ x.fi = none then some y else x.fi) = some q ∧ _)
    by_cases h0 : j = 0
    · subst h0
      rcases I.fi with ⟨f1, f2⟩ | ⟨f0, q, f1, f2, f3⟩
      · rw [if_pos ⟨hj0.2 rfl, f1⟩]
        exact .inr ⟨by simp, y, rfl, hp.o (by simp [st]), by rw [hp.h, show ((st ns 0 / 8 : Nat) : Int) = 0 by simp [st]]⟩
      · rw [if_neg (by rw [f1]; simp), f1]
        exact .inr ⟨by simp, q, rfl, f2, f3⟩
    · rw [if_neg (fun h => h0 (hj0.1 h.1))]
      rcases I.fi with ⟨f1, f2⟩ | ⟨f0, q, f1, f2, f3⟩
      · exact .inl ⟨f1, fun i hi => by
          rcases List.mem_cons.1 hi with rfl | hi
          · exact h0
          · exact f2 i hi⟩
      · exact .inr ⟨List.mem_cons_of_mem _ f0, q, f1, f2, f3⟩
/-- All of it is there just when all pieces came. -/
theorem invx_ready {p : Pl} {X : List Pl} {ns J : List Nat} (P : Part p X ns) {x : Mp} (I : InvX p ns J x) : readyM x = true ↔ ∀ j, j < ns.length → j ∈ J := by
  have hpos : 0 < p.data.length := by
    have h0 := List.getElem?_eq_getElem (show 0 < ns.length by have := P.two; omega)
    obtain ⟨x0, hx0⟩ : ∃ x, X[0]? = some x := ⟨_, List.getElem?_eq_getElem (by rw [P.len]; have := P.two; omega)⟩
    have := P.pc _ _ _ hx0 h0
    have := this.n0
    have := (P.pc _ _ _ hx0 h0).le
    omega
  constructor
  · intro hr j hj
    unfold readyM at hr
    split at hr <;> try (cases hr; done)
    rename_i q s hq hts
    simp only [Bool.and_eq_true, decide_eq_true_eq] at hr
    obtain ⟨h1, h2, h3⟩ := hr
    have hlast : x.last = p.data.length := by
      rcases I.last with ⟨l1, _⟩ | ⟨l1, _⟩
      · omega
      · exact l1
    have hn := List.getElem?_eq_getElem hj
    obtain ⟨z, hz⟩ : ∃ z, X[j]? = some z := ⟨_, List.getElem?_eq_getElem (by rw [P.len]; exact hj)⟩
    have hp := P.pc _ _ _ hz hn
    have := hp.n0
    have := hp.le
    have hc : cov x.ts (st ns j : Int) ≠ none := by
      rw [hts, cov_cons, cov_nil, Option.or_none]
      intro e
      rw [get_none] at e
      omega
    by_cases h : ∃ i ∈ J, In ns i (st ns j : Int)
    · obtain ⟨i, hi, hin⟩ := h
      have := in_apart hin (⟨_, hn, by omega, by omega⟩ : In ns j (st ns j : Int))
      rw [← this]; exact hi
    · exact absurd (I.cov0 _ (fun i hi hin => h ⟨i, hi, hin⟩)) hc
  · intro hall
    obtain ⟨s, hs, h1, h2⟩ := (full_one I.wf (n := p.data.length) (by omega) I.lo I.hi).1 (fun k h0 h1 => by
      obtain ⟨j, hj, hin⟩ := in_some (ns := ns) h0 (by rw [P.sum]; exact h1)
      rw [I.cov1 k j (hall j hj) hin]
      unfold byteAt
      rw [if_pos h0, List.getElem?_eq_getElem (by omega)]
      simp)
    have hlast : x.last = p.data.length := by
      rcases I.last with ⟨l1, l2⟩ | ⟨l1, _⟩
      · have := l2 (ns.length - 1) (hall _ (by have := P.two; omega))
        have := P.two
        omega
      · exact l1
    rcases I.fi with ⟨f1, f2⟩ | ⟨f0, q, f1, _, _⟩
    · exact absurd rfl (f2 0 (hall 0 (by have := P.two; omega)))
    · unfold readyM
      rw [f1, hs, hlast]
      simp [h1, h2]
def InvM (p : Pl) (ns : List Nat) (J : List Nat) (M : List Mp) : Prop := (M = [] ∧ J = []) ∨ ∃ x, M = [x] ∧ InvX p ns J x
theorem add_piece {p : Pl} {X : List Pl} {ns J : List Nat} (P : Part p X ns) {now life : Int} (hn0 : 0 ≤ now ∧ now ≤ 1099511627776) {M M' : List Mp} (I : InvM p ns J M) {j : Nat} {y : Pl} (hy : X[j]? = some y) {r : Pl} {dn : Bool} {e : Int}
    (h : AddP 1 life now y M M' r dn e) : e = 0 ∧ (dn = true ↔ ∀ i, i < ns.length → i ∈ j :: J) ∧ (dn = false → InvM p ns (j :: J) M') ∧ (dn = true → r = p ∧ M' = []) := by
  have hjX := (List.getElem?_eq_some_iff.1 hy).1
  have hn := List.getElem?_eq_getElem (show j < ns.length by rw [← P.len]; exact hjX)
  generalize ns[j]'(by rw [← P.len]; exact hjX) = n at hn
  have hp := P.pc j y n hy hn
  have hle := hp.le
  have hn0' := hp.n0
  have hdl := P.dl
  have hkey := key_piece hp
  have hmor : y.h.more = decide (st ns j + n < p.data.length) := by rw [hp.h]
  have hoff : y.h.off = ((st ns j / 8 : Nat) : Int) := by rw [hp.h]
  have hlen : y.data.length = n := by rw [hp.d, List.length_take, List.length_drop]; omega
  have hnot : ¬ (y.h.off = 0 ∧ y.h.more = false) := by
    rintro ⟨h1, h2⟩
    rw [hmor] at h2
    simp at h2
    have e := (st_last P hn).1 (by omega)
    have := P.two
    rw [hoff] at h1
    have h0 := List.getElem?_eq_getElem (show 0 < ns.length by omega)
    obtain ⟨x0, hx0⟩ : ∃ x, X[0]? = some x := ⟨_, List.getElem?_eq_getElem (by rw [P.len]; omega)⟩
    have h3 := (P.pc _ _ _ hx0 h0).n0
    have h4 := st_mono (ns := ns) (show 0 + 1 ≤ j by omega)
    rw [st_succ h0] at h4
    obtain ⟨c, hc⟩ := hp.a8
    omega
  have hchk : checkE now y.h y.data.length = 0 := by
    unfold checkE
    rw [if_neg (by rw [hoff]; omega), if_neg hnot, if_neg, if_neg (by rw [hlen, hoff]; obtain ⟨c, hc⟩ := hp.a8; omega)]
    rintro (h1 | ⟨h1, h2⟩)
    · omega
    · rw [hmor] at h1
      obtain ⟨c, hc⟩ := hp.n8 (by simpa using h1)
      omega
  have hbeg : ∀ M1 A B x, Begun 1 life now y.key M M1 → M1 = A ++ x :: B → A = [] ∧ B = [] ∧ InvX p ns J x := by
    intro M1 A B x hb e
    have one : ∀ z, M1 = [z] → A = [] ∧ B = [] ∧ x = z := by
      intro z hz
      rw [hz] at e
      cases A with
      | nil => simp at e; exact ⟨rfl, e.2, e.1.symm⟩
      | cons a A => simp at e
    cases hb with
    | found h =>
      rcases I with ⟨rfl, _⟩ | ⟨z, rfl, hz⟩
      · obtain ⟨z, hz, _⟩ := h; cases hz
      · obtain ⟨h1, h2, rfl⟩ := one z rfl
        exact ⟨h1, h2, hz⟩
    | new h1 h2 =>
      rcases I with ⟨rfl, rfl⟩ | ⟨z, rfl, hz⟩
      · obtain ⟨h1, h2, rfl⟩ := one _ rfl
        refine ⟨h1, h2, ?_⟩
        rw [hkey]
        exact invx_new _
      · simp at h2
  have hfits : ∀ x, InvX p ns J x → fitsM x y.t.stop y.h.more = true := by
    intro x hx
    have htop : topT x.ts ≤ p.data.length := by
      unfold topT
      cases hl : x.ts.getLast? with
      | none => simp
      | some s => exact hx.hi s (List.mem_of_getLast? hl)
    unfold fitsM
    rw [stop_piece hp, hmor]
    rcases hx.last with ⟨l1, _⟩ | ⟨l1, _⟩
    · rw [l1]
      by_cases hm : st ns j + n < p.data.length
      · simp [hm]
      · have : ¬ topT x.ts > (st ns j : Int) + n := by omega
        simp [hm, this]
    · rw [l1]
      by_cases hm : st ns j + n < p.data.length
      · have : (st ns j : Int) + n ≤ p.data.length := by omega
        simp [hm, this]
      · have h1 : ¬ topT x.ts > (st ns j : Int) + n := by omega
        have h2 : (p.data.length : Int) = (st ns j : Int) + n := by omega
        have h3 : (st ns j : Int) + n ≤ p.data.length := by omega
        simp [hm, h1, h2]
  have hwhole : ∀ x ts' q s, InvX p ns J x → LaidT x.ts y.t ts' → (moreM x y ts').fi = some q → ts' = [s] → readyM (moreM x y ts') = true → wholeP q s.2 = p ∧ q.opts = p.opts ∧ s.2.length = p.data.length := by
    intro x ts' q s hx hl hq hs hr
    have I2 := invx_step P hx hy hn hl
    have hall := (invx_ready P I2).1 hr
    have hfi := I2.fi
    rw [hq] at hfi
    obtain ⟨f0, q', e1, f2, f3⟩ : 0 ∈ j :: J ∧ ∃ q', some q = some q' ∧ q'.opts = p.opts ∧ q'.h = { p.h with off := 0, more := q'.h.more } := by
      rcases hfi with ⟨h, _⟩ | h
      · cases h
      · exact h
    cases e1
    unfold readyM at hr
    rw [hq] at hr
    have hts : (moreM x y ts').ts = [s] := hs
    rw [hts] at hr
    simp only [Bool.and_eq_true, decide_eq_true_eq] at hr
    obtain ⟨h1, h2, h3⟩ := hr
    have hlast : (moreM x y ts').last = p.data.length := by
      rcases I2.last with ⟨l1, _⟩ | ⟨l1, _⟩
      · omega
      · exact l1
    have hst : s.stop = s.1 + s.2.length := rfl
    have hsl : s.2.length = p.data.length := by omega
    refine ⟨?_, f2, hsl⟩
    have hd : s.2 = p.data := by
      refine List.ext_getElem? fun k => ?_
      by_cases hk : k < p.data.length
      · obtain ⟨i, hi, hin⟩ := in_some (ns := ns) (k := (k : Int)) (by omega) (by rw [P.sum]; omega)
        have hc := I2.cov1 k i (hall i hi) hin
        rw [hts, cov_cons, cov_nil, Option.or_none] at hc
        unfold T.get byteAt at hc
        rw [h2, if_pos (by omega), if_pos (by omega)] at hc
        simpa using hc
      · rw [List.getElem?_eq_none (by omega), List.getElem?_eq_none (by omega)]
    unfold wholeP
    rw [f2, f3, hd]
    have hp1 := P.off
    have hp2 := P.mor
    obtain ⟨⟨_, _, _, mo, of, _, _, _, _⟩, _, _⟩ := p
    simp only at hp1 hp2 ⊢
    subst hp1 hp2
    rfl
  cases h with
  | bad h => exact absurd hchk h
  | at_once _ hw => exact absurd hw hnot
  | full _ _ hk hm =>
    rcases I with ⟨rfl, _⟩ | ⟨z, rfl, hz⟩
    · simp at hm
    · exact absurd (hz.k.trans hkey.symm) (hk z (by simp))
  | stale _ _ M1 A B x hb e hk hf =>
    obtain ⟨_, _, hx⟩ := hbeg M' A B x hb e
    rw [hfits x hx] at hf; cases hf
  | more _ _ M1 A B x hb e hk hf ts' hl hr =>
    obtain ⟨rfl, rfl, hx⟩ := hbeg M1 A B x hb e
    have I2 := invx_step P hx hy hn hl
    refine ⟨rfl, ⟨fun h => (by cases h), fun h => ?_⟩, fun _ => .inr ⟨_, rfl, I2⟩, fun h => by cases h⟩
    rw [(invx_ready P I2).2 h] at hr; cases hr
  | long _ _ M1 A B x hb e hk hf ts' hl q s hq hs hr hn' =>
    obtain ⟨rfl, rfl, hx⟩ := hbeg M1 A B x hb e
    obtain ⟨_, h2, h3⟩ := hwhole x ts' q s hx hl hq hs hr
    have := P.ol
    rw [h2, h3] at hn'
    omega
  | done _ _ M1 A B x hb e hk hf ts' hl q s hq hs hr hn' =>
    obtain ⟨rfl, rfl, hx⟩ := hbeg M1 A B x hb e
    obtain ⟨h1, _, _⟩ := hwhole x ts' q s hx hl hq hs hr
    exact ⟨rfl, ⟨fun _ => (invx_ready P (invx_step P hx hy hn hl)).1 hr, fun _ => rfl⟩, fun h => (by cases h), fun _ => ⟨h1, rfl⟩⟩
end Go.Proofs.Ytiknkeakielncaa.Rs
