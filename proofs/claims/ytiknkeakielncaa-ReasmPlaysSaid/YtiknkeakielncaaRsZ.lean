/- reasm: the plain law of ReasmPlays: what the program keeps and what the reference keeps. Conditions: none. -/
import Derived.Test.YtiknkeakielncaaRsY
namespace Go.Proofs.Ytiknkeakielncaa.Rs
open Go Go.Proofs Sx
set_option maxRecDepth 100000
set_option linter.unusedVariables false
set_option linter.unusedSimpArgs false
set_option maxHeartbeats 4000000

/-- The same packet. -/
structure Rl (m : Mp) (x : RP) : Prop where
  k : x.k = m.k
  till : x.till = m.till
  last : x.last = m.last
  fi : x.fi.map Ip.p = m.fi
  wf : WF m.ts
  lo : ∀ s ∈ m.ts, 0 ≤ s.1
  hl : 0 ≤ m.last → ∀ s ∈ m.ts, s.stop ≤ m.last
  l0 : m.last = -1 ∨ 0 < m.last
  cov : ∀ k, valR x.d x.hs k = cov m.ts k
  ok : ROK x
theorem topN_char {hs : List Bool} {t : Nat} : ∀ {n : Nat}, t ≤ n → (t = 0 ∨ hs[t - 1]? = some true) → (∀ k, t ≤ k → k < n → hs[k]? ≠ some true) → topN hs n = t
  | 0, h1, _, _ => by have : t = 0 := by omega
                      subst this; rfl
  | n + 1, h1, h2, h3 => by
    rw [topN_succ]
    by_cases e : t = n + 1
    · subst e
      rcases h2 with h | h
      · omega
      · rw [if_pos (by simpa using h)]
    · rw [if_neg (h3 n (by omega) (by omega))]
      exact topN_char (by omega) h2 (fun k a b => h3 k a (by omega))
theorem val_some {d : List UInt8} {hs : List Bool} (hh : hs.length = d.length) {k : Nat} : (valR d hs k).isSome = true ↔ hs[k]? = some true := by
  unfold valR
  rw [Int.toNat_natCast]
  constructor
  · intro h
    split at h
    · rename_i h2; exact h2.2
    · cases h
  · intro h
    rw [if_pos ⟨by omega, h⟩]
    have := (List.getElem?_eq_some_iff.1 h).1
    rw [List.getElem?_eq_getElem (by omega)]; rfl
theorem Rl.bit {m : Mp} {x : RP} (h : Rl m x) (k : Nat) : x.hs[k]? = some true ↔ (Rs.cov m.ts (k : Int)).isSome = true := by
  rw [← val_some h.ok.hh, h.cov]
theorem Rl.top {m : Mp} {x : RP} (h : Rl m x) : (topN x.hs x.hs.length : Int) = topT m.ts := by
  rcases List.eq_nil_or_concat m.ts with e | ⟨o, y, e⟩
  · have e0 : topN x.hs x.hs.length = 0 := topN_char (Nat.zero_le _) (.inl rfl) (fun k _ _ hk => by
      have := (h.bit k).1 hk
      rw [e, cov_nil] at this
      cases this)
    rw [e0, e]; rfl
  · rw [List.concat_eq_append] at e
    have hym : y ∈ m.ts := by rw [e]; simp
    have hy0 := h.lo y hym
    have hyn := List.length_pos_iff.2 (h.wf.some y hym)
    have est : y.stop = y.1 + y.2.length := rfl
    have et : topT m.ts = y.stop := by rw [e]; unfold topT; simp
    have hb : x.hs[y.stop.toNat - 1]? = some true := by
      rw [h.bit]
      obtain ⟨v, hv⟩ := get_is (s := y) (k := ((y.stop.toNat - 1 : Nat) : Int)) (by omega) (by omega)
      rw [(cov_some h.wf.so.dis).2 ⟨y, hym, hv⟩]; rfl
    have hlt := (List.getElem?_eq_some_iff.1 hb).1
    have := topN_char (hs := x.hs) (t := y.stop.toNat) (n := x.hs.length) (by omega) (.inr hb) (fun k h1 h2 hk => by
      have h3 := (h.bit k).1 hk
      rw [cov_none (fun s hs => .inr (by have := top_last h.wf s hs; omega))] at h3
      cases h3)
    rw [this, et]
    omega
theorem Rl.fits {m : Mp} {x : RP} (h : Rl m x) (e : Int) (more : Bool) : fitsR x e more = fitsM m e more := by
  unfold fitsR fitsM
  rw [h.top, h.last]
theorem all_iff {hs : List Bool} {n : Nat} (hn : n ≤ hs.length) : (hs.take n).all id = true ↔ ∀ k, k < n → hs[k]? = some true := by
  rw [List.all_eq_true]
  constructor
  · intro h k hk
    have h1 : k < hs.length := by omega
    have := h hs[k] (List.mem_take_iff_getElem.2 ⟨k, by omega, rfl⟩)
    rw [List.getElem?_eq_getElem h1]
    exact congrArg some this
  · intro h b hb
    obtain ⟨k, hk, rfl⟩ := List.mem_take_iff_getElem.1 hb
    have := h k (by omega)
    rw [List.getElem?_eq_getElem (by omega)] at this
    simpa using this
theorem readyM_iff {m : Mp} : readyM m = true ↔ m.fi.isSome = true ∧ 0 ≤ m.last ∧ ∃ s, m.ts = [s] ∧ s.1 = 0 ∧ s.stop = m.last := by
  unfold readyM
  obtain ⟨k, ts, la, fi, till⟩ := m
  cases fi with
  | none => simp
  | some p =>
    match ts with
    | [] => simp
    | [s] => simp [and_assoc]
    | a :: b :: l => simp
theorem Rl.ready {m : Mp} {x : RP} (h : Rl m x) : readyR x = readyM m := by
  have hfi : x.fi.isSome = m.fi.isSome := by rw [← h.fi, Option.isSome_map]
  rw [Bool.eq_iff_iff, readyM_iff]
  unfold readyR allR
  rw [Bool.and_eq_true, Bool.and_eq_true, decide_eq_true_iff, hfi, h.last]
  by_cases h0 : 0 ≤ m.last
  · have hpos : 0 < m.last := by rcases h.l0 with e | e <;> omega
    have hla := h.ok.last
    have hhh := h.ok.hh
    rw [h.last] at hla
    rw [all_iff (by omega), ← full_one h.wf hpos h.lo (h.hl h0)]
    constructor
    · rintro ⟨⟨a, b⟩, c⟩
      refine ⟨a, b, fun k k0 k1 e => ?_⟩
      have := (h.bit k.toNat).1 (c k.toNat (by omega))
      rw [Int.toNat_of_nonneg k0, e] at this
      cases this
    · rintro ⟨a, b, c⟩
      refine ⟨⟨a, b⟩, fun k hk => (h.bit k).2 ?_⟩
      have := c (k : Int) (by omega) (by omega)
      exact Option.isSome_iff_ne_none.2 this
  · constructor
    · rintro ⟨⟨_, b⟩, _⟩; omega
    · rintro ⟨_, b, _⟩; omega
theorem Rl.data {m : Mp} {x : RP} {s : T} (h : Rl m x) (hs : m.ts = [s]) (h0 : s.1 = 0) (h1 : s.stop = m.last) : x.d.take x.last.toNat = s.2 := by
  have est : s.stop = s.1 + s.2.length := rfl
  have hla := h.ok.last
  have hlx := h.last
  have hl : x.last.toNat = s.2.length := by omega
  refine List.ext_getElem? (fun k => ?_)
  by_cases hk : k < s.2.length
  · rw [List.getElem?_take_of_lt (by omega)]
    have hg : s.get (k : Int) = s.2[k]? := by
      unfold T.get
      rw [if_pos (by omega)]
      congr 1
      omega
    have hc : Rs.cov m.ts (k : Int) = s.2[k]? := by
      rw [hs, cov_cons, cov_nil, hg, Option.or_none]
    have hv := h.cov (k : Int)
    rw [hc, List.getElem?_eq_getElem hk] at hv
    unfold valR at hv
    split at hv
    · rw [Int.toNat_natCast] at hv
      rw [hv, List.getElem?_eq_getElem hk]
    · cases hv
  · rw [List.getElem?_eq_none (by rw [List.length_take]; omega), List.getElem?_eq_none (by omega)]
theorem Rl.step {m : Mp} {x x' : RP} {i : Ip} {ts' : List T} (h : Rl m x) (h8 : 0 ≤ i.p.h.off) (hd : 0 < i.p.data.length) (hf : fitsM m i.p.t.stop i.p.h.more = true) (hl : LaidT m.ts i.p.t ts') (st : Step x i x') : Rl (moreM m i.p ts') x' := by
  have est : i.p.t.stop = 8 * i.p.h.off + i.p.data.length := rfl
  unfold fitsM at hf
  simp only [Bool.and_eq_true, Bool.or_eq_true, Bool.not_eq_true', decide_eq_true_iff] at hf
  obtain ⟨f1, f2⟩ := hf
  refine ⟨st.k.trans h.k, st.till.trans h.till, ?_, ?_, hl.wf, hl.lo, ?_, ?_, fun k => ?_, st.ok⟩
  · rw [st.last, h.last]; rfl
  · rw [st.fi]
    show _ = if i.p.h.off = 0 ∧ m.fi = none then some i.p else m.fi
    have e : x.fi = none ↔ m.fi = none := by rw [← h.fi, Option.map_eq_none_iff]
    by_cases c : i.p.h.off = 0 ∧ x.fi = none
    · rw [if_pos c, if_pos ⟨c.1, e.1 c.2⟩]; rfl
    · rw [if_neg c, if_neg (fun q => c ⟨q.1, e.2 q.2⟩)]; exact h.fi
  · show 0 ≤ (if i.p.h.more = true then m.last else i.p.t.stop) → ∀ s ∈ ts', s.stop ≤ (if i.p.h.more = true then m.last else i.p.t.stop)
    by_cases c : i.p.h.more = true
    · rw [if_pos c]
      intro q
      exact hl.hi _ (h.hl q) (by omega)
    · rw [if_neg c]
      intro q
      have c : i.p.h.more = false := by simpa using c
      rw [c] at f1
      simp at f1
      exact hl.hi _ (fun y hy => by have := top_last h.wf y hy; omega) (Int.le_refl _)
  · show (if i.p.h.more = true then m.last else i.p.t.stop) = -1 ∨ 0 < (if i.p.h.more = true then m.last else i.p.t.stop)
    split
    · exact h.l0
    · right; omega
  · rw [st.val, h.cov, ← hl.cov]; rfl
theorem Rl.new (k : Key) (till : Int) : Rl (newM k till) (newR k till) :=
  ⟨rfl, rfl, rfl, rfl, wf_nil, by simp [newM], by simp [newM], .inl rfl, fun z => by
    show valR [] [] z = none
    unfold valR
    split <;> simp, newR_ok _ _⟩
/-- The same packets, in the same order. -/
inductive Rls : List Mp → List RP → Prop
  | nil : Rls [] []
  | cons {m : Mp} {x : RP} {M : List Mp} {L : List RP} (h : Rl m x) (t : Rls M L) : Rls (m :: M) (x :: L)
theorem Rls.len {M : List Mp} {L : List RP} (h : Rls M L) : M.length = L.length := by
  induction h with
  | nil => rfl
  | cons _ _ ih => rw [List.length_cons, List.length_cons, ih]
theorem Rls.append {A B : List Mp} {C D : List RP} (h : Rls A C) (k : Rls B D) : Rls (A ++ B) (C ++ D) := by
  induction h with
  | nil => exact k
  | cons h _ ih => exact .cons h ih
/-- The first packet of a key is at the same place on both sides. -/
theorem Rls.split {M : List Mp} {L A B : List RP} {x : RP} (h : Rls M L) (e : L = A ++ x :: B) : ∃ C D m, M = C ++ m :: D ∧ Rls C A ∧ Rl m x ∧ Rls D B := by
  induction A generalizing M L with
  | nil =>
    subst e
    cases h with
    | cons h t => exact ⟨[], _, _, rfl, .nil, h, t⟩
  | cons a A ih =>
    subst e
    cases h with
    | cons h t =>
      obtain ⟨C, D, m, rfl, h1, h2, h3⟩ := ih t rfl
      exact ⟨_ :: C, D, m, rfl, .cons h h1, h2, h3⟩
theorem Rls.keep {M : List Mp} {L : List RP} (now : Int) (h : Rls M L) : Rls (keepM now M) (keepR now L) := by
  induction h with
  | nil => exact .nil
  | @cons m x M L h t ih =>
    unfold keepM keepR at ih ⊢
    rw [List.filter_cons, List.filter_cons, h.till]
    split
    · exact .cons h ih
    · exact ih
theorem Rls.late {M : List Mp} {L : List RP} (now : Int) (h : Rls M L) : (firstR (lateR now L)).map Ip.p = (lateM now M).filterMap Mp.fi := by
  induction h with
  | nil => rfl
  | @cons m x M L h t ih =>
    unfold lateM lateR firstR at ih ⊢
    rw [List.filter_cons, List.filter_cons, h.till]
    split
    · rw [List.filterMap_cons, List.filterMap_cons, ← h.fi, ← ih]
      cases x.fi <;> rfl
    · exact ih
theorem Rls.tills {M : List Mp} {L : List RP} (h : Rls M L) : L.map RP.till = M.map Mp.till := by
  induction h with
  | nil => rfl
  | cons h _ ih => rw [List.map_cons, List.map_cons, h.till, ih]
/-! ### Counting -/
def cntP (p : Nat → Bool) : Nat → Nat
  | 0 => 0
  | n + 1 => cntP p n + if p n then 1 else 0
theorem cntP_or {p q r : Nat → Bool} : ∀ {n : Nat}, (∀ k, k < n → r k = (p k || q k)) → (∀ k, k < n → p k = true → q k = false) → cntP r n = cntP p n + cntP q n
  | 0, _, _ => rfl
  | n + 1, h1, h2 => by
    simp only [cntP]
    rw [cntP_or (fun k hk => h1 k (by omega)) (fun k hk => h2 k (by omega)), h1 n (by omega)]
    have := h2 n (by omega)
    cases e1 : p n <;> cases e2 : q n <;> simp_all <;> omega
theorem cntP_in (a b : Nat) (h : a ≤ b) : ∀ n, cntP (fun k => decide (a ≤ k ∧ k < b)) n = min b n - min a n
  | 0 => by simp [cntP]
  | n + 1 => by
    simp only [cntP]
    rw [cntP_in a b h n]
    by_cases c : a ≤ n ∧ n < b
    · rw [if_pos (by simpa using c)]; omega
    · rw [if_neg (by simpa using c)]; omega
theorem cntP_congr {p q : Nat → Bool} : ∀ {n : Nat}, (∀ k, k < n → p k = q k) → cntP p n = cntP q n
  | 0, _ => rfl
  | n + 1, h => by
    simp only [cntP]
    rw [cntP_congr (fun k hk => h k (by omega)), h n (by omega)]
theorem cnt_ts : ∀ {ts : List T} {n : Nat}, WF ts → (∀ s ∈ ts, 0 ≤ s.1 ∧ s.stop ≤ n) → (cntP (fun k => (cov ts (k : Int)).isSome) n : Int) = heldT ts
  | [], n, _, _ => by
    have : cntP (fun k => (cov [] (k : Int)).isSome) n = cntP (fun k => decide (0 ≤ k ∧ k < 0)) n := cntP_congr (fun k _ => by rw [cov_nil]; simp)
    rw [this, cntP_in 0 0 (Nat.le_refl _)]
    simp [heldT]
  | s :: ts, n, w, h => by
    obtain ⟨p1, p2⟩ := List.pairwise_cons.1 w.apart
    have ih := cnt_ts (n := n) ⟨p2, fun y hy => w.some y (List.mem_cons_of_mem _ hy)⟩ (fun y hy => h y (List.mem_cons_of_mem _ hy))
    have hs := h s (by simp)
    have est : s.stop = s.1 + s.2.length := rfl
    have hg : ∀ k : Nat, (s.get (k : Int)).isSome = decide (s.1.toNat ≤ k ∧ k < s.stop.toNat) := fun k => by
      by_cases c : s.1.toNat ≤ k ∧ k < s.stop.toNat
      · obtain ⟨v, hv⟩ := get_is (s := s) (k := (k : Int)) (by omega) (by omega)
        rw [hv, decide_eq_true c]; rfl
      · rw [get_none.2 (by omega), decide_eq_false c]; rfl
    rw [cntP_or (p := fun k => decide (s.1.toNat ≤ k ∧ k < s.stop.toNat)) (q := fun k => (cov ts (k : Int)).isSome), cntP_in _ _ (by omega)]
    · rw [show heldT (s :: ts) = s.2.length + heldT ts from by unfold heldT; rw [List.map_cons, List.sum_cons], ← ih]
      omega
    · intro k _
      rw [cov_cons, ← hg k, Option.isSome_or]
    · intro k _ hk
      have hk := of_decide_eq_true hk
      rw [cov_none (fun y hy => .inl (by have := p1 y hy; omega))]; rfl
end Go.Proofs.Ytiknkeakielncaa.Rs
