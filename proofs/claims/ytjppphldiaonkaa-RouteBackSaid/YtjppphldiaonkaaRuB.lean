/- route: the plain law: what the tree answers is what the list answers. Conditions: none. -/
import Derived.Test.YtjppphldiaonkaaRuA
namespace Go.Proofs.Ytjppphldiaonkaa.Rt
open Go Go.Proofs Sx
set_option maxRecDepth 100000
set_option linter.unusedVariables false
set_option linter.unusedSimpArgs false
set_option maxHeartbeats 4000000

/-! ### Lists in a strict order -/
theorem sorted_eq (lt : R → R → Bool) (asy : ∀ x y, lt x y = true → lt y x = false) : ∀ {l m : List R}, l.Pairwise (fun x y => lt x y = true) → m.Pairwise (fun x y => lt x y = true) → (∀ x, x ∈ l ↔ x ∈ m) → l = m
  | [], m, _, _, h => by
    cases m with
    | nil => rfl
    | cons y m => have := (h y).2 (by simp); simp at this
  | x :: l, m, h1, h2, h => by
    cases m with
    | nil => have := (h x).1 (by simp); simp at this
    | cons y m =>
      rw [List.pairwise_cons] at h1 h2
      have irr : ∀ z, lt z z = false := fun z => by
        cases e : lt z z with
        | false => rfl
        | true => rw [asy z z e] at e; cases e
      have e : x = y := by
        have hx := (h x).1 (by simp)
        have hy := (h y).2 (by simp)
        rcases List.mem_cons.1 hx with rfl | hx
        · rfl
        · rcases List.mem_cons.1 hy with rfl | hy
          · rfl
          · have a := h1.1 y hy
            have b := h2.1 x hx
            rw [asy x y a] at b; cases b
      subst e
      rw [sorted_eq lt asy h1.2 h2.2 (fun z => ?_)]
      constructor
      · intro hz
        rcases List.mem_cons.1 ((h z).1 (List.mem_cons_of_mem _ hz)) with rfl | h3
        · have := h1.1 z hz; rw [irr] at this; cases this
        · exact h3
      · intro hz
        rcases List.mem_cons.1 ((h z).2 (List.mem_cons_of_mem _ hz)) with rfl | h3
        · have := h2.1 z hz; rw [irr] at this; cases this
        · exact h3
theorem mem_insS (lt : R → R → Bool) (x w : R) : ∀ o : List R, w ∈ ins lt x o ↔ w = x ∨ w ∈ o
  | [] => by simp [ins]
  | y :: t => by
    unfold ins
    split
    · rw [List.mem_cons, mem_insS lt x w t, List.mem_cons]
      constructor
      · rintro (h | h | h) <;> simp [h]
      · rintro (h | h | h) <;> simp [h]
    · simp
theorem ins_sorted (lt : R → R → Bool) (tr : ∀ x y z, lt x y = true → lt y z = true → lt x z = true) (x : R) : ∀ o : List R, o.Pairwise (fun x y => lt x y = true) → (∀ y ∈ o, lt y x = true ∨ lt x y = true) → (ins lt x o).Pairwise (fun x y => lt x y = true)
  | [], _, _ => by simp [ins]
  | y :: t, h, ht => by
    rw [List.pairwise_cons] at h
    unfold ins
    split
    · rename_i hy
      rw [List.pairwise_cons]
      refine ⟨fun z hz => ?_, ins_sorted lt tr x t h.2 fun z hz => ht z (List.mem_cons_of_mem _ hz)⟩
      rw [mem_insS] at hz
      rcases hz with rfl | hz
      · exact hy
      · exact h.1 z hz
    · rename_i hy
      have hxy : lt x y = true := (ht y (by simp)).resolve_left hy
      rw [List.pairwise_cons, List.pairwise_cons]
      refine ⟨fun z hz => ?_, h⟩
      rcases List.mem_cons.1 hz with rfl | hz
      · exact hxy
      · exact tr x y z hxy (h.1 z hz)
/-- Sorted by an order that tells apart what is in the list. -/
theorem sortBy_ok (lt : R → R → Bool) (tr : ∀ x y z, lt x y = true → lt y z = true → lt x z = true) : ∀ (n : Nat) (l : List R), l.length = n → l.Pairwise (fun x y => lt x y = true ∨ lt y x = true) →
    (sortBy lt l).Pairwise (fun x y => lt x y = true) ∧ ∀ w, w ∈ sortBy lt l ↔ w ∈ l
  | 0, l, hn, _ => by
    have : l = [] := List.length_eq_zero_iff.1 hn
    subst this
    simp [sortBy]
  | n + 1, l, hn, h => by
    have hne : l ≠ [] := fun e => by subst e; cases hn
    have e := (List.dropLast_concat_getLast hne).symm
    generalize l.getLast hne = x at e
    generalize l.dropLast = m at e
    subst e
    rw [List.pairwise_append] at h
    obtain ⟨i1, i2⟩ := sortBy_ok lt tr n m (by simpa using hn) h.1
    rw [sortBy_snoc]
    refine ⟨ins_sorted lt tr x _ i1 fun y hy => h.2.2 y ((i2 y).1 hy) x (by simp), fun w => ?_⟩
    rw [mem_insS, i2, List.mem_append, List.mem_singleton]
    exact or_comm
/-! ### The two orders -/
theorem narrow_as (x y : R) (h : narrow x y = true) : narrow y x = false := by
  simp only [narrow, Bool.or_eq_true, Bool.and_eq_true, decide_eq_true_eq, beq_iff_eq] at h
  rw [← Bool.not_eq_true]
  simp only [narrow, Bool.or_eq_true, Bool.and_eq_true, decide_eq_true_eq, beq_iff_eq]
  omega
theorem narrow_tr (x y z : R) (h : narrow x y = true) (k : narrow y z = true) : narrow x z = true := by
  simp only [narrow, Bool.or_eq_true, Bool.and_eq_true, decide_eq_true_eq, beq_iff_eq] at h k ⊢
  omega
theorem rises_iff (x y : R) : rises x y = true ↔ x.net < y.net ∨ (x.net = y.net ∧ (x.bits < y.bits ∨ (x.bits = y.bits ∧ x.cost < y.cost))) := by
  unfold rises
  by_cases h : x.net = y.net
  · rw [if_neg (by simpa using h)]
    simp only [Bool.or_eq_true, Bool.and_eq_true, decide_eq_true_eq, beq_iff_eq]
    omega
  · rw [if_pos h]
    simp only [decide_eq_true_eq]
    omega
theorem rises_as (x y : R) (h : rises x y = true) : rises y x = false := by
  rw [rises_iff] at h
  rw [← Bool.not_eq_true, rises_iff]
  omega
theorem rises_tr (x y z : R) (h : rises x y = true) (k : rises y z = true) : rises x z = true := by
  rw [rises_iff] at h k ⊢
  omega
theorem up_pair {ws : List R} (h : Up ws) : ws.Pairwise (fun x y => x.cost < y.cost) := by
  rw [List.pairwise_iff_getElem]
  intro i j hi hj hij
  exact h i j _ _ (List.getElem?_eq_getElem hi) (List.getElem?_eq_getElem hj) hij
/-! ### The tree and the list -/
structure RT (T : List Nd) (l : List R) (n : Nat) : Prop where
  mem : ∀ w, w ∈ l ↔ WM T w
  nd : l.Pairwise (fun x y => key x y = false)
  len : l.length = n
theorem key_comm (x y : R) : key x y = key y x := by
  cases h : key x y with
  | true =>
    rw [key_iff] at h
    exact ((key_iff (x := y) (w := x)).2 ⟨h.1.symm, h.2.1.symm, h.2.2.symm⟩).symm
  | false =>
    cases h2 : key y x with
    | false => rfl
    | true =>
      rw [key_iff] at h2
      rw [(key_iff (x := x) (w := y)).2 ⟨h2.1.symm, h2.2.1.symm, h2.2.2.symm⟩] at h
      cases h
theorem TI.ok {tb : Nat} {T : List Nd} (hi : TI tb T) {w : R} (h : WM T w) : ∃ m ∈ T, w ∈ m.ws ∧ m.x = w.net ∧ (m.k : Int) = w.bits ∧ m.k ≤ 32 ∧ 0 ≤ w.net ∧ netOf w.net (m.k : Int) = w.net := by
  obtain ⟨m, hm, hw⟩ := h
  obtain ⟨h1, h2, _⟩ := hi.way m hm w hw
  obtain ⟨n1, n2, n3, n4⟩ := hi.net m hm
  exact ⟨m, hm, hw, h1.symm, h2.symm, n1, by rw [h1]; exact n2, by rw [h1]; exact n4⟩
theorem mem_waysAt {tb : Nat} {T : List Nd} (hi : TI tb T) {x : Int} {k : Nat} {w : R} : w ∈ waysAt T x k ↔ WM T w ∧ w.net = x ∧ w.bits = (k : Int) := by
  constructor
  · intro h
    unfold waysAt at h
    split at h
    · rename_i m e
      obtain ⟨h1, h2, h3⟩ := nodeAt_some e
      obtain ⟨h4, h5, _⟩ := hi.way m h1 w h
      exact ⟨⟨m, h1, h⟩, by rw [h4, h2], by rw [h5, h3]⟩
    · simp at h
  · rintro ⟨hw, h1, h2⟩
    obtain ⟨m, hm, hmw, h3, h4, _⟩ := hi.ok hw
    have hk : m.k = k := by omega
    have := nodeAt_self hi.nd hm
    rw [h3, h1, hk] at this
    unfold waysAt
    rw [this]; exact hmw
theorem ws_sorted {tb : Nat} {T : List Nd} (hi : TI tb T) (x : Int) (k : Nat) : (waysAt T x k).Pairwise (fun x y => x.cost < y.cost) := by
  unfold waysAt
  split
  · rename_i m e
    exact up_pair (hi.ord m (nodeAt_some e).1)
  · exact .nil
/-! #### The ways to an address -/
theorem mem_accW {tb : Nat} {T : List Nd} (hi : TI tb T) (a : Int) (w : R) : ∀ i : Nat, w ∈ accW T a i ↔ WM T w ∧ netOf a w.bits = w.net ∧ 0 ≤ w.bits ∧ w.bits < i
  | 0 => by
    constructor
    · intro h; simp [accW] at h
    · rintro ⟨_, _, h1, h2⟩; omega
  | i + 1 => by
    show w ∈ waysAt T (netOf a (i : Int)) i ++ accW T a i ↔ _
    rw [List.mem_append, mem_waysAt hi, mem_accW hi a w i]
    constructor
    · rintro (⟨h1, h2, h3⟩ | ⟨h1, h2, h3, h4⟩)
      · exact ⟨h1, by rw [h3, h2], by omega, by omega⟩
      · exact ⟨h1, h2, h3, by omega⟩
    · rintro ⟨h1, h2, h3, h4⟩
      by_cases e : w.bits = (i : Int)
      · exact .inl ⟨h1, by rw [← e, h2], e⟩
      · exact .inr ⟨h1, h2, h3, by omega⟩
theorem accW_sorted {tb : Nat} {T : List Nd} (hi : TI tb T) (a : Int) : ∀ i : Nat, (accW T a i).Pairwise (fun x y => narrow x y = true)
  | 0 => .nil
  | i + 1 => by
    show (waysAt T (netOf a (i : Int)) i ++ accW T a i).Pairwise _
    rw [List.pairwise_append]
    refine ⟨?_, accW_sorted hi a i, fun x hx y hy => ?_⟩
    · refine List.Pairwise.imp_of_mem (fun {x y} hx hy h => ?_) (ws_sorted hi (netOf a (i : Int)) i)
      obtain ⟨_, _, h1⟩ := (mem_waysAt hi).1 hx
      obtain ⟨_, _, h2⟩ := (mem_waysAt hi).1 hy
      simp only [narrow, Bool.or_eq_true, Bool.and_eq_true, decide_eq_true_eq, beq_iff_eq]
      omega
    · obtain ⟨_, _, h1⟩ := (mem_waysAt hi).1 hx
      obtain ⟨_, _, _, h2⟩ := (mem_accW hi a y i).1 hy
      simp only [narrow, Bool.or_eq_true, Bool.and_eq_true, decide_eq_true_eq, beq_iff_eq]
      omega
theorem ways_eq {tb n : Nat} {T : List Nd} {l : List R} (hi : TI tb T) (h : RT T l n) (a : Int) : accW T a 33 = waysOf l a := by
  have tot : (l.filter (leads a)).Pairwise (fun x y => narrow x y = true ∨ narrow y x = true) := by
    refine List.Pairwise.imp_of_mem (fun {x y} hx hy h => ?_) (List.Pairwise.filter _ h.nd)
    have h1 := (List.mem_filter.1 hx).2
    have h2 := (List.mem_filter.1 hy).2
    simp only [leads, beq_iff_eq] at h1 h2
    have h3 : ¬ (y.net = x.net ∧ y.bits = x.bits ∧ y.cost = x.cost) := fun e => by rw [key_iff.2 e] at h; cases h
    simp only [narrow, Bool.or_eq_true, Bool.and_eq_true, decide_eq_true_eq, beq_iff_eq]
    by_cases e : x.bits = y.bits
    · have : x.net = y.net := by rw [← h1, ← h2, e]
      have : x.cost ≠ y.cost := fun e2 => h3 ⟨this.symm, e.symm, e2.symm⟩
      omega
    · omega
  obtain ⟨s1, s2⟩ := sortBy_ok narrow narrow_tr _ _ rfl tot
  refine sorted_eq narrow narrow_as (accW_sorted hi a 33) s1 fun w => ?_
  unfold waysOf
  rw [mem_accW hi, s2, List.mem_filter, h.mem]
  simp only [leads, beq_iff_eq]
  constructor
  · rintro ⟨h1, h2, _⟩; exact ⟨h1, h2⟩
  · rintro ⟨h1, h2⟩
    obtain ⟨m, _, _, _, h3, h4, _⟩ := hi.ok h1
    exact ⟨h1, h2, by omega, by omega⟩
/-! #### All ways -/
theorem netOf_lt (a : Int) (k : Nat) (hk : k < 32) : a < netOf a ((k + 1 : Nat) : Int) + halfOf k := by
  have e : (32 - ((k + 1 : Nat) : Int)).toNat = 31 - k := by omega
  have hp : (0 : Int) < 2 ^ (31 - k) := Int.pow_pos (by decide)
  unfold netOf halfOf
  rw [e]
  exact Int.lt_ediv_add_one_mul_self a hp |> fun h => by rw [Int.add_mul, Int.one_mul] at h; exact h
theorem net_half {x : Int} {k : Nat} (hk : k < 32) (hx : netOf x (k : Int) = x) : netOf (x + halfOf k) (k : Int) = x ∧ netOf (x + halfOf k) ((k + 1 : Nat) : Int) = x + halfOf k ∧ netOf x ((k + 1 : Nat) : Int) = x := by
  have e2 : (32 - (k : Int)).toNat = (31 - k) + 1 := by omega
  have e : (32 - ((k + 1 : Nat) : Int)).toNat = 31 - k := by omega
  have hp : (0 : Int) < 2 ^ (31 - k) := Int.pow_pos (by decide)
  unfold netOf halfOf at *
  rw [e2, Int.pow_succ] at hx
  rw [e, e2, Int.pow_succ]
  generalize (2 : Int) ^ (31 - k) = d at *
  generalize x / (d * 2) = q at *
  subst hx
  have h1 : q * (d * 2) + d = (q * 2 + 1) * d := by rw [Int.add_mul, Int.mul_assoc, Int.mul_comm 2 d, Int.one_mul]
  have h2 : q * (d * 2) = (q * 2) * d := by rw [Int.mul_assoc, Int.mul_comm 2 d]
  refine ⟨?_, ?_, ?_⟩
  · rw [h1, ← Int.ediv_ediv_of_nonneg (by omega), Int.mul_ediv_cancel _ (by omega)]
    rw [show (q * 2 + 1) / 2 = q by omega]
  · rw [h1, Int.mul_ediv_cancel _ (by omega)]
  · rw [h2, Int.mul_ediv_cancel _ (by omega)]
theorem mem_walk {tb : Nat} {T : List Nd} (hi : TI tb T) (w : R) : ∀ (d : Nat) (x : Int) (k : Nat), k + d = 33 → netOf x (k : Int) = x → (w ∈ walk T d x k ↔ WM T w ∧ (k : Int) ≤ w.bits ∧ netOf w.net (k : Int) = x)
  | 0, x, k, hk, hx => by
    constructor
    · intro h; simp [walk] at h
    · rintro ⟨h1, h2, _⟩
      obtain ⟨m, _, _, _, h3, h4, _⟩ := hi.ok h1
      omega
  | d + 1, x, k, hk, hx => by
    show w ∈ (match nodeAt T x k with | none => [] | some m => _) ↔ _
    cases e : nodeAt T x k with
    | none =>
      constructor
      · intro h; simp at h
      · rintro ⟨h1, h2, h3⟩
        obtain ⟨m, hm, _, hmx, hmb, hk32, _, hnn⟩ := hi.ok h1
        have := hi.wider w.net (m.k - k) k (by omega) (by
          rw [show k + (m.k - k) = m.k by omega, hnn, ← hmx, nodeAt_self hi.nd hm]; simp)
        rw [h3] at this
        exact absurd e this
    | some m =>
      have hw0 : w ∈ m.ws ↔ WM T w ∧ w.net = x ∧ w.bits = (k : Int) := by
        have := mem_waysAt hi (x := x) (k := k) (w := w)
        unfold waysAt at this
        rw [e] at this; exact this
      show w ∈ m.ws ++ (walk T d x (k + 1) ++ walk T d (x + halfOf k) (k + 1)) ↔ _
      rw [List.mem_append, List.mem_append, hw0]
      by_cases hk32 : k < 32
      · obtain ⟨f1, f2, f3⟩ := net_half hk32 hx
        rw [mem_walk hi w d x (k + 1) (by omega) f3, mem_walk hi w d (x + halfOf k) (k + 1) (by omega) f2]
        constructor
        · rintro (⟨h1, h2, h3⟩ | ⟨h1, h2, h3⟩ | ⟨h1, h2, h3⟩)
          · exact ⟨h1, by omega, by rw [h2]; exact hx⟩
          · exact ⟨h1, by omega, by rw [← netOf_netOf w.net k (k + 1) (by omega) (by omega), h3]; exact hx⟩
          · exact ⟨h1, by omega, by rw [← netOf_netOf w.net k (k + 1) (by omega) (by omega), h3]; exact f1⟩
        · rintro ⟨h1, h2, h3⟩
          by_cases hb : w.bits = (k : Int)
          · obtain ⟨m2, _, _, _, h4, _, _, h5⟩ := hi.ok h1
            have : m2.k = k := by omega
            rw [this, h3] at h5
            exact .inl ⟨h1, h5.symm, hb⟩
          · have hs := netOf_succ w.net k hk32
            rw [h3] at hs
            rcases (by omega : w.net / halfOf k % 2 = 0 ∨ w.net / halfOf k % 2 = 1) with q | q
            · rw [q, Int.zero_mul, Int.add_zero] at hs
              exact .inr (.inl ⟨h1, by omega, hs⟩)
            · rw [q, Int.one_mul] at hs
              exact .inr (.inr ⟨h1, by omega, hs⟩)
      · have hd : d = 0 := by omega
        subst hd
        constructor
        · rintro (⟨h1, h2, h3⟩ | h | h)
          · exact ⟨h1, by omega, by rw [h2]; exact hx⟩
          · simp [walk] at h
          · simp [walk] at h
        · rintro ⟨h1, h2, h3⟩
          obtain ⟨m2, _, _, _, h4, h6, _, h5⟩ := hi.ok h1
          have : m2.k = k := by omega
          rw [this, h3] at h5
          exact .inl ⟨h1, h5.symm, by omega⟩
theorem walk_sorted {tb : Nat} {T : List Nd} (hi : TI tb T) : ∀ (d : Nat) (x : Int) (k : Nat), k + d = 33 → netOf x (k : Int) = x → (walk T d x k).Pairwise (fun x y => rises x y = true)
  | 0, x, k, hk, hx => .nil
  | d + 1, x, k, hk, hx => by
    show (match nodeAt T x k with | none => [] | some m => _ : List R).Pairwise _
    cases e : nodeAt T x k with
    | none => exact .nil
    | some m =>
      obtain ⟨hm, hmx, hmk⟩ := nodeAt_some e
      show (m.ws ++ (walk T d x (k + 1) ++ walk T d (x + halfOf k) (k + 1))).Pairwise _
      have hws : m.ws.Pairwise (fun x y => rises x y = true) := by
        refine List.Pairwise.imp_of_mem (fun {p q} hp hq h => ?_) (up_pair (hi.ord m hm))
        obtain ⟨h1, h2, _⟩ := hi.way m hm p hp
        obtain ⟨h3, h4, _⟩ := hi.way m hm q hq
        rw [rises_iff]
        exact .inr ⟨by rw [h1, h3], .inr ⟨by rw [h2, h4], h⟩⟩
      by_cases hk32 : k < 32
      · obtain ⟨f1, f2, f3⟩ := net_half hk32 hx
        have hp := half_pos k
        rw [List.pairwise_append, List.pairwise_append]
        refine ⟨hws, ⟨walk_sorted hi d x (k + 1) (by omega) f3, walk_sorted hi d (x + halfOf k) (k + 1) (by omega) f2, fun p hp1 q hq1 => ?_⟩, fun p hp1 q hq1 => ?_⟩
        · rw [mem_walk hi p d x (k + 1) (by omega) f3] at hp1
          rw [mem_walk hi q d (x + halfOf k) (k + 1) (by omega) f2] at hq1
          have h1 := netOf_lt p.net k hk32
          rw [hp1.2.2] at h1
          obtain ⟨_, _, _, _, _, _, h0, _⟩ := hi.ok hq1.1
          have h2 := (netOf_le q.net (k + 1) (by omega) h0).2
          rw [hq1.2.2] at h2
          rw [rises_iff]
          exact .inl (by omega)
        · obtain ⟨h1, h2, _⟩ := hi.way m hm p hp1
          have hq2 : WM T q ∧ ((k + 1 : Nat) : Int) ≤ q.bits ∧ x ≤ q.net := by
            rcases List.mem_append.1 hq1 with hq1 | hq1
            · rw [mem_walk hi q d x (k + 1) (by omega) f3] at hq1
              obtain ⟨_, _, _, _, _, _, h0, _⟩ := hi.ok hq1.1
              have h2 := (netOf_le q.net (k + 1) (by omega) h0).2
              rw [hq1.2.2] at h2
              exact ⟨hq1.1, hq1.2.1, h2⟩
            · rw [mem_walk hi q d (x + halfOf k) (k + 1) (by omega) f2] at hq1
              obtain ⟨_, _, _, _, _, _, h0, _⟩ := hi.ok hq1.1
              have h2 := (netOf_le q.net (k + 1) (by omega) h0).2
              rw [hq1.2.2] at h2
              exact ⟨hq1.1, hq1.2.1, by omega⟩
          rw [rises_iff]
          omega
      · have hd : d = 0 := by omega
        subst hd
        simpa [walk] using hws
theorem all_eq {tb n : Nat} {T : List Nd} {l : List R} (hi : TI tb T) (h : RT T l n) : walk T 33 0 0 = sortBy rises l := by
  have tot : l.Pairwise (fun x y => rises x y = true ∨ rises y x = true) := by
    refine h.nd.imp (fun {x y} h => ?_)
    have h3 : ¬ (y.net = x.net ∧ y.bits = x.bits ∧ y.cost = x.cost) := fun e => by rw [key_iff.2 e] at h; cases h
    rw [rises_iff, rises_iff]
    omega
  obtain ⟨s1, s2⟩ := sortBy_ok rises rises_tr _ _ rfl tot
  have h0 : netOf 0 ((0 : Nat) : Int) = 0 := by decide
  refine sorted_eq rises rises_as (walk_sorted hi 33 0 0 rfl h0) s1 fun w => ?_
  rw [mem_walk hi w 33 0 0 rfl h0, s2, h.mem]
  constructor
  · exact fun h => h.1
  · intro hw
    obtain ⟨m, hm, _, hmx, h4, h5, h6, h7⟩ := hi.ok hw
    obtain ⟨_, n2, n3, _⟩ := hi.net m hm
    exact ⟨hw, by omega, netOf_zero w.net h6 (by omega)⟩
/-! ### Steps -/
theorem rt_new (tb : Nat) : RT [rootNd tb] [] 0 := ⟨fun w => by
  constructor
  · intro h; simp at h
  · rintro ⟨m, hm, hw⟩
    simp only [List.mem_singleton] at hm
    subst hm
    simp [rootNd] at hw, .nil, rfl⟩
theorem tj_new (tb : Nat) : TJ tb 0 [rootNd tb] := ⟨TI.new tb, rfl, by decide⟩
theorem mem_set_key {l : List R} (nd : l.Pairwise (fun x y => key x y = false)) {i : Nat} {x y : R} (hy : l[i]? = some y) (hk : key x y = true) (w : R) : w ∈ l.set i x ↔ (w ∈ l ∧ key x w = false) ∨ w = x := by
  have hil := (List.getElem?_eq_some_iff.1 hy).1
  have apart : ∀ (j : Nat) (w : R), l[j]? = some w → key x w = true → j = i := fun j w hj hkw => by
    have hjl := (List.getElem?_eq_some_iff.1 hj).1
    have e : key y w = true := by
      rw [key_iff] at hk hkw ⊢
      exact ⟨by rw [hkw.1, hk.1], by rw [hkw.2.1, hk.2.1], by rw [hkw.2.2, hk.2.2]⟩
    rw [List.pairwise_iff_getElem] at nd
    rw [List.getElem?_eq_getElem hjl] at hj
    rw [List.getElem?_eq_getElem hil] at hy
    simp only [Option.some.injEq] at hj hy
    rcases Nat.lt_trichotomy j i with h1 | h1 | h1
    · have := nd j i hjl hil h1
      rw [hj, hy, key_comm, e] at this; cases this
    · exact h1
    · have := nd i j hil hjl h1
      rw [hj, hy, e] at this; cases this
  constructor
  · intro hw
    obtain ⟨j, hj, e⟩ := List.getElem_of_mem hw
    have hjw : (l.set i x)[j]? = some w := by rw [List.getElem?_eq_getElem hj, e]
    rw [List.getElem?_set] at hjw
    split at hjw
    · rename_i h
      exact .inr (Option.some.inj hjw).symm
    · rename_i hne
      refine .inl ⟨List.mem_of_getElem? hjw, ?_⟩
      cases e : key x w with
      | false => rfl
      | true => exact absurd (apart j w hjw e).symm hne
  · rintro (⟨hw, hkw⟩ | rfl)
    · obtain ⟨j, hj, e⟩ := List.getElem_of_mem hw
      have hjw : l[j]? = some w := by rw [List.getElem?_eq_getElem hj, e]
      have hne : i ≠ j := fun e => by subst e; rw [hjw] at hy; cases hy; rw [hk] at hkw; cases hkw
      exact List.mem_of_getElem? (i := j) (by rw [List.getElem?_set, if_neg hne]; exact hjw)
    · exact List.mem_of_getElem? (i := i) (by rw [List.getElem?_set, if_pos rfl, if_pos hil])
theorem pairwise_set {l : List R} {i : Nat} {x y : R} (nd : l.Pairwise (fun x y => key x y = false)) (hy : l[i]? = some y) (hk : key x y = true) : (l.set i x).Pairwise (fun x y => key x y = false) := by
  have hil := (List.getElem?_eq_some_iff.1 hy).1
  have hx : ∀ w, key x w = key y w := fun w => by
    rw [key_iff] at hk
    unfold key
    rw [hk.1, hk.2.1, hk.2.2]
  rw [List.pairwise_iff_getElem] at nd ⊢
  intro a b ha hb hab
  rw [List.length_set] at ha hb
  rw [List.getElem?_eq_getElem hil] at hy
  simp only [Option.some.injEq] at hy
  rw [List.getElem_set, List.getElem_set]
  by_cases h1 : i = a <;> by_cases h2 : i = b
  · omega
  · subst h1; rw [if_pos rfl, if_neg h2, hx, ← hy]; exact nd i b hil hb hab
  · subst h2; rw [if_pos rfl, if_neg h1, key_comm, hx, ← hy, key_comm]; exact nd a i ha hil hab
  · rw [if_neg h1, if_neg h2]; exact nd a b ha hb hab
theorem rt_add {T T' : List Nd} {l l' : List R} {n n' : Nat} {x : R} {e f : Int} (hn : n ≤ 64) (h : RT T l n) (ht : TAdd T n x e T' n') (hr : RAdd l x f l') : e = f ∧ RT T' l' n' := by
  have some_no : ∀ {y : R}, WM T y → key x y = true → ¬ ∀ y ∈ l, key x y = false := fun {y} hy hk hno => by rw [hno y ((h.mem y).2 hy)] at hk; cases hk
  cases ht with
  | bad ht =>
    cases hr with
    | bad => exact ⟨rfl, h⟩
    | set _ _ hr => rw [ht] at hr; cases hr
    | full hr => rw [ht] at hr; cases hr
    | new hr => rw [ht] at hr; cases hr
  | set _ ht y hy hk hm =>
    cases hr with
    | bad hr => rw [ht] at hr; cases hr
    | full _ hno => exact absurd hno (some_no hy hk)
    | new _ hno => exact absurd hno (some_no hy hk)
    | set i z _ hz hkz => exact ⟨rfl, fun w => by rw [mem_set_key h.nd hz hkz, hm, h.mem], pairwise_set h.nd hz hkz, by rw [List.length_set]; exact h.len⟩
  | full ht hno hl =>
    cases hr with
    | bad hr => rw [ht] at hr; cases hr
    | set i z _ hz hkz => rw [hno z ((h.mem z).1 (List.mem_of_getElem? hz))] at hkz; cases hkz
    | full => exact ⟨rfl, h⟩
    | new _ _ hlt => have := h.len; omega
  | new _ ht hno hl hm =>
    cases hr with
    | bad hr => rw [ht] at hr; cases hr
    | set i z _ hz hkz => rw [hno z ((h.mem z).1 (List.mem_of_getElem? hz))] at hkz; cases hkz
    | full _ _ hge => have := h.len; omega
    | new _ hnl =>
      refine ⟨rfl, fun w => ?_, ?_, by simp [h.len]⟩
      · rw [hm, List.mem_append, List.mem_singleton, h.mem]
      · rw [List.pairwise_append]
        refine ⟨h.nd, by simp, fun y hy z hz => ?_⟩
        simp only [List.mem_singleton] at hz
        subst hz
        rw [key_comm]; exact hnl y hy
theorem rt_del {T T' : List Nd} {l : List R} {n n' : Nat} {net bits cost e : Int} (h : RT T l n) (ht : TDel T n net bits cost e T' n') :
    ((∀ x ∈ l, hit net bits cost x = false) → e = 6 ∧ T' = T ∧ n' = n) ∧
    (∀ (i : Nat) (x : R), l[i]? = some x → hit net bits cost x = true → e = 0 ∧ RT T' (l.eraseIdx i) n') := by
  cases ht with
  | none hn =>
    refine ⟨fun _ => ⟨rfl, rfl, rfl⟩, fun i x hx hk => ?_⟩
    rw [hn x ((h.mem x).1 (List.mem_of_getElem? hx))] at hk; cases hk
  | del _ y hy hk h0 hm =>
    refine ⟨fun hno => ?_, fun i x hx hkx => ⟨rfl, fun w => ?_, ?_, ?_⟩⟩
    · rw [hno y ((h.mem y).2 hy)] at hk; cases hk
    · have hil := (List.getElem?_eq_some_iff.1 hx).1
      rw [hm, ← h.mem, List.mem_eraseIdx_iff_getElem?]
      have hkk : ∀ w, hit net bits cost w = key x w := fun w => by
        have := (key_iff (x := ⟨net, bits, 0, 0, cost⟩)).1 hkx
        have e1 : x.net = net := this.1
        have e2 : x.bits = bits := this.2.1
        have e3 : x.cost = cost := this.2.2
        unfold key
        rw [e1, e2, e3]
      constructor
      · rintro ⟨j, hne, hjw⟩
        refine ⟨List.mem_of_getElem? hjw, ?_⟩
        have hjl := (List.getElem?_eq_some_iff.1 hjw).1
        have nd := h.nd
        rw [List.pairwise_iff_getElem] at nd
        rw [List.getElem?_eq_getElem hjl] at hjw
        rw [List.getElem?_eq_getElem hil] at hx
        simp only [Option.some.injEq] at hjw hx
        rw [hkk]
        rcases Nat.lt_or_gt_of_ne hne with h1 | h1
        · have := nd j i hjl hil h1
          rw [hjw, hx, key_comm] at this; exact this
        · have := nd i j hil hjl h1
          rw [hjw, hx] at this; exact this
      · rintro ⟨hw, hkw⟩
        obtain ⟨j, hj, e⟩ := List.getElem_of_mem hw
        have hjw : l[j]? = some w := by rw [List.getElem?_eq_getElem hj, e]
        exact ⟨j, (fun e => by subst e; rw [hjw] at hx; cases hx; rw [hkx] at hkw; cases hkw), hjw⟩
    · exact List.Pairwise.sublist (List.eraseIdx_sublist ..) h.nd
    · have hil := (List.getElem?_eq_some_iff.1 hx).1
      rw [List.length_eraseIdx, if_pos hil, h.len]
end Go.Proofs.Ytjppphldiaonkaa.Rt
