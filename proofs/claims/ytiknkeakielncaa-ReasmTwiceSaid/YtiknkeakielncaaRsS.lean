/- reasm: pieces of pieces (no program). Conditions: none. -/
import Derived.Test.YtiknkeakielncaaRsR
namespace Go.Proofs.Ytiknkeakielncaa.Rs
open Go Go.Proofs Sx
set_option maxRecDepth 100000
set_option linter.unusedVariables false
set_option linter.unusedSimpArgs false
set_option maxHeartbeats 4000000

/-- A piece of a piece is a piece. -/
theorem piece_piece {p x : Pl} {a n b m : Nat} (h : Piece p x a n) {z : Pl} (hz : z.h = { x.h with off := x.h.off + (b / 8 : Nat), more := x.h.more || decide (b + m < n) }) (hd : z.data = (x.data.drop b).take m)
    (ho : b = 0 → z.opts = x.opts) (h0 : 0 < m) (h8 : 8 ∣ b) (hle : b + m ≤ n) (hm8 : b + m < n → 8 ∣ m) : Piece p z (a + b) m := by
  have hle0 := h.le
  refine ⟨?_, ?_, Nat.dvd_add h.a8 h8, h0, by omega, fun hlt => ?_, fun e => ?_⟩
  · rw [hz, h.h]
    simp only
    have e1 : (((a / 8 : Nat) : Int) + ((b / 8 : Nat) : Int)) = (((a + b) / 8 : Nat) : Int) := by
      obtain ⟨c, rfl⟩ := h.a8
      obtain ⟨d, rfl⟩ := h8
      omega
    have e2 : (decide (a + n < p.data.length) || decide (b + m < n)) = decide (a + b + m < p.data.length) := by
      by_cases q1 : b + m < n
      · rw [decide_eq_true q1, Bool.or_true, decide_eq_true (by omega)]
      · rw [decide_eq_false q1, Bool.or_false]
        have : b + m = n := by omega
        rw [show a + b + m = a + n by omega]
    rw [e1, e2]
  · rw [hd, h.d, List.drop_take, List.take_take, List.drop_drop]
    congr 1
    omega
  · by_cases q1 : b + m < n
    · exact hm8 q1
    · have h1 := h.n8 (by omega)
      have : b + m = n := by omega
      obtain ⟨c, hc⟩ := h8
      obtain ⟨d, hd⟩ := h1
      exact ⟨d - c, by omega⟩
  · have ha : a = 0 := by omega
    have hb : b = 0 := by omega
    rw [ho hb, h.o ha]
/-- What was cut once. -/
def Lst (i : Ip) (L : List Ip) (ns : List Nat) : Prop :=
  (i.p.data = [] ∧ (L = [] ∨ L = [i])) ∨ (i.p.data ≠ [] ∧ L.length = ns.length ∧ ns.sum = i.p.data.length ∧ ∀ t x n, L[t]? = some x → ns[t]? = some n → Piece i.p x.p (st ns t) n)
theorem self_piece {p : Pl} (h0 : p.h.off = 0) (hm : p.h.more = false) (hd : p.data ≠ []) : Piece p p 0 p.data.length := by
  refine ⟨?_, by simp, ⟨0, rfl⟩, List.length_pos_iff.2 hd, by omega, fun h => by omega, fun _ => rfl⟩
  obtain ⟨⟨_, _, _, mo, of, _, _, _, _⟩, _, _⟩ := p
  simp only at h0 hm ⊢
  subst h0 hm
  simp
theorem pcs_pieces {i : Ip} {y : Cy} {ns : List Nat} (hS : Sizes i.p.data.length i.p.data.length ns) (h0 : i.p.h.off = 0) (hm : i.p.h.more = false) {t : Nat} {x : Ip} {n : Nat} (hx : (pcs i y 0 ns)[t]? = some x) (hn : ns[t]? = some n) : Piece i.p x.p (st ns t) n := by
  rw [pcs_get, hn] at hx
  simp only [Option.map_some, Option.some.injEq, Nat.zero_add] at hx
  subst hx
  have hsp : ns = ns.take t ++ n :: ns.drop (t + 1) := by
    obtain ⟨hj, e⟩ := List.getElem?_eq_some_iff.1 hn
    rw [← e, ← List.drop_eq_getElem_cons hj, List.take_append_drop]
  obtain ⟨q1, q2, q3⟩ := hS.ok _ _ _ hsp
  have hle : st ns t + n ≤ i.p.data.length := by
    have := hS.sum
    rw [hsp, List.sum_append, List.sum_cons] at this
    unfold st
    omega
  refine ⟨?_, rfl, q2, q1, hle, q3, fun e => ?_⟩
  · unfold Ip.pc
    simp only [h0, hm, Bool.false_or, Int.zero_add]
  · show oL i y (st ns t) = _
    rw [e]; rfl
theorem lst_one {i : Ip} (h0 : i.p.h.off = 0) (hm : i.p.h.more = false) : Lst i [i] [i.p.data.length] := by
  by_cases hd : i.p.data = []
  · exact .inl ⟨hd, .inr rfl⟩
  · refine .inr ⟨hd, rfl, by simp, fun t x n hx hn => ?_⟩
    cases t with
    | zero =>
      simp at hx hn
      subst hx hn
      have := self_piece h0 hm hd
      simpa [st] using this
    | succ t => simp at hx
theorem lst_pcs {i : Ip} {y : Cy} {ns : List Nat} (hS : Sizes i.p.data.length i.p.data.length ns) (h0 : i.p.h.off = 0) (hm : i.p.h.more = false) : Lst i (pcs i y 0 ns) ns := by
  by_cases hd : i.p.data = []
  · refine .inl ⟨hd, .inl ?_⟩
    have := hS.few
    rw [hd] at this
    have : ns = [] := List.eq_nil_of_length_eq_zero (by simpa using this)
    rw [this]; rfl
  · exact .inr ⟨hd, pcs_len i y ns 0, hS.sum, fun t x n hx hn => pcs_pieces hS h0 hm hx hn⟩
structure Cut2 (i : Ip) (at_ : Nat) (all : List Ip) (zs : List Nat) : Prop where
  len : all.length = zs.length
  sum : zs.sum = at_
  pc : ∀ j x n, all[j]? = some x → zs[j]? = some n → Piece i.p x.p (st zs j) n
/-- What was cut twice, of the first t. -/
def Good (i : Ip) (ns : List Nat) (t : Nat) (all : List Ip) : Prop :=
  (i.p.data = [] ∧ (all = [] ∨ t ≠ 0 ∧ all = [i])) ∨ (i.p.data ≠ [] ∧ ∃ zs, Cut2 i (st ns t) all zs)
theorem good_nil (i : Ip) (ns : List Nat) : Good i ns 0 [] := by
  by_cases hd : i.p.data = []
  · exact .inl ⟨hd, .inl rfl⟩
  · exact .inr ⟨hd, [], rfl, by simp [st], fun j x n h => by simp at h⟩
theorem cut2_app {i : Ip} {at_ : Nat} {all M : List Ip} {zs ms : List Nat} {k : Nat} (h : Cut2 i at_ all zs) (hl : M.length = ms.length) (hs : ms.sum = k) (hp : ∀ j x m, M[j]? = some x → ms[j]? = some m → Piece i.p x.p (at_ + st ms j) m) : Cut2 i (at_ + k) (all ++ M) (zs ++ ms) := by
  refine ⟨by rw [List.length_append, List.length_append, h.len, hl], by rw [List.sum_append, h.sum, hs], fun j x n hx hn => ?_⟩
  by_cases hj : j < zs.length
  · rw [List.getElem?_append_left (by rw [h.len]; exact hj)] at hx
    rw [List.getElem?_append_left hj] at hn
    have := h.pc j x n hx hn
    have e : st (zs ++ ms) j = st zs j := by unfold st; rw [List.take_append_of_le_length (by omega)]
    rw [e]; exact this
  · rw [List.getElem?_append_right (by rw [h.len]; omega), h.len] at hx
    rw [List.getElem?_append_right (by omega)] at hn
    have := hp _ x n hx hn
    have e : st (zs ++ ms) j = at_ + st ms (j - zs.length) := by
      unfold st
      rw [List.take_append, List.sum_append, List.take_of_length_le (by omega), h.sum]
    rw [e]; exact this
theorem good_step {i : Ip} {L : List Ip} {ns : List Nat} (hL : Lst i L ns) {t : Nat} {x : Ip} (hx : L[t]? = some x) {all : List Ip} (hg : Good i ns t all) {M : List Ip}
    (hM : M = [x] ∨ ∃ y ms, M = pcs x y 0 ms ∧ Sizes x.p.data.length x.p.data.length ms) : Good i ns (t + 1) (all ++ M) := by
  rcases hL with ⟨hd, hL⟩ | ⟨hd, hlen, hsum, hpc⟩
  · have hx1 : t = 0 ∧ x = i := by
      rcases hL with rfl | rfl
      · simp at hx
      · cases t with
        | zero => simp at hx; exact ⟨rfl, hx.symm⟩
        | succ t => simp at hx
    obtain ⟨rfl, rfl⟩ := hx1
    rcases hg with ⟨_, rfl | ⟨h, _⟩⟩ | ⟨h, _⟩
    · refine .inl ⟨hd, ?_⟩
      rcases hM with rfl | ⟨y, ms, rfl, hS⟩
      · exact .inr ⟨by omega, rfl⟩
      · have := hS.few
        rw [hd] at this
        have : ms = [] := List.eq_nil_of_length_eq_zero (by simpa using this)
        rw [this]; exact .inl rfl
    · exact absurd rfl h
    · exact absurd hd h
  · rcases hg with ⟨h, _⟩ | ⟨_, zs, hC⟩
    · exact absurd h hd
    have ht := (List.getElem?_eq_some_iff.1 hx).1
    have hn := List.getElem?_eq_getElem (show t < ns.length by omega)
    generalize ns[t]'(by omega) = n at hn
    have hp := hpc t x n hx hn
    have hxl : x.p.data.length = n := by rw [hp.d, List.length_take, List.length_drop]; have := hp.le; omega
    refine .inr ⟨hd, ?_⟩
    rw [st_succ hn]
    rcases hM with rfl | ⟨y, ms, rfl, hS⟩
    · refine ⟨zs ++ [n], cut2_app hC rfl (by simp) (fun j z m hz hm => ?_)⟩
      cases j with
      | zero =>
        simp at hz hm
        subst hz hm
        simpa [st] using hp
      | succ j => simp at hz
    · refine ⟨zs ++ ms, cut2_app hC (pcs_len _ _ _ _) (by rw [hS.sum, hxl]) (fun j z m hz hm => ?_)⟩
      rw [pcs_get, hm] at hz
      simp only [Option.map_some, Option.some.injEq, Nat.zero_add] at hz
      subst hz
      have hsp : ms = ms.take j ++ m :: ms.drop (j + 1) := by
        obtain ⟨hj, e⟩ := List.getElem?_eq_some_iff.1 hm
        rw [← e, ← List.drop_eq_getElem_cons hj, List.take_append_drop]
      obtain ⟨q1, q2, q3⟩ := hS.ok _ _ _ hsp
      have hle : st ms j + m ≤ n := by
        have := hS.sum
        rw [hsp, List.sum_append, List.sum_cons, hxl] at this
        unfold st
        omega
      refine piece_piece hp ?_ rfl (fun e => ?_) q1 q2 hle (fun h => q3 (by rw [hxl]; exact h))
      · unfold Ip.pc
        simp only [hxl]
      · show oL x y (st ms j) = _
        rw [e]; rfl
/-- All that was cut: nothing, the packet itself, or pieces of it. -/
theorem good_all {i : Ip} {L all : List Ip} {ns : List Nat} (hL : Lst i L ns) (hg : Good i ns L.length all) (h0 : i.p.h.off = 0) (hm : i.p.h.more = false) (ho : i.p.opts.length ≤ 40) (hdl : i.p.data.length ≤ 60000) :
    all = [] ∨ (∃ x, all = [x] ∧ x.p = i.p) ∨ ∃ zs, Part i.p (all.map Ip.p) zs := by
  rcases hg with ⟨_, rfl | ⟨_, rfl⟩⟩ | ⟨hd, zs, hC⟩
  · exact .inl rfl
  · exact .inr (.inl ⟨i, rfl, rfl⟩)
  · rcases hL with ⟨h, _⟩ | ⟨_, hlen, hsum, _⟩
    · exact absurd h hd
    have hC2 := hC.sum
    rw [hlen, st_all, hsum] at hC2
    by_cases h2 : 2 ≤ zs.length
    · exact .inr (.inr ⟨zs, by rw [List.length_map]; exact hC.len, hC2, fun j x n hx hn => by
        rw [List.getElem?_map] at hx
        cases hz : all[j]? with
        | none => rw [hz] at hx; cases hx
        | some z =>
          rw [hz] at hx
          simp at hx; subst hx
          exact hC.pc j z n hz hn, h0, hm, h2, ho, hdl⟩)
    · match zs, hC, hC2, h2 with
      | [], hC, _, _ => exact .inl (List.eq_nil_of_length_eq_zero hC.len)
      | [n], hC, hC2, _ =>
        have hl := hC.len
        match all, hl with
        | [x], _ =>
        refine .inr (.inl ⟨x, rfl, ?_⟩)
        have hp := hC.pc 0 x n rfl rfl
        have hn : n = i.p.data.length := by simpa using hC2
        subst hn
        have e0 : st [i.p.data.length] 0 = 0 := rfl
        rw [e0] at hp
        have q1 := hp.h; have q2 := hp.d; have q3 := hp.o rfl
        obtain ⟨⟨xh, xo, xd⟩, _, _, _, _⟩ := x
        obtain ⟨⟨⟨_, _, _, mo, of, _, _, _, _⟩, io, id⟩, _, _, _, _⟩ := i
        simp only at q1 q2 q3 h0 hm ⊢
        subst q1 q2 q3 h0 hm
        simp
      | a :: b :: r, _, _, h2 => simp at h2
/-! ### .. and put together -/
def sg (back : Bool) (len q : Nat) : Nat := if back then len - 1 - q else q
def Jq (back : Bool) (len : Nat) : Nat → List Nat
  | 0 => []
  | q + 1 => sg back len q :: Jq back len q
theorem jq_mem {back : Bool} {len : Nat} : ∀ {q j : Nat}, j ∈ Jq back len q ↔ ∃ r, r < q ∧ sg back len r = j
  | 0, j => by simp [Jq]
  | q + 1, j => by
    rw [Jq, List.mem_cons, jq_mem]
    constructor
    · rintro (rfl | ⟨r, hr, e⟩)
      · exact ⟨q, by omega, rfl⟩
      · exact ⟨r, by omega, e⟩
    · rintro ⟨r, hr, e⟩
      by_cases h : r = q
      · subst h; exact .inl e.symm
      · exact .inr ⟨r, by omega, e⟩
theorem jq_all {back : Bool} {len q : Nat} (hq : q < len) : (∀ j, j < len → j ∈ Jq back len (q + 1)) ↔ q + 1 = len := by
  constructor
  · intro h
    obtain ⟨r, hr, e⟩ := jq_mem.1 (h (sg back len (len - 1)) (by unfold sg; split <;> omega))
    unfold sg at e
    split at e <;> omega
  · intro h j hj
    refine jq_mem.2 ⟨sg back len j, by unfold sg; split <;> omega, by unfold sg; split <;> omega⟩
def RunI (i : Ip) (back : Bool) (all : List Ip) (q : Nat) (M : List Mp) : Prop :=
  (q = all.length → M = []) ∧ (q < all.length → ((∃ x, all = [x] ∧ x.p = i.p) ∧ M = []) ∨ ∃ zs, Part i.p (all.map Ip.p) zs ∧ InvM i.p zs (Jq back all.length q) M)
theorem run_nil {i : Ip} {all : List Ip} (back : Bool) (h : all = [] ∨ (∃ x, all = [x] ∧ x.p = i.p) ∨ ∃ zs, Part i.p (all.map Ip.p) zs) : RunI i back all 0 [] := by
  refine ⟨fun _ => rfl, fun hl => ?_⟩
  rcases h with rfl | h | ⟨zs, h⟩
  · simp at hl
  · exact .inl ⟨h, rfl⟩
  · exact .inr ⟨zs, h, .inl ⟨rfl, rfl⟩⟩
theorem run_step {i : Ip} {back : Bool} {all : List Ip} {q : Nat} {M M' : List Mp} (h0 : i.p.h.off = 0) (hm : i.p.h.more = false) (hI : RunI i back all q M) (hq : q < all.length) {now life : Int} (hn : 0 ≤ now ∧ now ≤ 1099511627776) {y : Ip} (hy : all[sg back all.length q]? = some y) {r : Pl} {dn : Bool} {e : Int}
    (h : AddP 1 life now y.p M M' r dn e) : e = 0 ∧ (dn = true ↔ q + 1 = all.length) ∧ (dn = true → r = i.p) ∧ RunI i back all (q + 1) M' := by
  rcases hI.2 hq with ⟨⟨x, rfl, hx⟩, rfl⟩ | ⟨zs, P, hM⟩
  · have hq0 : q = 0 := by simpa using hq
    subst hq0
    have hyx : y = x := by
      unfold sg at hy
      cases back <;> simpa [eq_comm] using hy
    subst hyx
    rw [hx] at h
    have hc : checkE now i.p.h i.p.data.length = 0 := by
      unfold checkE
      rw [if_neg (by omega), if_pos ⟨h0, hm⟩]
    cases h with
    | bad h => exact absurd hc h
    | at_once _ _ => exact ⟨rfl, by simp, fun _ => rfl, fun _ => rfl, fun h => by simp at h⟩
    | full _ hw => exact absurd ⟨h0, hm⟩ hw
    | stale _ hw => exact absurd ⟨h0, hm⟩ hw
    | more _ hw => exact absurd ⟨h0, hm⟩ hw
    | long _ hw => exact absurd ⟨h0, hm⟩ hw
    | done _ hw => exact absurd ⟨h0, hm⟩ hw
  · have hzl : zs.length = all.length := by have := P.len; rw [List.length_map] at this; exact this.symm
    obtain ⟨a1, a2, a3, a4⟩ := add_piece P hn hM (by rw [List.getElem?_map, hy]; rfl) h
    rw [hzl] at a2
    have a2' : dn = true ↔ q + 1 = all.length := a2.trans (jq_all hq)
    refine ⟨a1, a2', fun hd => (a4 hd).1, fun he => ?_, fun hl => .inr ⟨zs, P, a3 ?_⟩⟩
    · exact (a4 (a2'.2 he)).2
    · cases dn with
      | false => rfl
      | true => have := a2'.1 rfl; omega
end Go.Proofs.Ytiknkeakielncaa.Rs
