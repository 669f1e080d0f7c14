/- reasm: the plain law of ReasmPlays: Add on both sides. Conditions: none. -/
import Derived.Test.YtiknkeakielncaaRsZ
namespace Go.Proofs.Ytiknkeakielncaa.Rs
open Go Go.Proofs Sx
set_option maxRecDepth 100000
set_option linter.unusedVariables false
set_option linter.unusedSimpArgs false
set_option maxHeartbeats 4000000

theorem cnt_hs (hs : List Bool) : ∀ n, n ≤ hs.length → cntN hs n = cntP (fun k => decide (hs[k]? = some true)) n
  | 0, _ => by simp [cntN, cntP]
  | n + 1, h => by
    have e : hs[n]? = some hs[n] := List.getElem?_eq_getElem (by omega)
    rw [cntN_succ hs e, cnt_hs hs n (by omega)]
    have e2 : decide (hs[n]? = some true) = hs[n] := by
      rw [Bool.eq_iff_iff, decide_eq_true_iff, e]
      simp
    simp only [cntP, e2]
theorem Rl.held {m : Mp} {x : RP} (h : Rl m x) : (cntN x.hs x.hs.length : Int) = heldT m.ts := by
  rw [cnt_hs _ _ (Nat.le_refl _), ← cnt_ts (n := x.hs.length) h.wf (fun s hs => ⟨h.lo s hs, ?_⟩)]
  · congr 1
    refine cntP_congr (fun k _ => ?_)
    rw [Bool.eq_iff_iff, decide_eq_true_iff]
    exact h.bit k
  · have h1 := top_last h.wf s hs
    have h2 := topN_le x.hs x.hs.length
    have h3 := h.top
    omega
theorem Rls.held {M : List Mp} {L : List RP} (h : Rls M L) : (heldR L : Int) = heldM M := by
  induction h with
  | nil => rfl
  | @cons m x M L h t ih =>
    have e := h.held
    unfold heldR heldM at ih ⊢
    rw [List.map_cons, List.map_cons, List.sum_cons, List.sum_cons, ← ih, ← e]
    omega
/-- Keys apart. -/
def KA (M : List Mp) : Prop := M.Pairwise (fun a b => a.k ≠ b.k)
theorem ka_one : ∀ {A C B D : List Mp} {x m : Mp}, KA (A ++ x :: B) → A ++ x :: B = C ++ m :: D → x.k = m.k → A = C ∧ x = m ∧ B = D
  | [], [], B, D, x, m, _, e, _ => by
    injection e with e1 e2
    exact ⟨rfl, e1, e2⟩
  | [], c :: C, B, D, x, m, ka, e, hk => by
    injection e with e1 e2
    exact absurd hk ((List.pairwise_cons.1 ka).1 m (by show m ∈ B; rw [e2]; simp))
  | a :: A, [], B, D, x, m, ka, e, hk => by
    injection e with e1 e2
    exact absurd (e1 ▸ hk.symm) ((List.pairwise_cons.1 ka).1 x (by simp))
  | a :: A, c :: C, B, D, x, m, ka, e, hk => by
    injection e with e1 e2
    obtain ⟨rfl, r⟩ := ka_one (List.pairwise_cons.1 ka).2 e2 hk
    exact ⟨by rw [e1], r⟩
theorem Rls.mem {M : List Mp} {L : List RP} (h : Rls M L) {x : Mp} (hx : x ∈ M) : ∃ y ∈ L, y.k = x.k := by
  induction h with
  | nil => cases hx
  | cons h t ih =>
    rcases List.mem_cons.1 hx with rfl | hx
    · exact ⟨_, by simp, h.k⟩
    · obtain ⟨y, hy, e⟩ := ih hx
      exact ⟨y, List.mem_cons_of_mem _ hy, e⟩
theorem Rls.mem' {M : List Mp} {L : List RP} (h : Rls M L) {x : RP} (hx : x ∈ L) : ∃ y ∈ M, y.k = x.k ∧ Rl y x := by
  induction h with
  | nil => cases hx
  | cons h t ih =>
    rcases List.mem_cons.1 hx with rfl | hx
    · exact ⟨_, by simp, h.k.symm, h⟩
    · obtain ⟨y, hy, e⟩ := ih hx
      exact ⟨y, List.mem_cons_of_mem _ hy, e⟩
theorem Rls.ok {M : List Mp} {L : List RP} (h : Rls M L) : ∀ x ∈ L, ROK x := fun x hx => by
  obtain ⟨y, _, _, r⟩ := h.mem' hx
  exact r.ok
structure Plcd (most : Int) (M1 : List Mp) (A B : List Mp) (x : Mp) (C D : List RP) (y : RP) : Prop where
  a : Rls A C
  m : Rl x y
  b : Rls B D
  ka : KA M1
  len : (M1.length : Int) ≤ most
theorem place {M : List Mp} {L : List RP} {most life now : Int} {k : Key} {M1 A B : List Mp} {x : Mp} {C D : List RP} {y : RP} (h : Rls M L) (ka : KA M) (hlen : (M.length : Int) ≤ most)
    (hb : Begun most life now k M M1) (e : M1 = A ++ x :: B) (hk : x.k = k) (hs : Start most k (now + life) L C y D) : Plcd most M1 A B x C D y := by
  have key : ∃ A' m B', M1 = A' ++ m :: B' ∧ m.k = k ∧ Rls A' C ∧ Rl m y ∧ Rls B' D ∧ KA M1 ∧ (M1.length : Int) ≤ most := by
    cases hb with
    | found hf =>
      cases hs with
      | found _ _ _ eL hky hA =>
        obtain ⟨A', B', m, rfl, h1, h2, h3⟩ := h.split eL
        exact ⟨A', m, B', rfl, h2.k.symm.trans hky, h1, h2, h3, ka, hlen⟩
      | new hn hm =>
        obtain ⟨z, hz, hzk⟩ := hf
        obtain ⟨w, hw, hwk⟩ := h.mem hz
        exact absurd (hwk.trans hzk) (hn w hw)
    | new hf hm =>
      cases hs with
      | found _ _ _ eL hky hA =>
        obtain ⟨w, hw, hwk, _⟩ := h.mem' (x := y) (by rw [eL]; simp)
        exact absurd (hwk.trans hky) (hf w hw)
      | new hn hm' =>
        refine ⟨M, newM k (now + life), [], rfl, rfl, h, Rl.new _ _, .nil, ?_, ?_⟩
        · refine List.pairwise_append.2 ⟨ka, List.pairwise_singleton _ _, fun a ha b hb => ?_⟩
          rw [List.mem_singleton] at hb
          subst hb
          exact hf a ha
        · rw [List.length_append, List.length_singleton]; omega
  obtain ⟨A', m, B', e', hmk, h1, h2, h3, h4, h5⟩ := key
  obtain ⟨rfl, rfl, rfl⟩ := ka_one (e ▸ h4) (e.symm.trans e') (hk.trans hmk.symm)
  exact ⟨h1, h2, h3, h4, h5⟩
theorem ka_put {A B : List Mp} {x y : Mp} (h : KA (A ++ x :: B)) (e : y.k = x.k) : KA (A ++ y :: B) := by
  unfold KA at h ⊢
  rw [List.pairwise_append, List.pairwise_cons] at h ⊢
  obtain ⟨h1, ⟨h2, h3⟩, h4⟩ := h
  refine ⟨h1, ⟨fun b hb => by rw [e]; exact h2 b hb, h3⟩, fun a ha b hb => ?_⟩
  rcases List.mem_cons.1 hb with rfl | hb
  · rw [e]; exact h4 a ha x (by simp)
  · exact h4 a ha b (List.mem_cons_of_mem _ hb)
theorem ka_less {A B : List Mp} {x : Mp} (h : KA (A ++ x :: B)) : KA (A ++ B) := List.Pairwise.sublist ((List.Sublist.refl A).append (List.sublist_cons_self x B)) h
structure Both (most : Int) (M' : List Mp) (r : Pl) (dn : Bool) (e : Int) (L' : List RP) (r' : Ip) (dn' : Bool) (e' : Int) : Prop where
  l : Rls M' L'
  ka : KA M'
  len : (M'.length : Int) ≤ most
  r : r = r'.p
  dn : dn = dn'
  e : e = e'
theorem check_pos {now : Int} {h : Hd} {n : Nat} (hc : checkE now h n = 0) (hw : ¬ (h.off = 0 ∧ h.more = false)) : 0 ≤ h.off ∧ 0 < n := by
  unfold checkE at hc
  by_cases c : now < 0 ∨ now > 1099511627776 ∨ h.off < 0 ∨ h.off > 8191
  · rw [if_pos c] at hc; cases hc
  · rw [if_neg c, if_neg hw] at hc
    split at hc
    · cases hc
    · omega
theorem ready_one {m : Mp} {q : Pl} {s : T} (h : readyM m = true) (hs : m.ts = [s]) : s.1 = 0 ∧ s.stop = m.last := by
  obtain ⟨_, _, s', h1, h2, h3⟩ := readyM_iff.1 h
  rw [hs] at h1
  injection h1 with h1
  subst h1
  exact ⟨h2, h3⟩
theorem begun_full {M : List Mp} {L : List RP} {most life now : Int} {k : Key} {M1 : List Mp} (h : Rls M L) (hb : Begun most life now k M M1) (hk : ∀ y ∈ L, y.k ≠ k) (hm : most ≤ L.length) : False := by
  cases hb with
  | found hf =>
    obtain ⟨z, hz, hzk⟩ := hf
    obtain ⟨w, hw, hwk⟩ := h.mem hz
    exact hk w hw (hwk.trans hzk)
  | new _ hm' => have := h.len; omega
theorem start_full {M : List Mp} {L A B : List RP} {x : RP} {most t : Int} {k : Key} (h : Rls M L) (hs : Start most k t L A x B) (hk : ∀ y ∈ M, y.k ≠ k) (hm : most ≤ M.length) : False := by
  cases hs with
  | found _ _ _ eL hky hA =>
    obtain ⟨w, hw', hwk, _⟩ := h.mem' (x := x) (by rw [eL]; simp)
    exact hk w hw' (hwk.trans hky)
  | new hn hm' => have := h.len; omega
theorem begun_stale {M : List Mp} {most life now : Int} {k : Key} {M1 A B : List Mp} {x : Mp} {e : Int} {more : Bool} (hb : Begun most life now k M M1) (eq : M1 = A ++ x :: B) (hk : x.k = k) (he : 0 ≤ e) (hf : fitsM x e more = false) : M1 = M := by
  cases hb with
  | found _ => rfl
  | new hn hm =>
    have hx : x ∈ M ++ [newM k (now + life)] := by rw [eq]; simp
    rcases List.mem_append.1 hx with hx | hx
    · exact absurd hk (hn x hx)
    · rw [List.mem_singleton] at hx
      subst hx
      exfalso
      unfold fitsM at hf
      have : topT (newM k (now + life)).ts = 0 := rfl
      rw [this, show (newM k (now + life)).last = -1 from rfl] at hf
      simp at hf
      omega
theorem Rls.add {M : List Mp} {L : List RP} {most life now : Int} {i : Ip} {M' : List Mp} {r : Pl} {dn : Bool} {e : Int} {L' : List RP} {r' : Ip} {dn' : Bool} {e' : Int} {own : List Asn} (h : Rls M L) (ka : KA M) (hlen : (M.length : Int) ≤ most)
    (hp : AddP most life now i.p M M' r dn e) (hr : RAdd most life now i L L' r' dn' e' own) : Both most M' r dn e L' r' dn' e' := by
  cases hp with
  | bad c =>
    cases hr with
    | bad _ => exact ⟨h, ka, hlen, rfl, rfl, rfl⟩
    | _ => contradiction
  | at_once c hw =>
    cases hr with
    | at_once _ _ => exact ⟨h, ka, hlen, rfl, rfl, rfl⟩
    | _ => contradiction
  | full c hw hk hm =>
    cases hr with
    | bad c' => exact absurd c c'
    | at_once _ hw' => exact absurd hw' hw
    | full _ _ _ _ => exact ⟨h, ka, hlen, rfl, rfl, rfl⟩
    | stale _ _ _ _ _ hs => exact (start_full h hs hk hm).elim
    | more _ _ _ _ _ _ hs => exact (start_full h hs hk hm).elim
    | long _ _ _ _ _ _ hs => exact (start_full h hs hk hm).elim
    | done _ _ _ _ _ _ hs => exact (start_full h hs hk hm).elim
  | stale c hw M1 A B x hb eq hk hf =>
    have hc := check_pos c hw
    have est : i.p.t.stop = 8 * i.p.h.off + i.p.data.length := rfl
    cases hr with
    | bad c' => exact absurd c c'
    | at_once _ hw' => exact absurd hw' hw
    | full _ _ hkL hm => exact (begun_full h hb hkL hm).elim
    | stale _ _ C D y hs hf' =>
      rw [begun_stale hb eq hk (by omega) hf]
      exact ⟨h, ka, hlen, rfl, rfl, rfl⟩
    | more _ _ C D y _ hs hf' => have p := place h ka hlen hb eq hk hs; rw [p.m.fits, hf] at hf'; cases hf'
    | long _ _ C D y _ hs hf' => have p := place h ka hlen hb eq hk hs; rw [p.m.fits, hf] at hf'; cases hf'
    | done _ _ C D y _ hs hf' => have p := place h ka hlen hb eq hk hs; rw [p.m.fits, hf] at hf'; cases hf'
  | more c hw M1 A B x hb eq hk hf ts' hl hrd =>
    have hc := check_pos c hw
    cases hr with
    | bad c' => exact absurd c c'
    | at_once _ hw' => exact absurd hw' hw
    | full _ _ hkL hm => exact (begun_full h hb hkL hm).elim
    | stale _ _ C D y hs hf' => have p := place h ka hlen hb eq hk hs; rw [p.m.fits, hf] at hf'; cases hf'
    | more _ _ C D y y' hs hf' st hr' =>
      have p := place h ka hlen hb eq hk hs
      have q := p.m.step hc.1 hc.2 hf hl st
      refine ⟨p.a.append (.cons q p.b), ka_put (x := x) (by rw [← eq]; exact p.ka) rfl, ?_, rfl, rfl, rfl⟩
      have := p.len
      rw [eq] at this
      simpa using this
    | long _ _ C D y y' hs hf' st hr' => have p := place h ka hlen hb eq hk hs; rw [(p.m.step hc.1 hc.2 hf hl st).ready, hrd] at hr'; cases hr'
    | done _ _ C D y y' hs hf' st hr' => have p := place h ka hlen hb eq hk hs; rw [(p.m.step hc.1 hc.2 hf hl st).ready, hrd] at hr'; cases hr'
  | long c hw M1 A B x hb eq hk hf ts' hl q s hq hss hrd hn =>
    have hc := check_pos c hw
    cases hr with
    | bad c' => exact absurd c c'
    | at_once _ hw' => exact absurd hw' hw
    | full _ _ hkL hm => exact (begun_full h hb hkL hm).elim
    | stale _ _ C D y hs hf' => have p := place h ka hlen hb eq hk hs; rw [p.m.fits, hf] at hf'; cases hf'
    | more _ _ C D y y' hs hf' st hr' => have p := place h ka hlen hb eq hk hs; rw [(p.m.step hc.1 hc.2 hf hl st).ready, hrd] at hr'; cases hr'
    | long _ _ C D y y' hs hf' st hr' z hz hn' =>
      have p := place h ka hlen hb eq hk hs
      refine ⟨p.a.append p.b, ka_less (x := x) (by rw [← eq]; exact p.ka), ?_, rfl, rfl, rfl⟩
      have := p.len
      rw [eq] at this
      simp at this ⊢
      omega
    | done _ _ C D y y' hs hf' st hr' z hz hn' =>
      have p := place h ka hlen hb eq hk hs
      have w := p.m.step hc.1 hc.2 hf hl st
      have o := ready_one (q := q) hrd hss
      have f := w.fi
      rw [hz, hq] at f
      injection f with f
      have la := w.last
      have ess : s.stop = s.1 + s.2.length := rfl
      have : z.p.opts = q.opts := by rw [f]
      rw [this] at hn'
      omega
  | done c hw M1 A B x hb eq hk hf ts' hl q s hq hss hrd hn =>
    have hc := check_pos c hw
    cases hr with
    | bad c' => exact absurd c c'
    | at_once _ hw' => exact absurd hw' hw
    | full _ _ hkL hm => exact (begun_full h hb hkL hm).elim
    | stale _ _ C D y hs hf' => have p := place h ka hlen hb eq hk hs; rw [p.m.fits, hf] at hf'; cases hf'
    | more _ _ C D y y' hs hf' st hr' => have p := place h ka hlen hb eq hk hs; rw [(p.m.step hc.1 hc.2 hf hl st).ready, hrd] at hr'; cases hr'
    | long _ _ C D y y' hs hf' st hr' z hz hn' =>
      have p := place h ka hlen hb eq hk hs
      have w := p.m.step hc.1 hc.2 hf hl st
      have o := ready_one (q := q) hrd hss
      have f := w.fi
      rw [hz, hq] at f
      injection f with f
      have la := w.last
      have ess : s.stop = s.1 + s.2.length := rfl
      have : z.p.opts = q.opts := by rw [f]
      rw [this] at hn'
      omega
    | done _ _ C D y y' hs hf' st hr' z hz hn' =>
      have p := place h ka hlen hb eq hk hs
      have w := p.m.step hc.1 hc.2 hf hl st
      have o := ready_one (q := q) hrd hss
      have f := w.fi
      rw [hz, hq] at f
      injection f with f
      refine ⟨p.a.append p.b, ka_less (x := x) (by rw [← eq]; exact p.ka), ?_, ?_, rfl, rfl⟩
      · have := p.len
        rw [eq] at this
        simp at this ⊢
        omega
      · unfold wholeP RP.out
        show (⟨_, _, _⟩ : Pl) = ⟨_, _, _⟩
        rw [w.data hss o.1 o.2, ← f]
theorem ka_keep {now : Int} {M : List Mp} (h : KA M) : KA (keepM now M) := List.Pairwise.sublist List.filter_sublist h
end Go.Proofs.Ytiknkeakielncaa.Rs
