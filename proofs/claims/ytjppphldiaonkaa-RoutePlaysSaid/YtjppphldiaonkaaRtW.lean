/- route: a node's ways are turned; plain facts. Conditions: none. -/
import Derived.Test.YtjppphldiaonkaaRtV
namespace Go.Proofs.Ytjppphldiaonkaa.Rt
open Go Go.Proofs Sx
set_option maxRecDepth 100000
set_option linter.unusedVariables false
set_option linter.unusedSimpArgs false
set_option maxHeartbeats 4000000

/-! ### Parts out of all, and back -/
theorem alls_pick {As Cs : List Asn} {A : Asn} {h : HP} (i : Nat) (e : As[i]? = some A) (k : sat (Alls As :: Cs) h) : sat (A :: Alls (As.eraseIdx i) :: Cs) h := by
  obtain ⟨x, y, t, hx, hy⟩ := k
  obtain ⟨u, v, t2, hu, hv⟩ := sat_nth i e hx
  exact ⟨u, un v y, (t.assoc' t2).1, hu, v, y, (t.assoc' t2).2, hv, hy⟩
theorem set_perm {α : Type} (a : α) : ∀ (l : List α) (i : Nat), i < l.length → (a :: l.eraseIdx i).Perm (l.set i a)
  | [], i, h => by simp at h
  | x :: l, 0, h => .refl _
  | x :: l, i + 1, h => by
    have := set_perm a l i (by simpa using h)
    exact (List.Perm.swap x a _).trans (this.cons x)
theorem alls_put {As : List Asn} {A : Asn} (i : Nat) (hi : i < As.length) (h : HP) (k : sat [A, Alls (As.eraseIdx i)] h) : Alls (As.set i A) h := by
  obtain ⟨x, y, t, hx, u, v, t2, hu, _⟩ := k
  exact sat_perm (set_perm A As i hi) (show sat (A :: As.eraseIdx i) h from ⟨x, y, t, hx, sat_more t2.comm hu⟩)
theorem sat_two {A B : Asn} {h a b : HP} (s : Split h a b) (ha : A a) (hb : B b) : sat [A, B] h := ⟨a, b, s, ha, b, HP.emp, .emp_right _, hb, trivial⟩
/-! ### A node's ways -/
def Nd.turn (m : Nd) (pl : Plc) (cap : Nat) (ws : List R) : Nd := { m with pl := pl, cap := cap, ws := ws }
theorem keys_set {T : List Nd} {i : Nat} {m : Nd} (h : T[i]? = some m) (pl : Plc) (cap : Nat) (ws : List R) : keys (T.set i (m.turn pl cap ws)) = keys T := map_set_same h rfl
theorem cells_turn (K : List Ky) (m : Nd) (pl : Plc) (cap : Nat) (ws : List R) : (m.turn pl cap ws).cells K = putV (m.cells K) 0 [.slice (locAddr 0 pl) ws.length cap] := rfl
theorem bs_turn {n : Int} {T : List Nd} {i : Nat} {m : Nd} (h : T[i]? = some m) (pl : Plc) (cap : Nat) (ws : List R) (x : HP) (k : Bs n T x) :
    ∃ c t, x m.b = some (.cells c t (0, 0)) ∧ 0 + 1 ≤ c.size ∧ Bs n (T.set i (m.turn pl cap ws)) (upd x m.b (.cells (putV c.toList 0 [.slice (locAddr 0 pl) ws.length cap]).toArray t (0, 0))) := by
  have e : ∃ c t, m.obj (keys T) n = .cells c t (0, 0) ∧ 0 + 1 ≤ c.size ∧ (m.turn pl cap ws).obj (keys T) n = .cells (putV c.toList 0 [.slice (locAddr 0 pl) ws.length cap]).toArray t (0, 0) := by
    unfold Nd.obj
    show ∃ c t, (if m.k = 0 then _ else _) = _ ∧ _ ∧ (if m.k = 0 then _ else _) = _
    by_cases hk : m.k = 0
    · rw [if_pos hk, if_pos hk, cells_turn]
      exact ⟨_, _, rfl, by rw [List.size_toArray, List.length_append]; show _ ≤ 3 + 1; omega, rfl⟩
    · rw [if_neg hk, if_neg hk, cells_turn]
      exact ⟨_, _, rfl, by rw [List.size_toArray]; show _ ≤ 3; omega, rfl⟩
  obtain ⟨c, t, e1, e2, e3⟩ := e
  have g1 : (T.map (Nd.blk (keys T) n))[i]? = some (pt m.b (.cells c t (0, 0))) := by rw [List.getElem?_map, h, ← e1]; rfl
  refine ⟨c, t, sat_get k i g1 (fun x kx => pt_get x kx), e2, ?_⟩
  have := sat_upd (pt_upd (.cells (putV c.toList 0 [.slice (locAddr 0 pl) ws.length cap]).toArray t (0, 0))) i g1 (show sat (T.map (Nd.blk (keys T) n)) x from k)
  unfold Bs Alls
  rw [keys_set h, List.map_set]
  unfold Nd.blk at this ⊢
  rw [e3]
  exact this
theorem vs_turn {T : List Nd} {i : Nat} (hi : i < T.length) (m : Nd) (pl : Plc) (cap : Nat) (ws : List R) (h : HP) (k : sat [Vec pl 85 5 cap (RL.flat ws), Alls ((T.map Nd.vec).eraseIdx i)] h) : Vs (T.set i (m.turn pl cap ws)) h := by
  unfold Vs
  rw [List.map_set]
  exact alls_put i (by simpa using hi) h k
theorem bs_count {tb : Nat} {n n' : Int} {T : List Nd} (hi : TI tb T) (x : HP) (k : Bs n T x) : ∃ c t, x tb = some (.cells c t (0, 0)) ∧ 3 + 1 ≤ c.size ∧ Bs n' T (upd x tb (.cells (putV c.toList 3 [.int .i64 n']).toArray t (0, 0))) := by
  obtain ⟨r, T', e, h1, h2, rfl⟩ := hi.root
  have hl : (r.cells (keys T)).length = 3 := rfl
  have e1 : r.obj (keys T) n = .cells (r.cells (keys T) ++ [Value.int .i64 n]).toArray 97 (0, 0) := by unfold Nd.obj; rw [if_pos h2]
  have e3 : r.obj (keys T) n' = .cells (putV (r.cells (keys T) ++ [Value.int .i64 n]) 3 [.int .i64 n']).toArray 97 (0, 0) := by unfold Nd.obj; rw [if_pos h2]; rfl
  have g1 : (T.map (Nd.blk (keys T) n))[0]? = some (pt r.b (.cells (r.cells (keys T) ++ [Value.int .i64 n]).toArray 97 (0, 0))) := by rw [List.getElem?_map, e]; show some (pt r.b (r.obj (keys (r :: T')) n)) = _; rw [← e, e1]
  refine ⟨_, _, sat_get k 0 g1 (fun x kx => pt_get x kx), by rw [List.size_toArray, List.length_append]; show _ ≤ 3 + 1; omega, ?_⟩
  have := sat_upd (pt_upd (.cells (putV (r.cells (keys T) ++ [Value.int .i64 n]) 3 [.int .i64 n']).toArray 97 (0, 0))) 0 g1 (show sat (T.map (Nd.blk (keys T) n)) x from k)
  have e4 : T.map (Nd.blk (keys T) n') = (T.map (Nd.blk (keys T) n)).set 0 (pt r.b (.cells (putV (r.cells (keys T) ++ [Value.int .i64 n]) 3 [.int .i64 n']).toArray 97 (0, 0))) := by
    generalize keys T = K at *
    have hother : T'.map (Nd.blk K n') = T'.map (Nd.blk K n) := by
      refine List.map_congr_left fun m hm => ?_
      have hmT : m ∈ T := by rw [e]; exact List.mem_cons_of_mem _ hm
      have hmk : m.k ≠ 0 := fun h0 => by
        obtain ⟨_, n2, n3, n4⟩ := hi.net m hmT
        have hx0 : m.x = 0 := by rw [← n4, h0]; exact netOf_zero m.x n2 n3
        have := hi.nd
        rw [e, List.map_cons, List.nodup_cons] at this
        exact this.1 (List.mem_map.2 ⟨m, hm, by rw [hx0, h0, h1, h2]⟩)
      unfold Nd.blk Nd.obj
      rw [if_neg hmk, if_neg hmk]
    rw [e]
    simp only [List.map_cons, List.set_cons_zero]
    rw [hother]
    unfold Nd.blk
    rw [e3]
  unfold Bs Alls
  rw [e4]
  exact this
/-- A slice's cells are turned where they lie. -/
theorem vec_upd {b o : Nat} {t : TypeId} {sz cap : Nat} {xs vs : List Value} (off : Nat) (hl : off + vs.length ≤ xs.length) (hv : ∀ v ∈ vs, v.oneCell' = true) (h : HP) (k : Vec (.at b o) t sz cap xs h) :
    ∃ c, h b = some (.cells c t (0, 0)) ∧ o + off + vs.length ≤ c.size ∧ Vec (.at b o) t sz cap (putV xs off vs) (upd h b (.cells (putV c.toList (o + off) vs).toArray t (0, 0))) := by
  obtain ⟨h1, ⟨h2, _⟩ | ⟨b', o', pre, post, h2, h3, h4, h5⟩⟩ := k
  · cases h2
  · simp only [Plc.at.injEq] at h2
    obtain ⟨rfl, rfl⟩ := h2
    refine ⟨_, pt_get h h3, by simp; omega, putV_plain h1 hv off, .inr ⟨b, o, pre, post, rfl, ?_, h4, by rw [putV_length]; exact h5⟩⟩
    have e : putV (pre ++ xs ++ post) (o + off) vs = pre ++ putV xs off vs ++ post := by
      rw [List.append_assoc, ← h4, putV_pre, putV_post _ _ _ _ (by omega), List.append_assoc]
    rw [← e]
    exact (pt_upd _ h h3).2
theorem vs_set {T : List Nd} {i : Nat} {m : Nd} (h : T[i]? = some m) {b o : Nat} (hp : m.pl = .at b o) {j : Nat} (hj : j < m.ws.length) (x : R) (y : HP) (k : Vs T y) :
    ∃ c t, y b = some (.cells c t (0, 0)) ∧ o + j * 5 + 5 ≤ c.size ∧ Vs (T.set i (m.turn m.pl m.cap (m.ws.set j x))) (upd y b (.cells (putV c.toList (o + j * 5) x.vals).toArray t (0, 0))) := by
  have g1 : (T.map Nd.vec)[i]? = some m.vec := by rw [List.getElem?_map, h]; rfl
  have g2 : ∀ z, m.vec z → ∃ c, z b = some (.cells c 85 (0, 0)) ∧ o + j * 5 + 5 ≤ c.size ∧ Vec (.at b o) 85 5 m.cap (RL.flat (m.ws.set j x)) (upd z b (.cells (putV c.toList (o + j * 5) x.vals).toArray 85 (0, 0))) := fun z kz => by
    unfold Nd.vec at kz
    rw [hp] at kz
    obtain ⟨c, h1, h2, h3⟩ := vec_upd (vs := x.vals) (j * 5) (by rw [lR]; show j * 5 + 5 ≤ _; omega) (RL.one x) z kz
    refine ⟨c, h1, h2, ?_⟩
    have := RL.flat_set (l := m.ws) (a := x) hj
    rw [← this]; exact h3
  obtain ⟨u, v, s, hu, hv⟩ := sat_nth i g1 (show sat (T.map Nd.vec) y from k)
  obtain ⟨c, h1, h2, h3⟩ := g2 u hu
  refine ⟨c, 85, s.get h1, h2, ?_⟩
  have hil : i < T.length := (List.getElem?_eq_some_iff.1 h).1
  refine vs_turn hil m m.pl m.cap (m.ws.set j x) _ (sat_two (s.updL (o' := .cells (putV c.toList (o + j * 5) x.vals).toArray 85 (0, 0)) h1) ?_ hv)
  rw [hp]; exact h3
/-! ### Plain facts of lists in order -/
theorem up_mono {ws : List R} (h : Up ws) {i j : Nat} {x y : R} (hx : ws[i]? = some x) (hy : ws[j]? = some y) (hij : i ≤ j) : x.cost ≤ y.cost := by
  rcases Nat.lt_or_eq_of_le hij with hlt | rfl
  · have := h i j x y hx hy hlt; omega
  · rw [hx] at hy; cases hy; omega
theorem bs_miss {ws : List R} {c : Int} {k : Nat} (h : Up ws) (b : BsR ws c k) (hf : foundB ws c k = false) : ∀ (i : Nat) (y : R), ws[i]? = some y → (i < k → y.cost < c) ∧ (k ≤ i → c < y.cost) := fun i y hy => by
  refine ⟨fun hi => b.lo i y hy hi, fun hi => ?_⟩
  have hil := (List.getElem?_eq_some_iff.1 hy).1
  have hk := List.getElem?_eq_getElem (show k < ws.length by omega)
  unfold foundB at hf
  rw [hk] at hf
  have h1 : ws[k].cost ≠ c := by simpa using hf
  have h2 := b.hi k _ hk (Nat.le_refl _)
  have h3 := up_mono h hk hy hi
  omega
theorem bs_hit {ws : List R} {c : Int} {k : Nat} (hf : foundB ws c k = true) : ∃ y, ws[k]? = some y ∧ y.cost = c := by
  unfold foundB at hf
  split at hf
  · rename_i y e
    exact ⟨y, e, by simpa using hf⟩
  · cases hf
theorem up_set {ws : List R} (h : Up ws) {k : Nat} {x y : R} (hy : ws[k]? = some y) (e : x.cost = y.cost) : Up (ws.set k x) := by
  have key : ∀ (i : Nat) z, (ws.set k x)[i]? = some z → ∃ z', ws[i]? = some z' ∧ z.cost = z'.cost := fun i z hz => by
    rw [List.getElem?_set] at hz
    split at hz
    · rename_i hk
      subst hk
      split at hz
      · simp only [Option.some.injEq] at hz
        subst hz
        exact ⟨y, hy, e⟩
      · cases hz
    · exact ⟨z, hz, rfl⟩
  intro i j a b ha hb hij
  obtain ⟨a', h1, h2⟩ := key i a ha
  obtain ⟨b', h3, h4⟩ := key j b hb
  have := h i j a' b' h1 h3 hij
  omega
theorem up_erase {ws : List R} (h : Up ws) (k : Nat) : Up (ws.eraseIdx k) := by
  intro i j a b ha hb hij
  rw [List.getElem?_eraseIdx] at ha hb
  by_cases h1 : i < k <;> by_cases h2 : j < k
  · rw [if_pos h1] at ha; rw [if_pos h2] at hb
    exact h i j a b ha hb hij
  · rw [if_pos h1] at ha; rw [if_neg h2] at hb
    exact h i (j + 1) a b ha hb (by omega)
  · omega
  · rw [if_neg h1] at ha; rw [if_neg h2] at hb
    exact h (i + 1) (j + 1) a b ha hb (by omega)
theorem ins_get {ws : List R} {k : Nat} (hk : k ≤ ws.length) (x : R) (i : Nat) : (ws.take k ++ [x] ++ ws.drop k)[i]? = if i < k then ws[i]? else if i = k then some x else ws[i - 1]? := by
  have hl : (ws.take k).length = k := by rw [List.length_take]; omega
  rw [List.append_assoc]
  split
  · rename_i h
    rw [List.getElem?_append_left (by omega), List.getElem?_take_of_lt h]
  · rename_i h
    rw [List.getElem?_append_right (by omega), hl]
    split
    · rename_i e
      subst e
      simp
    · obtain ⟨d, hd⟩ : ∃ d, i - k = d + 1 := ⟨i - k - 1, by omega⟩
      rw [hd]
      show (ws.drop k)[d]? = _
      rw [List.getElem?_drop, show k + d = i - 1 by omega]
theorem up_ins {ws : List R} (h : Up ws) {x : R} {k : Nat} (b : BsR ws x.cost k) (hf : foundB ws x.cost k = false) : Up (ws.take k ++ [x] ++ ws.drop k) := by
  have hm := bs_miss h b hf
  have hk := b.le
  intro i j a c ha hc hij
  rw [ins_get hk] at ha hc
  by_cases h1 : i < k
  · rw [if_pos h1] at ha
    by_cases h2 : j < k
    · rw [if_pos h2] at hc; exact h i j a c ha hc hij
    · rw [if_neg h2] at hc
      by_cases h3 : j = k
      · rw [if_pos h3] at hc; cases hc
        exact (hm i a ha).1 h1
      · rw [if_neg h3] at hc
        exact h i (j - 1) a c ha hc (by omega)
  · rw [if_neg h1] at ha
    rw [if_neg (by omega), if_neg (by omega)] at hc
    by_cases h3 : i = k
    · rw [if_pos h3] at ha; cases ha
      exact (hm (j - 1) c hc).2 (by omega)
    · rw [if_neg h3] at ha
      exact h (i - 1) (j - 1) a c ha hc (by omega)
theorem mem_ins {ws : List R} {k : Nat} (x w : R) : w ∈ ws.take k ++ [x] ++ ws.drop k ↔ w ∈ ws ∨ w = x := by
  have : w ∈ ws ↔ w ∈ ws.take k ∨ w ∈ ws.drop k := by rw [← List.mem_append, List.take_append_drop]
  simp only [List.mem_append, List.mem_singleton, this]
  constructor
  · rintro ((h | h) | h) <;> simp [h]
  · rintro ((h | h) | h) <;> simp [h]
end Go.Proofs.Ytjppphldiaonkaa.Rt
namespace Go.Proofs.Ytjppphldiaonkaa.Rt
open Go Go.Proofs Sx
set_option maxRecDepth 100000
set_option linter.unusedVariables false
set_option linter.unusedSimpArgs false
set_option maxHeartbeats 4000000

def WM (T : List Nd) (w : R) : Prop := ∃ m ∈ T, w ∈ m.ws
def totw (T : List Nd) : Nat := (T.map fun m => m.ws.length).sum
structure TJ (tb n : Nat) (T : List Nd) : Prop where
  ti : TI tb T
  tot : totw T = n
  le : n ≤ 64
theorem le_sum : ∀ {l : List Nat} {a : Nat}, a ∈ l → a ≤ l.sum
  | [], a, h => by simp at h
  | x :: l, a, h => by
    rw [List.sum_cons]
    rcases List.mem_cons.1 h with rfl | h
    · omega
    · have := le_sum h; omega
theorem TJ.few {tb n : Nat} {T : List Nd} (h : TJ tb n T) : ∀ m ∈ T, m.ws.length ≤ 64 := fun m hm => by
  have : m.ws.length ≤ totw T := le_sum (List.mem_map.2 ⟨m, hm, rfl⟩)
  have := h.tot; have := h.le
  omega
theorem nodeAt_set {T : List Nd} {i : Nat} {m : Nd} (h : T[i]? = some m) (pl : Plc) (cap : Nat) (ws : List R) (x : Int) (k : Nat) (hn : nodeAt T x k ≠ none) : nodeAt (T.set i (m.turn pl cap ws)) x k ≠ none := fun e => by
  have h1 := block_node T x k
  have h2 := block_node (T.set i (m.turn pl cap ws)) x k
  have h3 := keys_set h pl cap ws
  unfold keys at h3
  rw [h3, h1, e] at h2
  cases e2 : nodeAt T x k with
  | none => exact hn e2
  | some q => rw [e2] at h2; cases h2
theorem mem_set' {T : List Nd} {i : Nat} {a q : Nd} (h : q ∈ T.set i a) : q ∈ T ∨ q = a := by
  rcases List.mem_or_eq_of_mem_set h with h | h
  · exact .inl h
  · exact .inr h
theorem TI.turn {tb : Nat} {T : List Nd} (hi : TI tb T) {i : Nat} {m : Nd} (h : T[i]? = some m) {pl : Plc} {cap : Nat} {ws : List R} (hu : Up ws) (hw : ∀ w ∈ ws, w.net = m.x ∧ w.bits = m.k ∧ okR w = true) (hc : ws.length ≤ cap) (ha : ws ≠ [] → ∃ b o, pl = .at b o) : TI tb (T.set i (m.turn pl cap ws)) := by
  have hm := List.mem_of_getElem? h
  have all : ∀ {φ : Nd → Prop}, (∀ q ∈ T, φ q) → φ (m.turn pl cap ws) → ∀ q ∈ T.set i (m.turn pl cap ws), φ q := fun h1 h2 q hq => by
    rcases mem_set' hq with hq | rfl
    · exact h1 q hq
    · exact h2
  refine ⟨?_, ?_, all hi.net (hi.net m hm), all (fun q hq j hj => nodeAt_set h pl cap ws _ _ (hi.up q hq j hj)) (fun j hj => nodeAt_set h pl cap ws _ _ (hi.up m hm j hj)), all hi.ord hu, all hi.way hw, all hi.cap hc, all hi.at_ ha⟩
  · obtain ⟨r, T', e, h1, h2, h3⟩ := hi.root
    subst e
    cases i with
    | zero =>
      simp only [List.getElem?_cons_zero, Option.some.injEq] at h
      subst h
      exact ⟨_, T', rfl, h1, h2, h3⟩
    | succ i => exact ⟨r, _, rfl, h1, h2, h3⟩
  · have e : (T.set i (m.turn pl cap ws)).map (fun m => (m.x, m.k)) = T.map fun m => (m.x, m.k) := map_set_same h rfl
    rw [e]; exact hi.nd
theorem wm_at {T : List Nd} {w : R} : WM T w ↔ ∃ (j : Nat) (q : Nd), T[j]? = some q ∧ w ∈ q.ws := by
  constructor
  · rintro ⟨m, hm, hw⟩
    obtain ⟨j, hj, e⟩ := List.getElem_of_mem hm
    exact ⟨j, m, by rw [List.getElem?_eq_getElem hj, e], hw⟩
  · rintro ⟨j, q, h, hw⟩
    exact ⟨q, List.mem_of_getElem? h, hw⟩
theorem TI.same {tb : Nat} {T : List Nd} (hi : TI tb T) {i j : Nat} {m q : Nd} (h : T[i]? = some m) (hq : T[j]? = some q) (e : q.x = m.x ∧ q.k = m.k) : j = i := by
  have h1 : (T.map fun m => (m.x, m.k))[i]? = some (m.x, m.k) := by rw [List.getElem?_map, h]; rfl
  have h2 : (T.map fun m => (m.x, m.k))[j]? = some (m.x, m.k) := by rw [List.getElem?_map, hq, Option.map_some, e.1, e.2]
  have hjl := (List.getElem?_eq_some_iff.1 h2).1
  have hil' := (List.getElem?_eq_some_iff.1 h1).1
  rw [List.getElem?_eq_getElem hjl] at h2
  rw [List.getElem?_eq_getElem hil'] at h1
  exact ((List.getElem_inj hi.nd).1 (Option.some.inj (h1.trans h2.symm))).symm
/-- The ways of a tree in which one node's ways are turned. -/
theorem wm_turn {T : List Nd} {i : Nat} {m : Nd} (h : T[i]? = some m) (pl : Plc) (cap : Nat) (ws : List R) (w : R) :
    WM (T.set i (m.turn pl cap ws)) w ↔ (∃ (j : Nat) (q : Nd), j ≠ i ∧ T[j]? = some q ∧ w ∈ q.ws) ∨ w ∈ ws := by
  have hil := (List.getElem?_eq_some_iff.1 h).1
  rw [wm_at]
  constructor
  · rintro ⟨j, q, hq, hw⟩
    rw [List.getElem?_set] at hq
    split at hq
    · simp only [Option.some.injEq] at hq
      subst hq
      exact .inr hw
    · rename_i hne
      exact .inl ⟨j, q, fun e => hne e.symm, hq, hw⟩
  · rintro (⟨j, q, hne, hq, hw⟩ | hw)
    · exact ⟨j, q, by rw [List.getElem?_set, if_neg (fun e => hne e.symm)]; exact hq, hw⟩
    · exact ⟨i, m.turn pl cap ws, by rw [List.getElem?_set, if_pos rfl, if_pos hil], hw⟩
theorem wm_old {T : List Nd} {i : Nat} {m : Nd} (h : T[i]? = some m) (w : R) : WM T w ↔ (∃ (j : Nat) (q : Nd), j ≠ i ∧ T[j]? = some q ∧ w ∈ q.ws) ∨ w ∈ m.ws := by
  rw [wm_at]
  constructor
  · rintro ⟨j, q, hq, hw⟩
    by_cases e : j = i
    · subst e; rw [h] at hq; cases hq; exact .inr hw
    · exact .inl ⟨j, q, e, hq, hw⟩
  · rintro (⟨j, q, _, hq, hw⟩ | hw)
    · exact ⟨j, q, hq, hw⟩
    · exact ⟨i, m, h, hw⟩
theorem key_iff {x w : R} : key x w = true ↔ w.net = x.net ∧ w.bits = x.bits ∧ w.cost = x.cost := by simp [key, hit]
/-- Elsewhere there is no way of that key. -/
theorem TI.other {tb : Nat} {T : List Nd} (hi : TI tb T) {i j : Nat} {m q : Nd} {x w : R} (h : T[i]? = some m) (hx : m.x = x.net ∧ (m.k : Int) = x.bits) (hne : j ≠ i) (hq : T[j]? = some q) (hw : w ∈ q.ws) : key x w = false := by
  cases e : key x w with
  | false => rfl
  | true =>
    obtain ⟨h1, h2, _⟩ := key_iff.1 e
    obtain ⟨h3, h4, _⟩ := hi.way q (List.mem_of_getElem? hq) w hw
    exact absurd (hi.same h hq ⟨by rw [← h3, h1, hx.1], by have := hx.2; omega⟩) hne
theorem TI.here {tb : Nat} {T : List Nd} (hi : TI tb T) {m : Nd} {x w : R} (hm : m ∈ T) (hx : m.x = x.net ∧ (m.k : Int) = x.bits) (hw : w ∈ m.ws) : key x w = true ↔ w.cost = x.cost := by
  obtain ⟨h1, h2, _⟩ := hi.way m hm w hw
  rw [key_iff]
  constructor
  · exact fun h => h.2.2
  · exact fun h => ⟨by rw [h1, hx.1], by have := hx.2; omega, h⟩
theorem up_mem {ws : List R} (h : Up ws) {k : Nat} {y w : R} (hy : ws[k]? = some y) (hw : w ∈ ws) (e : w.cost = y.cost) : w = y := by
  obtain ⟨j, hj, e2⟩ := List.getElem_of_mem hw
  have hjw : ws[j]? = some w := by rw [List.getElem?_eq_getElem hj, e2]
  rcases Nat.lt_trichotomy j k with h1 | h1 | h1
  · have := h j k w y hjw hy h1; omega
  · subst h1; rw [hjw] at hy; exact Option.some.inj hy
  · have := h k j y w hy hjw h1; omega
theorem mem_setR {ws : List R} (h : Up ws) {k : Nat} {y : R} (hy : ws[k]? = some y) (x w : R) : w ∈ ws.set k x ↔ (w ∈ ws ∧ w.cost ≠ y.cost) ∨ w = x := by
  have hk := (List.getElem?_eq_some_iff.1 hy).1
  constructor
  · intro hw
    obtain ⟨j, hj, e⟩ := List.getElem_of_mem hw
    have hjw : (ws.set k x)[j]? = some w := by rw [List.getElem?_eq_getElem hj, e]
    rw [List.getElem?_set] at hjw
    split at hjw
    · exact .inr (Option.some.inj hjw).symm
    · rename_i hne
      refine .inl ⟨List.mem_of_getElem? hjw, fun e => ?_⟩
      rcases Nat.lt_trichotomy j k with h1 | h1 | h1
      · have := h j k w y hjw hy h1; omega
      · exact hne h1.symm
      · have := h k j y w hy hjw h1; omega
  · rintro (⟨hw, hc⟩ | rfl)
    · obtain ⟨j, hj, e⟩ := List.getElem_of_mem hw
      have hjw : ws[j]? = some w := by rw [List.getElem?_eq_getElem hj, e]
      have hne : k ≠ j := fun e => by subst e; rw [hjw] at hy; cases hy; exact hc rfl
      refine List.mem_of_getElem? (i := j) ?_
      rw [List.getElem?_set, if_neg hne]; exact hjw
    · exact List.mem_of_getElem? (i := k) (by rw [List.getElem?_set, if_pos rfl, if_pos hk])
theorem mem_eraseR {ws : List R} (h : Up ws) {k : Nat} {y : R} (hy : ws[k]? = some y) (w : R) : w ∈ ws.eraseIdx k ↔ w ∈ ws ∧ w.cost ≠ y.cost := by
  rw [List.mem_eraseIdx_iff_getElem?]
  constructor
  · rintro ⟨j, hne, hjw⟩
    refine ⟨List.mem_of_getElem? hjw, fun e => ?_⟩
    rcases Nat.lt_trichotomy j k with h1 | h1 | h1
    · have := h j k w y hjw hy h1; omega
    · exact hne h1
    · have := h k j y w hy hjw h1; omega
  · rintro ⟨hw, hc⟩
    obtain ⟨j, hj, e⟩ := List.getElem_of_mem hw
    have hjw : ws[j]? = some w := by rw [List.getElem?_eq_getElem hj, e]
    exact ⟨j, fun e => by subst e; rw [hjw] at hy; cases hy; exact hc rfl, hjw⟩
theorem sum_set : ∀ (l : List Nat) (i a b : Nat), l[i]? = some b → (l.set i a).sum + b = l.sum + a
  | [], i, a, b, h => by simp at h
  | x :: l, 0, a, b, h => by simp at h; subst h; simp; omega
  | x :: l, i + 1, a, b, h => by
    have := sum_set l i a b (by simpa using h)
    simp only [List.set_cons_succ, List.sum_cons]; omega
theorem totw_turn {T : List Nd} {i : Nat} {m : Nd} (h : T[i]? = some m) (pl : Plc) (cap : Nat) (ws : List R) : totw (T.set i (m.turn pl cap ws)) + m.ws.length = totw T + ws.length := by
  unfold totw
  rw [List.map_set]
  exact sum_set _ i _ _ (by rw [List.getElem?_map, h]; rfl)
theorem totw_more {T E : List Nd} (hE : ∀ e ∈ E, e.ws = []) : totw (T ++ E) = totw T := by
  unfold totw
  rw [List.map_append, List.sum_append]
  have : (E.map fun m => m.ws.length) = E.map fun _ => 0 := List.map_congr_left fun e he => by rw [hE e he]; rfl
  rw [this]
  have : ∀ l : List Nd, (l.map fun _ => 0).sum = 0 := fun l => by induction l <;> simp_all
  rw [this]; rfl
theorem wm_more {T E : List Nd} (hE : ∀ e ∈ E, e.ws = []) (w : R) : WM (T ++ E) w ↔ WM T w := by
  constructor
  · rintro ⟨m, hm, hw⟩
    rcases List.mem_append.1 hm with h | h
    · exact ⟨m, h, hw⟩
    · rw [hE m h] at hw; simp at hw
  · rintro ⟨m, hm, hw⟩
    exact ⟨m, List.mem_append_left _ hm, hw⟩
/-- What Add answers, what it makes of the tree. -/
inductive TAdd (T : List Nd) (n : Nat) (x : R) : Int → List Nd → Nat → Prop
  | bad (h : okR x = false) : TAdd T n x 1 T n
  | set (T' : List Nd) (h : okR x = true) (y : R) (hy : WM T y) (hk : key x y = true) (hm : ∀ w, WM T' w ↔ (WM T w ∧ key x w = false) ∨ w = x) : TAdd T n x 0 T' n
  | full (h : okR x = true) (hn : ∀ y, WM T y → key x y = false) (hl : n = 64) : TAdd T n x 5 T n
  | new (T' : List Nd) (h : okR x = true) (hn : ∀ y, WM T y → key x y = false) (hl : n ≠ 64) (hm : ∀ w, WM T' w ↔ WM T w ∨ w = x) : TAdd T n x 0 T' (n + 1)
/-- What Remove answers, what it makes of the tree. -/
inductive TDel (T : List Nd) (n : Nat) (net bits cost : Int) : Int → List Nd → Nat → Prop
  | none (hn : ∀ y, WM T y → hit net bits cost y = false) : TDel T n net bits cost 6 T n
  | del (T' : List Nd) (y : R) (hy : WM T y) (hk : hit net bits cost y = true) (h0 : 0 < n) (hm : ∀ w, WM T' w ↔ WM T w ∧ hit net bits cost w = false) : TDel T n net bits cost 0 T' (n - 1)
end Go.Proofs.Ytjppphldiaonkaa.Rt
