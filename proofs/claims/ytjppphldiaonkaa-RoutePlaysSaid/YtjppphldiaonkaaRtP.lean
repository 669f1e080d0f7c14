/- route: the tree's nodes. Conditions: none. -/
import Derived.Test.YtjppphldiaonkaaRtO
namespace Go.Proofs.Ytjppphldiaonkaa.Rt
open Go Go.Proofs Sx
set_option maxRecDepth 100000
set_option linter.unusedVariables false
set_option linter.unusedSimpArgs false
set_option maxHeartbeats 4000000

/-- A node of the tree: the net x / k, its block, its ways. -/
structure Nd where
  x : Int
  k : Nat
  b : Nat
  pl : Plc
  cap : Nat
  ws : List R
abbrev Ky := Int × Nat × Nat
def Nd.ky (m : Nd) : Ky := (m.x, m.k, m.b)
def blockAt (K : List Ky) (x : Int) (k : Nat) : Option Nat := (K.find? fun q => q.1 == x && q.2.1 == k).map fun q => q.2.2
def kidP (K : List Ky) (x : Int) (k : Nat) : Value := .pointer ((blockAt K x k).map fun b => ⟨b, 0, none⟩)
def nodeAt (T : List Nd) (x : Int) (k : Nat) : Option Nd := T.find? fun m => m.x == x && m.k == k
/-- The half of a net. -/
def halfOf (k : Nat) : Int := 2 ^ (31 - k)
def Nd.cells (K : List Ky) (m : Nd) : List Value := [.slice (locAddr 0 m.pl) m.ws.length m.cap, kidP K m.x (m.k + 1), kidP K (m.x + halfOf m.k) (m.k + 1)]
theorem nodeAt_some {T : List Nd} {x : Int} {k : Nat} {m : Nd} (h : nodeAt T x k = some m) : m ∈ T ∧ m.x = x ∧ m.k = k := by
  unfold nodeAt at h
  have h2 := List.find?_some h
  simp only [Bool.and_eq_true, beq_iff_eq] at h2
  exact ⟨List.mem_of_find?_eq_some h, h2⟩
theorem nodeAt_none {T : List Nd} {x : Int} {k : Nat} (h : nodeAt T x k = none) : ∀ m ∈ T, ¬ (m.x = x ∧ m.k = k) := fun m hm e => by
  unfold nodeAt at h
  have := List.find?_eq_none.1 h m hm
  simp only [Bool.and_eq_true, beq_iff_eq] at this
  exact this e
theorem nodeAt_self : ∀ {T : List Nd}, (T.map fun m => (m.x, m.k)).Nodup → ∀ {m : Nd}, m ∈ T → nodeAt T m.x m.k = some m
  | [], _, m, h => by simp at h
  | a :: T, nd, m, h => by
    unfold nodeAt
    rw [List.find?_cons]
    rw [List.map_cons, List.nodup_cons] at nd
    by_cases e : a.x = m.x ∧ a.k = m.k
    · have ha : a = m := by
        rcases List.mem_cons.1 h with rfl | h
        · rfl
        · exact absurd (List.mem_map.2 ⟨m, h, by rw [e.1, e.2]⟩) nd.1
      have e2 : (a.x == m.x && a.k == m.k) = true := by simp [e.1, e.2]
      rw [e2, ha]
    · have e2 : (a.x == m.x && a.k == m.k) = false := by
        rw [← Bool.not_eq_true]
        simpa using e
      rw [e2]
      rcases List.mem_cons.1 h with rfl | h
      · exact absurd ⟨rfl, rfl⟩ e
      · exact nodeAt_self nd.2 h
theorem block_node : ∀ (T : List Nd) (x : Int) (k : Nat), blockAt (T.map Nd.ky) x k = (nodeAt T x k).map Nd.b
  | [], _, _ => rfl
  | a :: T, x, k => by
    have ih := block_node T x k
    unfold blockAt nodeAt at *
    rw [List.map_cons, List.find?_cons, List.find?_cons]
    show Option.map _ (match (a.x == x && a.k == k) with | true => some a.ky | false => _) = _
    cases a.x == x && a.k == k with
    | true => rfl
    | false => exact ih
theorem blockAt_append (K : List Ky) (n : Ky) (x : Int) (k : Nat) (h : ¬ (n.1 = x ∧ n.2.1 = k)) : blockAt (K ++ [n]) x k = blockAt K x k := by
  unfold blockAt
  rw [List.find?_append]
  have : ([n].find? fun q => q.1 == x && q.2.1 == k) = none := by
    rw [List.find?_eq_none]
    intro q hq
    simp only [List.mem_singleton] at hq
    subst hq
    simpa using h
  rw [this, Option.or_none]
theorem kidP_append (K : List Ky) (n : Ky) (x : Int) (k : Nat) (h : ¬ (n.1 = x ∧ n.2.1 = k)) : kidP (K ++ [n]) x k = kidP K x k := by
  unfold kidP
  rw [blockAt_append K n x k h]
theorem kidP_new (K : List Ky) (x : Int) (k b : Nat) (h : blockAt K x k = none) : kidP (K ++ [(x, k, b)]) x k = .pointer (some ⟨b, 0, none⟩) := by
  unfold kidP blockAt at *
  have h2 : K.find? (fun q => q.1 == x && q.2.1 == k) = none := by simpa using h
  rw [List.find?_append, h2]
  simp
theorem nodeAt_append (T : List Nd) (n : Nd) (x : Int) (k : Nat) (h : ¬ (n.x = x ∧ n.k = k)) : nodeAt (T ++ [n]) x k = nodeAt T x k := by
  unfold nodeAt
  rw [List.find?_append]
  have : ([n].find? fun m => m.x == x && m.k == k) = none := by
    rw [List.find?_eq_none]
    intro q hq
    simp only [List.mem_singleton] at hq
    subst hq
    simpa using h
  rw [this, Option.or_none]
theorem nodeAt_new (T : List Nd) (n : Nd) (h : nodeAt T n.x n.k = none) : nodeAt (T ++ [n]) n.x n.k = some n := by
  unfold nodeAt at *
  rw [List.find?_append, h]
  simp
theorem netOf_zero (a : Int) (a0 : 0 ≤ a) (a1 : a ≤ 4294967295) : netOf a ((0 : Nat) : Int) = 0 := by
  show a / 2 ^ 32 * 2 ^ 32 = 0
  have : a / 2 ^ 32 = 0 := Int.ediv_eq_zero_of_lt a0 (by show a < 4294967296; omega)
  rw [this, Int.zero_mul]
theorem netOf_succ (a : Int) (k : Nat) (hk : k < 32) : netOf a ((k + 1 : Nat) : Int) = netOf a k + a / halfOf k % 2 * halfOf k := by
  have e1 : (32 - ((k + 1 : Nat) : Int)).toNat = 31 - k := by omega
  have e2 : (32 - (k : Int)).toNat = (31 - k) + 1 := by omega
  unfold netOf halfOf
  rw [e1, e2, Int.pow_succ, ← Int.ediv_ediv_of_nonneg (by have := pow_small (31 - k) (by omega); omega)]
  generalize (2 : Int) ^ (31 - k) = d
  generalize a / d = q
  have hq : q = q / 2 * 2 + q % 2 := by omega
  have : q * d = (q / 2 * 2 + q % 2) * d := by rw [← hq]
  rw [this, Int.add_mul, Int.mul_assoc, Int.mul_comm 2 d]
theorem netOf_netOf (a : Int) (j k : Nat) (hj : j ≤ k) (hk : k ≤ 32) : netOf (netOf a k) j = netOf a j := by
  have e : (32 - (j : Int)).toNat = (32 - (k : Int)).toNat + (k - j) := by omega
  have hp : (0 : Int) < 2 ^ (32 - (k : Int)).toNat := Int.pow_pos (by decide)
  unfold netOf
  rw [e, Int.pow_add]
  generalize (2 : Int) ^ (32 - (k : Int)).toNat = d at *
  rw [← Int.ediv_ediv_of_nonneg (by omega), Int.mul_ediv_cancel _ (by omega), ← Int.ediv_ediv_of_nonneg (by omega)]
theorem netOf_le (a : Int) (k : Nat) (hk : k ≤ 32) (a0 : 0 ≤ a) : 0 ≤ netOf a k ∧ netOf a k ≤ a := by
  have hp : (0 : Int) < 2 ^ (32 - (k : Int)).toNat := Int.pow_pos (by decide)
  unfold netOf
  exact ⟨Int.mul_nonneg (Int.ediv_nonneg a0 (by omega)) (by omega), Int.ediv_mul_le _ (by omega)⟩
/-- A net with one more bit has one parent only. -/
theorem half_ne {x y : Int} {k : Nat} (hk : k < 32) (hx : netOf x k = x) (hy : netOf y k = y) : x + halfOf k ≠ y := fun e => by
  have e2 : (32 - (k : Int)).toNat = (31 - k) + 1 := by omega
  have hp : (0 : Int) < 2 ^ (31 - k) := Int.pow_pos (by decide)
  unfold netOf at hx hy
  unfold halfOf at e
  rw [e2, Int.pow_succ] at hx hy
  generalize (2 : Int) ^ (31 - k) = d at *
  generalize x / (d * 2) = q at *
  generalize y / (d * 2) = r at *
  subst hx; subst hy
  have e3 : (q * 2 + 1) * d = (r * 2) * d := by
    rw [Int.add_mul, Int.mul_assoc, Int.mul_assoc, Int.mul_comm 2 d, Int.one_mul]; exact e
  have := Int.eq_of_mul_eq_mul_right (by omega) e3
  omega
theorem half_pos (k : Nat) : 0 < halfOf k := Int.pow_pos (by decide)
end Go.Proofs.Ytjppphldiaonkaa.Rt
namespace Go.Proofs.Ytjppphldiaonkaa.Rt
open Go Go.Proofs Sx
set_option maxRecDepth 100000
set_option linter.unusedVariables false
set_option linter.unusedSimpArgs false
set_option maxHeartbeats 4000000

/-! ### All of these parts -/
def Alls (As : List Asn) : Asn := fun h => sat As h
theorem alls_nil : Alls [] HP.emp := trivial
theorem alls_out {As Bs Cs : List Asn} {A : Asn} {h : HP} (k : sat (Alls (As ++ A :: Bs) :: Cs) h) : sat (A :: Alls (As ++ Bs) :: Cs) h := by
  obtain ⟨x, y, t, hx, hy⟩ := k
  have h1 : sat ((As ++ A :: Bs) ++ Cs) h := sat_join t (show sat (As ++ A :: Bs) x from hx) hy
  have h2 : sat (A :: ((As ++ Bs) ++ Cs)) h := sat_perm (by rw [List.append_assoc, List.append_assoc]; exact List.perm_middle) h1
  obtain ⟨u, v, t2, hu, hv⟩ := h2
  obtain ⟨a, b, t3, ha, hb⟩ := sat_append hv
  exact ⟨u, v, t2, hu, a, b, t3, ha, hb⟩
theorem alls_in {As Bs : List Asn} {A : Asn} (h : HP) (k : sat [A, Alls (As ++ Bs)] h) : Alls (As ++ A :: Bs) h := by
  obtain ⟨x, y, t, hx, u, v, t2, hu, _⟩ := k
  have h1 : sat (As ++ Bs) y := sat_more t2.comm hu
  exact sat_perm List.perm_middle.symm (show sat (A :: (As ++ Bs)) h from ⟨x, y, t, hx, h1⟩)
theorem fcell_sub {x h : HP} {b o : Nat} {v : Value} (s : ∀ r q, x r = some q → h r = some q) (e : fcell x b o = some v) : fcell h b o = some v := by
  unfold fcell at e ⊢
  split at e <;> try (cases e; done)
  rename_i c t fr hb
  rw [s _ _ hb]; exact e
theorem sat_cell (n : Nat) {As : List Asn} {A : Asn} {h : HP} {b o : Nat} {v : Value} (e : As[n]? = some A) (g : ∀ x, A x → fcell x b o = some v) (k : sat As h) : fcell h b o = some v := by
  obtain ⟨x, y, t, hx, _⟩ := sat_nth n e k
  exact fcell_sub (fun _ _ => t.get) (g x hx)
theorem alls_cell {As : List Asn} {A : Asn} {b o : Nat} {v : Value} (hA : A ∈ As) (g : ∀ x, A x → fcell x b o = some v) (h : HP) (k : Alls As h) : fcell h b o = some v := by
  obtain ⟨n, hn, e⟩ := List.getElem_of_mem hA
  exact sat_cell n (by rw [List.getElem?_eq_getElem hn, e]) g k

/-! ### The tree -/
def Nd.obj (K : List Ky) (n : Int) (m : Nd) : Obj := if m.k = 0 then .cells (m.cells K ++ [Value.int .i64 n]).toArray 97 (0, 0) else .cells (m.cells K).toArray 93 (0, 0)
def Nd.blk (K : List Ky) (n : Int) (m : Nd) : Asn := pt m.b (m.obj K n)
def Nd.vec (m : Nd) : Asn := Vec m.pl 85 5 m.cap (RL.flat m.ws)
def keys (T : List Nd) : List Ky := T.map Nd.ky
def Bs (n : Int) (T : List Nd) : Asn := Alls (T.map (Nd.blk (keys T) n))
def Vs (T : List Nd) : Asn := Alls (T.map Nd.vec)
structure TI (tb : Nat) (T : List Nd) : Prop where
  root : ∃ r T', T = r :: T' ∧ r.x = 0 ∧ r.k = 0 ∧ r.b = tb
  nd : (T.map fun m => (m.x, m.k)).Nodup
  net : ∀ m ∈ T, m.k ≤ 32 ∧ 0 ≤ m.x ∧ m.x ≤ 4294967295 ∧ netOf m.x m.k = m.x
  up : ∀ m ∈ T, ∀ j : Nat, m.k = j + 1 → nodeAt T (netOf m.x j) j ≠ none
  ord : ∀ m ∈ T, Up m.ws
  way : ∀ m ∈ T, ∀ w ∈ m.ws, w.net = m.x ∧ w.bits = m.k ∧ okR w = true
  cap : ∀ m ∈ T, m.ws.length ≤ m.cap
  at_ : ∀ m ∈ T, m.ws ≠ [] → ∃ b o, m.pl = .at b o
theorem TI.at0 {tb : Nat} {T : List Nd} (h : TI tb T) : ∃ r, r ∈ T ∧ r.x = 0 ∧ r.k = 0 ∧ r.b = tb := by
  obtain ⟨r, T', e, h1, h2, h3⟩ := h.root
  exact ⟨r, by rw [e]; simp, h1, h2, h3⟩
theorem cells_at {K : List Ky} {n : Int} {m : Nd} {j : Nat} {v : Value} (h : (m.cells K)[j]? = some v) (x : HP) (k : m.blk K n x) : fcell x m.b j = some v := by
  have hj := (List.getElem?_eq_some_iff.1 h).1
  have e : x m.b = some (m.obj K n) := pt_get x k
  unfold Nd.obj at e
  split at e
  · refine fcell_of e ?_
    rw [List.getElem?_toArray, List.getElem?_append_left hj]; exact h
  · exact fcell_of e (by rw [List.getElem?_toArray]; exact h)
theorem bs_cell {n : Int} {T : List Nd} {m : Nd} (hm : m ∈ T) {j : Nat} {v : Value} (h : (m.cells (keys T))[j]? = some v) (x : HP) (k : Bs n T x) : fcell x m.b j = some v :=
  alls_cell (List.mem_map.2 ⟨m, hm, rfl⟩) (fun x k => cells_at h x k) x k
theorem bs_n {n : Int} {tb : Nat} {T : List Nd} (hi : TI tb T) (x : HP) (k : Bs n T x) : fcell x tb 3 = some (.int .i64 n) := by
  obtain ⟨r, hr, h1, h2, rfl⟩ := hi.at0
  refine alls_cell (List.mem_map.2 ⟨r, hr, rfl⟩) (fun x k => ?_) x k
  have e : x r.b = some (r.obj (keys T) n) := pt_get x k
  unfold Nd.obj at e
  rw [if_pos h2] at e
  exact fcell_of e rfl
/-- A slice's cells among what is told, in the frame of a function that is called. -/
theorem vs_reads {f f' b : HP} {As : List Asn} {T : List Nd} {m : Nd} (n : Nat) (s : Split f' b f) (k : sat As b) (hA : As[n]? = some (Vs T)) (hm : m ∈ T) : Reads f' (locAddr 0 m.pl) (RL.flat m.ws) := by
  obtain ⟨g, hg, hsub⟩ := frame_of n s k hA
  obtain ⟨i, hi, e⟩ := List.getElem_of_mem (List.mem_map.2 ⟨m, hm, rfl⟩ : Nd.vec m ∈ T.map Nd.vec)
  obtain ⟨x, y, t, hx, _⟩ := sat_nth i (List.getElem?_eq_getElem hi) (show sat (T.map Nd.vec) g from hg)
  rw [e] at hx
  obtain ⟨_, hv⟩ := hx
  rcases hv with ⟨_, hx, _⟩ | ⟨b, o, pre, post, h1, hp, ho, _⟩
  · rw [hx]; intro i v hv; simp at hv
  · intro j v hv
    refine ⟨b, o, by rw [h1]; rfl, ?_⟩
    have hb : x b = some (.cells (pre ++ RL.flat m.ws ++ post).toArray 85 (0, 0)) := by rw [hp]; simp [one]
    have hf := hsub _ _ (t.get hb)
    have hj := (List.getElem?_eq_some_iff.1 hv).1
    unfold fcell
    rw [hf]
    simp only [List.getElem?_toArray, List.append_assoc]
    rw [List.getElem?_append_right (by omega), ho, show o + j - o = j by omega, List.getElem?_append_left hj]
    exact hv
/-! ### The kid by a bit -/
theorem kid_cell {T : List Nd} {m : Nd} {a : Int} (hk : m.k < 32) (hx : m.x = netOf a m.k) : (m.cells (keys T))[1 + (a / halfOf m.k % 2).toNat]? = some (kidP (keys T) (netOf a ((m.k + 1 : Nat) : Int)) (m.k + 1)) := by
  rw [netOf_succ a m.k hk, ← hx]
  rcases (by omega : a / halfOf m.k % 2 = 0 ∨ a / halfOf m.k % 2 = 1) with e | e
  · rw [e, Int.zero_mul, Int.add_zero]; rfl
  · rw [e, Int.one_mul]; rfl
theorem kidP_at {T : List Nd} {x : Int} {k : Nat} {m : Nd} (h : nodeAt T x k = some m) : kidP (keys T) x k = .pointer (some ⟨m.b, 0, none⟩) := by
  unfold kidP keys
  rw [block_node, h]; rfl
theorem kidP_no {T : List Nd} {x : Int} {k : Nat} (h : nodeAt T x k = none) : kidP (keys T) x k = .pointer none := by
  unfold kidP keys
  rw [block_node, h]; rfl
/-- A net's node lies under the nodes of wider nets. -/
theorem TI.wider {tb : Nat} {T : List Nd} (h : TI tb T) (a : Int) : ∀ (d k : Nat), k + d ≤ 32 → nodeAt T (netOf a ((k + d : Nat) : Int)) (k + d) ≠ none → nodeAt T (netOf a (k : Int)) k ≠ none
  | 0, k, _, hn => hn
  | d + 1, k, hk, hn => by
    refine TI.wider h a d k (by omega) ?_
    cases e : nodeAt T (netOf a ((k + (d + 1) : Nat) : Int)) (k + (d + 1)) with
    | none => exact absurd e hn
    | some m =>
      obtain ⟨h1, h2, h3⟩ := nodeAt_some e
      have := h.up m h1 (k + d) (by omega)
      rw [h2, netOf_netOf a (k + d) (k + (d + 1)) (by omega) (by omega)] at this
      exact this
end Go.Proofs.Ytjppphldiaonkaa.Rt
