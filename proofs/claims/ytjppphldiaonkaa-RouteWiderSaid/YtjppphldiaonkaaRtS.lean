/- route: a net's node is made. Conditions: none. -/
import Derived.Test.YtjppphldiaonkaaRtR
namespace Go.Proofs.Ytjppphldiaonkaa.Rt
open Go Go.Proofs Sx
set_option maxRecDepth 100000
set_option linter.unusedVariables false
set_option linter.unusedSimpArgs false
set_option maxHeartbeats 4000000

/-- A new node, below m. -/
def kidOf (a : Int) (k b : Nat) : Nd := ⟨netOf a ((k + 1 : Nat) : Int), k + 1, b, .nil, 0, []⟩
theorem keys_append (T U : List Nd) : keys (T ++ U) = keys T ++ keys U := by simp [keys]
theorem obj_eq {K K' : List Ky} {n : Int} {m : Nd} (h : m.cells K' = m.cells K) : m.obj K' n = m.obj K n := by unfold Nd.obj; rw [h]
theorem alls_snoc {As : List Asn} {A : Asn} (h : HP) (k : sat [A, Alls As] h) : Alls (As ++ [A]) h := by
  refine alls_in h ?_
  rw [List.append_nil]; exact k
theorem TI.no_kids {tb : Nat} {T : List Nd} (hi : TI tb T) {x : Int} {k : Nat} (hx : netOf x (k : Int) = x) (hno : nodeAt T x k = none) : nodeAt T x (k + 1) = none ∧ nodeAt T (x + halfOf k) (k + 1) = none := by
  constructor
  · cases e : nodeAt T x (k + 1) with
    | none => rfl
    | some q =>
      obtain ⟨h1, h2, h3⟩ := nodeAt_some e
      have := hi.up q h1 k h3
      rw [h2, hx] at this
      exact absurd hno this
  · cases e : nodeAt T (x + halfOf k) (k + 1) with
    | none => rfl
    | some q =>
      obtain ⟨h1, h2, h3⟩ := nodeAt_some e
      obtain ⟨n1, _, _, n4⟩ := hi.net q h1
      have h4 := hi.up q h1 k h3
      rw [h3, h2] at n4
      rw [h2] at h4
      have h5 := netOf_succ (x + halfOf k) k (by omega)
      rw [n4] at h5
      rcases (by omega : (x + halfOf k) / halfOf k % 2 = 0 ∨ (x + halfOf k) / halfOf k % 2 = 1) with hb | hb
      · rw [hb, Int.zero_mul, Int.add_zero] at h5
        exact absurd rfl (half_ne (y := x + halfOf k) (by omega) hx h5.symm)
      · rw [hb, Int.one_mul] at h5
        rw [show netOf (x + halfOf k) (k : Int) = x by omega] at h4
        exact absurd hno h4
section push
variable {tb : Nat} {n : Int} {T : List Nd} {m : Nd} {a : Int} {b : Nat}
theorem cells_other (hi : TI tb T) (hm : m ∈ T) (hk : m.k < 32) (hx : m.x = netOf a m.k) {q : Nd} (hq : q ∈ T) (hne : ¬ (q.x = m.x ∧ q.k = m.k)) : q.cells (keys (T ++ [kidOf a m.k b])) = q.cells (keys T) := by
  obtain ⟨_, _, _, hqn⟩ := hi.net q hq
  obtain ⟨_, _, _, hmn⟩ := hi.net m hm
  have e := netOf_succ a m.k hk
  rw [← hx] at e
  have hb : a / halfOf m.k % 2 = 0 ∨ a / halfOf m.k % 2 = 1 := by omega
  unfold Nd.cells
  rw [keys_append]
  show [_, kidP (keys T ++ [((kidOf a m.k b).x, (kidOf a m.k b).k, b)]) _ _, kidP (keys T ++ [((kidOf a m.k b).x, (kidOf a m.k b).k, b)]) _ _] = _
  rw [kidP_append, kidP_append]
  · rintro ⟨h1, h2⟩
    have hkk : q.k = m.k := by have : m.k + 1 = q.k + 1 := h2; omega
    have h1 : netOf a ((m.k + 1 : Nat) : Int) = q.x + halfOf q.k := h1
    rw [e, hkk] at h1
    rw [hkk] at hqn
    rcases hb with hb | hb
    · rw [hb, Int.zero_mul, Int.add_zero] at h1
      exact half_ne hk hqn hmn h1.symm
    · rw [hb, Int.one_mul] at h1
      exact hne ⟨by omega, hkk⟩
  · rintro ⟨h1, h2⟩
    have hkk : q.k = m.k := by have : m.k + 1 = q.k + 1 := h2; omega
    have h1 : netOf a ((m.k + 1 : Nat) : Int) = q.x := h1
    rw [e] at h1
    rw [hkk] at hqn
    rcases hb with hb | hb
    · rw [hb, Int.zero_mul, Int.add_zero] at h1
      exact hne ⟨h1.symm, hkk⟩
    · rw [hb, Int.one_mul] at h1
      exact half_ne hk hmn hqn h1
theorem cells_kid (hi : TI tb T) (hm : m ∈ T) (hk : m.k < 32) (hx : m.x = netOf a m.k) (hno : nodeAt T (netOf a ((m.k + 1 : Nat) : Int)) (m.k + 1) = none) :
    m.cells (keys (T ++ [kidOf a m.k b])) = putV (m.cells (keys T)) (1 + (a / halfOf m.k % 2).toNat) [.pointer (some ⟨b, 0, none⟩)] := by
  have e := netOf_succ a m.k hk
  rw [← hx] at e
  have hp := half_pos m.k
  have hn : blockAt (keys T) (netOf a ((m.k + 1 : Nat) : Int)) (m.k + 1) = none := by unfold keys; rw [block_node, hno]; rfl
  have hnew := kidP_new (keys T) (netOf a ((m.k + 1 : Nat) : Int)) (m.k + 1) b hn
  unfold Nd.cells
  rw [keys_append]
  show [_, kidP (keys T ++ [(netOf a ((m.k + 1 : Nat) : Int), m.k + 1, b)]) _ _, kidP (keys T ++ [(netOf a ((m.k + 1 : Nat) : Int), m.k + 1, b)]) _ _] = _
  rcases (by omega : a / halfOf m.k % 2 = 0 ∨ a / halfOf m.k % 2 = 1) with hb | hb
  · rw [hb, Int.zero_mul, Int.add_zero] at e
    rw [hb, ← e, hnew, kidP_append _ _ (netOf a ((m.k + 1 : Nat) : Int) + _)]
    · rfl
    · rintro ⟨h1, _⟩
      have h1 : netOf a ((m.k + 1 : Nat) : Int) = netOf a ((m.k + 1 : Nat) : Int) + halfOf m.k := h1
      omega
  · rw [hb, Int.one_mul] at e
    rw [hb, ← e, hnew, kidP_append _ _ m.x]
    · rfl
    · rintro ⟨h1, _⟩
      have h1 : netOf a ((m.k + 1 : Nat) : Int) = m.x := h1
      omega
theorem obj_kid (hi : TI tb T) (hm : m ∈ T) (hk : m.k < 32) (hx : m.x = netOf a m.k) (hno : nodeAt T (netOf a ((m.k + 1 : Nat) : Int)) (m.k + 1) = none) :
    ∃ c t, m.obj (keys T) n = .cells c t (0, 0) ∧ 1 + (a / halfOf m.k % 2).toNat + 1 ≤ c.size ∧ m.obj (keys (T ++ [kidOf a m.k b])) n = .cells (putV c.toList (1 + (a / halfOf m.k % 2).toNat) [.pointer (some ⟨b, 0, none⟩)]).toArray t (0, 0) := by
  have hl : (m.cells (keys T)).length = 3 := rfl
  have h2 : (a / halfOf m.k % 2).toNat ≤ 1 := by omega
  unfold Nd.obj
  rw [cells_kid hi hm hk hx hno]
  split
  · refine ⟨_, _, rfl, ?_, ?_⟩
    · rw [List.size_toArray, List.length_append, hl]; show _ ≤ 4; omega
    · show _ = Obj.cells (putV (m.cells (keys T) ++ [Value.int .i64 n]) _ _).toArray 97 (0, 0)
      rw [putV_post _ _ _ _ (by rw [hl]; show _ + 1 ≤ 3; omega)]
  · exact ⟨_, _, rfl, by rw [List.size_toArray, hl]; omega, rfl⟩
theorem tree_push (hi : TI tb T) (hm : m ∈ T) (hk : m.k < 32) (hx : m.x = netOf a m.k) (hno : nodeAt T (netOf a ((m.k + 1 : Nat) : Int)) (m.k + 1) = none) (h : HP)
    (k : sat [pt b (.cells #[.slice none 0 0, .pointer none, .pointer none] 93 (0, 0)), Bs n T, Vs T] h) :
    ∃ c t, h m.b = some (.cells c t (0, 0)) ∧ 1 + (a / halfOf m.k % 2).toNat + 1 ≤ c.size ∧
      sat [Bs n (T ++ [kidOf a m.k b]), Vs (T ++ [kidOf a m.k b])] (upd h m.b (.cells (putV c.toList (1 + (a / halfOf m.k % 2).toNat) [.pointer (some ⟨b, 0, none⟩)]).toArray t (0, 0))) := by
  obtain ⟨c, t, e1, e2, e3⟩ := obj_kid (n := n) (b := b) hi hm hk hx hno
  obtain ⟨i, hil, hie⟩ := List.getElem_of_mem hm
  have hix : T[i]? = some m := by rw [List.getElem?_eq_getElem hil, hie]
  have key : ∀ h', Bs n T h' → h' m.b = some (.cells c t (0, 0)) ∧ Alls (T.map (Nd.blk (keys (T ++ [kidOf a m.k b])) n)) (upd h' m.b (.cells (putV c.toList (1 + (a / halfOf m.k % 2).toNat) [.pointer (some ⟨b, 0, none⟩)]).toArray t (0, 0))) := by
    intro h' kh
    have g1 : (T.map (Nd.blk (keys T) n))[i]? = some (pt m.b (.cells c t (0, 0))) := by rw [List.getElem?_map, hix, ← e1]; rfl
    refine ⟨sat_get kh i g1 (fun x kx => pt_get x kx), ?_⟩
    have := sat_upd (pt_upd (.cells (putV c.toList (1 + (a / halfOf m.k % 2).toNat) [.pointer (some ⟨b, 0, none⟩)]).toArray t (0, 0))) i g1 (show sat (T.map (Nd.blk (keys T) n)) h' from kh)
    have e4 : T.map (Nd.blk (keys (T ++ [kidOf a m.k b])) n) = (T.map (Nd.blk (keys T) n)).set i (pt m.b (.cells (putV c.toList (1 + (a / halfOf m.k % 2).toNat) [.pointer (some ⟨b, 0, none⟩)]).toArray t (0, 0))) := by
      refine List.ext_getElem? fun j => ?_
      rw [List.getElem?_set]
      split
      · rename_i hj
        subst hj
        rw [if_pos (by simpa using hil), List.getElem?_map, hix, ← e3]; rfl
      · rename_i hj
        rw [List.getElem?_map, List.getElem?_map]
        cases hq : T[j]? with
        | none => rfl
        | some q =>
          have hne : ¬ (q.x = m.x ∧ q.k = m.k) := fun e => by
            have h1 : (T.map fun m => (m.x, m.k))[i]? = some (m.x, m.k) := by rw [List.getElem?_map, hix]; rfl
            have h2 : (T.map fun m => (m.x, m.k))[j]? = some (m.x, m.k) := by rw [List.getElem?_map, hq, Option.map_some, e.1, e.2]
            have hjl := (List.getElem?_eq_some_iff.1 h2).1
            have hil' := (List.getElem?_eq_some_iff.1 h1).1
            rw [List.getElem?_eq_getElem hjl] at h2
            rw [List.getElem?_eq_getElem hil'] at h1
            exact hj (((List.getElem_inj hi.nd).1 (Option.some.inj (h1.trans h2.symm))))
          simp only [Option.map_some, Option.some.injEq]
          unfold Nd.blk
          rw [obj_eq (cells_other hi hm hk hx (List.mem_of_getElem? hq) hne)]
    unfold Alls
    rw [e4]
    exact this
  obtain ⟨x, y, s, hx1, x2, y2, s2, hx2, x3, y3, s3, hx3, _⟩ := k
  obtain ⟨k1, k2⟩ := key x2 hx2
  refine ⟨c, t, (s.comm.get (s2.get k1)), e2, ?_⟩
  have hs := (s.comm.updL (o' := .cells (putV c.toList (1 + (a / halfOf m.k % 2).toNat) [.pointer (some ⟨b, 0, none⟩)]).toArray t (0, 0)) (s2.get k1))
  have hs2 := s2.updL (o' := .cells (putV c.toList (1 + (a / halfOf m.k % 2).toNat) [.pointer (some ⟨b, 0, none⟩)]).toArray t (0, 0)) k1
  have full : sat [pt b (.cells #[.slice none 0 0, .pointer none, .pointer none] 93 (0, 0)), Alls (T.map (Nd.blk (keys (T ++ [kidOf a m.k b])) n)), Vs T] (upd h m.b (.cells (putV c.toList (1 + (a / halfOf m.k % 2).toNat) [.pointer (some ⟨b, 0, none⟩)]).toArray t (0, 0))) :=
    ⟨x, _, hs.comm, hx1, _, y2, hs2, k2, x3, y3, s3, hx3, trivial⟩
  have hko : (kidOf a m.k b).blk (keys (T ++ [kidOf a m.k b])) n = pt b (.cells #[.slice none 0 0, .pointer none, .pointer none] 93 (0, 0)) := by
    unfold Nd.blk Nd.obj
    rw [if_neg (by show ¬ m.k + 1 = 0; omega)]
    have hx' : netOf (netOf a ((m.k + 1 : Nat) : Int)) ((m.k + 1 : Nat) : Int) = netOf a ((m.k + 1 : Nat) : Int) := netOf_netOf a _ _ (Nat.le_refl _) (by omega)
    obtain ⟨z1, z2⟩ := hi.no_kids hx' hno
    have zn : ∀ y : Int, nodeAt T y (m.k + 1 + 1) = none → kidP (keys (T ++ [kidOf a m.k b])) y (m.k + 1 + 1) = .pointer none := fun y hy => by
      refine kidP_no ?_
      rw [nodeAt_append _ _ _ _ (by rintro ⟨_, h2⟩; have : m.k + 1 = m.k + 1 + 1 := h2; omega)]
      exact hy
    have e5 : (kidOf a m.k b).cells (keys (T ++ [kidOf a m.k b])) = [.slice none 0 0, .pointer none, .pointer none] := by
      show [Value.slice (locAddr 0 .nil) 0 0, kidP _ (netOf a ((m.k + 1 : Nat) : Int)) (m.k + 1 + 1), kidP _ (netOf a ((m.k + 1 : Nat) : Int) + halfOf (m.k + 1)) (m.k + 1 + 1)] = _
      rw [zn _ z1, zn _ z2]; rfl
    rw [e5]; rfl
  obtain ⟨x, y, s, hx1, x2, y2, s2, hx2, x3, y3, s3, hx3, _⟩ := full
  refine ⟨un x x2, y2, s.assoc s2, ?_, x3, y3, s3, ?_, trivial⟩
  · unfold Bs
    rw [List.map_append]
    refine alls_snoc _ ⟨x, x2, s.un_left s2, ?_, x2, HP.emp, .emp_right _, hx2, trivial⟩
    rw [hko]; exact hx1
  · unfold Vs
    rw [List.map_append]
    exact alls_snoc _ (sat_add vec_emp ⟨x3, HP.emp, .emp_right _, hx3, trivial⟩)
end push
end Go.Proofs.Ytjppphldiaonkaa.Rt
