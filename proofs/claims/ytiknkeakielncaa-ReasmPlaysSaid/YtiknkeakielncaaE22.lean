/- Toolbox: parts by their numbers, all of these parts, stores into parts, slices' cells, lists read by slices. Conditions: none. -/
import Derived.Test.YtiknkeakielncaaE21
namespace Sx
open Go

def Alls (As : List Asn) : Asn := fun h => sat As h
theorem alls_nil : Alls [] HP.emp := trivial
theorem alls_out {As Bs Cs : List Asn} {A : Asn} {h : HP} (k : sat (Alls (As ++ A :: Bs) :: Cs) h) : sat (A :: Alls (As ++ Bs) :: Cs) h := by
  obtain ⟨x, y, t, hx, hy⟩ := k
  have h1 : sat ((As ++ A :: Bs) ++ Cs) h := sat_join t (show sat (As ++ A :: Bs) x from hx) hy
  have h2 : sat (A :: ((As ++ Bs) ++ Cs)) h := sat_perm (by rw [List.append_assoc, List.append_assoc]; exact List.perm_middle) h1
  obtain ⟨u, v, t2, hu, hv⟩ := h2
  obtain ⟨a, b, t3, ha, hb⟩ := sat_append hv
  exact ⟨u, v, t2, hu, a, b, t3, ha, hb⟩
theorem alls_in {As Bs : List Asn} {A : Asn} (h : HP) (k : sat [A, Alls (As ++ Bs)] h) : Alls (As ++ A :: Bs) h := by
  obtain ⟨x, y, t, hx, u, v, t2, hu, _⟩ := k
  have h1 : sat (As ++ Bs) y := sat_more t2.comm hu
  exact sat_perm List.perm_middle.symm (show sat (A :: (As ++ Bs)) h from ⟨x, y, t, hx, h1⟩)
theorem fcell_sub {x h : HP} {b o : Nat} {v : Value} (s : ∀ r q, x r = some q → h r = some q) (e : fcell x b o = some v) : fcell h b o = some v := by
  unfold fcell at e ⊢
  split at e <;> try (cases e; done)
  rename_i c t fr hb
  rw [s _ _ hb]; exact e
theorem sat_cell (n : Nat) {As : List Asn} {A : Asn} {h : HP} {b o : Nat} {v : Value} (e : As[n]? = some A) (g : ∀ x, A x → fcell x b o = some v) (k : sat As h) : fcell h b o = some v := by
  obtain ⟨x, y, t, hx, _⟩ := sat_nth n e k
  exact fcell_sub (fun _ _ => t.get) (g x hx)
theorem alls_cell {As : List Asn} {A : Asn} {b o : Nat} {v : Value} (hA : A ∈ As) (g : ∀ x, A x → fcell x b o = some v) (h : HP) (k : Alls As h) : fcell h b o = some v := by
  obtain ⟨n, hn, e⟩ := List.getElem_of_mem hA
  exact sat_cell n (by rw [List.getElem?_eq_getElem hn, e]) g k

theorem alls_pick {As Cs : List Asn} {A : Asn} {h : HP} (i : Nat) (e : As[i]? = some A) (k : sat (Alls As :: Cs) h) : sat (A :: Alls (As.eraseIdx i) :: Cs) h := by
  obtain ⟨x, y, t, hx, hy⟩ := k
  obtain ⟨u, v, t2, hu, hv⟩ := sat_nth i e hx
  exact ⟨u, un v y, (t.assoc' t2).1, hu, v, y, (t.assoc' t2).2, hv, hy⟩
theorem set_perm {α : Type} (a : α) : ∀ (l : List α) (i : Nat), i < l.length → (a :: l.eraseIdx i).Perm (l.set i a)
  | [], i, h => by simp at h
  | x :: l, 0, h => .refl _
  | x :: l, i + 1, h => by
    have := set_perm a l i (by simpa using h)
    exact (List.Perm.swap x a _).trans (this.cons x)
theorem alls_put {As : List Asn} {A : Asn} (i : Nat) (hi : i < As.length) (h : HP) (k : sat [A, Alls (As.eraseIdx i)] h) : Alls (As.set i A) h := by
  obtain ⟨x, y, t, hx, u, v, t2, hu, _⟩ := k
  exact sat_perm (set_perm A As i hi) (show sat (A :: As.eraseIdx i) h from ⟨x, y, t, hx, sat_more t2.comm hu⟩)
theorem sat_two {A B : Asn} {h a b : HP} (s : Split h a b) (ha : A a) (hb : B b) : sat [A, B] h := ⟨a, b, s, ha, b, HP.emp, .emp_right _, hb, trivial⟩
/-- A slice's cells are turned where they lie. -/
theorem vec_upd {b o : Nat} {t : TypeId} {sz cap : Nat} {xs vs : List Value} (off : Nat) (hl : off + vs.length ≤ xs.length) (hv : ∀ v ∈ vs, v.oneCell' = true) (h : HP) (k : Vec (.at b o) t sz cap xs h) :
    ∃ c, h b = some (.cells c t (0, 0)) ∧ o + off + vs.length ≤ c.size ∧ Vec (.at b o) t sz cap (putV xs off vs) (upd h b (.cells (putV c.toList (o + off) vs).toArray t (0, 0))) := by
  obtain ⟨h1, ⟨h2, _⟩ | ⟨b', o', pre, post, h2, h3, h4, h5⟩⟩ := k
  · cases h2
  · simp only [Plc.at.injEq] at h2
    obtain ⟨rfl, rfl⟩ := h2
    refine ⟨_, pt_get h h3, by simp; omega, putV_plain h1 hv off, .inr ⟨b, o, pre, post, rfl, ?_, h4, by rw [putV_length]; exact h5⟩⟩
    have e : putV (pre ++ xs ++ post) (o + off) vs = pre ++ putV xs off vs ++ post := by
      rw [List.append_assoc, ← h4, putV_pre, putV_post _ _ _ _ (by omega), List.append_assoc]
    rw [← e]
    exact (pt_upd _ h h3).2
/-- Cells of a part that is told are turned. -/
theorem sat_updE {A A' : Asn} {b o : Nat} {vs : List Value} (g : ∀ x, A x → ∃ c t, x b = some (.cells c t (0, 0)) ∧ o + vs.length ≤ c.size ∧ A' (upd x b (.cells (putV c.toList o vs).toArray t (0, 0)))) :
    ∀ (n : Nat) {As : List Asn} {h : HP}, As[n]? = some A → sat As h → ∃ c t, h b = some (.cells c t (0, 0)) ∧ o + vs.length ≤ c.size ∧ sat (As.set n A') (upd h b (.cells (putV c.toList o vs).toArray t (0, 0)))
  | 0, As, h, e, k => by
    cases As with
    | nil => simp at e
    | cons B As =>
      simp at e; subst e
      obtain ⟨x, y, t, hx, hy⟩ := k
      obtain ⟨c, ty, h1, h2, h3⟩ := g x hx
      exact ⟨c, ty, t.get h1, h2, _, y, t.updL h1, h3, hy⟩
  | n + 1, As, h, e, k => by
    cases As with
    | nil => simp at e
    | cons B As =>
      obtain ⟨x, y, t, hx, hy⟩ := k
      obtain ⟨c, ty, h1, h2, h3⟩ := sat_updE g n (show As[n]? = some A by simpa using e) hy
      exact ⟨c, ty, t.comm.get h1, h2, x, _, (t.comm.updL h1).comm, hx, h3⟩
theorem StRaw.on {s : St} {b o : Nat} {l : List SV} {K : St → Prop} (n : Nat) {A : Asn} (A' : Asn) (vs : List Value) (hd : denL s.nm l = some vs) (hn : s.hp[n]? = some (.asn A))
    (g : ∀ x, A x → ∃ c t, x b = some (.cells c t (0, 0)) ∧ o + vs.length ≤ c.size ∧ A' (upd x b (.cells (putV c.toList o vs).toArray t (0, 0)))) (k : K ⟨s.n, s.env, s.nm, s.next, s.hp.set n (.asn A')⟩) : StRaw s b o l K := by
  refine .mk vs hd _ (fun h hs => ?_) k
  have hn' : s.ents[n]? = some A := by simp only [St.ents, List.getElem?_map, hn]; rfl
  rw [List.map_set]
  exact sat_updE g n hn' hs
theorem blk_vec {b : Nat} {t : TypeId} {sz cap : Nat} {xs : List Value} {h : HP} (hv : ∀ v ∈ xs, v.oneCell' = true) (hc : cap * sz ≤ xs.length) (k : pt b (.cells xs.toArray t (0, 0)) h) : Vec (.at b 0) t sz cap xs h :=
  ⟨hv, .inr ⟨b, 0, [], [], rfl, by simpa using k, rfl, by simpa using hc⟩⟩
theorem vec_at {pl : Plc} {t : TypeId} {sz cap : Nat} {xs : List Value} {h : HP} (hx : xs ≠ []) (k : Vec pl t sz cap xs h) : ∃ b o, pl = .at b o := by
  obtain ⟨_, ⟨_, h2, _⟩ | ⟨b, o, _, _, h2, _⟩⟩ := k
  · exact absurd h2 hx
  · exact ⟨b, o, h2⟩
/-- A list of things, read by a slice. -/
theorem reads_of {α : Type} {f : HP} {A : Option Addr} {L : Lay α} {l : List α} (h0 : 0 < L.sz) (h : ∀ i x, l[i]? = some x → ∃ b o, A = some ⟨b, o, none⟩ ∧ ∀ (j : Nat) v, (L.cells x)[j]? = some v → fcell f b (o + i * L.sz + j) = some v) : Reads f A (L.flat l) := by
  intro j v hv
  have hl : j < l.length * L.sz := by have := (List.getElem?_eq_some_iff.1 hv).1; rw [L.flat_length] at this; exact this
  have hi : j / L.sz < l.length := Nat.div_lt_of_lt_mul (by rw [Nat.mul_comm]; exact hl)
  have hx := List.getElem?_eq_getElem hi
  obtain ⟨b, o, e1, e2⟩ := h (j / L.sz) _ hx
  refine ⟨b, o, e1, ?_⟩
  have e5 : j / L.sz * L.sz + j % L.sz = j := by rw [Nat.mul_comm]; exact Nat.div_add_mod j L.sz
  have hlt : j % L.sz < (L.cells l[j / L.sz]).length := by rw [L.len]; exact Nat.mod_lt _ h0
  have e4 := L.flat_at hx (j := j % L.sz) (List.getElem?_eq_getElem hlt)
  rw [e5, hv] at e4
  have := e2 (j % L.sz) _ (List.getElem?_eq_getElem hlt)
  rw [Nat.add_assoc, e5] at this
  rw [this, ← e4]
theorem alls_snoc {As : List Asn} {A : Asn} (h : HP) (k : sat [A, Alls As] h) : Alls (As ++ [A]) h := by
  refine alls_in h ?_
  rw [List.append_nil]; exact k
/-- What the memory makes sure ahead of a call. -/
theorem Does.presure {P : Program} {g : FuncId} {vals : Array Value} {R : HP → Prop} {pre : List Asn} {Q : Value → List Asn → Prop} {φ : Prop} (he : Enters P g) (h1 : ∀ h, sat pre h → φ) (h2 : φ → Does P g vals R pre Q) : Does P g vals R pre Q :=
  ⟨he, fun f w hR hat => by
    obtain ⟨x, s, k⟩ := hat
    exact (h2 (h1 x k)).run f w hR ⟨x, s, k⟩⟩
/-- A function does what it does beside other parts. -/
theorem frameG {P : Program} {g : FuncId} {vals : Array Value} {R : HP → Prop} {pre : List Asn} {Q : Value → List Asn → Prop} (more : List Asn) (hm : ∀ f f' b, Split f' b f → R f → R f') (h : Does P g vals R pre Q) : Does P g vals R (pre ++ more) (fun v q => ∃ q', Q v q' ∧ q = q' ++ more) :=
  ⟨h.enters, fun f w hR hat => by
    obtain ⟨g', hat', b, hb1, hb2⟩ := hat.frame
    refine (h.run g' w (hm _ _ _ hb1 hR) hat').mono ?_
    rintro e w' ⟨v, post, he, hp, hq, hstr⟩
    exact ⟨v, _, he, hp.unframe hb1 hb2, ⟨post, hq, rfl⟩, hstr⟩⟩
end Sx
