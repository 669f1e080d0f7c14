/- Small lemmas for those who walk: entries as blocks, calls, states that tell each other. Conditions: none. -/
import Derived.Test.YtiknkeakielncaaE13
namespace Sx
open Go

/-- A block of cells. -/
abbrev cellsA (b : Nat) (t : TypeId) (vs : List Value) : Asn := pt b (.cells vs.toArray t (0, 0))
theorem blk_to {nm : List (Nat × Plc)} {n b : Nat} {t : TypeId} {cs : List SV} {vs : List Value} {h : HP} (hn : getN nm n = some (.at b 0)) (hd : denL nm cs = some vs) (k : entDen nm (.blk n t cs) h) : pt b (.cells vs.toArray t (0, 0)) h := by
  obtain ⟨b', vs', h1, h2, h3⟩ := k
  rw [hn] at h1; rw [hd] at h2
  simp only [Option.some.injEq, Plc.at.injEq, and_true] at h1 h2
  subst h1; subst h2; exact h3
theorem blk_of {nm : List (Nat × Plc)} {n b : Nat} {t : TypeId} {cs : List SV} {vs : List Value} {h : HP} (hn : getN nm n = some (.at b 0)) (hd : denL nm cs = some vs) (k : pt b (.cells vs.toArray t (0, 0)) h) : entDen nm (.blk n t cs) h := ⟨b, vs, hn, hd, k⟩
theorem vec_to {nm : List (Nat × Plc)} {n : Nat} {l : Plc} {t : TypeId} {sz cap : Nat} {xs : List Value} {h : HP} (hn : getN nm n = some l) (k : entDen nm (.vec n t sz cap xs) h) : Vec l t sz cap xs h := by
  obtain ⟨l', h1, h2⟩ := k
  rw [hn] at h1; simp only [Option.some.injEq] at h1; subst h1; exact h2
theorem vec_of {nm : List (Nat × Plc)} {n : Nat} {l : Plc} {t : TypeId} {sz cap : Nat} {xs : List Value} {h : HP} (hn : getN nm n = some l) (k : Vec l t sz cap xs h) : entDen nm (.vec n t sz cap xs) h := ⟨l, hn, k⟩
theorem sat_none {As : List Asn} {h : HP} (_ : sat As h) : sat [] h := trivial
theorem sat_cons {A B : Asn} {As Bs : List Asn} {h : HP} (f : ∀ h, A h → B h) (g : ∀ h, sat As h → sat Bs h) (k : sat (A :: As) h) : sat (B :: Bs) h := by
  obtain ⟨x, y, t, hx, hy⟩ := k
  exact ⟨x, y, t, f _ hx, g _ hy⟩
theorem sat_nth (n : Nat) : ∀ {As : List Asn} {A : Asn} {h : HP}, As[n]? = some A → sat As h → sat (A :: As.eraseIdx n) h := by
  induction n with
  | zero =>
    intro As A h e k
    cases As with
    | nil => simp at e
    | cons B As => simp at e; subst e; exact k
  | succ n ih =>
    intro As A h e k
    cases As with
    | nil => simp at e
    | cons B As =>
      have := sat_cons (fun _ h => h) (fun h k => ih (by simpa using e) k) k
      exact sat_swap this
theorem erase_map {α β : Type} (f : α → β) : ∀ (l : List α) (n : Nat), (l.map f).eraseIdx n = (l.eraseIdx n).map f
  | [], _ => by simp
  | _ :: _, 0 => rfl
  | x :: l, n + 1 => by simp [erase_map f l n]
theorem sat_nil {As : List Asn} {h : HP} (_ : sat As h) : sat [] h := trivial
/-- The same entries, told of one by one. -/
theorem sat_id {As : List Asn} {h : HP} (k : sat As h) : sat As h := k

/-- A call that hands back no new name: of a function that needs one entry of the heap. -/
theorem call_at {P : Program} {f : HP} {g : FuncId} {args : List SV} {K : SV → St → Prop} {s : St} (n : Nat) {e : Ent} {A : Asn} {vals : List Value} {R : HP → Prop} {Q : Value → List Asn → Prop}
    (spec : Does P g vals.toArray R [A] Q) (he : s.hp[n]? = some e) (hv : denL s.nm args = some vals) (hA : ∀ h, entDen s.nm e h → A h)
    (hR : ∀ f', (∀ b o, f b = some o → f' b = some o) → R f')
    (k : ∀ v post, Q v post → ∃ sv hp', den s.nm sv = some v ∧ (∀ h, sat (post ++ (s.hp.eraseIdx n).map (entDen s.nm)) h → sat (hp'.map (entDen s.nm)) h) ∧ K sv ⟨s.n, s.env, s.nm, s.next, hp'⟩) : CallOb P f g args K s := by
  refine .mk s vals hv R [A] Q spec (s.hp.eraseIdx n) (fun h k => ?_) (fun f' b t _ => hR f' fun b o h => t.get_right h) (fun v post hq => ?_)
  · have := sat_nth n (A := entDen s.nm e) (by simp [he]) (show sat (s.hp.map (entDen s.nm)) h from k)
    rw [erase_map] at this
    exact sat_cons hA (fun _ k => k) this
  · obtain ⟨sv, hp', h1, h2, h3⟩ := k v post hq
    exact ⟨sv, _, h3, rfl, rfl, NmExt.refl _, h1, h2⟩
/-- A call that needs nothing of the heap. -/
theorem call_pure {P : Program} {f : HP} {g : FuncId} {args : List SV} {K : SV → St → Prop} {s : St} {vals : List Value} {R : HP → Prop} {Q : Value → List Asn → Prop}
    (spec : Does P g vals.toArray R [] Q) (hv : denL s.nm args = some vals)
    (hR : ∀ f', (∀ b o, f b = some o → f' b = some o) → R f')
    (k : ∀ v post, Q v post → ∃ sv, den s.nm sv = some v ∧ K sv ⟨s.n, s.env, s.nm, s.next, s.hp⟩) : CallOb P f g args K s := by
  refine .mk s vals hv R [] Q spec s.hp (fun h k => k) (fun f' b t _ => hR f' fun b o h => t.get_right h) (fun v post hq => ?_)
  obtain ⟨sv, h1, h2⟩ := k v post hq
  refine ⟨sv, _, h2, rfl, rfl, NmExt.refl _, h1, fun h k => ?_⟩
  obtain ⟨x, y, t, _, hy⟩ := sat_append k
  exact sat_more t hy

/-! ### A state tells another one -/
def envLe (nm : List (Nat × Plc)) (env : List (Nat × SV)) (nm' : List (Nat × Plc)) : List (Nat × SV) → Prop
  | [] => True
  | (k, v) :: r => (∃ v', getE env k = some v' ∧ den nm v' = den nm' v) ∧ envLe nm env nm' r
theorem envLe_ok {nm : List (Nat × Plc)} {env : List (Nat × SV)} {nm' : List (Nat × Plc)} {a : Act} (h0 : EnvOK nm env a) : ∀ {env' : List (Nat × SV)}, envLe nm env nm' env' → EnvOK nm' env' a
  | [], _ => fun t v e => by simp [getE] at e
  | (k, v) :: r, ⟨⟨v', h1, h2⟩, h3⟩ => fun t u e => by
    unfold getE at e
    by_cases hk : k = t
    · subst hk
      simp at e; subst e
      rw [← h2]; exact h0 k v' h1
    · rw [beq_no hk] at e
      exact envLe_ok h0 h3 t u e
theorem Le.of {s s' : St} (hn : s'.n = s.n) (he : envLe s.nm s.env s'.nm s'.env) (hh : ∀ h, sat (s.hp.map (entDen s.nm)) h → sat (s'.hp.map (entDen s'.nm)) h) : Le s s' :=
  ⟨hn, fun _ h => envLe_ok h he, hh⟩
/-- What is told is in the frame of another one. -/
theorem frame_of {f f' b : HP} {As : List Asn} {A : Asn} (n : Nat) (s : Split f' b f) (k : sat As b) (hA : As[n]? = some A) : ∃ g, A g ∧ ∀ r o, g r = some o → f' r = some o := by
  have := sat_nth n hA k
  obtain ⟨x, y, t, hx, _⟩ := this
  exact ⟨x, hx, fun r o h => s.get (t.get h)⟩
/-- The cells of a told slice, in the frame of a function that is called. -/
theorem vec_reads {f f' b : HP} {nm : List (Nat × Plc)} {es : List Ent} {m : Nat} {t : TypeId} {sz cap : Nat} {xs : List Value} (n : Nat) (s : Split f' b f) (k : sat (es.map (entDen nm)) b) (hA : es[n]? = some (.vec m t sz cap xs)) {l : Plc} (hl : getN nm m = some l) :
    ∀ i v, xs[i]? = some v → ∃ b o, locAddr 0 l = some ⟨b, o, none⟩ ∧ fcell f' b (o + i) = some v := by
  obtain ⟨g, hg, hsub⟩ := frame_of (A := entDen nm (.vec m t sz cap xs)) n s k (by simp [hA])
  obtain ⟨_, hv⟩ := vec_to hl hg
  rcases hv with ⟨_, hx, _⟩ | ⟨b, o, pre, post, rfl, hp, ho, _⟩
  · subst hx; intro i v hv; simp at hv
  · intro i v hv
    refine ⟨b, o, rfl, ?_⟩
    have hb : g b = some (.cells (pre ++ xs ++ post).toArray t (0, 0)) := by rw [hp]; simp [one]
    have hf := hsub _ _ hb
    have hi := (List.getElem?_eq_some_iff.1 hv).1
    unfold fcell
    rw [hf]
    simp only [List.getElem?_toArray, List.append_assoc]
    rw [List.getElem?_append_right (by omega), ho, show o + i - o = i by omega, List.getElem?_append_left hi]
    exact hv
theorem blk_reads {f f' b : HP} {nm : List (Nat × Plc)} {es : List Ent} {m : Nat} {t : TypeId} {cs : List SV} {xs : List Value} (n : Nat) (s : Split f' b f) (k : sat (es.map (entDen nm)) b) (hA : es[n]? = some (.blk m t cs)) {c : Nat} (hl : getN nm m = some (.at c 0)) (hd : denL nm cs = some xs) :
    ∀ i v, xs[i]? = some v → ∃ b o, locAddr 0 (.at c 0) = some ⟨b, o, none⟩ ∧ fcell f' b (o + i) = some v := by
  obtain ⟨g, hg, hsub⟩ := frame_of (A := entDen nm (.blk m t cs)) n s k (by simp [hA])
  have hp := blk_to hl hd hg
  intro i v hv
  refine ⟨c, 0, rfl, ?_⟩
  have hb : g c = some (.cells xs.toArray t (0, 0)) := by rw [hp]; simp [one]
  have hf := hsub _ _ hb
  unfold fcell
  rw [hf]
  simpa using hv
theorem sat_add {A : Asn} {As : List Asn} {h : HP} (e : A HP.emp) (k : sat As h) : sat (A :: As) h := ⟨HP.emp, h, .emp_left h, e, k⟩
theorem vec_emp {t : TypeId} {sz : Nat} : Vec .nil t sz 0 [] HP.emp := ⟨by simp, .inl ⟨rfl, rfl, rfl⟩⟩
theorem map_asn (nm : List (Nat × Plc)) (l : List Asn) : (l.map Ent.asn).map (entDen nm) = l := by
  induction l with
  | nil => rfl
  | cons A l ih => simp only [List.map_cons, ih]; rfl
/-- A call of a function that needs assertions that lie side by side among the entries; what it leaves stands first. -/
theorem call_asn {P : Program} {f : HP} {g : FuncId} {args : List SV} {K : SV → St → Prop} {s : St} (pfx : List Ent) {pre : List Asn} (sfx : List Ent) {vals : List Value} {R : HP → Prop} {Q : Value → List Asn → Prop}
    (spec : Does P g vals.toArray R pre Q) (hhp : s.hp = pfx ++ (pre.map Ent.asn ++ sfx)) (hv : denL s.nm args = some vals)
    (hR : ∀ f' b, Split f' b f → sat ((pfx ++ sfx).map (entDen s.nm)) b → R f')
    (k : ∀ v post, Q v post → ∃ sv nm' next', NmExt s.nm nm' ∧ den nm' sv = some v ∧ ∃ hp', (∀ h, sat (post ++ (pfx ++ sfx).map (entDen nm')) h → sat (hp'.map (entDen nm')) h) ∧ K sv ⟨s.n, s.env, nm', next', hp'⟩) : CallOb P f g args K s := by
  refine .mk s vals hv R pre Q spec (pfx ++ sfx) (fun h hs => ?_) hR (fun v post hq => ?_)
  · have hs : sat (s.hp.map (entDen s.nm)) h := hs
    rw [hhp] at hs
    simp only [List.map_append, map_asn] at hs ⊢
    exact sat_perm (List.perm_append_comm_assoc _ _ _) hs
  · obtain ⟨sv, nm', next', h1, h2, hp', h3, h4⟩ := k v post hq
    refine ⟨sv, _, h4, rfl, rfl, h1, h2, fun h hs => h3 h ?_⟩
    obtain ⟨x, y, t, hx, hy⟩ := sat_append hs
    exact sat_join t hx (sat_map (fun e h k => entDen_ext h1 e h k) hy)
theorem sat_asns {nm : List (Nat × Plc)} {post : List Asn} {es : List Ent} {h : HP} (k : sat (post ++ es.map (entDen nm)) h) : sat ((post.map Ent.asn ++ es).map (entDen nm)) h := by
  simp only [List.map_append, map_asn]; exact k
theorem frame_cell {f f' b : HP} (s : Split f' b f) {c o : Nat} {v : Value} (h : fcell f c o = some v) : fcell f' c o = some v := by
  unfold fcell at h ⊢
  split at h <;> try (cases h; done)
  rename_i cc t fr hb
  rw [s.get_right hb]; exact h
end Sx
