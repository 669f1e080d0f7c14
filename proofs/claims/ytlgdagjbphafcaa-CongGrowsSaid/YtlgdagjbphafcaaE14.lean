/- Small lemmas for those who walk: entries as blocks, calls, states that tell each other. Conditions: none. -/
import Derived.Test.YtlgdagjbphafcaaE13
namespace Sx
open Go

/-- A block of cells. -/
abbrev cellsA (b : Nat) (t : TypeId) (vs : List Value) : Asn := pt b (.cells vs.toArray t (0, 0))
theorem blk_to {nm : List (Nat × Plc)} {n b : Nat} {t : TypeId} {cs : List SV} {vs : List Value} {h : HP} (hn : getN nm n = some (.at b 0)) (hd : denL nm cs = some vs) (k : entDen nm (.blk n t cs) h) : pt b (.cells vs.toArray t (0, 0)) h := by
  obtain ⟨b', vs', h1, h2, h3⟩ := k
  rw [hn] at h1; rw [hd] at h2
  simp only [Option.some.injEq, Plc.at.injEq, and_true] at h1 h2
  subst h1; subst h2; exact h3
theorem blk_of {nm : List (Nat × Plc)} {n b : Nat} {t : TypeId} {cs : List SV} {vs : List Value} {h : HP} (hn : getN nm n = some (.at b 0)) (hd : denL nm cs = some vs) (k : pt b (.cells vs.toArray t (0, 0)) h) : entDen nm (.blk n t cs) h := ⟨b, vs, hn, hd, k⟩
theorem sat_cons {A B : Asn} {As Bs : List Asn} {h : HP} (f : ∀ h, A h → B h) (g : ∀ h, sat As h → sat Bs h) (k : sat (A :: As) h) : sat (B :: Bs) h := by
  obtain ⟨x, y, t, hx, hy⟩ := k
  exact ⟨x, y, t, f _ hx, g _ hy⟩
theorem sat_nth (n : Nat) : ∀ {As : List Asn} {A : Asn} {h : HP}, As[n]? = some A → sat As h → sat (A :: As.eraseIdx n) h := by
  induction n with
  | zero =>
    intro As A h e k
    cases As with
    | nil => simp at e
    | cons B As => simp at e; subst e; exact k
  | succ n ih =>
    intro As A h e k
    cases As with
    | nil => simp at e
    | cons B As =>
      have := sat_cons (fun _ h => h) (fun h k => ih (by simpa using e) k) k
      exact sat_swap this
theorem erase_map {α β : Type} (f : α → β) : ∀ (l : List α) (n : Nat), (l.map f).eraseIdx n = (l.eraseIdx n).map f
  | [], _ => by simp
  | _ :: _, 0 => rfl
  | x :: l, n + 1 => by simp [erase_map f l n]
theorem sat_nil {As : List Asn} {h : HP} (_ : sat As h) : sat [] h := trivial
/-- The same entries, told of one by one. -/
theorem sat_id {As : List Asn} {h : HP} (k : sat As h) : sat As h := k

/-- A call that hands back no new name: of a function that needs one entry of the heap. -/
theorem call_at {P : Program} {f : HP} {g : FuncId} {args : List SV} {K : SV → St → Prop} {s : St} (n : Nat) {e : Ent} {A : Asn} {vals : List Value} {R : HP → Prop} {Q : Value → List Asn → Prop}
    (spec : Does P g vals.toArray R [A] Q) (he : s.hp[n]? = some e) (hv : denL s.nm args = some vals) (hA : ∀ h, entDen s.nm e h → A h)
    (hR : ∀ f', (∀ b o, f b = some o → f' b = some o) → R f')
    (k : ∀ v post, Q v post → ∃ sv hp', den s.nm sv = some v ∧ (∀ h, sat (post ++ (s.hp.eraseIdx n).map (entDen s.nm)) h → sat (hp'.map (entDen s.nm)) h) ∧ K sv ⟨s.n, s.env, s.nm, s.next, hp'⟩) : CallOb P f g args K s := by
  refine .mk s vals hv R [A] Q spec (s.hp.eraseIdx n) (fun h k => ?_) (fun f' b t _ => hR f' fun b o h => t.get_right h) (fun v post hq => ?_)
  · have := sat_nth n (A := entDen s.nm e) (by simp [he]) (show sat (s.hp.map (entDen s.nm)) h from k)
    rw [erase_map] at this
    exact sat_cons hA (fun _ k => k) this
  · obtain ⟨sv, hp', h1, h2, h3⟩ := k v post hq
    exact ⟨sv, _, h3, rfl, rfl, NmExt.refl _, h1, h2⟩
/-- A call that needs nothing of the heap. -/
theorem call_pure {P : Program} {f : HP} {g : FuncId} {args : List SV} {K : SV → St → Prop} {s : St} {vals : List Value} {R : HP → Prop} {Q : Value → List Asn → Prop}
    (spec : Does P g vals.toArray R [] Q) (hv : denL s.nm args = some vals)
    (hR : ∀ f', (∀ b o, f b = some o → f' b = some o) → R f')
    (k : ∀ v post, Q v post → ∃ sv, den s.nm sv = some v ∧ K sv ⟨s.n, s.env, s.nm, s.next, s.hp⟩) : CallOb P f g args K s := by
  refine .mk s vals hv R [] Q spec s.hp (fun h k => k) (fun f' b t _ => hR f' fun b o h => t.get_right h) (fun v post hq => ?_)
  obtain ⟨sv, h1, h2⟩ := k v post hq
  refine ⟨sv, _, h2, rfl, rfl, NmExt.refl _, h1, fun h k => ?_⟩
  obtain ⟨x, y, t, _, hy⟩ := sat_append k
  exact sat_more t hy

/-! ### A state tells another one -/
def envLe (nm : List (Nat × Plc)) (env : List (Nat × SV)) (nm' : List (Nat × Plc)) : List (Nat × SV) → Prop
  | [] => True
  | (k, v) :: r => (∃ v', getE env k = some v' ∧ den nm v' = den nm' v) ∧ envLe nm env nm' r
theorem envLe_ok {nm : List (Nat × Plc)} {env : List (Nat × SV)} {nm' : List (Nat × Plc)} {a : Act} (h0 : EnvOK nm env a) : ∀ {env' : List (Nat × SV)}, envLe nm env nm' env' → EnvOK nm' env' a
  | [], _ => fun t v e => by simp [getE] at e
  | (k, v) :: r, ⟨⟨v', h1, h2⟩, h3⟩ => fun t u e => by
    unfold getE at e
    by_cases hk : k = t
    · subst hk
      simp at e; subst e
      rw [← h2]; exact h0 k v' h1
    · rw [beq_no hk] at e
      exact envLe_ok h0 h3 t u e
theorem Le.of {s s' : St} (hn : s'.n = s.n) (he : envLe s.nm s.env s'.nm s'.env) (hh : ∀ h, sat (s.hp.map (entDen s.nm)) h → sat (s'.hp.map (entDen s'.nm)) h) : Le s s' :=
  ⟨hn, fun _ h => envLe_ok h he, hh⟩
end Sx
