/- What a function does, told with less: hidden places. Conditions: none. -/
import Derived.Test.YtiknkeakielncaaE19
namespace Sx
open Go

theorem Does.pre {P : Program} {g : FuncId} {vals : Array Value} {R : HP → Prop} {pre pre' : List Asn} {Q : Value → List Asn → Prop} (h : Does P g vals R pre Q) (k : ∀ h, sat pre' h → sat pre h) : Does P g vals R pre' Q :=
  ⟨h.enters, fun f w hR hat => h.run f w hR (let ⟨x, s, y⟩ := hat; ⟨x, s, k _ y⟩)⟩
theorem Does.post {P : Program} {g : FuncId} {vals : Array Value} {R : HP → Prop} {pre : List Asn} {Q Q' : Value → List Asn → Prop} (h : Does P g vals R pre Q) (k : ∀ v q, Q v q → ∃ q', Q' v q' ∧ ∀ h, sat q h → sat q' h) : Does P g vals R pre Q' :=
  ⟨h.enters, fun f w hR hat => (h.run f w hR hat).mono fun _ _ ⟨v, post, h1, h2, h3, h4⟩ => by
    obtain ⟨q', k1, k2⟩ := k v post h3
    obtain ⟨x, s, y⟩ := h2
    exact ⟨v, q', h1, ⟨x, s, k2 _ y⟩, k1, h4⟩⟩
/-- Some of these lists of parts. -/
def AnyOf {ι : Type} (A : ι → List Asn) : Asn := fun h => ∃ i, sat (A i) h
theorem Does.preEx {P : Program} {g : FuncId} {vals : Array Value} {R : HP → Prop} {ι : Type} {A : ι → List Asn} {As : List Asn} {Q : Value → List Asn → Prop} (he : Enters P g) (h : ∀ i, Does P g vals R (A i ++ As) Q) : Does P g vals R (AnyOf A :: As) Q :=
  ⟨he, fun f w hR hat => by
    obtain ⟨x, s, y, z, t, ⟨i, hi⟩, hz⟩ := hat
    exact (h i).run f w hR ⟨x, s, sat_join t hi hz⟩⟩
theorem sat_ex {ι : Type} {A : ι → List Asn} {As : List Asn} {h : HP} (i : ι) (k : sat (A i ++ As) h) : sat (AnyOf A :: As) h := by
  obtain ⟨x, y, t, hx, hy⟩ := sat_append k
  exact ⟨x, y, t, ⟨i, hx⟩, hy⟩
/-- What is left may be told otherwise, as the memory shows. -/
theorem Does.opens {P : Program} {g : FuncId} {vals : Array Value} {R : HP → Prop} {pre : List Asn} {Q Q' : Value → List Asn → Prop} (h : Does P g vals R pre Q) (k : ∀ v q h, Q v q → sat q h → ∃ q', Q' v q' ∧ sat q' h) : Does P g vals R pre Q' :=
  ⟨h.enters, fun f w hR hat => (h.run f w hR hat).mono fun _ _ ⟨v, post, h1, h2, h3, h4⟩ => by
    obtain ⟨x, s, y⟩ := h2
    obtain ⟨q', k1, k2⟩ := k v post x h3 y
    exact ⟨v, q', h1, ⟨x, s, k2⟩, k1, h4⟩⟩
theorem sat_open {ι : Type} {A : ι → List Asn} {As : List Asn} {h : HP} (k : sat (AnyOf A :: As) h) : ∃ i, sat (A i ++ As) h := by
  obtain ⟨x, y, t, ⟨i, hx⟩, hy⟩ := k
  exact ⟨i, sat_join t hx hy⟩
theorem DoesY.pre {P : Program} {l : Nat} {vals : Array Value} {R : HP → Prop} {pre pre' : List Asn} {Q : Value → List Asn → Prop} (h : DoesY P l vals R pre Q) (k : ∀ h, sat pre' h → sat pre h) : DoesY P l vals R pre' Q :=
  ⟨fun f w hR hat => h.run f w hR (let ⟨x, s, y⟩ := hat; ⟨x, s, k _ y⟩)⟩
theorem DoesY.preEx {P : Program} {l : Nat} {vals : Array Value} {R : HP → Prop} {ι : Type} {A : ι → List Asn} {As : List Asn} {Q : Value → List Asn → Prop} (h : ∀ i, DoesY P l vals R (A i ++ As) Q) : DoesY P l vals R (AnyOf A :: As) Q :=
  ⟨fun f w hR hat => by
    obtain ⟨x, s, y, z, t, ⟨i, hi⟩, hz⟩ := hat
    exact (h i).run f w hR ⟨x, s, sat_join t hi hz⟩⟩
def dropIx : List Nat → List Ent → List Ent
  | [], l => l
  | n :: ns, l => dropIx ns (l.eraseIdx n)
/-- A call that takes some entries, by their numbers (each as of what is left); what it leaves stands first. -/
theorem call_ix {P : Program} {f : HP} {g : FuncId} {args : List SV} {K : SV → St → Prop} {s : St} {pre : List Asn} {vals : List Value} {R : HP → Prop} {Q : Value → List Asn → Prop} (spec : Does P g vals.toArray R pre Q) (hv : denL s.nm args = some vals) (ns : List Nat)
    (take : ∀ h, sat s.ents h → sat (pre ++ (dropIx ns s.hp).map (entDen s.nm)) h) (hR : ∀ f' b, Split f' b f → sat ((dropIx ns s.hp).map (entDen s.nm)) b → R f')
    (k : ∀ v post, Q v post → ∃ sv nm' next' hp1, NmExt s.nm nm' ∧ den nm' sv = some v ∧ (∀ h, sat post h → sat (hp1.map (entDen nm')) h) ∧ K sv ⟨s.n, s.env, nm', next', hp1 ++ dropIx ns s.hp⟩) : CallOb P f g args K s := by
  refine .mk s vals hv R pre Q spec (dropIx ns s.hp) take hR (fun v post hq => ?_)
  obtain ⟨sv, nm', next', hp1, h1, h2, h3, h4⟩ := k v post hq
  refine ⟨sv, _, h4, rfl, rfl, h1, h2, fun h hs => ?_⟩
  obtain ⟨x, y, t, hx, hy⟩ := sat_append hs
  show sat ((hp1 ++ dropIx ns s.hp).map (entDen nm')) h
  rw [List.map_append]
  exact sat_join t (h3 _ hx) (sat_map (fun e h k => entDen_ext h1 e h k) hy)
end Sx
