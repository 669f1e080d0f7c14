/- What a function does, told with less: hidden places. Conditions: none. -/
import Derived.Test.YtlgdagjbphafcaaE19
namespace Sx
open Go

theorem Does.pre {P : Program} {g : FuncId} {vals : Array Value} {R : HP → Prop} {pre pre' : List Asn} {Q : Value → List Asn → Prop} (h : Does P g vals R pre Q) (k : ∀ h, sat pre' h → sat pre h) : Does P g vals R pre' Q :=
  ⟨h.enters, fun f w hR hat => h.run f w hR (let ⟨x, s, y⟩ := hat; ⟨x, s, k _ y⟩)⟩
theorem Does.post {P : Program} {g : FuncId} {vals : Array Value} {R : HP → Prop} {pre : List Asn} {Q Q' : Value → List Asn → Prop} (h : Does P g vals R pre Q) (k : ∀ v q, Q v q → ∃ q', Q' v q' ∧ ∀ h, sat q h → sat q' h) : Does P g vals R pre Q' :=
  ⟨h.enters, fun f w hR hat => (h.run f w hR hat).mono fun _ _ ⟨v, post, h1, h2, h3, h4⟩ => by
    obtain ⟨q', k1, k2⟩ := k v post h3
    obtain ⟨x, s, y⟩ := h2
    exact ⟨v, q', h1, ⟨x, s, k2 _ y⟩, k1, h4⟩⟩
/-- Some of these lists of parts. -/
def AnyOf {ι : Type} (A : ι → List Asn) : Asn := fun h => ∃ i, sat (A i) h
theorem Does.preEx {P : Program} {g : FuncId} {vals : Array Value} {R : HP → Prop} {ι : Type} {A : ι → List Asn} {As : List Asn} {Q : Value → List Asn → Prop} (he : Enters P g) (h : ∀ i, Does P g vals R (A i ++ As) Q) : Does P g vals R (AnyOf A :: As) Q :=
  ⟨he, fun f w hR hat => by
    obtain ⟨x, s, y, z, t, ⟨i, hi⟩, hz⟩ := hat
    exact (h i).run f w hR ⟨x, s, sat_join t hi hz⟩⟩
theorem sat_ex {ι : Type} {A : ι → List Asn} {As : List Asn} {h : HP} (i : ι) (k : sat (A i ++ As) h) : sat (AnyOf A :: As) h := by
  obtain ⟨x, y, t, hx, hy⟩ := sat_append k
  exact ⟨x, y, t, ⟨i, hx⟩, hy⟩
end Sx
