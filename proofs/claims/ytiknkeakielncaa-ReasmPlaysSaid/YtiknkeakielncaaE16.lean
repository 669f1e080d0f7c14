/- Words for those who walk: parts picked by their number; calls that leave what they look at; what the memory makes sure; whole numbers that stay whole. Conditions: none. -/
import Derived.Test.YtiknkeakielncaaE15
namespace Sx
open Go

theorem sat_pick (n : Nat) {As Bs : List Asn} {A B : Asn} {h : HP} (e : As[n]? = some A) (f : ∀ h, A h → B h) (g : ∀ h, sat (As.eraseIdx n) h → sat Bs h) (k : sat As h) : sat (B :: Bs) h :=
  sat_cons f g (sat_nth n e k)
/-- What the memory makes sure may be added to what a function does. -/
theorem Does.sure {P : Program} {g : FuncId} {vals : Array Value} {R : HP → Prop} {pre : List Asn} {Q Q' : Value → List Asn → Prop} (h : Does P g vals R pre Q) (k : ∀ v p h, Q v p → sat p h → Q' v p) : Does P g vals R pre Q' :=
  ⟨h.enters, fun f w hR hat => (h.run f w hR hat).mono fun _ _ ⟨v, post, h1, h2, h3, h4⟩ => ⟨v, post, h1, h2, let ⟨x, _, hx⟩ := h2; k _ _ x h3 hx, h4⟩⟩
/-- What a slice reads, in the frame. -/
def Reads (f : HP) (A : Option Addr) (ys : List Value) : Prop := ∀ i v, ys[i]? = some v → ∃ b o, A = some ⟨b, o, none⟩ ∧ fcell f b (o + i) = some v
theorem Reads.frame {f f' b : HP} {A : Option Addr} {ys : List Value} (s : Split f' b f) (h : Reads f A ys) : Reads f' A ys := fun i v hi => by
  obtain ⟨b, o, h1, h2⟩ := h i v hi
  exact ⟨b, o, h1, frame_cell s h2⟩
theorem Reads.take {f : HP} {A : Option Addr} {ys : List Value} (h : Reads f A ys) (k : Nat) : Reads f A (ys.take k) := fun i v hi => by
  refine h i v ?_
  rw [List.getElem?_take] at hi
  split at hi
  · exact hi
  · cases hi
theorem Reads.nil (f : HP) (A : Option Addr) : Reads f A [] := fun i v h => by simp at h
/-- What is told is in the frame of another one: a slice. -/
theorem asn_reads {f f' b : HP} {nm : List (Nat × Plc)} {es : List Ent} {t : TypeId} {sz cap : Nat} {xs : List Value} {l : Plc} (n : Nat) (s : Split f' b f) (k : sat (es.map (entDen nm)) b) (hA : es[n]? = some (.asn (Vec l t sz cap xs))) :
    Reads f' (locAddr 0 l) xs := by
  obtain ⟨g, hg, hsub⟩ := frame_of (A := Vec l t sz cap xs) n s k (by simp [hA]; rfl)
  obtain ⟨_, hv⟩ := hg
  rcases hv with ⟨_, hx, _⟩ | ⟨b, o, pre, post, rfl, hp, ho, _⟩
  · subst hx; intro i v hv; simp at hv
  · intro i v hv
    refine ⟨b, o, rfl, ?_⟩
    have hb : g b = some (.cells (pre ++ xs ++ post).toArray t (0, 0)) := by rw [hp]; simp [one]
    have hf := hsub _ _ hb
    have hi := (List.getElem?_eq_some_iff.1 hv).1
    unfold fcell
    rw [hf]
    simp only [List.getElem?_toArray, List.append_assoc]
    rw [List.getElem?_append_right (by omega), ho, show o + i - o = i by omega, List.getElem?_append_left hi]
    exact hv
/-- A call that leaves what it looks at. -/
theorem useA {P : Program} {f : HP} {g : FuncId} {args : List SV} {K : SV → St → Prop} {s : St} {A : Asn} {v : Value} {vals : List Value} (pfx sfx : List Ent) (sv : SV)
    (spec : Does P g vals.toArray (fun _ => True) [A] (fun u p => u = v ∧ p = [A])) (hhp : s.hp = pfx ++ .asn A :: sfx) (hv : denL s.nm args = some vals) (hd : den s.nm sv = some v)
    (h : K sv ⟨s.n, s.env, s.nm, s.next, s.hp⟩) : CallOb P f g args K s := by
  refine call_asn pfx sfx spec hhp hv (fun _ _ _ _ => trivial) ?_
  rintro u post ⟨rfl, rfl⟩
  refine ⟨sv, s.nm, s.next, NmExt.refl _, hd, s.hp, fun h k => ?_, h⟩
  rw [hhp]
  simp only [List.map_append, List.map_cons]
  refine sat_perm ?_ k
  simp only [List.map_append]
  exact (List.perm_middle (a := A) (l₁ := pfx.map (entDen s.nm)) (l₂ := sfx.map (entDen s.nm))).symm
/-- A call of a function that needs nothing of the heap. -/
theorem useP {P : Program} {f : HP} {g : FuncId} {args : List SV} {K : SV → St → Prop} {s : St} {v : Value} {vals : List Value} (sv : SV)
    (spec : Does P g vals.toArray (fun _ => True) [] (fun u p => u = v ∧ p = [])) (hv : denL s.nm args = some vals) (hd : den s.nm sv = some v)
    (h : K sv ⟨s.n, s.env, s.nm, s.next, s.hp⟩) : CallOb P f g args K s := by
  refine call_pure spec hv (fun _ _ => trivial) ?_
  rintro u post ⟨rfl, rfl⟩
  exact ⟨sv, hd, h⟩
/-- .. that only reads. -/
theorem useR {P : Program} {f : HP} {g : FuncId} {args : List SV} {K : SV → St → Prop} {s : St} {v : Value} {vals : List Value} {R : HP → Prop} (sv : SV)
    (spec : Does P g vals.toArray R [] (fun u p => u = v ∧ p = [])) (hv : denL s.nm args = some vals) (hR : ∀ f' b, Split f' b f → sat (s.hp.map (entDen s.nm)) b → R f') (hd : den s.nm sv = some v)
    (h : K sv ⟨s.n, s.env, s.nm, s.next, s.hp⟩) : CallOb P f g args K s := by
  refine .mk s vals hv R [] _ spec s.hp (fun h k => k) hR ?_
  rintro u post ⟨rfl, rfl⟩
  exact ⟨sv, _, h, rfl, rfl, NmExt.refl _, hd, fun h k => k⟩
theorem w64 {x : Int} (h : -9223372036854775808 ≤ x) (k : x ≤ 9223372036854775807) : IntKind.i64.wrap x = x := by rw [IntKind.wrap_i64]; omega
theorem w8 {x : Int} (h : 0 ≤ x) (k : x ≤ 255) : IntKind.u8.wrap x = x := by rw [IntKind.wrap_u8]; omega
theorem w16 {x : Int} (h : 0 ≤ x) (k : x ≤ 65535) : IntKind.u16.wrap x = x := by rw [IntKind.wrap_u16]; omega
theorem w32 {x : Int} (h : 0 ≤ x) (k : x ≤ 4294967295) : IntKind.u32.wrap x = x := by rw [IntKind.wrap_u32]; omega
theorem wu64 {x : Int} (h : 0 ≤ x) (k : x ≤ 18446744073709551615) : IntKind.u64.wrap x = x := by rw [IntKind.wrap_u64]; omega

/-! ### What arguments read, as lists -/
theorem list_of {α : Type} {φ : Nat → α → Prop} : ∀ n, (∀ i, i < n → ∃ x, φ i x) → ∃ L : List α, L.length = n ∧ ∀ i x, L[i]? = some x → φ i x
  | 0, _ => ⟨[], rfl, fun i x h => by simp at h⟩
  | n + 1, h => by
    obtain ⟨L, h1, h2⟩ := list_of n (fun i hi => h i (by omega))
    obtain ⟨x, hx⟩ := h n (by omega)
    refine ⟨L ++ [x], by simp [h1], fun i y hy => ?_⟩
    by_cases hi : i < n
    · exact h2 i y (by rw [List.getElem?_append_left (by omega)] at hy; exact hy)
    · have hl := (List.getElem?_eq_some_iff.1 hy).1
      simp [h1] at hl
      have : i = n := by omega
      subst this
      rw [List.getElem?_append_right (by omega), h1] at hy
      simp at hy; subst hy; exact hx
theorem Rd.sl {P : Program} {f : HP} {n : Nat} {t e : TypeId} {v : Value} (hu : P.underlying t = some (.slice e)) (h : Rd P f (n + 1) t [v]) : ∃ A len cap, v = .slice A len cap := by
  unfold Rd at h; rw [hu] at h
  rcases h with h | ⟨A', l, c, h1, _⟩
  · simp at h; exact ⟨_, _, _, h⟩
  · simp at h1; exact ⟨_, _, _, h1⟩
theorem Rd.bytes {P : Program} {f : HP} {n : Nat} {t e : TypeId} {A : Option Addr} {len cap : Nat} (hu : P.underlying t = some (.slice e)) (he : P.underlying e = some (.int .u8)) (hc : P.cellsOf e = 1) (h : Rd P f (n + 2) t [.slice A len cap]) :
    ∃ s : ByteArray, (bytesV s).length = len ∧ Reads f A (bytesV s) ∧ len ≤ cap ∧ cap ≤ maxLen := by
  obtain ⟨_, h1, h2, h3⟩ := Rd.slice hu hc (by omega) h
  obtain ⟨L, h4, h5⟩ := list_of (φ := fun i (x : UInt8) => ∃ b o, A = some ⟨b, o, none⟩ ∧ fcell f b (o + i) = some (.int .u8 x.toNat)) len (fun i hi => by
    obtain ⟨b, o, cs, hA, hl, hcs, hr⟩ := h3 i hi
    match cs, hl with
    | [x], _ =>
    obtain ⟨m, e1, e2⟩ := Rd.int he hr
    simp only [List.cons.injEq, and_true] at e1
    subst e1
    have hm : 0 ≤ m ∧ m ≤ 255 := by simp [Lit.wf] at e2; exact e2
    refine ⟨UInt8.ofNat m.toNat, b, o, hA, ?_⟩
    have := hcs 0 _ rfl
    rw [Nat.mul_one, Nat.add_zero] at this
    rw [this]
    have : (UInt8.ofNat m.toNat).toNat = m.toNat := by
      simp only [UInt8.toNat_ofNat']; omega
    rw [this]
    have : ((m.toNat : Nat) : Int) = m := by omega
    rw [this])
  refine ⟨⟨L.toArray⟩, by simp [bytesV, h4], fun i v hv => ?_, h1, h2⟩
  simp only [bytesV, List.getElem?_map] at hv
  cases hx : L[i]? with
  | none => simp [hx] at hv
  | some x =>
    simp [hx] at hv
    subst hv
    exact h5 i x hx
end Sx
