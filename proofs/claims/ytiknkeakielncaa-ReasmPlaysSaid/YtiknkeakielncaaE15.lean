/- What a law's arguments read, as facts of the frame; from what a function does to what its row needs. Conditions: none. -/
import Derived.Test.YtiknkeakielncaaE14
import Derived.ChangeReads
import Derived.Deep.Slices
import Derived.Below
namespace Sx
open Go

/-- The frame holds these cells from a place on. -/
def FLies (f : HP) (A : Addr) (cs : List Value) : Prop := ∀ j v, cs[j]? = some v → A.spot = none ∧ fcell f A.block (A.off + j) = some v
/-- What cells of a type read, where they came in. -/
def Rd (P : Program) (f : HP) : Nat → TypeId → List Value → Prop
  | 0, _, _ => True
  | n + 1, t, cs => match P.underlying t with
    | some .bool => ∃ b, cs = [.bool b]
    | some (.int k) => ∃ m, cs = [.int k m] ∧ (Lit.int k m).wf = true
    | some .string => ∃ s, cs = [.string s] ∧ s.size ≤ maxLen
    | some (.slice e) => cs = [.slice none 0 0] ∨ ∃ A len cap, cs = [.slice (some A) len cap] ∧ len ≤ cap ∧ cap ≤ maxLen ∧
        ∀ i, i < cap → ∃ cs', cs'.length = P.cellsOf e ∧ FLies f (A.add (i * P.cellsOf e)) cs' ∧ Rd P f n e cs'
    | some (.struct fs) => cs.length = P.cellsOf t ∧ ∀ fd ∈ fs.toList, Rd P f n fd.type ((cs.drop fd.offset).take (P.cellsOf fd.type))
    | some (.array m e) => cs.length = P.cellsOf t ∧ ∀ i, i < m → Rd P f n e ((cs.drop (i * P.cellsOf e)).take (P.cellsOf e))
    | _ => True
theorem mapM_all {α β : Type} {g : α → Option β} : ∀ {l : List α} {r : List β}, l.mapM g = some r → ∀ x ∈ l, ∃ y, g x = some y
  | [], _, _, x, hx => by simp at hx
  | a :: l, r, h, x, hx => by
    rw [List.mapM_cons] at h
    cases e : g a with
    | none => rw [e] at h; simp at h
    | some y =>
      rw [e] at h
      rcases List.mem_cons.1 hx with rfl | hx
      · exact ⟨y, e⟩
      · cases e' : l.mapM g with
        | none => simp [e'] at h
        | some r' => exact mapM_all e' x hx
theorem FLies.mono {f f' : HP} (h : ∀ b o, f b = some o → f' b = some o) {A : Addr} {cs : List Value} (k : FLies f A cs) : FLies f' A cs := fun j v hj => by
  obtain ⟨h1, h2⟩ := k j v hj
  refine ⟨h1, ?_⟩
  unfold fcell at h2 ⊢
  split at h2 <;> try (cases h2; done)
  rename_i c t fr hb
  rw [h _ _ hb]; exact h2
theorem Rd.mono {P : Program} {f f' : HP} (h : ∀ b o, f b = some o → f' b = some o) : ∀ (n : Nat) {t : TypeId} {cs : List Value}, Rd P f n t cs → Rd P f' n t cs
  | 0, _, _, k => trivial
  | n + 1, t, cs, k => by
    unfold Rd at k ⊢
    split at k
    · exact k
    · exact k
    · exact k
    · rcases k with k | ⟨A, len, cap, h1, h2, h3, k⟩
      · exact .inl k
      · exact .inr ⟨A, len, cap, h1, h2, h3, fun i hi => let ⟨cs', a, b, c⟩ := k i hi; ⟨cs', a, b.mono h, Rd.mono h n c⟩⟩
    · exact ⟨k.1, fun fd hf => Rd.mono h n (k.2 fd hf)⟩
    · exact ⟨k.1, fun i hi => Rd.mono h n (k.2 i hi)⟩
    · trivial
theorem FLies.of {w : World} {base n : Nat} {A : Addr} {cs : List Value} (h : w.cells? base A n = some cs) : cs.length = n ∧ FLies (hpOf w) A cs := by
  obtain ⟨_, h1, h2⟩ := World.cells?_some h
  refine ⟨h1, fun j v hj => ?_⟩
  have hl := (List.getElem?_eq_some_iff.1 hj).1
  have h3 := h2 j (by omega)
  rw [hj] at h3
  obtain ⟨b, o, sp⟩ := A
  have key : sp = none ∧ w.cell? ⟨b, o + j, none⟩ = some v := by
    by_cases hj0 : j = 0
    · subst hj0
      have e : (⟨b, o, sp⟩ : Addr).add 0 = ⟨b, o, sp⟩ := by simp [Addr.add]
      rw [e] at h3
      have h3' := h3
      unfold World.cell? at h3
      cases hb : w.heap[b]? with
      | none => simp [hb] at h3
      | some ob =>
        cases ob <;> simp [hb] at h3
        cases sp with
        | none => exact ⟨rfl, h3'⟩
        | some x => simp at h3
    · have h0 := h2 0 (by omega)
      have e : (⟨b, o, sp⟩ : Addr).add 0 = ⟨b, o, sp⟩ := by simp [Addr.add]
      rw [e] at h0
      have hc : ∃ u, cs[0]? = some u := ⟨cs[0]'(by omega), by simp⟩
      obtain ⟨u, hu⟩ := hc
      rw [hu] at h0
      have e' : (⟨b, o, sp⟩ : Addr).add j = ⟨b, o + j, none⟩ := by simp [Addr.add, hj0]
      rw [e'] at h3
      refine ⟨?_, h3⟩
      unfold World.cell? at h0
      cases hb : w.heap[b]? with
      | none => simp [hb] at h0
      | some ob =>
        cases ob <;> simp [hb] at h0
        cases sp with
        | none => rfl
        | some x => simp at h0
  refine ⟨key.1, ?_⟩
  have := key.2
  unfold World.cell? at this
  simp only [fcell, hpOf]
  cases hb : w.heap[b]? with
  | none => simp [hb] at this
  | some ob =>
    cases ob <;> simp [hb] at this ⊢
    exact this
theorem Rd.of {H : Type} {enc : TypeId × Value → H} {P : Program} {w : World} {base : Nat} {held : Bool} : ∀ (n m : Nat) {t : TypeId} {cs : List Value} {x : DataW H × List MemPlace},
    DataW.trod enc P w base (fun _ => true) held m t cs = some x → Rd P (hpOf w) n t cs
  | _, 0, _, _, _, h => by simp [DataW.trod] at h
  | 0, m + 1, _, _, _, h => trivial
  | n + 1, m + 1, t, cs, x, h => by
    have h' := h
    rw [DataW.trod_step] at h
    unfold DataW.trodStep at h
    unfold Rd
    cases hu : P.underlying t with
    | none => trivial
    | some d =>
      cases d <;> try trivial
      case bool =>
        simp only [hu] at h ⊢
        split at h <;> simp_all
      case int k =>
        simp only [hu] at h ⊢
        split at h <;> simp_all
      case string =>
        simp only [hu] at h ⊢
        split at h <;> simp_all
      case slice e =>
        simp only
        rcases Deep.open_slice hu h' with ⟨h1, _⟩ | ⟨A, len, cap, mm, k, D, Pl, h1, _, h2, h3, h4, _, h6⟩
        · exact .inl h1
        · refine .inr ⟨A, len, cap, h1, h2, h3, fun i hi => ?_⟩
          simp at h4
          obtain ⟨cs', h7, h8⟩ := h6 i (by omega)
          obtain ⟨h9, h10⟩ := FLies.of h7
          exact ⟨cs', h9, h10, Rd.of n k h8⟩
      case struct fs =>
        simp only [hu] at h ⊢
        split at h <;> try (simp at h; done)
        rename_i hl
        refine ⟨hl, fun fd hf => ?_⟩
        cases e : List.mapM (fun f : Field => DataW.trod enc P w base (fun _ => true) held m f.type (List.take (P.cellsOf f.type) (List.drop f.offset cs))) fs.toList with
        | none => rw [e] at h; simp at h
        | some r =>
          obtain ⟨y, hy⟩ := mapM_all e fd hf
          exact Rd.of n m hy
      case array mm el =>
        simp only [hu] at h ⊢
        split at h <;> try (simp at h; done)
        rename_i hl
        refine ⟨hl, fun i hi => ?_⟩
        cases e : List.mapM (fun i => DataW.trod enc P w base (fun _ => true) held m el (List.take (P.cellsOf el) (List.drop (i * P.cellsOf el) cs))) (List.range mm) with
        | none => rw [e] at h; simp at h
        | some r =>
          obtain ⟨y, hy⟩ := mapM_all e i (by simpa using hi)
          exact Rd.of n m hy
theorem Rd.arg {H : Type} {enc : TypeId × Value → H} {P : Program} {w : World} {base : Nat} {held : Bool} {t : TypeId} {v : Value} {d : DataW H} {ps : List MemPlace} (h : DataW.Trod enc P w base (fun _ => true) held t v d ps) (n : Nat) : Rd P (hpOf w) n t v.cells.toList := by
  obtain ⟨m, hm⟩ := h
  exact Rd.of n m hm

theorem Rd.int {P : Program} {f : HP} {n : Nat} {t : TypeId} {k : IntKind} {cs : List Value} (hu : P.underlying t = some (.int k)) (h : Rd P f (n + 1) t cs) : ∃ m, cs = [.int k m] ∧ (Lit.int k m).wf = true := by
  unfold Rd at h; rw [hu] at h; exact h
theorem Rd.bool {P : Program} {f : HP} {n : Nat} {t : TypeId} {cs : List Value} (hu : P.underlying t = some .bool) (h : Rd P f (n + 1) t cs) : ∃ m, cs = [.bool m] := by
  unfold Rd at h; rw [hu] at h; exact h
theorem Rd.str {P : Program} {f : HP} {n : Nat} {t : TypeId} {cs : List Value} (hu : P.underlying t = some .string) (h : Rd P f (n + 1) t cs) : ∃ s, cs = [.string s] ∧ s.size ≤ maxLen := by
  unfold Rd at h; rw [hu] at h; exact h
theorem Rd.field {P : Program} {f : HP} {n : Nat} {t : TypeId} {fs : Array Field} {cs ds : List Value} (hu : P.underlying t = some (.struct fs)) (h : Rd P f (n + 1) t cs) (k : Nat) {fd : Field} (hk : fs.toList[k]? = some fd)
    (hd : (cs.drop fd.offset).take (P.cellsOf fd.type) = ds) : Rd P f n fd.type ds := by
  unfold Rd at h; rw [hu] at h
  rw [← hd]
  exact h.2 fd (List.mem_of_getElem? hk)
theorem Rd.cells {P : Program} {f : HP} {n : Nat} {t : TypeId} {fs : Array Field} {cs : List Value} (hu : P.underlying t = some (.struct fs)) (h : Rd P f (n + 1) t cs) : cs.length = P.cellsOf t := by
  unfold Rd at h; rw [hu] at h; exact h.1
theorem Rd.elem {P : Program} {f : HP} {n : Nat} {t e : TypeId} {m : Nat} {cs ds : List Value} (hu : P.underlying t = some (.array m e)) (h : Rd P f (n + 1) t cs) (k : Nat) (hk : k < m)
    (hd : (cs.drop (k * P.cellsOf e)).take (P.cellsOf e) = ds) : Rd P f n e ds := by
  unfold Rd at h; rw [hu] at h
  rw [← hd]
  exact h.2 k hk
theorem Rd.slice {P : Program} {f : HP} {n : Nat} {t e : TypeId} {sz : Nat} {A : Option Addr} {len cap : Nat} (hu : P.underlying t = some (.slice e)) (hs : P.cellsOf e = sz) (h0 : 0 < sz) (h : Rd P f (n + 1) t [.slice A len cap]) :
    (A = none ∧ len = 0 ∧ cap = 0 ∨ A.isSome = true) ∧ len ≤ cap ∧ cap ≤ maxLen ∧
    ∀ i, i < len → ∃ b o cs, A = some ⟨b, o, none⟩ ∧ cs.length = sz ∧ (∀ j v, cs[j]? = some v → fcell f b (o + i * sz + j) = some v) ∧ Rd P f n e cs := by
  unfold Rd at h; rw [hu] at h
  rcases h with h | ⟨A', l, c, h1, h2, h3, h⟩
  · simp only [List.cons.injEq, Value.slice.injEq, and_true] at h
    obtain ⟨rfl, rfl, rfl⟩ := h
    exact ⟨.inl ⟨rfl, rfl, rfl⟩, by omega, by omega, fun i hi => by omega⟩
  · simp only [List.cons.injEq, Value.slice.injEq, and_true] at h1
    obtain ⟨rfl, rfl, rfl⟩ := h1
    refine ⟨.inr rfl, h2, h3, fun i hi => ?_⟩
    obtain ⟨cs, h4, h5, h6⟩ := h 0 (by omega)
    obtain ⟨b, o, sp⟩ := A'
    have hsp : sp = none := by
      have := (h5 0 (cs[0]'(by omega)) (by simp)).1
      simpa [Addr.add] using this
    subst hsp
    obtain ⟨cs, h4, h5, h6⟩ := h i (by omega)
    refine ⟨b, o, cs, rfl, by omega, fun j v hj => ?_, h6⟩
    have := (h5 j v hj).2
    rw [addr_add, hs] at this
    exact this

/-! ### From what a function does to its row -/
/-- What the frame shows of the arguments may be used first. -/
theorem Does.ofR {P : Program} {g : FuncId} {vals : Array Value} {R : HP → Prop} {pre : List Asn} {Q : Value → List Asn → Prop} (he : Enters P g) (h : ∀ f, R f → Does P g vals R pre Q) : Does P g vals R pre Q :=
  ⟨he, fun f w hR hat => (h f hR).run f w hR hat⟩
theorem law_calls {P : Program} {g : FuncId} {vals : Array Value} {R : HP → Prop} {W : World} (h : Does P g vals R [] (fun v p => v = .bool true ∧ p = [])) (hR : R (hpOf W)) :
    Calls P g vals W fun e W' => e = .returned (.bool true) ∧ RowKit.Below W.heap.size W W' :=
  (h.run (hpOf W) W hR (At.whole W)).mono fun _ _ ⟨v, post, h1, h2, ⟨h3, h4⟩, h5⟩ => by subst h3; subst h4; exact ⟨h1, h2.below h5⟩
end Sx
