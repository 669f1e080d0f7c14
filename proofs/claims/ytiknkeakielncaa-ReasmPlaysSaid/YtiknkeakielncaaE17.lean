/- What a law's arguments read, and how much room they take. Conditions: none. -/
import Derived.Test.YtiknkeakielncaaE16
import Derived.SizedLaws
namespace Sx
open Go

/-- What cells of a type read, where they came in: with the reach of the argument's sizes. -/
def RdS (P : Program) (f : HP) : Nat → TypeId → List Value → Prop
  | 0, _, _ => True
  | n + 1, t, cs => match P.underlying t with
    | some .bool => ∃ b, cs = [.bool b]
    | some (.int k) => ∃ m, cs = [.int k m] ∧ (Lit.int k m).wf = true
    | some .string => ∃ s, cs = [.string s] ∧ s.size ≤ reachBytes
    | some (.slice e) => cs = [.slice none 0 0] ∨ ∃ A len cap, cs = [.slice (some A) len cap] ∧ len ≤ cap ∧ cap * P.bytesOf e ≤ reachBytes ∧
        ∀ i, i < cap → ∃ cs', cs'.length = P.cellsOf e ∧ FLies f (A.add (i * P.cellsOf e)) cs' ∧ RdS P f n e cs'
    | some (.struct fs) => cs.length = P.cellsOf t ∧ ∀ fd ∈ fs.toList, RdS P f n fd.type ((cs.drop fd.offset).take (P.cellsOf fd.type))
    | some (.array m e) => cs.length = P.cellsOf t ∧ ∀ i, i < m → RdS P f n e ((cs.drop (i * P.cellsOf e)).take (P.cellsOf e))
    | _ => True
theorem mapM_at {α β : Type} {g : α → Option β} : ∀ {l : List α} {r : List β}, l.mapM g = some r → ∀ (i : Nat) x, l[i]? = some x → ∃ y, r[i]? = some y ∧ g x = some y
  | [], _, _, i, x, hx => by simp at hx
  | a :: l, r, h, i, x, hx => by
    rw [List.mapM_cons] at h
    cases e : g a with
    | none => rw [e] at h; simp at h
    | some y =>
      rw [e] at h
      cases e' : l.mapM g with
      | none => simp [e'] at h
      | some r' =>
        simp [e'] at h
        subst h
        cases i with
        | zero => simp at hx; subst hx; exact ⟨y, by simp, e⟩
        | succ i => simpa using mapM_at e' i x (by simpa using hx)
theorem weights_mem_all {H : Type} {P : Program} {e : TypeId} : ∀ {ds : List (DataW H)} {d : DataW H}, d ∈ ds → ∀ n ∈ d.weights P e, n ∈ DataW.weightsAll P e ds
  | x :: ds, d, hd, n, hn => by
    simp only [DataW.weightsAll, List.mem_append]
    rcases List.mem_cons.1 hd with rfl | hd
    · exact .inl hn
    · exact .inr (weights_mem_all hd n hn)
theorem RdS.of {H : Type} {enc : TypeId × Value → H} {P : Program} {w : World} {base : Nat} {held : Bool} : ∀ (n m : Nat) {t : TypeId} {cs : List Value} {x : DataW H × List MemPlace},
    DataW.trod enc P w base (fun _ => true) held m t cs = some x → (∀ k ∈ x.1.weights P t, k ≤ reachBytes) → RdS P (hpOf w) n t cs
  | _, 0, _, _, _, h, _ => by simp [DataW.trod] at h
  | 0, m + 1, _, _, _, h, _ => trivial
  | n + 1, m + 1, t, cs, x, h, hw => by
    have h' := h
    rw [DataW.trod_step] at h
    unfold DataW.trodStep at h
    unfold RdS
    cases hu : P.underlying t with
    | none => trivial
    | some d =>
      cases d <;> try trivial
      case bool =>
        simp only [hu] at h ⊢
        split at h <;> simp_all
      case int k =>
        simp only [hu] at h ⊢
        split at h <;> simp_all
      case string =>
        simp only [hu] at h ⊢
        split at h <;> try (simp_all; done)
        rename_i s _ _ _
        simp at h
        obtain ⟨h1, h2⟩ := h
        subst h2
        exact ⟨_, rfl, hw _ (by simp [DataW.weights])⟩
      case slice e =>
        simp only
        rcases Deep.open_slice hu h' with ⟨h1, _⟩ | ⟨A, len, cap, mm, k, D, Pl, h1, _, h2, h3, h4, h5, h6⟩
        · exact .inl h1
        · simp at h4
          subst h4
          refine .inr ⟨A, len, mm, h1, h2, ?_, fun i hi => ?_⟩
          · rw [h5] at hw
            have := hw ((len + (mm - len)) * P.bytesOf e) (by simp [DataW.weights, hu])
            rw [show len + (mm - len) = mm by omega] at this
            exact this
          obtain ⟨cs', h7, h8⟩ := h6 i (by omega)
          obtain ⟨h9, h10⟩ := FLies.of h7
          refine ⟨cs', h9, h10, RdS.of n k h8 (fun q hq => hw q ?_)⟩
          rw [h5]
          simp only [DataW.weights, hu, List.mem_cons, List.mem_append]
          right
          by_cases hil : i < len
          · exact .inl (weights_mem_all (d := D i) (List.mem_map.2 ⟨i, by simpa using hil, rfl⟩) q hq)
          · exact .inr (weights_mem_all (d := D i) (List.mem_map.2 ⟨i - len, by simp; omega, by rw [show len + (i - len) = i by omega]⟩) q hq)
      case struct fs =>
        simp only [hu] at h ⊢
        split at h <;> try (simp at h; done)
        rename_i hl
        refine ⟨hl, fun fd hf => ?_⟩
        cases e : List.mapM (fun f : Field => DataW.trod enc P w base (fun _ => true) held m f.type (List.take (P.cellsOf f.type) (List.drop f.offset cs))) fs.toList with
        | none => rw [e] at h; simp at h
        | some r =>
          rw [e] at h
          simp at h
          obtain ⟨j, hj, hje⟩ := List.getElem_of_mem hf
          have hj' : fs.toList[j]? = some fd := by rw [List.getElem?_eq_getElem hj, hje]
          obtain ⟨y, hy1, hy⟩ := mapM_at e j fd hj'
          refine RdS.of n m hy (fun q hq => hw q ?_)
          rw [← h]
          simp only [DataW.weights, hu]
          exact DataW.weights_mem_each (j := j) (d := y.1) (by rw [List.getElem?_map, hj']; rfl) (by rw [List.getElem?_map, hy1]; rfl) q hq
      case array mm el =>
        simp only [hu] at h ⊢
        split at h <;> try (simp at h; done)
        rename_i hl
        refine ⟨hl, fun i hi => ?_⟩
        cases e : List.mapM (fun i => DataW.trod enc P w base (fun _ => true) held m el (List.take (P.cellsOf el) (List.drop (i * P.cellsOf el) cs))) (List.range mm) with
        | none => rw [e] at h; simp at h
        | some r =>
          rw [e] at h
          simp at h
          obtain ⟨y, hy1, hy⟩ := mapM_at e i i (by simp [hi])
          refine RdS.of n m hy (fun q hq => hw q ?_)
          rw [← h]
          simp only [DataW.weights, hu]
          exact weights_mem_all (d := y.1) (List.mem_map.2 ⟨y, List.mem_of_getElem? hy1, rfl⟩) q hq
theorem RdS.arg {H : Type} {enc : TypeId × Value → H} {P : Program} {w : World} {base : Nat} {held : Bool} {t : TypeId} {v : Value} {d : DataW H} {ps : List MemPlace} {ts : List TypeId} {ds : List (DataW H)}
    (h : DataW.Trod enc P w base (fun _ => true) held t v d ps) (hsz : (DataW.weightsEach P ts ds).all (· ≤ reachBytes) = true) (j : Nat) (ht : ts[j]? = some t) (hd : ds[j]? = some d) (n : Nat) : RdS P (hpOf w) n t v.cells.toList := by
  obtain ⟨m, hm⟩ := h
  refine RdS.of n m hm (fun q hq => ?_)
  simpa using List.all_eq_true.1 hsz q (DataW.weights_mem_each ht hd q hq)

theorem RdS.int {P : Program} {f : HP} {n : Nat} {t : TypeId} {k : IntKind} {cs : List Value} (hu : P.underlying t = some (.int k)) (h : RdS P f (n + 1) t cs) : ∃ m, cs = [.int k m] ∧ (Lit.int k m).wf = true := by
  unfold RdS at h; rw [hu] at h; exact h
theorem RdS.bool {P : Program} {f : HP} {n : Nat} {t : TypeId} {cs : List Value} (hu : P.underlying t = some .bool) (h : RdS P f (n + 1) t cs) : ∃ m, cs = [.bool m] := by
  unfold RdS at h; rw [hu] at h; exact h
theorem RdS.str {P : Program} {f : HP} {n : Nat} {t : TypeId} {cs : List Value} (hu : P.underlying t = some .string) (h : RdS P f (n + 1) t cs) : ∃ s, cs = [.string s] ∧ s.size ≤ reachBytes := by
  unfold RdS at h; rw [hu] at h; exact h
theorem RdS.field {P : Program} {f : HP} {n : Nat} {t : TypeId} {fs : Array Field} {cs ds : List Value} (hu : P.underlying t = some (.struct fs)) (h : RdS P f (n + 1) t cs) (k : Nat) {fd : Field} (hk : fs.toList[k]? = some fd)
    (hd : (cs.drop fd.offset).take (P.cellsOf fd.type) = ds) : RdS P f n fd.type ds := by
  unfold RdS at h; rw [hu] at h
  rw [← hd]
  exact h.2 fd (List.mem_of_getElem? hk)
theorem RdS.cells {P : Program} {f : HP} {n : Nat} {t : TypeId} {fs : Array Field} {cs : List Value} (hu : P.underlying t = some (.struct fs)) (h : RdS P f (n + 1) t cs) : cs.length = P.cellsOf t := by
  unfold RdS at h; rw [hu] at h; exact h.1
theorem RdS.elem {P : Program} {f : HP} {n : Nat} {t e : TypeId} {m : Nat} {cs ds : List Value} (hu : P.underlying t = some (.array m e)) (h : RdS P f (n + 1) t cs) (k : Nat) (hk : k < m)
    (hd : (cs.drop (k * P.cellsOf e)).take (P.cellsOf e) = ds) : RdS P f n e ds := by
  unfold RdS at h; rw [hu] at h
  rw [← hd]
  exact h.2 k hk
theorem RdS.sl {P : Program} {f : HP} {n : Nat} {t e : TypeId} {v : Value} (hu : P.underlying t = some (.slice e)) (h : RdS P f (n + 1) t [v]) : ∃ A len cap, v = .slice A len cap := by
  unfold RdS at h; rw [hu] at h
  rcases h with h | ⟨A', l, c, h1, _⟩
  · simp at h; exact ⟨_, _, _, h⟩
  · simp at h1; exact ⟨_, _, _, h1⟩
theorem RdS.slice {P : Program} {f : HP} {n : Nat} {t e : TypeId} {sz : Nat} {A : Option Addr} {len cap : Nat} (hu : P.underlying t = some (.slice e)) (hs : P.cellsOf e = sz) (h0 : 0 < sz) (hb : 0 < P.bytesOf e) (h : RdS P f (n + 1) t [.slice A len cap]) :
    (A = none ∧ len = 0 ∧ cap = 0 ∨ A.isSome = true) ∧ len ≤ cap ∧ cap ≤ reachBytes ∧
    ∀ i, i < len → ∃ b o cs, A = some ⟨b, o, none⟩ ∧ cs.length = sz ∧ (∀ j v, cs[j]? = some v → fcell f b (o + i * sz + j) = some v) ∧ RdS P f n e cs := by
  unfold RdS at h; rw [hu] at h
  rcases h with h | ⟨A', l, c, h1, h2, h3, h⟩
  · simp only [List.cons.injEq, Value.slice.injEq, and_true] at h
    obtain ⟨rfl, rfl, rfl⟩ := h
    exact ⟨.inl ⟨rfl, rfl, rfl⟩, by omega, by omega, fun i hi => by omega⟩
  · simp only [List.cons.injEq, Value.slice.injEq, and_true] at h1
    obtain ⟨rfl, rfl, rfl⟩ := h1
    refine ⟨.inr rfl, h2, ?_, fun i hi => ?_⟩
    · exact Nat.le_trans (Nat.le_mul_of_pos_right _ hb) h3
    obtain ⟨cs, h4, h5, h6⟩ := h 0 (by omega)
    obtain ⟨b, o, sp⟩ := A'
    have hsp : sp = none := by
      have := (h5 0 (cs[0]'(by omega)) (by simp)).1
      simpa [Addr.add] using this
    subst hsp
    obtain ⟨cs, h4, h5, h6⟩ := h i (by omega)
    refine ⟨b, o, cs, rfl, by omega, fun j v hj => ?_, h6⟩
    have := (h5 j v hj).2
    rw [addr_add, hs] at this
    exact this
theorem RdS.bytes {P : Program} {f : HP} {n : Nat} {t e : TypeId} {A : Option Addr} {len cap : Nat} (hu : P.underlying t = some (.slice e)) (he : P.underlying e = some (.int .u8)) (hc : P.cellsOf e = 1) (hb : 0 < P.bytesOf e) (h : RdS P f (n + 2) t [.slice A len cap]) :
    ∃ s : ByteArray, (bytesV s).length = len ∧ Reads f A (bytesV s) ∧ len ≤ cap ∧ cap ≤ reachBytes := by
  obtain ⟨_, h1, h2, h3⟩ := RdS.slice hu hc (by omega) hb h
  obtain ⟨L, h4, h5⟩ := list_of (φ := fun i (x : UInt8) => ∃ b o, A = some ⟨b, o, none⟩ ∧ fcell f b (o + i) = some (.int .u8 x.toNat)) len (fun i hi => by
    obtain ⟨b, o, cs, hA, hl, hcs, hr⟩ := h3 i hi
    match cs, hl with
    | [x], _ =>
    obtain ⟨m, e1, e2⟩ := RdS.int he hr
    simp only [List.cons.injEq, and_true] at e1
    subst e1
    have hm : 0 ≤ m ∧ m ≤ 255 := by simp [Lit.wf] at e2; exact e2
    refine ⟨UInt8.ofNat m.toNat, b, o, hA, ?_⟩
    have := hcs 0 _ rfl
    rw [Nat.mul_one, Nat.add_zero] at this
    rw [this]
    have : (UInt8.ofNat m.toNat).toNat = m.toNat := by
      simp only [UInt8.toNat_ofNat']; omega
    rw [this]
    have : ((m.toNat : Nat) : Int) = m := by omega
    rw [this])
  refine ⟨⟨L.toArray⟩, by simp [bytesV, h4], fun i v hv => ?_, h1, h2⟩
  simp only [bytesV, List.getElem?_map] at hv
  cases hx : L[i]? with
  | none => simp [hx] at hv
  | some x =>
    simp [hx] at hv
    subst hv
    exact h5 i x hx
/-- A list out of what a slice reads. -/
theorem RdS.list {α : Type} {P : Program} {f : HP} {n : Nat} {t e : TypeId} {sz : Nat} {A : Option Addr} {len cap : Nat} {φ : HP → List Value → α → Prop} (hu : P.underlying t = some (.slice e)) (hs : P.cellsOf e = sz) (h0 : 0 < sz) (hb : 0 < P.bytesOf e) (h : RdS P f (n + 1) t [.slice A len cap])
    (one : ∀ cs, cs.length = sz → RdS P f n e cs → ∃ x, φ f cs x) :
    ∃ L : List α, L.length = len ∧ len ≤ cap ∧ cap ≤ reachBytes ∧ ∀ i x, L[i]? = some x → ∃ b o cs, A = some ⟨b, o, none⟩ ∧ (∀ j v, cs[j]? = some v → fcell f b (o + i * sz + j) = some v) ∧ φ f cs x := by
  obtain ⟨_, h1, h2, h3⟩ := RdS.slice hu hs h0 hb h
  obtain ⟨L, h4, h5⟩ := list_of (φ := fun i (x : α) => ∃ b o cs, A = some ⟨b, o, none⟩ ∧ (∀ j v, cs[j]? = some v → fcell f b (o + i * sz + j) = some v) ∧ φ f cs x) len (fun i hi => by
    obtain ⟨b, o, cs, hA, hl, hcs, hr⟩ := h3 i hi
    obtain ⟨x, hx⟩ := one cs hl hr
    exact ⟨x, b, o, cs, hA, hcs, hx⟩)
  exact ⟨L, h4, h1, h2, h5⟩
end Sx
