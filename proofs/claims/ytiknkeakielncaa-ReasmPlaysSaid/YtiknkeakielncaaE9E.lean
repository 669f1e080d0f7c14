/- copy; append of so many zeros. Conditions: none. -/
import Derived.Test.YtiknkeakielncaaE9D
namespace Sx
open Go
set_option linter.unusedSimpArgs false

theorem SrcIs.firstN {P : Program} {w : World} {v : Value} {sz k n : Nat} {ys : List Value} (h : SrcIs w v sz k ys) (hn : n ≤ k) : (Builtin.firstCells sz n v).run P w = .ok (ys.take (n * sz)).toArray w := by
  obtain ⟨hl, h⟩ := h
  rcases h with ⟨s, rfl, rfl, rfl, rfl⟩ | ⟨c, rfl, rfl, rfl⟩ | ⟨a, c, rfl, hc⟩
  · simp only [Builtin.firstCells, Sem.run_pure, bytesV]
    congr 1
    apply Array.ext'
    simp [ByteArray.data_extract]
  · simp [Builtin.firstCells]
  · refine run_firstCells_some w sz n a k c (ys.take (n * sz)) ?_ (fun j u hj => hc j u ?_)
    · have : n * sz ≤ k * sz := Nat.mul_le_mul_right _ hn
      rw [List.length_take]; omega
    · rw [List.getElem?_take] at hj
      split at hj
      · exact hj
      · cases hj
/-- What is copied over; of a told slice just what is copied need be there. -/
def srcN (f : HP) (s : St) (sz : Nat) (y : SV) (dl : Nat) (K : Nat → List Value → Prop) : Prop :=
  match y with
  | .sl n lo k _ => pickD s.hp n fun e _ => match e with
    | .vec _ _ _ _ xs => Need (lo + min k dl * sz ≤ xs.length) (K k ((xs.drop lo).take (min k dl * sz)))
    | .blk _ _ _ => srcD f s sz y fun k ys => K k (ys.take (min k dl * sz))
    | _ => False
  | _ => srcD f s sz y fun k ys => K k (ys.take (min k dl * sz))
theorem srcN_runs {P : Program} {f : HP} {w0 : World} {s : St} {a : Act} {w : World} {sz dl : Nat} {y : SV} {v : Value} {K : Nat → List Value → Prop} (h : srcN f s sz y dl K) (r : Rel f w0 s a w) (hy : den s.nm y = some v) (h0 : 1 ≤ sz) :
    ∃ k ys, K k ys ∧ (Builtin.lenOf v).run P w = .ok k w ∧ (Builtin.firstCells sz (min k dl) v).run P w = .ok ys.toArray w ∧ ys.length = min k dl * sz := by
  have viaD : (srcD f s sz y fun k ys => K k (ys.take (min k dl * sz))) → ∃ k ys, K k ys ∧ (Builtin.lenOf v).run P w = .ok k w ∧ (Builtin.firstCells sz (min k dl) v).run P w = .ok ys.toArray w ∧ ys.length = min k dl * sz := fun h => by
    obtain ⟨k, ys, hk, hs⟩ := srcD_runs h r hy h0
    refine ⟨k, _, hk, hs.len w, hs.firstN (Nat.min_le_left _ _), ?_⟩
    have h1 := hs.1
    have h2 : min k dl * sz ≤ k * sz := Nat.mul_le_mul_right _ (Nat.min_le_left _ _)
    rw [List.length_take]; omega
  cases y with
  | sl n lo k cap =>
    simp only [srcN] at h
    obtain ⟨en, rest, hB, pm, hn⟩ := pickD_some h
    split at hB <;> try exact hB.elim
    · rename_i m t sz' capE xs
      have hat := r.heap.pick pm
      simp only [Ent.name, Option.some.injEq] at hn; subst hn
      obtain ⟨hb, hK⟩ := hB
      have hl : ((xs.drop lo).take (min k dl * sz)).length = min k dl * sz := by simp; omega
      rcases ent_vec hat with ⟨hpl, ⟨h1, h2, h3⟩ | ⟨b, o, pre, post, h1, h2, h3, h4, h5⟩⟩
      · subst h2
        simp only [den, h1, locAddr, Option.some.injEq] at hy
        have h9 : min k dl * sz = 0 := by simp at hb; omega
        refine ⟨k, _, hK, by rw [← hy]; rfl, ?_, hl⟩
        rw [← hy]
        simp [Builtin.firstCells]
      · simp only [den, h1, locAddr, Option.some.injEq] at hy
        refine ⟨k, _, hK, by rw [← hy]; rfl, ?_, hl⟩
        rw [← hy]
        refine run_firstCells_some w sz _ _ k cap _ hl (fun j u hj => ?_)
        have hv := vec_lies h4 h2
        have hsub := lies_src (hv.sub lo (min k dl * sz)) j u hj
        exact hsub
    · exact viaD hB
  | _ => exact viaD h
/-- What is copied to. -/
def copyToD (s : St) (sz : Nat) (x : SV) (k : Nat) (ys : List Value) (K : SV → St → Prop) : Prop :=
  match x with
  | .nils => K (.int .i64 0) s
  | .raw (.slice none 0 0) => K (.int .i64 0) s
  | .sl n lo len _ => match s with
    | ⟨n0, env, nm, next, hp⟩ => pickD hp n fun en rest => match en with
      | .vec m t sz' capE xs => bif Nat.beq sz' sz then Need (lo ≤ xs.length ∧ lo + len * sz ≤ capE * sz ∧ ∀ v ∈ ys, v.oneCell' = true)
          (K (.int .i64 ((min k len : Nat) : Int)) ⟨n0, env, nm, next, .vec m t sz' capE (xs.take lo ++ ys ++ xs.drop (lo + min k len * sz)) :: rest⟩) else False
      | _ => False
  | _ => False
def lenS : SV → Nat
  | .sl _ _ len _ => len
  | _ => 0
def copyD (P : Program) (f : HP) (s : St) (t : TypeId) (x y : SV) (K : SV → St → Prop) : Prop :=
  match P.underlying t with
  | some (.slice e) => match P.info? e with
    | some ⟨_, _, sz, _, _, _, _, _, _, _⟩ => bif Nat.ble 1 sz then srcN f s sz y (lenS x) fun k ys => copyToD s sz x k ys K else False
    | none => False
  | _ => False
theorem copy_runs {P : Program} {f : HP} {w0 : World} {s : St} {a : Act} {w : World} {t t2 ty : TypeId} {x y : SV} {u v : Value} {K : SV → St → Prop} (h : copyD P f s t x y K) (r : Rel f w0 s a w)
    (hx : den s.nm x = some u) (hy : den s.nm y = some v) : ∃ sv v' s' w', K sv s' ∧ Rel f w0 s' a w' ∧ den s'.nm sv = some v' ∧ (Builtin.copy_ #[t, t2] ty #[u, v]).run P w = .ok v' w' ∧ NmExt s.nm s'.nm := by
  unfold copyD at h
  split at h <;> try exact h.elim
  rename_i e ht
  split at h <;> try exact h.elim
  rename_i n1 n2 sz n3 n4 n5 n6 n7 n8 n9 hi
  obtain ⟨h0, hA⟩ := cond_some h
  clear h
  have h0 := Nat.le_of_ble_eq_true h0
  obtain ⟨k, ys, hh, hl, hf, hyl⟩ := srcN_runs (P := P) hA r hy h0
  clear hA
  have nilcase : ∀ c, lenS x = 0 → u = .slice none 0 c → (Builtin.copy_ #[t, t2] ty #[u, v]).run P w = .ok (.int .i64 0) w := fun c h9 hu => by
    subst hu
    rw [h9] at hf
    simp only [Nat.min_zero] at hf
    simp [Builtin.copy_, underlying_run ht, hl, Go.sizeOf, typeInfo, hi, hf, goInt]
  cases x with
  | nils =>
    simp only [den, Option.some.injEq] at hx
    exact ⟨_, _, s, w, hh, r, rfl, nilcase 0 rfl hx.symm, NmExt.refl _⟩
  | raw q =>
    unfold copyToD at hh
    split at hh <;> first | (exact hh.elim) | skip
    · rename_i e; cases e
    · rename_i e
      cases e
      simp only [den, Option.some.injEq] at hx
      exact ⟨_, _, s, w, hh, r, rfl, nilcase 0 rfl hx.symm, NmExt.refl _⟩
    · rename_i e; cases e
  | sl n lo len cap =>
    simp only [copyToD] at hh
    obtain ⟨n0, env, nm, next, hp⟩ := s
    obtain ⟨en, rest, hB, pm, hn⟩ := pickD_some hh
    have hat := r.heap.pick pm
    clear hh
    split at hB <;> try exact hB.elim
    rename_i m t' sz' capE xs
    simp only [Ent.name, Option.some.injEq] at hn; subst hn
    obtain ⟨hc, ⟨hb1, hb2, hb3⟩, hK⟩ := cond_some hB
    have e1 := Nat.eq_of_beq_eq_true hc
    subst e1
    have htl : ys.length = min k len * sz' := hyl
    have hml : min k len * sz' ≤ len * sz' := Nat.mul_le_mul_right _ (Nat.min_le_right _ _)
    have hone := hb3
    have hf : (Builtin.firstCells sz' (min k len) v).run P w = .ok ys.toArray w := hf
    rcases ent_vec hat with ⟨hpl, ⟨h1, h2, h3⟩ | ⟨b, o, pre, post, h1, h2, h3, h4, h5⟩⟩
    · subst h2; subst h3
      have hl0 : len = 0 := by
        rcases Nat.eq_zero_or_pos len with e | e
        · exact e
        · have : 1 ≤ len * sz' := Nat.mul_le_mul e h0
          omega
      subst hl0
      simp only [den, h1, locAddr, Option.some.injEq] at hx
      have hy0 : ys = [] := List.length_eq_zero_iff.1 (by rw [htl]; simp)
      subst hy0
      simp only [Nat.min_zero, Nat.zero_mul, List.take_zero, List.take_nil, List.drop_nil, List.append_nil] at hK
      refine ⟨_, .int .i64 0, _, w, hK, ⟨r.defers, r.size, r.env, hat, r.str⟩, rfl, nilcase cap rfl hx.symm, NmExt.refl _⟩
    · simp only [den, h1, locAddr, Option.some.injEq] at hx
      have hsp := putV_splice (A := pre) (B := xs) (C := post) (a := lo) (ys := ys) hb1 (by rw [htl]; omega)
      rw [htl, h2] at hsp
      obtain ⟨w', h6, h7⟩ := turned_many (P := P) ys w _ (o + lo) 0 h4 (by simp only [List.size_toArray, List.length_append]; rw [htl]; omega) hone
      refine ⟨_, .int .i64 ((min k len : Nat) : Int), _, w', hK, ⟨r.defers.str h7.str, r.size, r.env, ?_, r.str.trans h7.str⟩, rfl, ?_, NmExt.refl _⟩
      · obtain ⟨g, hg1, g2, g3, t2', hg2, hg3⟩ := h5.turned h7
        refine ⟨g, hg1, g2, g3, t2', ⟨_, h1, ?_, .inr ⟨b, o, pre, post.drop (lo + min k len * sz' - xs.length), rfl, ?_, h2, ?_⟩⟩, hg3⟩
        · intro q hq
          rcases List.mem_append.1 hq with hq | hq
          · rcases List.mem_append.1 hq with hq | hq
            · exact hpl q (List.mem_of_mem_take hq)
            · exact hone q hq
          · exact hpl q (List.mem_of_mem_drop hq)
        · rw [← hsp]; simpa using hg2
        · simp only [List.length_append, List.length_take, List.length_drop] at htl ⊢
          omega
      · rw [← hx]
        simp [Builtin.copy_, underlying_run ht, hl, Go.sizeOf, typeInfo, hi, hf, goInt, h6]
  | _ => exact hh.elim
/-! ### So many zeros appended -/
theorem zeroCells_rep (z : Array Value) : ∀ n, (Builtin.zeroCells z n).toList = (List.replicate n z.toList).flatten := by
  intro n
  induction n with
  | zero => simp [Builtin.zeroCells]
  | succ n ih =>
    rw [List.replicate_succ, List.flatten_cons, ← ih]
    apply List.ext_getElem?
    intro i
    rcases Nat.eq_zero_or_pos z.size with h0 | h0
    · have : z = #[] := Array.size_eq_zero_iff.1 h0
      subst this
      simp [Builtin.zeroCells]
    · by_cases hi : i < z.size
      · rw [List.getElem?_append_left (by simpa using hi)]
        have h1 : i < (n + 1) * z.size := by rw [Nat.add_mul]; omega
        simp [Builtin.zeroCells, h1, Nat.mod_eq_of_lt hi, hi]
      · rw [List.getElem?_append_right (by simp; omega)]
        simp only [Array.length_toList]
        by_cases h1 : i < (n + 1) * z.size
        · have h2 : i - z.size < n * z.size := by rw [Nat.add_mul] at h1; omega
          simp [Builtin.zeroCells, h1, h2, ← Nat.mod_eq_sub_mod (Nat.le_of_not_lt hi)]
        · have h2 : ¬ i - z.size < n * z.size := by rw [Nat.add_mul] at h1; omega
          simp [Builtin.zeroCells, h1, h2]
def zerosV (z : Value) (n : Nat) : List Value := (List.replicate n z.cells.toList).flatten
def appendZD (P : Program) (s : St) (t : TypeId) (x : SV) (n : Int) (K : SV → St → Prop) : Prop :=
  match P.underlying t with
  | some (.slice e) => match P.info? e with
    | some ⟨_, _, sz, bytes, _, _, _, some z, _, _⟩ => bif Nat.ble 1 sz && Nat.beq z.cells.size sz then
        Need (0 ≤ n ∧ n ≤ 140737488355328) (baseD s e sz x fun len xs rest fi => Need ((len + n.toNat) * bytes ≤ 140737488355328 ∧ len + n.toNat ≤ maxLen ∧ ∀ v ∈ zerosV z n.toNat, v.oneCell' = true)
          (addVec s e sz rest (len + n.toNat) (xs ++ zerosV z n.toNat) (fitP len n.toNat fi) (fitK s e sz rest len n.toNat (zerosV z n.toNat) K fi) (growP len n.toNat fi) K)) else False
    | _ => False
  | _ => False
theorem appendZ_runs {P : Program} {f : HP} {w0 : World} {s : St} {a : Act} {w : World} {t t2 ty : TypeId} {x : SV} {u : Value} {q q2 : IntKind} {n : Int} {K : SV → St → Prop} (h : appendZD P s t x n K) (h2 : P.underlying t2 = some (.int q2)) (r : Rel f w0 s a w)
    (hx : den s.nm x = some u) : ∃ sv v' s' w', K sv s' ∧ Rel f w0 s' a w' ∧ den s'.nm sv = some v' ∧ (Builtin.append_ #[t, t2] ty #[u, .int q n]).run P w = .ok v' w' ∧ NmExt s.nm s'.nm := by
  unfold appendZD at h
  split at h <;> try exact h.elim
  rename_i e ht
  split at h <;> try exact h.elim
  rename_i n1 n2 sz bytes n3 n4 n5 z n6 n7 hi
  obtain ⟨hc, ⟨hn0, hn1⟩, hh⟩ := cond_some h
  clear h
  simp only [Bool.and_eq_true] at hc
  have h0 := Nat.le_of_ble_eq_true hc.1
  have hzs := Nat.eq_of_beq_eq_true hc.2
  obtain ⟨k, rfl⟩ := Int.eq_ofNat_of_zero_le hn0
  have hk : ((k : Int)).toNat = k := rfl
  rw [hk] at hh
  have hyl : (zerosV z k).length = k * sz := by unfold zerosV; rw [flat_len, Array.length_toList, hzs]
  have hw : IntKind.i64.wrap (k : Int) = k := by rw [IntKind.wrap_i64]; omega
  have hu2 := fun w => underlying_run h2 w
  have hzc : (Builtin.zeroCells z.cells k) = (zerosV z k).toArray := by apply Array.ext'; rw [zeroCells_rep]; rfl
  have hb : ∀ len, (len + k) * bytes ≤ 140737488355328 → ¬ ((2 : Int) ^ 48 < (k : Int) * (bytes : Int)) := fun len h => by
    have h1 : k * bytes ≤ (len + k) * bytes := Nat.mul_le_mul_right _ (by omega)
    have h2 : ((k * bytes : Nat) : Int) ≤ 140737488355328 := by omega
    rw [Int.natCast_mul] at h2
    omega
  have hai : ∀ (m : Int) (w : World), (asInt (.int q m)).run P w = .ok m w := fun m w => rfl
  have hw0 : IntKind.i64.wrap 0 = 0 := by decide
  refine append_core (P := P) (bytes := bytes) (z := z) (e := e) (sz := sz) (k := k) (ys := zerosV z k) (run := fun u => (Builtin.append_ #[t, t2] ty #[u, .int q k]).run P w) h0 hzs hyl (fun A len cap hfit hbb => ?_) (fun A len cap xs hf hcap hm hbb => ?_) hh r hx
  · have hb' := hb len hbb
    have hlt : ¬ ((k : Int) < 0) := by omega
    have hb2 : ¬ ((281474976710656 : Int) < (k : Int) * (bytes : Int)) := hb'
    by_cases hk0 : k = 0
    · subst hk0
      have hz0 : zerosV z 0 = [] := rfl
      cases A
      · simp [Builtin.append_, underlying_run ht, hu2, Go.sizeOf, typeInfo, hi, hai, hw0, hz0, hfit]
        intro h; omega
      · simp [Builtin.append_, underlying_run ht, hu2, Go.sizeOf, typeInfo, hi, hai, hw0, hz0, hfit]
        intro h; omega
    · have hks : ¬ (k * sz = 0) := by
        intro h
        rcases Nat.mul_eq_zero.1 h with h | h <;> omega
      cases A
      · simp [Builtin.append_, underlying_run ht, hu2, Go.sizeOf, typeInfo, zeroValue, hi, hai, hw, hb2, hlt, hfit, hzc, hks]
      · simp [Builtin.append_, underlying_run ht, hu2, Go.sizeOf, typeInfo, zeroValue, hi, hai, hw, hb2, hlt, hfit, hzc, hks]
  · have hb' := hb len hbb
    have hlt : ¬ ((k : Int) < 0) := by omega
    have hb2 : ¬ ((281474976710656 : Int) < (k : Int) * (bytes : Int)) := hb'
    have h63 : ¬ (9223372036854775807 < ((len : Int) + (k : Int))) := by simp only [maxLen] at hm; omega
    have h48 : ¬ (281474976710656 < Builtin.nextslicecap (len + k) cap * bytes) := by have := growslice_fits hcap hbb; omega
    have hnn : ¬ (len + k ≤ cap) := by omega
    have hz' : xs.toArray ++ (zerosV z k).toArray ++ Builtin.zeroCells z.cells (grownCap w (len + k) cap e - (len + k)) = (xs ++ zerosV z k ++ (Builtin.zeroCells z.cells (grownCap w (len + k) cap e - (len + k))).toList).toArray := by
      apply Array.ext'; simp
    rw [← hz']
    by_cases hk0 : k = 0
    · subst hk0
      have hz0 : zerosV z 0 = [] := rfl
      have hnn' : ¬ (len ≤ cap) := by omega
      simp only [Nat.add_zero] at h48 ⊢
      simp [Builtin.append_, underlying_run ht, hu2, Go.sizeOf, typeInfo, zeroValue, hi, hai, hw0, hz0, hnn', hf, h48, Question.forced, newRow, grownCap]
      intro h; omega
    · have hks : ¬ (k * sz = 0) := by
        intro h
        rcases Nat.mul_eq_zero.1 h with h | h <;> omega
      simp [Builtin.append_, underlying_run ht, hu2, Go.sizeOf, typeInfo, zeroValue, hi, hai, hw, hb2, hlt, hnn, hf, h63, h48, hzc, hks, Question.forced, newRow, grownCap]
      congr 2
      apply Array.ext'
      simp
end Sx
