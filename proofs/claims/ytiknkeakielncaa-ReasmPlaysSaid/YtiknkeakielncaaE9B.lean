/- Making slices, literals, strings of bytes, clear; equality of structs. Conditions: none. -/
import Derived.Test.YtiknkeakielncaaE9A
import Derived.Laws.StructEq
import Derived.Laws.BytesString
namespace Sx
open Go

theorem madeCells_rep (z : Array Value) : ∀ n, (madeCells z (n * z.size)).toList = (List.replicate n z.toList).flatten := by
  intro n
  induction n with
  | zero => simp [madeCells]
  | succ n ih =>
    rw [List.replicate_succ, List.flatten_cons, ← ih]
    apply List.ext_getElem?
    intro i
    rcases Nat.eq_zero_or_pos z.size with h0 | h0
    · have : z = #[] := Array.size_eq_zero_iff.1 h0
      subst this
      simp [madeCells]
    · by_cases hi : i < z.size
      · rw [List.getElem?_append_left (by simpa using hi)]
        have h1 : i < (n + 1) * z.size := by rw [Nat.add_mul]; omega
        simp [madeCells, h1, Nat.mod_eq_of_lt hi, hi]
      · rw [List.getElem?_append_right (by simp; omega)]
        simp only [Array.length_toList]
        by_cases h1 : i < (n + 1) * z.size
        · have h2 : i - z.size < n * z.size := by rw [Nat.add_mul] at h1; omega
          simp [madeCells, h1, h2, ← Nat.mod_eq_sub_mod (Nat.le_of_not_lt hi)]
        · have h2 : ¬ i - z.size < n * z.size := by rw [Nat.add_mul] at h1; omega
          simp [madeCells, h1, h2]
theorem flat_len (l : List Value) : ∀ n, (List.replicate n l).flatten.length = n * l.length := fun n => by simp
theorem flat_all {p : Value → Prop} {l : List Value} (h : ∀ v ∈ l, p v) (n : Nat) : ∀ v ∈ (List.replicate n l).flatten, p v := fun v hv => by
  obtain ⟨m, hm, hv⟩ := List.mem_flatten.1 hv
  rw [(List.mem_replicate.1 hm).2] at hv
  exact h v hv

/-! ### make -/
def makeD (P : Program) (s : St) (t : TypeId) (x y : SV) (K : SV → St → Prop) : Prop :=
  match P.underlying t with
  | some (.slice e) => match P.info? e with
    | some ⟨_, _, sz, bytes, _, _, _, some z, _, _⟩ => bif Nat.ble 1 sz && (Nat.beq z.cells.size sz && plainVs z.cells.toList) then (match x, y with
      | .int _ l, .int _ c => Need (0 ≤ l ∧ l ≤ c ∧ (bytes : Int) * c ≤ 281474976710656 ∧ c ≤ 9223372036854775807) (match s with
        | ⟨n, env, nm, next, hp⟩ => match getN nm next with
          | some _ => False
          | none => ∀ b, K (.sl next 0 l.toNat c.toNat) ⟨n, env, (next, .at b 0) :: nm, next + 1, .vec next e sz c.toNat (List.replicate c.toNat z.cells.toList).flatten :: hp⟩)
      | _, _ => False) else False
    | _ => False
  | _ => False
theorem plainV_one {v : Value} (h : plainV v = true) : v.oneCell' = true := by cases v <;> first | rfl | (simp [plainV] at h)
theorem make_runs {P : Program} {f : HP} {w0 : World} {s : St} {a : Act} {w : World} {t : TypeId} {x y : SV} {u v : Value} {K : SV → St → Prop} (h : makeD P s t x y K) (r : Rel f w0 s a w) (hx : den s.nm x = some u) (hy : den s.nm y = some v) :
    ∃ sv v' s' w', K sv s' ∧ Rel f w0 s' a w' ∧ den s'.nm sv = some v' ∧ (Instr.makeSlice t u v).run P w = .ok v' w' ∧ NmExt s.nm s'.nm := by
  unfold makeD at h
  split at h <;> try exact h.elim
  rename_i e ht
  split at h <;> try exact h.elim
  rename_i n1 n2 sz bytes n3 n4 n5 z n6 n7 hi
  obtain ⟨hc, hh⟩ := cond_some h
  clear h
  simp only [Bool.and_eq_true] at hc
  have h0 := Nat.le_of_ble_eq_true hc.1
  have hzs := Nat.eq_of_beq_eq_true hc.2.1
  have hpl : ∀ q ∈ z.cells.toList, q.oneCell' = true := fun q hq => plainV_one (by have := hc.2.2; simp only [plainVs, List.all_eq_true] at this; exact this q hq)
  split at hh <;> try exact hh.elim
  rename_i k l k' c
  simp only [den, Option.some.injEq] at hx hy
  subst hx; subst hy
  obtain ⟨⟨hb1, hb2, hb3, hb4⟩, hh⟩ := hh
  obtain ⟨n, env, nm, next, hp⟩ := s
  simp only at hh
  split at hh <;> try exact hh.elim
  rename_i hn
  have hh := hh w.heap.size
  have hrun := run_make (P := P) w t e _ z ht hi rfl k k' l c hb1 hb2 hb3 hb4
  have hx := NmExt.push (l := .at w.heap.size 0) hn
  have hg : getN ((next, Plc.at w.heap.size 0) :: nm) next = some (.at w.heap.size 0) := by simp [getN]
  refine ⟨_, .slice (some ⟨w.heap.size, 0, none⟩) l.toNat c.toNat, _, w.alloc (.cells (madeCells z.cells (c.toNat * sz)) e), hh, ⟨r.defers.str (.alloc w _), r.size, r.env.ext hx, ?_, r.str.trans (.alloc w _)⟩, by simp [den, hg, locAddr], hrun, hx⟩
  have h1 := (r.heap.ext hx).new (.cells (madeCells z.cells (c.toNat * sz)) e) rfl
  refine h1.head fun g hg' => ⟨_, hg, flat_all hpl _, .inr ⟨_, _, [], [], rfl, ?_, rfl, ?_⟩⟩
  · have := madeCells_rep z.cells c.toNat
    rw [hzs] at this
    rw [List.nil_append, List.append_nil, ← this]
    simpa using hg'
  · rw [flat_len]; simp [hzs]
/-- A slice literal. -/
theorem repL_den {nm : List (Nat × Plc)} (z : List Value) : ∀ n, denL nm (repL (ofCL z) n) = some (List.replicate n z).flatten
  | 0 => rfl
  | n + 1 => by simp only [repL, List.replicate_succ, List.flatten_cons]; exact denL_append (denL_ofCL nm z) (repL_den z n)
theorem buildSlice_runs {P : Program} {f : HP} {w0 : World} {s : St} {a : Act} {w : World} {t : TypeId} {len : Nat} {parts : List (Nat × SV)} {vals : Array (Nat × Value)} {K : SV → St → Prop} (h : buildSliceD P s t len parts K) (r : Rel f w0 s a w)
    (h1 : parts.map (·.1) = vals.toList.map (·.1)) (h2 : denL s.nm (parts.map (·.2)) = some (vals.toList.map (·.2))) :
    ∃ sv v' s' w', K sv s' ∧ Rel f w0 s' a w' ∧ den s'.nm sv = some v' ∧ (Instr.buildSlice t len vals).run P w = .ok v' w' ∧ NmExt s.nm s'.nm := by
  unfold buildSliceD at h
  split at h <;> try exact h.elim
  rename_i e ht
  split at h <;> try exact h.elim
  rename_i n1 n2 sz bytes n3 n4 n5 z n6 n7 hi
  obtain ⟨hc, hh⟩ := cond_some h
  clear h
  simp only [Bool.and_eq_true] at hc
  have hb1 := Nat.le_of_ble_eq_true hc.1.1
  have hb2 := Nat.le_of_ble_eq_true hc.1.2
  have hb3 := Nat.eq_of_beq_eq_true hc.2
  rw [lenL_eq] at hb3
  have hzs : z.cells.size = sz := by
    have := denL_length (denL_ofCL s.nm z.cells.toList)
    simp at this; omega
  rw [forceL_eq] at hh
  obtain ⟨cs', u', hh, hd, hfill⟩ := fillSl_runs hh (repL_den z.cells.toList len) h1 h2
  obtain ⟨s', k, r', hg, hx'⟩ := newD_runs hh r hd
  refine ⟨_, .slice (some ⟨w.heap.size, 0, none⟩) len len, s', _, k, r', by simp [den, hg, locAddr], ?_, hx'⟩
  have hm : (Array.range (len * sz)).map (z.cells[· % z.cells.size]!) = (List.replicate len z.cells.toList).flatten.toArray := by
    have := madeCells_rep z.cells len
    rw [hzs] at this
    rw [← this, Array.toArray_toList, madeCells, hzs]
  have h24 : ¬ len * sz > 2 ^ 24 := by omega
  by_cases hz0 : len * sz = 0
  · have hl0 : len = 0 := by rcases Nat.mul_eq_zero.1 hz0 with e | e <;> omega
    subst hl0
    simp only [List.replicate_zero, List.flatten_nil] at hfill
    simp [Instr.buildSlice, underlying_run ht, Go.sizeOf, typeInfo, hi, newRow, Array.range_zero', hfill]
  · simp only [Instr.buildSlice, Sem.run_bind, underlying_run ht, Result.andThen_ok, sizeOf_run hi]
    simp only [h24, if_false, hz0, Sem.run_pure, Result.andThen_ok, Sem.run_bind]
    simp [zeroValue, typeInfo, hi, hm, hfill, newRow]

/-! ### The string of bytes -/
inductive StrOb (ys : List Value) (K : SV → Prop) : Prop
  | mk (b : ByteArray) (h : ys = bytesV b) (k : K (.str b))
def isU8 (P : Program) (t : TypeId) : Bool := match P.underlying t with | some (.int .u8) => true | _ => false
/-- Is it a conversion of bytes to a string? -/
def toStr (P : Program) (a b : TypeId) : Bool := match P.underlying a, P.underlying b with
  | some (.slice e), some .string => isU8 P e
  | _, _ => false
def bytesD (P : Program) (f : HP) (s : St) (t1 t2 : TypeId) (x : SV) (K : SV → St → Prop) : Prop :=
  bif toStr P t1 t2 then srcD f s 1 x fun _ ys => StrOb ys fun v => K v s else False
theorem pushes (l : List UInt8) : ∀ (r : ByteArray), (l.map (fun b => (b.toNat : Int))).foldl (fun r n => r.push (UInt8.ofNat n.toNat)) r = ⟨(r.data.toList ++ l).toArray⟩ := by
  induction l with
  | nil => intro r; simp
  | cons b l ih =>
    intro r
    simp only [List.map_cons, List.foldl_cons]
    rw [ih]
    simp [ByteArray.push]
theorem bytes_runs {P : Program} {f : HP} {w0 : World} {s : St} {a : Act} {w : World} {t1 t2 : TypeId} {x : SV} {u : Value} {K : SV → St → Prop} (h : bytesD P f s t1 t2 x K) (r : Rel f w0 s a w) (hx : den s.nm x = some u) :
    ∃ sv v, K sv s ∧ den s.nm sv = some v ∧ (convert t1 t2 u).run P w = .ok v w := by
  unfold bytesD at h
  obtain ⟨hc, hh⟩ := cond_some h
  clear h
  obtain ⟨k, ys, ⟨b, hb, hk⟩, hsrc⟩ := srcD_runs hh r hx (Nat.le_refl _)
  refine ⟨_, .string b, hk, rfl, ?_⟩
  unfold toStr at hc
  split at hc <;> try (cases hc; done)
  rename_i e h1 h2
  unfold isU8 at hc
  split at hc <;> try (cases hc; done)
  rename_i h3
  obtain ⟨hl, hs⟩ := hsrc
  rcases hs with ⟨s', rfl, rfl, _, hy⟩ | ⟨c, rfl, rfl, rfl⟩ | ⟨ad, c, rfl, hcell⟩
  · rw [hy] at hb
    have : s'.data.toList = b.data.toList := by
      have hinj : Function.Injective (fun x : UInt8 => Value.int .u8 (x.toNat : Int)) := fun p q hpq => by
        simp only [Value.int.injEq, true_and] at hpq
        exact UInt8.toNat_inj.1 (by omega)
      exact (List.map_inj_right (fun p q h => hinj h)).1 hb
    have hsb : s' = b := by
      obtain ⟨⟨p⟩⟩ := s'; obtain ⟨⟨q⟩⟩ := b
      simp at this; subst this; rfl
    subst hsb
    simp [convert, underlying_run h1, underlying_run h2]
  · have : b = .empty := by
      have : b.data.toList = [] := by
        have := congrArg List.length hb
        rw [bytesV, List.length_map, List.length_nil] at this
        exact List.length_eq_zero_iff.1 this.symm
      obtain ⟨⟨q⟩⟩ := b
      simp at this; subst this; rfl
    subst this
    simp [convert, underlying_run h1, underlying_run h2, underlying_run h3, Conv.bytesToString]
  · have hload := run_loadCells_list (P := P) (w := w) ad ys hcell
    rw [hl, Nat.mul_one] at hload
    have hys : ys = (b.data.toList.map (fun x => (x.toNat : Int))).map (Value.int .u8) := by rw [hb, bytesV, List.map_map]; rfl
    rw [hys] at hload
    have hrun := run_bytesToString (P := P) w ad k c _ hload
    rw [pushes] at hrun
    simp only [convert, Sem.run_bind, underlying_run h1, underlying_run h2, underlying_run h3, Result.andThen_ok, hrun]
    congr 1

/-! ### clear -/
def clearD (P : Program) (s : St) (t : TypeId) (x : SV) (K : SV → St → Prop) : Prop :=
  match P.underlying t with
  | some (.slice e) => match P.info? e with
    | some ⟨_, _, sz, _, _, _, _, some z, _, _⟩ => bif Nat.ble 1 sz && (Nat.beq z.cells.size sz && plainVs z.cells.toList) then (match x with
      | .nils => K (.tuple []) s
      | .sl m lo len _ => (match s with
        | ⟨n, env, nm, next, hp⟩ => pickD hp m fun en rest => match en with
          | .vec m' t' sz' cap xs => Need (lo + len * sz ≤ xs.length) (K (.tuple []) ⟨n, env, nm, next, .vec m' t' sz' cap (putV xs lo (List.replicate len z.cells.toList).flatten) :: rest⟩)
          | _ => False)
      | _ => False) else False
    | _ => False
  | _ => False
theorem clear_runs {P : Program} {f : HP} {w0 : World} {s : St} {a : Act} {w : World} {t ty : TypeId} {x : SV} {u : Value} {K : SV → St → Prop} (h : clearD P s t x K) (r : Rel f w0 s a w) (hx : den s.nm x = some u) :
    ∃ sv v' s' w', K sv s' ∧ Rel f w0 s' a w' ∧ den s'.nm sv = some v' ∧ (Builtin.clear_ #[t] ty #[u]).run P w = .ok v' w' ∧ NmExt s.nm s'.nm := by
  unfold clearD at h
  split at h <;> try exact h.elim
  rename_i e ht
  split at h <;> try exact h.elim
  rename_i n1 n2 sz bytes n3 n4 n5 z n6 n7 hi
  obtain ⟨hc, hh⟩ := cond_some h
  clear h
  simp only [Bool.and_eq_true] at hc
  have h0 := Nat.le_of_ble_eq_true hc.1
  have hzs := Nat.eq_of_beq_eq_true hc.2.1
  have hpl : ∀ q ∈ z.cells.toList, q.oneCell' = true := fun q hq => plainV_one (by have := hc.2.2; simp only [plainVs, List.all_eq_true] at this; exact this q hq)
  split at hh <;> try exact hh.elim
  · simp only [den, Option.some.injEq] at hx; subst hx
    exact ⟨_, .tuple #[], s, w, hh, r, rfl, by simp [Builtin.clear_, underlying_run ht], NmExt.refl _⟩
  · rename_i m lo len cp
    obtain ⟨n, env, nm, next, hp⟩ := s
    simp only at hh
    obtain ⟨en, rest, h2, pm, hn⟩ := pickD_some hh
    clear hh
    have hat := r.heap.pick pm
    split at h2 <;> try exact h2.elim
    rename_i m' t' sz' cap xs
    simp only [Ent.name, Option.some.injEq] at hn; subst hn
    obtain ⟨hb, k⟩ := h2
    have hfl : (List.replicate len z.cells.toList).flatten.length = len * sz := by rw [flat_len]; simp [hzs]
    have hfp := flat_all hpl len
    have hzc : (Builtin.zeroCells z.cells len).toList = (List.replicate len z.cells.toList).flatten := madeCells_rep z.cells len
    rcases ent_vec hat with ⟨hpx, ⟨h1, h2, h3⟩ | ⟨b, o, pre, post, h1, h2, h3, h4, h5⟩⟩
    · subst h2
      have hl0 : len = 0 := by
        rcases Nat.eq_zero_or_pos len with e | e
        · exact e
        · have : 1 ≤ len * sz := Nat.mul_le_mul e h0
          simp at hb; omega
      subst hl0
      simp only [den, h1, locAddr, Option.some.injEq] at hx; subst hx
      refine ⟨_, .tuple #[], _, w, k, ⟨r.defers, r.size, r.env, ?_, r.str⟩, rfl, by simp [Builtin.clear_, underlying_run ht], NmExt.refl _⟩
      exact hat
    · simp only [den, h1, locAddr, Option.some.injEq] at hx; subst hx
      obtain ⟨w', hr, hturn⟩ := turned_many (P := P) (List.replicate len z.cells.toList).flatten w _ (o + lo) 0 h4 (by rw [hfl]; simp; omega) hfp
      refine ⟨_, .tuple #[], _, w', k, ⟨r.defers.str hturn.str, r.size, r.env, ?_, r.str.trans hturn.str⟩, rfl, ?_, NmExt.refl _⟩
      · refine (h5.turned hturn).head fun g hg => ⟨_, h1, putV_plain hpx hfp lo, .inr ⟨b, o, pre, post, rfl, ?_, h2, by rw [putV_length]; exact h3⟩⟩
        have : putV (pre ++ xs ++ post) (o + lo) (List.replicate len z.cells.toList).flatten = pre ++ putV xs lo (List.replicate len z.cells.toList).flatten ++ post := by
          rw [List.append_assoc, ← h2, putV_pre, putV_post _ _ _ _ (by omega), List.append_assoc]
        rw [← this]
        simpa using hg
      · cases len with
        | zero =>
          simp only [List.replicate_zero, List.flatten_nil, storeCells, Sem.run_pure, Result.ok.injEq, true_and] at hr
          subst hr
          simp [Builtin.clear_, underlying_run ht]
        | succ len =>
          simp [Builtin.clear_, underlying_run ht, zeroValue, typeInfo, hi, hzc, hr]
end Sx
