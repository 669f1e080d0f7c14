/- Slices: what one reads, appending, making, literals, and that they are right. Conditions: none. -/
import Derived.Test.YtiknkeakielncaaE9
import Derived.Laws.MakeOwn
namespace Sx
open Go

/-! ### What a slice or a string reads -/
def bytesV (s : ByteArray) : List Value := s.data.toList.map fun b => .int .u8 b.toNat
/-- A value reads k elements: these cells. -/
def SrcIs (w : World) (v : Value) (sz k : Nat) (ys : List Value) : Prop :=
  ys.length = k * sz ∧ ((∃ s, v = .string s ∧ k = s.size ∧ sz = 1 ∧ ys = bytesV s) ∨ (∃ c, v = .slice none 0 c ∧ ys = [] ∧ k = 0) ∨ ∃ a c, v = .slice (some a) k c ∧ ∀ j u, ys[j]? = some u → w.cell? (a.add j) = some u)
theorem SrcIs.len {P : Program} {w : World} {v : Value} {sz k : Nat} {ys : List Value} (h : SrcIs w v sz k ys) (w' : World) : (Builtin.lenOf v).run P w' = .ok k w' := by
  rcases h.2 with ⟨s, rfl, rfl, _, _⟩ | ⟨c, rfl, _, rfl⟩ | ⟨a, c, rfl, _⟩ <;> rfl
theorem SrcIs.first {P : Program} {w : World} {v : Value} {sz k : Nat} {ys : List Value} (h : SrcIs w v sz k ys) : (Builtin.firstCells sz k v).run P w = .ok ys.toArray w := by
  obtain ⟨hl, h⟩ := h
  rcases h with ⟨s, rfl, rfl, rfl, rfl⟩ | ⟨c, rfl, rfl, rfl⟩ | ⟨a, c, rfl, hc⟩
  · simp only [Builtin.firstCells, Sem.run_pure, bytesV]
    congr 1
    apply Array.ext'
    have e : s.extract 0 s.size = s := by simp
    rw [e]
    simp
  · rfl
  · exact run_firstCells_some w sz k a k c ys hl hc
theorem SrcIs.drew {w : World} {v : Value} {sz k : Nat} {ys : List Value} (h : SrcIs w v sz k ys) : SrcIs w.drew v sz k ys := h

/-- A slice of the frame: its cells, as the prover names them. -/
inductive SrcF (f : HP) (s : St) (A : Option Addr) (len : Nat) (K : List Value → Prop) : Prop
  | mk (ys : List Value) (hl : ys.length = len) (h : ∀ i v, ys[i]? = some v → ∃ b o, A = some ⟨b, o, none⟩ ∧ fcell f b (o + i) = some v) (k : K ys)
  | told (b o : Nat) (ys : List Value) (hA : A = some ⟨b, o, none⟩) (hl : ys.length = len) (h : ∀ h, sat s.ents h → ∀ i v, ys[i]? = some v → fcell h b (o + i) = some v) (k : K ys)
theorem SrcF.get {f : HP} {w0 : World} {s : St} {a : Act} {w : World} {A : Option Addr} {len : Nat} {K : List Value → Prop} (h : SrcF f s A len K) (r : Rel f w0 s a w) :
    ∃ ys, ys.length = len ∧ (∀ i v, ys[i]? = some v → ∃ b o, A = some ⟨b, o, none⟩ ∧ w.cell? ⟨b, o + i, none⟩ = some v) ∧ K ys := by
  cases h with
  | mk ys hl h k => exact ⟨ys, hl, fun i v hi => let ⟨b, o, e1, e2⟩ := h i v hi; ⟨b, o, e1, fcell_cell r.heap e2⟩, k⟩
  | told b o ys hA hl h k => exact ⟨ys, hl, fun i v hi => ⟨b, o, hA, told_cell r.heap fun x hx => h x hx i v hi⟩, k⟩
def srcD (f : HP) (s : St) (sz : Nat) (y : SV) (K : Nat → List Value → Prop) : Prop :=
  match y with
  | .nils => K 0 []
  | .raw (.slice A k _) => SrcF f s A (k * sz) fun ys => K k ys
  | .str b => bif Nat.beq sz 1 then K b.size (bytesV b) else False
  | .sl n lo k _ => pickD s.hp n fun e _ => match e with
    | .blk _ _ cs => StOb s.nm (takeL (dropL cs lo) (k * sz)) fun vs => Need (vs.length = k * sz) (K k vs)
    | .vec _ _ _ _ xs => Need (lo + k * sz ≤ xs.length) (K k ((xs.drop lo).take (k * sz)))
    | _ => False
  | _ => False
theorem lies_src {w : World} {b o : Nat} {xs : List Value} (h : Lies w b o xs) : ∀ j u, xs[j]? = some u → w.cell? ((⟨b, o, none⟩ : Addr).add j) = some u := fun j u hj => by
  rw [addr_add]; exact h j u hj
theorem srcD_runs {f : HP} {w0 : World} {s : St} {a : Act} {w : World} {sz : Nat} {y : SV} {v : Value} {K : Nat → List Value → Prop} (h : srcD f s sz y K) (r : Rel f w0 s a w) (hy : den s.nm y = some v) (h0 : 1 ≤ sz) :
    ∃ k ys, K k ys ∧ SrcIs w v sz k ys := by
  unfold srcD at h
  split at h <;> try exact h.elim
  · simp only [den, Option.some.injEq] at hy; subst hy
    exact ⟨0, [], h, by simp, .inr (.inl ⟨0, rfl, rfl, rfl⟩)⟩
  · rename_i A k c
    simp only [den, Option.some.injEq] at hy; subst hy
    obtain ⟨ys, hl, hc, k'⟩ := h.get r
    refine ⟨k, ys, k', hl, ?_⟩
    cases A with
    | none =>
      have hk : k = 0 := by
        rcases Nat.eq_zero_or_pos k with e | e
        · exact e
        · have : 1 ≤ k * sz := Nat.mul_le_mul e h0
          obtain ⟨b, o, e1, _⟩ := hc 0 (ys[0]'(by omega)) (by simp)
          cases e1
      subst hk
      have : ys = [] := by simpa using hl
      exact .inr (.inl ⟨c, rfl, this, rfl⟩)
    | some ad =>
      refine .inr (.inr ⟨ad, c, rfl, fun j u hj => ?_⟩)
      obtain ⟨b, o, e1, e2⟩ := hc j u hj
      simp only [Option.some.injEq] at e1; subst e1
      rw [addr_add]
      exact e2
  · rename_i b
    obtain ⟨e, h⟩ := cond_some h
    have e := Nat.eq_of_beq_eq_true e
    subst e
    simp only [den, Option.some.injEq] at hy; subst hy
    exact ⟨_, _, h, by simp only [bytesV, List.length_map, Nat.mul_one]; rfl, .inl ⟨b, rfl, rfl, rfl, rfl⟩⟩
  · rename_i n lo k c
    obtain ⟨e, rest, hh, pm, hn⟩ := pickD_some h
    have hat := r.heap.pick pm
    clear h
    split at hh <;> try exact hh.elim
    · rename_i m t cs
      simp only [Ent.name, Option.some.injEq] at hn; subst hn
      obtain ⟨vs, hd, hl, k'⟩ := hh
      obtain ⟨b, us, h1, h2, h3, _⟩ := ent_blk hat
      rw [takeL_eq, dropL_eq, denL_take _ (denL_drop _ h2)] at hd
      simp only [Option.some.injEq] at hd
      simp only [den, h1, locAddr, Option.some.injEq] at hy
      refine ⟨k, vs, k', hl, .inr (.inr ⟨_, c, hy.symm, ?_⟩)⟩
      have hlies : Lies w b 0 us := fun i u hu => by rw [cell_of h3]; simpa using hu
      have := lies_src (hlies.sub lo (k * sz))
      rw [hd] at this
      exact this
    · rename_i m t sz' cap xs
      simp only [Ent.name, Option.some.injEq] at hn; subst hn
      obtain ⟨hb, k'⟩ := hh
      have hl : ((xs.drop lo).take (k * sz)).length = k * sz := by simp; omega
      refine ⟨k, _, k', hl, ?_⟩
      rcases ent_vec hat with ⟨_, ⟨h1, h2, h3⟩ | ⟨b, o, pre, post, h1, h2, h3, h4, _⟩⟩
      · subst h2
        have : k = 0 := by
          rcases Nat.eq_zero_or_pos k with e | e
          · exact e
          · have : 1 ≤ k * sz := Nat.mul_le_mul e h0
            simp at hb; omega
        subst this
        simp only [den, h1, locAddr, Option.some.injEq] at hy
        exact .inr (.inl ⟨c, hy.symm, by simp, rfl⟩)
      · simp only [den, h1, locAddr, Option.some.injEq] at hy
        exact .inr (.inr ⟨_, c, hy.symm, lies_src ((vec_lies h4 h2).sub lo (k * sz))⟩)

/-! ### New rows -/
def plainVs (l : List Value) : Bool := l.all plainV
/-- A new slice: its place, its room. -/
inductive NewSl (tot : Nat) {φ Y γ : Prop} {Z : Plc → Nat → Prop} (X : Plc → Nat → Prop) : Prop
  | pos (h : 0 < tot) (k : ∀ b o cap, tot ≤ cap → X (.at b o) cap)
  | any (k : ∀ l cap, tot ≤ cap → X l cap)
  /-- There is room: it stays where it is. -/
  | fit (h : φ) (k : Y)
  /-- There is no room: what is appended to stays as it was. -/
  | grow (h : γ) (k : ∀ b o cap, tot ≤ cap → Z (.at b o) cap)
theorem NewSl.use {tot : Nat} {X Z : Plc → Nat → Prop} (h : NewSl (φ := False) (Y := False) (γ := False) (Z := Z) tot X) {l : Plc} {cap : Nat} (hc : tot ≤ cap) (hl : 0 < tot → ∃ b o, l = .at b o) : X l cap := by
  cases h with
  | pos h k => obtain ⟨b, o, rfl⟩ := hl h; exact k b o cap hc
  | any k => exact k l cap hc
  | fit h _ => exact h.elim
  | grow h _ => exact h.elim
def addVec (s : St) (t : TypeId) (sz : Nat) (rest : List Ent) (tot : Nat) (zs : List Value) (φ Y γ : Prop) (K : SV → St → Prop) : Prop :=
  match s with
  | ⟨n, env, nm, next, hp⟩ => match getN nm next with
    | some _ => False
    | none => NewSl (φ := φ) (Y := Y) (γ := γ) (Z := fun l cap => K (.sl next 0 tot cap) ⟨n, env, (next, l) :: nm, next + 1, .vec next t sz cap zs :: hp⟩) tot fun l cap => K (.sl next 0 tot cap) ⟨n, env, (next, l) :: nm, next + 1, .vec next t sz cap zs :: rest⟩
theorem addVec_cases {s : St} {t : TypeId} {sz : Nat} {rest : List Ent} {tot : Nat} {zs : List Value} {φ Y γ : Prop} {K : SV → St → Prop} (h : addVec s t sz rest tot zs φ Y γ K) :
    (φ ∧ Y) ∨ (γ ∧ 0 < tot ∧ addVec s t sz s.hp tot zs False False False K) ∨ (γ ∧ tot = 0 ∧ True) ∨ addVec s t sz rest tot zs False False False K := by
  obtain ⟨n, env, nm, next, hp⟩ := s
  unfold addVec at h ⊢
  simp only at h ⊢
  split at h <;> try exact h.elim
  rename_i hn
  cases h with
  | pos h k => exact .inr (.inr (.inr (.pos h k)))
  | any k => exact .inr (.inr (.inr (.any k)))
  | fit h k => exact .inl ⟨h, k⟩
  | grow h k =>
    rcases Nat.eq_zero_or_pos tot with e | e
    · exact .inr (.inr (.inl ⟨h, e, trivial⟩))
    · exact .inr (.inl ⟨h, e, .pos e k⟩)
theorem addVec_runs {f : HP} {w0 : World} {s : St} {a : Act} {w w' : World} {t : TypeId} {sz : Nat} {rest : List Ent} {tot : Nat} {zs : List Value} {K : SV → St → Prop} (h : addVec s t sz rest tot zs False False False K) (r : Rel f w0 s a w)
    {l : Plc} {cap : Nat} (hc : tot ≤ cap) (hl : 0 < tot → ∃ b o, l = .at b o) (hs : Str w w') (hat : At f (Vec l t sz cap zs :: rest.map (entDen s.nm)) w') :
    ∃ sv s', K sv s' ∧ Rel f w0 s' a w' ∧ den s'.nm sv = some (.slice (locAddr 0 l) tot cap) ∧ NmExt s.nm s'.nm := by
  obtain ⟨n, env, nm, next, hp⟩ := s
  unfold addVec at h
  simp only at h
  split at h <;> try exact h.elim
  rename_i hn
  have h := h.use hc hl
  have hx := NmExt.push (l := l) hn
  have hg : getN ((next, l) :: nm) next = some l := by simp [getN]
  refine ⟨_, _, h, ⟨r.defers.str hs, r.size, r.env.ext hx, ?_, r.str.trans hs⟩, by simp [den, hg], hx⟩
  obtain ⟨x, ts, y, z, tt, hv, hr⟩ := hat
  exact ⟨x, ts, y, z, tt, ⟨l, hg, hv⟩, sat_map (fun e h k => entDen_ext hx e h k) hr⟩

/-! ### append -/
/-- What is appended to: the cells that lie there, and the rest of the entries. -/
abbrev Fit := Nat × Nat × Nat × Nat × List Value
def baseD (s : St) (e : TypeId) (sz : Nat) (x : SV) (K : Nat → List Value → List Ent → Option Fit → Prop) : Prop :=
  match x with
  | .nils => K 0 [] s.hp none
  | .raw (.slice none 0 0) => K 0 [] s.hp none
  | .sl n lo len cap => pickD s.hp n fun en rest => match en with
    | .vec _ t sz' capE xs => bif Nat.beq t e && Nat.beq sz' sz then Need (lo + len * sz ≤ xs.length ∧ lo + cap * sz ≤ capE * sz ∧ len ≤ cap) (K len ((xs.drop lo).take (len * sz)) rest (some (n, lo, cap, capE, xs))) else False
    | .blk _ t cs => bif Nat.beq t e && plainL cs then StOb s.nm cs fun vs => Need (lo + len * sz ≤ vs.length ∧ lo + cap * sz ≤ vs.length ∧ len ≤ cap) (K len ((vs.drop lo).take (len * sz)) rest none) else False
    | _ => False
  | _ => False
def fitP (len k : Nat) : Option Fit → Prop
  | none => False
  | some (_, _, cap, _, _) => 0 < cap ∧ len + k ≤ cap
def growP (len k : Nat) : Option Fit → Prop
  | none => False
  | some (_, _, cap, _, _) => cap < len + k
def fitK (s : St) (e : TypeId) (sz : Nat) (rest : List Ent) (len k : Nat) (ys : List Value) (K : SV → St → Prop) : Option Fit → Prop
  | none => False
  | some (n, lo, cap, capE, xs) => match s with
    | ⟨n0, env, nm, next, _⟩ => K (.sl n lo (len + k) cap) ⟨n0, env, nm, next, .vec n e sz capE (xs.take (lo + len * sz) ++ ys ++ xs.drop (lo + (len + k) * sz)) :: rest⟩
def appendB (P : Program) (f : HP) (s : St) (t : TypeId) (x y : SV) (K : SV → St → Prop) : Prop :=
  match P.underlying t with
  | some (.slice e) => match P.info? e with
    | some ⟨_, _, sz, bytes, _, _, _, some z, _, _⟩ => bif Nat.ble 1 sz && Nat.beq z.cells.size sz then
        srcD f s sz y fun k ys => baseD s e sz x fun len xs rest fi => Need ((len + k) * bytes ≤ 140737488355328 ∧ len + k ≤ maxLen ∧ ∀ v ∈ ys, v.oneCell' = true) (addVec s e sz rest (len + k) (xs ++ ys) (fitP len k fi) (fitK s e sz rest len k ys K fi) (growP len k fi) K) else False
    | _ => False
  | _ => False
theorem base_runs {f : HP} {w0 : World} {s : St} {a : Act} {w : World} {e : TypeId} {sz : Nat} {x : SV} {v : Value} {K : Nat → List Value → List Ent → Option Fit → Prop} (h : baseD s e sz x K) (r : Rel f w0 s a w) (hx : den s.nm x = some v) (h0 : 1 ≤ sz) :
    ∃ len xs rest fi, K len xs rest fi ∧ xs.length = len * sz ∧ (∀ u ∈ xs, u.oneCell' = true) ∧
      ((v = .slice none 0 0 ∧ len = 0 ∧ xs = [] ∧ rest = s.hp ∧ fi = none) ∨
       (∃ cap, v = .slice none 0 cap ∧ len = 0 ∧ xs = [] ∧ cap = 0 ∧ At f (rest.map (entDen s.nm)) w ∧ (∀ k, ¬ fitP 0 k fi) ∧ ∀ k, k = 0 → ¬ growP 0 k fi) ∨
       ∃ b o cap pre post, (fi = none ∨ ∃ n lo capE xsA oA preA postA, fi = some (n, lo, cap, capE, xsA) ∧ getN s.nm n = some (.at b oA) ∧ o = oA + lo ∧ preA.length = oA ∧ preA ++ xsA ++ postA = pre ++ xs ++ post ∧ capE * sz ≤ xsA.length + postA.length ∧ lo + cap * sz ≤ capE * sz ∧ (∀ v ∈ xsA, v.oneCell' = true) ∧ lo + len * sz ≤ xsA.length) ∧ v = .slice (some ⟨b, o, none⟩) len cap ∧ len ≤ cap ∧ pre.length = o ∧ cap * sz ≤ xs.length + post.length ∧ w.heap[b]? = some (.cells (pre ++ xs ++ post).toArray e (0, 0)) ∧
         At f (pt b (.cells (pre ++ xs ++ post).toArray e (0, 0)) :: rest.map (entDen s.nm)) w) := by
  unfold baseD at h
  split at h <;> try exact h.elim
  · simp only [den, Option.some.injEq] at hx; subst hx
    exact ⟨0, [], s.hp, _, h, by simp, by simp, .inl ⟨rfl, rfl, rfl, rfl, rfl⟩⟩
  · simp only [den, Option.some.injEq] at hx; subst hx
    exact ⟨0, [], s.hp, _, h, by simp, by simp, .inl ⟨rfl, rfl, rfl, rfl, rfl⟩⟩
  · rename_i n lo len cap
    obtain ⟨en, rest, hh, pm, hn⟩ := pickD_some h
    have hat := r.heap.pick pm
    clear h
    split at hh <;> try exact hh.elim
    · rename_i m t sz' capE xs
      simp only [Ent.name, Option.some.injEq] at hn; subst hn
      obtain ⟨hc, hb, k⟩ := cond_some hh
      simp only [Bool.and_eq_true] at hc
      have e1 := Nat.eq_of_beq_eq_true hc.1
      have e2 := Nat.eq_of_beq_eq_true hc.2
      subst e1; subst e2
      obtain ⟨hb1, hb2, hb3⟩ := hb
      have hl : ((xs.drop lo).take (len * sz')).length = len * sz' := by simp; omega
      rcases ent_vec hat with ⟨hpl, ⟨h1, h2, h3⟩ | ⟨b, o, pre, post, h1, h2, h3, h4, h5⟩⟩
      · subst h2; subst h3
        have hc0 : cap = 0 := by
          rcases Nat.eq_zero_or_pos cap with e | e
          · exact e
          · have : 1 ≤ cap * sz' := Nat.mul_le_mul e h0
            omega
        subst hc0
        have hl0 : len = 0 := by omega
        subst hl0
        simp only [den, h1, locAddr, Option.some.injEq] at hx
        exact ⟨0, _, rest, _, k, hl, by simp, .inr (.inl ⟨0, hx.symm, rfl, by simp, rfl, hat.tail, fun k hk => by simp only [fitP] at hk; omega, fun k hk hg => by simp only [growP] at hg; omega⟩)⟩
      · simp only [den, h1, locAddr, Option.some.injEq] at hx
        refine ⟨len, _, rest, _, k, hl, fun u hu => hpl u (List.mem_of_mem_drop (List.mem_of_mem_take hu)), .inr (.inr ⟨b, o + lo, cap, pre ++ xs.take lo, xs.drop (lo + len * sz') ++ post, .inr ⟨m, lo, capE, xs, o, pre, post, rfl, h1, rfl, h2, ?_, h3, hb2, hpl, hb1⟩, hx.symm, hb3, ?_, ?_, ?_, ?_⟩)⟩
        rotate_left
        · simp; omega
        · simp; omega
        all_goals
          have e : pre ++ xs.take lo ++ (xs.drop lo).take (len * sz') ++ (xs.drop (lo + len * sz') ++ post) = pre ++ xs ++ post := by
            have e1 : xs = xs.take lo ++ ((xs.drop lo).take (len * sz') ++ xs.drop (lo + len * sz')) := by
              rw [← List.drop_drop, List.take_append_drop, List.take_append_drop]
            conv => rhs; rw [e1]
            simp
          first | exact e.symm | (rw [e]; assumption)
    · rename_i m t cs
      simp only [Ent.name, Option.some.injEq] at hn; subst hn
      obtain ⟨hc, vs, hd, hb, k⟩ := cond_some hh
      simp only [Bool.and_eq_true] at hc
      have e1 := Nat.eq_of_beq_eq_true hc.1
      subst e1
      obtain ⟨hb1, hb2, hb3⟩ := hb
      obtain ⟨b, us, h1, h2, h3, h4⟩ := ent_blk hat
      rw [hd] at h2; simp only [Option.some.injEq] at h2; subst h2
      have hpl := plainL_den hc.2 hd
      have hl : ((vs.drop lo).take (len * sz)).length = len * sz := by simp; omega
      simp only [den, h1, locAddr, Option.some.injEq] at hx
      refine ⟨len, _, rest, _, k, hl, fun u hu => hpl u (List.mem_of_mem_drop (List.mem_of_mem_take hu)), .inr (.inr ⟨b, lo, cap, vs.take lo, vs.drop (lo + len * sz), .inl rfl, by rw [← hx]; simp, hb3, ?_, ?_, ?_, ?_⟩)⟩
      · simp; omega
      · simp; omega
      all_goals
        have e : vs.take lo ++ (vs.drop lo).take (len * sz) ++ vs.drop (lo + len * sz) = vs := by
          rw [List.append_assoc, ← List.drop_drop, List.take_append_drop, List.take_append_drop]
        rw [e]
        assumption

/-- The second argument's type is no whole number's. -/
def noIntT (P : Program) (t : TypeId) : Bool := match P.underlying t with
  | some (.slice _) => true
  | some .string => true
  | _ => false
theorem append_place {P : Program} {w : World} {t t2 ty e : TypeId} {i : TypeInfo} {A : Option Addr} {len cap k : Nat} {y : Value} {ys : List Value} (ht : P.underlying t = some (.slice e)) (h2 : noIntT P t2 = true) (hi : P.info? e = some i)
    (hs : SrcIs w y i.size k ys) (hk : len + k ≤ cap) :
    (Builtin.append_ #[t, t2] ty #[.slice A len cap, y]).run P w = (do (match A with | some a => storeCells (a.add (len * i.size)) ys | none => pure ()); pure (.slice A (len + k) cap) : Sem Value).run P w := by
  have hl := hs.len (P := P) w
  have hf := hs.first (P := P)
  unfold noIntT at h2
  split at h2 <;> try (cases h2; done)
  all_goals
    rename_i hd
    have hu2 := underlying_run hd w
    cases A
    · simp [Builtin.append_, underlying_run ht, hu2, Go.sizeOf, typeInfo, hi, hl, hk, hf]
    · simp [Builtin.append_, underlying_run ht, hu2, Go.sizeOf, typeInfo, hi, hl, hk, hf]
theorem append_grow {P : Program} {w : World} {t t2 ty e : TypeId} {i : TypeInfo} {z : Value} {A : Option Addr} {len cap k : Nat} {y : Value} {xs ys : List Value} (ht : P.underlying t = some (.slice e)) (h2 : noIntT P t2 = true) (hi : P.info? e = some i) (hz : i.zero = some z)
    (hs : SrcIs w y i.size k ys) (hb : (Builtin.firstCells i.size len (.slice A len cap)).run P w.drew = .ok xs.toArray w.drew) (hk : cap < len + k) (hm : len + k ≤ maxLen) (hy : (len + k) * i.bytes ≤ 140737488355328) :
    (Builtin.append_ #[t, t2] ty #[.slice A len cap, y]).run P w =
      .ok (.slice (some ⟨w.heap.size, 0, none⟩) (len + k) (grownCap w (len + k) cap e)) (w.drew.alloc (.cells (xs ++ ys ++ (Builtin.zeroCells z.cells (grownCap w (len + k) cap e - (len + k))).toList).toArray e)) := by
  have h63 : ¬ (9223372036854775807 < ((len : Int) + (k : Int))) := by simp only [maxLen] at hm; omega
  have h48 : ¬ (281474976710656 < Builtin.nextslicecap (len + k) cap * i.bytes) := by have := growslice_fits hk hy; omega
  have hn : ¬ (len + k ≤ cap) := by omega
  have hl := hs.len (P := P) w
  have hf := hs.drew.first (P := P)
  have hz' : xs.toArray ++ ys.toArray ++ Builtin.zeroCells z.cells (grownCap w (len + k) cap e - (len + k)) = (xs ++ ys ++ (Builtin.zeroCells z.cells (grownCap w (len + k) cap e - (len + k))).toList).toArray := by
    apply Array.ext'; simp
  rw [← hz']
  unfold noIntT at h2
  split at h2 <;> try (cases h2; done)
  all_goals
    rename_i hd
    have hu2 := underlying_run hd w
    simp [Builtin.append_, underlying_run ht, hu2, Go.sizeOf, typeInfo, zeroValue, hi, hz, hl, hn, hf, hb, h63, h48, Question.forced, newRow, grownCap]
    congr 2
    apply Array.ext'
    simp
theorem putV_all : ∀ (ys xs : List Value), xs.length = ys.length → putV xs 0 ys = ys := by
  intro ys
  have gen : ∀ (ys pre xs : List Value), xs.length = ys.length → putV (pre ++ xs) pre.length ys = pre ++ ys := by
    intro ys
    induction ys with
    | nil => intro pre xs h; cases xs <;> simp at h; simp [putV]
    | cons y ys ih =>
      intro pre xs h
      cases xs with
      | nil => simp at h
      | cons x xs =>
        simp only [putV]
        have e : (pre ++ x :: xs).set pre.length y = (pre ++ [y]) ++ xs := by
          rw [List.set_append_right _ _ (Nat.le_refl _)]; simp
        rw [e]
        have := ih (pre ++ [y]) xs (by simpa using h)
        simpa using this
  intro xs h
  exact gen ys [] xs h
theorem At.drew {f : HP} {As : List Asn} {w : World} (h : At f As w) : At f As w.drew := h.heap rfl
/-- Cells laid into a row. -/
theorem putV_splice {A B C ys : List Value} {a : Nat} (ha : a ≤ B.length) (hl : a + ys.length ≤ B.length + C.length) :
    putV (A ++ B ++ C) (A.length + a) ys = A ++ (B.take a ++ ys ++ B.drop (a + ys.length)) ++ C.drop (a + ys.length - B.length) := by
  have head : ∀ (L : List Value), ys.length ≤ L.length → putV L 0 ys = ys ++ L.drop ys.length := fun L hL => by
    have e3 : L = L.take ys.length ++ L.drop ys.length := (List.take_append_drop _ _).symm
    have e4 : (L.take ys.length).length = ys.length := by simp; omega
    conv => lhs; rw [e3]
    rw [putV_post _ _ _ _ (by omega)]
    congr 1
    exact putV_all _ _ e4
  rw [List.append_assoc, putV_pre]
  have e1 : B ++ C = B.take a ++ (B ++ C).drop a := by
    have := (List.take_append_drop a (B ++ C)).symm
    rw [List.take_append_of_le_length ha] at this
    exact this
  have e2 : a = (B.take a).length + 0 := by rw [List.length_take]; omega
  have e3 : putV (B ++ C) a ys = B.take a ++ (ys ++ (B ++ C).drop (a + ys.length)) := by
    conv => lhs; rw [e1]
    conv => lhs; arg 2; rw [e2]
    rw [putV_pre, head _ (by simp; omega), List.drop_drop]
  rw [e3, List.drop_append]
  simp [List.append_assoc]
/-- Appending, whatever is appended. -/
theorem append_core {P : Program} {f : HP} {w0 : World} {s : St} {a : Act} {w : World} {e : TypeId} {sz bytes : Nat} {z : Value} {x : SV} {u : Value} {K : SV → St → Prop} {k : Nat} {ys : List Value} {run : Value → Result Value}
    (hsz0 : 1 ≤ sz) (hzs : z.cells.size = sz) (hyl : ys.length = k * sz)
    (hplace : ∀ A len cap, len + k ≤ cap → (len + k) * bytes ≤ 140737488355328 → run (.slice A len cap) = (do (match A with | some a => storeCells (a.add (len * sz)) ys | none => pure ()); pure (.slice A (len + k) cap) : Sem Value).run P w)
    (hgrow : ∀ (A : Option Addr) (len cap : Nat) (xs : List Value), (Builtin.firstCells sz len (.slice A len cap)).run P w.drew = .ok xs.toArray w.drew → cap < len + k → len + k ≤ maxLen → (len + k) * bytes ≤ 140737488355328 →
      run (.slice A len cap) = .ok (.slice (some ⟨w.heap.size, 0, none⟩) (len + k) (grownCap w (len + k) cap e)) (w.drew.alloc (.cells (xs ++ ys ++ (Builtin.zeroCells z.cells (grownCap w (len + k) cap e - (len + k))).toList).toArray e)))
    (h : baseD s e sz x fun len xs rest fi => Need ((len + k) * bytes ≤ 140737488355328 ∧ len + k ≤ maxLen ∧ ∀ v ∈ ys, v.oneCell' = true) (addVec s e sz rest (len + k) (xs ++ ys) (fitP len k fi) (fitK s e sz rest len k ys K fi) (growP len k fi) K)) (r : Rel f w0 s a w)
    (hx : den s.nm x = some u) : ∃ sv v' s' w', K sv s' ∧ Rel f w0 s' a w' ∧ den s'.nm sv = some v' ∧ run u = .ok v' w' ∧ NmExt s.nm s'.nm := by
  obtain ⟨len, xs, rest, fi, hh, hxl, hxp, hbase⟩ := base_runs h r hx hsz0
  obtain ⟨⟨hb1, hb2, hb3⟩, hh⟩ := hh
  have hpl : ∀ q ∈ xs ++ ys, q.oneCell' = true := fun q hq => (List.mem_append.1 hq).elim (hxp q) (hb3 q)
  have zl : ∀ m, (Builtin.zeroCells z.cells m).toList.length = m * sz := fun m => by simp [Builtin.zeroCells, hzs]
  -- a new row
  have grow : ∀ (rest : List Ent) (A : Option Addr) (cap : Nat), addVec s e sz rest (len + k) (xs ++ ys) False False False K → cap < len + k → At f (rest.map (entDen s.nm)) w → u = .slice A len cap →
      (Builtin.firstCells sz len (.slice A len cap)).run P w.drew = .ok xs.toArray w.drew →
      ∃ sv v' s' w', K sv s' ∧ Rel f w0 s' a w' ∧ den s'.nm sv = some v' ∧ run u = .ok v' w' ∧ NmExt s.nm s'.nm := by
    intro rest A cap hh hcap hat hu hf
    subst hu
    have hrun := hgrow A len cap xs hf hcap hb2 hb1
    have hge := grownCap_ge w (len + k) cap e
    have hnew := hat.drew.new (.cells (xs ++ ys ++ (Builtin.zeroCells z.cells (grownCap w (len + k) cap e - (len + k))).toList).toArray e) rfl
    obtain ⟨sv, s', k', r', hd, hx'⟩ := addVec_runs (l := .at w.heap.size 0) (cap := grownCap w (len + k) cap e) (w' := w.drew.alloc (.cells (xs ++ ys ++ (Builtin.zeroCells z.cells (grownCap w (len + k) cap e - (len + k))).toList).toArray e)) hh r hge (fun _ => ⟨_, _, rfl⟩) (Str.trans (b := w.drew) ⟨rfl, rfl, rfl, fun _ _ h _ => h, Nat.le_refl _, Nat.le_succ _⟩ (.alloc _ _))
      (hnew.head fun g hg => ⟨hpl, .inr ⟨_, _, [], _, rfl, by simpa using hg, rfl, by
        rw [List.length_append, hxl, hyl, zl, ← Nat.add_mul, ← Nat.add_mul, Nat.add_sub_cancel' hge]; exact Nat.le_refl _⟩⟩)
    exact ⟨sv, _, s', _, k', r', hd, by simpa [locAddr] using hrun, hx'⟩
  -- nothing on nothing
  have nothing : ∀ (cap : Nat), addVec s e sz rest (len + k) (xs ++ ys) False False False K → u = .slice none 0 cap → len = 0 → xs = [] → cap = 0 → At f (rest.map (entDen s.nm)) w →
      ∃ sv v' s' w', K sv s' ∧ Rel f w0 s' a w' ∧ den s'.nm sv = some v' ∧ run u = .ok v' w' ∧ NmExt s.nm s'.nm := by
    intro cap hh hu hl hxs hcap hat
    subst hcap
    rcases Nat.eq_zero_or_pos k with hk | hk
    · subst hk
      have hys : ys = [] := by simpa using hyl
      have hrun := hplace Option.none 0 0 (Nat.le_refl _) (by simp)
      subst hxs; subst hys; subst hl
      obtain ⟨sv, s', k', r', hd, hx'⟩ := addVec_runs (l := .nil) (cap := 0) (w' := w) hh r (Nat.le_refl _) (fun h => by omega) (.refl w)
        (by obtain ⟨g, hg1, hg2⟩ := hat; exact ⟨g, hg1, HP.emp, g, .emp_left g, ⟨by simp, .inl ⟨rfl, rfl, rfl⟩⟩, hg2⟩)
      refine ⟨sv, _, s', _, k', r', hd, ?_, hx'⟩
      rw [hu, hrun]; simp [locAddr]
    · refine grow rest Option.none 0 hh (by omega) hat (by rw [hu, hl]) ?_
      subst hxs; rfl
  rcases hbase with ⟨hu, hl, hxs, hr, hfi⟩ | ⟨cap, hu, hl, hxs, hcap, hat, hnf, hng⟩ | ⟨b, o, cap, pre, post, hfi, hu, hlc, ho, hcap, hblk, hat⟩
  · subst hr; subst hfi
    rcases addVec_cases hh with ⟨h1, _⟩ | ⟨h1, _⟩ | ⟨h1, _⟩ | hh
    · exact h1.elim
    · exact h1.elim
    · exact h1.elim
    · exact nothing 0 hh hu hl hxs rfl r.heap
  · subst hl
    subst hxs; subst hcap
    rcases addVec_cases hh with ⟨h1, _⟩ | ⟨h1, h2, hh⟩ | ⟨h1, h2, _⟩ | hh
    · exact absurd h1 (hnf k)
    · exact grow s.hp Option.none 0 hh (by omega) r.heap hu rfl
    · exact absurd h1 (hng k (by omega))
    · exact nothing 0 hh hu rfl rfl rfl hat
  · by_cases hfit : len + k ≤ cap
    · have hrun := hplace (some ⟨b, o, Option.none⟩) len cap hfit hb1
      have hsize : (xs ++ ys).length ≤ cap * sz := by
        rw [List.length_append, hxl, hyl, ← Nat.add_mul]; exact Nat.mul_le_mul_right _ hfit
      rw [List.length_append] at hsize
      obtain ⟨w', h3, h4⟩ := turned_many (P := P) ys w _ (o + len * sz) 0 hblk (by simp; omega) hb3
      rcases addVec_cases hh with ⟨_, h1⟩ | ⟨h1, _⟩ | ⟨h1, _⟩ | hh
      rotate_left
      · rcases hfi with rfl | ⟨n, lo, capE, xsA, oA, preA, postA, rfl, _⟩
        · exact h1.elim
        · simp only [growP] at h1; omega
      · rcases hfi with rfl | ⟨n, lo, capE, xsA, oA, preA, postA, rfl, _⟩
        · exact h1.elim
        · simp only [growP] at h1; omega
      rotate_left
      · rcases hfi with rfl | ⟨n, lo, capE, xsA, oA, preA, postA, rfl, hg, hoA, hpA, hsame, hcE, hlo, hplA, hloA⟩
        · exact h1.elim
        obtain ⟨n0, env, nm, next, hp⟩ := s
        simp only [fitK] at h1
        have hpos : o + len * sz = preA.length + (lo + len * sz) := by omega
        have hfits : lo + len * sz + ys.length ≤ xsA.length + postA.length := by
          have : (len + k) * sz ≤ cap * sz := Nat.mul_le_mul_right _ hfit
          rw [Nat.add_mul, ← hyl] at this
          omega
        have hput := putV_splice (A := preA) (B := xsA) (C := postA) (a := lo + len * sz) (ys := ys) hloA hfits
        rw [hsame, ← hpos] at hput
        have ey : lo + len * sz + ys.length = lo + (len + k) * sz := by rw [hyl, Nat.add_mul]; omega
        rw [ey] at hput
        refine ⟨_, .slice (some ⟨b, o, none⟩) (len + k) cap, _, w', h1, ⟨r.defers.str h4.str, r.size, r.env, ?_, r.str.trans h4.str⟩, by simp only [den, hg, locAddr, hoA], ?_, NmExt.refl _⟩
        · obtain ⟨g, hg1, g2, g3, t2, hg2, hg3⟩ := hat.turned h4
          refine ⟨g, hg1, g2, g3, t2, ⟨_, hg, ?_, .inr ⟨b, oA, preA, postA.drop (lo + (len + k) * sz - xsA.length), rfl, ?_, hpA, ?_⟩⟩, hg3⟩
          · intro v hv
            rcases List.mem_append.1 hv with hv | hv
            · rcases List.mem_append.1 hv with hv | hv
              · exact hplA v (List.mem_of_mem_take hv)
              · exact hb3 v hv
            · exact hplA v (List.mem_of_mem_drop hv)
          · rw [← hput]; simpa using hg2
          · simp only [List.length_append, List.length_take, List.length_drop, hyl]
            rw [hyl, Nat.add_mul] at *
            omega
        · rw [hu, hrun]
          simp [addr_add, h3]
      obtain ⟨sv, s', k', r', hd, hx'⟩ := addVec_runs (l := .at b o) (cap := cap) (w' := w') hh r hfit (fun _ => ⟨_, _, rfl⟩) h4.str
        ((hat.turned h4).head fun g hg => ⟨hpl, .inr ⟨_, _, pre, post.drop ys.length, rfl, by
          have hput := putV_splice (A := pre) (B := xs) (C := post) (a := xs.length) (ys := ys) (Nat.le_refl _) (by omega)
          rw [List.take_length, show xs.length + ys.length - xs.length = ys.length by omega, List.drop_of_length_le (by omega), List.append_nil, show pre.length + xs.length = o + len * sz by omega] at hput
          rw [← hput]; simpa using hg, ho, by simp; omega⟩⟩)
      refine ⟨sv, _, s', _, k', r', hd, ?_, hx'⟩
      rw [hu, hrun]
      simp [addr_add, h3, locAddr]
    · have hfc : (Builtin.firstCells sz len (.slice (some ⟨b, o, none⟩) len cap)).run P w.drew = .ok xs.toArray w.drew :=
        run_firstCells_some _ sz len _ len cap xs hxl (lies_src (b := b) (o := o) (vec_lies (t := e) (post := post) hblk ho))
      rcases addVec_cases hh with ⟨h1, _⟩ | ⟨h1, h2, hh⟩ | ⟨h1, h2, _⟩ | hh
      · rcases hfi with rfl | ⟨n, lo, capE, xsA, oA, preA, postA, rfl, _⟩
        · exact h1.elim
        · simp only [fitP] at h1; omega
      · exact grow s.hp _ cap hh (by omega) r.heap hu hfc
      · omega
      · exact grow rest _ cap hh (by omega) hat.tail hu hfc
theorem appendB_runs {P : Program} {f : HP} {w0 : World} {s : St} {a : Act} {w : World} {t t2 ty : TypeId} {x y : SV} {u v : Value} {K : SV → St → Prop} (h : appendB P f s t x y K) (h2 : noIntT P t2 = true) (r : Rel f w0 s a w)
    (hx : den s.nm x = some u) (hy : den s.nm y = some v) : ∃ sv v' s' w', K sv s' ∧ Rel f w0 s' a w' ∧ den s'.nm sv = some v' ∧ (Builtin.append_ #[t, t2] ty #[u, v]).run P w = .ok v' w' ∧ NmExt s.nm s'.nm := by
  unfold appendB at h
  split at h <;> try exact h.elim
  rename_i e ht
  split at h <;> try exact h.elim
  rename_i n1 n2 sz bytes n3 n4 n5 z n6 n7 hi
  obtain ⟨hc, hh⟩ := cond_some h
  clear h
  simp only [Bool.and_eq_true] at hc
  have h0 := Nat.le_of_ble_eq_true hc.1
  have hzs := Nat.eq_of_beq_eq_true hc.2
  obtain ⟨k, ys, hh, hsrc⟩ := srcD_runs hh r hy h0
  exact append_core (run := fun u => (Builtin.append_ #[t, t2] ty #[u, v]).run P w) h0 hzs hsrc.1 (fun A len cap hfit _ => append_place (ty := ty) ht h2 hi hsrc hfit)
    (fun A len cap xs hf hcap hm hb => append_grow (ty := ty) ht h2 hi rfl hsrc hf hcap hm hb) hh r hx
/-- A slice that is told by its address is given a name. -/
inductive RawSl (s : St) (x : SV) (K : SV → St → Prop) : Prop
  | same (k : K x s)
  | name (s' : St) (x' : SV) (g : Ghost s s') (hn : NmExt s.nm s'.nm) (he : ∀ v, den s.nm x = some v → den s'.nm x' = some v) (k : K x' s')
theorem RawSl.vec {s : St} {v : Value} {K : SV → St → Prop} (pl : Plc) (x' : SV) (hp' : List Ent) (hf : getN s.nm s.next = none) (hd : den ((s.next, pl) :: s.nm) x' = some v) (hh : ∀ h, sat s.ents h → sat (hp'.map (entDen ((s.next, pl) :: s.nm))) h)
    (k : K x' ⟨s.n, s.env, (s.next, pl) :: s.nm, s.next + 1, hp'⟩) : RawSl s (.raw v) K :=
  .name ⟨s.n, s.env, (s.next, pl) :: s.nm, s.next + 1, hp'⟩ x' ⟨rfl, fun a h => h.ext (.push hf), hh⟩ (.push hf) (fun u hu => by simp only [den, Option.some.injEq] at hu; subst hu; exact hd) k
def appendD (P : Program) (f : HP) (s : St) (t : TypeId) (x y : SV) (K : SV → St → Prop) : Prop :=
  match x with
  | .raw v => RawSl s (.raw v) fun x' s' => appendB P f s' t x' y K
  | x => appendB P f s t x y K
theorem append_runs {P : Program} {f : HP} {w0 : World} {s : St} {a : Act} {w : World} {t t2 ty : TypeId} {x y : SV} {u v : Value} {K : SV → St → Prop} (h : appendD P f s t x y K) (h2 : noIntT P t2 = true) (r : Rel f w0 s a w)
    (hx : den s.nm x = some u) (hy : den s.nm y = some v) : ∃ sv v' s' w', K sv s' ∧ Rel f w0 s' a w' ∧ den s'.nm sv = some v' ∧ (Builtin.append_ #[t, t2] ty #[u, v]).run P w = .ok v' w' ∧ NmExt s.nm s'.nm := by
  unfold appendD at h
  split at h
  · cases h with
    | same k => exact appendB_runs k h2 r hx hy
    | name s' x' g hn he k =>
      obtain ⟨sv, v', s'', w', k', r', hd, hr, hx'⟩ := appendB_runs k h2 (r.ghost g) (he _ hx) (den_ext hn _ _ hy)
      exact ⟨sv, v', s'', w', k', r', hd, hr, hn.trans hx'⟩
  · exact appendB_runs h h2 r hx hy
end Sx
