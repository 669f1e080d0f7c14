/- Slicing, conversions, builtins and building, symbolically; the operations that look at values alone, all together. Conditions: none. -/
import Derived.Test.YtiknkeakielncaaE4
namespace Sx
open Go

theorem asInt_of {nm : List (Nat × Plc)} {k : IntKind} {n : Int} {v : Value} (h : den nm (.int k n) = some v) : v = .int k n := by simpa [den, eq_comm] using h

theorem bound_run {P : Program} (k : IntKind) (i : Int) (y : Nat) (c : BoundsCode) (h : 0 ≤ i ∧ i ≤ y) (w : World) : (Instr.sliceBound (.int k i) y c).run P w = .ok i.toNat w := by
  simp [Instr.sliceBound, asIntOf, h]

theorem locAddr_add (l : Plc) (o n : Nat) : (locAddr o l).map (·.add n) = locAddr (o + n) l := by
  cases l <;> simp [locAddr, addr_add, Nat.add_assoc]

theorem map_add0 (A : Option Addr) : A.map (·.add 0) = A := by cases A <;> simp [Addr.add]
def LoHi (x : Option Value) (i : Option Int) : Prop := match x, i with
  | none, none => True
  | some v, some n => ∃ k, v = .int k n
  | _, _ => False

/-- x[l:h:m]. -/
def sliceMaxD (P : Program) (t : TypeId) (x : SV) (lo hi : Option Int) (m : Int) (K : SV → Prop) : Prop :=
  match P.underlying t, x, lo, hi with
  | some (.slice e), .sl n o _ cap, some l, some h => match P.info? e with
    | some ⟨_, _, sz, _, _, _, _, _, _, _⟩ => Need (0 ≤ l ∧ l ≤ h ∧ h ≤ m ∧ m ≤ cap) (K (.sl n (if m.toNat = l.toNat then o else o + l.toNat * sz) (h.toNat - l.toNat) (m.toNat - l.toNat)))
    | none => False
  | _, _, _, _ => False
theorem sliceMax_runs {P : Program} {nm : List (Nat × Plc)} {t : TypeId} {x : SV} {v : Value} {lo hi : Option Int} {vl vh : Option Value} {q : IntKind} {m : Int} {K : SV → Prop} (h : sliceMaxD P t x lo hi m K) (hx : den nm x = some v)
    (hl : LoHi vl lo) (hh : LoHi vh hi) : ∃ sv u, K sv ∧ den nm sv = some u ∧ ∀ w, (Instr.sliceAt t v vl vh (some (.int q m))).run P w = .ok u w := by
  unfold sliceMaxD at h
  split at h <;> try exact h.elim
  rename_i e n o len cap l j hu
  split at h <;> try exact h.elim
  rename_i e1 e2 sz e3 e4 e5 e6 e7 e8 e9 hi
  simp only [den] at hx
  split at hx <;> simp only [Option.some.injEq, reduceCtorEq] at hx
  rename_i pl hn
  subst hx
  cases vl <;> cases vh <;> simp only [LoHi] at hl hh
  obtain ⟨k, rfl⟩ := hl
  obtain ⟨k', rfl⟩ := hh
  obtain ⟨hb, h⟩ := h
  refine ⟨_, .slice (if m.toNat = l.toNat then locAddr o pl else locAddr (o + l.toNat * sz) pl) (j.toNat - l.toNat) (m.toNat - l.toNat), h, by simp only [den, hn]; split <;> rfl, fun w => ?_⟩
  simp [Instr.sliceAt, Instr.slice, Instr.sliceBounds, underlying_run hu, sizeOf_run hi, bound_run _ m cap _ (by omega), bound_run _ j m.toNat _ (by omega), bound_run _ l j.toNat _ (by omega), locAddr_add]
theorem sliceAt_runs {P : Program} {nm : List (Nat × Plc)} {t : TypeId} {x : SV} {v : Value} {lo hi : Option Int} {vl vh : Option Value} {K : SV → Prop} (h : sliceAtD P t x lo hi K) (hx : den nm x = some v)
    (hl : LoHi vl lo) (hh : LoHi vh hi) : ∃ sv u, K sv ∧ den nm sv = some u ∧ ∀ w, (Instr.sliceAt t v vl vh none).run P w = .ok u w := by
  unfold sliceAtD at h
  split at h <;> try exact h.elim
  · rename_i e n o len cap hu
    split at h <;> try exact h.elim
    rename_i e1 e2 sz e3 e4 e5 e6 e7 e8 e9 hi
    simp only [den] at hx
    split at hx <;> simp only [Option.some.injEq, reduceCtorEq] at hx
    rename_i l hn
    subst hx
    split at h <;> (cases vl <;> cases vh <;> simp only [LoHi] at hl hh)
    · exact ⟨_, .slice (locAddr o l) len cap, h, by simp [den, hn], fun w => by simp [Instr.sliceAt, Instr.slice, Instr.sliceBounds, underlying_run hu, sizeOf_run hi, map_add0]⟩
    · obtain ⟨k, rfl⟩ := hl
      obtain ⟨hb, h⟩ := h
      rename_i i
      refine ⟨_, .slice (if cap = i.toNat then locAddr o l else locAddr (o + i.toNat * sz) l) (len - i.toNat) (cap - i.toNat), h, by simp only [den, hn]; split <;> rfl, fun w => ?_⟩
      simp [Instr.sliceAt, Instr.slice, Instr.sliceBounds, underlying_run hu, sizeOf_run hi, bound_run _ _ _ _ hb, locAddr_add]
    · obtain ⟨k, rfl⟩ := hh
      obtain ⟨hb, h⟩ := h
      rename_i i
      refine ⟨_, .slice (locAddr o l) i.toNat cap, h, by simp [den, hn], fun w => ?_⟩
      simp [Instr.sliceAt, Instr.slice, Instr.sliceBounds, underlying_run hu, sizeOf_run hi, bound_run _ _ _ _ hb, map_add0]
    · obtain ⟨k, rfl⟩ := hl
      obtain ⟨k', rfl⟩ := hh
      obtain ⟨hb, h⟩ := h
      rename_i i j
      refine ⟨_, .slice (if cap = i.toNat then locAddr o l else locAddr (o + i.toNat * sz) l) (j.toNat - i.toNat) (cap - i.toNat), h, by simp only [den, hn]; split <;> rfl, fun w => ?_⟩
      simp [Instr.sliceAt, Instr.slice, Instr.sliceBounds, underlying_run hu, sizeOf_run hi, bound_run _ j cap _ (by omega), bound_run _ i j.toNat _ (by omega), locAddr_add]
  · rename_i e A len cap hu
    split at h <;> try exact h.elim
    rename_i e1 e2 sz e3 e4 e5 e6 e7 e8 e9 hi
    simp only [den, Option.some.injEq] at hx
    subst hx
    split at h <;> (cases vl <;> cases vh <;> simp only [LoHi] at hl hh)
    · exact ⟨_, _, h, rfl, fun w => by simp [Instr.sliceAt, Instr.slice, Instr.sliceBounds, underlying_run hu, sizeOf_run hi, map_add0]⟩
    · obtain ⟨k, rfl⟩ := hl
      obtain ⟨hb, h⟩ := h
      rename_i i
      refine ⟨_, _, h, rfl, fun w => ?_⟩
      simp [Instr.sliceAt, Instr.slice, Instr.sliceBounds, underlying_run hu, sizeOf_run hi, bound_run _ _ _ _ hb]
    · obtain ⟨k, rfl⟩ := hh
      obtain ⟨hb, h⟩ := h
      rename_i i
      refine ⟨_, _, h, rfl, fun w => ?_⟩
      simp [Instr.sliceAt, Instr.slice, Instr.sliceBounds, underlying_run hu, sizeOf_run hi, bound_run _ _ _ _ hb, map_add0]
    · obtain ⟨k, rfl⟩ := hl
      obtain ⟨k', rfl⟩ := hh
      obtain ⟨hb, h⟩ := h
      rename_i i j
      refine ⟨_, _, h, rfl, fun w => ?_⟩
      simp [Instr.sliceAt, Instr.slice, Instr.sliceBounds, underlying_run hu, sizeOf_run hi, bound_run _ j cap _ (by omega), bound_run _ i j.toNat _ (by omega)]
  · rename_i s hu
    simp only [den, Option.some.injEq] at hx
    subst hx
    split at h <;> (cases vl <;> cases vh <;> simp only [LoHi] at hl hh)
    · exact ⟨_, _, h, rfl, fun w => by simp [Instr.sliceAt, Instr.slice, Instr.sliceBounds, underlying_run hu]⟩
    · obtain ⟨k, rfl⟩ := hl
      obtain ⟨hb, h⟩ := h
      rename_i i
      refine ⟨_, _, h, rfl, fun w => ?_⟩
      simp [Instr.sliceAt, Instr.slice, Instr.sliceBounds, underlying_run hu, bound_run _ _ _ _ hb]
    · obtain ⟨k, rfl⟩ := hh
      obtain ⟨hb, h⟩ := h
      rename_i i
      refine ⟨_, _, h, rfl, fun w => ?_⟩
      simp [Instr.sliceAt, Instr.slice, Instr.sliceBounds, underlying_run hu, bound_run _ _ _ _ hb]
    · obtain ⟨k, rfl⟩ := hl
      obtain ⟨k', rfl⟩ := hh
      obtain ⟨hb, h⟩ := h
      rename_i i j
      refine ⟨_, _, h, rfl, fun w => ?_⟩
      simp [Instr.sliceAt, Instr.slice, Instr.sliceBounds, underlying_run hu, bound_run _ j s.size _ (by omega), bound_run _ i j.toNat _ (by omega)]

/-! ### One value -/
def unD (op : UnOp) (x : SV) (K : SV → Prop) : Prop :=
  match op, x with
  | .not, .tt => K .ff
  | .not, .ff => K .tt
  | .not, .bool b => K (.bool (!b))
  | .neg, .int k n => K (.int k (k.wrap (0 - n)))
  | .xor, .int k n => K (.int k (bitsOf k (· ^^^ ·) (if k.signed then -1 else k.max) n))
  | _, _ => False
theorem un_runs {P : Program} {nm : List (Nat × Plc)} {op : UnOp} {x : SV} {v : Value} {K : SV → Prop} (h : unD op x K) (hx : den nm x = some v) :
    ∃ sv u, K sv ∧ den nm sv = some u ∧ ∀ w, (Op.unary op v).run P w = .ok u w := by
  unfold unD at h
  split at h <;> try exact h.elim
  all_goals
    simp only [den, Option.some.injEq] at hx
    subst hx
    exact ⟨_, _, h, rfl, fun w => by simp [Op.unary, Op.intArith, Op.intBits, bitsOf]⟩

def convD (P : Program) (s d : TypeId) (x : SV) (K : SV → Prop) : Prop :=
  match P.underlying s, P.underlying d, x with
  | some _, some (.int k), .int _ n => K (.int k (k.wrap n))
  | some _, some .string, .str b => K (.str b)
  | _, _, _ => False
theorem conv_runs {P : Program} {nm : List (Nat × Plc)} {s d : TypeId} {x : SV} {v : Value} {K : SV → Prop} (h : convD P s d x K) (hx : den nm x = some v) :
    ∃ sv u, K sv ∧ den nm sv = some u ∧ ∀ w, (convert s d v).run P w = .ok u w := by
  unfold convD at h
  split at h <;> try exact h.elim
  · rename_i h1 h2
    simp only [den, Option.some.injEq] at hx
    subst hx
    exact ⟨_, _, h, rfl, fun w => by simp [convert, underlying_run h1, underlying_run h2, Conv.intToInt]⟩
  · rename_i h1 h2
    simp only [den, Option.some.injEq] at hx
    subst hx
    exact ⟨_, _, h, rfl, fun w => by simp [convert, underlying_run h1, underlying_run h2]⟩

def mkIfcD (P : Program) (t : TypeId) (x : SV) (K : SV → Prop) : Prop :=
  match P.underlying t with
  | some (.interface _) => False
  | some _ => K (.ifc t x)
  | none => False
theorem mkIfc_runs {P : Program} {nm : List (Nat × Plc)} {t : TypeId} {x : SV} {v : Value} {K : SV → Prop} (h : mkIfcD P t x K) (hx : den nm x = some v) :
    ∃ sv u, K sv ∧ den nm sv = some u ∧ ∀ w, (Instr.makeInterface t v).run P w = .ok u w := by
  unfold mkIfcD at h
  split at h <;> try exact h.elim
  rename_i d h1 h2
  refine ⟨_, _, h, by simp [den, hx, mapV]; rfl, fun w => ?_⟩
  simp only [Instr.makeInterface, Sem.run_bind, underlying_run h2, Result.andThen_ok]
  cases d <;> first
    | exact absurd rfl (h1 _)
    | rfl

def assertD (P : Program) (x : SV) (t : TypeId) (ok : Bool) (K : SV → Prop) : Prop :=
  match P.underlying t, x with
  | some (.interface _), _ => False
  | some _, .ifc u v => bif Nat.beq u t then (match ok with | true => K (.tuple [v, .tt]) | false => force v K) else
    (match ok with
    | true => match P.info? t with
      | some ⟨_, _, _, _, _, _, _, some z, _, _⟩ => force (ofV z) fun z' => K (.tuple [z', .ff])
      | _ => False
    | false => False)
  | _, _ => False
theorem assert_runs {P : Program} {nm : List (Nat × Plc)} {t s : TypeId} {ok : Bool} {x : SV} {v : Value} {K : SV → Prop} (h : assertD P x t ok K) (hx : den nm x = some v) :
    ∃ sv u, K sv ∧ den nm sv = some u ∧ ∀ w, (Instr.typeAssert v s t ok).run P w = .ok u w := by
  unfold assertD at h
  split at h <;> try exact h.elim
  rename_i d u y h1 h2
  simp only [den] at hx
  cases e : den nm y with
  | none => rw [e] at hx; simp [mapV] at hx
  | some z =>
    rw [e] at hx
    simp only [mapV, Option.some.injEq] at hx
    subst hx
    by_cases hut : u = t
    · subst hut
      have : Nat.beq u u = true := by simp
      simp only [this, cond_true] at h
      split at h
      · refine ⟨_, _, h, by simp [den, denL, e, consO, mapO]; rfl, fun w => ?_⟩
        simp only [Instr.typeAssert, Sem.run_bind, underlying_run h2, Result.andThen_ok]
        cases d <;> first
          | exact absurd rfl (h1 _)
          | (simp; done)
      · rw [force_eq] at h
        refine ⟨_, _, h, e, fun w => ?_⟩
        simp only [Instr.typeAssert, Sem.run_bind, underlying_run h2, Result.andThen_ok]
        cases d <;> first
          | exact absurd rfl (h1 _)
          | (simp; done)
    · have : Nat.beq u t = false := beq_no hut
      simp only [this, cond_false] at h
      split at h <;> try exact h.elim
      split at h <;> try exact h.elim
      rename_i hi
      rw [force_eq] at h
      refine ⟨_, _, h, by simp [den, denL, den_ofV, consO, mapO]; rfl, fun w => ?_⟩
      simp only [Instr.typeAssert, Sem.run_bind, underlying_run h2, Result.andThen_ok]
      cases d <;> first
        | exact absurd rfl (h1 _)
        | (simp [hut, zeroValue, typeInfo, hi]; done)

/-! ### len, cap, min, max -/
def lenD (P : Program) (t : TypeId) (x : SV) (K : SV → Prop) : Prop :=
  match P.underlying t with
  | some .string => match x with
    | .str s => K (.int .i64 s.size)
    | _ => False
  | some (.slice _) => match x with
    | .sl _ _ len _ => K (.int .i64 len)
    | .nils => K (.int .i64 0)
    | .raw (.slice _ len _) => K (.int .i64 len)
    | _ => False
  | some (.array n _) => K (.int .i64 n)
  | _ => False
theorem len_runs {P : Program} {nm : List (Nat × Plc)} {t ty : TypeId} {x : SV} {v : Value} {K : SV → Prop} (h : lenD P t x K) (hx : den nm x = some v) :
    ∃ sv u, K sv ∧ den nm sv = some u ∧ ∀ w, (Builtin.len_ #[t] ty #[v]).run P w = .ok u w := by
  unfold lenD at h
  split at h <;> try exact h.elim
  · rename_i hu
    split at h <;> try exact h.elim
    simp only [den, Option.some.injEq] at hx; subst hx
    exact ⟨_, _, h, rfl, fun w => by simp [Builtin.len_, underlying_run hu, goInt]⟩
  · rename_i hu
    split at h <;> try exact h.elim
    · simp only [den] at hx
      split at hx <;> simp only [Option.some.injEq, reduceCtorEq] at hx
      subst hx
      exact ⟨_, _, h, rfl, fun w => by simp [Builtin.len_, underlying_run hu, goInt]⟩
    · simp only [den, Option.some.injEq] at hx; subst hx
      exact ⟨_, _, h, rfl, fun w => by simp [Builtin.len_, underlying_run hu, goInt]⟩
    · simp only [den, Option.some.injEq] at hx; subst hx
      exact ⟨_, _, h, rfl, fun w => by simp [Builtin.len_, underlying_run hu, goInt]⟩
  · rename_i hu
    exact ⟨_, _, h, rfl, fun w => by simp [Builtin.len_, underlying_run hu, goInt]⟩
def capD (P : Program) (t : TypeId) (x : SV) (K : SV → Prop) : Prop :=
  match P.underlying t with
  | some (.slice _) => match x with
    | .sl _ _ _ cap => K (.int .i64 cap)
    | .nils => K (.int .i64 0)
    | .raw (.slice _ _ cap) => K (.int .i64 cap)
    | _ => False
  | _ => False
theorem cap_runs {P : Program} {nm : List (Nat × Plc)} {t ty : TypeId} {x : SV} {v : Value} {K : SV → Prop} (h : capD P t x K) (hx : den nm x = some v) :
    ∃ sv u, K sv ∧ den nm sv = some u ∧ ∀ w, (Builtin.cap_ #[t] ty #[v]).run P w = .ok u w := by
  unfold capD at h
  split at h <;> try exact h.elim
  rename_i hu
  split at h <;> try exact h.elim
  · simp only [den] at hx
    split at hx <;> simp only [Option.some.injEq, reduceCtorEq] at hx
    subst hx
    exact ⟨_, _, h, rfl, fun w => by simp [Builtin.cap_, underlying_run hu, goInt]⟩
  · simp only [den, Option.some.injEq] at hx; subst hx
    exact ⟨_, _, h, rfl, fun w => by simp [Builtin.cap_, underlying_run hu, goInt]⟩
  · simp only [den, Option.some.injEq] at hx; subst hx
    exact ⟨_, _, h, rfl, fun w => by simp [Builtin.cap_, underlying_run hu, goInt]⟩

def minmaxD (mx : Bool) (l : List SV) (K : SV → Prop) : Prop :=
  match l with
  | [.int k x, .int k' y] => bif kEq k k' then (match mx with
    | true => K (.int k (if y > x then y else x))
    | false => K (.int k (if y < x then y else x))) else False
  | _ => False
theorem minmax_runs {P : Program} {nm : List (Nat × Plc)} {mx : Bool} {l : List SV} {u : List Value} {a : Array TypeId} {ty : TypeId} {K : SV → Prop} (h : minmaxD mx l K) (hl : denL nm l = some u) :
    ∃ sv v, K sv ∧ den nm sv = some v ∧ ∀ w, ((match mx with | true => Builtin.max_ a ty u.toArray | false => Builtin.min_ a ty u.toArray) : Sem Value).run P w = .ok v w := by
  unfold minmaxD at h
  split at h <;> try exact h.elim
  obtain ⟨e, h'⟩ := cond_some h
  clear h
  obtain rfl := kEq_eq e
  simp only [denL, den, consO, Option.some.injEq] at hl
  subst hl
  cases mx
  · exact ⟨_, _, h', rfl, fun w => by simp [Builtin.min_, Builtin.min2]⟩
  · exact ⟨_, _, h', rfl, fun w => by simp [Builtin.max_, Builtin.max2]⟩
end Sx
