/- The symbolic run of the other operations that look at values alone. Conditions: none. -/
import Derived.Test.YtiknkeakielncaaE3
namespace Sx
open Go

/-- An operation's own run, whatever the world: it hands back this and leaves the world. -/
def Quiet (P : Program) (ρ : Operand → Value) (o : Oper) (v : Value) : Prop := ∀ w, (execOp ρ o).run P w = .ok (.value v) w

/-! ### Lists of cells -/
def nth : List SV → Nat → Option SV
  | [], _ => none
  | v :: _, 0 => some v
  | _ :: l, n + 1 => nth l n
theorem nth_eq : ∀ (l : List SV) (n : Nat), nth l n = l[n]?
  | [], _ => by simp [nth]
  | v :: l, 0 => by simp [nth]
  | v :: l, n + 1 => by simp [nth, nth_eq l n]
def dropL : List SV → Nat → List SV
  | l, 0 => l
  | [], _ + 1 => []
  | _ :: l, n + 1 => dropL l n
def takeL : List SV → Nat → List SV
  | _, 0 => []
  | [], _ + 1 => []
  | v :: l, n + 1 => v :: takeL l n
theorem dropL_eq : ∀ (l : List SV) (n : Nat), dropL l n = l.drop n
  | l, 0 => by simp [dropL]
  | [], n + 1 => by simp [dropL]
  | v :: l, n + 1 => by simp [dropL, dropL_eq l n]
theorem takeL_eq : ∀ (l : List SV) (n : Nat), takeL l n = l.take n
  | l, 0 => by simp [takeL]
  | [], n + 1 => by simp [takeL]
  | v :: l, n + 1 => by simp [takeL, takeL_eq l n]
def lenL : List SV → Nat
  | [] => 0
  | _ :: l => lenL l + 1
theorem lenL_eq : ∀ l : List SV, lenL l = l.length
  | [] => rfl
  | _ :: l => by simp [lenL, lenL_eq l]
theorem denL_take {nm : List (Nat × Plc)} : ∀ {l : List SV} {u : List Value} (n : Nat), denL nm l = some u → denL nm (l.take n) = some (u.take n)
  | _, _, 0, _ => by simp [denL]
  | [], u, n + 1, h => by simp [denL] at h; subst h; simp [denL]
  | x :: l, u, n + 1, h => by
    simp only [denL] at h
    obtain ⟨a, b, e1, e2, rfl⟩ := consO_some h
    simp only [List.take_succ_cons, denL, e1, denL_take n e2, consO]
theorem denL_drop {nm : List (Nat × Plc)} : ∀ {l : List SV} {u : List Value} (n : Nat), denL nm l = some u → denL nm (l.drop n) = some (u.drop n)
  | _, _, 0, h => by simpa using h
  | [], u, n + 1, h => by simp [denL] at h; subst h; simp [denL]
  | x :: l, u, n + 1, h => by
    simp only [denL] at h
    obtain ⟨a, b, e1, e2, rfl⟩ := consO_some h
    simpa using denL_drop n e2

def isAggT (P : Program) (t : TypeId) : Option Bool :=
  match P.underlying t with
  | some (.struct _) | some (.array _ _) => some true
  | some _ => some false
  | none => none
theorem isAgg_run {P : Program} {t : TypeId} {b : Bool} (h : isAggT P t = some b) (w : World) : (isAgg t).run P w = .ok b w := by
  unfold isAggT at h
  unfold isAgg
  simp only [Sem.run_bind]
  cases e : P.underlying t with
  | none => rw [e] at h; cases h
  | some d =>
    rw [underlying_run e]
    rw [e] at h
    cases d <;> simp at h <;> subst h <;> rfl
theorem sizeOf_run {P : Program} {t : TypeId} {i : TypeInfo} (h : P.info? t = some i) (w : World) : (Go.sizeOf t).run P w = .ok i.size w := by simp [Go.sizeOf, typeInfo, h]
/-- A part of a struct or an array: its cells from 'off' on. -/
def partD (P : Program) (t : TypeId) (l : List SV) (off : Nat) (K : SV → Prop) : Prop :=
  match isAggT P t with
  | some true => match P.info? t with
    | some i => forceL (takeL (dropL l off) i.size) fun l' => K (.agg l')
    | none => False
  | some false => forceO (nth l off) K
  | none => False
theorem part_runs {P : Program} {nm : List (Nat × Plc)} {t : TypeId} {l : List SV} {u : List Value} {off : Nat} {K : SV → Prop} (h : partD P t l off K) (hl : denL nm l = some u) :
    ∃ sv v, K sv ∧ den nm sv = some v ∧ ∀ w, (part t u.toArray off).run P w = .ok v w := by
  unfold partD at h
  split at h
  · rename_i e
    split at h
    · rename_i i hi
      rw [forceL_eq, takeL_eq, dropL_eq] at h
      refine ⟨_, .agg ((u.drop off).take i.size).toArray, h, by simp [den, denL_take _ (denL_drop _ hl), mapO], fun w => ?_⟩
      simp [part, isAgg_run e, sizeOf_run hi, List.extract_eq_take_drop]
    · exact h.elim
  · rename_i e
    obtain ⟨x, hx, k⟩ := forceO_some h
    rw [nth_eq] at hx
    obtain ⟨y, hy, hd⟩ := denL_nth hl _ _ hx
    exact ⟨x, y, k, hd, fun w => by simp [part, isAgg_run e, hy]⟩
  · exact h.elim

/-! ### Addresses -/
def fieldAddrD (P : Program) (t : TypeId) (f : Nat) (x : SV) (K : SV → Prop) : Prop :=
  match P.underlying t with
  | some (.struct fs) => match fs[f]? with
    | some ⟨_, ty, off, _, _, _, _⟩ => match P.info? ty with
      | some i => match i.size with
        | 0 => False
        | _ + 1 => match x with
          | .ptr n o => K (.ptr n (o + off))
          | .raw (.pointer (some ⟨b, o, none⟩)) => K (.raw (.pointer (some ⟨b, o + off, none⟩)))
          | _ => False
      | none => False
    | none => False
  | _ => False
theorem addr_add (b o n : Nat) : (⟨b, o, none⟩ : Addr).add n = ⟨b, o + n, none⟩ := by
  unfold Addr.add; split <;> simp_all
theorem locAddr_some {off : Nat} {l : Plc} {a : Addr} (h : locAddr off l = some a) : ∃ b o, l = .at b o ∧ a = ⟨b, o + off, none⟩ := by
  cases l with
  | nil => simp [locAddr] at h
  | «at» b o => simp only [locAddr, Option.some.injEq] at h; exact ⟨b, o, rfl, h.symm⟩
theorem fieldAddr_runs {P : Program} {nm : List (Nat × Plc)} {t : TypeId} {f : Nat} {x : SV} {v : Value} {K : SV → Prop} (h : fieldAddrD P t f x K) (hx : den nm x = some v) (hv : v ≠ .pointer none) :
    ∃ sv u, K sv ∧ den nm sv = some u ∧ ∀ w, (Instr.fieldAt t v f).run P w = .ok u w := by
  unfold fieldAddrD at h
  split at h <;> try exact h.elim
  rename_i fs hu
  split at h <;> try exact h.elim
  rename_i nme ty off e1 e2 e3 e4 hf
  split at h <;> try exact h.elim
  rename_i i hi
  split at h <;> try exact h.elim
  rename_i m hs
  split at h <;> try exact h.elim
  · rename_i n o
    simp only [den] at hx
    split at hx <;> simp only [Option.some.injEq, reduceCtorEq] at hx
    rename_i l hl
    cases l with
    | nil => exact absurd hx.symm (by simpa [locAddr] using hv)
    | «at» b p =>
      subst hx
      refine ⟨_, .pointer (some ⟨b, p + (o + off), none⟩), h, by simp [den, hl, locAddr], fun w => ?_⟩
      simp [Instr.fieldAt, underlying_run hu, hf, Instr.sureAddr, locAddr, fieldPlace, sizeOf_run hi, hs, addr_add, Nat.add_assoc]
  · rename_i b o
    simp only [den, Option.some.injEq] at hx
    subst hx
    refine ⟨_, .pointer (some ⟨b, o + off, none⟩), h, rfl, fun w => ?_⟩
    simp [Instr.fieldAt, underlying_run hu, hf, Instr.sureAddr, fieldPlace, sizeOf_run hi, hs, addr_add]

/-- A raw slice's place, as its owner shows it. -/
inductive RawAt (A : Option Addr) (K : Nat → Nat → Prop) : Prop
  | mk (b o : Nat) (h : A = some ⟨b, o, none⟩) (k : K b o)
def indexAddrD (P : Program) (nm : List (Nat × Plc)) (t : TypeId) (x : SV) (i : Int) (K : SV → Prop) : Prop :=
  match P.underlying t with
  | some (.slice e) => match P.info? e with
    | some ⟨_, _, sz, _, _, _, _, _, _, _⟩ => match x with
      | .sl n lo len _ => match getN nm n with
        | some (.at _ _) => Need (0 ≤ i ∧ i < len) (K (.ptr n (lo + i.toNat * sz)))
        | _ => False
      | .raw (.slice A len _) => Need (0 ≤ i ∧ i < len) (RawAt A fun b o => K (.raw (.pointer (some ⟨b, o + i.toNat * sz, none⟩))))
      | _ => False
    | none => False
  | some (.array len e) => match P.info? e with
    | some ⟨_, _, sz, _, _, _, _, _, _, _⟩ => match x with
      | .ptr n o => match getN nm n with
        | some (.at _ _) => Need (0 ≤ i ∧ i < len) (K (.ptr n (o + i.toNat * sz)))
        | _ => False
      | .raw (.pointer (some ⟨b, o, none⟩)) => Need (0 ≤ i ∧ i < len) (K (.raw (.pointer (some ⟨b, o + i.toNat * sz, none⟩))))
      | _ => False
    | none => False
  | _ => False
theorem indexAddr_runs {P : Program} {nm : List (Nat × Plc)} {t : TypeId} {x : SV} {v : Value} {k : IntKind} {i : Int} {K : SV → Prop} (h : indexAddrD P nm t x i K) (hx : den nm x = some v) :
    ∃ sv u, K sv ∧ den nm sv = some u ∧ ∀ w, (Instr.indexAt t v (.int k i)).run P w = .ok u w := by
  unfold indexAddrD at h
  split at h <;> try exact h.elim
  · rename_i e hu
    split at h <;> try exact h.elim
    rename_i e1 e2 sz e3 e4 e5 e6 e7 e8 e9 hi
    split at h <;> try exact h.elim
    · rename_i n lo len cap
      split at h <;> try exact h.elim
      rename_i b p hn
      obtain ⟨hb, h⟩ := h
      simp only [den, hn, Option.some.injEq] at hx
      subst hx
      refine ⟨_, .pointer (some ⟨b, p + (lo + i.toNat * sz), none⟩), h, by simp [den, hn, locAddr], fun w => ?_⟩
      simp [Instr.indexAt, asIntOf, underlying_run hu, locAddr, hb, sizeOf_run hi, addr_add, Nat.add_assoc]
    · rename_i A len cap
      obtain ⟨hb, b, o, hA, h⟩ := h
      simp only [den, Option.some.injEq] at hx
      subst hx; subst hA
      refine ⟨_, .pointer (some ⟨b, o + i.toNat * sz, none⟩), h, rfl, fun w => ?_⟩
      simp [Instr.indexAt, asIntOf, underlying_run hu, hb, sizeOf_run hi, addr_add]
  · rename_i len e hu
    split at h <;> try exact h.elim
    rename_i e1 e2 sz e3 e4 e5 e6 e7 e8 e9 hi
    split at h <;> try exact h.elim
    · rename_i n o
      split at h <;> try exact h.elim
      rename_i b p hn
      obtain ⟨hb, h⟩ := h
      simp only [den, hn, Option.some.injEq] at hx
      subst hx
      refine ⟨_, .pointer (some ⟨b, p + (o + i.toNat * sz), none⟩), h, by simp [den, hn, locAddr], fun w => ?_⟩
      simp [Instr.indexAt, asIntOf, underlying_run hu, locAddr, Instr.sureAddr, hb, sizeOf_run hi, addr_add, Nat.add_assoc]
    · rename_i b o
      obtain ⟨hb, h⟩ := h
      simp only [den, Option.some.injEq] at hx
      subst hx
      refine ⟨_, .pointer (some ⟨b, o + i.toNat * sz, none⟩), h, rfl, fun w => ?_⟩
      simp [Instr.indexAt, asIntOf, underlying_run hu, Instr.sureAddr, hb, sizeOf_run hi, addr_add]

/-! ### Slicing -/
def optI : Option SV → Option (Option Int)
  | none => some none
  | some (.int _ n) => some (some n)
  | some _ => none
def sliceAtD (P : Program) (t : TypeId) (x : SV) (lo hi : Option Int) (K : SV → Prop) : Prop :=
  match P.underlying t, x with
  | some (.slice e), .sl n o len cap => match P.info? e with
    | some ⟨_, _, sz, _, _, _, _, _, _, _⟩ => match lo, hi with
      | none, none => K (.sl n o len cap)
      | some l, none => Need (0 ≤ l ∧ l ≤ len) (K (.sl n (if cap = l.toNat then o else o + l.toNat * sz) (len - l.toNat) (cap - l.toNat)))
      | none, some h => Need (0 ≤ h ∧ h ≤ cap) (K (.sl n o h.toNat cap))
      | some l, some h => Need (0 ≤ l ∧ l ≤ h ∧ h ≤ cap) (K (.sl n (if cap = l.toNat then o else o + l.toNat * sz) (h.toNat - l.toNat) (cap - l.toNat)))
    | none => False
  | some (.slice e), .raw (.slice A len cap) => match P.info? e with
    | some ⟨_, _, sz, _, _, _, _, _, _, _⟩ => match lo, hi with
      | none, none => K (.raw (.slice A len cap))
      | some l, none => Need (0 ≤ l ∧ l ≤ len) (K (.raw (.slice (if cap = l.toNat then A else A.map (·.add (l.toNat * sz))) (len - l.toNat) (cap - l.toNat))))
      | none, some h => Need (0 ≤ h ∧ h ≤ cap) (K (.raw (.slice A h.toNat cap)))
      | some l, some h => Need (0 ≤ l ∧ l ≤ h ∧ h ≤ cap) (K (.raw (.slice (if cap = l.toNat then A else A.map (·.add (l.toNat * sz))) (h.toNat - l.toNat) (cap - l.toNat))))
    | none => False
  | some .string, .str s => match lo, hi with
    | none, none => K (.str (s.extract 0 s.size))
    | some l, none => Need (0 ≤ l ∧ l ≤ s.size) (K (.str (s.extract l.toNat s.size)))
    | none, some h => Need (0 ≤ h ∧ h ≤ s.size) (K (.str (s.extract 0 h.toNat)))
    | some l, some h => Need (0 ≤ l ∧ l ≤ h ∧ h ≤ s.size) (K (.str (s.extract l.toNat h.toNat)))
  | _, _ => False
end Sx
