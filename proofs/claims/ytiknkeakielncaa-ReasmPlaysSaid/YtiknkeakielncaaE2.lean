/- Symbolic values, what they stand for, and the operations that look at nothing but values. Conditions: none. -/
import Derived.Test.YtiknkeakielncaaE1
namespace Sx
open Go

inductive Plc where
  | nil
  | at (b o : Nat)

inductive SV where
  | tt | ff
  | bool (b : Bool)
  | int (k : IntKind) (n : Int)
  | str (s : ByteArray)
  | nilp
  | ptr (n off : Nat)
  | sl (n lo len cap : Nat)
  | nils
  | nilm
  | map (n : Nat)
  | nilf
  | fn (f : Fn) (first caps : List SV)
  | nili
  | ifc (t : TypeId) (v : SV)
  | agg (l : List SV)
  | tuple (l : List SV)
  | raw (v : Value)
  deriving Inhabited

def getN : List (Nat × Plc) → Nat → Option Plc
  | [], _ => none
  | (k, l) :: r, n => bif Nat.beq k n then some l else getN r n

def locAddr (lo : Nat) : Plc → Option Addr
  | .nil => none
  | .at b o => some ⟨b, o + lo, none⟩

def consO : Option Value → Option (List Value) → Option (List Value)
  | some v, some l => some (v :: l)
  | _, _ => none
def mapO (f : List Value → Value) : Option (List Value) → Option Value
  | some l => some (f l)
  | none => none
def mapO2 (f : List Value → List Value → Value) : Option (List Value) → Option (List Value) → Option Value
  | some l, some m => some (f l m)
  | _, _ => none
def mapV (f : Value → Value) : Option Value → Option Value
  | some l => some (f l)
  | none => none

mutual
/-- What a symbolic value stands for. -/
def den (nm : List (Nat × Plc)) : SV → Option Value
  | .tt => some (.bool true)
  | .ff => some (.bool false)
  | .bool b => some (.bool b)
  | .int k n => some (.int k n)
  | .str s => some (.string s)
  | .nilp => some (.pointer none)
  | .ptr n off => match getN nm n with
    | some l => some (.pointer (locAddr off l))
    | none => none
  | .sl n lo len cap => match getN nm n with
    | some l => some (.slice (locAddr lo l) len cap)
    | none => none
  | .nils => some (.slice none 0 0)
  | .nilm => some (.map none)
  | .map n => match getN nm n with
    | some (.at b _) => some (.map (some b))
    | _ => none
  | .nilf => some .nilFunc
  | .fn f first caps => mapO2 (fun x y => .func f x.toArray y.toArray) (denL nm first) (denL nm caps)
  | .nili => some .nilIface
  | .ifc t v => mapV (.iface t ·) (den nm v)
  | .agg l => mapO (fun x => .agg x.toArray) (denL nm l)
  | .tuple l => mapO (fun x => .tuple x.toArray) (denL nm l)
  | .raw v => some v
def denL (nm : List (Nat × Plc)) : List SV → Option (List Value)
  | [] => some []
  | v :: l => consO (den nm v) (denL nm l)
end

/-- Every name keeps its place. -/
def NmExt (nm nm' : List (Nat × Plc)) : Prop := ∀ n l, getN nm n = some l → getN nm' n = some l
theorem NmExt.refl (nm : List (Nat × Plc)) : NmExt nm nm := fun _ _ h => h
theorem NmExt.trans {a b c : List (Nat × Plc)} (h : NmExt a b) (k : NmExt b c) : NmExt a c := fun n l e => k n l (h n l e)
theorem beq_no {a b : Nat} (h : ¬ a = b) : Nat.beq a b = false := Bool.eq_false_iff.2 fun e => h (Nat.eq_of_beq_eq_true e)
theorem NmExt.push {nm : List (Nat × Plc)} {k : Nat} {l : Plc} (h : getN nm k = none) : NmExt nm ((k, l) :: nm) := fun n m e => by
  unfold getN
  by_cases hk : k = n
  · subst hk; rw [h] at e; cases e
  · have : Nat.beq k n = false := beq_no hk
    simp [this, e]

theorem consO_some {a : Option Value} {b : Option (List Value)} {l : List Value} (h : consO a b = some l) : ∃ v m, a = some v ∧ b = some m ∧ l = v :: m := by
  cases a <;> cases b <;> simp [consO] at h
  exact ⟨_, _, rfl, rfl, h.symm⟩

mutual
theorem den_ext {nm nm' : List (Nat × Plc)} (x : NmExt nm nm') : ∀ (v : SV) (u : Value), den nm v = some u → den nm' v = some u
  | .tt, u, h | .ff, u, h | .bool _, u, h | .int _ _, u, h | .str _, u, h | .nilp, u, h | .nils, u, h | .nilm, u, h | .nilf, u, h | .nili, u, h | .raw _, u, h => by simpa [den] using h
  | .ptr n off, u, h => by
    simp only [den] at h ⊢
    cases e : getN nm n with
    | none => rw [e] at h; cases h
    | some l => rw [e] at h; rw [x n l e]; exact h
  | .sl n lo len cap, u, h => by
    simp only [den] at h ⊢
    cases e : getN nm n with
    | none => rw [e] at h; cases h
    | some l => rw [e] at h; rw [x n l e]; exact h
  | .map n, u, h => by
    simp only [den] at h ⊢
    cases e : getN nm n with
    | none => rw [e] at h; cases h
    | some l => rw [e] at h; rw [x n l e]; exact h
  | .fn f a b, u, h => by
    simp only [den] at h ⊢
    cases e : denL nm a with
    | none => rw [e] at h; simp [mapO2] at h
    | some l =>
      cases e' : denL nm b with
      | none => rw [e, e'] at h; simp [mapO2] at h
      | some m => rw [e, e'] at h; rw [denL_ext x a l e, denL_ext x b m e']; exact h
  | .ifc t v, u, h => by
    simp only [den] at h ⊢
    cases e : den nm v with
    | none => rw [e] at h; simp [mapV] at h
    | some l => rw [e] at h; rw [den_ext x v l e]; exact h
  | .agg a, u, h => by
    simp only [den] at h ⊢
    cases e : denL nm a with
    | none => rw [e] at h; simp [mapO] at h
    | some l => rw [e] at h; rw [denL_ext x a l e]; exact h
  | .tuple a, u, h => by
    simp only [den] at h ⊢
    cases e : denL nm a with
    | none => rw [e] at h; simp [mapO] at h
    | some l => rw [e] at h; rw [denL_ext x a l e]; exact h
theorem denL_ext {nm nm' : List (Nat × Plc)} (x : NmExt nm nm') : ∀ (v : List SV) (u : List Value), denL nm v = some u → denL nm' v = some u
  | [], u, h => by simpa [denL] using h
  | v :: l, u, h => by
    simp only [denL] at h ⊢
    obtain ⟨a, b, e1, e2, rfl⟩ := consO_some h
    rw [den_ext x v a e1, denL_ext x l b e2]; rfl
end

theorem denL_nth {nm : List (Nat × Plc)} : ∀ {l : List SV} {u : List Value}, denL nm l = some u → ∀ (i : Nat) (v : SV), l[i]? = some v → ∃ w, u[i]? = some w ∧ den nm v = some w
  | [], u, _, i, v, e => by simp at e
  | x :: l, u, h, i, v, e => by
    simp only [denL] at h
    obtain ⟨a, b, e1, e2, rfl⟩ := consO_some h
    cases i with
    | zero => simp at e; subst e; exact ⟨a, by simp, e1⟩
    | succ i => exact denL_nth e2 i v (by simpa using e)
theorem denL_length {nm : List (Nat × Plc)} : ∀ {l : List SV} {u : List Value}, denL nm l = some u → u.length = l.length
  | [], u, h => by simp [denL] at h; subst h; rfl
  | x :: l, u, h => by
    simp only [denL] at h
    obtain ⟨a, b, e1, e2, rfl⟩ := consO_some h
    simp [denL_length e2]
theorem denL_append {nm : List (Nat × Plc)} : ∀ {l m : List SV} {u v : List Value}, denL nm l = some u → denL nm m = some v → denL nm (l ++ m) = some (u ++ v)
  | [], m, u, v, h, k => by simp [denL] at h; subst h; simpa using k
  | x :: l, m, u, v, h, k => by
    simp only [denL] at h
    obtain ⟨a, b, e1, e2, rfl⟩ := consO_some h
    simp only [List.cons_append, denL, e1, denL_append e2 k, consO]
theorem denL_split {nm : List (Nat × Plc)} : ∀ {l m : List SV} {w : List Value}, denL nm (l ++ m) = some w → ∃ u v, denL nm l = some u ∧ denL nm m = some v ∧ w = u ++ v
  | [], m, w, h => ⟨[], w, rfl, h, rfl⟩
  | x :: l, m, w, h => by
    simp only [List.cons_append, denL] at h
    obtain ⟨a, b, e1, e2, rfl⟩ := consO_some h
    obtain ⟨u, v, h1, h2, rfl⟩ := denL_split e2
    exact ⟨a :: u, v, by simp only [denL, e1, h1, consO], h2, rfl⟩

/-! ### A constant as a symbolic value -/
def ofC : Value → SV
  | .bool true => .tt
  | .bool false => .ff
  | .int k n => .int k n
  | .string s => .str s
  | .pointer none => .nilp
  | .slice none 0 0 => .nils
  | .map none => .nilm
  | .nilFunc => .nilf
  | .nilIface => .nili
  | .func f a b => .fn f (a.toList.map .raw) (b.toList.map .raw)
  | v => .raw v
def ofCL : List Value → List SV
  | [] => []
  | v :: l => ofC v :: ofCL l
def ofV : Value → SV
  | .agg cs => .agg (ofCL cs.toList)
  | v => ofC v
theorem denL_raw (nm : List (Nat × Plc)) : ∀ l : List Value, denL nm (l.map .raw) = some l
  | [] => rfl
  | v :: l => by simp only [List.map_cons, denL, den, denL_raw nm l, consO]
theorem den_ofC (nm : List (Nat × Plc)) (v : Value) : den nm (ofC v) = some v := by
  unfold ofC
  split <;> simp [den, denL_raw, mapO2]
theorem denL_ofCL (nm : List (Nat × Plc)) : ∀ l : List Value, denL nm (ofCL l) = some l
  | [] => rfl
  | v :: l => by simp only [ofCL, denL, den_ofC, denL_ofCL nm l, consO]
theorem den_ofV (nm : List (Nat × Plc)) (v : Value) : den nm (ofV v) = some v := by
  unfold ofV
  split
  · simp [den, denL_ofCL, mapO]
  · exact den_ofC nm v

/-! ### The frame's slots -/
def getE : List (Nat × SV) → Nat → Option SV
  | [], _ => none
  | (k, v) :: r, n => bif Nat.beq k n then some v else getE r n
def ev (env : List (Nat × SV)) : Operand → Option SV
  | .tmp t => getE env t
  | .const v => some (ofV v)
  | .func f => some (.fn (.func f) [] [])
  | .global _ => none
def evL (env : List (Nat × SV)) : List Operand → Option (List SV)
  | [] => some []
  | x :: l => match ev env x, evL env l with
    | some v, some r => some (v :: r)
    | _, _ => none

def EnvOK (nm : List (Nat × Plc)) (env : List (Nat × SV)) (a : Act) : Prop := ∀ t v, getE env t = some v → den nm v = some (a.tmps.getD t undef)

theorem EnvOK.ev {nm : List (Nat × Plc)} {env : List (Nat × SV)} {a : Act} (h : EnvOK nm env a) {x : Operand} {v : SV} (e : Sx.ev env x = some v) : den nm v = some (a.eval x) := by
  cases x with
  | tmp t => exact h t v e
  | const u => simp only [Sx.ev, Option.some.injEq] at e; subst e; exact den_ofV nm u
  | global g => simp [Sx.ev] at e
  | func f => simp only [Sx.ev, Option.some.injEq] at e; subst e; rfl
theorem EnvOK.evL {nm : List (Nat × Plc)} {env : List (Nat × SV)} {a : Act} (h : EnvOK nm env a) : ∀ {l : List Operand} {v : List SV}, Sx.evL env l = some v → denL nm v = some (l.map a.eval)
  | [], v, e => by simp only [Sx.evL, Option.some.injEq] at e; subst e; rfl
  | x :: l, v, e => by
    simp only [Sx.evL] at e
    cases e1 : Sx.ev env x with
    | none => rw [e1] at e; simp at e
    | some y =>
      cases e2 : Sx.evL env l with
      | none => rw [e1, e2] at e; simp at e
      | some r =>
        rw [e1, e2] at e
        simp only [Option.some.injEq] at e
        subst e
        simp only [denL, h.ev e1, h.evL e2, consO, List.map_cons]
theorem EnvOK.put {nm : List (Nat × Plc)} {env : List (Nat × SV)} {a : Act} (h : EnvOK nm env a) {d : Nat} {v : SV} {u : Value} (hd : d < a.tmps.size) (e : den nm v = some u) : EnvOK nm ((d, v) :: env) (a.put (some d) u) := by
  intro t x hx
  unfold getE at hx
  by_cases hk : d = t
  · subst hk
    simp at hx
    subst hx
    simp [Act.put, hd, e]
  · have hb : Nat.beq d t = false := beq_no hk
    simp only [hb, cond_false] at hx
    have := h t x hx
    rw [this]
    simp [Act.put, hk]
theorem EnvOK.ext {nm nm' : List (Nat × Plc)} {env : List (Nat × SV)} {a : Act} (h : EnvOK nm env a) (x : NmExt nm nm') : EnvOK nm' env a := fun t v e => den_ext x v _ (h t v e)
end Sx
