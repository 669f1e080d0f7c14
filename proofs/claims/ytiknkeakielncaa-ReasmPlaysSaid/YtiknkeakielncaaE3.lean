/- The symbolic run of operations that look at values alone, and that it is right. Conditions: none. -/
import Derived.Test.YtiknkeakielncaaE2
namespace Sx
open Go

/-- A test: both ways. -/
inductive Br (b : Bool) (X Y : Prop) : Prop
  | mk (h : b = true → X) (k : b = false → Y)
/-- Something is owed. -/
inductive Need (φ X : Prop) : Prop
  | mk (h : φ) (k : X)

def force (v : SV) (K : SV → Prop) : Prop :=
  match v with
  | .tt => K .tt
  | .ff => K .ff
  | .bool b => K (.bool b)
  | .int k n => K (.int k n)
  | .str s => K (.str s)
  | .nilp => K .nilp
  | .ptr n o => K (.ptr n o)
  | .sl n lo len cap => K (.sl n lo len cap)
  | .nils => K .nils
  | .nilm => K .nilm
  | .map n => K (.map n)
  | .nilf => K .nilf
  | .fn f a b => K (.fn f a b)
  | .nili => K .nili
  | .ifc t v => K (.ifc t v)
  | .agg l => K (.agg l)
  | .tuple l => K (.tuple l)
  | .raw v => K (.raw v)
theorem force_eq (v : SV) (K : SV → Prop) : force v K = K v := by cases v <;> rfl
def forceO (v : Option SV) (K : SV → Prop) : Prop :=
  match v with
  | some v => force v K
  | none => False
theorem forceO_some {v : Option SV} {K : SV → Prop} (h : forceO v K) : ∃ x, v = some x ∧ K x := by
  cases v with
  | none => exact h.elim
  | some x => exact ⟨x, rfl, by have e := force_eq x K; rw [← e]; exact h⟩
def forceL : List SV → (List SV → Prop) → Prop
  | [], K => K []
  | v :: l, K => force v fun v' => forceL l fun l' => K (v' :: l')
theorem forceL_eq : ∀ (l : List SV) (K : List SV → Prop), forceL l K = K l
  | [], _ => rfl
  | v :: l, K => by unfold forceL; rw [force_eq, forceL_eq]

def kEq : IntKind → IntKind → Bool
  | .i8, .i8 | .i16, .i16 | .i32, .i32 | .i64, .i64 | .u8, .u8 | .u16, .u16 | .u32, .u32 | .u64, .u64 => true
  | _, _ => false
theorem kEq_eq {a b : IntKind} (h : kEq a b = true) : a = b := by cases a <;> cases b <;> first | rfl | (simp [kEq] at h)

/-! ### Whole numbers -/
def bitsOf (k : IntKind) (f : BitVec k.bits → BitVec k.bits → BitVec k.bits) (x y : Int) : Int := k.wrap (f (BitVec.ofInt k.bits x) (BitVec.ofInt k.bits y)).toNat
def intD (op : BinOp) (k : IntKind) (x y : Int) (K : SV → Prop) : Prop :=
  match op with
  | .add => K (.int k (k.wrap (x + y)))
  | .sub => K (.int k (k.wrap (x - y)))
  | .mul => K (.int k (k.wrap (x * y)))
  | .quo => Need (y ≠ 0) (K (.int k (k.wrap (x.tdiv y))))
  | .rem => Need (y ≠ 0) (K (.int k (x.tmod y)))
  | .and => K (.int k (bitsOf k (· &&& ·) x y))
  | .or => K (.int k (bitsOf k (· ||| ·) x y))
  | .xor => K (.int k (bitsOf k (· ^^^ ·) x y))
  | .andNot => K (.int k (bitsOf k (fun a b => a &&& ~~~b) x y))
  | .eql => K (.bool (x == y))
  | .neq => K (.bool (x != y))
  | .lss => K (.bool (decide (x < y)))
  | .leq => K (.bool (decide (x ≤ y)))
  | .gtr => K (.bool (decide (x > y)))
  | .geq => K (.bool (decide (x ≥ y)))
  | _ => False
def BinRuns (P : Program) (op : BinOp) (t : TypeId) (x y : Operand) (a b v : Value) : Prop :=
  ∀ w, (do eqGuard op t x y a b; binOp op t a b : Sem Value).run P w = .ok v w
theorem int_runs {P : Program} {op : BinOp} {t : TypeId} {x y : Operand} {nm : List (Nat × Plc)} {k : IntKind} {m n : Int} {K : SV → Prop} (h : intD op k m n K) :
    ∃ sv v, K sv ∧ den nm sv = some v ∧ BinRuns P op t x y (.int k m) (.int k n) v := by
  cases op <;> simp only [intD] at h
  case quo => obtain ⟨h0, h1⟩ := h; exact ⟨_, _, h1, rfl, fun w => by simp [eqGuard, binOp, Op.intDiv, h0]⟩
  case rem => obtain ⟨h0, h1⟩ := h; exact ⟨_, _, h1, rfl, fun w => by simp [eqGuard, binOp, Op.intDiv, h0]⟩
  all_goals first
    | exact h.elim
    | exact ⟨_, _, h, rfl, fun w => by simp [eqGuard, binOp, Op.intArith, Op.intBits, Op.intCmp, bitsOf]⟩
def shD (op : BinOp) (k : IntKind) (x y : Int) (K : SV → Prop) : Prop :=
  match op with
  | .shl => Need (0 ≤ y) (K (.int k (k.wrap (x * 2 ^ (min y.toNat k.bits)))))
  | .shr => Need (0 ≤ y) (K (.int k (x.fdiv (2 ^ (min y.toNat k.bits)))))
  | _ => False
theorem sh_runs {P : Program} {op : BinOp} {t : TypeId} {x y : Operand} {nm : List (Nat × Plc)} {k k' : IntKind} {m n : Int} {K : SV → Prop} (h : shD op k m n K) :
    ∃ sv v, K sv ∧ den nm sv = some v ∧ BinRuns P op t x y (.int k m) (.int k' n) v := by
  cases op <;> simp only [shD] at h
  case shl => obtain ⟨h0, h1⟩ := h; exact ⟨_, _, h1, rfl, fun w => by simp [eqGuard, binOp, Op.shift, show ¬ n < 0 by omega]⟩
  case shr => obtain ⟨h0, h1⟩ := h; exact ⟨_, _, h1, rfl, fun w => by simp [eqGuard, binOp, Op.shift, show ¬ n < 0 by omega]⟩

/-! ### Equality with nil, of bools, of strings -/
def isPtr (P : Program) (t : TypeId) : Bool := match P.underlying t with | some (.pointer _) => true | _ => false
def isSl (P : Program) (t : TypeId) : Bool := match P.underlying t with | some (.slice _) => true | _ => false
def isMap (P : Program) (t : TypeId) : Bool := match P.underlying t with | some (.map _ _) => true | _ => false
def isFn (P : Program) (t : TypeId) : Bool := match P.underlying t with | some (.func _ _ _) => true | _ => false
def isBool (P : Program) (t : TypeId) : Bool := match P.underlying t with | some .bool => true | _ => false
def isIfc (P : Program) (t : TypeId) : Bool := match P.underlying t with | some (.interface _) => true | _ => false
def isStr (P : Program) (t : TypeId) : Bool := match P.underlying t with | some .string => true | _ => false
/-- 'eql' or 'neq': the answer to equality, as the operator has it. -/
def eqB (op : BinOp) (b : Bool) (K : SV → Prop) : Prop :=
  match op with
  | .eql => K (.bool b)
  | .neq => K (.bool (!b))
  | _ => False
def eqT (op : BinOp) (K : SV → Prop) : Prop :=
  match op with
  | .eql => K .tt
  | .neq => K .ff
  | _ => False
def eqF (op : BinOp) (K : SV → Prop) : Prop :=
  match op with
  | .eql => K .ff
  | .neq => K .tt
  | _ => False
def atOrNil (nm : List (Nat × Plc)) (n : Nat) (op : BinOp) (K : SV → Prop) : Prop :=
  match getN nm n with
  | some (.at _ _) => eqF op K
  | some .nil => eqT op K
  | none => False
/-- The operator, at two symbolic values. -/
inductive BinOb (P : Program) (nm : List (Nat × Plc)) (op : BinOp) (t : TypeId) (x y : Operand) (a b : SV) (K : SV → Prop) : Prop
  | mk (va vb v : Value) (sv : SV) (ha : den nm a = some va) (hb : den nm b = some vb) (hv : den nm sv = some v) (h : BinRuns P op t x y va vb v) (k : K sv)
def isConst : Operand → Bool
  | .const _ => true
  | _ => false
def binD (P : Program) (nm : List (Nat × Plc)) (op : BinOp) (t : TypeId) (x y : Operand) (a b : SV) (K : SV → Prop) : Prop :=
  match a, b with
  | .int k m, .int k' n => match op with
    | .shl => shD .shl k m n K
    | .shr => shD .shr k m n K
    | op => bif kEq k k' then intD op k m n K else False
  | .ptr n _, .nilp => bif isPtr P t then atOrNil nm n op K else False
  | .nilp, .ptr n _ => bif isPtr P t then atOrNil nm n op K else False
  | .nilp, .nilp => bif isPtr P t then eqT op K else False
  | .sl n _ _ _, .nils => bif isSl P t then atOrNil nm n op K else False
  | .nils, .nils => bif isSl P t then eqT op K else False
  | .raw (.slice (some _) _ _), .nils => bif isSl P t then eqF op K else False
  | .raw (.slice none _ _), .nils => bif isSl P t then eqT op K else False
  | .raw (.pointer (some _)), .nilp => bif isPtr P t then eqF op K else False
  | .raw (.pointer none), .nilp => bif isPtr P t then eqT op K else False
  | .map _, .nilm => bif isMap P t then eqF op K else False
  | .nilm, .nilm => bif isMap P t then eqT op K else False
  | .fn _ _ _, .nilf => bif isFn P t then eqF op K else False
  | .nilf, .nilf => bif isFn P t then eqT op K else False
  | .ifc _ _, .nili => bif isIfc P t then eqF op K else False
  | .nili, .nili => bif isIfc P t && isConst y then eqT op K else False
  | .bool a, .bool b => bif isBool P t then eqB op (a == b) K else False
  | .bool a, .tt => bif isBool P t then eqB op (a == true) K else False
  | .bool a, .ff => bif isBool P t then eqB op (a == false) K else False
  | .tt, .bool b => bif isBool P t then eqB op (true == b) K else False
  | .ff, .bool b => bif isBool P t then eqB op (false == b) K else False
  | .tt, .tt => bif isBool P t then eqT op K else False
  | .ff, .ff => bif isBool P t then eqT op K else False
  | .tt, .ff => bif isBool P t then eqF op K else False
  | .ff, .tt => bif isBool P t then eqF op K else False
  | .str a, .str b => eqB op (a.toList == b.toList) K
  | a, b => BinOb P nm op t x y a b K

theorem cond_some {b : Bool} {X : Prop} (h : bif b then X else False) : b = true ∧ X := by cases b with
  | true => exact ⟨rfl, h⟩
  | false => exact h.elim
theorem isPtr_some {P : Program} {t : TypeId} (h : isPtr P t = true) : ∃ e, P.underlying t = some (.pointer e) := by
  unfold isPtr at h; split at h
  · exact ⟨_, by assumption⟩
  · cases h
theorem isSl_some {P : Program} {t : TypeId} (h : isSl P t = true) : ∃ e, P.underlying t = some (.slice e) := by
  unfold isSl at h; split at h
  · exact ⟨_, by assumption⟩
  · cases h
theorem isMap_some {P : Program} {t : TypeId} (h : isMap P t = true) : ∃ e f, P.underlying t = some (.map e f) := by
  unfold isMap at h; split at h
  · exact ⟨_, _, by assumption⟩
  · cases h
theorem isFn_some {P : Program} {t : TypeId} (h : isFn P t = true) : ∃ e f g, P.underlying t = some (.func e f g) := by
  unfold isFn at h; split at h
  · exact ⟨_, _, _, by assumption⟩
  · cases h
theorem isIfc_some {P : Program} {t : TypeId} (h : isIfc P t = true) : ∃ e, P.underlying t = some (.interface e) := by
  unfold isIfc at h; split at h
  · exact ⟨_, by assumption⟩
  · cases h
theorem isBool_some {P : Program} {t : TypeId} (h : isBool P t = true) : P.underlying t = some .bool := by
  unfold isBool at h; split at h
  · assumption
  · cases h

theorem underlying_run {P : Program} {t : TypeId} {d : TypeDesc} (h : P.underlying t = some d) (w : World) : (underlying t).run P w = .ok d w := by simp [underlying, h]

def EqRuns (P : Program) (t : TypeId) (a b : Value) (r : Bool) : Prop := ∀ w, (Op.equal t a b).run P w = .ok r w
/-- What 'binOp' does at '==' and '!=' where it asks 'Op.equal'. -/
theorem eqb_runs {P : Program} {op : BinOp} {t : TypeId} {x y : Operand} {a b : Value} {r : Bool} {nm : List (Nat × Plc)} {K : SV → Prop} (h : eqB op r K)
    (hg : ∀ op w, (eqGuard op t x y a b).run P w = .ok () w)
    (h1 : ∀ w, (binOp .eql t a b).run P w = .ok (.bool r) w) (h2 : ∀ w, (binOp .neq t a b).run P w = .ok (.bool (!r)) w) :
    ∃ sv v, K sv ∧ den nm sv = some v ∧ BinRuns P op t x y a b v := by
  cases op <;> simp only [eqB] at h
  case eql => exact ⟨_, _, h, rfl, fun w => by simp [hg, h1]⟩
  case neq => exact ⟨_, _, h, rfl, fun w => by simp [hg, h2]⟩
theorem eqt_runs {P : Program} {op : BinOp} {t : TypeId} {x y : Operand} {a b : Value} {nm : List (Nat × Plc)} {K : SV → Prop} (h : eqT op K)
    (hg : ∀ op w, (eqGuard op t x y a b).run P w = .ok () w)
    (h1 : ∀ w, (binOp .eql t a b).run P w = .ok (.bool true) w) (h2 : ∀ w, (binOp .neq t a b).run P w = .ok (.bool false) w) :
    ∃ sv v, K sv ∧ den nm sv = some v ∧ BinRuns P op t x y a b v := by
  cases op <;> simp only [eqT] at h
  case eql => exact ⟨_, _, h, rfl, fun w => by simp [hg, h1]⟩
  case neq => exact ⟨_, _, h, rfl, fun w => by simp [hg, h2]⟩
theorem eqf_runs {P : Program} {op : BinOp} {t : TypeId} {x y : Operand} {a b : Value} {nm : List (Nat × Plc)} {K : SV → Prop} (h : eqF op K)
    (hg : ∀ op w, (eqGuard op t x y a b).run P w = .ok () w)
    (h1 : ∀ w, (binOp .eql t a b).run P w = .ok (.bool false) w) (h2 : ∀ w, (binOp .neq t a b).run P w = .ok (.bool true) w) :
    ∃ sv v, K sv ∧ den nm sv = some v ∧ BinRuns P op t x y a b v := by
  cases op <;> simp only [eqF] at h
  case eql => exact ⟨_, _, h, rfl, fun w => by simp [hg, h1]⟩
  case neq => exact ⟨_, _, h, rfl, fun w => by simp [hg, h2]⟩

theorem guard_plain {P : Program} {t : TypeId} {x y : Operand} {a b : Value} (h : ∀ c, a ≠ .agg c) (k : a ≠ .nilIface ∨ b ≠ .nilIface) : ∀ op w, (eqGuard op t x y a b).run P w = .ok () w := by
  intro op w
  unfold eqGuard
  cases op <;> first
    | rfl
    | (cases a <;> first
        | rfl
        | exact absurd rfl (h _)
        | (cases b <;> first
            | rfl
            | (exfalso; simp at k)))
/-- Equality, at the values' own kinds. -/
structure Eqs (P : Program) (t : TypeId) (a b : Value) (r : Bool) : Prop where
  run : ∀ d w, (Op.equalIn (d + 1) t a b).run P w = .ok r w
  eql : binOp .eql t a b = (do pure (.bool (← Op.equal t a b)))
  neq : binOp .neq t a b = (do pure (.bool (!(← Op.equal t a b))))
theorem Eqs.e1 {P : Program} {t : TypeId} {a b : Value} {r : Bool} (h : Eqs P t a b r) (w : World) : (binOp .eql t a b).run P w = .ok (.bool r) w := by
  have := h.run 9999 w
  rw [h.eql]
  simp only [Op.equal, show Op.maxDepth = 9999 + 1 from rfl, Sem.run_bind, this, Result.andThen_ok, Sem.run_pure]
theorem Eqs.e2 {P : Program} {t : TypeId} {a b : Value} {r : Bool} (h : Eqs P t a b r) (w : World) : (binOp .neq t a b).run P w = .ok (.bool (!r)) w := by
  have := h.run 9999 w
  rw [h.neq]
  simp only [Op.equal, show Op.maxDepth = 9999 + 1 from rfl, Sem.run_bind, this, Result.andThen_ok, Sem.run_pure]
section
variable {P : Program} {t : TypeId}
theorem Eqs.ptr_nil {e : TypeId} {a : Option Addr} (h : P.underlying t = some (.pointer e)) : Eqs P t (.pointer a) (.pointer none) a.isNone := by
  refine ⟨fun d w => ?_, by cases a <;> rfl, by cases a <;> rfl⟩
  cases a <;> simp [Op.equalIn, underlying_run h]
theorem Eqs.nil_ptr {e : TypeId} {a : Option Addr} (h : P.underlying t = some (.pointer e)) : Eqs P t (.pointer none) (.pointer a) a.isNone := by
  refine ⟨fun d w => ?_, by cases a <;> rfl, by cases a <;> rfl⟩
  cases a <;> simp [Op.equalIn, underlying_run h]
theorem Eqs.sl_nil {e : TypeId} {a : Option Addr} {n m : Nat} (h : P.underlying t = some (.slice e)) : Eqs P t (.slice a n m) (.slice none 0 0) a.isNone := by
  refine ⟨fun d w => ?_, by cases a <;> rfl, by cases a <;> rfl⟩
  cases a <;> simp [Op.equalIn, underlying_run h]
theorem Eqs.map_nil {e f : TypeId} {a : Option Nat} (h : P.underlying t = some (.map e f)) : Eqs P t (.map a) (.map none) a.isNone := by
  refine ⟨fun d w => ?_, by cases a <;> rfl, by cases a <;> rfl⟩
  cases a <;> simp [Op.equalIn, underlying_run h]
theorem Eqs.fn_nil {e f : Array TypeId} {g : Bool} {x : Fn} {a b : Array Value} (h : P.underlying t = some (.func e f g)) : Eqs P t (.func x a b) .nilFunc false := by
  refine ⟨fun d w => ?_, rfl, rfl⟩
  simp [Op.equalIn, underlying_run h]
theorem Eqs.fn_nil' {e f : Array TypeId} {g : Bool} (h : P.underlying t = some (.func e f g)) : Eqs P t .nilFunc .nilFunc true := by
  refine ⟨fun d w => ?_, rfl, rfl⟩
  simp [Op.equalIn, underlying_run h]
theorem Eqs.ifc_nil {e : Array (String × TypeId)} {u : TypeId} {v : Value} (h : P.underlying t = some (.interface e)) : Eqs P t (.iface u v) .nilIface false := by
  refine ⟨fun d w => ?_, rfl, rfl⟩
  simp [Op.equalIn, underlying_run h]
theorem Eqs.nil_nil {e : Array (String × TypeId)} (h : P.underlying t = some (.interface e)) : Eqs P t .nilIface .nilIface true := by
  refine ⟨fun d w => ?_, rfl, rfl⟩
  simp [Op.equalIn, underlying_run h]
theorem Eqs.bool {a b : Bool} (h : P.underlying t = some .bool) : Eqs P t (.bool a) (.bool b) (a == b) := by
  refine ⟨fun d w => ?_, rfl, rfl⟩
  simp [Op.equalIn, underlying_run h]
end
theorem eqb_of {P : Program} {op : BinOp} {t : TypeId} {x y : Operand} {a b : Value} {r : Bool} {nm : List (Nat × Plc)} {K : SV → Prop} (h : eqB op r K) (e : Eqs P t a b r)
    (g : ∀ c, a ≠ .agg c) (k : a ≠ .nilIface ∨ b ≠ .nilIface) : ∃ sv v, K sv ∧ den nm sv = some v ∧ BinRuns P op t x y a b v :=
  eqb_runs h (guard_plain g k) e.e1 e.e2
theorem eqt_of {P : Program} {op : BinOp} {t : TypeId} {x y : Operand} {a b : Value} {nm : List (Nat × Plc)} {K : SV → Prop} (h : eqT op K) (e : Eqs P t a b true)
    (g : ∀ c, a ≠ .agg c) (k : a ≠ .nilIface ∨ b ≠ .nilIface) : ∃ sv v, K sv ∧ den nm sv = some v ∧ BinRuns P op t x y a b v :=
  eqt_runs h (guard_plain g k) e.e1 e.e2
theorem eqf_of {P : Program} {op : BinOp} {t : TypeId} {x y : Operand} {a b : Value} {nm : List (Nat × Plc)} {K : SV → Prop} (h : eqF op K) (e : Eqs P t a b false)
    (g : ∀ c, a ≠ .agg c) (k : a ≠ .nilIface ∨ b ≠ .nilIface) : ∃ sv v, K sv ∧ den nm sv = some v ∧ BinRuns P op t x y a b v :=
  eqf_runs h (guard_plain g k) e.e1 e.e2

theorem atOrNil_some {nm : List (Nat × Plc)} {n : Nat} {op : BinOp} {K : SV → Prop} (h : atOrNil nm n op K) :
    (∃ b o, getN nm n = some (.at b o) ∧ eqF op K) ∨ (getN nm n = some .nil ∧ eqT op K) := by
  unfold atOrNil at h
  split at h
  · exact .inl ⟨_, _, by assumption, h⟩
  · exact .inr ⟨by assumption, h⟩
  · exact h.elim
/-- The four facts that eqt_runs and eqf_runs ask, at values of one kind: by simp. -/
theorem bin_runs {P : Program} {nm : List (Nat × Plc)} {op : BinOp} {t : TypeId} {x y : Operand} {a b : SV} {va vb : Value} {K : SV → Prop} (h : binD P nm op t x y a b K)
    (ha : den nm a = some va) (hb : den nm b = some vb) (hy : isConst y = true → ∃ c, y = .const c) :
    ∃ sv v, K sv ∧ den nm sv = some v ∧ BinRuns P op t x y va vb v := by
  unfold binD at h
  split at h
  case h_1 k m k' n =>
    simp only [den, Option.some.injEq] at ha hb
    subst ha; subst hb
    split at h
    · exact sh_runs h
    · exact sh_runs h
    · obtain ⟨e, h'⟩ := cond_some h
      obtain rfl := kEq_eq e
      exact int_runs h'
  case h_2 n off =>
    obtain ⟨e, h⟩ := cond_some h
    obtain ⟨e, hu⟩ := isPtr_some e
    simp only [den, Option.some.injEq] at ha hb
    subst hb
    rcases atOrNil_some h with ⟨b, o, hn, h⟩ | ⟨hn, h⟩ <;> simp only [hn, locAddr, Option.some.injEq] at ha <;> subst ha
    · exact eqf_of h (Eqs.ptr_nil hu) (by simp) (by simp)
    · exact eqt_of h (Eqs.ptr_nil hu) (by simp) (by simp)
  case h_3 n off =>
    obtain ⟨e, h⟩ := cond_some h
    obtain ⟨e, hu⟩ := isPtr_some e
    simp only [den, Option.some.injEq] at ha hb
    subst ha
    rcases atOrNil_some h with ⟨b, o, hn, h⟩ | ⟨hn, h⟩ <;> simp only [hn, locAddr, Option.some.injEq] at hb <;> subst hb
    · exact eqf_of h (Eqs.nil_ptr hu) (by simp) (by simp)
    · exact eqt_of h (Eqs.nil_ptr hu) (by simp) (by simp)
  case h_4 =>
    obtain ⟨e, h⟩ := cond_some h
    obtain ⟨e, hu⟩ := isPtr_some e
    simp only [den, Option.some.injEq] at ha hb
    subst ha; subst hb
    exact eqt_of h (Eqs.ptr_nil hu) (by simp) (by simp)
  case h_5 n lo len cap =>
    obtain ⟨e, h⟩ := cond_some h
    obtain ⟨e, hu⟩ := isSl_some e
    simp only [den, Option.some.injEq] at ha hb
    subst hb
    rcases atOrNil_some h with ⟨b, o, hn, h⟩ | ⟨hn, h⟩ <;> simp only [hn, locAddr, Option.some.injEq] at ha <;> subst ha
    · exact eqf_of h (Eqs.sl_nil hu) (by simp) (by simp)
    · exact eqt_of h (Eqs.sl_nil hu) (by simp) (by simp)
  case h_6 =>
    obtain ⟨e, h⟩ := cond_some h
    obtain ⟨e, hu⟩ := isSl_some e
    simp only [den, Option.some.injEq] at ha hb
    subst ha; subst hb
    exact eqt_of h (Eqs.sl_nil hu) (by simp) (by simp)
  case h_7 =>
    obtain ⟨e, h⟩ := cond_some h
    obtain ⟨e, hu⟩ := isSl_some e
    simp only [den, Option.some.injEq] at ha hb
    subst ha; subst hb
    exact eqf_of h (Eqs.sl_nil hu) (by simp) (by simp)
  case h_8 =>
    obtain ⟨e, h⟩ := cond_some h
    obtain ⟨e, hu⟩ := isSl_some e
    simp only [den, Option.some.injEq] at ha hb
    subst ha; subst hb
    exact eqt_of h (Eqs.sl_nil hu) (by simp) (by simp)
  case h_9 =>
    obtain ⟨e, h⟩ := cond_some h
    obtain ⟨e, hu⟩ := isPtr_some e
    simp only [den, Option.some.injEq] at ha hb
    subst ha; subst hb
    exact eqf_of h (Eqs.ptr_nil hu) (by simp) (by simp)
  case h_10 =>
    obtain ⟨e, h⟩ := cond_some h
    obtain ⟨e, hu⟩ := isPtr_some e
    simp only [den, Option.some.injEq] at ha hb
    subst ha; subst hb
    exact eqt_of h (Eqs.ptr_nil hu) (by simp) (by simp)
  case h_11 n =>
    obtain ⟨e, h⟩ := cond_some h
    obtain ⟨e, f, hu⟩ := isMap_some e
    simp only [den, Option.some.injEq] at ha hb
    subst hb
    split at ha
    · simp only [Option.some.injEq] at ha; subst ha
      exact eqf_of h (Eqs.map_nil hu) (by simp) (by simp)
    · cases ha
  case h_12 =>
    obtain ⟨e, h⟩ := cond_some h
    obtain ⟨e, f, hu⟩ := isMap_some e
    simp only [den, Option.some.injEq] at ha hb
    subst ha; subst hb
    exact eqt_of h (Eqs.map_nil hu) (by simp) (by simp)
  case h_13 f l m =>
    obtain ⟨e, h⟩ := cond_some h
    obtain ⟨e, f, g, hu⟩ := isFn_some e
    simp only [den, Option.some.injEq] at ha hb
    subst hb
    unfold mapO2 at ha
    split at ha
    · simp only [Option.some.injEq] at ha; subst ha
      exact eqf_of h (Eqs.fn_nil hu) (by simp) (by simp)
    · cases ha
  case h_14 =>
    obtain ⟨e, h⟩ := cond_some h
    obtain ⟨e, f, g, hu⟩ := isFn_some e
    simp only [den, Option.some.injEq] at ha hb
    subst ha; subst hb
    exact eqt_of h (Eqs.fn_nil' hu) (by simp) (by simp)
  case h_15 t' v =>
    obtain ⟨e, h⟩ := cond_some h
    obtain ⟨e, hu⟩ := isIfc_some e
    simp only [den, Option.some.injEq] at ha hb
    subst hb
    unfold mapV at ha
    split at ha
    · simp only [Option.some.injEq] at ha; subst ha
      exact eqf_of h (Eqs.ifc_nil hu) (by simp) (by simp)
    · cases ha
  case h_16 =>
    obtain ⟨e, h'⟩ := cond_some h
    clear h
    simp only [Bool.and_eq_true] at e
    obtain ⟨e1, hu⟩ := isIfc_some e.1
    obtain ⟨c, rfl⟩ := hy e.2
    simp only [den, Option.some.injEq] at ha hb
    subst ha; subst hb
    exact eqt_runs h' (fun op w => by cases op <;> simp [eqGuard]) (Eqs.nil_nil hu).e1 (Eqs.nil_nil hu).e2
  case h_26 =>
    simp only [den, Option.some.injEq] at ha hb
    subst ha; subst hb
    exact eqb_runs h (guard_plain (by simp) (by simp)) (fun w => by simp [binOp, Op.stringOp]) (fun w => by simp [binOp, Op.stringOp])
  case h_27 =>
    obtain ⟨va', vb', v, sv, ha', hb', hv, h, k⟩ := h
    rw [ha] at ha'; rw [hb] at hb'
    simp only [Option.some.injEq] at ha' hb'
    subst ha'; subst hb'
    exact ⟨sv, v, k, hv, h⟩
  all_goals
    obtain ⟨e, h⟩ := cond_some h
    have hu := isBool_some e
    simp only [den, Option.some.injEq] at ha hb
    subst ha; subst hb
    first
      | exact eqb_of h (Eqs.bool hu) (by simp) (by simp)
      | exact eqt_of h (Eqs.bool hu) (by simp) (by simp)
      | exact eqf_of h (Eqs.bool hu) (by simp) (by simp)
end Sx
