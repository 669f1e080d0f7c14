/- Calls, one operation, a region in the order of its text. Conditions: none. -/
import Derived.Test.YtiknkeakielncaaE9F
import Derived.RangeFuncRecord
import Derived.OrdersIn
import Derived.TacticsIn
import Derived.LoopNIn
namespace Sx
open Go

/-! ### The fence: none; but in a round of a range over a function, or not -/
abbrev Fc (ro : Option Nat) : Fence := { fn := fun _ => True, depth := none, alive := false, round := ro }
theorem callsIn_Fc {ro : Option Nat} {n : Nat} {P : Program} {f : FuncId} {args : Array Value} {w : World} {R : Ending → World → Prop} : CallsIn (Fc ro) n P f args w R ↔ Calls P f args w R :=
  callsIn_wide (n := n)
/-- An operation's step, in a round or not. -/
def wpR (ro : Option Nat) (P : Program) (o : Oper) (a : Act) (w : World) (next : Act → World → Prop) (Q : Exit → Act → World → Prop) : Prop :=
  (∀ c, o.op ≠ .defer c) ∧ o.uponIn (Fc ro) 0 P a next Q ((execOp a.eval o).run P w)
theorem wpR_in {ro : Option Nat} {P : Program} {o : Oper} {a : Act} {w : World} {next : Act → World → Prop} {Q : Exit → Act → World → Prop} (h : wpR ro P o a w next Q) : o.wpIn (Fc ro) 0 P a w next Q :=
  ⟨fun _ _ => trivial, by rw [Oper.semAt_eq _ _ _ h.1]; exact h.2⟩
theorem nd {o : Oper} {x : Op} (h : o.op = x) (hx : ∀ c, x ≠ .defer c := by intro c hc; cases hc) : ∀ c, o.op ≠ .defer c := by rw [h]; exact hx
/-- The call enters a Go body. -/
def Enters (P : Program) (g : FuncId) : Prop := ∀ (args : Array Value) (w : World), (callFunc g args).run P w = .ok (.enter g args) w
/-- What a function does: over 'pre', whatever the frame 'f' (of which R holds), it returns, and leaves 'post' and the frame. -/
structure Does (P : Program) (g : FuncId) (vals : Array Value) (R : HP → Prop) (pre : List Asn) (Q : Value → List Asn → Prop) : Prop where
  enters : Enters P g
  run : ∀ f w, R f → At f pre w → Calls P g vals w fun e w' => ∃ v post, e = .returned v ∧ At f post w' ∧ Q v post ∧ Str w w'
theorem Does.mono {P : Program} {g : FuncId} {vals : Array Value} {R : HP → Prop} {pre : List Asn} {Q Q' : Value → List Asn → Prop} (h : Does P g vals R pre Q) (k : ∀ v p, Q v p → Q' v p) : Does P g vals R pre Q' :=
  ⟨h.enters, fun f w hR hat => (h.run f w hR hat).mono fun _ _ ⟨v, post, h1, h2, h3, h4⟩ => ⟨v, post, h1, h2, k _ _ h3, h4⟩⟩

/-- What a round of a range over a function does, where it is asked for: as 'Does' of a function. -/
structure DoesY (P : Program) (l : Nat) (vals : Array Value) (R : HP → Prop) (pre : List Asn) (Q : Value → List Asn → Prop) : Prop where
  run : ∀ f w, R f → At f pre w → ∃ fn tmps assign body, (Instr.yield l vals).run P w = .ok (.round l fn tmps assign body) w ∧
    RoundIn (Fc none) 0 P l fn tmps assign body w fun e w' => ∃ v post, e = .returned v ∧ At f post w' ∧ Q v post ∧ Str w w'
/-- A state is told by another one. -/
structure Le (s s' : St) : Prop where
  n : s'.n = s.n
  env : ∀ a, EnvOK s.nm s.env a → EnvOK s'.nm s'.env a
  heap : ∀ h, sat s.ents h → sat s'.ents h
theorem Rel.le {f : HP} {w0 : World} {s s' : St} {a : Act} {w : World} (r : Rel f w0 s a w) (g : Le s s') : Rel f w0 s' a w :=
  ⟨r.defers, r.size.trans g.n.symm, g.env _ r.env, let ⟨x, t, k⟩ := r.heap; ⟨x, t, g.heap _ k⟩, r.str⟩

inductive CallOb (P : Program) (f : HP) (g : FuncId) (args : List SV) (K : SV → St → Prop) : St → Prop
  | mk (s : St) (vals : List Value) (hv : denL s.nm args = some vals) (R : HP → Prop) (pre : List Asn) (Q : Value → List Asn → Prop) (spec : Does P g vals.toArray R pre Q)
      (rest : List Ent) (take : ∀ h, sat s.ents h → sat (pre ++ rest.map (entDen s.nm)) h) (hR : ∀ f' b, Split f' b f → sat (rest.map (entDen s.nm)) b → R f')
      (k : ∀ v post, Q v post → ∃ (sv : SV) (s' : St), K sv s' ∧ s'.n = s.n ∧ s'.env = s.env ∧ NmExt s.nm s'.nm ∧ den s'.nm sv = some v ∧ ∀ h, sat (post ++ rest.map (entDen s.nm)) h → sat s'.ents h) : CallOb P f g args K s
  /-- Any proof that the call goes through (a body walked in place). -/
  | sem (s : St) (h : ∀ (w0 : World) (a : Act) (w : World) (vals : List Value), Rel f w0 s a w → denL s.nm args = some vals →
      Enters P g ∧ Calls P g vals.toArray w fun e w' => ∃ v sv s', e = .returned v ∧ K sv s' ∧ den s'.nm sv = some v ∧ Rel f w0 s' a w' ∧ NmExt s.nm s'.nm) : CallOb P f g args K s
  | tell (s s' : St) (l : Le s s') (x : NmExt s.nm s'.nm) (k : CallOb P f g args K s') : CallOb P f g args K s
  /-- A function without a body, that turns nothing. -/
  | ext (s : St) (sv : SV) (k : K sv s) (h : ∀ (w0 : World) (a : Act) (w : World) (vals : List Value), Rel f w0 s a w → denL s.nm args = some vals →
      ∃ v, den s.nm sv = some v ∧ (callFunc g vals.toArray).run P w = .ok (.value v) w) : CallOb P f g args K s

inductive YieldOb (P : Program) (f : HP) (l : Nat) (args : List SV) (K : SV → St → Prop) (s : St) : Prop
  | mk (vals : List Value) (hv : denL s.nm args = some vals) (R : HP → Prop) (pre : List Asn) (Q : Value → List Asn → Prop) (spec : DoesY P l vals.toArray R pre Q)
      (rest : List Ent) (take : ∀ h, sat s.ents h → sat (pre ++ rest.map (entDen s.nm)) h) (hR : ∀ f' b, Split f' b f → sat (rest.map (entDen s.nm)) b → R f')
      (k : ∀ v post, Q v post → ∃ (sv : SV) (s' : St), K sv s' ∧ s'.n = s.n ∧ s'.env = s.env ∧ NmExt s.nm s'.nm ∧ den s'.nm sv = some v ∧ ∀ h, sat (post ++ rest.map (entDen s.nm)) h → sat s'.ents h)
theorem yieldOb_runs {P : Program} {f : HP} {w0 : World} {s : St} {a : Act} {w : World} {l : Nat} {args : List SV} {vals : List Value} {K : SV → St → Prop} (h : YieldOb P f l args K s) (r : Rel f w0 s a w) (hv : denL s.nm args = some vals) :
    ∃ fn tmps assign body, (Instr.yield l vals.toArray).run P w = .ok (.round l fn tmps assign body) w ∧
      RoundIn (Fc none) 0 P l fn tmps assign body w fun e w' => ∃ v sv s', e = .returned v ∧ K sv s' ∧ den s'.nm sv = some v ∧ Rel f w0 s' a w' ∧ NmExt s.nm s'.nm := by
  obtain ⟨vals', hv', R, pre, Q, spec, rest, take, hR, k⟩ := h
  rw [hv] at hv'; simp only [Option.some.injEq] at hv'; subst hv'
  obtain ⟨x, t, hs⟩ := r.heap
  have hat : At f (pre ++ rest.map (entDen s.nm)) w := ⟨x, t, take _ hs⟩
  obtain ⟨g', hat', b, hb1, hb2⟩ := hat.frame
  obtain ⟨fn, tmps, assign, body, h1, h2⟩ := spec.run g' w (hR g' b hb1 hb2) hat'
  refine ⟨fn, tmps, assign, body, h1, h2.mono ?_⟩
  rintro e w' ⟨v, post, he, hp, hq, hstr⟩
  obtain ⟨sv, s', k1, k2, k3, k4, k5, k6⟩ := k v post hq
  refine ⟨v, sv, s', he, k1, k5, ⟨r.defers.str hstr, r.size.trans k2.symm, by rw [k3]; exact r.env.ext k4, ?_, r.str.trans hstr⟩, k4⟩
  obtain ⟨y, t', hy⟩ := hp.unframe hb1 hb2
  exact ⟨y, t', k6 _ hy⟩
theorem callOb_runs {P : Program} {f : HP} {w0 : World} {s : St} {a : Act} {w : World} {g : FuncId} {args : List SV} {vals : List Value} {K : SV → St → Prop} (h : CallOb P f g args K s) (r : Rel f w0 s a w) (hv : denL s.nm args = some vals) :
    (Enters P g ∧ Calls P g vals.toArray w fun e w' => ∃ v sv s', e = .returned v ∧ K sv s' ∧ den s'.nm sv = some v ∧ Rel f w0 s' a w' ∧ NmExt s.nm s'.nm) ∨
      ∃ v sv s', (callFunc g vals.toArray).run P w = .ok (.value v) w ∧ K sv s' ∧ den s'.nm sv = some v ∧ Rel f w0 s' a w ∧ NmExt s.nm s'.nm := by
  induction h generalizing a w with
  | @mk s vals' hv' R pre Q spec rest take hR k =>
    rw [hv] at hv'; simp only [Option.some.injEq] at hv'; subst hv'
    refine .inl ⟨spec.enters, ?_⟩
    obtain ⟨x, t, hs⟩ := r.heap
    have hat : At f (pre ++ rest.map (entDen s.nm)) w := ⟨x, t, take _ hs⟩
    obtain ⟨g', hat', b, hb1, hb2⟩ := hat.frame
    refine (spec.run g' w (hR g' b hb1 hb2) hat').mono ?_
    rintro e w' ⟨v, post, he, hp, hq, hstr⟩
    obtain ⟨sv, s', k1, k2, k3, k4, k5, k6⟩ := k v post hq
    refine ⟨v, sv, s', he, k1, k5, ⟨r.defers.str hstr, r.size.trans k2.symm, by rw [k3]; exact r.env.ext k4, ?_, r.str.trans hstr⟩, k4⟩
    obtain ⟨y, t', hy⟩ := hp.unframe hb1 hb2
    exact ⟨y, t', k6 _ hy⟩
  | @sem s h => exact .inl (h w0 a w vals r hv)
  | @tell s s' l x _ ih =>
    rcases ih (r.le l) (denL_ext x _ _ hv) with ⟨h1, h2⟩ | ⟨v, sv, s'', k1, k2, k3, k4, k5⟩
    · exact .inl ⟨h1, h2.mono fun e w' ⟨v, sv, s'', k1, k2, k3, k4, k5⟩ => ⟨v, sv, s'', k1, k2, k3, k4, x.trans k5⟩⟩
    · exact .inr ⟨v, sv, s'', k1, k2, k3, k4, x.trans k5⟩
  | @ext s sv k h =>
    obtain ⟨v, h1, h2⟩ := h w0 a w vals r hv
    exact .inr ⟨v, sv, s, h2, k, h1, r, NmExt.refl _⟩

def callD (P : Program) (f : HP) (s : St) (fo : Operand) (args : List Operand) (K : SV → St → Prop) : Prop :=
  match ev s.env fo, evL s.env args with
  | some (.fn (.func g) a b), some l => forceL (appK a (appK l b)) fun l' => CallOb P f g l' K s
  | some (.fn (.yield y) [] []), some l => forceL l fun l' => YieldOb P f y l' K s
  | _, _ => False
theorem appK_eq : ∀ (a b : List SV), appK a b = a ++ b
  | [], _ => rfl
  | v :: a, b => by simp [appK, appK_eq a b]

/-! ### Methods called through an interface: pointers' own methods -/
def methB (P : Program) (t : TypeId) (name : String) (g : FuncId) : Bool :=
  isPtr P t && (match P.info? t with
    | some i => (match i.methods.find? (·.name == name) with
      | some m => m.path.isEmpty && (match m.func with
        | some (g', true) => Nat.beq g' g
        | _ => false)
      | none => false)
    | none => false)
theorem method_runs {P : Program} {t : TypeId} {name : String} {g : FuncId} (h : methB P t name g = true) (n : Nat) (v : Value) (w : World) : (method (n + 1) t v name).run P w = .ok (g, v) w := by
  unfold methB at h
  rw [Bool.and_eq_true] at h
  obtain ⟨hp, h⟩ := h
  obtain ⟨e, he⟩ := isPtr_some hp
  split at h
  · rename_i i hi
    split at h
    · rename_i m hm
      rw [Bool.and_eq_true] at h
      obtain ⟨h1, h⟩ := h
      split at h
      · rename_i g' hg
        have hgg : g' = g := Nat.eq_of_beq_eq_true h
        subst hgg
        have hpath : m.path.toList = [] := by
          have : m.path = #[] := Array.isEmpty_iff.1 h1
          rw [this]
        simp [method, typeInfo, hi, hm, follow, hpath, hg, receiverAt, underlying_run he, Place.get]
      · cases h
    · cases h
  · cases h
/-- The prover names the method's function. -/
inductive InvOb (P : Program) (t : TypeId) (name : String) (K : FuncId → Prop) : Prop
  | mk (g : FuncId) (h : methB P t name g = true) (k : K g) : InvOb P t name K
def invD (P : Program) (f : HP) (s : St) (ro : Operand) (name : String) (args : List Operand) (K : SV → St → Prop) : Prop :=
  match ev s.env ro, evL s.env args with
  | some (.ifc t v), some l => InvOb P t name fun g => forceL (v :: l) fun l' => CallOb P f g l' K s
  | some (.raw (.iface t u)), some l => InvOb P t name fun g => forceL (.raw u :: l) fun l' => CallOb P f g l' K s
  | _, _ => False
theorem invD_runs {P : Program} {f : HP} {s : St} {ro : Operand} {name : String} {args : List Operand} {K : SV → St → Prop} {w0 : World} {a : Act} {w : World} (h : invD P f s ro name args K) (r : Rel f w0 s a w) :
    ∃ t u g rv l vals, a.eval ro = .iface t u ∧ methB P t name g = true ∧ den s.nm rv = some u ∧ evL s.env args = some l ∧ denL s.nm l = some vals ∧ CallOb P f g (rv :: l) K s := by
  unfold invD at h
  split at h <;> try exact h.elim
  · rename_i t v l hv hl
    obtain ⟨g, h1, h2⟩ := h
    rw [forceL_eq] at h2
    have e := r.env.ev hv
    simp only [den] at e
    cases hu : den s.nm v with
    | none => rw [hu] at e; cases e
    | some u =>
      rw [hu] at e
      simp only [mapV, Option.some.injEq] at e
      exact ⟨t, u, g, v, l, _, e.symm, h1, hu, hl, r.env.evL hl, h2⟩
  · rename_i t u l hv hl
    obtain ⟨g, h1, h2⟩ := h
    rw [forceL_eq] at h2
    have e := r.env.ev hv
    simp only [den, Option.some.injEq] at e
    exact ⟨t, u, g, .raw u, l, _, e.symm, h1, rfl, hl, r.env.evL hl, h2⟩
def intT (P : Program) (t : TypeId) : Bool := match P.underlying t with
  | some (.int _) => true
  | _ => false
theorem intT_some {P : Program} {t : TypeId} (h : intT P t = true) : ∃ q, P.underlying t = some (.int q) := by
  unfold intT at h
  split at h
  · exact ⟨_, ‹_›⟩
  · cases h
/-! ### One operation -/
def opD (P : Program) (f : HP) (o : Oper) (s : St) (K : St → Prop) : Prop :=
  match o.op with
  | .load t x => match ev s.env x with
    | some a => loadD P f s t a fun v s' => putK s' o.dst v K
    | none => False
  | .store t x y => match o.dst, ev s.env x, ev s.env y with
    | none, some a, some b => storeD P s t a b K
    | _, _, _ => False
  | .alloc t => allocD P s t fun v s' => putK s' o.dst v K
  | .box t x => match ev s.env x with
    | some a => boxD s t a fun v s' => putK s' o.dst v K
    | none => False
  | .call ⟨.value fo, args, _⟩ => callD P f s fo args.toList fun v s' => putK s' o.dst v K
  | .call ⟨.invoke ro name, args, _⟩ => invD P f s ro name args.toList fun v s' => putK s' o.dst v K
  | .call ⟨.builtin .append, args, tys⟩ => match args.toList, tys.toList with
    | [x, y], [t, t2] => match ev s.env x, ev s.env y with
      | some a, some b => bif noIntT P t2 then appendD P f s t a b fun v s' => putK s' o.dst v K else (match b with
        | .int _ n => bif intT P t2 then appendZD P s t a n fun v s' => putK s' o.dst v K else False
        | _ => False)
      | _, _ => False
    | _, _ => False
  | .call ⟨.builtin .copy, args, tys⟩ => match args.toList, tys.toList with
    | [x, y], [t, _] => match ev s.env x, ev s.env y with
      | some a, some b => copyD P f s t a b fun v s' => putK s' o.dst v K
      | _, _ => False
    | _, _ => False
  | .call ⟨.builtin .clear, args, tys⟩ => match args.toList, tys.toList with
    | [x], [t] => match ev s.env x with
      | some a => clearD P s t a fun v s' => putK s' o.dst v K
      | none => False
    | _, _ => False
  | .lookup t x y ok => match ev s.env x, ev s.env y with
    | some a, some b => lookupD P f s t a b ok fun v => putK s o.dst v K
    | _, _ => False
  | .mapUpdate t x y z => match o.dst, ev s.env x, ev s.env y, ev s.env z with
    | none, some a, some b, some c => mapPutD P s t a b c K
    | _, _, _, _ => False
  | .call ⟨.builtin .delete, args, tys⟩ => match args.toList, tys.toList with
    | [x, y], [t, _] => match ev s.env x, ev s.env y with
      | some a, some b => mapDelD P s t a b fun s' => putK s' o.dst (.tuple []) K
      | _, _ => False
    | _, _ => False
  | .makeMap t none => makeMapD P s t fun v s' => putK s' o.dst v K
  | .range t x => match ev s.env x with
    | some a => rangeD P s t a fun v s' => putK s' o.dst v K
    | none => False
  | .next x false => match ev s.env x with
    | some a => nextD s a fun v s' => putK s' o.dst v K
    | none => False
  | .entry x => match ev s.env x with
    | some a => entryD s a fun v => putK s o.dst v K
    | none => False
  | .call ⟨.builtin .len, args, tys⟩ => match mapArg s.env args.toList with
    | some n => match tys.toList with
      | [t] => mapLenD P s t n fun v => putK s o.dst v K
      | _ => False
    | none => pureD P s.nm s.env (.call ⟨.builtin .len, args, tys⟩) fun v => putK s o.dst v K
  | .makeSlice t x y => match ev s.env x, ev s.env y with
    | some a, some b => makeD P s t a b fun v s' => putK s' o.dst v K
    | _, _ => False
  | .buildSlice t len parts => match parts2 s.env parts.toList with
    | some l => buildSliceD P s t len l fun v s' => putK s' o.dst v K
    | none => False
  | .convert t1 t2 x => match toStr P t1 t2 with
    | true => match ev s.env x with
      | some a => bytesD P f s t1 t2 a fun v s' => putK s' o.dst v K
      | none => False
    | false => pureD P s.nm s.env (.convert t1 t2 x) fun v => putK s o.dst v K
  | op => pureD P s.nm s.env op fun v => putK s o.dst v K

/-- What a step of one operation leaves. -/
def After (f : HP) (w0 : World) (K : St → Prop) : Act → World → Prop := fun a w => ∃ s, K s ∧ Rel f w0 s a w
/-- The names are only added to. -/
def Nm (s : St) (K : St → Prop) : St → Prop := fun s' => K s' ∧ NmExt s.nm s'.nm
theorem wp_value {ro : Option Nat} {P : Program} {o : Oper} {a : Act} {w w' : World} {v : Value} {next : Act → World → Prop} {Q : Exit → Act → World → Prop} (hd : ∀ c, o.op ≠ .defer c) (h : (execOp a.eval o).run P w = .ok (.value v) w') (k : next (a.put o.dst v) w') : wpR ro P o a w next Q :=
  ⟨hd, by rw [h]; exact k⟩
theorem nm_eq {s s' : St} (h : s'.nm = s.nm) : NmExt s.nm s'.nm := by rw [h]; exact NmExt.refl _
theorem opD_runs {ro : Option Nat} {P : Program} {f : HP} {w0 : World} {o : Oper} {s : St} {a : Act} {w : World} {K : St → Prop} {Q : Exit → Act → World → Prop} (h : opD P f o s K) (r : Rel f w0 s a w) : wpR ro P o a w (After f w0 (Nm s K)) Q := by
  unfold opD at h
  split at h
  · rename_i t x ho
    split at h <;> try exact h.elim
    rename_i p hp
    obtain ⟨sv, v, b, off, u, k, hd, hx, hl, hr, _⟩ := loadD_runs h r (r.env.ev hp)
    obtain ⟨s', k', r', hn⟩ := r.put k hd
    exact wp_value (nd ho) (by simp [execOp, ho, Instr.loadAt, hx, Instr.sureAddr, hr w hl]) ⟨s', ⟨k', nm_eq hn⟩, r'⟩
  · rename_i t x y ho
    split at h <;> try exact h.elim
    rename_i p q hdst hp hq
    obtain ⟨s', w', k, r', hr, hn⟩ := storeD_runs h r (r.env.ev hp) (r.env.ev hq)
    have : (execOp a.eval o).run P w = .ok .skip w' := by simp [execOp, ho, hr]
    refine ⟨nd ho, ?_⟩
    rw [this]
    simp only [Oper.uponIn, hdst, Act.put]
    exact ⟨s', ⟨k, nm_eq hn⟩, r'⟩
  · rename_i t ho
    obtain ⟨sv, v, s', w', k, r', hd, hr, hx⟩ := allocD_runs h r
    obtain ⟨s'', k', r'', hn⟩ := r'.put k hd
    exact wp_value (nd ho) (by simp [execOp, ho, hr]) ⟨s'', ⟨k', hx.trans (nm_eq hn)⟩, r''⟩
  · rename_i t x ho
    split at h <;> try exact h.elim
    rename_i p hp
    obtain ⟨sv, v, s', w', k, r', hd, hr, hx⟩ := boxD_runs (P := P) h r (r.env.ev hp)
    obtain ⟨s'', k', r'', hn⟩ := r'.put k hd
    exact wp_value (nd ho) (by simp [execOp, ho, hr]) ⟨s'', ⟨k', hx.trans (nm_eq hn)⟩, r''⟩
  · rename_i fo args tys ho
    unfold callD at h
    split at h <;> try exact h.elim
    rotate_left
    · rename_i y l hfo hl
      rw [forceL_eq] at h
      have hf := r.env.ev hfo
      have hal := r.env.evL hl
      simp only [den, denL, mapO2, Option.some.injEq] at hf
      obtain ⟨fn, tmps, assign, body, h1, h2⟩ := yieldOb_runs h r hal
      have hr : (execOp a.eval o).run P w = .ok (.round y fn tmps assign body) w := by
        simp only [execOp, ho, resolve, ← hf, Deferred.ofValue, Sem.run_bind, Sem.run_pure, Result.andThen_ok, invoke]
        rw [← h1]
        congr 2
        apply Array.ext'
        simp
      refine ⟨nd ho, ?_⟩
      rw [hr]
      refine ⟨(fun h => by cases h), RoundIn.mono (F := Fc ro) h2 ?_⟩
      rintro e w' ⟨v', sv, s', rfl, k, hd, r', hx⟩
      obtain ⟨s'', k', r'', hn⟩ := r'.put k hd
      exact ⟨s'', ⟨k', hx.trans (nm_eq hn)⟩, r''⟩
    rename_i g x y l hfo hl
    rw [forceL_eq, appK_eq, appK_eq] at h
    have hf := r.env.ev hfo
    have hal := r.env.evL hl
    simp only [den] at hf
    cases e1 : denL s.nm x with
    | none => rw [e1] at hf; simp [mapO2] at hf
    | some u =>
      cases e2 : denL s.nm y with
      | none => rw [e1, e2] at hf; simp [mapO2] at hf
      | some v =>
        rw [e1, e2] at hf
        simp only [mapO2, Option.some.injEq] at hf
        have hrun : (execOp a.eval o).run P w = ((callFunc g (u ++ (List.map a.eval args.toList ++ v)).toArray).run P w) := by
          simp only [execOp, ho, resolve, ← hf, Deferred.ofValue, Sem.run_bind, Sem.run_pure, Result.andThen_ok, invoke]
          congr 2
          apply Array.ext'
          simp
        rcases callOb_runs h r (denL_append e1 (denL_append hal e2)) with ⟨hen, hc⟩ | ⟨v', sv, s', hr, k, hd, r', hx⟩
        · have hr : (execOp a.eval o).run P w = .ok (.enter g (u ++ (List.map a.eval args.toList ++ v)).toArray) w := by
            rw [hrun]; exact hen _ _
          refine ⟨nd ho, ?_⟩
          rw [hr]
          refine ⟨(fun h => by cases h), callsIn_Fc.2 (hc.mono ?_)⟩
          rintro e w' ⟨v', sv, s', rfl, k, hd, r', hx⟩
          obtain ⟨s'', k', r'', hn⟩ := r'.put k hd
          exact ⟨s'', ⟨k', hx.trans (nm_eq hn)⟩, r''⟩
        · obtain ⟨s'', k', r'', hn⟩ := r'.put k hd
          exact wp_value (nd ho) (hrun.trans hr) ⟨s'', ⟨k', hx.trans (nm_eq hn)⟩, r''⟩
  · rename_i rop name args tys ho
    obtain ⟨t, u, g, rv, l, vals, e1, h1, e2, hl, hal, hc⟩ := invD_runs h r
    have hrun : (execOp a.eval o).run P w = (callFunc g (u :: vals).toArray).run P w := by
      have hv : vals = List.map a.eval args.toList := by
        have := r.env.evL hl
        rw [hal] at this
        exact Option.some.inj this
      have hm := method_runs h1 (P.types.size + 99) u w
      simp only [execOp, ho, resolve, e1, Sem.run_bind, Sem.run_pure, Result.andThen_ok, invoke]
      have hall : (#[Value.iface t u] ++ Array.map a.eval args) = (Value.iface t u :: vals).toArray := by
        rw [hv]; apply Array.ext'; simp
      rw [hall]
      have h9 : (Value.iface t u :: vals).toArray.extract 1 = vals.toArray := by apply Array.ext'; simp
      show (callMethod (Value.iface t u) name ((Value.iface t u :: vals).toArray.extract 1)).run P w = _
      rw [h9]
      have hprog : (program).run P w = .ok P w := rfl
      simp only [callMethod, Sem.run_bind, hprog, Result.andThen_ok]
      rw [show P.types.size + Made.depth = P.types.size + 99 + 1 from rfl, hm]
      simp only [Result.andThen_ok]
      have h8 : #[u] ++ vals.toArray = (u :: vals).toArray := by apply Array.ext'; simp
      rw [h8]
    rcases callOb_runs hc r (show denL s.nm (rv :: l) = some (u :: vals) by show consO (den s.nm rv) (denL s.nm l) = _; rw [e2, hal]; rfl) with ⟨hen, hc⟩ | ⟨v', sv, s', hr, k, hd, r', hx⟩
    · have hr : (execOp a.eval o).run P w = .ok (.enter g (u :: vals).toArray) w := by
        rw [hrun]; exact hen _ _
      refine ⟨nd ho, ?_⟩
      rw [hr]
      refine ⟨(fun h => by cases h), callsIn_Fc.2 (hc.mono ?_)⟩
      rintro e w' ⟨v', sv, s', rfl, k, hd, r', hx⟩
      obtain ⟨s'', k', r'', hn⟩ := r'.put k hd
      exact ⟨s'', ⟨k', hx.trans (nm_eq hn)⟩, r''⟩
    · obtain ⟨s'', k', r'', hn⟩ := r'.put k hd
      exact wp_value (nd ho) (hrun.trans hr) ⟨s'', ⟨k', hx.trans (nm_eq hn)⟩, r''⟩
  · rename_i args tys ho
    split at h <;> try exact h.elim
    rename_i x y t t2 hx ht
    split at h <;> try exact h.elim
    rename_i p q hp hq
    have h : ∃ sv v' s' w', putK s' o.dst sv K ∧ Rel f w0 s' a w' ∧ den s'.nm sv = some v' ∧ (Builtin.append_ #[t, t2] o.type #[a.eval x, a.eval y]).run P w = .ok v' w' ∧ NmExt s.nm s'.nm := by
      cases h2 : noIntT P t2 with
      | true => rw [h2] at h; exact append_runs (ty := o.type) h h2 r (r.env.ev hp) (r.env.ev hq)
      | false =>
        rw [h2] at h
        simp only [cond_false] at h
        split at h <;> try exact h.elim
        rename_i q9 n9
        obtain ⟨h3, h⟩ := cond_some h
        obtain ⟨q8, h4⟩ := intT_some h3
        have hy : a.eval y = .int q9 n9 := by
          have := r.env.ev hq
          simpa [den, eq_comm] using this
        rw [hy]
        exact appendZ_runs (ty := o.type) h h4 r (r.env.ev hp)
    obtain ⟨sv, v, s', w', k, r', hd, hr, hnm⟩ := h
    obtain ⟨s'', k', r'', hn⟩ := r'.put k hd
    have h1 : args = #[x, y] := by rw [← Array.toArray_toList (xs := args), hx]
    have h2 : tys = #[t, t2] := by rw [← Array.toArray_toList (xs := tys), ht]
    exact wp_value (nd ho) (by simp [execOp, ho, resolve, invoke, builtin, h1, h2, hr]) ⟨s'', ⟨k', hnm.trans (nm_eq hn)⟩, r''⟩
  · rename_i args tys ho
    split at h <;> try exact h.elim
    rename_i x y t t2 hx ht
    split at h <;> try exact h.elim
    rename_i p q hp hq
    obtain ⟨sv, v, s', w', k, r', hd, hr, hnm⟩ := copy_runs (t2 := t2) (ty := o.type) h r (r.env.ev hp) (r.env.ev hq)
    obtain ⟨s'', k', r'', hn⟩ := r'.put k hd
    have h1 : args = #[x, y] := by rw [← Array.toArray_toList (xs := args), hx]
    have h2 : tys = #[t, t2] := by rw [← Array.toArray_toList (xs := tys), ht]
    exact wp_value (nd ho) (by simp [execOp, ho, resolve, invoke, builtin, h1, h2, hr]) ⟨s'', ⟨k', hnm.trans (nm_eq hn)⟩, r''⟩
  · rename_i args tys ho
    split at h <;> try exact h.elim
    rename_i x t hx ht
    split at h <;> try exact h.elim
    rename_i p hp
    obtain ⟨sv, v, s', w', k, r', hd, hr, hnm⟩ := clear_runs (ty := o.type) h r (r.env.ev hp)
    obtain ⟨s'', k', r'', hn⟩ := r'.put k hd
    have h1 : args = #[x] := by rw [← Array.toArray_toList (xs := args), hx]
    have h2 : tys = #[t] := by rw [← Array.toArray_toList (xs := tys), ht]
    exact wp_value (nd ho) (by simp [execOp, ho, resolve, invoke, builtin, h1, h2, hr]) ⟨s'', ⟨k', hnm.trans (nm_eq hn)⟩, r''⟩
  · rename_i t x y ok ho
    split at h <;> try exact h.elim
    rename_i p q hp hq
    obtain ⟨sv, v, k, hd, hr⟩ := lookupD_runs h r (r.env.ev hp) (r.env.ev hq)
    obtain ⟨s'', k', r'', hn⟩ := r.put k hd
    exact wp_value (nd ho) (by simp [execOp, ho, hr]) ⟨s'', ⟨k', nm_eq hn⟩, r''⟩
  · rename_i t x y z ho
    split at h <;> try exact h.elim
    rename_i p q u hdst hp hq hu
    obtain ⟨s', w', k, r', hr, hn⟩ := mapPut_runs h r (r.env.ev hp) (r.env.ev hq) (r.env.ev hu)
    have : (execOp a.eval o).run P w = .ok .skip w' := by simp [execOp, ho, hr]
    refine ⟨nd ho, ?_⟩
    rw [this]
    simp only [Oper.uponIn, hdst, Act.put]
    exact ⟨s', ⟨k, nm_eq hn⟩, r'⟩
  · rename_i args tys ho
    split at h <;> try exact h.elim
    rename_i x y t t2 hx ht
    split at h <;> try exact h.elim
    rename_i p q hp hq
    obtain ⟨s', w', k, r', hr, hn1⟩ := mapDel_runs (kt := t2) (ty := o.type) h r (r.env.ev hp) (r.env.ev hq)
    obtain ⟨s'', k', r'', hn⟩ := r'.put k rfl
    have h1 : args = #[x, y] := by rw [← Array.toArray_toList (xs := args), hx]
    have h2 : tys = #[t, t2] := by rw [← Array.toArray_toList (xs := tys), ht]
    exact wp_value (nd ho) (by simp [execOp, ho, resolve, invoke, builtin, h1, h2, hr]) ⟨s'', ⟨k', (nm_eq hn1).trans (nm_eq hn)⟩, r''⟩
  · rename_i t ho
    obtain ⟨sv, v, s', w', k, r', hd, hr, hx⟩ := makeMap_runs h r
    obtain ⟨s'', k', r'', hn⟩ := r'.put k hd
    exact wp_value (nd ho) (by simp [execOp, ho, hr]) ⟨s'', ⟨k', hx.trans (nm_eq hn)⟩, r''⟩
  · rename_i t x ho
    split at h <;> try exact h.elim
    rename_i p hp
    obtain ⟨sv, v, s', w', k, r', hd, hr, hx⟩ := rangeD_runs h r (r.env.ev hp)
    obtain ⟨s'', k', r'', hn⟩ := r'.put k hd
    exact wp_value (nd ho) (by simp [execOp, ho, hr]) ⟨s'', ⟨k', hx.trans (nm_eq hn)⟩, r''⟩
  · rename_i x ho
    split at h <;> try exact h.elim
    rename_i p hp
    obtain ⟨sv, v, s', w', k, r', hd, hr, hn1⟩ := nextD_runs (P := P) (ty := o.type) h r (r.env.ev hp)
    obtain ⟨s'', k', r'', hn⟩ := r'.put k hd
    exact wp_value (nd ho) (by simp [execOp, ho, hr]) ⟨s'', ⟨k', (nm_eq hn1).trans (nm_eq hn)⟩, r''⟩
  · rename_i x ho
    split at h <;> try exact h.elim
    rename_i p hp
    obtain ⟨sv, v, k, hd, hr⟩ := entryD_runs (P := P) h r (r.env.ev hp)
    obtain ⟨s'', k', r'', hn⟩ := r.put k hd
    exact wp_value (nd ho) (by simp [execOp, ho, hr]) ⟨s'', ⟨k', nm_eq hn⟩, r''⟩
  · rename_i args tys ho
    split at h
    · rename_i n hn0
      split at h <;> try exact h.elim
      rename_i t ht
      unfold mapArg at hn0
      split at hn0 <;> try (cases hn0; done)
      rename_i x hx
      split at hn0 <;> try (cases hn0; done)
      rename_i n' hp
      simp only [Option.some.injEq] at hn0; subst hn0
      obtain ⟨sv, v, k, hd, hr⟩ := mapLenD_runs (ty := o.type) h r (r.env.ev hp)
      obtain ⟨s'', k', r'', hn⟩ := r.put k hd
      have h1 : args = #[x] := by rw [← Array.toArray_toList (xs := args), hx]
      have h2 : tys = #[t] := by rw [← Array.toArray_toList (xs := tys), ht]
      exact wp_value (nd ho) (by simp [execOp, ho, resolve, invoke, builtin, h1, h2, hr]) ⟨s'', ⟨k', nm_eq hn⟩, r''⟩
    · have ho' := ho
      rw [← ho] at h
      obtain ⟨sv, v, k, hd, hr⟩ := pure_runs h r.env
      obtain ⟨s', k', r', hn⟩ := r.put k hd
      exact wp_value (nd ho') (hr w) ⟨s', ⟨k', nm_eq hn⟩, r'⟩
  · rename_i t x y ho
    split at h <;> try exact h.elim
    rename_i p q hp hq
    obtain ⟨sv, v, s', w', k, r', hd, hr, hnm⟩ := make_runs h r (r.env.ev hp) (r.env.ev hq)
    obtain ⟨s'', k', r'', hn⟩ := r'.put k hd
    exact wp_value (nd ho) (by simp [execOp, ho, hr]) ⟨s'', ⟨k', hnm.trans (nm_eq hn)⟩, r''⟩
  · rename_i t len parts ho
    split at h <;> try exact h.elim
    rename_i l hl
    obtain ⟨h1, h2⟩ := parts2_den r.env hl
    obtain ⟨sv, v, s', w', k, r', hd, hr, hnm⟩ := buildSlice_runs (vals := parts.map fun (i, x) => (i, a.eval x)) h r (by simpa using h1) (by simpa using h2)
    obtain ⟨s'', k', r'', hn⟩ := r'.put k hd
    exact wp_value (nd ho) (by simp only [execOp, ho, Sem.run_bind, hr, Result.andThen_ok, Sem.run_pure]) ⟨s'', ⟨k', hnm.trans (nm_eq hn)⟩, r''⟩
  · rename_i t1 t2 x ho
    split at h
    · split at h <;> try exact h.elim
      rename_i p hp
      obtain ⟨sv, v, k, hd, hr⟩ := bytes_runs h r (r.env.ev hp)
      obtain ⟨s'', k', r'', hn⟩ := r.put k hd
      exact wp_value (nd ho) (by simp [execOp, ho, hr]) ⟨s'', ⟨k', nm_eq hn⟩, r''⟩
    · have ho' := ho
      rw [← ho] at h
      obtain ⟨sv, v, k, hd, hr⟩ := pure_runs h r.env
      obtain ⟨s', k', r', hn⟩ := r.put k hd
      exact wp_value (nd ho') (hr w) ⟨s', ⟨k', nm_eq hn⟩, r'⟩
  · have nd' : ∀ c, o.op ≠ .defer c := fun c hc => by rw [hc] at h; exact h
    obtain ⟨sv, v, k, hd, hr⟩ := pure_runs h r.env
    obtain ⟨s', k', r', hn⟩ := r.put k hd
    exact wp_value nd' (hr w) ⟨s', ⟨k', nm_eq hn⟩, r'⟩

/-! ### A region, in the order of its text -/
def slotOf (ops : Array Oper) (j : Nat) : Option Nat :=
  match ops[j]? with
  | some ⟨d, _, _, _, _, _⟩ => d
  | none => none
/-- One slot more. -/
def St.top (s : St) (x : Nat × SV) : St :=
  match s with
  | ⟨n, env, nm, next, hp⟩ => ⟨n, x :: env, nm, next, hp⟩
theorem St.top_eq (s : St) (x : Nat × SV) : s.top x = { s with env := x :: s.env } := rfl
/-- An operation, if its guard lets it. -/
def guardD (P : Program) (f : HP) (ops : Array Oper) (o : Oper) (s : St) (K : St → Prop) : Prop :=
  match o.guard with
  | none => opD P f o s K
  | some (j, want) => match slotOf ops j with
    | some d => match getE s.env d with
      | some .tt => match want with
        | true => opD P f o s K
        | false => putK s o.dst (.raw undef) K
      | some .ff => match want with
        | true => putK s o.dst (.raw undef) K
        | false => opD P f o s K
      | some (.bool b) => match want with
        | true => Br b (opD P f o (s.top (d, .tt)) K) (putK (s.top (d, .ff)) o.dst (.raw undef) K)
        | false => Br b (putK (s.top (d, .tt)) o.dst (.raw undef) K) (opD P f o (s.top (d, .ff)) K)
      | some (.raw (.tuple _)) => putK s o.dst (.raw undef) K
      | _ => False
    | none => False
def opsD (P : Program) (f : HP) (ops : Array Oper) : List Oper → St → (St → Prop) → Prop
  | [], s, K => K s
  | o :: r, s, K => guardD P f ops o s fun s' => opsD P f ops r s' K

theorem Rel.putU {f : HP} {w0 : World} {s : St} {a : Act} {w : World} {d : Option Nat} {K : St → Prop} (r : Rel f w0 s a w) (h : putK s d (.raw undef) K) : After f w0 (Nm s K) (a.put d undef) w :=
  let ⟨s', k, r', hn⟩ := r.put h rfl; ⟨s', ⟨k, nm_eq hn⟩, r'⟩
theorem yielded_of {ops : Array Oper} {j d : Nat} {a : Act} {b : Bool} (h : slotOf ops j = some d) (e : a.tmps.getD d undef = .bool b) : yielded ops a.tmps j = some b := by
  unfold slotOf at h
  split at h <;> try (cases h; done)
  rename_i d' o1 o2 o3 o4 o5 ho
  subst h
  have hd : a.tmps[d]? = some (.bool b) := by
    by_cases hlt : d < a.tmps.size
    · simp only [Array.getD, hlt, dite_true] at e
      simp [hlt]; exact e
    · simp [Array.getD, hlt, undef] at e
  simp [yielded, ho, hd]
theorem yielded_none {ops : Array Oper} {j d : Nat} {a : Act} {u : Array Value} (h : slotOf ops j = some d) (e : a.tmps.getD d undef = .tuple u) : yielded ops a.tmps j = none := by
  unfold slotOf at h
  split at h <;> try (cases h; done)
  rename_i d' o1 o2 o3 o4 o5 ho
  subst h
  simp only [yielded, ho, Option.bind_some]
  by_cases hlt : d < a.tmps.size
  · simp only [Array.getD, hlt, dite_true] at e
    have : a.tmps[d]? = some (.tuple u) := by simp [hlt]; exact e
    rw [this]
  · have : a.tmps[d]? = none := by simp; omega
    rw [this]
theorem Rel.tt {f : HP} {w0 : World} {s : St} {a : Act} {w : World} {d : Nat} (r : Rel f w0 s a w) (h : a.tmps.getD d undef = .bool true) : Rel f w0 { s with env := (d, .tt) :: s.env } a w :=
  ⟨r.defers, r.size, fun t v hv => by
    unfold getE at hv
    by_cases e : d = t
    · subst e; simp at hv; subst hv; rw [h]; rfl
    · rw [beq_no e] at hv; exact r.env t v hv, r.heap, r.str⟩
theorem Rel.ff {f : HP} {w0 : World} {s : St} {a : Act} {w : World} {d : Nat} (r : Rel f w0 s a w) (h : a.tmps.getD d undef = .bool false) : Rel f w0 { s with env := (d, .ff) :: s.env } a w :=
  ⟨r.defers, r.size, fun t v hv => by
    unfold getE at hv
    by_cases e : d = t
    · subst e; simp at hv; subst hv; rw [h]; rfl
    · rw [beq_no e] at hv; exact r.env t v hv, r.heap, r.str⟩
/-- Either the operation is wanted, and its step is shown; or it isn't, and its slot is undef. -/
theorem guardD_runs {ro : Option Nat} {P : Program} {f : HP} {w0 : World} {ops : Array Oper} {o : Oper} {s : St} {a : Act} {w : World} {K : St → Prop} {Q : Exit → Act → World → Prop} (h : guardD P f ops o s K) (r : Rel f w0 s a w) :
    if Region.wanted o (yielded ops a.tmps) then wpR ro P o a w (After f w0 (Nm s K)) Q else After f w0 (Nm s K) (a.put o.dst undef) w := by
  unfold guardD at h
  split at h
  · rename_i hg
    have hw : Region.wanted o (yielded ops a.tmps) = true := by simp [Region.wanted, hg]
    rw [if_pos hw]
    exact opD_runs h r
  · rename_i j want hg
    split at h <;> try exact h.elim
    rename_i d hd
    have wantIs : ∀ b, a.tmps.getD d undef = .bool b → Region.wanted o (yielded ops a.tmps) = (b == want) := fun b hb => by
      simp [Region.wanted, hg, yielded_of hd hb]
    split at h <;> try exact h.elim
    · rename_i hv
      have hb : a.tmps.getD d undef = .bool true := by have := r.env _ _ hv; simpa [den, eq_comm] using this
      have hw := wantIs _ hb
      split at h
      · rw [if_pos (by rw [hw]; rfl)]; exact opD_runs h r
      · rw [if_neg (by rw [hw]; simp)]; exact r.putU h
    · rename_i hv
      have hb : a.tmps.getD d undef = .bool false := by have := r.env _ _ hv; simpa [den, eq_comm] using this
      have hw := wantIs _ hb
      split at h
      · rw [if_neg (by rw [hw]; simp)]; exact r.putU h
      · rw [if_pos (by rw [hw]; rfl)]; exact opD_runs h r
    · rename_i b hv
      have hb : a.tmps.getD d undef = .bool b := by have := r.env _ _ hv; simpa [den, eq_comm] using this
      have hw := wantIs _ hb
      split at h <;> obtain ⟨h1, h2⟩ := h <;> cases b
      · rw [if_neg (by rw [hw]; simp)]; exact (r.ff hb).putU (h2 rfl)
      · rw [if_pos (by rw [hw]; rfl)]; exact opD_runs (s := { s with env := (d, .tt) :: s.env }) (h1 rfl) (r.tt hb)
      · rw [if_pos (by rw [hw]; rfl)]; exact opD_runs (s := { s with env := (d, .ff) :: s.env }) (h2 rfl) (r.ff hb)
      · rw [if_neg (by rw [hw]; simp)]; exact (r.tt hb).putU (h1 rfl)
    · rename_i u hv
      have hb : a.tmps.getD d undef = .tuple u := by have := r.env _ _ hv; simpa [den, eq_comm] using this
      rw [if_neg (by simp [Region.wanted, hg, yielded_none hd hb])]; exact r.putU h
theorem wp_weak {ro : Option Nat} {P : Program} {o : Oper} {a : Act} {w : World} {next next' : Act → World → Prop} {Q : Exit → Act → World → Prop} (h : wpR ro P o a w next Q) (k : ∀ a w, next a w → next' a w) : wpR ro P o a w next' Q := by
  refine ⟨h.1, ?_⟩
  have h := h.2
  generalize (execOp a.eval o).run P w = x at *
  cases x with
  | ok n w' =>
    cases n <;> simp only [Oper.uponIn] at h ⊢ <;> first
      | exact k _ _ h
      | exact h.elim
      | (refine ⟨h.1, CallsIn.mono h.2 ?_⟩; rintro e w'' hh; cases e <;> first | exact k _ _ hh | exact hh)
      | (refine ⟨h.1, RowsIn.mono h.2 ?_⟩; intro v w'' hh; exact k _ _ hh)
      | (refine ⟨h.1, RoundIn.mono h.2 ?_⟩; rintro e w'' hh; cases e <;> first | exact k _ _ hh | exact hh)
  | halt x w' => cases x <;> simp only [Oper.uponIn] at h ⊢ <;> exact h
theorem opsD_runs {ro : Option Nat} {P : Program} {f : HP} {w0 : World} {ops : Array Oper} {Q : Exit → Act → World → Prop} : ∀ {l : List Oper} {s : St} {a : Act} {w : World} {K : St → Prop}, opsD P f ops l s K → Rel f w0 s a w → (∀ a w, After f w0 K a w → Q .normal a w) →
    wpListIn (Fc ro) 0 P ops Q l a w
  | [], s, a, w, K, h, r, k => k _ _ ⟨s, h, r⟩
  | o :: l, s, a, w, K, h, r, k => by
    have hg := guardD_runs (ro := ro) (Q := Q) h r
    have step : ∀ a w, After f w0 (Nm s fun s' => opsD P f ops l s' K) a w → wpListIn (Fc ro) 0 P ops Q l a w := fun a w ⟨s', hs, hr⟩ => opsD_runs hs.1 hr k
    unfold wpListIn
    split
    · rename_i hw; rw [if_pos hw] at hg; exact wpR_in (wp_weak hg step)
    · rename_i hw; rw [if_neg hw] at hg; exact ⟨fun _ _ => trivial, step _ _ hg⟩
end Sx
