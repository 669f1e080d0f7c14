/- 'pureD': the symbolic run of every operation that looks at values alone, and that it is right. Conditions: none. -/
import Derived.Test.YtiknkeakielncaaE6
namespace Sx
open Go

def fieldD (P : Program) (t : TypeId) (f : Nat) (x : SV) (K : SV → Prop) : Prop :=
  match P.underlying t with
  | some (.struct fs) => match fs[f]? with
    | some ⟨_, ty, off, _, _, _, _⟩ => match x with
      | .agg l => partD P ty l off K
      | _ => False
    | none => False
  | _ => False
theorem field_runs {P : Program} {nm : List (Nat × Plc)} {t : TypeId} {f : Nat} {x : SV} {v : Value} {K : SV → Prop} (h : fieldD P t f x K) (hx : den nm x = some v) :
    ∃ sv u, K sv ∧ den nm sv = some u ∧ ∀ w, (Instr.field t v f).run P w = .ok u w := by
  unfold fieldD at h
  split at h <;> try exact h.elim
  rename_i fs hu
  split at h <;> try exact h.elim
  rename_i n1 ty off n2 n3 n4 n5 hf
  split at h <;> try exact h.elim
  rename_i l
  simp only [den] at hx
  cases e : denL nm l with
  | none => rw [e] at hx; simp [mapO] at hx
  | some u =>
    rw [e] at hx; simp only [mapO, Option.some.injEq] at hx; subst hx
    obtain ⟨sv, v, k, hd, hr⟩ := part_runs h e
    exact ⟨sv, v, k, hd, fun w => by simp [Instr.field, underlying_run hu, hf, asAgg, hr]⟩

inductive ByteAt (s : ByteArray) (i : Int) (K : Int → Prop) : Prop
  | mk (b : UInt8) (h0 : 0 ≤ i) (h : s[i.toNat]? = some b) (k : K b.toNat)
def indexD (P : Program) (t : TypeId) (x : SV) (i : Int) (K : SV → Prop) : Prop :=
  match P.underlying t with
  | some .string => match x with
    | .str s => ByteAt s i fun b => K (.int .u8 b)
    | _ => False
  | some (.array len e) => match P.info? e with
    | some ⟨_, _, sz, _, _, _, _, _, _, _⟩ => match x with
      | .agg l => Need (0 ≤ i ∧ i < len) (partD P e l (i.toNat * sz) K)
      | _ => False
    | none => False
  | _ => False
theorem index_runs {P : Program} {nm : List (Nat × Plc)} {t : TypeId} {x : SV} {v : Value} {k : IntKind} {i : Int} {K : SV → Prop} (h : indexD P t x i K) (hx : den nm x = some v) :
    ∃ sv u, K sv ∧ den nm sv = some u ∧ ∀ w, (Instr.index t v (.int k i)).run P w = .ok u w := by
  unfold indexD at h
  split at h <;> try exact h.elim
  · rename_i hu
    split at h <;> try exact h.elim
    obtain ⟨b, h0, hb, h⟩ := h
    simp only [den, Option.some.injEq] at hx; subst hx
    exact ⟨_, _, h, rfl, fun w => by simp [Instr.index, asIntOf, underlying_run hu, h0, hb]⟩
  · rename_i len e hu
    split at h <;> try exact h.elim
    rename_i n1 n2 sz n3 n4 n5 n6 n7 n8 n9 hi
    split at h <;> try exact h.elim
    rename_i l
    obtain ⟨hb, h⟩ := h
    simp only [den] at hx
    cases e' : denL nm l with
    | none => rw [e'] at hx; simp [mapO] at hx
    | some u =>
      rw [e'] at hx; simp only [mapO, Option.some.injEq] at hx; subst hx
      obtain ⟨sv, v, k, hd, hr⟩ := part_runs h e'
      exact ⟨sv, v, k, hd, fun w => by simp [Instr.index, asIntOf, underlying_run hu, hb, sizeOf_run hi, hr]⟩

def optV (env : List (Nat × SV)) : Option Operand → (Option Int → Prop) → Prop
  | none, K => K none
  | some x, K => match ev env x with
    | some (.int _ n) => K (some n)
    | _ => False
theorem optV_some {nm : List (Nat × Plc)} {env : List (Nat × SV)} {a : Act} (he : EnvOK nm env a) {x : Option Operand} {K : Option Int → Prop} (h : optV env x K) : ∃ i, K i ∧ LoHi (x.map a.eval) i := by
  cases x with
  | none => exact ⟨none, h, trivial⟩
  | some x =>
    simp only [optV] at h
    split at h <;> try exact h.elim
    rename_i k n hx
    exact ⟨some n, h, k, asInt_of (he.ev hx)⟩

def pureD (P : Program) (nm : List (Nat × Plc)) (env : List (Nat × SV)) (op : Op) (K : SV → Prop) : Prop :=
  match op with
  | .move x => forceO (ev env x) K
  | .assign x => forceO (ev env x) K
  | .pick c a b => match ev env c with
    | some .tt => forceO (ev env a) K
    | some .ff => forceO (ev env b) K
    | some (.bool q) => Br q (forceO (ev env a) K) (forceO (ev env b) K)
    | _ => False
  | .nilCheck x => match ev env x with
    | some (.ptr n o) => match getN nm n with
      | some (.at _ _) => K (.ptr n o)
      | _ => False
    | some (.raw (.pointer (some a))) => K (.raw (.pointer (some a)))
    | some (.fn (.func f) a b) => K (.fn (.func f) a b)
    | _ => False
  | .binOp op t x y _ => match ev env x, ev env y with
    | some a, some b => binD P nm op t x y a b K
    | _, _ => False
  | .unOp op _ x => match ev env x with
    | some a => unD op a K
    | none => False
  | .convert s d x => match ev env x with
    | some a => convD P s d a K
    | none => False
  | .makeInterface t x => match ev env x with
    | some a => mkIfcD P t a K
    | none => False
  | .makeFunc fn a b => match evL env a.toList, evL env b.toList with
    | some l, some m => forceL l fun l => forceL m fun m => K (.fn fn l m)
    | _, _ => False
  | .fieldAddr t x f => match ev env x with
    | some (.ptr n o) => match getN nm n with
      | some (.at _ _) => fieldAddrD P t f (.ptr n o) K
      | _ => False
    | some (.raw (.pointer (some ⟨b, o, none⟩))) => fieldAddrD P t f (.raw (.pointer (some ⟨b, o, none⟩))) K
    | _ => False
  | .field t x f => match ev env x with
    | some a => fieldD P t f a K
    | none => False
  | .indexAddr t x i => match ev env x, ev env i with
    | some a, some (.int _ n) => indexAddrD P nm t a n K
    | _, _ => False
  | .index t x i => match ev env x, ev env i with
    | some a, some (.int _ n) => indexD P t a n K
    | _, _ => False
  | .slice t x lo hi none => match ev env x with
    | some a => optV env lo fun l => optV env hi fun h => sliceAtD P t a l h K
    | none => False
  | .extract x i => match ev env x with
    | some (.tuple l) => forceO (nth l i) K
    | _ => False
  | .typeAssert x _ t ok => match ev env x with
    | some a => assertD P a t ok K
    | none => False
  | .build t parts => match parts2 env parts.toList with
    | some l => buildD P t l K
    | none => False
  | .call ⟨.builtin .len, args, tys⟩ => match args.toList, tys.toList with
    | [x], [t] => match ev env x with
      | some a => lenD P t a K
      | none => False
    | _, _ => False
  | .call ⟨.builtin .min, args, _⟩ => match evL env args.toList with
    | some l => minmaxD false l K
    | none => False
  | .call ⟨.builtin .max, args, _⟩ => match evL env args.toList with
    | some l => minmaxD true l K
    | none => False
  | .slice t x lo hi (some m) => match ev env x, ev env m with
    | some a, some (.int _ y) => optV env lo fun l => optV env hi fun h => sliceMaxD P t a l h y K
    | _, _ => False
  | .call ⟨.builtin .cap, args, tys⟩ => match args.toList, tys.toList with
    | [x], [t] => match ev env x with
      | some a => capD P t a K
      | none => False
    | _, _ => False
  | _ => False

theorem arr_map (f : Operand → Value) (x : Array Operand) : (List.map f x.toList).toArray = x.map f := by rw [← Array.toList_map]
theorem pure_runs {P : Program} {nm : List (Nat × Plc)} {env : List (Nat × SV)} {o : Oper} {a : Act} {K : SV → Prop} (h : pureD P nm env o.op K) (he : EnvOK nm env a) :
    ∃ sv v, K sv ∧ den nm sv = some v ∧ Quiet P a.eval o v := by
  unfold pureD at h
  split at h
  case h_1 x ho =>
    obtain ⟨y, hy, k⟩ := forceO_some h
    exact ⟨y, _, k, he.ev hy, fun w => by simp [execOp, ho]⟩
  case h_2 x ho =>
    obtain ⟨y, hy, k⟩ := forceO_some h
    exact ⟨y, _, k, he.ev hy, fun w => by simp [execOp, ho]⟩
  case h_3 c x y ho =>
    split at h <;> try exact h.elim
    · rename_i hc
      obtain ⟨z, hz, k⟩ := forceO_some h
      have hc' : a.eval c = .bool true := by simpa [den, eq_comm] using he.ev hc
      exact ⟨z, _, k, he.ev hz, fun w => by simp [execOp, ho, hc', asBool]⟩
    · rename_i hc
      obtain ⟨z, hz, k⟩ := forceO_some h
      have hc' : a.eval c = .bool false := by simpa [den, eq_comm] using he.ev hc
      exact ⟨z, _, k, he.ev hz, fun w => by simp [execOp, ho, hc', asBool]⟩
    · rename_i q hc
      obtain ⟨h1, h2⟩ := h
      have hc' : a.eval c = .bool q := by simpa [den, eq_comm] using he.ev hc
      cases q
      · obtain ⟨z, hz, k⟩ := forceO_some (h2 rfl)
        exact ⟨z, _, k, he.ev hz, fun w => by simp [execOp, ho, hc', asBool]⟩
      · obtain ⟨z, hz, k⟩ := forceO_some (h1 rfl)
        exact ⟨z, _, k, he.ev hz, fun w => by simp [execOp, ho, hc', asBool]⟩
  case h_4 x ho =>
    split at h <;> try exact h.elim
    · rename_i n o hx
      split at h <;> try exact h.elim
      rename_i b p hn
      have hx' := he.ev hx
      refine ⟨_, _, h, hx', fun w => ?_⟩
      have : a.eval x = .pointer (some ⟨b, p + o, none⟩) := by simpa [den, hn, locAddr, eq_comm] using hx'
      simp [execOp, ho, this]
    · rename_i b hx
      have hx' := he.ev hx
      refine ⟨_, _, h, hx', fun w => ?_⟩
      have : a.eval x = .pointer (some b) := by simpa [den, eq_comm] using hx'
      simp [execOp, ho, this]
    · rename_i f l m hx
      have hx' := he.ev hx
      refine ⟨_, _, h, hx', fun w => ?_⟩
      simp only [den] at hx'
      unfold mapO2 at hx'
      split at hx' <;> simp only [Option.some.injEq, reduceCtorEq] at hx'
      simp [execOp, ho, ← hx']
  case h_5 op t x y yt ho =>
    split at h <;> try exact h.elim
    rename_i p q hp hq
    obtain ⟨sv, v, k, hd, hr⟩ := bin_runs (x := x) (y := y) h (he.ev hp) (he.ev hq) (fun e => by cases y <;> simp [isConst] at e; exact ⟨_, rfl⟩)
    refine ⟨sv, v, k, hd, fun w => ?_⟩
    have := hr w
    simp only [execOp, ho]
    rw [Sem.run_bind, this]; rfl
  case h_6 op t x ho =>
    split at h <;> try exact h.elim
    rename_i p hp
    obtain ⟨sv, v, k, hd, hr⟩ := un_runs (P := P) h (he.ev hp)
    exact ⟨sv, v, k, hd, fun w => by simp [execOp, ho, hr]⟩
  case h_7 s d x ho =>
    split at h <;> try exact h.elim
    rename_i p hp
    obtain ⟨sv, v, k, hd, hr⟩ := conv_runs h (he.ev hp)
    exact ⟨sv, v, k, hd, fun w => by simp [execOp, ho, hr]⟩
  case h_8 t x ho =>
    split at h <;> try exact h.elim
    rename_i p hp
    obtain ⟨sv, v, k, hd, hr⟩ := mkIfc_runs h (he.ev hp)
    exact ⟨sv, v, k, hd, fun w => by simp [execOp, ho, hr]⟩
  case h_9 fn x y ho =>
    split at h <;> try exact h.elim
    rename_i l m hl hm
    rw [forceL_eq, forceL_eq] at h
    have h1 := he.evL hl
    have h2 := he.evL hm
    exact ⟨_, .func fn (x.map a.eval) (y.map a.eval), h, by simp only [den, h1, h2, mapO2, arr_map], fun w => by simp [execOp, ho, Instr.makeFunc]⟩
  case h_10 t x f ho =>
    split at h <;> try exact h.elim
    · rename_i n o hx
      split at h <;> try exact h.elim
      rename_i b p hn
      obtain ⟨sv, v, k, hd, hr⟩ := fieldAddr_runs h (he.ev hx) (by have := he.ev hx; simp only [den, hn, locAddr, Option.some.injEq] at this; rw [← this]; simp)
      exact ⟨sv, v, k, hd, fun w => by simp [execOp, ho, hr]⟩
    · rename_i b o hx
      obtain ⟨sv, v, k, hd, hr⟩ := fieldAddr_runs h (he.ev hx) (by have := he.ev hx; simp only [den, Option.some.injEq] at this; rw [← this]; simp)
      exact ⟨sv, v, k, hd, fun w => by simp [execOp, ho, hr]⟩
  case h_11 t x f ho =>
    split at h <;> try exact h.elim
    rename_i p hp
    obtain ⟨sv, v, k, hd, hr⟩ := field_runs h (he.ev hp)
    exact ⟨sv, v, k, hd, fun w => by simp [execOp, ho, hr]⟩
  case h_12 t x i ho =>
    split at h <;> try exact h.elim
    rename_i p kk n hp hi
    obtain ⟨sv, v, k, hd, hr⟩ := indexAddr_runs (k := kk) h (he.ev hp)
    have hi' := asInt_of (he.ev hi)
    exact ⟨sv, v, k, hd, fun w => by simp [execOp, ho, hr, hi']⟩
  case h_13 t x i ho =>
    split at h <;> try exact h.elim
    rename_i p kk n hp hi
    obtain ⟨sv, v, k, hd, hr⟩ := index_runs (k := kk) h (he.ev hp)
    have hi' := asInt_of (he.ev hi)
    exact ⟨sv, v, k, hd, fun w => by simp [execOp, ho, hr, hi']⟩
  case h_14 t x lo hi ho =>
    split at h <;> try exact h.elim
    rename_i p hp
    obtain ⟨l, h, hl⟩ := optV_some he h
    obtain ⟨j, h, hj⟩ := optV_some he h
    obtain ⟨sv, v, k, hd, hr⟩ := sliceAt_runs h (he.ev hp) hl hj
    exact ⟨sv, v, k, hd, fun w => by simp [execOp, ho, hr]⟩
  case h_15 x i ho =>
    split at h <;> try exact h.elim
    rename_i l hl
    obtain ⟨z, hz, k⟩ := forceO_some h
    rw [nth_eq] at hz
    have hx := he.ev hl
    simp only [den] at hx
    cases e : denL nm l with
    | none => rw [e] at hx; simp [mapO] at hx
    | some u =>
      rw [e] at hx; simp only [mapO, Option.some.injEq] at hx
      obtain ⟨v, hv, hd⟩ := denL_nth e _ _ hz
      exact ⟨z, v, k, hd, fun w => by simp [execOp, ho, ← hx, Instr.extract, hv]⟩
  case h_16 x xt t ok ho =>
    split at h <;> try exact h.elim
    rename_i p hp
    obtain ⟨sv, v, k, hd, hr⟩ := assert_runs (s := xt) h (he.ev hp)
    exact ⟨sv, v, k, hd, fun w => by simp [execOp, ho, hr]⟩
  case h_17 t parts ho =>
    split at h <;> try exact h.elim
    rename_i l hl
    obtain ⟨h1, h2⟩ := parts2_den he hl
    obtain ⟨sv, v, k, hd, hr⟩ := build_runs (vals := parts.map fun (i, x) => (i, a.eval x)) h (by simpa using h1) (by simpa using h2)
    exact ⟨sv, v, k, hd, fun w => by simp only [execOp, ho, Sem.run_bind, hr, Result.andThen_ok, Sem.run_pure]⟩
  case h_18 args tys ho =>
    split at h <;> try exact h.elim
    rename_i x t hx ht
    split at h <;> try exact h.elim
    rename_i p hp
    obtain ⟨sv, v, k, hd, hr⟩ := len_runs (ty := o.type) h (he.ev hp)
    have h1 : args = #[x] := by rw [← Array.toArray_toList (xs := args), hx]
    have h2 : tys = #[t] := by rw [← Array.toArray_toList (xs := tys), ht]
    exact ⟨sv, v, k, hd, fun w => by simp [execOp, ho, resolve, invoke, builtin, h1, h2, hr]⟩
  case h_19 args tys ho =>
    split at h <;> try exact h.elim
    rename_i l hl
    obtain ⟨sv, v, k, hd, hr⟩ := minmax_runs (P := P) (a := tys) (ty := o.type) h (he.evL hl)
    refine ⟨sv, v, k, hd, fun w => ?_⟩
    have := hr w
    simp only [arr_map] at this
    simp [execOp, ho, resolve, invoke, builtin, this]
  case h_20 args tys ho =>
    split at h <;> try exact h.elim
    rename_i l hl
    obtain ⟨sv, v, k, hd, hr⟩ := minmax_runs (P := P) (a := tys) (ty := o.type) h (he.evL hl)
    refine ⟨sv, v, k, hd, fun w => ?_⟩
    have := hr w
    simp only [arr_map] at this
    simp [execOp, ho, resolve, invoke, builtin, this]
  case h_21 t x lo hi m ho =>
    split at h <;> try exact h.elim
    rename_i p q y hp hm
    obtain ⟨l, h, hl⟩ := optV_some he h
    obtain ⟨j, h, hj⟩ := optV_some he h
    have hy : a.eval m = .int q y := by simpa [den, eq_comm] using he.ev hm
    obtain ⟨sv, v, k, hd, hr⟩ := sliceMax_runs (q := q) h (he.ev hp) hl hj
    exact ⟨sv, v, k, hd, fun w => by simp [execOp, ho, hr, hy]⟩
  case h_22 args tys ho =>
    split at h <;> try exact h.elim
    rename_i x t hx ht
    split at h <;> try exact h.elim
    rename_i p hp
    obtain ⟨sv, v, k, hd, hr⟩ := cap_runs (ty := o.type) h (he.ev hp)
    have h1 : args = #[x] := by rw [← Array.toArray_toList (xs := args), hx]
    have h2 : tys = #[t] := by rw [← Array.toArray_toList (xs := tys), ht]
    exact ⟨sv, v, k, hd, fun w => by simp [execOp, ho, resolve, invoke, builtin, h1, h2, hr]⟩
  case h_23 => exact h.elim
end Sx
