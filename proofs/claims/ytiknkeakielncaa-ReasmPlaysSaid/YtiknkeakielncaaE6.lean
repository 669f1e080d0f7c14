/- Building a struct, and 'pureD': the symbolic run of every operation that looks at values alone. Conditions: none. -/
import Derived.Test.YtiknkeakielncaaE5
namespace Sx
open Go

/-! ### Cells of a value; writing into a list of cells -/
def cellsOf : SV → Option (List SV)
  | .agg l => some l
  | .tuple _ => none
  | .raw (.agg _) => none
  | .raw (.tuple _) => none
  | .raw (.bool b) => some [.raw (.bool b)]
  | .raw (.int k b) => some [.raw (.int k b)]
  | .raw (.string b) => some [.raw (.string b)]
  | .raw (.pointer b) => some [.raw (.pointer b)]
  | .raw (.slice a b c) => some [.raw (.slice a b c)]
  | .raw (.map b) => some [.raw (.map b)]
  | .raw (.func a b c) => some [.raw (.func a b c)]
  | .raw .nilFunc => some [.raw .nilFunc]
  | .raw (.iface t v) => some [.raw (.iface t v)]
  | .raw .nilIface => some [.raw .nilIface]
  | .raw _ => none
  | v => some [v]
/-- One cell's value. -/
def plainV : Value → Bool
  | .agg _ | .tuple _ => false
  | _ => true
theorem cellsOf_den {nm : List (Nat × Plc)} {x : SV} {l : List SV} {v : Value} (h : cellsOf x = some l) (hx : den nm x = some v) : denL nm l = some v.cells.toList := by
  unfold cellsOf at h
  split at h <;> try (simp only [reduceCtorEq] at h; done)
  · rename_i l'
    simp only [Option.some.injEq] at h; subst h
    simp only [den] at hx
    cases e : denL nm l' with
    | none => rw [e] at hx; simp [mapO] at hx
    | some u => rw [e] at hx; simp only [mapO, Option.some.injEq] at hx; subst hx; rfl
  all_goals try (simp only [Option.some.injEq] at h; subst h; simp only [den, Option.some.injEq] at hx; subst hx; rfl)
  rename_i h1 h2 h3 h4 h5 h6 h7 h8 h9 h10 h11 h12 h13 h14 h15
  simp only [Option.some.injEq] at h; subst h
  have hv : v.cells = #[v] := by
    cases x <;> simp only [den] at hx
    case agg => exact absurd rfl (h1 _)
    case tuple => exact absurd rfl (h2 _)
    case raw => exact absurd rfl (h15 _)
    case ptr => split at hx <;> simp at hx; subst hx; rfl
    case sl => split at hx <;> simp at hx; subst hx; rfl
    case map => split at hx <;> simp at hx; subst hx; rfl
    case fn => unfold mapO2 at hx; split at hx <;> simp at hx; subst hx; rfl
    case ifc => unfold mapV at hx; split at hx <;> simp at hx; subst hx; rfl
    all_goals (simp only [Option.some.injEq] at hx; subst hx; rfl)
  simp only [hv, denL, hx, consO]
def setN : List SV → Nat → SV → List SV
  | [], _, _ => []
  | _ :: l, 0, v => v :: l
  | x :: l, n + 1, v => x :: setN l n v
theorem setN_eq : ∀ (l : List SV) (n : Nat) (v : SV), setN l n v = l.set n v
  | [], _, _ => by simp [setN]
  | x :: l, 0, v => by simp [setN]
  | x :: l, n + 1, v => by simp [setN, setN_eq l n v]
def setM : List SV → Nat → List SV → List SV
  | l, _, [] => l
  | l, n, v :: vs => setM (setN l n v) (n + 1) vs
/-- The same, in one pass. -/
def spl : List SV → Nat → List SV → List SV
  | [], _, _ => []
  | c :: cs, n + 1, l => c :: spl cs n l
  | c :: cs, 0, l => match l with
    | [] => c :: cs
    | v :: r => v :: spl cs 0 r
theorem setM_nil : ∀ (l : List SV) (n : Nat), setM [] n l = []
  | [], n => rfl
  | v :: l, n => by
    show setM (setN [] n v) (n + 1) l = []
    rw [show setN [] n v = [] from by cases n <;> rfl]
    exact setM_nil l (n + 1)
theorem setM_cons (x : SV) : ∀ (l cs : List SV) (n : Nat), setM (x :: cs) (n + 1) l = x :: setM cs n l
  | [], cs, n => rfl
  | v :: l, cs, n => by
    show setM (x :: setN cs n v) (n + 1 + 1) l = _
    rw [setM_cons x l _ (n + 1)]
    rfl
theorem spl_eq : ∀ (cs : List SV) (n : Nat) (l : List SV), spl cs n l = setM cs n l
  | [], n, l => (setM_nil l n).symm
  | c :: cs, n + 1, l => by rw [setM_cons, ← spl_eq cs n l]; rfl
  | c :: cs, 0, [] => rfl
  | c :: cs, 0, v :: r => by
    show v :: spl cs 0 r = setM (setN (c :: cs) 0 v) 1 r
    rw [show setN (c :: cs) 0 v = v :: cs from rfl, setM_cons, spl_eq cs 0 r]
/-- The same of values. -/
def putV : List Value → Nat → List Value → List Value
  | l, _, [] => l
  | l, n, v :: vs => putV (l.set n v) (n + 1) vs
theorem putV_length : ∀ (l : List Value) (n : Nat) (vs : List Value), (putV l n vs).length = l.length
  | l, n, [] => rfl
  | l, n, v :: vs => by simp [putV, putV_length]
theorem denL_set {nm : List (Nat × Plc)} {x : SV} {v : Value} (hx : den nm x = some v) : ∀ {l : List SV} {u : List Value} (n : Nat), denL nm l = some u → denL nm (l.set n x) = some (u.set n v)
  | [], u, n, h => by simp [denL] at h; subst h; simp [denL]
  | y :: l, u, n, h => by
    simp only [denL] at h
    obtain ⟨a, b, e1, e2, rfl⟩ := consO_some h
    cases n with
    | zero => simp only [List.set_cons_zero, denL, hx, e2, consO]
    | succ n => simp only [List.set_cons_succ, denL, e1, denL_set hx n e2, consO]
theorem denL_setM {nm : List (Nat × Plc)} : ∀ {vs : List SV} {ws : List Value} {l : List SV} {u : List Value} (n : Nat), denL nm vs = some ws → denL nm l = some u → denL nm (setM l n vs) = some (putV u n ws)
  | [], ws, l, u, n, h, k => by simp [denL] at h; subst h; exact k
  | v :: vs, ws, l, u, n, h, k => by
    simp only [denL] at h
    obtain ⟨a, b, e1, e2, rfl⟩ := consO_some h
    simp only [setM, putV, setN_eq]
    exact denL_setM (n + 1) e2 (denL_set e1 n k)

theorem denL_spl {nm : List (Nat × Plc)} {vs : List SV} {ws : List Value} {l : List SV} {u : List Value} (n : Nat) (h : denL nm vs = some ws) (k : denL nm l = some u) : denL nm (spl l n vs) = some (putV u n ws) := by rw [spl_eq]; exact denL_setM n h k
theorem foldl_put : ∀ (vs : List Value) (c : Array Value) (off j : Nat), (vs.zipIdx j).foldl (fun cs x => cs.setIfInBounds (off + x.2) x.1) c = (putV c.toList (off + j) vs).toArray
  | [], c, off, j => by simp [putV]
  | v :: vs, c, off, j => by
    simp only [List.zipIdx_cons, List.foldl_cons, putV]
    rw [foldl_put vs _ off (j + 1)]
    simp [Nat.add_assoc]
theorem fill_one (v : Value) (c : Array Value) (off : Nat) : v.cells.zipIdx.foldl (fun cs (x, j) => cs.setIfInBounds (off + j) x) c = (putV c.toList off v.cells.toList).toArray := by
  rw [← Array.foldl_toList]
  have := foldl_put v.cells.toList c off 0
  simpa using this

/-! ### A struct out of its parts -/
def fillD (P : Program) (fs : Array Field) : List SV → List (Nat × SV) → (List SV → Prop) → Prop
  | cs, [], K => K cs
  | cs, (i, x) :: r, K => match fs[i]? with
    | some ⟨_, ty, off, _, _, _, _⟩ => match P.info? ty with
      | some ⟨_, _, sz, _, _, _, _, _, _, _⟩ => match cellsOf x with
        | some l => bif Nat.beq (lenL l) sz && Nat.ble (off + lenL l) (lenL cs) then forceL (spl cs off l) fun cs' => fillD P fs cs' r K else False
        | none => False
      | none => False
    | none => False
theorem cond_both {b : Bool} {X : Prop} (h : bif b then X else False) : b = true ∧ X := cond_some h
theorem fill_runs {P : Program} {nm : List (Nat × Plc)} {fs : Array Field} {places : Array (Nat × Nat)} (hp : ∀ (i : Nat) (f : Field), fs[i]? = some f → ∀ s, P.info? f.type = some s → places[i]? = some (f.offset, s.size)) :
    ∀ {parts : List (Nat × SV)} {vals : List (Nat × Value)} {cs : List SV} {u : List Value} {K : List SV → Prop}, fillD P fs cs parts K → denL nm cs = some u → (parts.map (·.1) = vals.map (·.1)) → denL nm (parts.map (·.2)) = some (vals.map (·.2)) →
      ∃ cs' u', K cs' ∧ denL nm cs' = some u' ∧ Instr.fill (places[·]?) u.toArray vals = some u'.toArray
  | [], vals, cs, u, K, h, hu, h1, h2 => by
    have : vals = [] := by cases vals <;> simp at h1 ⊢
    subst this
    exact ⟨cs, u, h, hu, rfl⟩
  | (i, x) :: r, vals, cs, u, K, h, hu, h1, h2 => by
    cases vals with
    | nil => simp at h1
    | cons y vals =>
      obtain ⟨j, v⟩ := y
      simp only [List.map_cons, List.cons.injEq] at h1
      obtain ⟨rfl, h1⟩ := h1
      simp only [List.map_cons, denL] at h2
      obtain ⟨a, b, e1, e2, e3⟩ := consO_some h2
      simp only [List.cons.injEq] at e3
      obtain ⟨rfl, rfl⟩ := e3
      unfold fillD at h
      split at h <;> try exact h.elim
      rename_i n1 ty off n2 n3 n4 n5 hf
      split at h <;> try exact h.elim
      rename_i m1 m2 sz m3 m4 m5 m6 m7 m8 m9 hi
      split at h <;> try exact h.elim
      rename_i l hl
      obtain ⟨hb, h⟩ := cond_some h
      rw [forceL_eq] at h
      simp only [Bool.and_eq_true] at hb
      obtain ⟨hb1, hb2⟩ := hb
      have hb1 := Nat.eq_of_beq_eq_true hb1
      have hb2 := Nat.le_of_ble_eq_true hb2
      rw [lenL_eq] at hb1 hb2
      rw [lenL_eq] at hb2
      have hc := cellsOf_den hl e1
      have hlen : v.cells.size = l.length := by have := denL_length hc; simpa using this
      have hul := denL_length hu
      obtain ⟨cs', u', k, hd, hfill⟩ := fill_runs hp h (denL_spl off hc hu) h1 e2
      refine ⟨cs', u', k, hd, ?_⟩
      have hpl := hp _ _ hf _ hi
      simp only at hpl
      unfold Instr.fill
      simp only [hpl]
      rw [if_neg (by simp [hlen, hb1]; omega)]
      rw [fill_one]
      exact hfill

/-- Each field's offset and size. -/
def fieldPl (P : Program) : List Field → Option (List (Nat × Nat))
  | [] => some []
  | f :: l => match P.info? f.type, fieldPl P l with
    | some i, some r => some ((f.offset, i.size) :: r)
    | _, _ => none
theorem fieldPl_runs {P : Program} : ∀ {l : List Field} {r : List (Nat × Nat)}, fieldPl P l = some r → ∀ w, (l.mapM (fun f => do pure (f.offset, ← Go.sizeOf f.type) : Field → Sem (Nat × Nat))).run P w = .ok r w
  | [], r, h, w => by simp [fieldPl] at h; subst h; simp
  | f :: l, r, h, w => by
    simp only [fieldPl] at h
    split at h <;> simp only [Option.some.injEq, reduceCtorEq] at h
    rename_i i r' hi hr
    subst h
    rw [List.mapM_cons]
    simp only [Sem.run_bind, sizeOf_run hi, Result.andThen_ok, Sem.run_pure, fieldPl_runs hr w]
theorem fieldPl_get {P : Program} : ∀ {l : List Field} {r : List (Nat × Nat)}, fieldPl P l = some r → ∀ (i : Nat) (f : Field), l[i]? = some f → ∀ s, P.info? f.type = some s → r[i]? = some (f.offset, s.size)
  | [], r, h, i, f, hf, s, hs => by simp at hf
  | g :: l, r, h, i, f, hf, s, hs => by
    simp only [fieldPl] at h
    split at h <;> simp only [Option.some.injEq, reduceCtorEq] at h
    rename_i j r' hi hr
    subst h
    cases i with
    | zero => simp at hf; subst hf; rw [hi] at hs; simp at hs; subst hs; rfl
    | succ i => simpa using fieldPl_get hr i f (by simpa using hf) s hs
def okO {α : Type} : Option α → Bool
  | some _ => true
  | none => false
def parts2 (env : List (Nat × SV)) : List (Nat × Operand) → Option (List (Nat × SV))
  | [] => some []
  | (i, x) :: l => match ev env x, parts2 env l with
    | some v, some r => some ((i, v) :: r)
    | _, _ => none
theorem parts2_den {nm : List (Nat × Plc)} {env : List (Nat × SV)} {a : Act} (he : EnvOK nm env a) : ∀ {l : List (Nat × Operand)} {r : List (Nat × SV)}, parts2 env l = some r →
    r.map (·.1) = (l.map fun x => (x.1, a.eval x.2)).map (·.1) ∧ denL nm (r.map (·.2)) = some ((l.map fun x => (x.1, a.eval x.2)).map (·.2))
  | [], r, h => by simp [parts2] at h; subst h; exact ⟨rfl, rfl⟩
  | (i, x) :: l, r, h => by
    simp only [parts2] at h
    split at h <;> simp only [Option.some.injEq, reduceCtorEq] at h
    rename_i v r' hv hr
    subst h
    obtain ⟨h1, h2⟩ := parts2_den he hr
    refine ⟨by simp at h1 ⊢; exact h1, ?_⟩
    simp only [List.map_cons, denL, he.ev hv, h2, consO]
def buildD (P : Program) (t : TypeId) (parts : List (Nat × SV)) (K : SV → Prop) : Prop :=
  match P.underlying t with
  | some (.struct fs) => match P.info? t with
    | some ⟨_, _, _, _, _, _, _, some z, _, _⟩ => bif okO (fieldPl P fs.toList) then fillD P fs (ofCL z.cells.toList) parts fun cs => K (.agg cs) else False
    | _ => False
  | _ => False
theorem build_runs {P : Program} {nm : List (Nat × Plc)} {t : TypeId} {parts : List (Nat × SV)} {vals : Array (Nat × Value)} {K : SV → Prop} (h : buildD P t parts K)
    (h1 : parts.map (·.1) = vals.toList.map (·.1)) (h2 : denL nm (parts.map (·.2)) = some (vals.toList.map (·.2))) :
    ∃ sv v, K sv ∧ den nm sv = some v ∧ ∀ w, (Instr.build t vals).run P w = .ok v w := by
  unfold buildD at h
  split at h <;> try exact h.elim
  rename_i fs hu
  split at h <;> try exact h.elim
  rename_i n1 n2 n3 n4 n5 n6 n7 z n8 n9 hi
  obtain ⟨ho, h⟩ := cond_some h
  cases e : fieldPl P fs.toList with
  | none => rw [e] at ho; cases ho
  | some r =>
    obtain ⟨cs, u, k, hd, hfill⟩ := fill_runs (places := r.toArray) (fun i f hf s hs => by
      have := fieldPl_get e i f (by simpa using hf) s hs
      simpa using this) h (denL_ofCL nm _) h1 h2
    refine ⟨.agg cs, .agg u.toArray, k, by simp [den, hd, mapO], fun w => ?_⟩
    have hz : (zeroValue t).run P w = .ok z w := by simp [zeroValue, typeInfo, hi]
    have hm := fieldPl_runs e w
    have hm' : (fs.mapM (fun f => do pure (f.offset, ← Go.sizeOf f.type) : Field → Sem (Nat × Nat))).run P w = .ok r.toArray w := by
      rw [Array.mapM_eq_mapM_toList, Sem.run_map, hm]
      rfl
    simp only [Instr.build, Sem.run_bind, hz, underlying_run hu, Result.andThen_ok, hm']
    rw [show z.cells.toList.toArray = z.cells by simp] at hfill
    rw [hfill]
    rfl
end Sx
