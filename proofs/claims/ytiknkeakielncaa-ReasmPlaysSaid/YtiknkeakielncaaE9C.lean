/- Equality of structs of whole numbers, bools, strings. Conditions: none. -/
import Derived.Test.YtiknkeakielncaaE9B
namespace Sx
open Go

/-- A struct type that may be compared, part by part. -/
def eqFine (P : Program) : Nat → TypeId → Bool
  | 0, _ => false
  | d + 1, t => match P.underlying t with
    | some .bool | some (.int _) | some .string => true
    | some (.struct fs) => !P.stoodInHeld t && fs.toList.all fun f => (f.name != "_") && eqFine P d f.type
    | _ => false
def boolS (a : SV) (K : Bool → Prop) : Prop :=
  match a with
  | .tt => K true
  | .ff => K false
  | .bool b => K b
  | .raw (.bool b) => K b
  | _ => False
def intS (a : SV) (K : IntKind → Int → Prop) : Prop :=
  match a with
  | .int k n => K k n
  | .raw (.int k n) => K k n
  | _ => False
def strS (a : SV) (K : ByteArray → Prop) : Prop :=
  match a with
  | .str s => K s
  | .raw (.string s) => K s
  | _ => False
theorem boolS_some {nm : List (Nat × Plc)} {a : SV} {v : Value} {K : Bool → Prop} (h : boolS a K) (ha : den nm a = some v) : ∃ b, v = .bool b ∧ K b := by
  unfold boolS at h
  split at h <;> try exact h.elim
  all_goals (simp only [den, Option.some.injEq] at ha; exact ⟨_, ha.symm, h⟩)
theorem intS_some {nm : List (Nat × Plc)} {a : SV} {v : Value} {K : IntKind → Int → Prop} (h : intS a K) (ha : den nm a = some v) : ∃ k n, v = .int k n ∧ K k n := by
  unfold intS at h
  split at h <;> try exact h.elim
  all_goals (simp only [den, Option.some.injEq] at ha; exact ⟨_, _, ha.symm, h⟩)
theorem strS_some {nm : List (Nat × Plc)} {a : SV} {v : Value} {K : ByteArray → Prop} (h : strS a K) (ha : den nm a = some v) : ∃ b, v = .string b ∧ K b := by
  unfold strS at h
  split at h <;> try exact h.elim
  all_goals (simp only [den, Option.some.injEq] at ha; exact ⟨_, ha.symm, h⟩)
def eqFs (P : Program) (rec : TypeId → SV → SV → (Bool → Prop) → Prop) (l m : List SV) : List Field → (Bool → Prop) → Prop
  | [], K => K true
  | ⟨_, ty, off, _, _, _, _⟩ :: fs, K => partD P ty l off fun x => partD P ty m off fun y => rec ty x y fun r => eqFs P rec l m fs fun q => K (r && q)
def eqD (P : Program) : Nat → TypeId → SV → SV → (Bool → Prop) → Prop
  | 0, _, _, _, _ => False
  | d + 1, t, a, b, K => match P.underlying t with
    | some .bool => boolS a fun x => boolS b fun y => K (x == y)
    | some (.int _) => intS a fun k m => intS b fun k' n => bif kEq k k' then K (m == n) else False
    | some .string => strS a fun x => strS b fun y => K (x.toList == y.toList)
    | some (.struct fs) => match a, b with
      | .agg l, .agg m => eqFs P (eqD P d) l m fs.toList K
      | _, _ => False
    | _ => False
theorem eqFs_runs {P : Program} {nm : List (Nat × Plc)} {d D : Nat} {l m : List SV} {u v : List Value} (hl : denL nm l = some u) (hm : denL nm m = some v)
    (ih : ∀ {t : TypeId} {a b : SV} {va vb : Value} {K : Bool → Prop}, eqFine P d t = true → eqD P d t a b K → den nm a = some va → den nm b = some vb → ∃ r, K r ∧ ∀ w, (Op.equalIn (D + d) t va vb).run P w = .ok r w) :
    ∀ {fs : List Field} {K : Bool → Prop}, (fs.all fun f => (f.name != "_") && eqFine P d f.type) = true → eqFs P (eqD P d) l m fs K → ∃ r, K r ∧ ∀ w, (Op.eqFields (D + d) u.toArray v.toArray fs).run P w = .ok r w
  | [], K, _, h => ⟨true, h, fun w => rfl⟩
  | ⟨name, ty, off, e1, e2, e3, e4⟩ :: fs, K, hf, h => by
    simp only [List.all_cons, Bool.and_eq_true] at hf
    obtain ⟨⟨h1, h2⟩, h3⟩ := hf
    unfold eqFs at h
    obtain ⟨x, vx, h, hdx, hrx⟩ := part_runs h hl
    obtain ⟨y, vy, h, hdy, hry⟩ := part_runs h hm
    obtain ⟨r, h, hr⟩ := ih h2 h hdx hdy
    obtain ⟨q, h, hq⟩ := eqFs_runs hl hm ih (fs := fs) (by simpa using h3) h
    refine ⟨_, h, fun w => ?_⟩
    have hn : name ≠ "_" := by simpa using h1
    unfold Op.eqFields
    rw [if_pos hn]
    simp only [Sem.run_bind, hrx, hry, hr, Result.andThen_ok]
    cases r
    · simp
    · simp [hq]
theorem eqD_runs {P : Program} {nm : List (Nat × Plc)} (D : Nat) : ∀ (d : Nat) {t : TypeId} {a b : SV} {va vb : Value} {K : Bool → Prop}, eqFine P d t = true → eqD P d t a b K → den nm a = some va → den nm b = some vb →
    ∃ r, K r ∧ ∀ w, (Op.equalIn (D + d) t va vb).run P w = .ok r w
  | 0, _, _, _, _, _, _, _, h, _, _ => h.elim
  | d + 1, t, a, b, va, vb, K, hf, h, ha, hb => by
    unfold eqD at h
    unfold eqFine at hf
    split at h <;> try exact h.elim
    · rename_i hu
      obtain ⟨x, rfl, h⟩ := boolS_some h ha
      obtain ⟨y, rfl, h⟩ := boolS_some h hb
      exact ⟨_, h, fun w => run_equalIn_bool' w (D + d) t x y hu⟩
    · rename_i k hu
      obtain ⟨k1, x, rfl, h⟩ := intS_some h ha
      obtain ⟨k2, y, rfl, h⟩ := intS_some h hb
      obtain ⟨hk, h'⟩ := cond_some h
      obtain rfl := kEq_eq hk
      exact ⟨_, h', fun w => by simp [Op.equalIn, run_underlying hu]⟩
    · rename_i hu
      obtain ⟨x, rfl, h⟩ := strS_some h ha
      obtain ⟨y, rfl, h⟩ := strS_some h hb
      exact ⟨_, h, fun w => run_equalIn_string w (D + d) t x y hu⟩
    · rename_i fs hu
      split at h <;> try exact h.elim
      rename_i l m
      rw [hu] at hf
      simp only [Bool.and_eq_true, Bool.not_eq_true'] at hf
      simp only [den] at ha hb
      cases el : denL nm l with
      | none => rw [el] at ha; simp [mapO] at ha
      | some u =>
        cases em : denL nm m with
        | none => rw [em] at hb; simp [mapO] at hb
        | some v =>
          rw [el] at ha; rw [em] at hb
          simp only [mapO, Option.some.injEq] at ha hb
          subst ha; subst hb
          obtain ⟨r, k, hr⟩ := eqFs_runs (D := D) el em (fun h1 h2 h3 h4 => eqD_runs D d h1 h2 h3 h4) hf.2 h
          refine ⟨r, k, fun w => ?_⟩
          have hfs : P.fieldsOf t = fs := by simp [Program.fieldsOf, hu]
          have := run_equalIn_struct (P := P) w (D + d) t u.toArray v.toArray (by rw [hfs]; exact hu) hf.1
          rw [hfs] at this
          rw [show D + (d + 1) = D + d + 1 by omega, this]
          exact hr w
/-- '==' and '!=' of structs. -/
theorem BinOb.eqs {P : Program} {nm : List (Nat × Plc)} {op : BinOp} {t : TypeId} {x y : Operand} {l m : List SV} {K : SV → Prop} (d : Nat) (hf : (eqFine P d t && (!P.eqGuardType P.depth t && Nat.ble d 10000)) = true)
    (h : eqD P d t (.agg l) (.agg m) fun r => eqB op r K) {u v : List Value} (hl : denL nm l = some u) (hm : denL nm m = some v) : BinOb P nm op t x y (.agg l) (.agg m) K := by
  simp only [Bool.and_eq_true, Bool.not_eq_true'] at hf
  obtain ⟨h1, h2, h3⟩ := hf
  have h3 := Nat.le_of_ble_eq_true h3
  have ha : den nm (.agg l) = some (.agg u.toArray) := by simp [den, hl, mapO]
  have hb : den nm (.agg m) = some (.agg v.toArray) := by simp [den, hm, mapO]
  obtain ⟨r, k, hr⟩ := eqD_runs (10000 - d) d h1 h ha hb
  rw [show 10000 - d + d = 10000 by omega] at hr
  have hg : ∀ w, (eqGuard op t x y (.agg u.toArray) (.agg v.toArray)).run P w = .ok () w := fun w => run_eqGuard_agg w op t x y _ _ h2
  cases op <;> simp only [eqB] at k <;> try exact k.elim
  · exact .mk _ _ _ _ ha hb rfl (fun w => by simp [hg, run_eql_struct, hr]) k
  · exact .mk _ _ _ _ ha hb rfl (fun w => by simp [hg, run_neq_struct, hr]) k
end Sx
