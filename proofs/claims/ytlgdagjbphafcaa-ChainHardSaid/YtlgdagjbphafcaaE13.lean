/- The symbolic walk of a body, loops and joins; from a walk to what a function does. Conditions: none. -/
import Derived.Test.YtlgdagjbphafcaaE12
namespace Sx
open Go

inductive Ex where
  | normal
  | exit (n : Nat)
  | ret
def Ex.out : Ex → Exit
  | .normal => .normal
  | .exit n => .exit n
  | .ret => .ret
abbrev Kont := Ex → St → Prop
def seqK (next : St → Prop) (K : Kont) : Kont := fun e s => match e with
  | .normal => next s
  | .exit n => K (.exit n) s
  | .ret => K .ret s
def blockK (id : Nat) (K : Kont) : Kont := fun e s => match e with
  | .normal => K .normal s
  | .exit n => bif Nat.beq n id then K .normal s else K (.exit n) s
  | .ret => K .ret s
def loopK {ι : Type} (S : ι → St) (μ : ι → Nat) (i : ι) (K : Kont) : Kont := fun e s => match e with
  | .normal => ∃ j, μ j < μ i ∧ Le s (S j)
  | .exit n => K (.exit n) s
  | .ret => K .ret s
def joinK {ι : Type} (S : ι → St) (K : Kont) : Kont := fun e s => match e with
  | .normal => ∃ j, Le s (S j)
  | .exit n => K (.exit n) s
  | .ret => K .ret s
inductive LoopOb (body : Kont → St → Prop) (K : Kont) (s : St) : Prop
  | mk (ι : Type) (S : ι → St) (μ : ι → Nat) (i : ι) (h0 : Le s (S i)) (round : ∀ i, body (loopK S μ i K) (S i))
inductive CondOb (q : Bool) (X Y : Kont → Prop) (K : Kont) : Prop
  | split (h : q = true → X K) (k : q = false → Y K)
  | join (ι : Type) (S : ι → St) (h : q = true → X (joinK S K)) (k : q = false → Y (joinK S K)) (rest : ∀ i, K .normal (S i))

def dec (P : Program) (f : HP) : Code → Kont → St → Prop
  | .skip, K, s => K .normal s
  | .region _ ops false, K, s => opsD P f ops ops.toList s fun s' => K .normal s'
  | .region _ ops true, K, s => DrawOb P f ops s fun s' => K .normal s'
  | .seq a b, K, s => dec P f a (seqK (fun s' => dec P f b K s') K) s
  | .cond c a b, K, s => match ev s.env c with
    | some .tt => dec P f a K s
    | some .ff => dec P f b K s
    | some (.bool q) => CondOb q (fun K => dec P f a K s) (fun K => dec P f b K s) K
    | _ => False
  | .block id b, K, s => dec P f b (blockK id K) s
  | .loop b, K, s => LoopOb (dec P f b) K s
  | .exit n, K, s => K (.exit n) s
  | .ret, K, s => K .ret s
  | _, _, _ => False

/-- What a walk shows of the world. -/
def Post (f : HP) (w0 : World) (K : Kont) : Exit → Act → World → Prop := fun e a w => ∃ x s, e = x.out ∧ K x s ∧ Rel f w0 s a w
theorem dec_runs {P : Program} {f : HP} {w0 : World} : ∀ (c : Code) {K : Kont} {s : St} {a : Act} {w : World}, dec P f c K s → Rel f w0 s a w → c.wp P (Post f w0 K) a w
  | .skip, K, s, a, w, h, r => wp_skip ⟨.normal, s, rfl, h, r⟩
  | .region id ops false, K, s, a, w, h, r => wp_region_list (opsD_runs h r fun _ _ ⟨s', h', r'⟩ => ⟨.normal, s', rfl, h', r'⟩)
  | .region id ops true, K, s, a, w, h, r => draw_runs h r fun _ _ ⟨s', h', r'⟩ => ⟨.normal, s', rfl, h', r'⟩
  | .seq x y, K, s, a, w, h, r => by
    refine wp_seq (wp_mono (dec_runs x h r) ?_)
    rintro e a' w' ⟨z, s', rfl, h', r'⟩
    cases z with
    | normal => exact dec_runs y h' r'
    | exit n => exact ⟨.exit n, s', rfl, h', r'⟩
    | ret => exact ⟨.ret, s', rfl, h', r'⟩
  | .cond c x y, K, s, a, w, h, r => by
    unfold dec at h
    split at h <;> try exact h.elim
    · rename_i hc
      have : a.eval c = .bool true := by simpa [den, eq_comm] using r.env.ev hc
      exact wp_cond_true this (dec_runs x h r)
    · rename_i hc
      have : a.eval c = .bool false := by simpa [den, eq_comm] using r.env.ev hc
      exact wp_cond_false this (dec_runs y h r)
    · rename_i q hc
      have hq : a.eval c = .bool q := by simpa [den, eq_comm] using r.env.ev hc
      cases h with
      | split h k =>
        refine wp_cond hq ?_
        cases q
        · exact dec_runs y (k rfl) r
        · exact dec_runs x (h rfl) r
      | join ι S h k rest =>
        refine wp_cond hq ?_
        have fin : ∀ e a w, Post f w0 (joinK S K) e a w → Post f w0 K e a w := by
          rintro e a w ⟨z, s', rfl, h', r'⟩
          cases z with
          | normal => obtain ⟨i, hle⟩ := h'; exact ⟨.normal, S i, rfl, rest i, r'.le hle⟩
          | exit n => exact ⟨.exit n, s', rfl, h', r'⟩
          | ret => exact ⟨.ret, s', rfl, h', r'⟩
        cases q
        · exact wp_mono (dec_runs y (k rfl) r) fin
        · exact wp_mono (dec_runs x (h rfl) r) fin
  | .block id b, K, s, a, w, h, r => by
    refine wp_block (wp_mono (dec_runs b h r) ?_)
    rintro e a' w' ⟨z, s', rfl, h', r'⟩
    cases z with
    | normal => exact ⟨.normal, s', rfl, h', r'⟩
    | exit n =>
      simp only [blockK] at h'
      simp only [Ex.out, Exit.inBlock]
      by_cases e : n = id
      · subst e
        rw [if_pos rfl]
        simp at h'
        exact ⟨.normal, s', rfl, h', r'⟩
      · rw [if_neg e]
        rw [beq_no e] at h'
        exact ⟨.exit n, s', rfl, h', r'⟩
    | ret => exact ⟨.ret, s', rfl, h', r'⟩
  | .loop b, K, s, a, w, h, r => by
    obtain ⟨ι, S, μ, i, h0, round⟩ := h
    have main : ∀ n i a w, μ i < n → Rel f w0 (S i) a w → Code.rounds P b (Post f w0 K) n a w := by
      intro n
      induction n with
      | zero => intro i a w h; omega
      | succ n ih =>
        intro i a w hn r
        rw [rounds_succ]
        refine wp_mono (dec_runs b (round i) r) ?_
        rintro e a' w' ⟨z, s', rfl, h', r'⟩
        cases z with
        | normal => obtain ⟨j, hj, hle⟩ := h'; exact ih j a' w' (by omega) (r'.le hle)
        | exit n => exact ⟨.exit n, s', rfl, h', r'⟩
        | ret => exact ⟨.ret, s', rfl, h', r'⟩
    exact wp_loop_rounds _ (main (μ i + 1) i a w (by omega) (r.le h0))
  | .exit n, K, s, a, w, h, r => wp_exit ⟨.exit n, s, rfl, h, r⟩
  | .ret, K, s, a, w, h, r => wp_ret ⟨.ret, s, rfl, h, r⟩
  | .rangeFunc .., _, _, _, _, h, _ => h.elim
  | .scope _, _, _, _, _, h, _ => h.elim
  | .label _, _, _, _, _, h, _ => h.elim
  | .goto _, _, _, _, _, h, _ => h.elim
  | .refuse _, _, _, _, _, h, _ => h.elim

/-! ### A function -/
def resD (P : Program) (f : HP) : List ResultVar → St → (List SV → Prop) → Prop
  | [], _, K => K []
  | .tmp t :: r, s, K => forceO (getE s.env t) fun v => resD P f r s fun l => K (v :: l)
  | .cell a t :: r, s, K => match getE s.env a with
    | some p => loadD P f s t p fun v _ => resD P f r s fun l => K (v :: l)
    | none => False
def ret1 : List Value → Value
  | [v] => v
  | vs => .tuple vs.toArray
inductive FinOb (s : St) (Q : Value → List Asn → Prop) (l : List SV) : Prop
  | mk (vs : List Value) (post : List Asn) (hd : denL s.nm l = some vs) (he : ∀ h, sat s.ents h → sat post h) (hq : Q (ret1 vs) post)
def finK (P : Program) (f : HP) (res : List ResultVar) (Q : Value → List Asn → Prop) : Kont := fun e s => match e with
  | .normal => resD P f res s fun l => FinOb s Q l
  | .ret => resD P f res s fun l => FinOb s Q l
  | .exit _ => False
theorem asAddr_run {P : Program} {b o : Nat} (w : World) : (asAddr (.pointer (some ⟨b, o, none⟩))).run P w = .ok ⟨b, o, none⟩ w := rfl
def oneRes (tmps : Array Value) : ResultVar → Sem Value
  | .tmp t => pure (tmps.getD t undef)
  | .cell a t => do loadVar t (← asAddr (tmps.getD a undef))
theorem resD_runs {P : Program} {f : HP} {w0 : World} {s : St} {a : Act} {w : World} (r : Rel f w0 s a w) : ∀ {l : List ResultVar} {K : List SV → Prop}, resD P f l s K →
    ∃ svs vs, K svs ∧ denL s.nm svs = some vs ∧ (l.mapM (oneRes a.tmps)).run P w = .ok vs w
  | [], K, h => ⟨[], [], h, rfl, by simp⟩
  | .tmp t :: l, K, h => by
    unfold resD at h
    obtain ⟨v, hv, h⟩ := forceO_some h
    obtain ⟨svs, vs, k, hd, hr⟩ := resD_runs r h
    refine ⟨v :: svs, a.tmps.getD t undef :: vs, k, by simp only [denL, r.env t v hv, hd, consO], ?_⟩
    rw [List.mapM_cons]
    simp only [oneRes, Sem.run_bind, Sem.run_pure, Result.andThen_ok, hr]
  | .cell ad t :: l, K, h => by
    unfold resD at h
    split at h <;> try exact h.elim
    rename_i p hp
    obtain ⟨sv, v, b, o, u, h, hd, hx, hl, hld, _⟩ := loadD_runs h r (r.env _ _ hp)
    obtain ⟨svs, vs, k, hd', hr⟩ := resD_runs r h
    refine ⟨sv :: svs, v :: vs, k, by simp only [denL, hd, hd', consO], ?_⟩
    rw [List.mapM_cons]
    simp only [oneRes, Sem.run_bind, hx, asAddr_run, Result.andThen_ok, hld w hl, hr, Sem.run_pure]
theorem results_runs {P : Program} {fn : Func} {tmps : Array Value} {w : World} {vs : List Value} (h : (fn.results.toList.mapM (oneRes tmps)).run P w = .ok vs w) : (results fn tmps).run P w = .ok (ret1 vs) w := by
  have hm : (fn.results.mapM (oneRes tmps)).run P w = .ok vs.toArray w := by
    rw [Array.mapM_eq_mapM_toList, Sem.run_map, h]; rfl
  have e : results fn tmps = (do let vs ← fn.results.mapM (oneRes tmps); pure (if h : vs.size = 1 then vs[0] else .tuple vs)) := rfl
  rw [e, Sem.run_bind, hm]
  simp only [Result.andThen_ok, Sem.run_pure]
  congr 1
  match vs with
  | [] => rfl
  | [v] => rfl
  | v :: u :: l => simp [ret1]
def envFrom : Nat → List SV → List (Nat × SV)
  | _, [] => []
  | i, v :: l => (i, v) :: envFrom (i + 1) l
theorem envFrom_ok {nm : List (Nat × Plc)} {t : Array Value} : ∀ {l : List SV} {vs : List Value} {i : Nat}, denL nm l = some vs → (∀ j v, vs[j]? = some v → t.getD (i + j) undef = v) → ∀ k v, getE (envFrom i l) k = some v → den nm v = some (t.getD k undef)
  | [], vs, i, _, _, k, v, h => by simp [envFrom, getE] at h
  | x :: l, vs, i, hd, ht, k, v, h => by
    simp only [denL] at hd
    obtain ⟨a, b, e1, e2, rfl⟩ := consO_some hd
    simp only [envFrom, getE] at h
    by_cases e : i = k
    · subst e
      simp at h; subst h
      have := ht 0 a (by simp)
      rw [Nat.add_zero] at this
      rw [this]; exact e1
    · rw [beq_no e] at h
      exact envFrom_ok (i := i + 1) e2 (fun j u hu => by have := ht (j + 1) u (by simpa using hu); rw [← this]; congr 1; omega) k v h
/-- **What a function does, by a walk of its body.** -/
theorem Does.of {P : Program} {g : FuncId} {fn : Func} {c : Code} {vals : List Value} {R : HP → Prop} {pre : List Asn} {Q : Value → List Asn → Prop}
    (hf : P.funcs[g]? = some fn) (he : Enters P g) (hb : fn.body = some c) (params : List SV) (nm : List (Nat × Plc)) (next : Nat) (hp : List Ent)
    (hden : denL nm params = some vals) (hsz : Nat.ble vals.length fn.ntmps = true) (hpre : ∀ h, sat pre h → sat (hp.map (entDen nm)) h)
    (h : ∀ f, R f → dec P f c (finK P f fn.results.toList Q) ⟨fn.ntmps, envFrom 0 params, nm, next, hp⟩) : Does P g vals.toArray R pre Q := by
  refine ⟨he, fun f w hR hat => calls_of_wp hf hb ?_⟩
  have hsz := Nat.le_of_ble_eq_true hsz
  have r : Rel f w ⟨fn.ntmps, envFrom 0 params, nm, next, hp⟩ { tmps := vals.toArray ++ Array.replicate (fn.ntmps - vals.toArray.size) undef, defers := [] } w := by
    refine ⟨rfl, by simp; omega, fun k v hk => ?_, ?_, .refl w⟩
    · refine envFrom_ok (i := 0) hden (fun j u hu => ?_) k v hk
      have hj := (List.getElem?_eq_some_iff.1 hu).1
      have : (vals.toArray ++ Array.replicate (fn.ntmps - vals.toArray.size) undef)[0 + j]? = some u := by
        rw [Nat.zero_add, Array.getElem?_append_left (by simpa using hj)]
        simpa using hu
      simp only [Array.getD_eq_getD_getElem?, this, Option.getD_some]
    · obtain ⟨x, t, k⟩ := hat
      exact ⟨x, t, hpre _ k⟩
  refine wp_mono (dec_runs c (h f hR) r) ?_
  rintro e a w' ⟨z, s, rfl, h', r'⟩
  have fin : (resD P f fn.results.toList s fun l => FinOb s Q l) → a.defers = [] ∧ ∃ v, (results fn a.tmps).run P w' = .ok v w' ∧ ∃ v' post, Ending.returned v = .returned v' ∧ At f post w' ∧ Q v' post ∧ Str w w' := by
    intro hres
    obtain ⟨svs, vs, ⟨vs', post, hd, hent, hq⟩, hd', hr⟩ := resD_runs r' hres
    rw [hd'] at hd; simp only [Option.some.injEq] at hd; subst hd
    obtain ⟨x, t, k⟩ := r'.heap
    exact ⟨r'.defers, _, results_runs hr, _, post, rfl, ⟨x, t, hent _ k⟩, hq, r'.str⟩
  cases z with
  | normal => exact fin h'
  | ret => exact fin h'
  | exit n => exact h'.elim
end Sx
