/- The symbolic walk of a body, loops and joins; from a walk to what a function does. Conditions: none. -/
import Derived.Test.YtiknkeakielncaaE12
import Derived.RangeFuncLeaves
namespace Sx
open Go

inductive Ex where
  | normal
  | exit (n : Nat)
  | ret
def Ex.out : Ex → Exit
  | .normal => .normal
  | .exit n => .exit n
  | .ret => .ret
abbrev Kont := Ex → St → Prop
def seqK (next : St → Prop) (K : Kont) : Kont := fun e s => match e with
  | .normal => next s
  | .exit n => K (.exit n) s
  | .ret => K .ret s
def blockK (id : Nat) (K : Kont) : Kont := fun e s => match e with
  | .normal => K .normal s
  | .exit n => bif Nat.beq n id then K .normal s else K (.exit n) s
  | .ret => K .ret s
def loopK {ι : Type} (S : ι → St) (μ : ι → Nat) (i : ι) (K : Kont) : Kont := fun e s => match e with
  | .normal => ∃ j, μ j < μ i ∧ Le s (S j)
  | .exit n => K (.exit n) s
  | .ret => K .ret s
def joinK {ι : Type} (S : ι → St) (K : Kont) : Kont := fun e s => match e with
  | .normal => ∃ j, Le s (S j)
  | .exit n => K (.exit n) s
  | .ret => K .ret s
inductive LoopOb (body : Kont → St → Prop) (K : Kont) (s : St) : Prop
  | mk (ι : Type) (S : ι → St) (μ : ι → Nat) (i : ι) (h0 : Le s (S i)) (round : ∀ i, body (loopK S μ i K) (S i))
inductive CondOb (q : Bool) (X Y : Kont → Prop) (K : Kont) : Prop
  | split (h : q = true → X K) (k : q = false → Y K)
  | join (ι : Type) (S : ι → St) (h : q = true → X (joinK S K)) (k : q = false → Y (joinK S K)) (rest : ∀ i, K .normal (S i))

/-- Slots that yield's arguments take. -/
def pushP : List Nat → List SV → List (Nat × SV) → List (Nat × SV)
  | p :: ps, a :: as, env => pushP ps as ((p, a) :: env)
  | _, _, env => env
def asK (X : St → Prop) : Kont := fun e s => match e with
  | .normal => X s
  | _ => False
/-- What is owed where a round ends. -/
def roundK (post : List Asn) : Kont := fun e s => match e with
  | .normal => ∀ h, sat s.ents h → sat post h
  | _ => False
/-- A range over a function: what each round does ('R', 'pre', 'post': as of a call of yield), and what the function does that is ranged over, where yield does that. -/
inductive RfOb (P : Program) (f : HP) (gid : FuncId) (first caps : List SV) (ps : List Nat) (dA dB : HP → Kont → St → Prop) (K : Kont) (s : St) : Prop
  | mk (ι : Type) (args : ι → List SV) (nmS : ι → List (Nat × Plc)) (nx : ι → Nat) (hpS : ι → List Ent) (vals : ι → List Value) (R : ι → HP → Prop) (pre post : ι → List Asn)
      (hmono : ∀ i f' b f'', Split f'' b f' → R i f' → R i f'') (hlen : ∀ i, (args i).length = ps.length) (hps : ps.all (fun p => Nat.blt p s.n) = true)
      (hnm : ∀ i, NmExt s.nm (nmS i)) (hv : ∀ i, denL (nmS i) (args i) = some (vals i))
      (hpre : ∀ i h, sat (pre i) h → sat ((hpS i).map (entDen (nmS i))) h)
      (round : ∀ i f1, R i f1 → dA f1 (asK fun s1 => ∀ f2, R i f2 → dB f2 (roundK (post i)) s1) ⟨s.n, pushP ps (args i) s.env, nmS i, nx i, hpS i⟩)
      (call : ∀ (l : Nat) (Rec : Asn), (∀ i, DoesY P l (vals i).toArray (R i) (Rec :: pre i) (fun v q => v = .bool true ∧ q = Rec :: post i)) →
        CallOb P f gid (appK first (.fn (.yield l) [] [] :: caps)) (fun _ s' => ∃ hp1, s'.hp = .asn Rec :: hp1 ∧ K .normal ⟨s'.n, s'.env, s'.nm, s'.next, hp1⟩) ⟨s.n, s.env, s.nm, s.next, .asn Rec :: s.hp⟩)
      (hen : Enters P gid) : RfOb P f gid first caps ps dA dB K s
/-- A region in which operations are guarded: on with each way through it, or all ways come together behind it. -/
inductive RegOb (X : (St → Prop) → Prop) (K : St → Prop) : Prop
  | go (h : X K)
  | join (ι : Type) (S : ι → St) (h : X fun s' => ∃ j, Le s' (S j)) (rest : ∀ i, K (S i))
def guarded : List Oper → Bool
  | [] => false
  | ⟨_, _, _, _, _, g⟩ :: l => match g with
    | some _ => true
    | none => guarded l
def regD (jn : Bool) (ops : Array Oper) (X : (St → Prop) → Prop) (K : St → Prop) : Prop :=
  bif jn && guarded ops.toList then RegOb X K else X K
def decG (jn : Bool) (P : Program) : Code → Bool → HP → Kont → St → Prop
  | .skip, _, _, K, s => K .normal s
  | .region _ ops false, _, f, K, s => regD jn ops (opsD P f ops ops.toList s) fun s' => K .normal s'
  | .region _ ops true, _, f, K, s => regD jn ops (DrawOb P f ops s) fun s' => K .normal s'
  | .seq a b, rd, f, K, s => decG jn P a rd f (seqK (fun s' => decG jn P b rd f K s') K) s
  | .cond c a b, rd, f, K, s => match ev s.env c with
    | some .tt => decG jn P a rd f K s
    | some .ff => decG jn P b rd f K s
    | some (.bool q) => CondOb q (fun K => decG jn P a rd f K s) (fun K => decG jn P b rd f K s) K
    | _ => False
  | .block id b, rd, f, K, s => decG jn P b rd f (blockK id K) s
  | .loop b, rd, f, K, s => LoopOb (decG jn P b rd f) K s
  | .exit n, _, _, K, s => K (.exit n) s
  | .ret, _, _, K, s => K .ret s
  | .rangeFunc g ps a b, rd, f, K, s => match rd with
    | true => False
    | false => match ev s.env g with
      | some (.fn (.func gid) first caps) => RfOb P f gid first caps ps.toList (decG jn P a true) (decG jn P b true) K s
      | _ => False
  | _, _, _, _, _ => False
abbrev dec (P : Program) : Code → Bool → HP → Kont → St → Prop := decG false P

/-- What a walk shows of the world. -/
def Post (f : HP) (w0 : World) (K : Kont) : Exit → Act → World → Prop := fun e a w => ∃ x s, e = x.out ∧ K x s ∧ Rel f w0 s a w
theorem pushP_ok {nm : List (Nat × Plc)} : ∀ {ps : List Nat} {as : List SV} {vs : List Value} {env : List (Nat × SV)} {t : Array Value}, denL nm as = some vs → (∀ p ∈ ps, p < t.size) → (∀ k v, getE env k = some v → den nm v = some (t.getD k undef)) →
    ∀ k v, getE (pushP ps as env) k = some v → den nm v = some (((ps.zip vs).foldl (fun tmps (x : Nat × Value) => tmps.setIfInBounds x.1 x.2) t).getD k undef)
  | [], as, vs, env, t, _, _, h, k, v, e => by
    have : pushP [] as env = env := by cases as <;> rfl
    rw [this] at e
    simpa using h k v e
  | p :: ps, [], vs, env, t, hv, hp, h, k, v, e => by
    simp only [denL, Option.some.injEq] at hv; subst hv
    simpa using h k v e
  | p :: ps, a :: as, vs, env, t, hv, hp, h, k, v, e => by
    simp only [denL] at hv
    obtain ⟨u, us, e1, e2, rfl⟩ := consO_some hv
    simp only [List.zip_cons_cons, List.foldl_cons]
    have hps : p < t.size := hp p (by simp)
    refine pushP_ok (ps := ps) (as := as) (env := (p, a) :: env) e2 (fun q hq => by simpa using hp q (List.mem_cons_of_mem _ hq)) (fun j x hx => ?_) k v e
    unfold getE at hx
    by_cases hj : p = j
    · subst hj
      simp at hx; subst hx
      rw [e1]
      simp [Array.getD, hps]
    · rw [beq_no hj] at hx
      rw [h j x hx]
      simp [Array.getD_eq_getD_getElem?, Array.getElem?_setIfInBounds_ne hj]
theorem fold_size (l : List (Nat × Value)) : ∀ (t : Array Value), (l.foldl (fun tmps (x : Nat × Value) => tmps.setIfInBounds x.1 x.2) t).size = t.size := by
  induction l with
  | nil => intro t; rfl
  | cons x l ih => intro t; rw [List.foldl_cons, ih]; simp
/-- A block of the frame is turned. -/
theorem At.frameUpd {g : HP} {As : List Asn} {w w' : World} {l : Nat} {o o' : Obj} (h : At g As w) (hg : g l = some o) (t : Turned w w' l o') : At (upd g l o') As w' := by
  obtain ⟨x, s, k⟩ := h
  refine ⟨x, fun r => ?_, k⟩
  have hx : x l = none := s.comm.other hg
  by_cases e : r = l
  · subst e
    exact .inl ⟨hx, by rw [hpOf_some.2 ⟨t.at_, t.vis⟩]; simp [upd]⟩
  · have h1 := s r
    rw [hpOf_eq (t.other r e)]
    simp only [upd, if_neg e]
    exact h1
theorem turned_loop {w : World} {l : Nat} {r : Loop} (r' : Loop) (h : w.heap[l]? = some (.loop r)) : Turned w (w.putObj l (.loop r')) l (.loop r') := by
  have hl : l < w.heap.size := (Array.getElem?_eq_some_iff.1 h).1
  have hr : ∀ k, k ≠ l → (w.putObj l (.loop r')).heap[k]? = w.heap[k]? := fun k hk => World.putObj_heap_other hk
  exact ⟨World.putObj_heap_same hl, hr, rfl, .one rfl rfl rfl h rfl (by simp) hr (Nat.le_refl _)⟩
theorem Split.updL' {h x y : HP} {b : Nat} {o o' : Obj} (t : Split h x y) (g : x b = some o) : Split (Sx.upd h b o') (Sx.upd x b o') y := fun r => by
  by_cases e : r = b
  · subst e
    exact .inr ⟨t.other g, by simp [Sx.upd]⟩
  · have := t r
    simp only [Sx.upd, if_neg e]
    exact this
/-- What a walk is to give, for a code. -/
def Walks (jn : Bool) (P : Program) (rd : Bool) (c : Code) : Prop := ∀ (ro : Option Nat) (f : HP) (w0 : World) (K : Kont) (s : St) (a : Act) (w : World), (rd = false → ro = none) → decG jn P c rd f K s → Rel f w0 s a w → c.wpIn (Fc ro) 0 P (Post f w0 K) a w
/-- One round. -/
theorem round_runs {jn : Bool} {P : Program} {assign body : Code} (hA : Walks jn P true assign) (hB : Walks jn P true body) {l : Nat} {rec : Loop} (hst : rec.state = .ready) (hpd : rec.pending = none) (ha : rec.assign = assign) (hb : rec.body = body) {nm0 : List (Nat × Plc)} {env0 : List (Nat × SV)} {n0 : Nat}
    (hsz : rec.tmps.size = n0) (henv : ∀ k v, getE env0 k = some v → den nm0 v = some (rec.tmps.getD k undef)) {args : List SV} {S : St} {vals : List Value} {R : HP → Prop} {pre post : List Asn}
    (hmono : ∀ f' b f'', Split f'' b f' → R f' → R f'') (hlen : args.length = rec.params.size) (hps : rec.params.toList.all (fun p => Nat.blt p n0) = true) (hS : S.n = n0 ∧ S.env = pushP rec.params.toList args env0) (hnm : NmExt nm0 S.nm) (hv : denL S.nm args = some vals)
    (hpre : ∀ h, sat pre h → sat S.ents h) (round : ∀ f1, R f1 → decG jn P assign true f1 (asK fun s1 => ∀ f2, R f2 → decG jn P body true f2 (roundK post) s1) S) :
    DoesY P l vals.toArray R (pt l (.loop rec) :: pre) (fun v q => v = .bool true ∧ q = pt l (.loop rec) :: post) := by
  refine ⟨fun f w hR hat => ?_⟩
  have hl := hat.block
  have hvl := denL_length hv
  refine ⟨_, _, _, _, run_yield hl (by simp; omega), ?_⟩
  obtain ⟨g, hg, b, hb1, hb2⟩ := (hat.perm (List.perm_append_comm (l₁ := [pt l (.loop rec)]) (l₂ := pre))).frame
  have hbl : b l = some (.loop rec) := by
    obtain ⟨x, y, t, hx, _⟩ := hb2
    exact t.get (by rw [hx]; simp [one])
  have hps' : ∀ p ∈ rec.params.toList, p < rec.tmps.size := fun p hp => by
    have := List.all_eq_true.1 hps p hp
    simp only [Nat.blt] at this
    have h2 : p + 1 ≤ n0 := Nat.le_of_ble_eq_true this
    rw [hsz]; exact h2
  have r0 : Rel g w S { tmps := (rec.params.zip vals.toArray).foldl (fun tmps (t, a) => tmps.setIfInBounds t a) rec.tmps, defers := [] } w := by
    have e0 : (rec.params.zip vals.toArray).foldl (fun tmps (x : Nat × Value) => tmps.setIfInBounds x.1 x.2) rec.tmps = (rec.params.toList.zip vals).foldl (fun tmps (x : Nat × Value) => tmps.setIfInBounds x.1 x.2) rec.tmps := by
      rw [← Array.foldl_toList, Array.toList_zip]
    refine ⟨.nil _ _, ?_, ?_, ?_, .refl w⟩
    · show ((rec.params.zip vals.toArray).foldl (fun tmps (x : Nat × Value) => tmps.setIfInBounds x.1 x.2) rec.tmps).size = _
      rw [e0, fold_size, hsz, hS.1]
    · intro k v hk
      rw [hS.2] at hk
      show den S.nm v = some (((rec.params.zip vals.toArray).foldl (fun tmps (x : Nat × Value) => tmps.setIfInBounds x.1 x.2) rec.tmps).getD k undef)
      rw [e0]
      exact pushP_ok hv hps' (fun j x hx => den_ext hnm x _ (henv j x hx)) k v hk
    · obtain ⟨x, s, k⟩ := hg
      exact ⟨x, s, hpre _ k⟩
  refine roundIn_of_wpIn (F := Fc none) (hF := trivial) ?_
  rw [ha, hb]
  refine wpIn_mono (hA (some l) _ _ _ _ _ _ (fun h => by cases h) (round g (hmono _ _ _ hb1 hR)) r0) ?_
  rintro e a1 w1 ⟨z, s1, rfl, h1, r1⟩
  cases z with
  | exit n => exact h1.elim
  | ret => exact h1.elim
  | normal =>
    have hgl : g l = some (.loop rec) := hb1.get hbl
    have hwl : w1.heap[l]? = some (.loop rec) := by
      obtain ⟨x, s, _⟩ := r1.heap
      exact (hpOf_some.1 (s.get_right hgl)).1
    have t1 := turned_loop { rec with state := .busy } hwl
    have hat1 := r1.heap.frameUpd hgl t1
    have sp1 := hb1.updL' (o' := .loop { rec with state := .busy }) hbl
    refine ⟨_, run_beginRound hwl hst, ?_⟩
    have r1' : Rel (upd g l (.loop { rec with state := .busy })) w s1 a1 (w1.putObj l (.loop { rec with state := .busy })) := ⟨r1.defers.str t1.str, r1.size, r1.env, hat1, r1.str.trans t1.str⟩
    refine wpIn_mono (hB (some l) _ _ _ _ _ _ (fun h => by cases h) (h1 _ (hmono _ _ _ sp1 hR)) r1') ?_
    rintro e a2 w2 ⟨z, s2, rfl, h2, r2⟩
    cases z with
    | exit n => exact h2.elim
    | ret => exact h2.elim
    | normal =>
      have hgl2 : upd g l (.loop { rec with state := .busy }) l = some (.loop { rec with state := .busy }) := by simp [upd]
      have hwl2 : w2.heap[l]? = some (.loop { rec with state := .busy }) := by
        obtain ⟨x, s, _⟩ := r2.heap
        exact (hpOf_some.1 (s.get_right hgl2)).1
      have hrec : ({ { rec with state := .busy } with state := .ready, pending := none } : Loop) = rec := by
        cases rec; simp only at hst hpd; subst hst; subst hpd; rfl
      have t2 := turned_loop rec hwl2
      have hat2 := r2.heap.frameUpd hgl2 t2
      have hbl2 : upd b l (.loop { rec with state := .busy }) l = some (.loop { rec with state := .busy }) := by simp [upd]
      have sp2 := sp1.updL' (o' := .loop rec) hbl2
      refine ⟨.bool true, w2.putObj l (.loop rec), ?_, ?_⟩
      · have := run_endRound (P := P) none hwl2
        simp only [Option.isNone_none, if_true, hrec] at this
        exact this
      · refine ⟨.bool true, _, rfl, ?_, ⟨rfl, rfl⟩, r2.str.trans t2.str⟩
        obtain ⟨x, s, k⟩ := hat2
        have hpost : At (upd (upd g l (.loop { rec with state := .busy })) l (.loop rec)) post (w2.putObj l (.loop rec)) := ⟨x, s, h2 _ k⟩
        have hfin := hpost.unframe sp2 (Bs := [pt l (.loop rec)]) (by
          obtain ⟨x, y, t, hx, _⟩ := hb2
          refine ⟨one l (.loop rec), y, ?_, rfl, trivial⟩
          intro r
          have := t r
          rw [hx] at this
          by_cases e : r = l
          · subst e
            have hy : y r = none := by
              have ht : b r = some (.loop rec) := hbl
              rcases this with ⟨h1, _⟩ | ⟨h1, _⟩
              · simp [one] at h1
              · exact h1
            exact .inr ⟨hy, by simp [upd, one]⟩
          · simp only [upd, if_neg e]
            simp only [one, if_neg e] at this ⊢
            exact this)
        exact hfin.perm List.perm_append_comm
theorem rf_runs {jn : Bool} {P : Program} {assign body : Code} {g : Operand} {ps : Array Tmp} (hA : Walks jn P true assign) (hB : Walks jn P true body) {f : HP} {w0 : World} {K : Kont} {s : St} {a : Act} {w : World} {gid : FuncId} {first caps : List SV}
    (hg : ev s.env g = some (.fn (.func gid) first caps)) (h : RfOb P f gid first caps ps.toList (decG jn P assign true) (decG jn P body true) K s) (r : Rel f w0 s a w) : (Code.rangeFunc g ps assign body).wpIn (Fc none) 0 P (Post f w0 K) a w := by
  obtain ⟨ι, args, nmS, nx, hpS, vals, R, pre, post, hmono, hlen, hps, hnm, hv, hpre, round, call, hen⟩ := h
  have hgv := r.env.ev hg
  simp only [den] at hgv
  cases e1 : denL s.nm first with
  | none => rw [e1] at hgv; simp [mapO2] at hgv
  | some u =>
  cases e2 : denL s.nm caps with
  | none => rw [e1, e2] at hgv; simp [mapO2] at hgv
  | some c =>
  rw [e1, e2] at hgv
  simp only [mapO2, Option.some.injEq] at hgv
  refine wpIn_rangeFunc fun fn _ => ?_
  let rec0 : Loop := { state := .ready, pending := none, fn := fn, tmps := a.tmps, params := ps, assign := assign, body := body, defers := w.heap.size }
  have hb := call (w.heap.size + 1) (pt (w.heap.size + 1) (.loop rec0)) (fun i => round_runs (rec := rec0) hA hB rfl rfl rfl rfl (nm0 := s.nm) (env0 := s.env) r.size (fun k v hk => r.env k v hk) (hmono i) (by have := hlen i; simpa using this) hps (S := ⟨s.n, pushP ps.toList (args i) s.env, nmS i, nx i, hpS i⟩) ⟨rfl, rfl⟩ (hnm i) (hv i) (hpre i) (round i))
  have hat1 := (r.heap.newHid (.deferred (some [])) rfl).new (.loop rec0) rfl
  have hsz1 : (w.alloc (.deferred (some []))).heap.size = w.heap.size + 1 := by simp
  rw [hsz1] at hat1
  have st1 : Str w ((w.alloc (.deferred (some []))).alloc (.loop rec0)) := (Str.alloc w _).trans (Str.alloc _ _)
  have hm0 : w.heap[w.heap.size]? = none := by simp
  have hmark : ((w.alloc (.deferred (some []))).alloc (.loop rec0)).heap[w.heap.size]? = some (.deferred (some [])) := by
    show ((w.heap.push _).push _)[w.heap.size]? = _
    simp [Array.getElem?_push]
  have hdef : Marks w0 ([markOf w.heap.size] ++ a.defers) ((w.alloc (.deferred (some []))).alloc (.loop rec0)) := by
    obtain ⟨bs, d1, d2, d3⟩ := r.defers
    refine ⟨w.heap.size :: bs, by simp [d1], List.nodup_cons.2 ⟨fun hin => ?_, d2⟩, fun b hb => ?_⟩
    · have := (d3 _ hin).1; rw [hm0] at this; cases this
    · rcases List.mem_cons.1 hb with rfl | hb
      · refine ⟨hmark, ?_⟩
        have := r.str.size
        simp; omega
      · exact ⟨st1.dfs b _ (d3 b hb).1 rfl, (d3 b hb).2⟩
  have r1 : Rel f w0 ⟨s.n, s.env, s.nm, s.next, .asn (pt (w.heap.size + 1) (.loop rec0)) :: s.hp⟩ { a with defers := [markOf w.heap.size] ++ a.defers } ((w.alloc (.deferred (some []))).alloc (.loop rec0)) :=
    ⟨hdef, r.size, r.env, hat1, r.str.trans st1⟩
  have hargs : denL s.nm (appK first (.fn (.yield (w.heap.size + 1)) [] [] :: caps)) = some (u ++ (.func (.yield (w.heap.size + 1)) #[] #[] :: c)) := by
    rw [appK_eq]
    exact denL_append e1 (by simp only [denL, den, mapO2, e2, consO])
  have hc : Calls P gid (u ++ (.func (.yield (w.heap.size + 1)) #[] #[] :: c)).toArray ((w.alloc (.deferred (some []))).alloc (.loop rec0)) fun e w' => ∃ v sv s', e = .returned v ∧ (∃ hp1, s'.hp = .asn (pt (w.heap.size + 1) (.loop rec0)) :: hp1 ∧ K .normal ⟨s'.n, s'.env, s'.nm, s'.next, hp1⟩) ∧ den s'.nm sv = some v ∧ Rel f w0 s' { a with defers := [markOf w.heap.size] ++ a.defers } w' ∧ NmExt s.nm s'.nm := by
    rcases callOb_runs hb r1 hargs with ⟨_, hc⟩ | ⟨v, sv, s', hr, _⟩
    · exact hc
    · rw [hen] at hr; cases hr
  have hres : (resolve a.eval (rangeCall g (w.heap.size + 1)) 0).run P ((w.alloc (.deferred (some []))).alloc (.loop rec0)) = .ok { target := .fn (.func gid) c.toArray, args := u.toArray ++ #[.func (.yield (w.heap.size + 1)) #[] #[]] } ((w.alloc (.deferred (some []))).alloc (.loop rec0)) := by
    have hev : a.eval (.const (.func (.yield (w.heap.size + 1)) #[] #[])) = .func (.yield (w.heap.size + 1)) #[] #[] := rfl
    simp only [resolve, ← hgv, Deferred.ofValue, Sem.run_pure, List.map_toArray, List.map_cons, List.map_nil, hev]
  have hinv : (invoke (.fn (.func gid) c.toArray) (u.toArray ++ #[.func (.yield (w.heap.size + 1)) #[] #[]])).run P ((w.alloc (.deferred (some []))).alloc (.loop rec0)) =
      .ok (.enter gid (u ++ (.func (.yield (w.heap.size + 1)) #[] #[] :: c)).toArray) ((w.alloc (.deferred (some []))).alloc (.loop rec0)) := by
    have := hen ((u ++ (.func (.yield (w.heap.size + 1)) #[] #[] :: c)).toArray) ((w.alloc (.deferred (some []))).alloc (.loop rec0))
    rw [← this]
    simp only [invoke]
    congr 2
    apply Array.ext'
    simp
  refine ⟨w.heap.size + 1, [markOf w.heap.size], _, _, _, gid, _, _, run_enterLoop_outer fn a.tmps ps assign body, hres, fun _ _ => trivial, hinv, (fun h => by cases h), callsIn_Fc.2 (hc.mono ?_)⟩
  rintro e w3 ⟨v, sv, s', rfl, ⟨hp1, hhp, hK⟩, _, r3, _⟩
  have h3 : At f (pt (w.heap.size + 1) (.loop rec0) :: hp1.map (entDen s'.nm)) w3 := by
    have := r3.heap
    unfold St.ents at this
    rw [hhp] at this
    exact this
  have hwl := h3.block
  have t := turned_loop { rec0 with state := .exhausted } hwl
  refine ⟨none, _, run_endLoop hwl (by simp [rec0]), ?_⟩
  exact ⟨.normal, _, rfl, hK, r3.defers.str t.str, r3.size, r3.env, (h3.turned t).tail, r3.str.trans t.str⟩
theorem reg_runs {jn : Bool} {ops : Array Oper} {X : (St → Prop) → Prop} {K : Kont} {f : HP} {w0 : World} {W : (Exit → Act → World → Prop) → Prop} (mono : ∀ Q Q' : Exit → Act → World → Prop, (∀ e a w, Q e a w → Q' e a w) → W Q → W Q')
    (run : ∀ K' : St → Prop, X K' → W (Post f w0 (asK K'))) (h : regD jn ops X fun s' => K .normal s') : W (Post f w0 K) := by
  have plain : X (fun s' => K .normal s') → W (Post f w0 K) := fun h => mono _ _ (by
    rintro e a w ⟨z, s', rfl, h', r'⟩
    cases z with
    | normal => exact ⟨.normal, s', rfl, h', r'⟩
    | exit n => exact h'.elim
    | ret => exact h'.elim) (run _ h)
  unfold regD at h
  cases hj : (jn && guarded ops.toList) with
  | false => rw [hj] at h; exact plain h
  | true =>
    rw [hj] at h
    cases (show RegOb X (fun s' => K .normal s') from h) with
    | go h => exact plain h
    | join ι S h rest =>
      refine mono _ _ ?_ (run _ h)
      rintro e a w ⟨z, s', rfl, h', r'⟩
      cases z with
      | normal => obtain ⟨j, hle⟩ := h'; exact ⟨.normal, S j, rfl, rest j, r'.le hle⟩
      | exit n => exact h'.elim
      | ret => exact h'.elim
theorem dec_runs {jn : Bool} {P : Program} : ∀ (c : Code) (rd : Bool), Walks jn P rd c
  | .skip, rd => fun _ _ _ _ _ _ _ _ h r => wpIn_skip ⟨.normal, _, rfl, h, r⟩
  | .region id ops false, rd => fun _ _ _ _ _ _ _ _ h r => reg_runs (fun _ _ k h => wpIn_mono h k) (fun K' h => wpIn_region_list (opsD_runs h r fun _ _ ⟨s', h', r'⟩ => ⟨.normal, s', rfl, h', r'⟩)) h
  | .region id ops true, rd => fun _ _ _ _ _ _ _ _ h r => reg_runs (fun _ _ k h => wpIn_mono h k) (fun K' h => draw_runs h r fun _ _ ⟨s', h', r'⟩ => ⟨.normal, s', rfl, h', r'⟩) h
  | .seq x y, rd => fun ro f w0 K s a w hro h r => by
    refine wpIn_seq (wpIn_mono (dec_runs x rd _ _ _ _ _ _ _ hro h r) ?_)
    rintro e a' w' ⟨z, s', rfl, h', r'⟩
    cases z with
    | normal => exact dec_runs y rd _ _ _ _ _ _ _ hro h' r'
    | exit n => exact ⟨.exit n, s', rfl, h', r'⟩
    | ret => exact ⟨.ret, s', rfl, h', r'⟩
  | .cond c x y, rd => fun ro f w0 K s a w hro h r => by
    unfold decG at h
    split at h <;> try exact h.elim
    · rename_i hc
      have : a.eval c = .bool true := by simpa [den, eq_comm] using r.env.ev hc
      exact wpIn_cond_true this (dec_runs x rd _ _ _ _ _ _ _ hro h r)
    · rename_i hc
      have : a.eval c = .bool false := by simpa [den, eq_comm] using r.env.ev hc
      exact wpIn_cond_false this (dec_runs y rd _ _ _ _ _ _ _ hro h r)
    · rename_i q hc
      have hq : a.eval c = .bool q := by simpa [den, eq_comm] using r.env.ev hc
      cases h with
      | split h k =>
        refine wpIn_cond hq ?_
        cases q
        · exact dec_runs y rd _ _ _ _ _ _ _ hro (k rfl) r
        · exact dec_runs x rd _ _ _ _ _ _ _ hro (h rfl) r
      | join ι S h k rest =>
        refine wpIn_cond hq ?_
        have fin : ∀ e a w, Post f w0 (joinK S K) e a w → Post f w0 K e a w := by
          rintro e a w ⟨z, s', rfl, h', r'⟩
          cases z with
          | normal => obtain ⟨i, hle⟩ := h'; exact ⟨.normal, S i, rfl, rest i, r'.le hle⟩
          | exit n => exact ⟨.exit n, s', rfl, h', r'⟩
          | ret => exact ⟨.ret, s', rfl, h', r'⟩
        cases q
        · exact wpIn_mono (dec_runs y rd _ _ _ _ _ _ _ hro (k rfl) r) fin
        · exact wpIn_mono (dec_runs x rd _ _ _ _ _ _ _ hro (h rfl) r) fin
  | .block id b, rd => fun ro f w0 K s a w hro h r => by
    refine wpIn_block (wpIn_mono (dec_runs b rd _ _ _ _ _ _ _ hro h r) ?_)
    rintro e a' w' ⟨z, s', rfl, h', r'⟩
    cases z with
    | normal => exact ⟨.normal, s', rfl, h', r'⟩
    | exit n =>
      simp only [blockK] at h'
      simp only [Ex.out, Exit.inBlock]
      by_cases e : n = id
      · subst e
        rw [if_pos rfl]
        simp at h'
        exact ⟨.normal, s', rfl, h', r'⟩
      · rw [if_neg e]
        rw [beq_no e] at h'
        exact ⟨.exit n, s', rfl, h', r'⟩
    | ret => exact ⟨.ret, s', rfl, h', r'⟩
  | .loop b, rd => fun ro f w0 K s a w hro h r => by
    obtain ⟨ι, S, μ, i, h0, round⟩ := h
    have main : ∀ n i a w, μ i < n → Rel f w0 (S i) a w → Code.roundsIn (Fc ro) 0 P b (Post f w0 K) n a w := by
      intro n
      induction n with
      | zero => intro i a w h; omega
      | succ n ih =>
        intro i a w hn r
        rw [roundsIn_succ]
        refine wpIn_mono (dec_runs b rd _ _ _ _ _ _ _ hro (round i) r) ?_
        rintro e a' w' ⟨z, s', rfl, h', r'⟩
        cases z with
        | normal => obtain ⟨j, hj, hle⟩ := h'; exact ih j a' w' (by omega) (r'.le hle)
        | exit n => exact ⟨.exit n, s', rfl, h', r'⟩
        | ret => exact ⟨.ret, s', rfl, h', r'⟩
    exact wpIn_loop_rounds _ (main (μ i + 1) i a w (by omega) (r.le h0))
  | .exit n, rd => fun _ _ _ _ _ _ _ _ h r => wpIn_exit ⟨.exit n, _, rfl, h, r⟩
  | .ret, rd => fun _ _ _ _ _ _ _ _ h r => wpIn_ret ⟨.ret, _, rfl, h, r⟩
  | .rangeFunc g ps x y, true => fun _ _ _ _ _ _ _ _ h _ => h.elim
  | .rangeFunc g ps x y, false => fun ro f w0 K s a w hro h r => by
    obtain rfl := hro rfl
    unfold decG at h
    simp only at h
    split at h <;> try exact h.elim
    rename_i hg
    exact rf_runs (dec_runs x true) (dec_runs y true) hg h r
  | .scope _, _ => fun _ _ _ _ _ _ _ _ h _ => h.elim
  | .label _, _ => fun _ _ _ _ _ _ _ _ h _ => h.elim
  | .goto _, _ => fun _ _ _ _ _ _ _ _ h _ => h.elim
  | .refuse _, _ => fun _ _ _ _ _ _ _ _ h _ => h.elim

/-! ### A function -/
def resD (P : Program) (f : HP) : List ResultVar → St → (List SV → Prop) → Prop
  | [], _, K => K []
  | .tmp t :: r, s, K => forceO (getE s.env t) fun v => resD P f r s fun l => K (v :: l)
  | .cell a t :: r, s, K => match getE s.env a with
    | some p => loadD P f s t p fun v _ => resD P f r s fun l => K (v :: l)
    | none => False
def ret1 : List Value → Value
  | [v] => v
  | vs => .tuple vs.toArray
inductive FinOb (s : St) (Q : Value → List Asn → Prop) (l : List SV) : Prop
  | mk (vs : List Value) (post : List Asn) (hd : denL s.nm l = some vs) (he : ∀ h, sat s.ents h → sat post h) (hq : Q (ret1 vs) post)
def finK (P : Program) (f : HP) (res : List ResultVar) (Q : Value → List Asn → Prop) : Kont := fun e s => match e with
  | .normal => resD P f res s fun l => FinOb s Q l
  | .ret => resD P f res s fun l => FinOb s Q l
  | .exit _ => False
theorem asAddr_run {P : Program} {b o : Nat} (w : World) : (asAddr (.pointer (some ⟨b, o, none⟩))).run P w = .ok ⟨b, o, none⟩ w := rfl
def oneRes (tmps : Array Value) : ResultVar → Sem Value
  | .tmp t => pure (tmps.getD t undef)
  | .cell a t => do loadVar t (← asAddr (tmps.getD a undef))
theorem resD_runs {P : Program} {f : HP} {w0 : World} {s : St} {a : Act} {w : World} (r : Rel f w0 s a w) : ∀ {l : List ResultVar} {K : List SV → Prop}, resD P f l s K →
    ∃ svs vs, K svs ∧ denL s.nm svs = some vs ∧ (l.mapM (oneRes a.tmps)).run P w = .ok vs w
  | [], K, h => ⟨[], [], h, rfl, by simp⟩
  | .tmp t :: l, K, h => by
    unfold resD at h
    obtain ⟨v, hv, h⟩ := forceO_some h
    obtain ⟨svs, vs, k, hd, hr⟩ := resD_runs r h
    refine ⟨v :: svs, a.tmps.getD t undef :: vs, k, by simp only [denL, r.env t v hv, hd, consO], ?_⟩
    rw [List.mapM_cons]
    simp only [oneRes, Sem.run_bind, Sem.run_pure, Result.andThen_ok, hr]
  | .cell ad t :: l, K, h => by
    unfold resD at h
    split at h <;> try exact h.elim
    rename_i p hp
    obtain ⟨sv, v, b, o, u, h, hd, hx, hl, hld, _⟩ := loadD_runs h r (r.env _ _ hp)
    obtain ⟨svs, vs, k, hd', hr⟩ := resD_runs r h
    refine ⟨sv :: svs, v :: vs, k, by simp only [denL, hd, hd', consO], ?_⟩
    rw [List.mapM_cons]
    simp only [oneRes, Sem.run_bind, hx, asAddr_run, Result.andThen_ok, hld w hl, hr, Sem.run_pure]
theorem results_runs {P : Program} {fn : Func} {tmps : Array Value} {w : World} {vs : List Value} (h : (fn.results.toList.mapM (oneRes tmps)).run P w = .ok vs w) : (results fn tmps).run P w = .ok (ret1 vs) w := by
  have hm : (fn.results.mapM (oneRes tmps)).run P w = .ok vs.toArray w := by
    rw [Array.mapM_eq_mapM_toList, Sem.run_map, h]; rfl
  have e : results fn tmps = (do let vs ← fn.results.mapM (oneRes tmps); pure (if h : vs.size = 1 then vs[0] else .tuple vs)) := rfl
  rw [e, Sem.run_bind, hm]
  simp only [Result.andThen_ok, Sem.run_pure]
  congr 1
  match vs with
  | [] => rfl
  | [v] => rfl
  | v :: u :: l => simp [ret1]
def envFrom : Nat → List SV → List (Nat × SV)
  | _, [] => []
  | i, v :: l => (i, v) :: envFrom (i + 1) l
theorem envFrom_ok {nm : List (Nat × Plc)} {t : Array Value} : ∀ {l : List SV} {vs : List Value} {i : Nat}, denL nm l = some vs → (∀ j v, vs[j]? = some v → t.getD (i + j) undef = v) → ∀ k v, getE (envFrom i l) k = some v → den nm v = some (t.getD k undef)
  | [], vs, i, _, _, k, v, h => by simp [envFrom, getE] at h
  | x :: l, vs, i, hd, ht, k, v, h => by
    simp only [denL] at hd
    obtain ⟨a, b, e1, e2, rfl⟩ := consO_some hd
    simp only [envFrom, getE] at h
    by_cases e : i = k
    · subst e
      simp at h; subst h
      have := ht 0 a (by simp)
      rw [Nat.add_zero] at this
      rw [this]; exact e1
    · rw [beq_no e] at h
      exact envFrom_ok (i := i + 1) e2 (fun j u hu => by have := ht (j + 1) u (by simpa using hu); rw [← this]; congr 1; omega) k v h
/-- The marks are come to, at a function's end. -/
theorem leaves_marks {P : Program} {fn : Func} {tmps : Array Value} {R : Ending → World → Prop} : ∀ (bs : List Nat) (w : World), bs.Nodup → (∀ b ∈ bs, w.heap[b]? = some (.deferred (some []))) →
    (∀ w', hpOf w' = hpOf w → w'.os = w.os → w'.tape = w.tape → w'.output = w.output → w'.heap.size = w.heap.size → w'.drawn = w.drawn → (∀ b, b ∉ bs → w'.heap[b]? = w.heap[b]?) → ∃ v, (results fn tmps).run P w' = .ok v w' ∧ R (.returned v) w') →
    LeavesInM (Fc none) 0 P fn tmps R (bs.map markOf) .returning w
  | [], w, _, _, h => h w rfl rfl rfl rfl rfl rfl (fun _ _ => rfl)
  | b :: bs, w, hn, hb, h => by
    have hb0 := hb b (by simp)
    obtain ⟨hn1, hn2⟩ := List.nodup_cons.1 hn
    have hl : b < w.heap.size := (Array.getElem?_eq_some_iff.1 hb0).1
    have hother : ∀ k, k ≠ b → (w.putObj b (.deferred none)).heap[k]? = w.heap[k]? := fun k hk => World.putObj_heap_other hk
    have hhp : hpOf (w.putObj b (.deferred none)) = hpOf w := by
      funext k
      by_cases e : k = b
      · subst e
        unfold hpOf
        rw [World.putObj_heap_same hl, hb0]; rfl
      · exact hpOf_eq (hother k e)
    refine ⟨by simp, .inl ⟨b, _, rfl, run_takeDeferred hb0, ?_⟩⟩
    refine leaves_marks bs _ hn2 (fun k hk => ?_) (fun w' h1 h2 h3 h4 h5 hd h6 => ?_)
    · rw [hother k (fun e => hn1 (by rw [← e]; exact hk))]; exact hb k (List.mem_cons_of_mem _ hk)
    · refine h w' (h1.trans hhp) h2 h3 h4 (h5.trans (by simp)) hd (fun k hk => ?_)
      simp only [List.mem_cons, not_or] at hk
      rw [h6 k hk.2, hother k hk.1]
/-- .. and what it leaves is told as before. -/
theorem body_end {P : Program} {fn : Func} {f : HP} {w0 : World} {s : St} {a : Act} {w : World} {R : Ending → World → Prop} (r : Rel f w0 s a w)
    (h : ∀ w', Rel f w0 s { a with defers := [] } w' → ∃ v, (results fn a.tmps).run P w' = .ok v w' ∧ R (.returned v) w') : LeavesInM (Fc none) 0 P fn a.tmps R a.defers .returning w := by
  obtain ⟨bs, h1, h2, h3⟩ := r.defers
  rw [h1]
  refine leaves_marks bs w h2 (fun b hb => (h3 b hb).1) (fun w' k1 k2 k3 k4 k5 kd k6 => h w' ⟨.nil _ _, r.size, r.env, ?_, ?_⟩)
  · obtain ⟨x, t, k⟩ := r.heap
    exact ⟨x, by rw [k1]; exact t, k⟩
  · refine ⟨k2.trans r.str.os, k3.trans r.str.tape, k4.trans r.str.output, fun b o hb ho => ?_, by rw [k5]; exact r.str.size, by rw [kd]; exact r.str.drawn⟩
    rw [k6 b (fun hin => by rw [(h3 b hin).2] at hb; cases hb)]
    exact r.str.dfs b o hb ho
theorem start_rel {f : HP} {w0 w : World} {ntmps : Nat} {vals : List Value} {params : List SV} {nm : List (Nat × Plc)} {next : Nat} {hp : List Ent} (hden : denL nm params = some vals) (hsz : vals.length ≤ ntmps) (hat : At f (hp.map (entDen nm)) w) (hs : Str w0 w) :
    Rel f w0 ⟨ntmps, envFrom 0 params, nm, next, hp⟩ { tmps := vals.toArray ++ Array.replicate (ntmps - vals.toArray.size) undef, defers := [] } w := by
  refine ⟨.nil _ _, by simp; omega, fun k v hk => ?_, hat, hs⟩
  refine envFrom_ok (i := 0) hden (fun j u hu => ?_) k v hk
  have hj := (List.getElem?_eq_some_iff.1 hu).1
  have : (vals.toArray ++ Array.replicate (ntmps - vals.toArray.size) undef)[0 + j]? = some u := by
    rw [Nat.zero_add, Array.getElem?_append_left (by simpa using hj)]
    simpa using hu
  simp only [Array.getD_eq_getD_getElem?, this, Option.getD_some]
/-- **What a function does, by a walk of its body.** -/
theorem Does.ofG {jn : Bool} {P : Program} {g : FuncId} {fn : Func} {c : Code} {vals : List Value} {R : HP → Prop} {pre : List Asn} {Q : Value → List Asn → Prop}
    (hf : P.funcs[g]? = some fn) (he : Enters P g) (hb : fn.body = some c) (params : List SV) (nm : List (Nat × Plc)) (next : Nat) (hp : List Ent)
    (hden : denL nm params = some vals) (hsz : Nat.ble vals.length fn.ntmps = true) (hpre : ∀ h, sat pre h → sat (hp.map (entDen nm)) h)
    (h : ∀ f, R f → decG jn P c false f (finK P f fn.results.toList Q) ⟨fn.ntmps, envFrom 0 params, nm, next, hp⟩) : Does P g vals.toArray R pre Q := by
  refine ⟨he, fun f w hR hat => (callsIn_Fc (ro := none) (n := 0)).1 (callsIn_of_wp_marks (F := Fc none) hf hb trivial ?_)⟩
  have hsz := Nat.le_of_ble_eq_true hsz
  have r := start_rel (w0 := w) (next := next) hden hsz (show At f (hp.map (entDen nm)) w from let ⟨x, t, k⟩ := hat; ⟨x, t, hpre _ k⟩) (.refl w)
  refine wpIn_mono (dec_runs c false _ _ _ _ _ _ _ (fun _ => rfl) (h f hR) r) ?_
  rintro e a w' ⟨z, s, rfl, h', r'⟩
  have fin : (resD P f fn.results.toList s fun l => FinOb s Q l) → LeavesInM (Fc none) 0 P fn a.tmps (fun e w' => ∃ v post, e = .returned v ∧ At f post w' ∧ Q v post ∧ Str w w') a.defers .returning w' := by
    intro hres
    refine body_end r' fun w2 r2 => ?_
    obtain ⟨svs, vs, ⟨vs', post, hd, hent, hq⟩, hd', hr⟩ := resD_runs r2 hres
    rw [hd'] at hd; simp only [Option.some.injEq] at hd; subst hd
    obtain ⟨x, t, k⟩ := r2.heap
    exact ⟨_, results_runs hr, _, post, rfl, ⟨x, t, hent _ k⟩, hq, r2.str⟩
  cases z with
  | normal => exact fin h'
  | ret => exact fin h'
  | exit n => exact h'.elim
theorem Does.of {P : Program} {g : FuncId} {fn : Func} {c : Code} {vals : List Value} {R : HP → Prop} {pre : List Asn} {Q : Value → List Asn → Prop}
    (hf : P.funcs[g]? = some fn) (he : Enters P g) (hb : fn.body = some c) (params : List SV) (nm : List (Nat × Plc)) (next : Nat) (hp : List Ent)
    (hden : denL nm params = some vals) (hsz : Nat.ble vals.length fn.ntmps = true) (hpre : ∀ h, sat pre h → sat (hp.map (entDen nm)) h)
    (h : ∀ f, R f → dec P c false f (finK P f fn.results.toList Q) ⟨fn.ntmps, envFrom 0 params, nm, next, hp⟩) : Does P g vals.toArray R pre Q :=
  Does.ofG hf he hb params nm next hp hden hsz hpre h
/-- .. and the ways through a region with guards may come together behind it (stops: RegOb.go, RegOb.join). -/
theorem Does.ofJ {P : Program} {g : FuncId} {fn : Func} {c : Code} {vals : List Value} {R : HP → Prop} {pre : List Asn} {Q : Value → List Asn → Prop}
    (hf : P.funcs[g]? = some fn) (he : Enters P g) (hb : fn.body = some c) (params : List SV) (nm : List (Nat × Plc)) (next : Nat) (hp : List Ent)
    (hden : denL nm params = some vals) (hsz : Nat.ble vals.length fn.ntmps = true) (hpre : ∀ h, sat pre h → sat (hp.map (entDen nm)) h)
    (h : ∀ f, R f → decG true P c false f (finK P f fn.results.toList Q) ⟨fn.ntmps, envFrom 0 params, nm, next, hp⟩) : Does P g vals.toArray R pre Q :=
  Does.ofG hf he hb params nm next hp hden hsz hpre h
end Sx
