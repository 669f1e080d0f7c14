/- A plan for a region that draws its order, walked once. Conditions: none. -/
import Derived.Test.YtiknkeakielncaaE11
namespace Sx
open Go

/-- Operations that only look. -/
def mildB : Op → Bool
  | .move _ | .assign _ | .pick .. | .nilCheck _ | .binOp .. | .unOp .. | .convert .. | .makeInterface .. | .makeFunc .. | .fieldAddr .. | .field .. | .indexAddr .. | .index .. | .slice .. | .extract .. | .typeAssert .. | .build .. | .load .. => true
  | .call ⟨.builtin .len, _, _⟩ | .call ⟨.builtin .min, _, _⟩ | .call ⟨.builtin .max, _, _⟩ => true
  | _ => false
/-- What was read: the variable's type, its place, its value. -/
abbrev Got := TypeId × SV × SV
def mildD (P : Program) (f : HP) (o : Oper) (s : St) (K : Option Got → St → Prop) : Prop :=
  match o.op with
  | .load t x => match ev s.env x with
    | some p => loadD P f s t p fun v s' => putK s' o.dst v (K (some (t, p, v)))
    | none => False
  | op => pureD P s.nm s.env op fun v => putK s o.dst v (K none)
def guardM (P : Program) (f : HP) (ops : Array Oper) (o : Oper) (s : St) (K : Option Got → St → Prop) : Prop :=
  match o.guard with
  | none => mildD P f o s K
  | some (j, want) => match slotOf ops j with
    | some d => match getE s.env d with
      | some .tt => match want with
        | true => mildD P f o s K
        | false => putK s o.dst (.raw undef) (K none)
      | some .ff => match want with
        | true => putK s o.dst (.raw undef) (K none)
        | false => mildD P f o s K
      | some (.bool b) => match want with
        | true => Br b (mildD P f o (s.top (d, .tt)) K) (putK (s.top (d, .ff)) o.dst (.raw undef) (K none))
        | false => Br b (putK (s.top (d, .tt)) o.dst (.raw undef) (K none)) (mildD P f o (s.top (d, .ff)) K)
      | some (.raw (.tuple _)) => putK s o.dst (.raw undef) (K none)
      | _ => False
    | none => False
/-- What was read, in the memory. -/
def Means (P : Program) (nm : List (Nat × Plc)) (m : Got) (c : Cells) : Prop :=
  ∃ v, den nm m.2.1 = some (.pointer (some ⟨c.1, c.2.1, none⟩)) ∧ den nm m.2.2 = some v ∧ c.2.2 = cellsFor P m.1 v
theorem Means.ext {P : Program} {nm nm' : List (Nat × Plc)} {m : Got} {c : Cells} (h : Means P nm m c) (x : NmExt nm nm') : Means P nm' m c :=
  let ⟨v, h1, h2, h3⟩ := h; ⟨v, den_ext x _ _ h1, den_ext x _ _ h2, h3⟩
def MeansO (P : Program) (nm : List (Nat × Plc)) : Option Got → List Cells → Prop
  | none, cs => cs = []
  | some m, cs => ∃ c, cs = [c] ∧ Means P nm m c
theorem mildD_runs {P : Program} {f : HP} {w0 : World} {ops : Array Oper} {o : Oper} {s : St} {a : Act} {w : World} {K : Option Got → St → Prop} (h : mildD P f o s K) (r : Rel f w0 s a w) (hw : Region.wanted o (yielded ops a.tmps) = true) :
    ∃ v cs m s', YieldsM P ops o v cs a ∧ (∀ c ∈ cs, LiesC w c) ∧ K m s' ∧ Rel f w0 s' (a.put o.dst v) w ∧ s'.nm = s.nm ∧ MeansO P s.nm m cs := by
  unfold mildD at h
  split at h
  · rename_i t x ho
    split at h <;> try exact h.elim
    rename_i p hp
    obtain ⟨sv, v, b, off, u, k, hd, hx, hl, hr, hc⟩ := loadD_runs h r (r.env.ev hp)
    obtain ⟨s', k', r', hn⟩ := r.put k hd
    have he := r.env.ev hp
    rw [hx] at he
    refine ⟨v, [(b, off, u)], _, s', .inl ⟨hw, nd ho, fun w' hl' => ?_⟩, fun c hc => ?_, k', r', hn, (b, off, u), rfl, v, he, hd, hc⟩
    · have := hl' (b, off, u) (by simp)
      simp [execOp, ho, Instr.loadAt, hx, Instr.sureAddr, hr w' this]
    · simp at hc; subst hc; exact hl
  · have nd' : ∀ c, o.op ≠ .defer c := fun c hc => by rw [hc] at h; exact h
    obtain ⟨sv, v, k, hd, hr⟩ := pure_runs h r.env
    obtain ⟨s', k', r', hn⟩ := r.put k hd
    exact ⟨v, [], none, s', .inl ⟨hw, nd', fun w' _ => hr w'⟩, by simp, k', r', hn, rfl⟩
theorem skip_runs {P : Program} {f : HP} {w0 : World} {ops : Array Oper} {o : Oper} {s : St} {a : Act} {w : World} {K : Option Got → St → Prop} (h : putK s o.dst (.raw undef) (K none)) (r : Rel f w0 s a w) (hw : Region.wanted o (yielded ops a.tmps) = false) :
    ∃ v cs m s', YieldsM P ops o v cs a ∧ (∀ c ∈ cs, LiesC w c) ∧ K m s' ∧ Rel f w0 s' (a.put o.dst v) w ∧ s'.nm = s.nm ∧ MeansO P s.nm m cs := by
  obtain ⟨s', k', r', hn⟩ := r.put h rfl
  exact ⟨undef, [], none, s', .inr ⟨hw, rfl⟩, by simp, k', r', hn, rfl⟩
theorem guardM_runs {P : Program} {f : HP} {w0 : World} {ops : Array Oper} {o : Oper} {s : St} {a : Act} {w : World} {K : Option Got → St → Prop} (h : guardM P f ops o s K) (r : Rel f w0 s a w) :
    ∃ v cs m s', YieldsM P ops o v cs a ∧ (∀ c ∈ cs, LiesC w c) ∧ K m s' ∧ Rel f w0 s' (a.put o.dst v) w ∧ s'.nm = s.nm ∧ MeansO P s.nm m cs := by
  unfold guardM at h
  split at h
  · rename_i hg
    exact mildD_runs h r (by simp [Region.wanted, hg])
  · rename_i j want hg
    split at h <;> try exact h.elim
    rename_i d hd
    have wantIs : ∀ b, a.tmps.getD d undef = .bool b → Region.wanted o (yielded ops a.tmps) = (b == want) := fun b hb => by
      simp [Region.wanted, hg, yielded_of hd hb]
    split at h <;> try exact h.elim
    · rename_i hv
      have hb : a.tmps.getD d undef = .bool true := by have := r.env _ _ hv; simpa [den, eq_comm] using this
      have hw := wantIs _ hb
      split at h
      · exact mildD_runs h r (by rw [hw]; rfl)
      · exact skip_runs h r (by rw [hw]; rfl)
    · rename_i hv
      have hb : a.tmps.getD d undef = .bool false := by have := r.env _ _ hv; simpa [den, eq_comm] using this
      have hw := wantIs _ hb
      split at h
      · exact skip_runs h r (by rw [hw]; rfl)
      · exact mildD_runs h r (by rw [hw]; rfl)
    · rename_i b hv
      have hb : a.tmps.getD d undef = .bool b := by have := r.env _ _ hv; simpa [den, eq_comm] using this
      have hw := wantIs _ hb
      split at h <;> obtain ⟨h1, h2⟩ := h <;> cases b
      · exact skip_runs (s := { s with env := (d, .ff) :: s.env }) (h2 rfl) (r.ff hb) (by rw [hw]; rfl)
      · exact mildD_runs (s := { s with env := (d, .tt) :: s.env }) (h1 rfl) (r.tt hb) (by rw [hw]; rfl)
      · exact mildD_runs (s := { s with env := (d, .ff) :: s.env }) (h2 rfl) (r.ff hb) (by rw [hw]; rfl)
      · exact skip_runs (s := { s with env := (d, .tt) :: s.env }) (h1 rfl) (r.tt hb) (by rw [hw]; rfl)
    · rename_i u hv
      have hb : a.tmps.getD d undef = .tuple u := by have := r.env _ _ hv; simpa [den, eq_comm] using this
      exact skip_runs h r (by simp [Region.wanted, hg, yielded_none hd hb])

/-! ### The plan: the operations in one order; two loud ones in either; what each loud one is to keep -/
inductive Plan where
  | nil
  | one (i : Nat) (p : Plan)
  | two (i : Nat) (p : Plan) (j : Nat) (q : Plan)
  | three (i : Nat) (p : Plan) (j : Nat) (q : Plan) (k : Nat) (u : Plan)
def Plan.len : Plan → Nat
  | .nil => 0
  | .one _ p => p.len + 1
  | .two _ p _ _ => p.len + 1
  | .three _ p _ _ _ _ => p.len + 1
/-- One after the other. -/
def Plan.run : List Nat → Plan → Plan
  | [], p => p
  | i :: l, p => .one i (Plan.run l p)
abbrev Keeps := List (Nat × List Nat)
def memB : Nat → List Nat → Bool
  | _, [] => false
  | n, m :: l => bif Nat.beq n m then true else memB n l
def keepsOf : Keeps → Nat → List Nat
  | [], _ => []
  | (i, ks) :: l, j => bif Nat.beq i j then ks else keepsOf l j
/-- An operation that only looks may be taken as a loud one: the list under 999 names those. -/
def loudK (kl : Keeps) (i : Nat) : Bool := memB i (keepsOf kl 999)
def mildAt (ops : Array Oper) (kl : Keeps) (i : Nat) : Bool :=
  match ops[i]? with
  | some o => mildB o.op && !loudK kl i
  | none => false
def kpOf (ops : Array Oper) (kl : Keeps) : Keep := fun j i => mildAt ops kl j || memB i (keepsOf kl j)
/-- What was read is there still. -/
def keepD (P : Program) (f : HP) (ks : List Nat) (X : Prop) : List (Nat × Got) → St → Prop
  | [], _ => X
  | (j, t, p, v) :: l, s => bif memB j ks then loadD P f s t p fun v' _ => Need (den s.nm v' = den s.nm v) (keepD P f ks X l s) else keepD P f ks X l s
def addG (i : Nat) : Option Got → List (Nat × Got) → List (Nat × Got)
  | some m, l => (i, m) :: l
  | none, l => l
def loudD (P : Program) (f : HP) (ops : Array Oper) (kl : Keeps) (i : Nat) (g : List (Nat × Got)) (s : St) (next : St → Prop) : Prop :=
  match ops[i]? with
  | some o => guardD P f ops o s fun s' => keepD P f (keepsOf kl i) (next s') g s'
  | none => False
def planD (P : Program) (f : HP) (ops : Array Oper) (kl : Keeps) : Plan → List (Nat × Got) → St → (St → Prop) → Prop
  | .nil, _, s, K => K s
  | .one i p, g, s, K => match ops[i]? with
    | some o => bif mildB o.op && !loudK kl i then guardM P f ops o s fun m s' => planD P f ops kl p (addG i m g) s' K
      else loudD P f ops kl i g s fun s' => planD P f ops kl p g s' K
    | none => False
  | .two i p j q, g, s, K => (loudD P f ops kl i g s fun s' => planD P f ops kl p g s' K) ∧ (loudD P f ops kl j g s fun s' => planD P f ops kl q g s' K)
  | .three i p j q k u, g, s, K => (loudD P f ops kl i g s fun s' => planD P f ops kl p g s' K) ∧ (loudD P f ops kl j g s fun s' => planD P f ops kl q g s' K) ∧ (loudD P f ops kl k g s fun s' => planD P f ops kl u g s' K)
/-- The operations that wait for operation i, among the first n. -/
def blocked (ops : Array Oper) (listed : Array Bool) (i : Nat) : Nat → List Nat
  | 0 => []
  | n + 1 =>
    let B := blocked ops listed i n
    if n == i || (!listed.getD n true && decide (n < listed.size) && ((ops[n]?).map fun o => o.after.any fun e => Region.binds .any e && B.contains e.on).getD false) then n :: B else B
def freeB (ops : Array Oper) (kp : Keep) (listed : Array Bool) (i : Nat) : Bool :=
  let B := blocked ops listed i ops.size
  match ops[i]? with
  | some oi => (List.range ops.size).all fun j => B.contains j || listed.getD j true || ((ops[j]?).map fun oj => oi.apart ops oj && kp j i).getD true
  | none => false
def chkP (ops : Array Oper) (kl : Keeps) (kp : Keep) : Plan → Array Bool → Bool
  | .nil, listed => (Region.ready .any ops listed).isEmpty
  | .one i p, listed => (Region.ready .any ops listed).contains i && decide (i < listed.size) &&
    (if mildAt ops kl i then freeB ops kp listed i else (Region.ready .any ops listed == [i])) && chkP ops kl kp p (listed.setIfInBounds i true)
  | .two i p j q, listed => !mildAt ops kl i && !mildAt ops kl j && (Region.ready .any ops listed == [i, j]) && Nat.beq p.len q.len && chkP ops kl kp p (listed.setIfInBounds i true) && chkP ops kl kp q (listed.setIfInBounds j true)
  | .three i p j q k u, listed => !mildAt ops kl i && !mildAt ops kl j && !mildAt ops kl k && (Region.ready .any ops listed == [i, j, k]) && Nat.beq p.len q.len && Nat.beq p.len u.len && chkP ops kl kp p (listed.setIfInBounds i true) && chkP ops kl kp q (listed.setIfInBounds j true) && chkP ops kl kp u (listed.setIfInBounds k true)
def chk (P : Program) (ops : Array Oper) (kl : Keeps) (p : Plan) : Bool := P.follows .mixedOrders && Region.noSelect ops && Nat.beq p.len ops.size && chkP ops kl (kpOf ops kl) p (Array.replicate ops.size false)

theorem blocked_ok {ops : Array Oper} {listed : Array Bool} {i : Nat} (hi : i < ops.size) (hl : i < listed.size ∧ listed.getD i true = false) : Blocked ops listed i (fun j => (blocked ops listed i ops.size).contains j) := by
  have key : ∀ n j, j ∈ blocked ops listed i n → (j = i ∨ ∃ o, ops[j]? = some o ∧ ∃ e ∈ o.after, Region.binds .any e = true ∧ e.on ∈ blocked ops listed i n) ∧ (j < listed.size ∧ listed.getD j true = false) := by
    intro n
    induction n with
    | zero => intro j hj; simp [blocked] at hj
    | succ n ih =>
      intro j hj
      unfold blocked at hj ⊢
      simp only at hj ⊢
      split at hj
      · rename_i hc
        rw [if_pos hc]
        rcases List.mem_cons.1 hj with rfl | hj
        · simp only [Bool.or_eq_true, beq_iff_eq, Bool.and_eq_true, Bool.not_eq_true', decide_eq_true_eq] at hc
          rcases hc with rfl | ⟨⟨h1, h2⟩, h3⟩
          · exact ⟨.inl rfl, hl⟩
          · refine ⟨.inr ?_, h2, h1⟩
            cases ho : ops[j]? with
            | none => rw [ho] at h3; simp at h3
            | some o =>
              rw [ho] at h3
              simp only [Option.map_some, Option.getD_some, Array.any_eq_true] at h3
              obtain ⟨x, hx, h3⟩ := h3
              simp only [Bool.and_eq_true, List.contains_iff_mem] at h3
              exact ⟨o, rfl, _, Array.getElem_mem hx, h3.1, List.mem_cons_of_mem _ h3.2⟩
        · obtain ⟨h1, h2⟩ := ih j hj
          refine ⟨?_, h2⟩
          rcases h1 with h1 | ⟨o, ho, e, he, hb, hm⟩
          · exact .inl h1
          · exact .inr ⟨o, ho, e, he, hb, List.mem_cons_of_mem _ hm⟩
      · rename_i hc
        rw [if_neg hc]
        exact ih j hj
  have self : ∀ n, i < n → i ∈ blocked ops listed i n := by
    intro n
    induction n with
    | zero => intro h; omega
    | succ n ih =>
      intro h
      unfold blocked
      simp only
      by_cases e : n = i
      · subst e; rw [if_pos (by simp)]; simp
      · have := ih (by omega)
        split
        · exact List.mem_cons_of_mem _ this
        · exact this
  refine ⟨by simpa using self _ hi, fun j hj => ?_, fun j hj => (key _ j (by simpa using hj)).2⟩
  obtain ⟨h1, _⟩ := key _ j (by simpa using hj)
  rcases h1 with h1 | ⟨o, ho, e, he, hb, hm⟩
  · exact .inl h1
  · exact .inr ⟨o, ho, e, he, hb, by simpa using hm⟩

/-- What the symbolic record means. -/
def GMeans (P : Program) (nm : List (Nat × Plc)) (g : List (Nat × Got)) (c : List (Nat × Cells)) : Prop := ∀ e ∈ c, ∃ m, (e.1, m) ∈ g ∧ Means P nm m e.2
theorem GMeans.ext {P : Program} {nm nm' : List (Nat × Plc)} {g : List (Nat × Got)} {c : List (Nat × Cells)} (h : GMeans P nm g c) (x : NmExt nm nm') : GMeans P nm' g c := fun e he =>
  let ⟨m, h1, h2⟩ := h e he; ⟨m, h1, h2.ext x⟩
theorem memB_mem {n : Nat} : ∀ {l : List Nat}, memB n l = true ↔ n ∈ l
  | [] => by simp [memB]
  | m :: l => by
    unfold memB
    by_cases e : n = m
    · subst e; simp
    · simp [beq_no e, e, memB_mem]
/-- The places that were read stand for something. -/
def GOk (nm : List (Nat × Plc)) (g : List (Nat × Got)) : Prop := ∀ e ∈ g, ∃ pv, den nm e.2.2.1 = some pv
theorem GOk.ext {nm nm' : List (Nat × Plc)} {g : List (Nat × Got)} (h : GOk nm g) (x : NmExt nm nm') : GOk nm' g := fun e he => let ⟨p, hp⟩ := h e he; ⟨p, den_ext x _ _ hp⟩
theorem keepD_runs {P : Program} {f : HP} {w0 : World} {ks : List Nat} {X : Prop} {s : St} {a : Act} {w : World} (r : Rel f w0 s a w) : ∀ {g : List (Nat × Got)}, GOk s.nm g → keepD P f ks X g s →
    X ∧ ∀ j m, (j, m) ∈ g → j ∈ ks → ∀ c, Means P s.nm m c → LiesC w c
  | [], _, h => ⟨h, fun j m hm => by simp at hm⟩
  | (j, t, p, v) :: g, hg, h => by
    have hg' : GOk s.nm g := fun e he => hg e (List.mem_cons_of_mem _ he)
    unfold keepD at h
    cases e : memB j ks with
    | false =>
      rw [e] at h
      obtain ⟨hX, hall⟩ := keepD_runs r hg' h
      refine ⟨hX, fun j' m hm hk c hc => ?_⟩
      rcases List.mem_cons.1 hm with hm | hm
      · simp only [Prod.mk.injEq] at hm
        obtain ⟨rfl, _⟩ := hm
        rw [memB_mem.2 hk] at e; cases e
      · exact hall j' m hm hk c hc
    | true =>
      rw [e] at h
      simp only [cond_true] at h
      obtain ⟨pv, hp⟩ := hg _ (by simp : (j, t, p, v) ∈ (j, t, p, v) :: g)
      simp only at hp
      obtain ⟨sv, u, b, o, cs, ⟨hn, h⟩, hd, hx, hl, hr, hcf⟩ := loadD_runs h r hp
      obtain ⟨hX, hall⟩ := keepD_runs r hg' h
      refine ⟨hX, fun j' m hm hk c hc => ?_⟩
      rcases List.mem_cons.1 hm with hm | hm
      · simp only [Prod.mk.injEq] at hm
        obtain ⟨rfl, rfl⟩ := hm
        obtain ⟨v', h1, h2, h3⟩ := hc
        simp only at h1 h2 h3
        rw [hp, hx] at h1
        simp only [Option.some.injEq, Value.pointer.injEq, Addr.mk.injEq, and_true] at h1
        obtain ⟨rfl, rfl⟩ := h1
        rw [hd, h2] at hn
        simp only [Option.some.injEq] at hn
        subst hn
        obtain ⟨c1, c2, c3⟩ := c
        simp only at h3 hl ⊢
        subst h3
        rw [hcf] at hl
        exact hl
      · exact hall j' m hm hk c hc

theorem loud_any {ro : Option Nat} {P : Program} {f : HP} {w0 : World} {ops : Array Oper} {kl : Keeps} {i : Nat} {g : List (Nat × Got)} {c : List (Nat × Cells)} {s : St} {a : Act} {w : World} {next : St → Prop} {N : Act → World → Prop}
    (hmild : mildAt ops kl i = false) (h : loudD P f ops kl i g s next) (hg : GOk s.nm g) (hm : GMeans P s.nm g c) (r : Rel f w0 s a w)
    (hN : ∀ s' a' w', next s' → GOk s'.nm g → GMeans P s'.nm g c → Rel f w0 s' a' w' → N a' w') : opG ro P ops (kpOf ops kl) c i N a w := by
  unfold loudD at h
  split at h <;> try exact h.elim
  rename_i o ho
  have hgr := guardD_runs (ro := ro) (Q := noExit) h r
  have step : ∀ a' w', After f w0 (Nm s fun s' => keepD P f (keepsOf kl i) (next s') g s') a' w' →
      (∀ e ∈ c, kpOf ops kl i e.1 = true → LiesC w e.2 → LiesC w' e.2) ∧ N a' w' := by
    rintro a' w' ⟨s', ⟨h', hx⟩, r'⟩
    obtain ⟨h', hall⟩ := keepD_runs r' (hg.ext hx) h'
    refine ⟨fun e he hk _ => ?_, hN s' a' w' h' (hg.ext hx) (hm.ext hx) r'⟩
    obtain ⟨m, h1, h2⟩ := hm e he
    simp only [kpOf, hmild, Bool.false_or] at hk
    exact hall e.1 m h1 (memB_mem.1 hk) e.2 (h2.ext hx)
  unfold opG
  rw [ho]
  simp only
  split
  · rename_i hw; rw [if_pos hw] at hgr; exact wp_weak hgr step
  · rename_i hw; rw [if_neg hw] at hgr; exact (step _ _ hgr).2

theorem plan_any {ro : Option Nat} {P : Program} {f : HP} {w0 : World} {ops : Array Oper} {kl : Keeps} {K : St → Prop} (hsel : ∀ (j : Nat) (o : Oper) c b, ops[j]? = some o → o.op ≠ .select c b) :
    ∀ (p : Plan) (listed : Array Bool) (g : List (Nat × Got)) (c : List (Nat × Cells)) (s : St) (a : Act) (w : World),
      chkP ops kl (kpOf ops kl) p listed = true → planD P f ops kl p g s K → GOk s.nm g → GMeans P s.nm g c → Rel f w0 s a w → anyG ro P ops (kpOf ops kl) (After f w0 K) c p.len listed a w
  | .nil, listed, g, c, s, a, w, hc, h, _, _, r => ⟨by simpa [chkP] using hc, s, h, r⟩
  | .two i p j q, listed, g, c, s, a, w, hc, h, hg, hm, r => by
    simp only [chkP, Bool.and_eq_true, Bool.not_eq_true'] at hc
    obtain ⟨⟨⟨⟨⟨hi, hj⟩, hready⟩, hlen⟩, hp⟩, hq⟩ := hc
    have hready : Region.ready .any ops listed = [i, j] := by simpa using hready
    have hlen := Nat.eq_of_beq_eq_true hlen
    obtain ⟨h1, h2⟩ := h
    refine ⟨fun e => (by rw [hready] at e; cases e), fun k hk => ?_⟩
    rw [hready] at hk
    simp only [List.mem_cons, List.not_mem_nil, or_false] at hk
    rcases hk with rfl | rfl
    · exact loud_any hi h1 hg hm r fun s' a' w' h' hg' hm' r' => plan_any hsel p _ g c s' a' w' hp h' hg' hm' r'
    · have : (Plan.two i p k q).len - 1 = q.len := by simp [Plan.len, hlen]
      exact loud_any hj h2 hg hm r fun s' a' w' h' hg' hm' r' => by
        have := plan_any (ro := ro) hsel q _ g c s' a' w' hq h' hg' hm' r'
        rw [← hlen] at this
        exact this
  | .three i p j q l u, listed, g, c, s, a, w, hc, h, hg, hm, r => by
    simp only [chkP, Bool.and_eq_true, Bool.not_eq_true'] at hc
    obtain ⟨⟨⟨⟨⟨⟨⟨⟨hi, hj⟩, hl⟩, hready⟩, hlen⟩, hlen2⟩, hp⟩, hq⟩, hu⟩ := hc
    have hready : Region.ready .any ops listed = [i, j, l] := by simpa using hready
    have hlen := Nat.eq_of_beq_eq_true hlen
    have hlen2 := Nat.eq_of_beq_eq_true hlen2
    obtain ⟨h1, h2, h3⟩ := h
    refine ⟨fun e => (by rw [hready] at e; cases e), fun k hk => ?_⟩
    rw [hready] at hk
    simp only [List.mem_cons, List.not_mem_nil, or_false] at hk
    rcases hk with rfl | rfl | rfl
    · exact loud_any hi h1 hg hm r fun s' a' w' h' hg' hm' r' => plan_any hsel p _ g c s' a' w' hp h' hg' hm' r'
    · exact loud_any hj h2 hg hm r fun s' a' w' h' hg' hm' r' => by
        have := plan_any (ro := ro) hsel q _ g c s' a' w' hq h' hg' hm' r'
        rw [← hlen] at this
        exact this
    · exact loud_any hl h3 hg hm r fun s' a' w' h' hg' hm' r' => by
        have := plan_any (ro := ro) hsel u _ g c s' a' w' hu h' hg' hm' r'
        rw [← hlen2] at this
        exact this
  | .one i p, listed, g, c, s, a, w, hc, h, hg, hm, r => by
    simp only [chkP, Bool.and_eq_true, decide_eq_true_eq] at hc
    obtain ⟨⟨⟨hr, hil⟩, hkind⟩, hc'⟩ := hc
    have hr : i ∈ Region.ready .any ops listed := by simpa using hr
    obtain ⟨hun, o, ho, _⟩ := mem_ready.1 hr
    have hio : i < ops.size := (Array.getElem?_eq_some_iff.1 ho).1
    unfold planD at h
    rw [ho] at h
    simp only at h
    cases hmild : (mildB o.op && !loudK kl i) with
    | true =>
      rw [hmild] at h
      simp only [cond_true] at h
      rw [if_pos (by simp [mildAt, ho, hmild])] at hkind
      obtain ⟨v, cs, m, s', hy, hl, h, r', hn, hmean⟩ := guardM_runs h r
      have hB := blocked_ok (ops := ops) (listed := listed) (i := i) hio ⟨hil, hun⟩
      have hgo : GOk s'.nm (addG i m g) := by
        rw [hn]
        cases m with
        | none => exact hg
        | some m =>
          obtain ⟨_, _, v', hv', _⟩ := hmean
          intro e he
          rcases List.mem_cons.1 he with rfl | he
          · exact ⟨_, hv'⟩
          · exact hg e he
      have hgm : GMeans P s'.nm (addG i m g) (cs.map (fun c => (i, c)) ++ c) := by
        rw [hn]
        intro e he
        rcases List.mem_append.1 he with he | he
        · cases m with
          | none => simp only [MeansO] at hmean; subst hmean; simp at he
          | some m =>
            obtain ⟨c', rfl, hc'⟩ := hmean
            simp at he; subst he
            exact ⟨m, by simp [addG], hc'⟩
        · obtain ⟨m', h1, h2⟩ := hm e he
          refine ⟨m', ?_, h2⟩
          cases m with
          | none => exact h1
          | some m => exact List.mem_cons_of_mem _ h1
      have H := plan_any (ro := ro) hsel p (listed.setIfInBounds i true) _ _ s' _ w hc' h hgo hgm r'
      refine anyG_first ho hsel p.len c listed a w ?_ hB hr hy hl H
      intro j oj hoj hBj hjun
      unfold freeB at hkind
      simp only [ho] at hkind
      have hjo : j < ops.size := (Array.getElem?_eq_some_iff.1 hoj).1
      have := List.all_eq_true.1 hkind j (by simpa using hjo)
      simp only [hBj, hjun, hoj, Bool.false_or, Option.map_some, Option.getD_some, Bool.and_eq_true] at this
      exact this
    | false =>
      rw [hmild] at h
      simp only [cond_false] at h
      rw [if_neg (by simp [mildAt, ho, hmild])] at hkind
      have hready : Region.ready .any ops listed = [i] := by simpa using hkind
      refine ⟨fun e => (by rw [hready] at e; cases e), fun j hj => ?_⟩
      rw [hready] at hj
      simp only [List.mem_singleton] at hj
      subst hj
      exact loud_any (by simp [mildAt, ho, hmild]) h hg hm r fun s' a' w' h' hg' hm' r' => plan_any hsel p _ g c s' a' w' hc' h' hg' hm' r'

/-- A region that draws its order: a plan, that it is one, and the plan's walk. -/
inductive DrawOb (P : Program) (f : HP) (ops : Array Oper) (s : St) (K : St → Prop) : Prop
  | mk (kl : Keeps) (p : Plan) (hc : chk P ops kl p = true) (h : planD P f ops kl p [] s K)
  /-- All orders come together behind it. -/
  | join (kl : Keeps) (p : Plan) (hc : chk P ops kl p = true) (ι : Type) (S : ι → St) (h : planD P f ops kl p [] s fun s' => ∃ j, Le s' (S j)) (rest : ∀ j, K (S j))
theorem draw_runs {ro : Option Nat} {P : Program} {f : HP} {w0 : World} {ops : Array Oper} {s : St} {a : Act} {w : World} {K : St → Prop} {Q : Exit → Act → World → Prop} {id : Nat} (h : DrawOb P f ops s K) (r : Rel f w0 s a w) (k : ∀ a w, After f w0 K a w → Q .normal a w) :
    (Code.region id ops true).wpIn (Fc ro) 0 P Q a w := by
  have key : ∀ (kl : Keeps) (p : Plan) (K' : St → Prop), chk P ops kl p = true → planD P f ops kl p [] s K' → (∀ a w, After f w0 K' a w → Q .normal a w) → (Code.region id ops true).wpIn (Fc ro) 0 P Q a w := by
    intro kl p K' hc h k
    simp only [chk, Bool.and_eq_true] at hc
    obtain ⟨⟨⟨hm, hsel⟩, hlen⟩, hc⟩ := hc
    have r' : Rel f w0 s a { w with drawn := w.drawn + 1 } := ⟨r.defers.str ⟨rfl, rfl, rfl, fun _ _ h _ => h, Nat.le_refl _, Nat.le_succ _⟩, r.size, r.env, r.heap.heap rfl, r.str.trans ⟨rfl, rfl, rfl, fun _ _ h _ => h, Nat.le_refl _, Nat.le_succ _⟩⟩
    have H := plan_any (ro := ro) (kl := kl) (Region.noSelect_spec hsel) p _ [] [] s a _ hc h (fun e he => by simp at he) (fun e he => by simp at he) r'
    have := anyG_any (Q' := Q) k _ _ _ _ _ H
    rw [Nat.eq_of_beq_eq_true hlen] at this
    exact wpIn_region_any hm this
  cases h with
  | mk kl p hc h => exact key kl p K hc h k
  | join kl p hc ι S h rest => exact key kl p _ hc h (fun a w ⟨s', ⟨j, hj⟩, r'⟩ => k a w ⟨S j, rest j, r'.le hj⟩)
end Sx
