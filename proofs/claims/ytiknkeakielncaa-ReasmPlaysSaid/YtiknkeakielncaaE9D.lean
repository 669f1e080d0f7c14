/- Maps whose keys are whole numbers, or structs of whole numbers: look-ups, updates, deletions. Conditions: none. -/
import Derived.Test.YtiknkeakielncaaE9C
namespace Sx
open Go

def updL (key : List Int) (v : Value) : List (List Int × Value) → List (List Int × Value)
  | [] => [(key, v)]
  | (a, u) :: r => if key = a then (key, v) :: r else (a, u) :: updL key v r
def delL (key : List Int) : List (List Int × Value) → List (List Int × Value)
  | [] => []
  | (a, u) :: r => if key = a then r else (a, u) :: delL key r
def idxL (key : List Int) : List (List Int × Value) → Nat → Option (Nat × Value)
  | [], _ => none
  | (a, u) :: r, i => if key = a then some (i, u) else idxL key r (i + 1)
def findL (key : List Int) : List (List Int × Value) → Option Value
  | [] => none
  | (a, u) :: r => if key = a then some u else findL key r
theorem idxL_find (key : List Int) : ∀ (l : List (List Int × Value)) (i : Nat), (idxL key l i).map (·.2) = findL key l
  | [], _ => rfl
  | (a, u) :: r, i => by
    unfold idxL findL
    split
    · rfl
    · exact idxL_find key r (i + 1)

/-- The keys of a map's type. -/
structure MapLaw (P : Program) (t : TypeId) (ks : KS) : Prop where
  ex : ∃ kt et, P.underlying t = some (.map kt et) ∧ (∀ k, ks.ok k → ∀ e w, (Instr.checkKey e 10000 kt (ks.val k)).run P w = .ok () w) ∧
    (∀ k, ks.ok k → Instr.sameBits 10000 (ks.val k) (ks.val k) = true) ∧
    ∀ k, ks.ok k → ∀ (l : List (List Int × Value)) (es : List MapEntry) w, (∀ p ∈ l, ks.ok p.1) → es.map (fun e => (e.key, e.val)) = l.map (fun p => (ks.val p.1, p.2)) →
      (Instr.findKey kt (ks.val k) es).run P w = .ok (idxL k l 0) w
theorem findNow_one {q : IntKind} {n : Int} : ∀ (l : List (List Int × Value)) (es : List MapEntry) (i : Nat), (∀ p ∈ l, (KS.one q).ok p.1) → es.map (fun e => (e.key, e.val)) = l.map (fun p => ((KS.one q).val p.1, p.2)) →
    Instr.findNow (.int q) (.int q n) es i = some (idxL [n] l i)
  | [], es, i, _, h => by
    have : es = [] := by simpa using h
    subst this; rfl
  | (a, u) :: l, [], i, _, h => by simp at h
  | (a, u) :: l, e :: es, i, hk, h => by
    simp only [List.map_cons, List.cons.injEq, Prod.mk.injEq] at h
    obtain ⟨⟨h1, h2⟩, h3⟩ := h
    obtain ⟨m, rfl⟩ := hk (a, u) (by simp)
    unfold Instr.findNow idxL
    rw [h1]
    simp only [KS.val, List.headD_cons, Instr.sameNow, if_true]
    by_cases hnm : n = m
    · subst hnm; simp [h2]
    · have : (n == m) = false := by simpa using hnm
      simp only [this]
      rw [if_neg (by simpa using hnm)]
      exact findNow_one l es (i + 1) (fun p hp => hk p (List.mem_cons_of_mem _ hp)) h3
theorem checkKey_int {P : Program} {kt : TypeId} {q k : IntKind} {m : Int} (hk : P.underlying kt = some (.int q)) (n : Nat) (e : Bool) (w : World) : (Instr.checkKey e (n + 1) kt (.int k m)).run P w = .ok () w := by
  unfold Instr.checkKey
  simp only [Sem.run_bind, underlying_run hk, Result.andThen_ok, Sem.run_pure]
theorem sameBits_int (n : Nat) (q : IntKind) (m : Int) : Instr.sameBits n (.int q m) (.int q m) = true := by
  cases n <;> simp [Instr.sameBits]
theorem MapLaw.one {P : Program} {t kt et : TypeId} {q : IntKind} (hm : P.underlying t = some (.map kt et)) (hk : P.underlying kt = some (.int q)) : MapLaw P t (.one q) := by
  refine ⟨kt, et, hm, ?_, ?_, ?_⟩
  · rintro k ⟨n, rfl⟩ e w
    exact checkKey_int hk 9999 e w
  · rintro k ⟨n, rfl⟩
    exact sameBits_int _ _ _
  · rintro k ⟨n, rfl⟩ l es w hl he
    unfold Instr.findKey
    simp only [Sem.run_bind, underlying_run hk, Result.andThen_ok, KS.val, List.headD_cons]
    rw [findNow_one l es 0 hl he]
    simp
/-- .. of structs of whole numbers. -/
theorem findAsking_many {P : Program} {kt : TypeId} {qs : List IntKind} {k : List Int} (heq : ∀ k k', (KS.many qs).ok k → (KS.many qs).ok k' → ∀ w, (Op.equal kt ((KS.many qs).val k) ((KS.many qs).val k')).run P w = .ok (decide (k = k')) w) (hk : (KS.many qs).ok k) (w : World) :
    ∀ (l : List (List Int × Value)) (es : List MapEntry) (i : Nat), (∀ p ∈ l, (KS.many qs).ok p.1) → es.map (fun e => (e.key, e.val)) = l.map (fun p => ((KS.many qs).val p.1, p.2)) →
    (Instr.findAsking kt ((KS.many qs).val k) es i).run P w = .ok (idxL k l i) w
  | [], es, i, _, h => by
    have : es = [] := by simpa using h
    subst this; rfl
  | (a, u) :: l, [], i, _, h => by simp at h
  | (a, u) :: l, e :: es, i, hl, h => by
    simp only [List.map_cons, List.cons.injEq, Prod.mk.injEq] at h
    obtain ⟨⟨h1, h2⟩, h3⟩ := h
    unfold Instr.findAsking idxL
    simp only [Sem.run_bind, h1, heq k a hk (hl (a, u) (by simp)) w, Result.andThen_ok]
    by_cases e : k = a
    · subst e; simp [h2]
    · simp only [e, decide_false, Bool.false_eq_true, if_false]
      exact findAsking_many heq hk w l es (i + 1) (fun p hp => hl p (List.mem_cons_of_mem _ hp)) h3
theorem MapLaw.many {P : Program} {t kt et : TypeId} {qs : List IntKind} {fs : Array Field} (hm : P.underlying t = some (.map kt et)) (hk : P.underlying kt = some (.struct fs))
    (hc : ∀ k, (KS.many qs).ok k → ∀ e w, (Instr.checkKey e 10000 kt ((KS.many qs).val k)).run P w = .ok () w)
    (heq : ∀ k k', (KS.many qs).ok k → (KS.many qs).ok k' → ∀ w, (Op.equal kt ((KS.many qs).val k) ((KS.many qs).val k')).run P w = .ok (decide (k = k')) w) : MapLaw P t (.many qs) := by
  refine ⟨kt, et, hm, hc, fun k _ => ?_, fun k hk' l es w hl he => ?_⟩
  · have key : ∀ (qs : List IntKind) (k : List Int), ((zipK qs k).zip (zipK qs k)).all (fun (x, y) => Instr.sameBits 9999 x y) = true := by
      intro qs
      induction qs with
      | nil => intro k; rfl
      | cons q qs ih =>
        intro k
        cases k with
        | nil => rfl
        | cons n ns =>
          simp only [zipK, List.zip_cons_cons, List.all_cons, Bool.and_eq_true]
          exact ⟨sameBits_int _ _ _, ih ns⟩
    have : ∀ n a, Instr.sameBits (n + 1) (.agg a) (.agg a) = (a.toList.zip a.toList).all fun (x, y) => Instr.sameBits n x y := fun n a => by simp [Instr.sameBits]
    have := this 9999 (zipK qs k).toArray
    rw [show (10000 : Nat) = 9999 + 1 from rfl]
    show Instr.sameBits (9999 + 1) (.agg _) (.agg _) = true
    rw [this]
    exact key qs k
  · unfold Instr.findKey
    simp only [Sem.run_bind, underlying_run hk, Result.andThen_ok]
    cases es with
    | nil =>
      have : l = [] := by
        cases l with
        | nil => rfl
        | cons => simp at he
      subst this
      simp [Instr.findNow, idxL]
    | cons e es =>
      have : Instr.findNow (.struct fs) ((KS.many qs).val k) (e :: es) 0 = none := by
        simp [Instr.findNow, Instr.sameNow]
      rw [this]
      exact findAsking_many heq hk' w l (e :: es) 0 hl he

/-! ### A key, from its symbol -/
def intsS : List IntKind → List SV → Option (List Int)
  | [], [] => some []
  | q :: qs, .int q' n :: l => bif kEq q q' then (match intsS qs l with
    | some r => some (n :: r)
    | none => none) else none
  | _, _ => none
def keyS : KS → SV → Option (List Int)
  | .one q, .int q' n => bif kEq q q' then some [n] else none
  | .many qs, .agg l => intsS qs l
  | _, _ => none
theorem intsS_den {nm : List (Nat × Plc)} : ∀ {qs : List IntKind} {l : List SV} {k : List Int}, intsS qs l = some k → denL nm l = some (zipK qs k) ∧ k.length = qs.length
  | [], [], k, h => by simp [intsS] at h; subst h; exact ⟨rfl, rfl⟩
  | q :: qs, .int q' n :: l, k, h => by
    unfold intsS at h
    cases e : kEq q q' with
    | false => rw [e] at h; cases h
    | true =>
      rw [e] at h
      obtain rfl := kEq_eq e
      simp only [cond_true] at h
      split at h <;> try (cases h; done)
      rename_i r hr
      simp only [Option.some.injEq] at h; subst h
      obtain ⟨h1, h2⟩ := intsS_den (nm := nm) hr
      exact ⟨by simp only [denL, den, h1, consO, zipK], by simp [h2]⟩
  | [], _ :: _, k, h => by simp [intsS] at h
  | q :: qs, [], k, h => by simp [intsS] at h
  | q :: qs, .tt :: l, k, h | q :: qs, .ff :: l, k, h | q :: qs, .bool _ :: l, k, h | q :: qs, .str _ :: l, k, h | q :: qs, .nilp :: l, k, h | q :: qs, .ptr _ _ :: l, k, h | q :: qs, .sl _ _ _ _ :: l, k, h | q :: qs, .nils :: l, k, h
  | q :: qs, .nilm :: l, k, h | q :: qs, .map _ :: l, k, h | q :: qs, .nilf :: l, k, h | q :: qs, .fn _ _ _ :: l, k, h | q :: qs, .nili :: l, k, h | q :: qs, .ifc _ _ :: l, k, h | q :: qs, .agg _ :: l, k, h | q :: qs, .tuple _ :: l, k, h | q :: qs, .raw _ :: l, k, h => by simp [intsS] at h
theorem keyS_den {nm : List (Nat × Plc)} {ks : KS} {x : SV} {k : List Int} {v : Value} (h : keyS ks x = some k) (hx : den nm x = some v) : v = ks.val k ∧ ks.ok k := by
  unfold keyS at h
  split at h <;> try (cases h; done)
  · rename_i q q' n
    cases e : kEq q q' with
    | false => rw [e] at h; cases h
    | true =>
      rw [e] at h
      obtain rfl := kEq_eq e
      simp only [cond_true, Option.some.injEq] at h; subst h
      simp only [den, Option.some.injEq] at hx; subst hx
      exact ⟨rfl, n, rfl⟩
  · rename_i qs l
    obtain ⟨h1, h2⟩ := intsS_den (nm := nm) h
    simp only [den, h1, mapO, Option.some.injEq] at hx
    exact ⟨hx.symm, h2⟩
/-- The law of a map's keys: known, or owed. -/
def mapLawD (P : Program) (t : TypeId) (ks : KS) (X : Prop) : Prop :=
  match ks with
  | .one q => match P.underlying t with
    | some (.map kt _) => match P.underlying kt with
      | some (.int q') => bif kEq q q' then X else False
      | _ => False
    | _ => False
  | .many _ => Need (MapLaw P t ks) X
theorem mapLawD_some {P : Program} {t : TypeId} {ks : KS} {X : Prop} (h : mapLawD P t ks X) : MapLaw P t ks ∧ X := by
  unfold mapLawD at h
  split at h
  · split at h <;> try exact h.elim
    rename_i hm
    split at h <;> try exact h.elim
    rename_i hk
    obtain ⟨e, h'⟩ := cond_some h
    obtain rfl := kEq_eq e
    exact ⟨.one hm hk, h'⟩
  · exact ⟨h.1, h.2⟩
/-- What a look-up finds. -/
inductive LkOb (nm : List (Nat × Plc)) (r : Option Value) (K0 : SV → Prop) (K1 : Prop) : Prop
  | hit (v : Value) (sv : SV) (h : r = some v) (hd : den nm sv = some v) (k : K0 sv)
  | miss (h : r = none) (k : K1)
/-- What a look-up of a key gives. -/
def lookK (P : Program) (nm : List (Nat × Plc)) (t : TypeId) (ks : KS) (l : List (List Int × Value)) (k : SV) (ok : Bool) (K : SV → Prop) : Prop :=
  match keyS ks k with
  | some key => mapLawD P t ks (match P.underlying t with
    | some (.map _ et) => match P.info? et with
      | some ⟨_, _, _, _, _, _, _, some z, _, _⟩ => match ok with
        | true => LkOb nm (findL key l) (fun v => K (.tuple [v, .tt])) (K (.tuple [ofV z, .ff]))
        | false => LkOb nm (findL key l) K (K (ofV z))
      | _ => False
    | _ => False)
  | none => False
/-- A map by its address, in the frame or among what is told. -/
inductive LkF (f : HP) (s : St) (b : Nat) (K : KS → List (List Int × Value) → Prop) : Prop
  | mk (ks : KS) (l : List (List Int × Value)) (h : ∃ (es : List MapEntry) (clock : Nat), f b = some (.map es.toArray clock) ∧ es.map (fun e => (e.key, e.val)) = l.map (fun p => (ks.val p.1, p.2)) ∧ ∀ p ∈ l, ks.ok p.1) (k : K ks l)
  | told (ks : KS) (l : List (List Int × Value)) (h : ∀ h, sat s.ents h → ∃ (es : List MapEntry) (clock : Nat), h b = some (.map es.toArray clock) ∧ es.map (fun e => (e.key, e.val)) = l.map (fun p => (ks.val p.1, p.2)) ∧ ∀ p ∈ l, ks.ok p.1) (k : K ks l)
def lookupD (P : Program) (f : HP) (s : St) (t : TypeId) (m k : SV) (ok : Bool) (K : SV → Prop) : Prop :=
  match m with
  | .map n => pickD s.hp n fun e _ => match e with
    | .mp _ ks l => lookK P s.nm t ks l k ok K
    | _ => False
  | .raw (.map (some b)) => LkF f s b fun ks l => lookK P s.nm t ks l k ok K
  | _ => False
theorem ent_mp {f : HP} {nm : List (Nat × Plc)} {n : Nat} {ks : KS} {l : List (List Int × Value)} {r : List Asn} {w : World} (h : At f (entDen nm (.mp n ks l) :: r) w) :
    ∃ b es clock, getN nm n = some (.at b 0) ∧ w.heap[b]? = some (.map es clock) ∧ es.toList.map (fun e => (e.key, e.val)) = l.map (fun p => (ks.val p.1, p.2)) ∧ (∀ p ∈ l, ks.ok p.1) ∧ Born es.toList clock ∧ At f (pt b (.map es clock) :: r) w := by
  obtain ⟨x, s, y, z, tt, ⟨b, h1, es, clock, h2, h3, h4, h5⟩, k⟩ := h
  have h' : At f (pt b (.map es.toArray clock) :: r) w := ⟨x, s, y, z, tt, h2, k⟩
  exact ⟨b, _, clock, h1, h'.block, by simpa using h3, h4, by simpa using h5, h'⟩
theorem run_getMap {P : Program} {w : World} {r : Nat} {es : Array MapEntry} {clock : Nat} (hb : w.heap[r]? = some (.map es clock)) : (getObj r).run P w = .ok (.map es clock) w := by simp [getObj, Sem.run, hb]
theorem lookK_runs {P : Program} {nm : List (Nat × Plc)} {w : World} {t : TypeId} {k : SV} {ok : Bool} {vk : Value} {K : SV → Prop} {ks : KS} {l : List (List Int × Value)} {b : Nat} {es : Array MapEntry} {clock : Nat} (h : lookK P nm t ks l k ok K) (hk : den nm k = some vk)
    (g2 : w.heap[b]? = some (.map es clock)) (g3 : es.toList.map (fun e => (e.key, e.val)) = l.map (fun p => (ks.val p.1, p.2))) (g4 : ∀ p ∈ l, ks.ok p.1) :
    ∃ sv v, K sv ∧ den nm sv = some v ∧ (Instr.lookup t (.map (some b)) vk ok).run P w = .ok v w := by
  unfold lookK at h
  split at h <;> try exact h.elim
  rename_i key hkey
  obtain ⟨⟨kt, et, h1, h2, h3, h4⟩, h⟩ := mapLawD_some h
  obtain ⟨rfl, hok⟩ := keyS_den hkey hk
  rw [h1] at h
  simp only at h
  split at h <;> try exact h.elim
  rename_i n1 n2 n3 n4 n5 n6 n7 z n8 n9 hi
  have hz : ∀ w, (zeroValue et).run P w = .ok z w := fun w => by simp [zeroValue, typeInfo, hi]
  have look : ∀ x, idxL key l 0 = x → (Instr.lookup t (.map (some b)) (ks.val key) ok).run P w = match x with
      | some (_, v) => .ok (if ok then .tuple #[v, .bool true] else v) w
      | none => .ok (if ok then .tuple #[z, .bool false] else z) w := by
    intro x hx
    unfold Instr.lookup
    simp only [Sem.run_bind, underlying_run h1, Result.andThen_ok, run_getMap g2, Sem.run_pure, h2 key hok, h4 key hok l es.toList w g4 g3, hx]
    cases x with
    | none => simp only [Sem.run_bind, hz, Result.andThen_ok, Sem.run_pure]
    | some p => obtain ⟨i, v⟩ := p; simp only [Sem.run_bind, Sem.run_pure, Result.andThen_ok]
  have hidx := idxL_find key l 0
  have fin : ∀ {K0 : SV → Prop} {K1 : Prop}, LkOb nm (findL key l) K0 K1 →
      (∃ sv v, K0 sv ∧ den nm sv = some v ∧ (Instr.lookup t (.map (some b)) (ks.val key) ok).run P w = .ok (if ok then .tuple #[v, .bool true] else v) w) ∨
      (K1 ∧ (Instr.lookup t (.map (some b)) (ks.val key) ok).run P w = .ok (if ok then .tuple #[z, .bool false] else z) w) := by
    intro K0 K1 h
    cases h with
    | hit v sv hr hd k =>
      rw [hr] at hidx
      cases hx : idxL key l 0 with
      | none => rw [hx] at hidx; cases hidx
      | some p =>
        obtain ⟨i, u⟩ := p
        rw [hx] at hidx
        simp only [Option.map_some, Option.some.injEq] at hidx
        subst hidx
        exact .inl ⟨sv, u, k, hd, look _ hx⟩
    | miss hr k =>
      rw [hr] at hidx
      cases hx : idxL key l 0 with
      | none => exact .inr ⟨k, look _ hx⟩
      | some p => rw [hx] at hidx; cases hidx
  cases ok with
  | true =>
    rcases fin h with ⟨sv, v, k, hd, hr⟩ | ⟨k, hr⟩
    · exact ⟨_, _, k, by simp only [den, denL, hd, consO, mapO]; rfl, hr⟩
    · exact ⟨_, _, k, by simp only [den, denL, den_ofV, consO, mapO]; rfl, hr⟩
  | false =>
    rcases fin h with ⟨sv, v, k, hd, hr⟩ | ⟨k, hr⟩
    · exact ⟨_, _, k, hd, hr⟩
    · exact ⟨_, _, k, den_ofV _ _, hr⟩
theorem lookupD_runs {P : Program} {f : HP} {w0 : World} {s : St} {a : Act} {w : World} {t : TypeId} {m k : SV} {ok : Bool} {vm vk : Value} {K : SV → Prop} (h : lookupD P f s t m k ok K) (r : Rel f w0 s a w) (hm : den s.nm m = some vm) (hk : den s.nm k = some vk) :
    ∃ sv v, K sv ∧ den s.nm sv = some v ∧ (Instr.lookup t vm vk ok).run P w = .ok v w := by
  unfold lookupD at h
  split at h <;> try exact h.elim
  · rename_i n
    obtain ⟨e, rest, hh, pm, hn⟩ := pickD_some h
    clear h
    split at hh <;> try exact hh.elim
    rename_i n' ks l
    simp only [Ent.name, Option.some.injEq] at hn; subst hn
    obtain ⟨b, es, clock, g1, g2, g3, g4, _, _⟩ := ent_mp (r.heap.pick pm)
    simp only [den, g1, Option.some.injEq] at hm; subst hm
    exact lookK_runs hh hk g2 g3 g4
  · rename_i b
    simp only [den, Option.some.injEq] at hm; subst hm
    cases h with
    | mk ks l h k' =>
      obtain ⟨es, clock, e1, e2, e3⟩ := h
      exact lookK_runs k' hk (by obtain ⟨x, s2, _⟩ := id r.heap; exact (hpOf_some.1 (s2.get_right e1)).1) (by simpa using e2) e3
    | told ks l h k' =>
      obtain ⟨x, t2, hx⟩ := id r.heap
      obtain ⟨es, clock, e1, e2, e3⟩ := h x hx
      exact lookK_runs k' hk (hpOf_some.1 (t2.get e1)).1 (by simpa using e2) e3

/-! ### Updates and deletions -/
inductive ValOb (nm : List (Nat × Plc)) (x : SV) (K : Value → Prop) : Prop
  | mk (v : Value) (hd : den nm x = some v) (k : K v)
def mapPutD (P : Program) (s : St) (t : TypeId) (m k x : SV) (K : St → Prop) : Prop :=
  match m with
  | .map n => match s with
    | ⟨n0, env, nm, next, hp⟩ => pickD hp n fun e rest => match e with
      | .mp n1 ks l => match keyS ks k with
        | some key => mapLawD P t ks (ValOb nm x fun v => K ⟨n0, env, nm, next, .mp n1 ks (updL key v l) :: rest⟩)
        | none => False
      | _ => False
  | _ => False
def mapDelD (P : Program) (s : St) (t : TypeId) (m k : SV) (K : St → Prop) : Prop :=
  match m with
  | .map n => match s with
    | ⟨n0, env, nm, next, hp⟩ => pickD hp n fun e rest => match e with
      | .mp n1 ks l => match keyS ks k with
        | some key => mapLawD P t ks (K ⟨n0, env, nm, next, .mp n1 ks (delL key l) :: rest⟩)
        | none => False
      | _ => False
  | _ => False
theorem turned_set {w : World} {b : Nat} {o o' : Obj} (h : w.heap[b]? = some o) (ho : hid o = false) (ho' : hid o' = false) :
    Turned w { w with heap := w.heap.setIfInBounds b o' } b o' := by
  have hb : b < w.heap.size := (Array.getElem?_eq_some_iff.1 h).1
  have hr : ∀ r, r ≠ b → (w.heap.setIfInBounds b o')[r]? = w.heap[r]? := fun r hr => by
    rw [Array.getElem?_setIfInBounds_ne (fun e => hr e.symm)]
  refine ⟨?_, hr, ho', .one rfl rfl rfl h ho (by simp) hr (Nat.le_refl _)⟩
  simp [hb]
theorem run_setMap {P : Program} {w : World} {b : Nat} {es : Array MapEntry} {clock : Nat} (o' : Obj) (h : w.heap[b]? = some (.map es clock)) : (setObj b o').run P w = .ok () { w with heap := w.heap.setIfInBounds b o' } := by
  simp [setObj, Sem.run, h]
theorem upd_es {ks : KS} {key : List Int} {v : Value} : ∀ (l : List (List Int × Value)) (es : List MapEntry) (j : Nat), es.map (fun e => (e.key, e.val)) = l.map (fun p => (ks.val p.1, p.2)) →
    match idxL key l j with
    | some (i, _) => j ≤ i ∧ (es.modify (i - j) fun e => { e with key := ks.val key, val := v }).map (fun e => (e.key, e.val)) = (updL key v l).map (fun p => (ks.val p.1, p.2)) ∧ ∃ e, es[i - j]? = some e ∧ e.key = ks.val key
    | none => ∀ c : Nat, (es ++ [(⟨ks.val key, v, c⟩ : MapEntry)]).map (fun e => (e.key, e.val)) = (updL key v l).map (fun p => (ks.val p.1, p.2))
  | [], es, j, h => by
    have : es = [] := by simpa using h
    subst this
    intro c; rfl
  | (a, u) :: l, [], j, h => by simp at h
  | (a, u) :: l, e :: es, j, h => by
    simp only [List.map_cons, List.cons.injEq, Prod.mk.injEq] at h
    obtain ⟨⟨h1, h2⟩, h3⟩ := h
    unfold idxL updL
    by_cases hka : key = a
    · rw [if_pos hka, if_pos hka]
      subst hka
      exact ⟨Nat.le_refl _, by simp [h3], e, by simp, h1⟩
    · rw [if_neg hka, if_neg hka]
      have ih := upd_es (ks := ks) (key := key) (v := v) l es (j + 1) h3
      split
      · rename_i i x hx
        rw [hx] at ih
        obtain ⟨i1, i2, e', i3, i4⟩ := ih
        have hij : i - j = (i - (j + 1)) + 1 := by omega
        refine ⟨by omega, ?_, e', ?_, i4⟩
        · rw [hij]
          simp only [List.modify_succ_cons, List.map_cons, i2, h1, h2]
        · rw [hij]; simpa using i3
      · rename_i hx
        rw [hx] at ih
        intro c
        simp only [List.cons_append, List.map_cons, ih c, h1, h2]
theorem del_es {ks : KS} {key : List Int} : ∀ (l : List (List Int × Value)) (es : List MapEntry) (j : Nat), es.map (fun e => (e.key, e.val)) = l.map (fun p => (ks.val p.1, p.2)) →
    match idxL key l j with
    | some (i, _) => j ≤ i ∧ i - j < es.length ∧ (es.eraseIdx (i - j)).map (fun e => (e.key, e.val)) = (delL key l).map (fun p => (ks.val p.1, p.2))
    | none => delL key l = l
  | [], es, j, h => rfl
  | (a, u) :: l, [], j, h => by simp at h
  | (a, u) :: l, e :: es, j, h => by
    simp only [List.map_cons, List.cons.injEq, Prod.mk.injEq] at h
    obtain ⟨⟨h1, h2⟩, h3⟩ := h
    unfold idxL delL
    by_cases hka : key = a
    · rw [if_pos hka, if_pos hka]
      exact ⟨Nat.le_refl _, by simp, by simp [h3]⟩
    · rw [if_neg hka, if_neg hka]
      have ih := del_es (ks := ks) (key := key) l es (j + 1) h3
      split
      · rename_i i x hx
        rw [hx] at ih
        obtain ⟨i1, i2, i3⟩ := ih
        have hij : i - j = (i - (j + 1)) + 1 := by omega
        refine ⟨by omega, by rw [hij]; simp only [List.length_cons]; omega, ?_⟩
        rw [hij]
        simp only [List.eraseIdx_cons_succ, List.map_cons, i3, h1, h2]
      · rename_i hx
        rw [hx] at ih
        rw [ih]
theorem updL_ok {ks : KS} {key : List Int} {v : Value} (hk : ks.ok key) : ∀ {l : List (List Int × Value)}, (∀ p ∈ l, ks.ok p.1) → ∀ p ∈ updL key v l, ks.ok p.1
  | [], _, p, hp => by simp [updL] at hp; subst hp; exact hk
  | (a, u) :: l, h, p, hp => by
    unfold updL at hp
    split at hp
    · rcases List.mem_cons.1 hp with rfl | hp
      · exact hk
      · exact h p (List.mem_cons_of_mem _ hp)
    · rcases List.mem_cons.1 hp with rfl | hp
      · exact h _ (by simp)
      · exact updL_ok hk (fun q hq => h q (List.mem_cons_of_mem _ hq)) p hp
theorem delL_sub {key : List Int} : ∀ {l : List (List Int × Value)}, ∀ p ∈ delL key l, p ∈ l
  | (a, u) :: l, p, hp => by
    unfold delL at hp
    split at hp
    · exact List.mem_cons_of_mem _ hp
    · rcases List.mem_cons.1 hp with rfl | hp
      · simp
      · exact List.mem_cons_of_mem _ (delL_sub p hp)
theorem mapPut_runs {P : Program} {f : HP} {w0 : World} {s : St} {a : Act} {w : World} {t : TypeId} {m k x : SV} {vm vk vx : Value} {K : St → Prop} (h : mapPutD P s t m k x K) (r : Rel f w0 s a w) (hm : den s.nm m = some vm) (hk : den s.nm k = some vk) (hx : den s.nm x = some vx) :
    ∃ s' w', K s' ∧ Rel f w0 s' a w' ∧ (Instr.mapUpdate t vm vk vx).run P w = .ok () w' ∧ s'.nm = s.nm := by
  unfold mapPutD at h
  split at h <;> try exact h.elim
  rename_i n
  obtain ⟨n0, env, nm, next, hp⟩ := s
  simp only at h
  obtain ⟨e, rest, hh, pm, hn⟩ := pickD_some h
  clear h
  have h := hh
  clear hh
  split at h <;> try exact h.elim
  rename_i n' ks l
  simp only [Ent.name, Option.some.injEq] at hn; subst hn
  split at h <;> try exact h.elim
  rename_i key hkey
  obtain ⟨⟨kt, et, h1, h2, hbits, h4⟩, h⟩ := mapLawD_some h
  obtain ⟨v, hd, k'⟩ := h
  simp only at hx hd hm hk
  rw [hx] at hd; simp only [Option.some.injEq] at hd; subst hd
  obtain ⟨rfl, hok⟩ := keyS_den hkey hk
  obtain ⟨b, es, clock, g1, g2, g3, g4, g5, hat⟩ := ent_mp (r.heap.pick pm)
  simp only [den, g1, Option.some.injEq] at hm; subst hm
  have he := upd_es (ks := ks) (key := key) (v := vx) l es.toList 0 g3
  have fin : ∀ (es' : Array MapEntry) (c' : Nat), es'.toList.map (fun e => (e.key, e.val)) = (updL key vx l).map (fun p => (ks.val p.1, p.2)) → Born es'.toList c' →
      (Instr.mapUpdate t (.map (some b)) (ks.val key) vx).run P w = (setObj b (.map es' c')).run P w →
      ∃ s' w', K s' ∧ Rel f w0 s' a w' ∧ (Instr.mapUpdate t (.map (some b)) (ks.val key) vx).run P w = .ok () w' ∧ s'.nm = nm := by
    intro es' c' hes hborn hrun
    have ht := turned_set (o' := .map es' c') g2 rfl rfl
    refine ⟨_, _, k', ⟨r.defers.str ht.str, r.size, r.env, ?_, r.str.trans ht.str⟩, by rw [hrun]; exact run_setMap _ g2, rfl⟩
    exact (hat.turned ht).head fun y hy => ⟨b, g1, es'.toList, c', by simpa using hy, hes, updL_ok hok g4, hborn⟩
  have run : (Instr.mapUpdate t (.map (some b)) (ks.val key) vx).run P w = match idxL key l 0 with
      | some (i, _) => (setObj b (.map (es.modify i fun e => { e with key := ks.val key, val := vx }) clock)).run P w
      | none => (setObj b (.map (es.push { key := ks.val key, val := vx, born := clock }) (clock + 1))).run P w := by
    unfold Instr.mapUpdate
    simp only [Sem.run_bind, underlying_run h1, Result.andThen_ok, run_getMap g2, h2 key hok, h4 key hok l es.toList w g4 g3]
    cases hx' : idxL key l 0 with
    | none => rfl
    | some p =>
      obtain ⟨i, u⟩ := p
      rw [hx'] at he
      obtain ⟨_, _, e', i3, i4⟩ := he
      have : es[i]? = some e' := by simpa using i3
      simp only [this, Option.map_some, Option.getD_some, i4, Instr.keyThatStays, hbits key hok, if_true, Sem.run_bind, Sem.run_pure, Result.andThen_ok]
  cases hx' : idxL key l 0 with
  | none =>
    rw [hx'] at run he
    refine fin _ _ (by simpa using he clock) ?_ run
    refine ⟨?_, fun e he => ?_⟩
    · rw [Array.toList_push, List.map_append, List.nodup_append]
      refine ⟨g5.1, by simp, fun x hx y hy => ?_⟩
      simp only [List.map_cons, List.map_nil, List.mem_singleton] at hy
      subst hy
      obtain ⟨e, he, rfl⟩ := List.mem_map.1 hx
      exact Nat.ne_of_lt (g5.2 e he)
    · rw [Array.toList_push, List.mem_append, List.mem_singleton] at he
      rcases he with he | rfl
      · exact Nat.lt_succ_of_lt (g5.2 e he)
      · exact Nat.lt_succ_self _
  | some p =>
    obtain ⟨i, u⟩ := p
    rw [hx'] at run he
    refine fin _ _ (by simpa using he.2.1) ?_ run
    have hm : (es.modify i fun e => { e with key := ks.val key, val := vx }).toList.map (·.born) = es.toList.map (·.born) := by
      rw [Array.toList_modify]
      refine List.ext_getElem? fun j => ?_
      rw [List.getElem?_map, List.getElem?_modify, List.getElem?_map]
      cases es.toList[j]? with
      | none => rfl
      | some e => simp only [Option.map_some]; split <;> rfl
    refine ⟨by rw [hm]; exact g5.1, fun e he => ?_⟩
    have : e.born ∈ (es.modify i fun e => { e with key := ks.val key, val := vx }).toList.map (·.born) := List.mem_map.2 ⟨e, he, rfl⟩
    rw [hm] at this
    obtain ⟨e', he', e2⟩ := List.mem_map.1 this
    rw [← e2]; exact g5.2 e' he'
theorem mapDel_runs {P : Program} {f : HP} {w0 : World} {s : St} {a : Act} {w : World} {t kt ty : TypeId} {m k : SV} {vm vk : Value} {K : St → Prop} (h : mapDelD P s t m k K) (r : Rel f w0 s a w) (hm : den s.nm m = some vm) (hk : den s.nm k = some vk) :
    ∃ s' w', K s' ∧ Rel f w0 s' a w' ∧ (Builtin.delete_ #[t, kt] ty #[vm, vk]).run P w = .ok (.tuple #[]) w' ∧ s'.nm = s.nm := by
  unfold mapDelD at h
  split at h <;> try exact h.elim
  rename_i n
  obtain ⟨n0, env, nm, next, hp⟩ := s
  simp only at h
  obtain ⟨e, rest, hh, pm, hn⟩ := pickD_some h
  clear h
  have h := hh
  clear hh
  split at h <;> try exact h.elim
  rename_i n' ks l
  simp only [Ent.name, Option.some.injEq] at hn; subst hn
  split at h <;> try exact h.elim
  rename_i key hkey
  obtain ⟨⟨kt', et, h1, h2, hbits, h4⟩, k'⟩ := mapLawD_some h
  simp only at hm hk
  obtain ⟨rfl, hok⟩ := keyS_den hkey hk
  obtain ⟨b, es, clock, g1, g2, g3, g4, g5, hat⟩ := ent_mp (r.heap.pick pm)
  simp only [den, g1, Option.some.injEq] at hm; subst hm
  have he := del_es (ks := ks) (key := key) l es.toList 0 g3
  have fin : ∀ (es' : Array MapEntry), es'.toList.map (fun e => (e.key, e.val)) = (delL key l).map (fun p => (ks.val p.1, p.2)) → Born es'.toList clock →
      (Builtin.delete_ #[t, kt] ty #[.map (some b), ks.val key]).run P w = ((setObj b (.map es' clock)).run P w).andThen (fun _ w' => .ok (.tuple #[]) w') →
      ∃ s' w', K s' ∧ Rel f w0 s' a w' ∧ (Builtin.delete_ #[t, kt] ty #[.map (some b), ks.val key]).run P w = .ok (.tuple #[]) w' ∧ s'.nm = nm := by
    intro es' hes hborn hrun
    have ht := turned_set (o' := .map es' clock) g2 rfl rfl
    refine ⟨_, _, k', ⟨r.defers.str ht.str, r.size, r.env, ?_, r.str.trans ht.str⟩, by rw [hrun, run_setMap _ g2]; rfl, rfl⟩
    exact (hat.turned ht).head fun y hy => ⟨b, g1, es'.toList, clock, by simpa using hy, hes, fun p hp => g4 p (delL_sub p hp), hborn⟩
  have run : (Builtin.delete_ #[t, kt] ty #[.map (some b), ks.val key]).run P w = match idxL key l 0 with
      | some (i, _) => ((setObj b (.map (es.eraseIdxIfInBounds i) clock)).run P w).andThen (fun _ w' => .ok (.tuple #[]) w')
      | none => ((setObj b (.map es clock)).run P w).andThen (fun _ w' => .ok (.tuple #[]) w') := by
    unfold Builtin.delete_
    simp only [List.getElem?_toArray, List.getElem?_cons_zero, List.getElem?_cons_succ, Sem.run_bind, underlying_run h1, Result.andThen_ok, run_getMap g2, h2 key hok, h4 key hok l es.toList w g4 g3]
    cases hx' : idxL key l 0 with
    | none => simp only [Sem.run_bind]; rfl
    | some p => obtain ⟨i, u⟩ := p; simp only [Sem.run_bind]; rfl
  cases hx' : idxL key l 0 with
  | none =>
    rw [hx'] at run he
    simp only at he
    exact fin _ (by rw [he]; exact g3) g5 run
  | some p =>
    obtain ⟨i, u⟩ := p
    rw [hx'] at run he
    obtain ⟨_, i2, i3⟩ := he
    have hi : i < es.size := by simpa using i2
    refine fin _ ?_ ?_ run
    · simp only [Array.eraseIdxIfInBounds, hi, dite_true, Array.toList_eraseIdx]
      simpa using i3
    · simp only [Array.eraseIdxIfInBounds, hi, dite_true, Array.toList_eraseIdx]
      exact ⟨((List.eraseIdx_sublist ..).map _).nodup g5.1, fun e he => g5.2 e (List.mem_of_mem_eraseIdx he)⟩
/-! ### New maps -/
def ksOf (P : Program) (t : TypeId) : Option KS :=
  match P.underlying t with
  | some (.map kt _) => match P.underlying kt with
    | some (.int q) => some (.one q)
    | _ => none
  | _ => none
/-- The kinds of a struct's keys, named by the prover. -/
inductive MkMap (X : KS → Prop) : Prop
  | mk (ks : KS) (k : X ks)
def makeMapD (P : Program) (s : St) (t : TypeId) (K : SV → St → Prop) : Prop :=
  match s with
  | ⟨n, env, nm, next, hp⟩ => match getN nm next with
    | some _ => False
    | none => match ksOf P t with
      | some ks => ∀ b : Nat, K (.map next) ⟨n, env, (next, .at b 0) :: nm, next + 1, .mp next ks [] :: hp⟩
      | none => MkMap fun ks => ∀ b : Nat, K (.map next) ⟨n, env, (next, .at b 0) :: nm, next + 1, .mp next ks [] :: hp⟩
theorem makeMap_runs {P : Program} {f : HP} {w0 : World} {s : St} {a : Act} {w : World} {t : TypeId} {K : SV → St → Prop} (h : makeMapD P s t K) (r : Rel f w0 s a w) :
    ∃ sv v s' w', K sv s' ∧ Rel f w0 s' a w' ∧ den s'.nm sv = some v ∧ (Instr.makeMap t none).run P w = .ok v w' ∧ NmExt s.nm s'.nm := by
  obtain ⟨n, env, nm, next, hp⟩ := s
  unfold makeMapD at h
  simp only at h
  split at h <;> try exact h.elim
  rename_i hn
  have h : ∃ ks : KS, K (.map next) ⟨n, env, (next, .at w.heap.size 0) :: nm, next + 1, .mp next ks [] :: hp⟩ := by
    split at h
    · exact ⟨_, h w.heap.size⟩
    · obtain ⟨ks, h⟩ := h; exact ⟨ks, h w.heap.size⟩
  obtain ⟨ks, h⟩ := h
  have hx := NmExt.push (l := .at w.heap.size 0) hn
  have hg : getN ((next, Plc.at w.heap.size 0) :: nm) next = some (.at w.heap.size 0) := by simp [getN]
  refine ⟨_, .map (some w.heap.size), _, w.alloc (.map #[] 0), h, ⟨r.defers.str (.alloc w _), r.size, r.env.ext hx, ?_, r.str.trans (.alloc w _)⟩, by simp [den, hg], ?_, hx⟩
  · have h1 := (r.heap.ext hx).new (.map #[] 0) rfl
    exact h1.head fun y hy => ⟨w.heap.size, hg, [], 0, hy, rfl, by simp, by simp, by simp⟩
  · simp [Instr.makeMap]
end Sx
