/- The symbolic state: slots, names, blocks; loads, stores, new blocks. Conditions: none. -/
import Derived.Test.YtiknkeakielncaaE7
namespace Sx
open Go

/-- The kind of a map's keys: a whole number; a struct of whole numbers. -/
inductive KS where
  | one (q : IntKind)
  | many (qs : List IntKind)
def KS.ok : KS → List Int → Prop
  | .one _, k => ∃ n, k = [n]
  | .many qs, k => k.length = qs.length
def zipK : List IntKind → List Int → List Value
  | q :: qs, n :: ns => .int q n :: zipK qs ns
  | _, _ => []
def KS.val : KS → List Int → Value
  | .one q, k => .int q (k.headD 0)
  | .many qs, k => .agg (zipK qs k).toArray
/-- No two entries came at once; none is to come. -/
def Born (es : List MapEntry) (clock : Nat) : Prop := (es.map (·.born)).Nodup ∧ ∀ e ∈ es, e.born < clock
/-- A map of these entries. -/
def MapA (b : Nat) (ks : KS) (l : List (List Int × Value)) : Asn := fun h =>
  ∃ (es : List MapEntry) (clock : Nat), pt b (.map es.toArray clock) h ∧ es.map (fun e => (e.key, e.val)) = l.map (fun p => (ks.val p.1, p.2)) ∧ (∀ p ∈ l, ks.ok p.1) ∧ Born es clock
/-- A map that is ranged over, and the iterator: which entries it has handed out. -/
def IterA (b c : Nat) (ks : KS) (l : List (List Int × Value)) (done : List Nat) : Asn := fun h =>
  ∃ (es : List MapEntry) (clock since c0 : Nat) (seen : Array Nat), sep (pt b (.map es.toArray clock)) (pt c (.mapIter (some b) since seen c0)) h ∧ es.map (fun e => (e.key, e.val)) = l.map (fun p => (ks.val p.1, p.2)) ∧ (∀ p ∈ l, ks.ok p.1) ∧ Born es clock ∧
    (∀ e ∈ es, e.born < since) ∧ since ≤ c0 ∧ c0 = clock ∧ (∀ (i : Nat) e, es[i]? = some e → (e.born ∈ seen ↔ i ∈ done)) ∧ ∀ i, done.getLast? = some i → ∃ (e : MapEntry) (s0 : Array Nat), es[i]? = some e ∧ seen = s0.push e.born
inductive Ent where
  | blk (n : Nat) (t : TypeId) (cs : List SV)
  | vec (n : Nat) (t : TypeId) (sz cap : Nat) (xs : List Value)
  | obj (n : Nat) (o : Obj)
  | mp (n : Nat) (ks : KS) (l : List (List Int × Value))
  | it (n m : Nat) (ks : KS) (l : List (List Int × Value)) (done : List Nat)
  | asn (A : Asn)

def Vec (l : Plc) (t : TypeId) (sz cap : Nat) (xs : List Value) : Asn := fun h =>
  (∀ v ∈ xs, v.oneCell' = true) ∧ ((l = .nil ∧ xs = [] ∧ cap = 0) ∨
  ∃ b o pre post, l = .at b o ∧ pt b (.cells (pre ++ xs ++ post).toArray t (0, 0)) h ∧ pre.length = o ∧ cap * sz ≤ xs.length + post.length)
/-- What an entry tells of its part of the heap. -/
def entDen (nm : List (Nat × Plc)) : Ent → Asn
  | .blk n t cs => fun h => ∃ b vs, getN nm n = some (.at b 0) ∧ denL nm cs = some vs ∧ pt b (.cells vs.toArray t (0, 0)) h
  | .vec n t sz cap xs => fun h => ∃ l, getN nm n = some l ∧ Vec l t sz cap xs h
  | .obj n o => fun h => ∃ b, getN nm n = some (.at b 0) ∧ pt b o h
  | .mp n ks l => fun h => ∃ b, getN nm n = some (.at b 0) ∧ MapA b ks l h
  | .it n m ks l done => fun h => ∃ b c, getN nm n = some (.at b 0) ∧ getN nm m = some (.at c 0) ∧ IterA b c ks l done h
  | .asn A => A
theorem entDen_ext {nm nm' : List (Nat × Plc)} (x : NmExt nm nm') (e : Ent) (h : HP) (k : entDen nm e h) : entDen nm' e h := by
  cases e with
  | blk n t cs => obtain ⟨b, vs, h1, h2, h3⟩ := k; exact ⟨b, vs, x _ _ h1, denL_ext x _ _ h2, h3⟩
  | vec n t sz cap xs => obtain ⟨l, h1, h2⟩ := k; exact ⟨l, x _ _ h1, h2⟩
  | obj n o => obtain ⟨b, h1, h2⟩ := k; exact ⟨b, x _ _ h1, h2⟩
  | mp n ks l => obtain ⟨b, h1, h2⟩ := k; exact ⟨b, x _ _ h1, h2⟩
  | it n m ks l done => obtain ⟨b, c, h1, h2, h3⟩ := k; exact ⟨b, c, x _ _ h1, x _ _ h2, h3⟩
  | asn A => exact k
theorem sat_map {α : Type} {F G : α → Asn} (g : ∀ e h, F e h → G e h) : ∀ {l : List α} {h : HP}, sat (l.map F) h → sat (l.map G) h
  | [], _, _ => trivial
  | _ :: _, _, ⟨x, y, t, hx, hy⟩ => ⟨x, y, t, g _ _ hx, sat_map g hy⟩
theorem At.ext {f : HP} {nm nm' : List (Nat × Plc)} {l : List Ent} {w : World} (x : NmExt nm nm') (h : At f (l.map (entDen nm)) w) : At f (l.map (entDen nm')) w :=
  let ⟨y, t, k⟩ := h; ⟨y, t, sat_map (fun e h k => entDen_ext x e h k) k⟩

structure St where
  n : Nat
  env : List (Nat × SV)
  nm : List (Nat × Plc)
  next : Nat
  hp : List Ent
def St.ents (s : St) : List Asn := s.hp.map (entDen s.nm)
/-- A mark of a range over a function, among the calls that are put off. -/
def markOf (b : Nat) : Deferred := { target := .collected b, args := #[] }
/-- What is put off: marks of blocks that hold nothing, laid since 'w0'. -/
def Marks (w0 : World) (D : List Deferred) (w : World) : Prop := ∃ bs : List Nat, D = bs.map markOf ∧ bs.Nodup ∧ ∀ b ∈ bs, w.heap[b]? = some (.deferred (some [])) ∧ w0.heap[b]? = none
theorem Marks.nil (w0 w : World) : Marks w0 [] w := ⟨[], rfl, .nil, by simp⟩
theorem Marks.str {w0 : World} {D : List Deferred} {w w' : World} (h : Marks w0 D w) (s : Str w w') : Marks w0 D w' :=
  let ⟨bs, h1, h2, h3⟩ := h; ⟨bs, h1, h2, fun b hb => ⟨s.dfs b _ (h3 b hb).1 rfl, (h3 b hb).2⟩⟩
structure Rel (f : HP) (w0 : World) (s : St) (a : Act) (w : World) : Prop where
  defers : Marks w0 a.defers w
  size : a.tmps.size = s.n
  env : EnvOK s.nm s.env a
  heap : At f s.ents w
  str : Str w0 w

def putK (s : St) (d : Option Nat) (v : SV) (K : St → Prop) : Prop :=
  match d, s with
  | none, s => K s
  | some d, ⟨n, env, nm, next, hp⟩ => bif Nat.blt d n then K ⟨n, (d, v) :: env, nm, next, hp⟩ else False
theorem size_put (a : Act) (d : Option Nat) (v : Value) : (a.put d v).tmps.size = a.tmps.size := by cases d <;> simp [Act.put]
theorem defers_put (a : Act) (d : Option Nat) (v : Value) : (a.put d v).defers = a.defers := by cases d <;> rfl
theorem Rel.put {f : HP} {w0 : World} {s : St} {a : Act} {w : World} {d : Option Nat} {sv : SV} {v : Value} {K : St → Prop} (r : Rel f w0 s a w) (h : putK s d sv K) (e : den s.nm sv = some v) :
    ∃ s', K s' ∧ Rel f w0 s' (a.put d v) w ∧ s'.nm = s.nm := by
  cases d with
  | none => exact ⟨s, h, r, rfl⟩
  | some d =>
    obtain ⟨hd, h⟩ := cond_some h
    have hd : d < s.n := by unfold Nat.blt at hd; exact Nat.le_of_ble_eq_true hd
    exact ⟨_, h, ⟨by rw [defers_put]; exact r.defers, by rw [size_put]; exact r.size, r.env.put (by rw [r.size]; exact hd) e, r.heap, r.str⟩, rfl⟩
/-- The state may be told otherwise. -/
structure Ghost (s s' : St) : Prop where
  n : s'.n = s.n
  env : ∀ a, EnvOK s.nm s.env a → EnvOK s'.nm s'.env a
  heap : ∀ h, sat s.ents h → sat s'.ents h
theorem Rel.ghost {f : HP} {w0 : World} {s s' : St} {a : Act} {w : World} (r : Rel f w0 s a w) (g : Ghost s s') : Rel f w0 s' a w :=
  ⟨r.defers, r.size.trans g.n.symm, g.env _ r.env, let ⟨x, t, k⟩ := r.heap; ⟨x, t, g.heap _ k⟩, r.str⟩

/-- The entry of this name, and the others. -/
def pickD : List Ent → Nat → (Ent → List Ent → Prop) → Prop
  | [], _, _ => False
  | .blk m t cs :: r, n, K => bif Nat.beq m n then K (.blk m t cs) r else pickD r n fun e r' => K e (.blk m t cs :: r')
  | .vec m t a b xs :: r, n, K => bif Nat.beq m n then K (.vec m t a b xs) r else pickD r n fun e r' => K e (.vec m t a b xs :: r')
  | .obj m o :: r, n, K => bif Nat.beq m n then K (.obj m o) r else pickD r n fun e r' => K e (.obj m o :: r')
  | .mp m ks l :: r, n, K => bif Nat.beq m n then K (.mp m ks l) r else pickD r n fun e r' => K e (.mp m ks l :: r')
  | .it p m ks l d :: r, n, K => bif Nat.beq m n then K (.it p m ks l d) r else pickD r n fun e r' => K e (.it p m ks l d :: r')
  | .asn A :: r, n, K => pickD r n fun e r' => K e (.asn A :: r')
def Ent.name : Ent → Option Nat
  | .blk n _ _ | .vec n _ _ _ _ | .obj n _ | .mp n _ _ | .it _ n _ _ _ => some n
  | .asn _ => none
theorem pickD_some : ∀ {l : List Ent} {n : Nat} {K : Ent → List Ent → Prop}, pickD l n K → ∃ e r, K e r ∧ l.Perm (e :: r) ∧ e.name = some n
  | [], n, K, h => h.elim
  | .blk m t cs :: r, n, K, h => by
    unfold pickD at h
    cases e : Nat.beq m n with
    | true => rw [e] at h; obtain rfl := Nat.eq_of_beq_eq_true e; exact ⟨_, _, h, .refl _, rfl⟩
    | false =>
      rw [e] at h
      obtain ⟨e', r', k, p, q⟩ := pickD_some h
      exact ⟨e', _, k, (p.cons _).trans (.swap _ _ _), q⟩
  | .vec m t a b xs :: r, n, K, h => by
    unfold pickD at h
    cases e : Nat.beq m n with
    | true => rw [e] at h; obtain rfl := Nat.eq_of_beq_eq_true e; exact ⟨_, _, h, .refl _, rfl⟩
    | false =>
      rw [e] at h
      obtain ⟨e', r', k, p, q⟩ := pickD_some h
      exact ⟨e', _, k, (p.cons _).trans (.swap _ _ _), q⟩
  | .obj m o :: r, n, K, h => by
    unfold pickD at h
    cases e : Nat.beq m n with
    | true => rw [e] at h; obtain rfl := Nat.eq_of_beq_eq_true e; exact ⟨_, _, h, .refl _, rfl⟩
    | false =>
      rw [e] at h
      obtain ⟨e', r', k, p, q⟩ := pickD_some h
      exact ⟨e', _, k, (p.cons _).trans (.swap _ _ _), q⟩
  | .mp m ks l :: r, n, K, h => by
    unfold pickD at h
    cases e : Nat.beq m n with
    | true => rw [e] at h; obtain rfl := Nat.eq_of_beq_eq_true e; exact ⟨_, _, h, .refl _, rfl⟩
    | false =>
      rw [e] at h
      obtain ⟨e', r', k, p, q⟩ := pickD_some h
      exact ⟨e', _, k, (p.cons _).trans (.swap _ _ _), q⟩
  | .it p0 m ks l d :: r, n, K, h => by
    unfold pickD at h
    cases e : Nat.beq m n with
    | true => rw [e] at h; obtain rfl := Nat.eq_of_beq_eq_true e; exact ⟨_, _, h, .refl _, rfl⟩
    | false =>
      rw [e] at h
      obtain ⟨e', r', k, p, q⟩ := pickD_some h
      exact ⟨e', _, k, (p.cons _).trans (.swap _ _ _), q⟩
  | .asn A :: r, n, K, h => by
    unfold pickD at h
    obtain ⟨e', r', k, p, q⟩ := pickD_some h
    exact ⟨e', _, k, (p.cons _).trans (.swap _ _ _), q⟩
theorem At.pick {f : HP} {nm : List (Nat × Plc)} {l r : List Ent} {e : Ent} {w : World} (h : At f (l.map (entDen nm)) w) (p : l.Perm (e :: r)) : At f (entDen nm e :: r.map (entDen nm)) w :=
  h.perm (by simpa using p.map (entDen nm))

/-! ### What a block holds -/
/-- The block at a place holds these cells from the place on. -/
def Lies (w : World) (b o : Nat) (xs : List Value) : Prop := ∀ i v, xs[i]? = some v → w.cell? ⟨b, o + i, none⟩ = some v
theorem cell_of {w : World} {b : Nat} {c : Array Value} {t : TypeId} {fr : Nat × Nat} (h : w.heap[b]? = some (.cells c t fr)) (i : Nat) : w.cell? ⟨b, i, none⟩ = c[i]? := by simp [World.cell?, h]
theorem free_of {w : World} {b : Nat} {c : Array Value} {t : TypeId} (h : w.heap[b]? = some (.cells c t (0, 0))) (i : Nat) : w.frozen? ⟨b, i, none⟩ = false := by simp [World.frozen?, h]
theorem At.exact {f : HP} {A : Asn} {As : List Asn} {w : World} (h : At f (A :: As) w) {P : Prop} (g : ∀ x, A x → (At f (A :: As) w → P)) : P := by
  obtain ⟨x, s, y, z, t, hy, k⟩ := id h
  exact g y hy h
theorem At.isPt {f : HP} {A : Asn} {As : List Asn} {w : World} (h : At f (A :: As) w) {b : Nat} {o : Obj} (g : ∀ x, A x → pt b o x) : w.heap[b]? = some o := (h.head g).block

theorem Lies.load {P : Program} {w : World} {b o : Nat} {xs : List Value} (h : Lies w b o xs) {off : Nat} {v : Value} (e : xs[off]? = some v) : (load ⟨b, o + off, none⟩).run P w = .ok v w := by
  simp [h off v e]
theorem Lies.loadCells {P : Program} {w : World} {b o : Nat} {xs : List Value} (h : Lies w b o xs) {off sz : Nat} (e : off + sz ≤ xs.length) : (loadCells ⟨b, o + off, none⟩ sz).run P w = .ok ((xs.drop off).take sz).toArray w := by
  have hl : ((xs.drop off).take sz).length = sz := by simp; omega
  have := run_loadCells_list (P := P) (w := w) ⟨b, o + off, none⟩ ((xs.drop off).take sz) (fun j v hj => by
    rw [addr_add, Nat.add_assoc]
    have hjs : j < sz := by
      have := (List.getElem?_eq_some_iff.1 hj).1
      omega
    rw [List.getElem?_take_of_lt hjs, List.getElem?_drop] at hj
    exact h _ _ hj)
  rw [hl] at this
  exact this
/-- A variable of type 't' is read: its one cell, or its cells. -/
theorem Lies.loadVar {P : Program} {w : World} {b o : Nat} {xs : List Value} (h : Lies w b o xs) {t : TypeId} {off : Nat} {v : Value} (ha : isAggT P t = some false) (e : xs[off]? = some v) :
    (loadVar t ⟨b, o + off, none⟩).run P w = .ok v w := by
  have := h.load (P := P) e
  simp only [Go.loadVar, Sem.run_bind, isAgg_run ha, Result.andThen_ok, Bool.false_eq_true, if_false, this]
theorem Lies.loadAgg {P : Program} {w : World} {b o : Nat} {xs : List Value} (h : Lies w b o xs) {t : TypeId} {off : Nat} {i : TypeInfo} (ha : isAggT P t = some true) (hi : P.info? t = some i) (e : off + i.size ≤ xs.length) :
    (Go.loadVar t ⟨b, o + off, none⟩).run P w = .ok (.agg ((xs.drop off).take i.size).toArray) w := by
  have := h.loadCells (P := P) e
  simp only [Go.loadVar, Sem.run_bind, isAgg_run ha, Result.andThen_ok, if_true, sizeOf_run hi, this, Sem.run_pure]

/-- An entry's cells, from its place on. -/
theorem ent_blk {f : HP} {nm : List (Nat × Plc)} {n : Nat} {t : TypeId} {cs : List SV} {r : List Asn} {w : World} (h : At f (entDen nm (.blk n t cs) :: r) w) :
    ∃ b vs, getN nm n = some (.at b 0) ∧ denL nm cs = some vs ∧ w.heap[b]? = some (.cells vs.toArray t (0, 0)) ∧ At f (pt b (.cells vs.toArray t (0, 0)) :: r) w := by
  obtain ⟨x, s, y, z, tt, ⟨b, vs, h1, h2, h3⟩, k⟩ := h
  have h' : At f (pt b (.cells vs.toArray t (0, 0)) :: r) w := ⟨x, s, y, z, tt, h3, k⟩
  exact ⟨b, vs, h1, h2, h'.block, h'⟩
theorem ent_vec {f : HP} {nm : List (Nat × Plc)} {n : Nat} {t : TypeId} {sz cap : Nat} {xs : List Value} {r : List Asn} {w : World} (h : At f (entDen nm (.vec n t sz cap xs) :: r) w) :
    (∀ v ∈ xs, v.oneCell' = true) ∧ ((getN nm n = some .nil ∧ xs = [] ∧ cap = 0) ∨ ∃ b o pre post, getN nm n = some (.at b o) ∧ pre.length = o ∧ cap * sz ≤ xs.length + post.length ∧
      w.heap[b]? = some (.cells (pre ++ xs ++ post).toArray t (0, 0)) ∧ At f (pt b (.cells (pre ++ xs ++ post).toArray t (0, 0)) :: r) w) := by
  obtain ⟨x, s, y, z, tt, ⟨l, h1, hp, h2⟩, k⟩ := h
  refine ⟨hp, ?_⟩
  rcases h2 with ⟨rfl, h3⟩ | ⟨b, o, pre, post, rfl, h3, h4, h5⟩
  · exact .inl ⟨h1, h3⟩
  · have h' : At f (pt b (.cells (pre ++ xs ++ post).toArray t (0, 0)) :: r) w := ⟨x, s, y, z, tt, h3, k⟩
    exact .inr ⟨b, o, pre, post, h1, h4, h5, h'.block, h'⟩
theorem ent_obj {f : HP} {nm : List (Nat × Plc)} {n : Nat} {o : Obj} {r : List Asn} {w : World} (h : At f (entDen nm (.obj n o) :: r) w) :
    ∃ b, getN nm n = some (.at b 0) ∧ w.heap[b]? = some o ∧ At f (pt b o :: r) w := by
  obtain ⟨x, s, y, z, tt, ⟨b, h1, h2⟩, k⟩ := h
  have h' : At f (pt b o :: r) w := ⟨x, s, y, z, tt, h2, k⟩
  exact ⟨b, h1, h'.block, h'⟩

/-! ### Loads -/
/-- A cell of the frame. -/
def fcell (f : HP) (b o : Nat) : Option Value :=
  match f b with
  | some (.cells c _ _) => c[o]?
  | _ => none
theorem fcell_cell {f : HP} {As : List Asn} {w : World} (h : At f As w) {b o : Nat} {v : Value} (e : fcell f b o = some v) : w.cell? ⟨b, o, none⟩ = some v := by
  obtain ⟨x, s, _⟩ := h
  unfold fcell at e
  split at e
  · rename_i c t fr hb
    have hw : w.heap[b]? = some (.cells c t fr) := (hpOf_some.1 (s.get_right hb)).1
    rw [cell_of hw]; exact e
  · cases e
theorem told_cell {f : HP} {As : List Asn} {w : World} (h : At f As w) {b o : Nat} {v : Value} (e : ∀ x, sat As x → fcell x b o = some v) : w.cell? ⟨b, o, none⟩ = some v := by
  obtain ⟨x, s, k⟩ := h
  have e := e x k
  unfold fcell at e
  split at e
  · rename_i c t fr hb
    have hw : w.heap[b]? = some (.cells c t fr) := (hpOf_some.1 (s.get hb)).1
    rw [cell_of hw]; exact e
  · cases e
/-- A value is read that the prover names. -/
inductive RdOb (s : St) (x : Option Value) (K : SV → St → Prop) : Prop
  | mk (sv : SV) (v : Value) (hd : den s.nm sv = some v) (hx : x = some v) (k : K sv s)
/-- A cell, in the frame or among what is told. -/
inductive RdRaw (f : HP) (s : St) (b o : Nat) (K : SV → St → Prop) : Prop
  | mk (sv : SV) (v : Value) (hd : den s.nm sv = some v) (hx : fcell f b o = some v) (k : K sv s)
  | told (sv : SV) (v : Value) (hd : den s.nm sv = some v) (hx : ∀ h, sat s.ents h → fcell h b o = some v) (k : K sv s)
inductive RdObL (s : St) (xs : List Value) (off sz : Nat) (K : SV → St → Prop) : Prop
  | mk (l : List SV) (h0 : 0 < sz) (hl : off + sz ≤ xs.length) (hd : denL s.nm l = some ((xs.drop off).take sz)) (k : K (.agg l) s)
inductive RdF (f : HP) (s : St) (b o sz : Nat) (K : SV → St → Prop) : Prop
  | mk (l : List SV) (u : List Value) (hd : denL s.nm l = some u) (hl : u.length = sz) (h : ∀ i v, u[i]? = some v → fcell f b (o + i) = some v) (k : K (.agg l) s)
  | told (l : List SV) (u : List Value) (hd : denL s.nm l = some u) (hl : u.length = sz) (h : ∀ h, sat s.ents h → ∀ i v, u[i]? = some v → fcell h b (o + i) = some v) (k : K (.agg l) s)
def loadEnt (P : Program) (s : St) (t : TypeId) (e : Ent) (off : Nat) (K : SV → St → Prop) : Prop :=
  match isAggT P t with
  | some false => match e with
    | .blk _ _ cs => forceO (nth cs off) fun v => K v s
    | .vec _ _ _ _ xs => RdOb s (xs[off]?) K
    | .obj _ (.cells c _ _) => RdOb s (c[off]?) K
    | _ => False
  | some true => match P.info? t with
    | some ⟨_, _, sz, _, _, _, _, _, _, _⟩ => match e with
      | .blk _ _ cs => bif Nat.ble (off + sz) (lenL cs) then forceL (takeL (dropL cs off) sz) fun l => K (.agg l) s else False
      | .vec _ _ _ _ xs => RdObL s xs off sz K
      | .obj _ (.cells c _ _) => RdObL s c.toList off sz K
      | _ => False
    | none => False
  | none => False
def loadD (P : Program) (f : HP) (s : St) (t : TypeId) (x : SV) (K : SV → St → Prop) : Prop :=
  match x with
  | .ptr n off => pickD s.hp n fun e _ => loadEnt P s t e off K
  | .raw (.pointer (some ⟨b, o, none⟩)) => match isAggT P t with
    | some false => RdRaw f s b o K
    | some true => match P.info? t with
      | some ⟨_, _, sz, _, _, _, _, _, _, _⟩ => RdF f s b o sz K
      | none => False
    | none => False
  | _ => False
/-- What a load does, wherever these cells lie. -/
def Loads (P : Program) (t : TypeId) (b o : Nat) (u : List Value) (v : Value) : Prop := ∀ w, Lies w b o u → (Go.loadVar t ⟨b, o, none⟩).run P w = .ok v w
/-- The cells of a variable of type 't' that holds 'v'. -/
def cellsFor (P : Program) (t : TypeId) (v : Value) : List Value :=
  match isAggT P t with
  | some true => v.cells.toList
  | _ => [v]
theorem cellsFor_one {P : Program} {t : TypeId} {v : Value} (ha : isAggT P t = some false) : [v] = cellsFor P t v := by simp [cellsFor, ha]
theorem cellsFor_agg {P : Program} {t : TypeId} {u : List Value} (ha : isAggT P t = some true) : u = cellsFor P t (.agg u.toArray) := by simp [cellsFor, ha, Value.cells]
theorem loads_one {P : Program} {t : TypeId} {b o : Nat} {v : Value} (ha : isAggT P t = some false) : Loads P t b o [v] v := fun w h => by
  have := h.loadVar (P := P) (off := 0) ha (by simp : ([v] : List Value)[0]? = some v)
  simpa using this
theorem loads_agg {P : Program} {t : TypeId} {b o : Nat} {u : List Value} {i : TypeInfo} (ha : isAggT P t = some true) (hi : P.info? t = some i) (hu : u.length = i.size) : Loads P t b o u (.agg u.toArray) := fun w h => by
  have := h.loadAgg (P := P) (off := 0) ha hi (by omega)
  rw [← hu] at this
  simpa using this
theorem Lies.sub {w : World} {b o : Nat} {xs : List Value} (h : Lies w b o xs) (off sz : Nat) : Lies w b (o + off) ((xs.drop off).take sz) := fun i v hi => by
  have hl := (List.getElem?_eq_some_iff.1 hi).1
  have his : i < sz := by simp at hl; omega
  rw [List.getElem?_take_of_lt his, List.getElem?_drop] at hi
  rw [Nat.add_assoc]
  exact h _ _ hi
theorem Lies.one {w : World} {b o : Nat} {xs : List Value} (h : Lies w b o xs) {off : Nat} {v : Value} (e : xs[off]? = some v) : Lies w b (o + off) [v] := fun i u hi => by
  have : i = 0 := by have := (List.getElem?_eq_some_iff.1 hi).1; simp at this; exact this
  subst this
  simp at hi; subst hi
  exact h _ _ e
theorem vec_lies {w : World} {b o : Nat} {t : TypeId} {pre xs post : List Value} (h : w.heap[b]? = some (.cells (pre ++ xs ++ post).toArray t (0, 0))) (e : pre.length = o) : Lies w b o xs := fun i u hu => by
  rw [cell_of h]
  have hi := (List.getElem?_eq_some_iff.1 hu).1
  simp only [List.getElem?_toArray, List.append_assoc]
  rw [List.getElem?_append_right (by omega), e, show o + i - o = i by omega, List.getElem?_append_left hi]
  exact hu

theorem loadEnt_runs {P : Program} {f : HP} {s : St} {t : TypeId} {e : Ent} {n off : Nat} {K : SV → St → Prop} {r : List Asn} {w : World} (h : loadEnt P s t e off K) (hn : e.name = some n) (hat : At f (entDen s.nm e :: r) w) :
    ∃ sv v b o u, K sv s ∧ den s.nm sv = some v ∧ getN s.nm n = some (.at b o) ∧ Lies w b (o + off) u ∧ Loads P t b (o + off) u v ∧ u = cellsFor P t v := by
  unfold loadEnt at h
  split at h <;> try exact h.elim
  · rename_i ha
    split at h <;> try exact h.elim
    · rename_i m t' cs
      simp only [Ent.name, Option.some.injEq] at hn; subst hn
      obtain ⟨sv, hsv, k⟩ := forceO_some h
      rw [nth_eq] at hsv
      obtain ⟨b, vs, h1, hvs, h3, _⟩ := ent_blk hat
      obtain ⟨v, hv, hd⟩ := denL_nth hvs _ _ hsv
      have hl : Lies w b 0 vs := fun i u hu => by rw [cell_of h3]; simpa using hu
      exact ⟨sv, v, b, 0, [v], k, hd, h1, hl.one hv, loads_one ha, cellsFor_one ha⟩
    · rename_i m t' a1 a2 xs
      simp only [Ent.name, Option.some.injEq] at hn; subst hn
      obtain ⟨sv, v, hd, hx, k⟩ := h
      rcases ent_vec hat with ⟨_, ⟨_, h2, _⟩ | ⟨b, o, pre, post, h1, h2, h3, h4, _⟩⟩
      · subst h2; simp at hx
      · exact ⟨sv, v, b, o, [v], k, hd, h1, (vec_lies h4 h2).one hx, loads_one ha, cellsFor_one ha⟩
    · rename_i m c t' fr
      simp only [Ent.name, Option.some.injEq] at hn; subst hn
      obtain ⟨sv, v, hd, hx, k⟩ := h
      obtain ⟨b, h1, h2, _⟩ := ent_obj hat
      have hl : Lies w b 0 c.toList := fun i u hu => by rw [cell_of h2]; simpa using hu
      exact ⟨sv, v, b, 0, [v], k, hd, h1, hl.one (by simpa using hx), loads_one ha, cellsFor_one ha⟩
  · rename_i ha
    split at h <;> try exact h.elim
    rename_i n1 n2 sz n3 n4 n5 n6 n7 n8 n9 hi
    split at h <;> try exact h.elim
    · rename_i m t' cs
      simp only [Ent.name, Option.some.injEq] at hn; subst hn
      obtain ⟨hb, h⟩ := cond_some h
      have hb := Nat.le_of_ble_eq_true hb
      rw [lenL_eq] at hb
      rw [forceL_eq, takeL_eq, dropL_eq] at h
      obtain ⟨b, vs, h1, hvs, h3, _⟩ := ent_blk hat
      have hl : Lies w b 0 vs := fun i u hu => by rw [cell_of h3]; simpa using hu
      have hlen := denL_length hvs
      exact ⟨_, .agg ((vs.drop off).take sz).toArray, b, 0, (vs.drop off).take sz, h, by simp [den, denL_take _ (denL_drop _ hvs), mapO], h1, hl.sub _ _, loads_agg ha hi (by simp; omega), cellsFor_agg ha⟩
    · rename_i m t' a1 a2 xs
      simp only [Ent.name, Option.some.injEq] at hn; subst hn
      obtain ⟨l, h0, hle, hd, k⟩ := h
      rcases ent_vec hat with ⟨_, ⟨_, h2, h5⟩ | ⟨b, o, pre, post, h1, h2, h3, h4, _⟩⟩
      · subst h2; simp at hle; omega
      · exact ⟨_, .agg ((xs.drop off).take sz).toArray, b, o, (xs.drop off).take sz, k, by simp [den, hd, mapO], h1, (vec_lies h4 h2).sub _ _, loads_agg ha hi (by simp; omega), cellsFor_agg ha⟩
    · rename_i m c t' fr
      simp only [Ent.name, Option.some.injEq] at hn; subst hn
      obtain ⟨l, h0, hle, hd, k⟩ := h
      obtain ⟨b, h1, h2, _⟩ := ent_obj hat
      have hl : Lies w b 0 c.toList := fun i u hu => by rw [cell_of h2]; simpa using hu
      exact ⟨_, .agg ((c.toList.drop off).take sz).toArray, b, 0, (c.toList.drop off).take sz, k, by simp [den, hd, mapO], h1, hl.sub _ _, loads_agg ha hi (by simp; simp at hle; omega), cellsFor_agg ha⟩
end Sx
