/- Loads, stores and new blocks of a symbolic walk, and that they are right. Conditions: none. -/
import Derived.Test.YtiknkeakielncaaE8
namespace Sx
open Go

theorem loadD_runs {P : Program} {f : HP} {w0 : World} {s : St} {a : Act} {w : World} {t : TypeId} {x : SV} {p : Value} {K : SV → St → Prop} (h : loadD P f s t x K) (r : Rel f w0 s a w) (hx : den s.nm x = some p) :
    ∃ sv v b o u, K sv s ∧ den s.nm sv = some v ∧ p = .pointer (some ⟨b, o, none⟩) ∧ Lies w b o u ∧ Loads P t b o u v ∧ u = cellsFor P t v := by
  unfold loadD at h
  split at h <;> try exact h.elim
  · rename_i n off
    obtain ⟨e, rest, h, pm, hn⟩ := pickD_some h
    obtain ⟨sv, v, b, o, u, k, hd, hl, h1, h2, h3⟩ := loadEnt_runs h hn (r.heap.pick pm)
    refine ⟨sv, v, b, o + off, u, k, hd, ?_, h1, h2, h3⟩
    simp only [den, hl, locAddr, Option.some.injEq] at hx
    exact hx.symm
  · rename_i b o
    simp only [den, Option.some.injEq] at hx
    split at h <;> try exact h.elim
    · rename_i ha
      have key : ∃ sv v, K sv s ∧ den s.nm sv = some v ∧ w.cell? ⟨b, o, none⟩ = some v := by
        cases h with
        | mk sv v hd hv k => exact ⟨sv, v, k, hd, fcell_cell r.heap hv⟩
        | told sv v hd hv k => exact ⟨sv, v, k, hd, told_cell r.heap hv⟩
      obtain ⟨sv, v, k, hd, hv⟩ := key
      refine ⟨sv, v, b, o, [v], k, hd, hx.symm, fun i u hu => ?_, loads_one ha, cellsFor_one ha⟩
      have : i = 0 := by have := (List.getElem?_eq_some_iff.1 hu).1; simp at this; exact this
      subst this
      simp at hu; subst hu
      exact hv
    · rename_i ha
      split at h <;> try exact h.elim
      rename_i n1 n2 sz n3 n4 n5 n6 n7 n8 n9 hi
      cases h with
      | mk l u hd hl hu k => exact ⟨.agg l, .agg u.toArray, b, o, u, k, by simp [den, hd, mapO], hx.symm, fun i v hi => fcell_cell r.heap (hu i v hi), loads_agg ha hi hl, cellsFor_agg ha⟩
      | told l u hd hl hu k => exact ⟨.agg l, .agg u.toArray, b, o, u, k, by simp [den, hd, mapO], hx.symm, fun i v hi => told_cell r.heap (fun x hx => hu x hx i v hi), loads_agg ha hi hl, cellsFor_agg ha⟩

/-! ### Stores -/
def plainS : SV → Bool
  | .agg _ => false
  | .tuple _ => false
  | .raw v => plainV v
  | _ => true
def plainL : List SV → Bool
  | [] => true
  | v :: l => bif plainS v then plainL l else false
theorem plainS_den {nm : List (Nat × Plc)} {x : SV} {v : Value} (h : plainS x = true) (hx : den nm x = some v) : v.oneCell' = true := by
  cases x <;> simp only [plainS] at h <;> simp only [den] at hx
  case agg => cases h
  case tuple => cases h
  case raw u => simp only [Option.some.injEq] at hx; subst hx; cases u <;> first | rfl | (simp [plainV] at h)
  case ptr => split at hx <;> simp at hx; subst hx; rfl
  case sl => split at hx <;> simp at hx; subst hx; rfl
  case map => split at hx <;> simp at hx; subst hx; rfl
  case fn => unfold mapO2 at hx; split at hx <;> simp at hx; subst hx; rfl
  case ifc => unfold mapV at hx; split at hx <;> simp at hx; subst hx; rfl
  all_goals (simp only [Option.some.injEq] at hx; subst hx; rfl)
theorem plainL_den {nm : List (Nat × Plc)} : ∀ {l : List SV} {u : List Value}, plainL l = true → denL nm l = some u → ∀ v ∈ u, v.oneCell' = true
  | [], u, _, h, v, hv => by simp [denL] at h; subst h; simp at hv
  | x :: l, u, hp, h, v, hv => by
    simp only [denL] at h
    obtain ⟨a, b, e1, e2, rfl⟩ := consO_some h
    unfold plainL at hp
    cases hx : plainS x with
    | false => rw [hx] at hp; cases hp
    | true =>
      rw [hx] at hp
      rcases List.mem_cons.1 hv with rfl | hv
      · exact plainS_den hx e1
      · exact plainL_den hp e2 v hv
/-- One block has turned. -/
structure Turned (w w' : World) (b : Nat) (o : Obj) : Prop where
  at_ : w'.heap[b]? = some o
  other : ∀ r, r ≠ b → w'.heap[r]? = w.heap[r]?
  vis : hid o = false
  str : Str w w'
theorem Str.one {w w' : World} {b : Nat} {o : Obj} (h1 : w'.os = w.os) (h2 : w'.tape = w.tape) (h3 : w'.output = w.output) (hb : w.heap[b]? = some o) (ho : hid o = false) (hs : w.heap.size ≤ w'.heap.size) (hr : ∀ r, r ≠ b → w'.heap[r]? = w.heap[r]?) (hd : w.drawn ≤ w'.drawn) : Str w w' :=
  ⟨h1, h2, h3, fun r x hx hh => by
    by_cases e : r = b
    · subst e; rw [hb] at hx; simp only [Option.some.injEq] at hx; subst hx; rw [ho] at hh; cases hh
    · rw [hr r e]; exact hx, hs, hd⟩
theorem turned_one {P : Program} {w : World} {b i : Nat} {c : Array Value} {t : TypeId} {v : Value} (h : w.heap[b]? = some (.cells c t (0, 0))) (hi : i < c.size) (hv : v.oneCell' = true) :
    (store ⟨b, i, none⟩ v).run P w = .ok () (w.setCell ⟨b, i, none⟩ v) ∧ Turned w (w.setCell ⟨b, i, none⟩ v) b (.cells (c.set i v hi) t (0, 0)) := by
  constructor
  · rw [run_store P w _ v .plain hv, cell_of h, free_of h]
    simp [hi]
  · have hr : ∀ r, r ≠ b → (w.setCell ⟨b, i, none⟩ v).heap[r]? = w.heap[r]? := fun r hr => RowKit.Below.heap_setCell _ _ _ _ hr
    refine ⟨?_, hr, rfl, .one rfl rfl rfl h rfl (by show _ ≤ (w.heap.modify b _).size; simp) hr (Nat.le_refl _)⟩
    show (w.heap.modify b _)[b]? = _
    rw [Array.getElem?_modify]
    simp [h, Array.setIfInBounds, hi]
theorem turned_many {P : Program} {b : Nat} {t : TypeId} : ∀ (vs : List Value) (w : World) (c : Array Value) (o i : Nat), w.heap[b]? = some (.cells c t (0, 0)) → o + i + vs.length ≤ c.size → (∀ v ∈ vs, v.oneCell' = true) →
    ∃ w', (storeCells ⟨b, o, none⟩ vs i).run P w = .ok () w' ∧ Turned w w' b (.cells (putV c.toList (o + i) vs).toArray t (0, 0))
  | [], w, c, o, i, h, hl, hv => ⟨w, by simp [storeCells], by simpa [putV] using h, fun _ _ => rfl, rfl, .refl w⟩
  | v :: vs, w, c, o, i, h, hl, hv => by
    simp only [List.length_cons] at hl
    obtain ⟨h1, h2⟩ := turned_one (P := P) h (i := o + i) (v := v) (by omega) (hv v (by simp))
    obtain ⟨w', h3, h4⟩ := turned_many (P := P) vs _ _ o (i + 1) h2.at_ (by simp; omega) (fun u hu => hv u (by simp [hu]))
    refine ⟨w', ?_, ?_, fun r hr => (h4.other r hr).trans (h2.other r hr), h4.vis, h2.str.trans h4.str⟩
    · simp only [storeCells, addr_add, Sem.run_bind, h1, Result.andThen_ok, h3]
    · rw [h4.at_]
      simp only [putV, Array.toList_set, Nat.add_assoc]
theorem At.turned {f : HP} {b : Nat} {o o' : Obj} {As : List Asn} {w w' : World} (h : At f (pt b o :: As) w) (t : Turned w w' b o') : At f (pt b o' :: As) w' := h.put t.at_ t.vis t.other

inductive StOb (nm : List (Nat × Plc)) (l : List SV) (K : List Value → Prop) : Prop
  | mk (vs : List Value) (hd : denL nm l = some vs) (k : K vs)
def storeEnt (nm : List (Nat × Plc)) (e : Ent) (off : Nat) (l : List SV) (K : Ent → Prop) : Prop :=
  match e with
  | .blk m t cs => bif Nat.ble (off + lenL l) (lenL cs) then forceL (spl cs off l) fun cs' => K (.blk m t cs') else False
  | .vec m t sz cap xs => bif Nat.ble 1 (lenL l) then StOb nm l fun vs => Need (off + vs.length ≤ xs.length) (K (.vec m t sz cap (putV xs off vs))) else False
  | .obj m (.cells c t (0, 0)) => StOb nm l fun vs => Need (off + vs.length ≤ c.size) (K (.obj m (.cells (putV c.toList off vs).toArray t (0, 0))))
  | _ => False
/-- A heap's part with one block turned. -/
def upd (h : HP) (b : Nat) (o : Obj) : HP := fun r => if r = b then some o else h r
/-- Cells of a block that is told somewhere are turned. -/
inductive StRaw (s : St) (b o : Nat) (l : List SV) (K : St → Prop) : Prop
  | mk (vs : List Value) (hd : denL s.nm l = some vs) (hp' : List Ent)
      (hx : ∀ h, sat s.ents h → ∃ c t, h b = some (.cells c t (0, 0)) ∧ o + vs.length ≤ c.size ∧ sat (hp'.map (entDen s.nm)) (upd h b (.cells (putV c.toList o vs).toArray t (0, 0)))) (k : K ⟨s.n, s.env, s.nm, s.next, hp'⟩)
def storeD (P : Program) (s : St) (t : TypeId) (x v : SV) (K : St → Prop) : Prop :=
  match P.info? t with
  | some ⟨_, _, sz, _, _, _, _, _, _, _⟩ => match cellsOf v with
    | some l => bif Nat.beq (lenL l) sz && plainL l then (match x with
      | .ptr n off => (match s with
        | ⟨k, env, nm, next, hp⟩ => pickD hp n fun e rest => storeEnt nm e off l fun e' => K ⟨k, env, nm, next, e' :: rest⟩)
      | .raw (.pointer (some ⟨b, o, none⟩)) => StRaw s b o l K
      | _ => False) else False
    | none => False
  | none => False
theorem putV_pre : ∀ (pre xs : List Value) (o : Nat) (vs : List Value), putV (pre ++ xs) (pre.length + o) vs = pre ++ putV xs o vs
  | pre, xs, o, [] => rfl
  | pre, xs, o, v :: vs => by
    simp only [putV]
    rw [List.set_append_right _ _ (by omega), show pre.length + o - pre.length = o by omega, Nat.add_assoc, putV_pre pre _ (o + 1) vs]
theorem putV_post : ∀ (xs post : List Value) (o : Nat) (vs : List Value), o + vs.length ≤ xs.length → putV (xs ++ post) o vs = putV xs o vs ++ post
  | xs, post, o, [], _ => rfl
  | xs, post, o, v :: vs, h => by
    simp only [List.length_cons] at h
    simp only [putV]
    rw [List.set_append_left _ _ (by omega), putV_post _ post (o + 1) vs (by simp; omega)]
theorem putV_plain : ∀ {u xs : List Value}, (∀ v ∈ xs, v.oneCell' = true) → (∀ v ∈ u, v.oneCell' = true) → ∀ o, ∀ v ∈ putV xs o u, v.oneCell' = true
  | [], xs, h, _, o, v, hv => h v hv
  | x :: u, xs, h, k, o, v, hv => by
    refine putV_plain (xs := xs.set o x) (fun y hy => ?_) (fun y hy => k y (List.mem_cons_of_mem _ hy)) (o + 1) v hv
    rcases List.mem_or_eq_of_mem_set hy with hy | hy
    · exact h y hy
    · subst hy; exact k y (by simp)
theorem storeEnt_runs {P : Program} {f : HP} {s : St} {e : Ent} {n off : Nat} {l : List SV} {u : List Value} {r : List Asn} {w : World} {K : Ent → Prop} (h : storeEnt s.nm e off l K) (hn : e.name = some n) (hat : At f (entDen s.nm e :: r) w)
    (hl : denL s.nm l = some u) (hp : ∀ v ∈ u, v.oneCell' = true) :
    ∃ e' b o w', K e' ∧ getN s.nm n = some (.at b o) ∧ (storeCells ⟨b, o + off, none⟩ u).run P w = .ok () w' ∧ At f (entDen s.nm e' :: r) w' ∧ Str w w' := by
  have hul := denL_length hl
  unfold storeEnt at h
  split at h <;> try exact h.elim
  · rename_i m t cs
    simp only [Ent.name, Option.some.injEq] at hn; subst hn
    obtain ⟨hb, h⟩ := cond_some h
    have hb := Nat.le_of_ble_eq_true hb
    rw [lenL_eq, lenL_eq] at hb
    rw [forceL_eq] at h
    obtain ⟨b, vs, h1, hvs, h3, h4⟩ := ent_blk hat
    have hvl := denL_length hvs
    obtain ⟨w', hr, ht⟩ := turned_many (P := P) u w vs.toArray (0 + off) 0 h3 (by simp; omega) hp
    refine ⟨_, b, 0, w', h, h1, hr, ?_, ht.str⟩
    refine (h4.turned ht).head fun x hx => ⟨b, _, h1, denL_spl off hl hvs, ?_⟩
    simpa using hx
  · rename_i m t sz cap xs
    simp only [Ent.name, Option.some.injEq] at hn; subst hn
    obtain ⟨h0, h⟩ := cond_some h
    have h0 := Nat.le_of_ble_eq_true h0
    rw [lenL_eq] at h0
    obtain ⟨vs, hd, hb, h⟩ := h
    rw [hl] at hd; simp only [Option.some.injEq] at hd; subst hd
    rcases ent_vec hat with ⟨hpl, ⟨h1, h2, h5⟩ | ⟨b, o, pre, post, h1, h2, h3, h4, h5⟩⟩
    · subst h2
      simp at hb
      exfalso
      have := hb.2
      subst this
      simp at hul
      omega
    · obtain ⟨w', hr, ht⟩ := turned_many (P := P) u w _ (o + off) 0 h4 (by simp; omega) hp
      refine ⟨_, b, o, w', h, h1, hr, ?_, ht.str⟩
      refine (h5.turned ht).head fun x hx => ⟨_, h1, putV_plain hpl hp off, .inr ⟨b, o, pre, post, rfl, ?_, h2, by rw [putV_length]; exact h3⟩⟩
      have : putV (pre ++ xs ++ post) (o + off) u = pre ++ putV xs off u ++ post := by
        rw [List.append_assoc, ← h2, putV_pre, putV_post _ _ _ _ hb, List.append_assoc]
      rw [← this]
      simpa using hx
  · rename_i m c t
    simp only [Ent.name, Option.some.injEq] at hn; subst hn
    obtain ⟨vs, hd, hb, h⟩ := h
    rw [hl] at hd; simp only [Option.some.injEq] at hd; subst hd
    obtain ⟨b, h1, h2, h3⟩ := ent_obj hat
    obtain ⟨w', hr, ht⟩ := turned_many (P := P) u w c (0 + off) 0 h2 (by simp; omega) hp
    refine ⟨_, b, 0, w', h, h1, hr, ?_, ht.str⟩
    exact (h3.turned ht).head fun x hx => ⟨b, h1, by simpa using hx⟩

theorem Split.upd {f y : HP} {w w' : World} {b : Nat} {o o' : Obj} (s : Split (hpOf w) y f) (t : Turned w w' b o') (g : y b = some o) : Split (hpOf w') (Sx.upd y b o') f := fun r => by
  by_cases e : r = b
  · subst e
    exact .inr ⟨s.other g, by rw [hpOf_some.2 ⟨t.at_, t.vis⟩]; simp [Sx.upd]⟩
  · have h1 := s r
    have h2 : hpOf w' r = hpOf w r := hpOf_eq (t.other r e)
    simp only [Sx.upd, if_neg e, h2]
    exact h1
theorem storeD_runs {P : Program} {f : HP} {w0 : World} {s : St} {a : Act} {w : World} {t : TypeId} {x v : SV} {p q : Value} {K : St → Prop} (h : storeD P s t x v K) (r : Rel f w0 s a w) (hx : den s.nm x = some p) (hv : den s.nm v = some q) :
    ∃ s' w', K s' ∧ Rel f w0 s' a w' ∧ (Instr.storeAt t p q).run P w = .ok () w' ∧ s'.nm = s.nm := by
  unfold storeD at h
  split at h <;> try exact h.elim
  rename_i n1 n2 sz n3 n4 n5 n6 n7 n8 n9 hi
  split at h <;> try exact h.elim
  rename_i l hl
  obtain ⟨hb, h⟩ := cond_some h
  simp only [Bool.and_eq_true] at hb
  obtain ⟨hb1, hb2⟩ := hb
  have hb1 := Nat.eq_of_beq_eq_true hb1
  rw [lenL_eq] at hb1
  have hd := cellsOf_den hl hv
  have hsz : q.cells.size = sz := by have := denL_length hd; simp at this; omega
  split at h <;> try exact h.elim
  · rename_i n off
    obtain ⟨e, rest, h, pm, hn⟩ := pickD_some h
    obtain ⟨e', b, o, w', k, hg, hr, hat, hs⟩ := storeEnt_runs (P := P) h hn (r.heap.pick pm) hd (plainL_den hb2 hd)
    refine ⟨_, w', k, ⟨r.defers.str hs, r.size, r.env, hat, r.str.trans hs⟩, ?_, rfl⟩
    simp only [den, hg, locAddr, Option.some.injEq] at hx
    simp only [Instr.storeAt, ← hx, Instr.sureAddr, storeVar, Sem.run_bind, Sem.run_pure, Result.andThen_ok, sizeOf_run hi, hsz, ne_eq, not_true_eq_false, if_false, hr]
  · rename_i b o _
    simp only [den, Option.some.injEq] at hx
    obtain ⟨vs, hvs, hp', g, k⟩ := h
    rw [hd] at hvs; simp only [Option.some.injEq] at hvs; subst hvs
    obtain ⟨y, sp, hy⟩ := r.heap
    obtain ⟨c, t', g1, g2, g3⟩ := g y hy
    have hw : w.heap[b]? = some (.cells c t' (0, 0)) := (hpOf_some.1 (sp.get g1)).1
    obtain ⟨w', hr, ht⟩ := turned_many (P := P) q.cells.toList w c o 0 hw (by simpa using g2) (plainL_den hb2 hd)
    refine ⟨_, w', k, ⟨r.defers.str ht.str, r.size, r.env, ⟨_, sp.upd ht g1, by simpa [St.ents] using g3⟩, r.str.trans ht.str⟩, ?_, rfl⟩
    simp only [Instr.storeAt, ← hx, Instr.sureAddr, storeVar, Sem.run_bind, Sem.run_pure, Result.andThen_ok, sizeOf_run hi, hsz, ne_eq, not_true_eq_false, if_false, hr]

/-! ### New blocks -/
def newD (s : St) (t : TypeId) (cs : List SV) (v : SV) (K : SV → St → Prop) : Prop :=
  match s with
  | ⟨n, env, nm, next, hp⟩ => match getN nm next with
    | some _ => False
    | none => ∀ b : Nat, forceL cs fun cs' => K v ⟨n, env, (next, .at b 0) :: nm, next + 1, .blk next t cs' :: hp⟩
theorem newD_runs {f : HP} {w0 : World} {s : St} {a : Act} {w : World} {t : TypeId} {cs : List SV} {vs : List Value} {v : SV} {K : SV → St → Prop} (h : newD s t cs v K) (r : Rel f w0 s a w) (hd : denL s.nm cs = some vs) :
    ∃ s', K v s' ∧ Rel f w0 s' a (w.alloc (.cells vs.toArray t)) ∧ getN s'.nm s.next = some (.at w.heap.size 0) ∧ NmExt s.nm s'.nm := by
  obtain ⟨n, env, nm, next, hp⟩ := s
  unfold newD at h
  simp only at h
  split at h <;> try exact h.elim
  rename_i hn
  have h := h w.heap.size
  rw [forceL_eq] at h
  have hx := NmExt.push (l := .at w.heap.size 0) hn
  have hg : getN ((next, Plc.at w.heap.size 0) :: nm) next = some (.at w.heap.size 0) := by simp [getN]
  refine ⟨_, h, ⟨r.defers.str (.alloc w _), r.size, r.env.ext hx, ?_, r.str.trans (.alloc w _)⟩, hg, hx⟩
  have h1 := (r.heap.ext hx).new (.cells vs.toArray t) rfl
  exact h1.head fun y hy => ⟨w.heap.size, vs, hg, denL_ext hx _ _ hd, hy⟩
def allocD (P : Program) (s : St) (t : TypeId) (K : SV → St → Prop) : Prop :=
  match P.info? t with
  | some ⟨_, _, _, _, _, _, _, some z, _, _⟩ => newD s t (ofCL z.cells.toList) (.ptr s.next 0) K
  | _ => False
theorem allocD_runs {P : Program} {f : HP} {w0 : World} {s : St} {a : Act} {w : World} {t : TypeId} {K : SV → St → Prop} (h : allocD P s t K) (r : Rel f w0 s a w) :
    ∃ sv v s' w', K sv s' ∧ Rel f w0 s' a w' ∧ den s'.nm sv = some v ∧ (Instr.alloc t true (.tuple #[])).run P w = .ok v w' ∧ NmExt s.nm s'.nm := by
  unfold allocD at h
  split at h <;> try exact h.elim
  rename_i n1 n2 n3 n4 n5 n6 n7 z n8 n9 hi
  obtain ⟨s', k, r', hg, hx'⟩ := newD_runs h r (denL_ofCL s.nm _)
  refine ⟨_, .pointer (some ⟨w.heap.size, 0, none⟩), s', _, k, r', by simp [den, hg, locAddr], ?_, hx'⟩
  simp [Instr.alloc, zeroValue, typeInfo, hi, newVar, newRow]
def boxD (s : St) (t : TypeId) (v : SV) (K : SV → St → Prop) : Prop :=
  match cellsOf v with
  | some l => newD s t l (.ptr s.next 0) K
  | none => False
theorem boxD_runs {P : Program} {f : HP} {w0 : World} {s : St} {a : Act} {w : World} {t : TypeId} {x : SV} {p : Value} {K : SV → St → Prop} (h : boxD s t x K) (r : Rel f w0 s a w) (hx : den s.nm x = some p) :
    ∃ sv v s' w', K sv s' ∧ Rel f w0 s' a w' ∧ den s'.nm sv = some v ∧ (Instr.box t p).run P w = .ok v w' ∧ NmExt s.nm s'.nm := by
  unfold boxD at h
  split at h <;> try exact h.elim
  rename_i l hl
  obtain ⟨s', k, r', hg, hx'⟩ := newD_runs h r (cellsOf_den hl hx)
  refine ⟨_, .pointer (some ⟨w.heap.size, 0, none⟩), s', _, k, r', by simp [den, hg, locAddr], ?_, hx'⟩
  simp [Instr.box, newVar, newRow]
/-- A slice literal. -/
def fillSl (sz : Nat) : List SV → List (Nat × SV) → (List SV → Prop) → Prop
  | cs, [], K => K cs
  | cs, (i, x) :: r, K => match cellsOf x with
    | some l => bif Nat.beq (lenL l) sz && Nat.ble (i * sz + lenL l) (lenL cs) then forceL (spl cs (i * sz) l) fun cs' => fillSl sz cs' r K else False
    | none => False
theorem fillSl_runs {nm : List (Nat × Plc)} {sz : Nat} :
    ∀ {parts : List (Nat × SV)} {vals : List (Nat × Value)} {cs : List SV} {u : List Value} {K : List SV → Prop}, fillSl sz cs parts K → denL nm cs = some u → (parts.map (·.1) = vals.map (·.1)) → denL nm (parts.map (·.2)) = some (vals.map (·.2)) →
      ∃ cs' u', K cs' ∧ denL nm cs' = some u' ∧ Instr.fill (fun i => some (i * sz, sz)) u.toArray vals = some u'.toArray
  | [], vals, cs, u, K, h, hu, h1, h2 => by
    have : vals = [] := by cases vals <;> simp at h1 ⊢
    subst this
    exact ⟨cs, u, h, hu, rfl⟩
  | (i, x) :: r, vals, cs, u, K, h, hu, h1, h2 => by
    cases vals with
    | nil => simp at h1
    | cons y vals =>
      obtain ⟨j, v⟩ := y
      simp only [List.map_cons, List.cons.injEq] at h1
      obtain ⟨rfl, h1⟩ := h1
      simp only [List.map_cons, denL] at h2
      obtain ⟨a, b, e1, e2, e3⟩ := consO_some h2
      simp only [List.cons.injEq] at e3
      obtain ⟨rfl, rfl⟩ := e3
      unfold fillSl at h
      split at h <;> try exact h.elim
      rename_i l hl
      obtain ⟨hb, h⟩ := cond_some h
      rw [forceL_eq] at h
      simp only [Bool.and_eq_true] at hb
      obtain ⟨hb1, hb2⟩ := hb
      have hb1 := Nat.eq_of_beq_eq_true hb1
      have hb2 := Nat.le_of_ble_eq_true hb2
      rw [lenL_eq] at hb1 hb2
      rw [lenL_eq] at hb2
      have hc := cellsOf_den hl e1
      have hlen : v.cells.size = l.length := by have := denL_length hc; simpa using this
      have hul := denL_length hu
      obtain ⟨cs', u', k, hd, hfill⟩ := fillSl_runs h (denL_spl (i * sz) hc hu) h1 e2
      refine ⟨cs', u', k, hd, ?_⟩
      unfold Instr.fill
      simp only
      rw [if_neg (by simp [hlen, hb1]; omega)]
      rw [fill_one]
      exact hfill
def repL (z : List SV) : Nat → List SV
  | 0 => []
  | n + 1 => z ++ repL z n
def appK : List SV → List SV → List SV
  | [], l => l
  | v :: r, l => v :: appK r l
def buildSliceD (P : Program) (s : St) (t : TypeId) (len : Nat) (parts : List (Nat × SV)) (K : SV → St → Prop) : Prop :=
  match P.underlying t with
  | some (.slice e) => match P.info? e with
    | some ⟨_, _, sz, _, _, _, _, some z, _, _⟩ => bif Nat.ble (len * sz) 1000 && Nat.ble 1 sz && Nat.beq (lenL (ofCL z.cells.toList)) sz then
        forceL (repL (ofCL z.cells.toList) len) fun cs => fillSl sz cs parts fun cs' => newD s e cs' (.sl s.next 0 len len) K else False
    | _ => False
  | _ => False
end Sx
