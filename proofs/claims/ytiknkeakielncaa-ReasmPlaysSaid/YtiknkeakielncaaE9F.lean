/- Ranges over maps: an iterator hands out the entries in any order. Conditions: none. -/
import Derived.Test.YtiknkeakielncaaE9E
import Derived.Maps.RangeRun
namespace Sx
open Go

/-- One step of a range over a map: it is over, or any entry comes that did not come yet. -/
inductive NextOb (nm : List (Nat × Plc)) (ks : KS) (l : List (List Int × Value)) (done : List Nat) (K0 : Prop) (K1 : SV → SV → Nat → Prop) : Prop
  | mk (h0 : (∀ i, i < l.length → i ∈ done) → K0) (h1 : ∀ (i : Nat) key v, l[i]? = some (key, v) → i ∉ done → ∃ ksv vsv, den nm ksv = some (ks.val key) ∧ den nm vsv = some v ∧ K1 ksv vsv i)
def rangeD (P : Program) (s : St) (t : TypeId) (x : SV) (K : SV → St → Prop) : Prop :=
  match x with
  | .map n => match P.underlying t with
    | some (.map _ _) => match s with
      | ⟨k, env, nm, next, hp⟩ => match getN nm next with
        | some _ => False
        | none => pickD hp n fun e rest => match e with
          | .mp n1 ks l => ∀ b : Nat, K (.ptr next 0) ⟨k, env, (next, .at b 0) :: nm, next + 1, .it n1 next ks l [] :: rest⟩
          | _ => False
    | _ => False
  | _ => False
def nextD (s : St) (x : SV) (K : SV → St → Prop) : Prop :=
  match x with
  | .ptr m 0 => match s with
    | ⟨k, env, nm, next, hp⟩ => pickD hp m fun e rest => match e with
      | .it n m1 ks l done => NextOb nm ks l done (K (.tuple [.ff]) ⟨k, env, nm, next, .it n m1 ks l done :: rest⟩) (fun a b i => K (.tuple [.tt, a, b]) ⟨k, env, nm, next, .it n m1 ks l (done ++ [i]) :: rest⟩)
      | _ => False
  | _ => False
theorem At.join2 {f : HP} {A B C : Asn} {As : List Asn} {w : World} (h : At f (A :: B :: As) w) (g : ∀ h, sep A B h → C h) : At f (C :: As) w := by
  obtain ⟨x, s, y, z, t, hy, y2, z2, t2, hy2, hz2⟩ := h
  exact ⟨x, s, un y y2, z2, t.assoc t2, g _ ⟨y, y2, t.un_left t2, hy, hy2⟩, hz2⟩
theorem At.part2 {f : HP} {A B C : Asn} {As : List Asn} {w : World} (h : At f (C :: As) w) (g : ∀ h, C h → sep A B h) : At f (A :: B :: As) w := by
  obtain ⟨x, s, y, z, t, hy, hz⟩ := h
  obtain ⟨a, b, t2, ha, hb⟩ := g _ hy
  obtain ⟨h1, h2⟩ := t.assoc' t2
  exact ⟨x, s, a, un b z, h1, ha, b, z, h2, hb, hz⟩
theorem sep_comm {A B : Asn} {h : HP} (k : sep A B h) : sep B A h := let ⟨a, b, s, ha, hb⟩ := k; ⟨b, a, s.comm, hb, ha⟩
theorem rangeD_runs {P : Program} {f : HP} {w0 : World} {s : St} {a : Act} {w : World} {t : TypeId} {x : SV} {v : Value} {K : SV → St → Prop} (h : rangeD P s t x K) (r : Rel f w0 s a w) (hx : den s.nm x = some v) :
    ∃ sv v' s' w', K sv s' ∧ Rel f w0 s' a w' ∧ den s'.nm sv = some v' ∧ (Instr.range t v).run P w = .ok v' w' ∧ NmExt s.nm s'.nm := by
  unfold rangeD at h
  split at h <;> try exact h.elim
  rename_i n
  split at h <;> try exact h.elim
  rename_i kt et ht
  obtain ⟨k, env, nm, next, hp⟩ := s
  simp only at h
  split at h <;> try exact h.elim
  rename_i hn
  obtain ⟨e, rest, hh, pm, hnm⟩ := pickD_some h
  clear h
  split at hh <;> try exact hh.elim
  rename_i n1 ks l
  simp only [Ent.name, Option.some.injEq] at hnm; subst hnm
  have hk := hh w.heap.size
  have hx' := NmExt.push (l := .at w.heap.size 0) hn
  have hg : getN ((next, Plc.at w.heap.size 0) :: nm) next = some (.at w.heap.size 0) := by simp [getN]
  obtain ⟨b, es, clock, g1, g2, g3, g4, g5, hat⟩ := ent_mp ((r.heap.ext hx').pick pm)
  have hv : v = .map (some b) := by
    have := den_ext hx' _ _ hx
    simp only [den, g1, Option.some.injEq] at this
    exact this.symm
  subst hv
  refine ⟨_, _, _, w.alloc (.mapIter (some b) clock #[] clock), hk, ⟨r.defers.str (.alloc w _), r.size, r.env.ext hx', ?_, r.str.trans (.alloc w _)⟩, by simp [den, hg, locAddr], run_range_map w t kt et b es clock ht g2, hx'⟩
  refine (hat.new (.mapIter (some b) clock #[] clock) rfl).join2 fun y hy => ⟨b, w.heap.size, g1, hg, es.toList, clock, clock, clock, #[], ?_, g3, g4, g5, g5.2, Nat.le_refl _, rfl, fun i e he => by simp, fun i h => by simp at h⟩
  simpa using sep_comm hy
theorem nextD_runs {P : Program} {f : HP} {w0 : World} {s : St} {a : Act} {w : World} {ty : TypeId} {x : SV} {v : Value} {K : SV → St → Prop} (h : nextD s x K) (r : Rel f w0 s a w) (hx : den s.nm x = some v) :
    ∃ sv v' s' w', K sv s' ∧ Rel f w0 s' a w' ∧ den s'.nm sv = some v' ∧ (Instr.next v false ty).run P w = .ok v' w' ∧ s'.nm = s.nm := by
  unfold nextD at h
  split at h <;> try exact h.elim
  rename_i m
  obtain ⟨k, env, nm, next, hp⟩ := s
  simp only at h
  obtain ⟨e, rest, hh, pm, hnm⟩ := pickD_some h
  clear h
  split at hh <;> try exact hh.elim
  rename_i n m1 ks l done
  simp only [Ent.name, Option.some.injEq] at hnm; subst hnm
  obtain ⟨h0, h1⟩ := hh
  have hat := r.heap.pick pm
  obtain ⟨x0, s0, y0, z0, t0, ⟨b, c, gb, gc, es, clock, since, c0, seen, hsep, g3, g4, g5, g6, g7, g8, g9, g10⟩, hz0⟩ := id hat
  have hat2 : At f (pt b (.map es.toArray clock) :: pt c (.mapIter (some b) since seen c0) :: rest.map (entDen nm)) w := At.part2 (C := fun h => h = y0) ⟨x0, s0, y0, z0, t0, rfl, hz0⟩ fun h e => by subst e; exact hsep
  have hb := hat2.block
  have hc := (hat2.perm (List.Perm.swap _ _ _)).block
  simp only at hx
  simp only [den, gc, locAddr, Option.some.injEq, Nat.add_zero] at hx
  subst hx
  rcases run_next_at (P := P) w ty c b since c0 seen es.toArray clock hc hb (by simpa using g6) g7 with ⟨hl, hrun⟩ | ⟨e, he, w1, hw1, hrun⟩
  · refine ⟨_, _, _, w, h0 (fun i hi => ?_), ⟨r.defers, r.size, r.env, hat, r.str⟩, rfl, hrun, rfl⟩
    have hil : i < es.length := by
      have := congrArg List.length g3
      simp only [List.length_map] at this
      omega
    have hei := List.getElem?_eq_getElem hil
    refine (g9 i _ hei).1 ?_
    cases hs : seen.contains es[i].born with
    | true => simpa using hs
    | false =>
      have hm : es[i] ∈ leftOf es.toArray seen := by
        unfold leftOf
        rw [Array.mem_filter]
        exact ⟨by simp, by rw [hs]; rfl⟩
      have : 0 < (leftOf es.toArray seen).size := by
        obtain ⟨j, hj, _⟩ := Array.getElem_of_mem hm
        omega
      omega
  · have hm : e ∈ es ∧ e.born ∉ seen := by
      unfold leftOf at he
      simp only [Array.mem_toList_iff, Array.mem_filter, List.mem_toArray] at he
      exact ⟨he.1, by simpa using he.2⟩
    obtain ⟨i, hil, hie⟩ := List.getElem_of_mem hm.1
    have hei : es[i]? = some e := by rw [List.getElem?_eq_getElem hil, hie]
    have hnd : i ∉ done := fun hd => hm.2 ((g9 i e hei).2 hd)
    have hli : i < l.length := by
      have := congrArg List.length g3
      simp only [List.length_map] at this
      omega
    have hl := List.getElem?_eq_getElem hli
    generalize l[i] = p at hl
    obtain ⟨key, u⟩ := p
    have hkv : e.key = ks.val key ∧ e.val = u := by
      have h2 : (es.map (fun e => (e.key, e.val)))[i]? = (l.map (fun p => (ks.val p.1, p.2)))[i]? := by rw [g3]
      rw [List.getElem?_map, List.getElem?_map, hei, hl] at h2
      simpa using h2
    obtain ⟨ksv, vsv, d1, d2, hk⟩ := h1 i key u hl hnd
    have hheap : w1.heap = w.heap := by rcases hw1 with rfl | rfl <;> rfl
    have hc1 : w1.heap[c]? = some (.mapIter (some b) since seen c0) := by rw [hheap]; exact hc
    have hr : ∀ k, k ≠ c → (w1.heap.setIfInBounds c (.mapIter (some b) since (seen.push e.born) clock))[k]? = w1.heap[k]? := fun k hk => by
      rw [Array.getElem?_setIfInBounds_ne (fun e => hk e.symm)]
    have hcl : c < w1.heap.size := (Array.getElem?_eq_some_iff.1 hc1).1
    have st : Str w (ChangeMaps.setBlock w1 c (.mapIter (some b) since (seen.push e.born) clock)) := by
      refine Str.one (b := c) ?_ ?_ ?_ hc rfl ?_ (fun k hk => ?_) ?_
      · rcases hw1 with rfl | rfl <;> rfl
      · rcases hw1 with rfl | rfl <;> rfl
      · rcases hw1 with rfl | rfl <;> rfl
      · show _ ≤ (w1.heap.setIfInBounds c _).size
        rw [Array.size_setIfInBounds, hheap]; exact Nat.le_refl _
      · exact (hr k hk).trans (by rw [hheap])
      · rcases hw1 with rfl | rfl
        · exact Nat.le_refl _
        · exact Nat.le_succ _
    have hat3 : At f (pt c (.mapIter (some b) since seen c0) :: pt b (.map es.toArray clock) :: rest.map (entDen nm)) w1 := (hat2.perm (List.Perm.swap _ _ _)).heap hheap
    have hat4 : At f (pt c (.mapIter (some b) since (seen.push e.born) clock) :: pt b (.map es.toArray clock) :: rest.map (entDen nm)) (ChangeMaps.setBlock w1 c (.mapIter (some b) since (seen.push e.born) clock)) :=
      hat3.put (by show (w1.heap.setIfInBounds c _)[c]? = _; simp [hcl]) rfl hr
    refine ⟨_, .tuple #[.bool true, e.key, e.val], _, _, hk, ⟨r.defers.str st, r.size, r.env, ?_, r.str.trans st⟩, ?_, hrun, rfl⟩
    · refine hat4.join2 fun y hy => ⟨b, c, gb, gc, es, clock, since, clock, seen.push e.born, sep_comm hy, g3, g4, g5, g6, ?_, rfl, fun j e' hj => ?_, fun j hj => ⟨e, seen, by simp at hj; subst hj; exact hei, rfl⟩⟩
      · rw [← g8]; exact g7
      · rw [Array.mem_push, List.mem_append, List.mem_singleton, g9 j e' hj]
        constructor
        · rintro (h | h)
          · exact .inl h
          · right
            have hjl := (List.getElem?_eq_some_iff.1 hj).1
            have a1 : (es.map (·.born))[j]? = some e'.born := by rw [List.getElem?_map, hj]; rfl
            have a2 : (es.map (·.born))[i]? = some e.born := by rw [List.getElem?_map, hei]; rfl
            rw [h] at a1
            have b1 := (List.getElem?_eq_some_iff.1 a1).1
            have b2 := (List.getElem?_eq_some_iff.1 a2).1
            rw [List.getElem?_eq_getElem b1] at a1
            rw [List.getElem?_eq_getElem b2] at a2
            exact (List.getElem_inj g5.1).1 (Option.some.inj (a1.trans a2.symm))
        · rintro (h | rfl)
          · exact .inl h
          · rw [hei] at hj; cases hj; exact .inr rfl
    · simp only [den, denL, d1, d2, consO, mapO, hkv.1, hkv.2]
/-- The round's key and value. -/
inductive LastOb (nm : List (Nat × Plc)) (ks : KS) (l : List (List Int × Value)) (done : List Nat) (K : SV → SV → Prop) : Prop
  | mk (i : Nat) (key : List Int) (v : Value) (ksv vsv : SV) (hi : done.getLast? = some i) (hl : l[i]? = some (key, v)) (d1 : den nm ksv = some (ks.val key)) (d2 : den nm vsv = some v) (k : K ksv vsv)
def entryD (s : St) (x : SV) (K : SV → Prop) : Prop :=
  match x with
  | .ptr m 0 => pickD s.hp m fun e _ => match e with
    | .it _ _ ks l done => LastOb s.nm ks l done fun a b => K (.tuple [a, b])
    | _ => False
  | _ => False
theorem entryD_runs {P : Program} {f : HP} {w0 : World} {s : St} {a : Act} {w : World} {x : SV} {v : Value} {K : SV → Prop} (h : entryD s x K) (r : Rel f w0 s a w) (hx : den s.nm x = some v) :
    ∃ sv v', K sv ∧ den s.nm sv = some v' ∧ (Instr.entry v).run P w = .ok v' w := by
  unfold entryD at h
  split at h <;> try exact h.elim
  rename_i m
  obtain ⟨e, rest, hh, pm, hnm⟩ := pickD_some h
  clear h
  split at hh <;> try exact hh.elim
  rename_i n m1 ks l done
  simp only [Ent.name, Option.some.injEq] at hnm; subst hnm
  obtain ⟨i, key, u, ksv, vsv, hi, hl, d1, d2, k⟩ := hh
  have hat := r.heap.pick pm
  obtain ⟨x0, s0, y0, z0, t0, ⟨b, c, gb, gc, es, clock, since, c0, seen, hsep, g3, g4, g5, g6, g7, g8, g9, g10⟩, hz0⟩ := id hat
  have hat2 : At f (pt b (.map es.toArray clock) :: pt c (.mapIter (some b) since seen c0) :: rest.map (entDen s.nm)) w := At.part2 (C := fun h => h = y0) ⟨x0, s0, y0, z0, t0, rfl, hz0⟩ fun h e => by subst e; exact hsep
  have hb := hat2.block
  have hc := (hat2.perm (List.Perm.swap _ _ _)).block
  simp only [den, gc, locAddr, Option.some.injEq, Nat.add_zero] at hx
  subst hx
  obtain ⟨e, s1, he, rfl⟩ := g10 i hi
  subst g8
  have hkv : e.key = ks.val key ∧ e.val = u := by
    have h2 : (es.map (fun e => (e.key, e.val)))[i]? = (l.map (fun p => (ks.val p.1, p.2)))[i]? := by rw [g3]
    rw [List.getElem?_map, List.getElem?_map, he, hl] at h2
    simpa using h2
  refine ⟨_, .tuple #[e.key, e.val], k, ?_, run_entry_at (P := P) w c b since s1 es.toArray c0 e hc hb (by simpa using List.mem_of_getElem? he) (by simpa using g5.1)⟩
  simp only [den, denL, d1, d2, consO, mapO, hkv.1, hkv.2]
/-- How many entries a map has. -/
def mapArg (env : List (Nat × SV)) : List Operand → Option Nat
  | [x] => match ev env x with
    | some (.map n) => some n
    | _ => none
  | _ => none
def mapLenD (P : Program) (s : St) (t : TypeId) (n : Nat) (K : SV → Prop) : Prop :=
  match P.underlying t with
  | some (.map _ _) => pickD s.hp n fun e _ => match e with
    | .mp _ _ l => K (.int .i64 l.length)
    | _ => False
  | _ => False
theorem mapLenD_runs {P : Program} {f : HP} {w0 : World} {s : St} {a : Act} {w : World} {t ty : TypeId} {n : Nat} {v : Value} {K : SV → Prop} (h : mapLenD P s t n K) (r : Rel f w0 s a w) (hx : den s.nm (.map n) = some v) :
    ∃ sv v', K sv ∧ den s.nm sv = some v' ∧ (Builtin.len_ #[t] ty #[v]).run P w = .ok v' w := by
  unfold mapLenD at h
  split at h <;> try exact h.elim
  rename_i kt et ht
  obtain ⟨e, rest, hh, pm, hnm⟩ := pickD_some h
  clear h
  split at hh <;> try exact hh.elim
  rename_i n1 ks l
  simp only [Ent.name, Option.some.injEq] at hnm; subst hnm
  obtain ⟨b, es, clock, g1, g2, g3, g4, _, _⟩ := ent_mp (r.heap.pick pm)
  simp only [den, g1, Option.some.injEq] at hx; subst hx
  refine ⟨_, _, hh, rfl, ?_⟩
  have hl : es.size = l.length := by
    have := congrArg List.length g3
    simpa using this
  simp only [Builtin.len_, List.getElem?_toArray, List.getElem?_cons_zero, Sem.run_bind, underlying_run ht, Result.andThen_ok, run_getMap g2, Sem.run_pure, goInt, hl]
/-- What is ranged over no more. -/
theorem it_drop {nm : List (Nat × Plc)} {n m : Nat} {ks : KS} {l : List (List Int × Value)} {done : List Nat} {As : List Asn} {h : HP} (k : sat (entDen nm (.it n m ks l done) :: As) h) : sat (entDen nm (.mp n ks l) :: As) h := by
  obtain ⟨x, y, t, ⟨b, c, gb, gc, es, clock, since, c0, seen, ⟨p, q, t2, hp, hq⟩, g3, g4, g5, _⟩, hy⟩ := k
  obtain ⟨h1, h2⟩ := t.assoc' t2
  exact ⟨p, un q y, h1, ⟨b, gb, es, clock, hp, g3, g4, g5⟩, sat_more h2 hy⟩
end Sx
