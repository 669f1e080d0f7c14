/- reasm: the table as it lies; the order of what waits. Conditions: none. -/
import Derived.Test.YtiknkeakielncaaRsF
namespace Go.Proofs.Ytiknkeakielncaa.Rs
open Go Go.Proofs Sx
set_option maxRecDepth 100000
set_option linter.unusedVariables false
set_option linter.unusedSimpArgs false
set_option maxHeartbeats 4000000

/-- The first piece, as it lies. -/
structure Fst where
  b : Nat
  i : Pl
  po : Plc
  pd : Plc
  co : Nat
  cd : Nat
def Fst.ip (x : Fst) : Ip := Ip.own x.i x.po x.pd x.co x.cd
def Fst.parts (x : Fst) : List Asn := [pt x.b (.cells x.ip.vals.toArray 40 (0, 0)), Vec x.po 5 1 x.co (U.flat x.i.opts), Vec x.pd 5 1 x.cd (U.flat x.i.data)]
/-- What waits. -/
structure Kp where
  k : Key
  w : Nat
  p : Pk
  fi : Option Fst
def fiA : Option Fst → List Asn
  | some y => y.parts
  | none => []
def Kp.A (x : Kp) : Asn := fun h => sat (PkA x.w x.p :: fiA x.fi) h
def Kp.ent (x : Kp) : List Int × Value := (x.k.l, pp x.w)
structure Tb where
  b : Nat
  mb : Nat
  most : Int
  life : Int
  next : Int
def Tb.vals (t : Tb) : List Value := [.int .i64 t.most, .int .i64 t.life, .map (some t.mb), .int .i64 t.next]
def Hd0 (t : Tb) : Asn := pt t.b (.cells t.vals.toArray 139 (0, 0))
def TbL (t : Tb) (L : List Kp) : List Asn := [Hd0 t, MapA t.mb K4 (L.map Kp.ent), Alls (L.map Kp.A)]
structure KpOK (x : Kp) : Prop where
  fst : x.p.fst = x.fi.map (·.b)
  wf : WF x.p.ts
  lo : ∀ s ∈ x.p.ll, 0 ≤ s.at_ ∧ s.stop ≤ 70000
  cap : x.p.ll.length ≤ x.p.cap
  at_ : x.p.ll ≠ [] → ∃ b o, x.p.pl = .at b o
  caps : ∀ s ∈ x.p.ll, s.bs.length ≤ s.cap
  last : -1 ≤ x.p.last ∧ x.p.last ≤ 70000
  fis : ∀ y, x.fi = some y → y.i.opts.length ≤ y.co ∧ y.i.opts.length ≤ 1000000
structure TbOK (t : Tb) (L : List Kp) : Prop where
  ok : ∀ x ∈ L, KpOK x
  num : L.Pairwise (fun x y => x.p.num < y.p.num)
  next : ∀ x ∈ L, x.p.num < t.next
  keys : L.Pairwise (fun x y => x.k ≠ y.k)
  few : L.length ≤ 1000
/-- What a frame tells of the table. -/
structure TSee (t : Tb) (L : List Kp) (f : HP) : Prop where
  c2 : fcell f t.b 2 = some (.map (some t.mb))
  mp : ∃ (es : List MapEntry) (clock : Nat), f t.mb = some (.map es.toArray clock) ∧ es.map (fun e => (e.key, e.val)) = (L.map Kp.ent).map (fun p => (K4.val p.1, p.2)) ∧ ∀ p ∈ L.map Kp.ent, K4.ok p.1
  num : ∀ x ∈ L, fcell f x.w 4 = some (.int .i64 x.p.num)
theorem TSee.mono {t : Tb} {L : List Kp} {f f' b : HP} (s : Split f' b f) (h : TSee t L f) : TSee t L f' := by
  obtain ⟨es, clock, h1, h2, h3⟩ := h.mp
  exact ⟨frame_cell s h.c2, ⟨es, clock, s.get_right h1, h2, h3⟩, fun x hx => frame_cell s (h.num x hx)⟩
theorem pka_cell {w : Nat} {p : Pk} {h : HP} (k : PkA w p h) (i : Nat) (v : Value) (e : p.vals[i]? = some v) : fcell h w i = some v := by
  refine sat_cell 0 (A := pt w (.cells p.vals.toArray 154 (0, 0))) rfl (fun x kx => fcell_of (pt_get x kx) ?_) k
  simpa using e
theorem kp_cell {x : Kp} {h : HP} (k : x.A h) (i : Nat) (v : Value) (e : x.p.vals[i]? = some v) : fcell h x.w i = some v := by
  obtain ⟨a, b, s, ka, _⟩ := k
  exact fcell_sub (fun r q hq => s.get hq) (pka_cell ka i v e)
theorem kps_cell {L : List Kp} {x : Kp} (hx : x ∈ L) (h : HP) (k : Alls (L.map Kp.A) h) (i : Nat) (v : Value) (e : x.p.vals[i]? = some v) : fcell h x.w i = some v :=
  alls_cell (A := x.A) (List.mem_map.2 ⟨x, hx, rfl⟩) (fun y ky => kp_cell ky i v e) h k
theorem find_ent {L : List Kp} (hk : L.Pairwise (fun x y => x.k ≠ y.k)) {x : Kp} (hx : x ∈ L) : findL x.k.l (L.map Kp.ent) = some (pp x.w) := by
  induction L with
  | nil => cases hx
  | cons y L ih =>
    obtain ⟨h1, h2⟩ := List.pairwise_cons.1 hk
    rcases List.mem_cons.1 hx with rfl | hx
    · unfold findL; simp [Kp.ent]
    · have hne : ¬ x.k.l = y.k.l := by
        intro e
        have := h1 x hx
        obtain ⟨⟨a, b, c, d⟩, _⟩ := x
        obtain ⟨⟨a', b', c', d'⟩, _⟩ := y
        simp [Key.l] at e this
        obtain ⟨rfl, rfl, rfl, rfl⟩ := e
        simp at this
      show (if x.k.l = y.k.l then _ else _) = _
      rw [if_neg hne]
      exact ih h2 hx
theorem order1_spec (t : Tb) (L : List Kp) (hk : L.Pairwise (fun x y => x.k ≠ y.k)) (b1 : Nat) (x y : Kp) (hx : x ∈ L) (hy : y ∈ L) :
    Does Try.prog 110 #[.agg x.k.vals.toArray, .agg y.k.vals.toArray, .pointer (some ⟨b1, 0, none⟩)] (fun f => fcell f b1 0 = some (pp t.b) ∧ TSee t L f) [] (fun v q => v = .int .i64 (cmpI x.p.num y.p.num) ∧ q = []) := by
  refine Does.ofJ Try.func110 Try.call110 rfl [.agg x.k.svs, .agg y.k.svs, .raw (.pointer (some ⟨b1, 0, none⟩))] [] 0 [] rfl rfl (fun h k => k) (fun f hR => ?_)
  obtain ⟨h0, hS⟩ := hR
  intro b3 b4
  refine DrawOb.mk [(5, [9, 10, 11, 12, 13, 15, 16, 17]), (14, [0, 1, 2, 3, 4, 6, 7, 8])] (.run [0, 1, 2, 3, 4, 9, 10, 11, 12, 13] (.two 5 (.run [6, 7, 8, 14, 15, 16, 17, 18, 19] .nil) 14 (.run [15, 16, 17, 5, 6, 7, 8, 18, 19] .nil))) (by kernel_rfl) ?_
  refine RdRaw.mk (.raw (pp t.b)) _ rfl h0 ?_
  refine RdRaw.mk (.raw (.map (some t.mb))) _ rfl hS.c2 ?_
  refine RdRaw.mk (.raw (pp t.b)) _ rfl h0 ?_
  refine RdRaw.mk (.raw (.map (some t.mb))) _ rfl hS.c2 ?_
  refine ⟨?_, ?_⟩
  · refine LkF.mk K4 (L.map Kp.ent) hS.mp ?_
    refine Need.mk keys_law ?_
    refine LkOb.hit (pp x.w) (.raw (pp x.w)) (find_ent hk hx) rfl ?_
    refine Need.mk rfl ?_
    refine RdRaw.mk (.raw (.map (some t.mb))) _ rfl hS.c2 ?_
    refine Need.mk rfl ?_
    refine RdRaw.mk (.raw (pp t.b)) _ rfl h0 ?_
    refine Need.mk rfl ?_
    refine RdRaw.mk (.int .i64 x.p.num) _ rfl (hS.num x hx) ?_
    refine LkF.mk K4 (L.map Kp.ent) hS.mp ?_
    refine Need.mk keys_law ?_
    refine LkOb.hit (pp y.w) (.raw (pp y.w)) (find_ent hk hy) rfl ?_
    refine RdRaw.mk (.int .i64 x.p.num) _ rfl (hS.num x hx) ?_
    refine Need.mk rfl ?_
    refine Need.mk rfl ?_
    refine RdRaw.mk (.raw (.map (some t.mb))) _ rfl hS.c2 ?_
    refine Need.mk rfl ?_
    refine RdRaw.mk (.raw (pp t.b)) _ rfl h0 ?_
    refine Need.mk rfl ?_
    refine RdRaw.mk (.int .i64 y.p.num) _ rfl (hS.num y hy) ?_
    refine useP (.int .i64 (cmpI x.p.num y.p.num)) (cmp_spec _ _) rfl rfl ?_
    exact FinOb.mk [.int .i64 (cmpI x.p.num y.p.num)] [] rfl (fun h k => trivial) ⟨rfl, rfl⟩
  · refine LkF.mk K4 (L.map Kp.ent) hS.mp ?_
    refine Need.mk keys_law ?_
    refine LkOb.hit (pp y.w) (.raw (pp y.w)) (find_ent hk hy) rfl ?_
    refine Need.mk rfl ?_
    refine RdRaw.mk (.raw (.map (some t.mb))) _ rfl hS.c2 ?_
    refine Need.mk rfl ?_
    refine RdRaw.mk (.raw (pp t.b)) _ rfl h0 ?_
    refine Need.mk rfl ?_
    refine RdRaw.mk (.int .i64 y.p.num) _ rfl (hS.num y hy) ?_
    refine LkF.mk K4 (L.map Kp.ent) hS.mp ?_
    refine Need.mk keys_law ?_
    refine LkOb.hit (pp x.w) (.raw (pp x.w)) (find_ent hk hx) rfl ?_
    refine RdRaw.mk (.int .i64 y.p.num) _ rfl (hS.num y hy) ?_
    refine Need.mk rfl ?_
    refine Need.mk rfl ?_
    refine RdRaw.mk (.raw (.map (some t.mb))) _ rfl hS.c2 ?_
    refine Need.mk rfl ?_
    refine RdRaw.mk (.raw (pp t.b)) _ rfl h0 ?_
    refine Need.mk rfl ?_
    refine RdRaw.mk (.int .i64 x.p.num) _ rfl (hS.num x hx) ?_
    refine useP (.int .i64 (cmpI x.p.num y.p.num)) (cmp_spec _ _) rfl rfl ?_
    exact FinOb.mk [.int .i64 (cmpI x.p.num y.p.num)] [] rfl (fun h k => trivial) ⟨rfl, rfl⟩
def KL : Lay Key where
  cells := Key.vals
  sz := 4
  len _ := rfl
  one e v hv := by
    simp only [Key.vals, List.mem_cons, List.not_mem_nil, or_false] at hv
    rcases hv with rfl | rfl | rfl | rfl <;> rfl
theorem lKL (l : List Key) : (KL.flat l).length = l.length * 4 := by rw [KL.flat_length]; rfl
def KS (L : List Kp) : Lay { x : Kp // x ∈ L } where
  cells x := x.1.k.vals
  sz := 4
  len _ := rfl
  one x := KL.one x.1.k
theorem ks_flat {L : List Kp} (l : List { x : Kp // x ∈ L }) : (KS L).flat l = KL.flat (l.map (·.1.k)) := by
  induction l with
  | nil => rfl
  | cons x l ih => rw [Lay.flat_cons, ih]; rfl
theorem swoN {L : List Kp} : Go.Sort.SWO (ltOf (fun x y : { x : Kp // x ∈ L } => cmpI x.1.p.num y.1.p.num)) := by
  have e : ltOf (fun x y : { x : Kp // x ∈ L } => cmpI x.1.p.num y.1.p.num) = fun x y => decide (x.1.p.num < y.1.p.num) := by
    funext x y
    unfold ltOf cmpI
    by_cases h : x.1.p.num < y.1.p.num
    · simp [h]
    · by_cases h2 : y.1.p.num < x.1.p.num <;> simp [h, h2]
  rw [e]
  exact ⟨fun x => by simp, fun x y z h1 h2 => by simp at *; omega, fun x y z h1 h2 => by simp at *; omega⟩
theorem sort_uniq : ∀ {l m : List Kp}, l.Pairwise (fun x y => x.p.num < y.p.num) → m.Perm l → m.Pairwise (fun x y => x.p.num ≤ y.p.num) → m = l
  | [], m, _, h, _ => h.eq_nil
  | x :: l, [], _, h, _ => by have := h.length_eq; simp at this
  | x :: l, y :: m, hl, h, hm => by
    obtain ⟨a1, a2⟩ := List.pairwise_cons.1 hl
    obtain ⟨b1, b2⟩ := List.pairwise_cons.1 hm
    have e : y = x := by
      have hy := h.mem_iff.1 (List.mem_cons_self (a := y))
      rcases List.mem_cons.1 hy with e | hy
      · exact e
      have hx := h.mem_iff.2 (List.mem_cons_self (a := x))
      rcases List.mem_cons.1 hx with e | hx
      · exact e.symm
      have := a1 y hy
      have := b1 x hx
      omega
    subst e
    rw [sort_uniq a2 (List.perm_cons _ |>.1 h) b2]
theorem sortN_spec (t : Tb) (L C : List Kp) (hL : TbOK t L) (hC : C.Perm L) (b1 : Nat) (pl : Plc) (cap n : Nat) (hn : n = C.length) :
    Does Try.prog 109 #[.slice (locAddr 0 pl) n cap, .func (.func 110) #[] #[.pointer (some ⟨b1, 0, none⟩)]] (fun f => fcell f b1 0 = some (pp t.b) ∧ TSee t L f) [Vec pl 143 4 cap (KL.flat (C.map Kp.k))]
      (fun v p => v = .tuple #[] ∧ (L ≠ [] → ∃ b o, pl = .at b o) ∧ p = [Vec pl 143 4 cap (KL.flat (L.map Kp.k))]) := by
  subst hn
  have hmem : ∀ x ∈ C, x ∈ L := fun x hx => hC.mem_iff.1 hx
  have key : ∀ l' : List { x : Kp // x ∈ L }, l'.Perm (C.attach.map fun x => ⟨x.1, hmem x.1 x.2⟩) → l'.Pairwise (fun x y => ltOf (fun x y : { x : Kp // x ∈ L } => cmpI x.1.p.num y.1.p.num) y x = false) → l'.map (·.1.k) = L.map Kp.k := by
    intro l' h2 h3
    have h4 : (l'.map (·.1)).Perm L := by
      have := h2.map (fun x : { x : Kp // x ∈ L } => x.1)
      rw [List.map_map] at this
      have e : List.map ((fun x : { x : Kp // x ∈ L } => x.1) ∘ fun x : { x : Kp // x ∈ C } => ⟨x.1, hmem x.1 x.2⟩) C.attach = C := List.attach_map_subtype_val C
      rw [e] at this
      exact this.trans hC
    have h5 : (l'.map (·.1)).Pairwise (fun x y => x.p.num ≤ y.p.num) := by
      rw [List.pairwise_map]
      refine h3.imp fun {x y} h => ?_
      unfold ltOf cmpI at h
      by_cases h1 : y.1.p.num < x.1.p.num
      · simp [h1] at h
      · omega
    have h6 := congrArg (List.map Kp.k) (sort_uniq hL.num h4 h5)
    rw [List.map_map] at h6
    exact h6
  cases hcl : C with
  | nil =>
    have hL0 : L = [] := by rw [hcl] at hC; exact hC.symm.eq_nil
    subst hL0
    refine ⟨So.sortK.f6.enters rfl, fun f w hR hat => ?_⟩
    refine (Proofs.AnyF.slices_SortFunc_none (P := Try.prog) (ρ := So.sortK_ren) So.sortK (locAddr 0 pl) cap _ w).mono ?_
    rintro e' w' ⟨rfl, rfl⟩
    exact ⟨_, _, rfl, hat, ⟨rfl, by simp, rfl⟩, .refl _⟩
  | cons x0 C0 =>
    rw [← hcl]
    have hx0 : x0 ∈ L := hmem x0 (by rw [hcl]; simp)
    haveI : Inhabited { x : Kp // x ∈ L } := ⟨⟨x0, hx0⟩⟩
    have h := sortK_does So.sortK (KS L) (by decide : 0 < 4) (fun w => rfl) (fun w => rfl) (fun x y => cmpI x.1.p.num y.1.p.num) swoN 110 #[.pointer (some ⟨b1, 0, none⟩)] (fun f => fcell f b1 0 = some (pp t.b) ∧ TSee t L f) (fun f f' b hs h => ⟨frame_cell hs h.1, h.2.mono hs⟩) (fun x y => order1_spec t L hL.keys b1 x.1 y.1 x.2 y.2) 143 pl cap (C.attach.map fun x => ⟨x.1, hmem x.1 x.2⟩) (by rw [List.length_map, List.length_attach, hC.length_eq]; have := hL.few; omega)
    rw [List.length_map, List.length_attach, ks_flat, List.map_map] at h
    have e : List.map ((fun x : { x : Kp // x ∈ L } => x.1.k) ∘ fun x : { x : Kp // x ∈ C } => ⟨x.1, hmem x.1 x.2⟩) C.attach = C.map Kp.k := by
      have h6 := congrArg (List.map Kp.k) (List.attach_map_subtype_val C)
      rw [List.map_map] at h6
      exact h6
    rw [e] at h
    refine h.sure ?_
    rintro v p h' ⟨l', rfl, h2, h3, rfl⟩ hs
    have hk := key l' h2 h3
    rw [ks_flat, hk] at hs ⊢
    refine ⟨rfl, fun hne => ?_, rfl⟩
    obtain ⟨x, _, _, hx, _⟩ := hs
    exact vec_at (fun e => hne (by
      have := congrArg List.length e
      rw [lKL, List.length_map] at this
      exact List.eq_nil_of_length_eq_zero (by simp at this; omega))) hx
/-- What a range over the map has handed out. -/
structure Out (L C : List Kp) (done : List Nat) : Prop where
  nd : done.Nodup
  lt : ∀ i ∈ done, i < L.length
  eq : C = done.filterMap (fun i => L[i]?)
theorem Out.len {L C : List Kp} {done : List Nat} (h : Out L C done) : C.length = done.length := by
  rw [h.eq]
  have : ∀ d : List Nat, (∀ i ∈ d, i < L.length) → (d.filterMap (fun i => L[i]?)).length = d.length := by
    intro d
    induction d with
    | nil => intro _; rfl
    | cons a d ih =>
      intro hd
      have ha := hd a (by simp)
      rw [List.filterMap_cons, List.getElem?_eq_getElem ha]
      simp [ih (fun i hi => hd i (List.mem_cons_of_mem _ hi))]
  exact this done h.lt
theorem Out.perm {L C : List Kp} {done : List Nat} (h : Out L C done) (hall : ∀ i, i < L.length → i ∈ done) : C.Perm L := by
  have h1 : done.Perm (List.range L.length) := (List.perm_ext_iff_of_nodup h.nd List.nodup_range).2 (fun i => by rw [List.mem_range]; exact ⟨h.lt i, hall i⟩)
  rw [h.eq]
  refine (h1.filterMap _).trans (List.Perm.of_eq ?_)
  have : ∀ n, n ≤ L.length → (List.range n).filterMap (fun i => L[i]?) = L.take n := by
    intro n
    induction n with
    | zero => intro _; rfl
    | succ n ih =>
      intro hn
      rw [List.range_succ, List.filterMap_append, ih (by omega), List.take_add_one]
      simp [List.getElem?_eq_getElem (show n < L.length by omega)]
  rw [this L.length (Nat.le_refl _), List.take_length]
theorem Out.step {L C : List Kp} {done : List Nat} (h : Out L C done) {i : Nat} {x : Kp} (hx : L[i]? = some x) (hn : i ∉ done) : Out L (C ++ [x]) (done ++ [i]) := by
  refine ⟨?_, fun j hj => ?_, ?_⟩
  · rw [List.nodup_append]
    exact ⟨h.nd, by simp, fun a ha b hb => by simp at hb; subst hb; exact fun e => hn (e ▸ ha)⟩
  · rcases List.mem_append.1 hj with hj | hj
    · exact h.lt j hj
    · simp at hj; subst hj; exact (List.getElem?_eq_some_iff.1 hx).1
  · rw [List.filterMap_append, h.eq]
    simp [hx]
theorem pigeon : ∀ (n : Nat) (d : List Nat), d.Nodup → (∀ i ∈ d, i < n) → d.length ≤ n
  | 0, d, _, h => by
    cases d with
    | nil => simp
    | cons a d => exact absurd (h a (by simp)) (by omega)
  | n + 1, d, nd, h => by
    by_cases hm : n ∈ d
    · have h1 := pigeon n (d.erase n) (nd.erase n) (fun i hi => by
        have h2 := h i (List.mem_of_mem_erase hi)
        have h3 : i ≠ n := fun e => by
          subst e
          exact (nd.not_mem_erase) hi
        omega)
      rw [List.length_erase_of_mem hm] at h1
      omega
    · have h1 := pigeon n d nd (fun i hi => by
        have h2 := h i hi
        have h3 : i ≠ n := fun e => hm (e ▸ hi)
        omega)
      omega
theorem tsee_it {t : Tb} {L : List Kp} {nm : List (Nat × Plc)} {h : HP} {es : List Asn} {done : List Nat} {m : Nat} (i0 i1 i2 : Nat) (k : sat es h) (e0 : es[i0]? = some (entDen nm (.it 0 m K4 (L.map Kp.ent) done))) (hn : getN nm 0 = some (.at t.mb 0))
    (e1 : es[i1]? = some (Hd0 t)) (e2 : es[i2]? = some (Alls (L.map Kp.A))) : TSee t L h := by
  obtain ⟨x0, h0, k0⟩ := sat_sub e0 k
  obtain ⟨x1, h1, k1⟩ := sat_sub e1 k
  obtain ⟨x2, h2, k2⟩ := sat_sub e2 k
  refine ⟨fcell_sub h1 (fcell_of (pt_get x1 k1) rfl), ?_, fun x hx => fcell_sub h2 (kps_cell hx x2 k2 4 _ rfl)⟩
  obtain ⟨b, c, q1, _, es', clock, since, c0, seen, ⟨a, a', s, ka, _⟩, g1, g2, _⟩ := k0
  rw [hn] at q1
  cases q1
  exact ⟨es', clock, h0 _ _ (s.get (pt_get a ka)), g1, g2⟩
theorem tsee_mp {t : Tb} {L : List Kp} {h : HP} {es : List Asn} (i0 i1 i2 : Nat) (k : sat es h) (e0 : es[i0]? = some (MapA t.mb K4 (L.map Kp.ent)))
    (e1 : es[i1]? = some (Hd0 t)) (e2 : es[i2]? = some (Alls (L.map Kp.A))) : TSee t L h := by
  obtain ⟨x0, h0, k0⟩ := sat_sub e0 k
  obtain ⟨x1, h1, k1⟩ := sat_sub e1 k
  obtain ⟨x2, h2, k2⟩ := sat_sub e2 k
  refine ⟨fcell_sub h1 (fcell_of (pt_get x1 k1) rfl), ?_, fun x hx => fcell_sub h2 (kps_cell hx x2 k2 4 _ rfl)⟩
  obtain ⟨es', clock, ka, g1, g2, _⟩ := k0
  exact ⟨es', clock, h0 _ _ (pt_get _ ka), g1, g2⟩
theorem TSee.sub {t : Tb} {L : List Kp} {x h : HP} (s : ∀ r q, x r = some q → h r = some q) (k : TSee t L x) : TSee t L h := by
  obtain ⟨es, clock, h1, h2, h3⟩ := k.mp
  exact ⟨fcell_sub s k.c2, ⟨es, clock, s _ _ h1, h2, h3⟩, fun y hy => fcell_sub s (k.num y hy)⟩
theorem order_spec (t : Tb) (L : List Kp) (hL : TbOK t L) : Does Try.prog 83 #[pp t.b] (fun _ => True) (TbL t L)
    (fun v q => ∃ pl c, v = .slice (locAddr 0 pl) L.length c ∧ (L ≠ [] → ∃ b o, pl = .at b o) ∧ q = TbL t L ++ [Vec pl 143 4 c (KL.flat (L.map Kp.k))]) := by
  refine Does.ofJ Try.func83 Try.call83 rfl [.raw (pp t.b)] [(0, .at t.mb 0)] 1 [.asn (Hd0 t), .mp 0 K4 (L.map Kp.ent), .asn (Alls (L.map Kp.A))] rfl rfl (fun h k => sat_pick 0 rfl (by first | exact fun _ k => k | exact fun _ k => blk_to rfl rfl k | exact fun _ k => vec_to rfl k | exact fun _ k => blk_of rfl rfl k | exact fun _ k => vec_of rfl k | exact fun _ k => blk_of rfl rfl (blk_to rfl rfl k) | exact fun _ k => vec_of rfl (vec_to rfl k) | exact fun _ k => mp_to rfl k | exact fun _ k => mp_of rfl k | exact fun _ k => mp_of rfl (mp_to rfl k)) (fun h k => sat_pick 0 rfl (fun _ k => mp_of rfl k) (fun h k => sat_pick 0 rfl (by first | exact fun _ k => k | exact fun _ k => blk_to rfl rfl k | exact fun _ k => vec_to rfl k | exact fun _ k => blk_of rfl rfl k | exact fun _ k => vec_of rfl k | exact fun _ k => blk_of rfl rfl (blk_to rfl rfl k) | exact fun _ k => vec_of rfl (vec_to rfl k) | exact fun _ k => mp_to rfl k | exact fun _ k => mp_of rfl k | exact fun _ k => mp_of rfl (mp_to rfl k)) (fun h k => sat_nil k) k) k) k) (fun f hR => ?_)
  have hfew := hL.few
  intro b1
  refine RdRaw.told (.map 0) _ rfl (fun h k => sat_cell 1 rfl (fun x kx => fcell_of (pt_get x kx) rfl) k) ?_
  intro b11
  refine LoopOb.mk { z : List Nat × List Kp × Plc × Nat // Out L z.2.1 z.1 ∧ z.2.1.length ≤ z.2.2.2 } (fun z => ⟨24, [(1, .ptr 1 0), (3, .sl 3 0 z.1.2.1.length z.1.2.2.2), (11, .ptr 2 0)], [(3, z.1.2.2.1), (2, .at b11 0), (1, .at b1 0), (0, .at t.mb 0)], 4, [.blk 1 44 [.raw (pp t.b)], .asn (Hd0 t), .it 0 2 K4 (L.map Kp.ent) z.1.1, .asn (Alls (L.map Kp.A)), .vec 3 143 4 z.1.2.2.2 (KL.flat (z.1.2.1.map Kp.k))]⟩) (fun z => L.length - z.1.1.length) ⟨([], [], .nil, 0), ⟨by simp, by simp, rfl⟩, Nat.le_refl _⟩ ?_ ?_
  · exact Le.of rfl ⟨⟨_, rfl, rfl⟩, ⟨_, rfl, rfl⟩, ⟨_, rfl, rfl⟩, trivial⟩ (fun h k => sat_pick 1 rfl (by first | exact fun _ k => k | exact fun _ k => blk_to rfl rfl k | exact fun _ k => vec_to rfl k | exact fun _ k => blk_of rfl rfl k | exact fun _ k => vec_of rfl k | exact fun _ k => blk_of rfl rfl (blk_to rfl rfl k) | exact fun _ k => vec_of rfl (vec_to rfl k) | exact fun _ k => mp_to rfl k | exact fun _ k => mp_of rfl k | exact fun _ k => mp_of rfl (mp_to rfl k)) (fun h k => sat_pick 1 rfl (by first | exact fun _ k => k | exact fun _ k => blk_to rfl rfl k | exact fun _ k => vec_to rfl k | exact fun _ k => blk_of rfl rfl k | exact fun _ k => vec_of rfl k | exact fun _ k => blk_of rfl rfl (blk_to rfl rfl k) | exact fun _ k => vec_of rfl (vec_to rfl k) | exact fun _ k => mp_to rfl k | exact fun _ k => mp_of rfl k | exact fun _ k => mp_of rfl (mp_to rfl k)) (fun h k => sat_pick 0 rfl (fun _ k => k) (fun h k => sat_pick 0 rfl (by first | exact fun _ k => k | exact fun _ k => blk_to rfl rfl k | exact fun _ k => vec_to rfl k | exact fun _ k => blk_of rfl rfl k | exact fun _ k => vec_of rfl k | exact fun _ k => blk_of rfl rfl (blk_to rfl rfl k) | exact fun _ k => vec_of rfl (vec_to rfl k) | exact fun _ k => mp_to rfl k | exact fun _ k => mp_of rfl k | exact fun _ k => mp_of rfl (mp_to rfl k)) (fun h k => sat_add (vec_of rfl vec_emp) ((fun h k => sat_nil k) h k)) k) k) k) k)
  rintro ⟨⟨done, C, pl, c⟩, hO, hc⟩
  simp only at hO hc
  refine NextOb.mk (fun hall => ?_) (fun i key v hl hnd => ?_)
  · have hp := hO.perm (fun i hi => hall i (by simpa using hi))
    refine call_ix (sortN_spec t L C hL hp b1 pl c C.length rfl) rfl [4] (fun h k => sat_pick 4 rfl (fun _ k => vec_to (l := pl) rfl k) (fun h k => sat_pick 0 rfl (by first | exact fun _ k => k | exact fun _ k => blk_to rfl rfl k | exact fun _ k => vec_to rfl k | exact fun _ k => blk_of rfl rfl k | exact fun _ k => vec_of rfl k | exact fun _ k => blk_of rfl rfl (blk_to rfl rfl k) | exact fun _ k => vec_of rfl (vec_to rfl k) | exact fun _ k => mp_to rfl k | exact fun _ k => mp_of rfl k | exact fun _ k => mp_of rfl (mp_to rfl k)) (fun h k => sat_pick 0 rfl (by first | exact fun _ k => k | exact fun _ k => blk_to rfl rfl k | exact fun _ k => vec_to rfl k | exact fun _ k => blk_of rfl rfl k | exact fun _ k => vec_of rfl k | exact fun _ k => blk_of rfl rfl (blk_to rfl rfl k) | exact fun _ k => vec_of rfl (vec_to rfl k) | exact fun _ k => mp_to rfl k | exact fun _ k => mp_of rfl k | exact fun _ k => mp_of rfl (mp_to rfl k)) (fun h k => sat_pick 0 rfl (by first | exact fun _ k => k | exact fun _ k => blk_to rfl rfl k | exact fun _ k => vec_to rfl k | exact fun _ k => blk_of rfl rfl k | exact fun _ k => vec_of rfl k | exact fun _ k => blk_of rfl rfl (blk_to rfl rfl k) | exact fun _ k => vec_of rfl (vec_to rfl k) | exact fun _ k => mp_to rfl k | exact fun _ k => mp_of rfl k | exact fun _ k => mp_of rfl (mp_to rfl k)) (fun h k => sat_pick 0 rfl (by first | exact fun _ k => k | exact fun _ k => blk_to rfl rfl k | exact fun _ k => vec_to rfl k | exact fun _ k => blk_of rfl rfl k | exact fun _ k => vec_of rfl k | exact fun _ k => blk_of rfl rfl (blk_to rfl rfl k) | exact fun _ k => vec_of rfl (vec_to rfl k) | exact fun _ k => mp_to rfl k | exact fun _ k => mp_of rfl k | exact fun _ k => mp_of rfl (mp_to rfl k)) (fun h k => sat_nil k) k) k) k) k) k) (fun f' b' hs kb => ⟨?_, ?_⟩) ?_
    · exact fcell_sub (fun r q hq => hs.get hq) (sat_cell 1 rfl (fun x kx => by
        obtain ⟨b, vs, h1, h2, h3⟩ := kx
        cases h1; cases h2
        exact fcell_of (pt_get x h3) rfl) kb)
    · exact (tsee_it 0 2 3 kb rfl rfl rfl rfl).sub (fun r q hq => hs.get hq)
    rintro v post ⟨rfl, hpl, rfl⟩
    refine ⟨.tuple [], _, 4, [.asn (Vec pl 143 4 c (KL.flat (L.map Kp.k)))], NmExt.refl _, rfl, fun h k => k, ?_⟩
    refine FinOb.mk [.slice (locAddr 0 pl) C.length c] (TbL t L ++ [Vec pl 143 4 c (KL.flat (L.map Kp.k))]) rfl (fun h k => ?_) ⟨pl, c, by rw [hp.length_eq]; rfl, hpl, rfl⟩
    have k1 := it_drop ((fun h k => sat_pick 1 rfl (by first | exact fun _ k => k | exact fun _ k => blk_to rfl rfl k | exact fun _ k => vec_to rfl k | exact fun _ k => blk_of rfl rfl k | exact fun _ k => vec_of rfl k | exact fun _ k => blk_of rfl rfl (blk_to rfl rfl k) | exact fun _ k => vec_of rfl (vec_to rfl k) | exact fun _ k => mp_to rfl k | exact fun _ k => mp_of rfl k | exact fun _ k => mp_of rfl (mp_to rfl k)) (fun h k => sat_pick 0 rfl (by first | exact fun _ k => k | exact fun _ k => blk_to rfl rfl k | exact fun _ k => vec_to rfl k | exact fun _ k => blk_of rfl rfl k | exact fun _ k => vec_of rfl k | exact fun _ k => blk_of rfl rfl (blk_to rfl rfl k) | exact fun _ k => vec_of rfl (vec_to rfl k) | exact fun _ k => mp_to rfl k | exact fun _ k => mp_of rfl k | exact fun _ k => mp_of rfl (mp_to rfl k)) (fun h k => sat_pick 0 rfl (by first | exact fun _ k => k | exact fun _ k => blk_to rfl rfl k | exact fun _ k => vec_to rfl k | exact fun _ k => blk_of rfl rfl k | exact fun _ k => vec_of rfl k | exact fun _ k => blk_of rfl rfl (blk_to rfl rfl k) | exact fun _ k => vec_of rfl (vec_to rfl k) | exact fun _ k => mp_to rfl k | exact fun _ k => mp_of rfl k | exact fun _ k => mp_of rfl (mp_to rfl k)) (fun h k => sat_pick 0 rfl (by first | exact fun _ k => k | exact fun _ k => blk_to rfl rfl k | exact fun _ k => vec_to rfl k | exact fun _ k => blk_of rfl rfl k | exact fun _ k => vec_of rfl k | exact fun _ k => blk_of rfl rfl (blk_to rfl rfl k) | exact fun _ k => vec_of rfl (vec_to rfl k) | exact fun _ k => mp_to rfl k | exact fun _ k => mp_of rfl k | exact fun _ k => mp_of rfl (mp_to rfl k)) (fun h k => sat_pick 0 rfl (by first | exact fun _ k => k | exact fun _ k => blk_to rfl rfl k | exact fun _ k => vec_to rfl k | exact fun _ k => blk_of rfl rfl k | exact fun _ k => vec_of rfl k | exact fun _ k => blk_of rfl rfl (blk_to rfl rfl k) | exact fun _ k => vec_of rfl (vec_to rfl k) | exact fun _ k => mp_to rfl k | exact fun _ k => mp_of rfl k | exact fun _ k => mp_of rfl (mp_to rfl k)) (fun h k => sat_nil k) k) k) k) k) k) h k)
    exact (fun h k => sat_pick 3 rfl (by first | exact fun _ k => k | exact fun _ k => blk_to rfl rfl k | exact fun _ k => vec_to rfl k | exact fun _ k => blk_of rfl rfl k | exact fun _ k => vec_of rfl k | exact fun _ k => blk_of rfl rfl (blk_to rfl rfl k) | exact fun _ k => vec_of rfl (vec_to rfl k) | exact fun _ k => mp_to rfl k | exact fun _ k => mp_of rfl k | exact fun _ k => mp_of rfl (mp_to rfl k)) (fun h k => sat_pick 0 rfl (fun _ k => mp_to rfl k) (fun h k => sat_pick 2 rfl (by first | exact fun _ k => k | exact fun _ k => blk_to rfl rfl k | exact fun _ k => vec_to rfl k | exact fun _ k => blk_of rfl rfl k | exact fun _ k => vec_of rfl k | exact fun _ k => blk_of rfl rfl (blk_to rfl rfl k) | exact fun _ k => vec_of rfl (vec_to rfl k) | exact fun _ k => mp_to rfl k | exact fun _ k => mp_of rfl k | exact fun _ k => mp_of rfl (mp_to rfl k)) (fun h k => sat_pick 0 rfl (by first | exact fun _ k => k | exact fun _ k => blk_to rfl rfl k | exact fun _ k => vec_to rfl k | exact fun _ k => blk_of rfl rfl k | exact fun _ k => vec_of rfl k | exact fun _ k => blk_of rfl rfl (blk_to rfl rfl k) | exact fun _ k => vec_of rfl (vec_to rfl k) | exact fun _ k => mp_to rfl k | exact fun _ k => mp_of rfl k | exact fun _ k => mp_of rfl (mp_to rfl k)) (fun h k => sat_nil k) k) k) k) k) h k1
  · rw [List.getElem?_map] at hl
    cases ht : L[i]? with
    | none => rw [ht] at hl; cases hl
    | some x =>
      rw [ht] at hl
      simp only [Option.map_some, Option.some.injEq, Kp.ent, Prod.mk.injEq] at hl
      obtain ⟨rfl, rfl⟩ := hl
      refine ⟨.agg x.k.svs, .raw (pp x.w), rfl, rfl, ?_⟩
      refine LastOb.mk i x.k.l (pp x.w) (.agg x.k.svs) (.raw (pp x.w)) (by simp) (by rw [List.getElem?_map, ht]; rfl) rfl rfl ?_
      intro b4
      intro b5
      have hlC : (KL.flat (C.map Kp.k)).length = C.length * 4 := by rw [lKL, List.length_map]
      have hCl := hO.len
      refine StOb.mk (KL.cells x.k) rfl (Need.mk rfl ?_)
      have hpig := pigeon L.length done hO.nd hO.lt
      refine Need.mk ⟨by dsimp only; omega, by dsimp only; omega, hc⟩ ?_
      refine Need.mk ⟨by dsimp only; omega, by dsimp only; simp only [maxLen]; omega, KL.one _⟩ ?_
      refine NewSl.pos (Nat.succ_pos _) (fun b8 o8 c8 hc8 => ?_)
      have hfl : List.take (C.length * 4) (List.drop 0 (KL.flat (C.map Kp.k))) ++ KL.cells x.k = KL.flat ((C ++ [x]).map Kp.k) := by
        rw [List.drop_zero, List.take_of_length_le (by omega), List.map_append, KL.flat_append]
        exact congrArg _ (KL.flat_one x.k).symm
      have e3 : (C ++ [x]).length = C.length + 1 := List.length_append
      have hO2 := hO.step ht hnd
      have hlen2 := pigeon L.length (done ++ [i]) hO2.nd hO2.lt
      exact ⟨⟨(done ++ [i], C ++ [x], .at b8 o8, c8), hO2, by show (C ++ [x]).length ≤ c8; rw [e3]; exact hc8⟩, by show L.length - (done ++ [i]).length < L.length - done.length; rw [List.length_append, List.length_singleton] at hlen2 ⊢; omega, Le.of rfl ⟨⟨_, rfl, rfl⟩, ⟨_, rfl, (congrArg (fun n => some (Value.slice (some ⟨b8, o8 + 0, none⟩) n c8)) e3.symm)⟩, ⟨_, rfl, rfl⟩, trivial⟩ (fun h k => sat_pick 4 rfl (by first | exact fun _ k => k | exact fun _ k => blk_to rfl rfl k | exact fun _ k => vec_to rfl k | exact fun _ k => blk_of rfl rfl k | exact fun _ k => vec_of rfl k | exact fun _ k => blk_of rfl rfl (blk_to rfl rfl k) | exact fun _ k => vec_of rfl (vec_to rfl k) | exact fun _ k => mp_to rfl k | exact fun _ k => mp_of rfl k | exact fun _ k => mp_of rfl (mp_to rfl k)) (fun h k => sat_pick 4 rfl (by first | exact fun _ k => k | exact fun _ k => blk_to rfl rfl k | exact fun _ k => vec_to rfl k | exact fun _ k => blk_of rfl rfl k | exact fun _ k => vec_of rfl k | exact fun _ k => blk_of rfl rfl (blk_to rfl rfl k) | exact fun _ k => vec_of rfl (vec_to rfl k) | exact fun _ k => mp_to rfl k | exact fun _ k => mp_of rfl k | exact fun _ k => mp_of rfl (mp_to rfl k)) (fun h k => sat_pick 3 rfl (fun _ k => k) (fun h k => sat_pick 3 rfl (by first | exact fun _ k => k | exact fun _ k => blk_to rfl rfl k | exact fun _ k => vec_to rfl k | exact fun _ k => blk_of rfl rfl k | exact fun _ k => vec_of rfl k | exact fun _ k => blk_of rfl rfl (blk_to rfl rfl k) | exact fun _ k => vec_of rfl (vec_to rfl k) | exact fun _ k => mp_to rfl k | exact fun _ k => mp_of rfl k | exact fun _ k => mp_of rfl (mp_to rfl k)) (fun h k => sat_pick 0 rfl (fun _ k9 => by exact vec_of rfl (vec_cast hfl (vec_to (l := .at b8 o8) rfl k9))) (fun h k => sat_nil k) k) k) k) k) k)⟩
end Go.Proofs.Ytiknkeakielncaa.Rs
