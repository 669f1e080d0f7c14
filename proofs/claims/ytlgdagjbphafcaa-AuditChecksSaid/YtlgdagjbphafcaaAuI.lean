/- audit: the program's book of entries. Conditions: none. -/
import Derived.Test.YtlgdagjbphafcaaAuH
namespace Go.Proofs.Ytlgdagjbphafcaa.Au
open Go Go.Proofs Sx
set_option maxRecDepth 100000
set_option linter.unusedVariables false
set_option linter.unusedSimpArgs false
set_option maxHeartbeats 4000000

theorem two {k : List Int} (h : k.length = [IntKind.i64, IntKind.i64].length) : ∃ a b, k = [a, b] := by
  match k, h with
  | [a, b], _ => exact ⟨a, b, rfl⟩
theorem keys_law : MapLaw Try.prog 143 (.many [.i64, .i64]) := by
  refine MapLaw.many Try.underlying143 Try.underlying196 ?_ ?_
  · intro k hk e w
    obtain ⟨a, b, rfl⟩ := two hk
    have h1 := checkKey_int (P := Try.prog) (kt := 3) (k := .i64) (m := a) Try.underlying3 9998 e w
    have h2 := checkKey_int (P := Try.prog) (kt := 3) (k := .i64) (m := b) Try.underlying3 9998 e w
    show (Instr.checkKey e (9999 + 1) 196 (.agg #[.int .i64 a, .int .i64 b])).run Try.prog w = _
    unfold Instr.checkKey
    simp only [Sem.run_bind, underlying_run Try.underlying196, Result.andThen_ok]
    simp [part, isAgg, underlying_run Try.underlying3, Sem.run_bind, h1, h2]
  · intro k k' hk hk' w
    obtain ⟨a, b, rfl⟩ := two hk
    obtain ⟨c, d, rfl⟩ := two hk'
    obtain ⟨r, hr, he⟩ := eqD_runs (P := Try.prog) (nm := []) 9997 3 (t := 196) (a := .agg [.int .i64 a, .int .i64 b]) (b := .agg [.int .i64 c, .int .i64 d]) (K := fun r => r = decide ([a, b] = [c, d])) (by kernel_rfl) (by
      show (a == c && (b == d && true)) = _
      by_cases h1 : a = c <;> by_cases h2 : b = d <;> simp [h1, h2]) rfl rfl
    rw [hr] at he
    exact he w
/-- All of these parts. -/
def Alls (As : List Asn) : Asn := fun h => sat As h
theorem alls_nil : Alls [] HP.emp := trivial
theorem alls_out {As Bs Cs : List Asn} {A : Asn} {h : HP} (k : sat (Alls (As ++ A :: Bs) :: Cs) h) : sat (A :: Alls (As ++ Bs) :: Cs) h := by
  obtain ⟨x, y, t, hx, hy⟩ := k
  have h1 : sat ((As ++ A :: Bs) ++ Cs) h := sat_join t (show sat (As ++ A :: Bs) x from hx) hy
  have h2 : sat (A :: ((As ++ Bs) ++ Cs)) h := sat_perm (by rw [List.append_assoc, List.append_assoc]; exact List.perm_middle) h1
  obtain ⟨u, v, t2, hu, hv⟩ := h2
  obtain ⟨a, b, t3, ha, hb⟩ := sat_append hv
  exact ⟨u, v, t2, hu, a, b, t3, ha, hb⟩
theorem alls_in {As Bs : List Asn} {A : Asn} (h : HP) (k : sat [A, Alls (As ++ Bs)] h) : Alls (As ++ A :: Bs) h := by
  obtain ⟨x, y, t, hx, u, v, t2, hu, _⟩ := k
  have h1 : sat (As ++ Bs) y := sat_more t2.comm hu
  exact sat_perm List.perm_middle.symm (show sat (A :: (As ++ Bs)) h from ⟨x, y, t, hx, h1⟩)
abbrev Z := X × Nat × Option Nat
structure P where
  h : Int
  c : Int
  pl : Plc
  cap : Nat
def PLy : Lay Nat where
  cells b := [.pointer (some ⟨b, 0, none⟩)]
  sz := 1
  len _ := rfl
  one e v hv := by
    simp only [List.mem_cons, List.not_mem_nil, or_false] at hv
    subst hv; rfl
theorem lP (l : List Nat) : (PLy.flat l).length = l.length := by rw [PLy.flat_length]; simp [PLy]
def ids (zs : List Z) (h c : Int) : List Nat := (zs.filter (fun z => placed h c z.1)).map (·.2.1)
def P.key (zs : List Z) (p : P) : List Int × Value := ([p.h, p.c], .slice (locAddr 0 p.pl) (ids zs p.h p.c).length p.cap)
def P.vec (zs : List Z) (p : P) : Asn := Vec p.pl 182 1 p.cap (PLy.flat (ids zs p.h p.c))
def zblk (z : Z) : Blk := sblk z.2.1 z.1 z.2.2
abbrev K2 : Sx.KS := .many [.i64, .i64]
def Bk (rb mb : Nat) (ps : List P) (zs : List Z) : List Asn :=
  [pt rb (.cells #[.map (some mb)] 145 (0, 0)), MapA mb K2 (ps.map (P.key zs)), Alls (ps.map (P.vec zs)), Blks (zs.map zblk)]
def AhZ (zs : List Z) (z : Z) : Prop := if z.1.tied then ∃ a ∈ zs, hit z.1.host z.1.ctx (z.1.ticket - 1) a.1 = true ∧ z.2.2 = some a.2.1 else z.2.2 = none
structure Inv (ps : List P) (zs : List Z) : Prop where
  nd : (ps.map (fun p => (p.h, p.c))).Nodup
  cover : ∀ z ∈ zs, ∃ p ∈ ps, p.h = z.1.host ∧ p.c = z.1.ctx
  cap : ∀ p ∈ ps, (ids zs p.h p.c).length ≤ p.cap
  some : ∀ p ∈ ps, ids zs p.h p.c ≠ []
  at_ : ∀ p ∈ ps, ∃ b o, p.pl = .at b o
  wf : WF (zs.map (·.1))
  ah : ∀ z ∈ zs, AhZ zs z
  few : zs.length ≤ 10000
  gn : ∀ z ∈ zs, z.1.ended = false → z.1.gone = false
theorem inv_nil : Inv [] [] := ⟨.nil, by simp, by simp, by simp, by simp, wf_nil, by simp, by simp, by simp⟩
/-! ### The map's keys -/
theorem find_none {zs : List Z} {h c : Int} : ∀ {ps : List P}, (∀ p ∈ ps, ¬ (p.h = h ∧ p.c = c)) → findL [h, c] (ps.map (P.key zs)) = none
  | [], _ => rfl
  | p :: ps, hp => by
    have h1 := hp p (by simp)
    show findL [h, c] (([p.h, p.c], _) :: _) = none
    unfold findL
    rw [if_neg (by simp only [List.cons.injEq, and_true]; intro e; exact h1 ⟨e.1.symm, e.2.symm⟩)]
    exact find_none fun q hq => hp q (List.mem_cons_of_mem _ hq)
theorem find_split {zs : List Z} {p : P} {p2 : List P} : ∀ {p1 : List P}, (∀ q ∈ p1, ¬ (q.h = p.h ∧ q.c = p.c)) → findL [p.h, p.c] ((p1 ++ p :: p2).map (P.key zs)) = some (P.key zs p).2
  | [], _ => by
    show findL [p.h, p.c] (([p.h, p.c], _) :: _) = _
    unfold findL
    rw [if_pos rfl]; rfl
  | q :: p1, hp => by
    have h1 := hp q (by simp)
    show findL [p.h, p.c] (([q.h, q.c], _) :: _) = _
    unfold findL
    rw [if_neg (by simp only [List.cons.injEq, and_true]; intro e; exact h1 ⟨e.1.symm, e.2.symm⟩)]
    exact find_split fun q hq => hp q (List.mem_cons_of_mem _ hq)
theorem put_none {zs : List Z} {h c : Int} {v : Value} : ∀ {ps : List P}, (∀ p ∈ ps, ¬ (p.h = h ∧ p.c = c)) → updL [h, c] v (ps.map (P.key zs)) = ps.map (P.key zs) ++ [([h, c], v)]
  | [], _ => rfl
  | p :: ps, hp => by
    have h1 := hp p (by simp)
    show updL [h, c] v (([p.h, p.c], _) :: _) = _
    unfold updL
    rw [if_neg (by simp only [List.cons.injEq, and_true]; intro e; exact h1 ⟨e.1.symm, e.2.symm⟩), put_none fun q hq => hp q (List.mem_cons_of_mem _ hq)]
    rfl
theorem put_split {zs : List Z} {p : P} {v : Value} {p2 : List P} : ∀ {p1 : List P}, (∀ q ∈ p1, ¬ (q.h = p.h ∧ q.c = p.c)) → updL [p.h, p.c] v ((p1 ++ p :: p2).map (P.key zs)) = p1.map (P.key zs) ++ ([p.h, p.c], v) :: p2.map (P.key zs)
  | [], _ => by
    show updL [p.h, p.c] v (([p.h, p.c], _) :: _) = _
    unfold updL
    rw [if_pos rfl]; rfl
  | q :: p1, hp => by
    have h1 := hp q (by simp)
    show updL [p.h, p.c] v (([q.h, q.c], _) :: _) = _
    unfold updL
    rw [if_neg (by simp only [List.cons.injEq, and_true]; intro e; exact h1 ⟨e.1.symm, e.2.symm⟩)]
    have h2 := put_split (zs := zs) (v := v) (p2 := p2) (p := p) (p1 := p1) fun q hq => hp q (List.mem_cons_of_mem _ hq)
    show ([q.h, q.c], _) :: updL [p.h, p.c] v ((p1 ++ p :: p2).map (P.key zs)) = _
    rw [h2]; rfl
/-! ### Tickets -/
theorem ids_length (zs : List Z) (h c : Int) : (ids zs h c).length = count (zs.map (·.1)) h c := by
  unfold ids count
  rw [List.length_map, List.countP_map, List.countP_eq_length_filter]; rfl
theorem place_ticket {zs : List Z} (w : WF (zs.map (·.1))) {h c : Int} {t : Nat} {z : Z} (hz : (zs.filter (fun z => placed h c z.1))[t]? = some z) : z ∈ zs ∧ hit h c t z.1 = true := by
  have hm := List.mem_of_getElem? hz
  obtain ⟨h1, h2⟩ := List.mem_filter.1 hm
  refine ⟨h1, hit_iff.2 ?_⟩
  have h3 : z.1.host = h ∧ z.1.ctx = c := by simpa [placed] using h2
  refine ⟨h3.1, h3.2, ?_⟩
  have g := w.good h c
  have e : (((zs.map (·.1)).map X.key).filter (at' h c)) = (zs.filter (fun z => placed h c z.1)).map (fun z => z.1.key) := by
    rw [List.map_map, List.filter_map]; rfl
  rw [e, List.map_map] at g
  have h4 : ((zs.filter (fun z => placed h c z.1)).map ((fun k : Key => k.2.2) ∘ fun z => z.1.key))[t]? = some z.1.ticket := by rw [List.getElem?_map, hz]; rfl
  rw [g, List.getElem?_map] at h4
  cases h5 : (List.range ((zs.filter (fun z => placed h c z.1)).map (fun z => z.1.key)).length)[t]? with
  | none => rw [h5] at h4; cases h4
  | some n =>
    rw [h5] at h4
    have h6 := (List.getElem?_eq_some_iff.1 h5).2
    rw [List.getElem_range] at h6
    subst h6
    exact (Option.some.inj h4).symm
theorem no_hit {zs : List Z} (w : WF (zs.map (·.1))) {h c t : Int} (ht : t < 0 ∨ ((ids zs h c).length : Int) ≤ t) : ∀ x ∈ zs.map (·.1), hit h c t x = false := fun x hx => by
  cases hh : hit h c t x with
  | false => rfl
  | true =>
    obtain ⟨rfl, rfl, rfl⟩ := hit_iff.1 hh
    have h1 := good_ticket w.good (List.mem_map_of_mem (f := X.key) hx)
    rw [ids_length, count_key] at ht
    have h2 : 0 ≤ x.ticket ∧ x.ticket < ((((zs.map (·.1)).map X.key).filter (at' x.host x.ctx)).length : Int) := h1
    omega
end Go.Proofs.Ytlgdagjbphafcaa.Au
