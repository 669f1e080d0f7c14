/- Those that are gone: the range over a chain. Conditions: none. -/
import Derived.Test.YtlgdagjbphafcaaChE
namespace Go.Proofs.Ytlgdagjbphafcaa.Ch
open Go Go.Proofs Sx
set_option maxRecDepth 100000
set_option linter.unusedVariables false

def dropS (ks : List Int) (es : List E) : List E := es.filter (fun e => decide (e.id ∉ ks))
theorem dropS_nil (es : List E) : dropS [] es = es := by simp [dropS]
theorem dropS_sub (ks : List Int) (es : List E) : (dropS ks es).Sublist es := List.filter_sublist
theorem mem_dropS {ks : List Int} {es : List E} {e : E} : e ∈ dropS ks es ↔ e ∈ es ∧ e.id ∉ ks := by simp [dropS]
theorem erase_filter {es : List E} {i : Nat} {e : E} (hn : (es.map E.id).Nodup) (h : es[i]? = some e) : es.eraseIdx i = es.filter (fun z => decide (z.id ≠ e.id)) := by
  induction es generalizing i with
  | nil => simp at h
  | cons a es ih =>
    simp only [List.map_cons, List.nodup_cons] at hn
    cases i with
    | zero =>
      simp at h; subst h
      rw [List.eraseIdx_cons_zero, List.filter_cons]
      simp only [ne_eq, not_true_eq_false, decide_false, Bool.false_eq_true, if_false]
      symm
      rw [List.filter_eq_self]
      intro z hz
      have : z.id ≠ a.id := fun e => hn.1 (by rw [← e]; exact List.mem_map.2 ⟨z, hz, rfl⟩)
      simpa using this
    | succ i =>
      have hm : e.id ∈ es.map E.id := List.mem_map.2 ⟨e, List.mem_of_getElem? (by simpa using h), rfl⟩
      have hne : a.id ≠ e.id := fun e1 => by rw [← e1] at hm; exact hn.1 hm
      rw [List.eraseIdx_cons_succ, List.filter_cons, if_pos (by simpa using hne), ih hn.2 (by simpa using h)]
theorem dropS_step {ks : List Int} {es : List E} {i : Nat} {e : E} (hn : (es.map E.id).Nodup) (h : (dropS ks es)[i]? = some e) : (dropS ks es).eraseIdx i = dropS (ks ++ [e.id]) es := by
  rw [erase_filter (((dropS_sub ks es).map _).nodup hn) h, dropS, dropS, List.filter_filter]
  congr 1
  funext z
  by_cases h1 : z.id ∈ ks <;> by_cases h2 : z.id = e.id <;> simp [h1, h2]
theorem inv_sub {x : Bk} {y : Ly} (inv : Inv x y) {l : List E} (hs : l.Sublist x.es) : Inv { x with es := l } y := by
  have hl := hs.length_le
  exact ⟨(hs.map E.id).nodup inv.ids, fun e he => inv.ahead e (hs.subset he), fun e he => inv.behind e (hs.subset he), inv.last, by have := inv.ro; simp only; omega, inv.rr, by have := inv.no; simp only; omega, inv.nr, fun e he => inv.fl e (hs.subset he)⟩
/-- A chain of entries: each stands behind the one ahead of it. -/
inductive Links (es : List E) : Option (Nat × Int) → List Int → Prop
  | nil : Links es none []
  | cons (c : Nat) (k : Int) (e : E) (ks : List Int) (he : e ∈ es) (hk : e.id = k) (rest : Links es e.behind ks) : Links es (some (c, k)) (k :: ks)
theorem Links.mem {es : List E} {p : Option (Nat × Int)} {ks : List Int} (h : Links es p ks) : ∀ k ∈ ks, k ∈ es.map E.id := by
  induction h with
  | nil => simp
  | cons c k e ks he hk rest ih =>
    intro n hn
    rcases List.mem_cons.1 hn with rfl | hn
    · exact List.mem_map.2 ⟨e, he, hk⟩
    · exact ih n hn
/-- What a round has of Done's own: its book's pointer, those that are gone. -/
def GoneL (bb b4 b5 : Nat) (g : List Int) (z : Plc × Nat) : List Asn := [pt b4 (.cells #[.pointer (some ⟨bb, 0, none⟩)] 63 (0, 0)), pt b5 (.cells #[.slice (locAddr 0 z.1) g.length z.2] 66 (0, 0)), Vec z.1 3 1 z.2 (I.flat g)]
def GoneA (bb b4 b5 : Nat) (g : List Int) : Asn := AnyOf (fun z : { z : Plc × Nat // g.length ≤ z.2 } => GoneL bb b4 b5 g z.1)
def coreJ (bb mb : Nat) (x : Bk) (y : Ly) (ks : List Int) : List Asn :=
  [pt bb (.cells (hdr mb { x with es := dropS ks x.es } y) 153 (0, 0)), MapA mb (.one .i64) ((dropS ks x.es).map E.key), Vec y.lo 3 1 y.co (I.flat ((dropS ks x.es).map E.id))]
theorem same_id {es : List E} (hn : (es.map E.id).Nodup) {a b : E} (ha : a ∈ es) (hb : b ∈ es) (h : a.id = b.id) : a = b := by
  obtain ⟨i, hi, e1⟩ := List.getElem_of_mem ha
  obtain ⟨j, hj, e2⟩ := List.getElem_of_mem hb
  have h1 : (es.map E.id)[i]? = some a.id := by rw [List.getElem?_map, List.getElem?_eq_getElem hi, e1]; rfl
  have h2 : (es.map E.id)[j]? = some a.id := by rw [List.getElem?_map, List.getElem?_eq_getElem hj, e2, h]; rfl
  have := (List.getElem?_inj (by rw [List.length_map]; exact hi) hn).1 (h1.trans h2.symm)
  subst this
  rw [← e1, ← e2]
structure It (x : Bk) (ks : List Int) where
  j : Nat
  p : Option (Nat × Int)
  hj : j ≤ ks.length
  hl : Links x.es p (ks.drop j)
  hc : ∀ q, p = some q → q ∈ x.cs
def SIt (l bb mb cx cb xb : Nat) (Rec : Asn) (x : Bk) (y : Ly) (all : List E) (b4 b5 : Nat) (ks : List Int) (z : It x ks) : St :=
  ⟨30, [(0, .fn (.yield l) [] []), (1, .ptr 5 0), (2, .ptr 6 0), (4, .raw (ptrO z.p))], [(0, .at bb 0), (1, .at mb 0), (5, .at cx 0), (6, .at cb 0)], 7,
    [.asn Rec, .blk 0 153 [.map 1, .raw (.slice (locAddr 0 y.lo) (dropS (ks.take z.j) x.es).length y.co), .raw (.slice (locAddr 0 y.lr) x.ready.length y.cr), .raw (ptrO x.last)], .mp 1 (.one .i64) ((dropS (ks.take z.j) x.es).map E.key),
      .asn (Vec y.lo 3 1 y.co (I.flat ((dropS (ks.take z.j) x.es).map E.id))), .asn (GoneA bb b4 b5 (ks.take z.j)), .asn (Blks (all.map E.blk)), .asn (Blks (x.cs.map cellO)), .blk 5 154 [.raw (.pointer (some ⟨xb, 0, none⟩))], .blk 6 63 [.ptr 0 0]]⟩
theorem it_spec (l bb mb cx cb : Nat) (Rec : Asn) (x : Bk) (y : Ly) (inv : Inv x y) (all : List E) (hall : ∀ e ∈ x.es, e ∈ all) (e0 : E) (he0 : e0 ∈ all) (hc0 : ∀ p, e0.behind = some p → p ∈ x.cs) (b4 b5 : Nat) (ks : List Int) (hn : ks.Nodup) (hl : Links x.es e0.behind ks)
    (hY : ∀ j k, ks[j]? = some k → DoesY Try.prog l #[.int .i64 k] (fun _ => True) (Rec :: (coreJ bb mb x y (ks.take j) ++ [GoneA bb b4 b5 (ks.take j)])) (fun v q => v = .bool true ∧ q = Rec :: (coreJ bb mb x y (ks.take (j + 1)) ++ [GoneA bb b4 b5 (ks.take (j + 1))]))) :
    Does Try.prog 112 #[.func (.yield l) #[] #[], .pointer (some ⟨cx, 0, none⟩), .pointer (some ⟨cb, 0, none⟩)] (fun _ => True)
      (Rec :: (coreJ bb mb x y [] ++ [GoneA bb b4 b5 [], Blks (all.map E.blk), Blks (x.cs.map cellO), pt cx (.cells #[.pointer (some ⟨e0.b, 0, none⟩)] 154 (0, 0)), pt cb (.cells #[.pointer (some ⟨bb, 0, none⟩)] 63 (0, 0))]))
      (fun v q => v = .tuple #[] ∧ q = Rec :: GoneA bb b4 b5 ks :: (coreJ bb mb x y ks ++ [Blks (all.map E.blk), Blks (x.cs.map cellO)])) := by
  refine Does.of Try.func112 Try.call112 rfl [.fn (.yield l) [] [], .ptr 5 0, .ptr 6 0] [(0, .at bb 0), (1, .at mb 0), (5, .at cx 0), (6, .at cb 0)] 7
    [.asn Rec, .blk 0 153 [.map 1, .raw (.slice (locAddr 0 y.lo) (dropS [] x.es).length y.co), .raw (.slice (locAddr 0 y.lr) x.ready.length y.cr), .raw (ptrO x.last)], .mp 1 (.one .i64) ((dropS [] x.es).map E.key),
      .asn (Vec y.lo 3 1 y.co (I.flat ((dropS [] x.es).map E.id))), .asn (GoneA bb b4 b5 []), .asn (Blks (all.map E.blk)), .asn (Blks (x.cs.map cellO)), .blk 5 154 [.raw (.pointer (some ⟨e0.b, 0, none⟩))], .blk 6 63 [.ptr 0 0]]
    rfl rfl (fun h k => sat_pick 0 rfl (by first | exact fun _ k => k | exact fun _ k => blk_to rfl rfl k | exact fun _ k => vec_to rfl k | exact fun _ k => blk_of rfl rfl k | exact fun _ k => vec_of rfl k | exact fun _ k => blk_of rfl rfl (blk_to rfl rfl k) | exact fun _ k => vec_of rfl (vec_to rfl k) | exact fun _ k => mp_to rfl k | exact fun _ k => mp_of rfl k | exact fun _ k => mp_of rfl (mp_to rfl k)) (fun h k => sat_pick 0 rfl (by first | exact fun _ k => k | exact fun _ k => blk_to rfl rfl k | exact fun _ k => vec_to rfl k | exact fun _ k => blk_of rfl rfl k | exact fun _ k => vec_of rfl k | exact fun _ k => blk_of rfl rfl (blk_to rfl rfl k) | exact fun _ k => vec_of rfl (vec_to rfl k) | exact fun _ k => mp_to rfl k | exact fun _ k => mp_of rfl k | exact fun _ k => mp_of rfl (mp_to rfl k)) (fun h k => sat_pick 0 rfl (by first | exact fun _ k => k | exact fun _ k => blk_to rfl rfl k | exact fun _ k => vec_to rfl k | exact fun _ k => blk_of rfl rfl k | exact fun _ k => vec_of rfl k | exact fun _ k => blk_of rfl rfl (blk_to rfl rfl k) | exact fun _ k => vec_of rfl (vec_to rfl k) | exact fun _ k => mp_to rfl k | exact fun _ k => mp_of rfl k | exact fun _ k => mp_of rfl (mp_to rfl k)) (fun h k => sat_pick 0 rfl (by first | exact fun _ k => k | exact fun _ k => blk_to rfl rfl k | exact fun _ k => vec_to rfl k | exact fun _ k => blk_of rfl rfl k | exact fun _ k => vec_of rfl k | exact fun _ k => blk_of rfl rfl (blk_to rfl rfl k) | exact fun _ k => vec_of rfl (vec_to rfl k) | exact fun _ k => mp_to rfl k | exact fun _ k => mp_of rfl k | exact fun _ k => mp_of rfl (mp_to rfl k)) (fun h k => sat_pick 0 rfl (by first | exact fun _ k => k | exact fun _ k => blk_to rfl rfl k | exact fun _ k => vec_to rfl k | exact fun _ k => blk_of rfl rfl k | exact fun _ k => vec_of rfl k | exact fun _ k => blk_of rfl rfl (blk_to rfl rfl k) | exact fun _ k => vec_of rfl (vec_to rfl k) | exact fun _ k => mp_to rfl k | exact fun _ k => mp_of rfl k | exact fun _ k => mp_of rfl (mp_to rfl k)) (fun h k => sat_pick 0 rfl (by first | exact fun _ k => k | exact fun _ k => blk_to rfl rfl k | exact fun _ k => vec_to rfl k | exact fun _ k => blk_of rfl rfl k | exact fun _ k => vec_of rfl k | exact fun _ k => blk_of rfl rfl (blk_to rfl rfl k) | exact fun _ k => vec_of rfl (vec_to rfl k) | exact fun _ k => mp_to rfl k | exact fun _ k => mp_of rfl k | exact fun _ k => mp_of rfl (mp_to rfl k)) (fun h k => sat_pick 0 rfl (by first | exact fun _ k => k | exact fun _ k => blk_to rfl rfl k | exact fun _ k => vec_to rfl k | exact fun _ k => blk_of rfl rfl k | exact fun _ k => vec_of rfl k | exact fun _ k => blk_of rfl rfl (blk_to rfl rfl k) | exact fun _ k => vec_of rfl (vec_to rfl k) | exact fun _ k => mp_to rfl k | exact fun _ k => mp_of rfl k | exact fun _ k => mp_of rfl (mp_to rfl k)) (fun h k => sat_pick 0 rfl (by first | exact fun _ k => k | exact fun _ k => blk_to rfl rfl k | exact fun _ k => vec_to rfl k | exact fun _ k => blk_of rfl rfl k | exact fun _ k => vec_of rfl k | exact fun _ k => blk_of rfl rfl (blk_to rfl rfl k) | exact fun _ k => vec_of rfl (vec_to rfl k) | exact fun _ k => mp_to rfl k | exact fun _ k => mp_of rfl k | exact fun _ k => mp_of rfl (mp_to rfl k)) (fun h k => sat_pick 0 rfl (by first | exact fun _ k => k | exact fun _ k => blk_to rfl rfl k | exact fun _ k => vec_to rfl k | exact fun _ k => blk_of rfl rfl k | exact fun _ k => vec_of rfl k | exact fun _ k => blk_of rfl rfl (blk_to rfl rfl k) | exact fun _ k => vec_of rfl (vec_to rfl k) | exact fun _ k => mp_to rfl k | exact fun _ k => mp_of rfl k | exact fun _ k => mp_of rfl (mp_to rfl k)) (fun h k => sat_nil k) k) k) k) k) k) k) k) k) k) (fun f hR => ?_)
  have hm : ∀ e ∈ all, ((e.b, .cells e.cells 157 (0, 0)) : Blk) ∈ all.map E.blk := fun e he => List.mem_map.2 ⟨e, he, rfl⟩
  refine RdRaw.told (.raw (ptrO e0.behind)) _ rfl (told_mem 5 rfl (hm e0 he0) rfl) ?_
  refine LoopOb.mk (It x ks) (SIt l bb mb cx cb e0.b Rec x y all b4 b5 ks) (fun z => ks.length - z.j) ⟨0, e0.behind, by omega, hl, hc0⟩ ?_ ?_
  · exact Le.of rfl ⟨⟨_, rfl, rfl⟩, ⟨_, rfl, rfl⟩, ⟨_, rfl, rfl⟩, ⟨_, rfl, rfl⟩, trivial⟩ (fun h k => k)
  rintro ⟨j, p, hj, hlj, hcj⟩
  cases p with
  | none =>
    have hd : ks.drop j = [] := by
      generalize hd : ks.drop j = d at hlj
      cases hlj; rfl
    have : j = ks.length := by
      have := congrArg List.length hd
      simp at this; omega
    subst this
    refine FinOb.mk [] (Rec :: GoneA bb b4 b5 ks :: (coreJ bb mb x y ks ++ [Blks (all.map E.blk), Blks (x.cs.map cellO)])) rfl ?_ ⟨rfl, rfl⟩
    intro h k
    have k : sat (Rec :: GoneA bb b4 b5 (ks.take ks.length) :: (coreJ bb mb x y (ks.take ks.length) ++ [Blks (all.map E.blk), Blks (x.cs.map cellO)])) h := (fun h k => sat_pick 0 rfl (by first | exact fun _ k => k | exact fun _ k => blk_to rfl rfl k | exact fun _ k => vec_to rfl k | exact fun _ k => blk_of rfl rfl k | exact fun _ k => vec_of rfl k | exact fun _ k => blk_of rfl rfl (blk_to rfl rfl k) | exact fun _ k => vec_of rfl (vec_to rfl k) | exact fun _ k => mp_to rfl k | exact fun _ k => mp_of rfl k | exact fun _ k => mp_of rfl (mp_to rfl k)) (fun h k => sat_pick 3 rfl (by first | exact fun _ k => k | exact fun _ k => blk_to rfl rfl k | exact fun _ k => vec_to rfl k | exact fun _ k => blk_of rfl rfl k | exact fun _ k => vec_of rfl k | exact fun _ k => blk_of rfl rfl (blk_to rfl rfl k) | exact fun _ k => vec_of rfl (vec_to rfl k) | exact fun _ k => mp_to rfl k | exact fun _ k => mp_of rfl k | exact fun _ k => mp_of rfl (mp_to rfl k)) (fun h k => sat_pick 0 rfl (by first | exact fun _ k => k | exact fun _ k => blk_to rfl rfl k | exact fun _ k => vec_to rfl k | exact fun _ k => blk_of rfl rfl k | exact fun _ k => vec_of rfl k | exact fun _ k => blk_of rfl rfl (blk_to rfl rfl k) | exact fun _ k => vec_of rfl (vec_to rfl k) | exact fun _ k => mp_to rfl k | exact fun _ k => mp_of rfl k | exact fun _ k => mp_of rfl (mp_to rfl k)) (fun h k => sat_pick 0 rfl (by first | exact fun _ k => k | exact fun _ k => blk_to rfl rfl k | exact fun _ k => vec_to rfl k | exact fun _ k => blk_of rfl rfl k | exact fun _ k => vec_of rfl k | exact fun _ k => blk_of rfl rfl (blk_to rfl rfl k) | exact fun _ k => vec_of rfl (vec_to rfl k) | exact fun _ k => mp_to rfl k | exact fun _ k => mp_of rfl k | exact fun _ k => mp_of rfl (mp_to rfl k)) (fun h k => sat_pick 0 rfl (by first | exact fun _ k => k | exact fun _ k => blk_to rfl rfl k | exact fun _ k => vec_to rfl k | exact fun _ k => blk_of rfl rfl k | exact fun _ k => vec_of rfl k | exact fun _ k => blk_of rfl rfl (blk_to rfl rfl k) | exact fun _ k => vec_of rfl (vec_to rfl k) | exact fun _ k => mp_to rfl k | exact fun _ k => mp_of rfl k | exact fun _ k => mp_of rfl (mp_to rfl k)) (fun h k => sat_pick 0 rfl (by first | exact fun _ k => k | exact fun _ k => blk_to rfl rfl k | exact fun _ k => vec_to rfl k | exact fun _ k => blk_of rfl rfl k | exact fun _ k => vec_of rfl k | exact fun _ k => blk_of rfl rfl (blk_to rfl rfl k) | exact fun _ k => vec_of rfl (vec_to rfl k) | exact fun _ k => mp_to rfl k | exact fun _ k => mp_of rfl k | exact fun _ k => mp_of rfl (mp_to rfl k)) (fun h k => sat_pick 0 rfl (by first | exact fun _ k => k | exact fun _ k => blk_to rfl rfl k | exact fun _ k => vec_to rfl k | exact fun _ k => blk_of rfl rfl k | exact fun _ k => vec_of rfl k | exact fun _ k => blk_of rfl rfl (blk_to rfl rfl k) | exact fun _ k => vec_of rfl (vec_to rfl k) | exact fun _ k => mp_to rfl k | exact fun _ k => mp_of rfl k | exact fun _ k => mp_of rfl (mp_to rfl k)) (fun h k => sat_nil k) k) k) k) k) k) k) k) h k
    rw [List.take_length] at k
    exact k
  | some p =>
    obtain ⟨c, k⟩ := p
    obtain ⟨e, rest, hdr', hee, hek, hrest⟩ : ∃ e rest, ks.drop j = k :: rest ∧ e ∈ x.es ∧ e.id = k ∧ Links x.es e.behind rest := by
      generalize hd : ks.drop j = d at hlj
      cases hlj with
      | cons _ _ e rest he hk hr => exact ⟨e, rest, rfl, he, hk, hr⟩
    have hkj : ks[j]? = some k := by
      have : (ks.drop j)[0]? = some k := by rw [hdr']; rfl
      simpa using this
    have hj' : j < ks.length := (List.getElem?_eq_some_iff.1 hkj).1
    have hrest' : ks.drop (j + 1) = rest := by
      rw [← List.drop_drop] 
      rw [hdr']; rfl
    have hknot : k ∉ ks.take j := fun h => by
      obtain ⟨i, hi, e1⟩ := List.getElem_of_mem h
      simp at hi
      have h1 : ks[i]? = some k := by rw [← e1, List.getElem_take, List.getElem?_eq_getElem (by omega)]
      have := (List.getElem?_inj (by omega) hn).1 (h1.trans hkj.symm)
      omega
    have hin : k ∈ (dropS (ks.take j) x.es).map E.id := List.mem_map.2 ⟨e, mem_dropS.2 ⟨hee, by rw [hek]; exact hknot⟩, hek⟩
    have hcell : (c, k) ∈ x.cs := hcj _ rfl
    refine DrawOb.mk [] (.run [0, 1, 2, 3, 4, 5, 6, 7, 8, 9, 10, 11] .nil) (by kernel_rfl) ?_
    refine RdRaw.told (.int .i64 k) _ rfl (told_mem 6 rfl (cell_mem hcell) rfl) ?_
    obtain ⟨i, e', i1, i2, i3⟩ := find_some hin
    have hmem := mem_dropS.1 (List.mem_of_getElem? i1)
    refine LkOb.hit _ (.raw (.pointer (some ⟨e'.b, 0, none⟩))) i3 rfl ?_
    refine RdRaw.told (.raw (ptrO e'.behind)) _ rfl (told_mem 5 rfl (hm e' (hall e' hmem.1)) rfl) ?_
    refine RdRaw.told (.int .i64 k) _ rfl (told_mem 6 rfl (cell_mem hcell) rfl) ?_
    refine YieldOb.mk [.int .i64 k] rfl (fun _ => True) _ _ (hY j k hkj) [.asn (Blks (all.map E.blk)), .asn (Blks (x.cs.map cellO)), .blk 5 154 [.raw (.pointer (some ⟨e0.b, 0, none⟩))], .blk 6 63 [.ptr 0 0]] (fun h k => sat_pick 0 rfl (by first | exact fun _ k => k | exact fun _ k => blk_to rfl rfl k | exact fun _ k => vec_to rfl k | exact fun _ k => blk_of rfl rfl k | exact fun _ k => vec_of rfl k | exact fun _ k => blk_of rfl rfl (blk_to rfl rfl k) | exact fun _ k => vec_of rfl (vec_to rfl k) | exact fun _ k => mp_to rfl k | exact fun _ k => mp_of rfl k | exact fun _ k => mp_of rfl (mp_to rfl k)) (fun h k => sat_pick 0 rfl (by first | exact fun _ k => k | exact fun _ k => blk_to rfl rfl k | exact fun _ k => vec_to rfl k | exact fun _ k => blk_of rfl rfl k | exact fun _ k => vec_of rfl k | exact fun _ k => blk_of rfl rfl (blk_to rfl rfl k) | exact fun _ k => vec_of rfl (vec_to rfl k) | exact fun _ k => mp_to rfl k | exact fun _ k => mp_of rfl k | exact fun _ k => mp_of rfl (mp_to rfl k)) (fun h k => sat_pick 0 rfl (by first | exact fun _ k => k | exact fun _ k => blk_to rfl rfl k | exact fun _ k => vec_to rfl k | exact fun _ k => blk_of rfl rfl k | exact fun _ k => vec_of rfl k | exact fun _ k => blk_of rfl rfl (blk_to rfl rfl k) | exact fun _ k => vec_of rfl (vec_to rfl k) | exact fun _ k => mp_to rfl k | exact fun _ k => mp_of rfl k | exact fun _ k => mp_of rfl (mp_to rfl k)) (fun h k => sat_pick 0 rfl (by first | exact fun _ k => k | exact fun _ k => blk_to rfl rfl k | exact fun _ k => vec_to rfl k | exact fun _ k => blk_of rfl rfl k | exact fun _ k => vec_of rfl k | exact fun _ k => blk_of rfl rfl (blk_to rfl rfl k) | exact fun _ k => vec_of rfl (vec_to rfl k) | exact fun _ k => mp_to rfl k | exact fun _ k => mp_of rfl k | exact fun _ k => mp_of rfl (mp_to rfl k)) (fun h k => sat_pick 0 rfl (by first | exact fun _ k => k | exact fun _ k => blk_to rfl rfl k | exact fun _ k => vec_to rfl k | exact fun _ k => blk_of rfl rfl k | exact fun _ k => vec_of rfl k | exact fun _ k => blk_of rfl rfl (blk_to rfl rfl k) | exact fun _ k => vec_of rfl (vec_to rfl k) | exact fun _ k => mp_to rfl k | exact fun _ k => mp_of rfl k | exact fun _ k => mp_of rfl (mp_to rfl k)) (fun h k => sat_pick 0 rfl (by first | exact fun _ k => k | exact fun _ k => blk_to rfl rfl k | exact fun _ k => vec_to rfl k | exact fun _ k => blk_of rfl rfl k | exact fun _ k => vec_of rfl k | exact fun _ k => blk_of rfl rfl (blk_to rfl rfl k) | exact fun _ k => vec_of rfl (vec_to rfl k) | exact fun _ k => mp_to rfl k | exact fun _ k => mp_of rfl k | exact fun _ k => mp_of rfl (mp_to rfl k)) (fun h k => sat_pick 0 rfl (by first | exact fun _ k => k | exact fun _ k => blk_to rfl rfl k | exact fun _ k => vec_to rfl k | exact fun _ k => blk_of rfl rfl k | exact fun _ k => vec_of rfl k | exact fun _ k => blk_of rfl rfl (blk_to rfl rfl k) | exact fun _ k => vec_of rfl (vec_to rfl k) | exact fun _ k => mp_to rfl k | exact fun _ k => mp_of rfl k | exact fun _ k => mp_of rfl (mp_to rfl k)) (fun h k => sat_pick 0 rfl (by first | exact fun _ k => k | exact fun _ k => blk_to rfl rfl k | exact fun _ k => vec_to rfl k | exact fun _ k => blk_of rfl rfl k | exact fun _ k => vec_of rfl k | exact fun _ k => blk_of rfl rfl (blk_to rfl rfl k) | exact fun _ k => vec_of rfl (vec_to rfl k) | exact fun _ k => mp_to rfl k | exact fun _ k => mp_of rfl k | exact fun _ k => mp_of rfl (mp_to rfl k)) (fun h k => sat_pick 0 rfl (by first | exact fun _ k => k | exact fun _ k => blk_to rfl rfl k | exact fun _ k => vec_to rfl k | exact fun _ k => blk_of rfl rfl k | exact fun _ k => vec_of rfl k | exact fun _ k => blk_of rfl rfl (blk_to rfl rfl k) | exact fun _ k => vec_of rfl (vec_to rfl k) | exact fun _ k => mp_to rfl k | exact fun _ k => mp_of rfl k | exact fun _ k => mp_of rfl (mp_to rfl k)) (fun h k => sat_nil k) k) k) k) k) k) k) k) k) k) (fun _ _ _ _ => trivial) ?_
    rintro v post ⟨rfl, rfl⟩
    refine ⟨.tt, ⟨_, _, [(0, .at bb 0), (1, .at mb 0), (5, .at cx 0), (6, .at cb 0)], 7,
      [.asn Rec, .blk 0 153 [.map 1, .raw (.slice (locAddr 0 y.lo) (dropS (ks.take (j + 1)) x.es).length y.co), .raw (.slice (locAddr 0 y.lr) x.ready.length y.cr), .raw (ptrO x.last)], .mp 1 (.one .i64) ((dropS (ks.take (j + 1)) x.es).map E.key),
      .asn (Vec y.lo 3 1 y.co (I.flat ((dropS (ks.take (j + 1)) x.es).map E.id))), .asn (GoneA bb b4 b5 (ks.take (j + 1))), .asn (Blks (all.map E.blk)), .asn (Blks (x.cs.map cellO)), .blk 5 154 [.raw (.pointer (some ⟨e0.b, 0, none⟩))], .blk 6 63 [.ptr 0 0]]⟩, ?_, rfl, rfl, NmExt.refl _, rfl, (fun h k => sat_pick 0 rfl (by first | exact fun _ k => k | exact fun _ k => blk_to rfl rfl k | exact fun _ k => vec_to rfl k | exact fun _ k => blk_of rfl rfl k | exact fun _ k => vec_of rfl k | exact fun _ k => blk_of rfl rfl (blk_to rfl rfl k) | exact fun _ k => vec_of rfl (vec_to rfl k) | exact fun _ k => mp_to rfl k | exact fun _ k => mp_of rfl k | exact fun _ k => mp_of rfl (mp_to rfl k)) (fun h k => sat_pick 0 rfl (by first | exact fun _ k => k | exact fun _ k => blk_to rfl rfl k | exact fun _ k => vec_to rfl k | exact fun _ k => blk_of rfl rfl k | exact fun _ k => vec_of rfl k | exact fun _ k => blk_of rfl rfl (blk_to rfl rfl k) | exact fun _ k => vec_of rfl (vec_to rfl k) | exact fun _ k => mp_to rfl k | exact fun _ k => mp_of rfl k | exact fun _ k => mp_of rfl (mp_to rfl k)) (fun h k => sat_pick 0 rfl (by first | exact fun _ k => k | exact fun _ k => blk_to rfl rfl k | exact fun _ k => vec_to rfl k | exact fun _ k => blk_of rfl rfl k | exact fun _ k => vec_of rfl k | exact fun _ k => blk_of rfl rfl (blk_to rfl rfl k) | exact fun _ k => vec_of rfl (vec_to rfl k) | exact fun _ k => mp_to rfl k | exact fun _ k => mp_of rfl k | exact fun _ k => mp_of rfl (mp_to rfl k)) (fun h k => sat_pick 0 rfl (by first | exact fun _ k => k | exact fun _ k => blk_to rfl rfl k | exact fun _ k => vec_to rfl k | exact fun _ k => blk_of rfl rfl k | exact fun _ k => vec_of rfl k | exact fun _ k => blk_of rfl rfl (blk_to rfl rfl k) | exact fun _ k => vec_of rfl (vec_to rfl k) | exact fun _ k => mp_to rfl k | exact fun _ k => mp_of rfl k | exact fun _ k => mp_of rfl (mp_to rfl k)) (fun h k => sat_pick 0 rfl (by first | exact fun _ k => k | exact fun _ k => blk_to rfl rfl k | exact fun _ k => vec_to rfl k | exact fun _ k => blk_of rfl rfl k | exact fun _ k => vec_of rfl k | exact fun _ k => blk_of rfl rfl (blk_to rfl rfl k) | exact fun _ k => vec_of rfl (vec_to rfl k) | exact fun _ k => mp_to rfl k | exact fun _ k => mp_of rfl k | exact fun _ k => mp_of rfl (mp_to rfl k)) (fun h k => sat_pick 0 rfl (by first | exact fun _ k => k | exact fun _ k => blk_to rfl rfl k | exact fun _ k => vec_to rfl k | exact fun _ k => blk_of rfl rfl k | exact fun _ k => vec_of rfl k | exact fun _ k => blk_of rfl rfl (blk_to rfl rfl k) | exact fun _ k => vec_of rfl (vec_to rfl k) | exact fun _ k => mp_to rfl k | exact fun _ k => mp_of rfl k | exact fun _ k => mp_of rfl (mp_to rfl k)) (fun h k => sat_pick 0 rfl (by first | exact fun _ k => k | exact fun _ k => blk_to rfl rfl k | exact fun _ k => vec_to rfl k | exact fun _ k => blk_of rfl rfl k | exact fun _ k => vec_of rfl k | exact fun _ k => blk_of rfl rfl (blk_to rfl rfl k) | exact fun _ k => vec_of rfl (vec_to rfl k) | exact fun _ k => mp_to rfl k | exact fun _ k => mp_of rfl k | exact fun _ k => mp_of rfl (mp_to rfl k)) (fun h k => sat_pick 0 rfl (by first | exact fun _ k => k | exact fun _ k => blk_to rfl rfl k | exact fun _ k => vec_to rfl k | exact fun _ k => blk_of rfl rfl k | exact fun _ k => vec_of rfl k | exact fun _ k => blk_of rfl rfl (blk_to rfl rfl k) | exact fun _ k => vec_of rfl (vec_to rfl k) | exact fun _ k => mp_to rfl k | exact fun _ k => mp_of rfl k | exact fun _ k => mp_of rfl (mp_to rfl k)) (fun h k => sat_pick 0 rfl (by first | exact fun _ k => k | exact fun _ k => blk_to rfl rfl k | exact fun _ k => vec_to rfl k | exact fun _ k => blk_of rfl rfl k | exact fun _ k => vec_of rfl k | exact fun _ k => blk_of rfl rfl (blk_to rfl rfl k) | exact fun _ k => vec_of rfl (vec_to rfl k) | exact fun _ k => mp_to rfl k | exact fun _ k => mp_of rfl k | exact fun _ k => mp_of rfl (mp_to rfl k)) (fun h k => sat_nil k) k) k) k) k) k) k) k) k) k)⟩
    refine ⟨⟨j + 1, e'.behind, by omega, ?_, fun q hq => inv.behind e' hmem.1 q hq⟩, ?_, Le.of rfl ⟨⟨_, rfl, rfl⟩, ⟨_, rfl, rfl⟩, ⟨_, rfl, rfl⟩, ⟨_, rfl, rfl⟩, trivial⟩ (fun h k => k)⟩
    · rw [hrest']
      have : e' = e := same_id inv.ids hmem.1 hee (i2.trans hek.symm)
      rw [this]; exact hrest
    · show ks.length - (j + 1) < ks.length - j
      omega
end Go.Proofs.Ytlgdagjbphafcaa.Ch
