/- agenda: entries, how they lie; against. Conditions: none. -/
import Derived.Test.YtiknkeakielncaaProg
import Derived.Test.YtiknkeakielncaaE22
namespace Go.Proofs.Ytiknkeakielncaa.Ag
open Go Go.Proofs Sx
set_option maxRecDepth 100000
set_option linter.unusedVariables false
set_option linter.unusedSimpArgs false
set_option maxHeartbeats 4000000

theorem nan_spec (x : Int) : Does Try.prog 102 #[.int .i64 x] (fun _ => True) [] (fun v p => v = .bool false ∧ p = []) := by
  refine Does.ofJ Try.func102 Try.call102 rfl [.int .i64 x] [] 0 [] rfl rfl (fun h k => k) (fun f hR => ?_)
  exact FinOb.mk _ [] rfl (fun h k => trivial) ⟨by simp [ret1], rfl⟩
def cmpI (x y : Int) : Int := if x < y then -1 else if y < x then 1 else 0
theorem cmp_spec (x y : Int) : Does Try.prog 71 #[.int .i64 x, .int .i64 y] (fun _ => True) [] (fun v p => v = .int .i64 (cmpI x y) ∧ p = []) := by
  refine Does.ofJ Try.func71 Try.call71 rfl [.int .i64 x, .int .i64 y] [] 0 [] rfl rfl (fun h k => k) (fun f hR => ?_)
  refine useP .ff (nan_spec x) rfl rfl ?_
  refine useP .ff (nan_spec y) rfl rfl ?_
  refine CondOb.split (fun g => ?_) (fun g => ?_)
  · have g : x < y := by simpa using g
    exact FinOb.mk _ [] rfl (fun h k => trivial) ⟨by simp [ret1, cmpI, g], rfl⟩
  have g : ¬ x < y := by simpa using g
  refine CondOb.split (fun g2 => ?_) (fun g2 => ?_)
  · have g2 : y < x := by simpa using g2
    exact FinOb.mk _ [] rfl (fun h k => trivial) ⟨by simp [ret1, cmpI, g, g2], rfl⟩
  have g2 : ¬ y < x := by simpa using g2
  exact FinOb.mk _ [] rfl (fun h k => trivial) ⟨by simp [ret1, cmpI, g, g2], rfl⟩
abbrev IL : Lay Int := ints .i64
theorem lI (l : List Int) : (IL.flat l).length = l.length := by rw [IL.flat_length]; simp [ints]
/-- The first that is not 0. -/
def orI (l : List Int) : Int := (l.find? (fun x => x != 0)).getD 0
theorem or_spec (A : Option Addr) (cp : Nat) (l : List Int) (hl : l.length ≤ 1000000) : Does Try.prog 70 #[.slice A l.length cp] (fun f => Reads f A (IL.flat l)) [] (fun v p => v = .int .i64 (orI l) ∧ p = []) := by
  refine Does.ofJ Try.func70 Try.call70 rfl [.raw (.slice A l.length cp)] [] 0 [] rfl rfl (fun h k => k) (fun f hR => ?_)
  refine LoopOb.mk { i : Nat // i ≤ l.length ∧ ∀ x ∈ l.take i, x = 0 } (fun z => ⟨18, [(3, .int .i64 0), (6, .raw (.slice A l.length cp)), (7, .int .i64 l.length), (8, .int .i64 z.1)], [], 0, []⟩) (fun z => l.length - z.1) ⟨0, by omega, by simp⟩ ?_ ?_
  · exact Le.of rfl ⟨⟨_, rfl, rfl⟩, ⟨_, rfl, rfl⟩, ⟨_, rfl, rfl⟩, ⟨_, rfl, rfl⟩, trivial⟩ (fun h k => k)
  rintro ⟨i, hi0, hall⟩
  refine CondOb.split (fun g => ?_) (fun g => ?_)
  rotate_left
  · have g := of_decide_eq_false g
    replace g : ¬ (i : Int) < l.length := g
    rw [List.take_of_length_le (by omega)] at hall
    have e : orI l = 0 := by
      unfold orI
      rw [List.find?_eq_none.2 (fun x hx => by simp [hall x hx])]; rfl
    exact FinOb.mk [.int .i64 0] [] rfl (fun h k => k) ⟨by rw [e]; rfl, rfl⟩
  have g := of_decide_eq_true g
  replace g : (i : Int) < l.length := g
  have hq := List.getElem?_eq_getElem (show i < l.length by omega)
  generalize l[i]'(by omega) = m at *
  obtain ⟨ba, o, rfl, hf⟩ := hR.lay (by decide) hq
  have ei : IntKind.i64.wrap ((i : Int) + 1) = ((i + 1 : Nat) : Int) := by rw [w64 (by omega) (by omega)]; omega
  refine Need.mk ⟨Int.natCast_nonneg i, g⟩ (RawAt.mk ba o rfl ?_)
  refine RdRaw.mk (.int .i64 m) _ rfl (hf 0 _ rfl) ?_
  refine CondOb.split (fun g2 => ?_) (fun g2 => ?_)
  · have g2 : m ≠ 0 := by simpa using g2
    have e : orI l = m := by
      unfold orI
      have : l.find? (fun x => x != 0) = some m := by
        rw [List.find?_eq_some_iff_getElem]
        have hil := (List.getElem?_eq_some_iff.1 hq).1
        refine ⟨by simpa using g2, i, hil, (List.getElem?_eq_some_iff.1 hq).2, fun j hj => ?_⟩
        have := hall l[j] (by rw [List.mem_take_iff_getElem]; exact ⟨j, by omega, rfl⟩)
        simp [this]
      rw [this]; rfl
    exact FinOb.mk [.int .i64 m] [] rfl (fun h k => k) ⟨by rw [e]; rfl, rfl⟩
  · have g2 : m = 0 := by simpa using g2
    refine ⟨⟨i + 1, by omega, ?_⟩, by show l.length - (i + 1) < l.length - i; omega, Le.of rfl ⟨⟨_, rfl, rfl⟩, ⟨_, rfl, rfl⟩, ⟨_, rfl, rfl⟩, ⟨_, rfl, congrArg (fun z => some (Value.int .i64 z)) ei⟩, trivial⟩ (fun h k => k)⟩
    rw [List.take_add_one, hq]
    intro t ht
    rcases List.mem_append.1 ht with h | h
    · exact hall t h
    · simp at h; subst h; exact g2
/-- An entry: where it lies, its item, when it came. -/
structure En where
  blk : Nat
  id : Int
  at_ : Int
  rank : Int
  no : Int
deriving DecidableEq, Inhabited
abbrev En.ptr (e : En) : Value := .pointer (some ⟨e.blk, 0, none⟩)
def En.cells (e : En) (place : Int) : List Value := [.int .i64 e.id, .int .i64 e.at_, .int .i64 e.rank, .int .i64 e.no, .int .i64 place]
/-- What an entry reads. -/
structure Seen (f : HP) (e : En) : Prop where
  c0 : fcell f e.blk 0 = some (.int .i64 e.id)
  c1 : fcell f e.blk 1 = some (.int .i64 e.at_)
  c2 : fcell f e.blk 2 = some (.int .i64 e.rank)
  c3 : fcell f e.blk 3 = some (.int .i64 e.no)
def cfE (x y : En) : Int := orI [cmpI x.at_ y.at_, cmpI x.rank y.rank, cmpI x.no y.no]
theorem against_spec (x y : En) : Does Try.prog 99 #[x.ptr, y.ptr] (fun f => Seen f x ∧ Seen f y) [] (fun v p => v = .int .i64 (cfE x y) ∧ p = []) := by
  refine Does.ofJ Try.func99 Try.call99 rfl [.raw x.ptr, .raw y.ptr] [] 0 [] rfl rfl (fun h k => k) (fun f hR => ?_)
  obtain ⟨hx, hy⟩ := hR
  refine DrawOb.mk [(10, [11, 12, 13, 14, 15, 16, 17, 18, 19, 20, 22, 23, 24, 25, 26, 27, 28, 29]), (21, [22, 23, 24, 25, 26, 27, 28, 29])] (.run [0, 1, 2, 3, 4, 5, 6, 7, 8, 9, 11, 12, 13, 14, 15, 16, 17, 18, 19, 20, 22, 23, 24, 25, 26, 27, 28, 29, 10, 21, 30, 31, 32, 33] .nil) (by kernel_rfl) ?_
  refine RdRaw.mk (.int .i64 x.at_) _ rfl hx.c1 ?_
  refine RdRaw.mk (.int .i64 y.at_) _ rfl hy.c1 ?_
  refine RdRaw.mk (.int .i64 x.rank) _ rfl hx.c2 ?_
  refine RdRaw.mk (.int .i64 y.rank) _ rfl hy.c2 ?_
  refine RdRaw.mk (.int .i64 x.no) _ rfl hx.c3 ?_
  refine RdRaw.mk (.int .i64 y.no) _ rfl hy.c3 ?_
  refine useP (.int .i64 (cmpI x.at_ y.at_)) (cmp_spec x.at_ y.at_) rfl rfl ?_
  refine RdRaw.mk (.int .i64 y.no) _ rfl hy.c3 ?_
  refine Need.mk rfl ?_
  refine RdRaw.mk (.int .i64 x.no) _ rfl hx.c3 ?_
  refine Need.mk rfl ?_
  refine RdRaw.mk (.int .i64 y.rank) _ rfl hy.c2 ?_
  refine Need.mk rfl ?_
  refine RdRaw.mk (.int .i64 x.rank) _ rfl hx.c2 ?_
  refine Need.mk rfl ?_
  refine useP (.int .i64 (cmpI x.rank y.rank)) (cmp_spec x.rank y.rank) rfl rfl ?_
  refine RdRaw.mk (.int .i64 y.no) _ rfl hy.c3 ?_
  refine Need.mk rfl ?_
  refine RdRaw.mk (.int .i64 x.no) _ rfl hx.c3 ?_
  refine Need.mk rfl ?_
  refine useP (.int .i64 (cmpI x.no y.no)) (cmp_spec x.no y.no) rfl rfl ?_
  intro b31
  refine useR (.int .i64 (cfE x y)) (or_spec (some ⟨b31, 0, none⟩) 3 [cmpI x.at_ y.at_, cmpI x.rank y.rank, cmpI x.no y.no] (by show 3 ≤ 1000000; decide)) rfl (fun f' b' hs kb => blk_reads (xs := [.int .i64 (cmpI x.at_ y.at_), .int .i64 (cmpI x.rank y.rank), .int .i64 (cmpI x.no y.no)]) (c := b31) 0 hs kb rfl rfl rfl) rfl ?_
  exact FinOb.mk _ [] rfl (fun h k => trivial) ⟨rfl, rfl⟩
/-! ### How it lies -/
def PL : Lay En where
  cells e := [e.ptr]
  sz := 1
  len _ := rfl
  one e v hv := by simp at hv; subst hv; rfl
theorem lP (l : List En) : (PL.flat l).length = l.length := by rw [PL.flat_length]; simp [PL]
/-- Entries with their places. -/
def EnA (x : En × Int) : Asn := pt x.1.blk (.cells (x.1.cells x.2).toArray 166 (0, 0))
def EnsP (L : List (En × Int)) : Asn := Alls (L.map EnA)
def withI (H : List En) : List (En × Int) := H.zipIdx.map fun x => (x.1, (x.2 : Int))
def Es (H : List En) : Asn := EnsP (withI H)
structure Ag where
  most : Int
  no : Int
  pl : Plc
  cap : Nat
  mb : Nat
def Hd (b : Nat) (g : Ag) (n : Nat) : Asn := pt b (.cells #[.int .i64 g.most, .int .i64 g.no, .slice (locAddr 0 g.pl) n g.cap, .map (some g.mb)] 162 (0, 0))
def HV (g : Ag) (H : List En) : Asn := Vec g.pl 163 1 g.cap (PL.flat H)
/-- The heap. -/
def Hp (b : Nat) (g : Ag) (H : List En) : List Asn := [Hd b g H.length, HV g H, Es H]
theorem withI_get {H : List En} {i : Nat} {e : En} (h : H[i]? = some e) : (withI H)[i]? = some (e, (i : Int)) := by
  unfold withI
  rw [List.getElem?_map, List.getElem?_zipIdx, h]
  simp
theorem es_cell {H : List En} {i j : Nat} {e : En} {v : Value} (h : H[i]? = some e) (hv : (e.cells i)[j]? = some v) (x : HP) (k : Es H x) : fcell x e.blk j = some v :=
  alls_cell (A := EnA (e, (i : Int))) (List.mem_map.2 ⟨_, List.mem_of_getElem? (withI_get h), rfl⟩) (fun y ky => fcell_of (pt_get y ky) (by rw [List.getElem?_toArray]; exact hv)) x k
theorem es_seen {H : List En} {i : Nat} {e : En} (h : H[i]? = some e) (x : HP) (k : Es H x) : Seen x e :=
  ⟨es_cell h (j := 0) rfl x k, es_cell h (j := 1) rfl x k, es_cell h (j := 2) rfl x k, es_cell h (j := 3) rfl x k⟩
theorem Seen.sub {f b f' : HP} {e : En} (s : Split f' b f) (h : Seen b e) : Seen f' e :=
  ⟨fcell_sub (fun _ _ => s.get) h.c0, fcell_sub (fun _ _ => s.get) h.c1, fcell_sub (fun _ _ => s.get) h.c2, fcell_sub (fun _ _ => s.get) h.c3⟩
theorem Seen.at (n : Nat) {As : List Asn} {H : List En} {i : Nat} {e : En} {h : HP} (hA : As[n]? = some (Es H)) (hi : H[i]? = some e) (k : sat As h) : Seen h e := by
  obtain ⟨x, y, t, hx, _⟩ := sat_nth n hA k
  exact (es_seen hi x hx).sub t
end Go.Proofs.Ytiknkeakielncaa.Ag
