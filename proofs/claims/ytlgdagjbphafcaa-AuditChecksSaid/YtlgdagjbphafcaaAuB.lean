/- audit: marks, entries as the reference has them; Find, Fine, ahead, began. Conditions: none. -/
import Derived.Test.YtlgdagjbphafcaaAuA
namespace Go.Proofs.Ytlgdagjbphafcaa.Au
open Go Go.Proofs Sx
set_option maxRecDepth 100000
set_option linter.unusedVariables false
set_option linter.unusedSimpArgs false
set_option maxHeartbeats 4000000

structure C where
  user : Int
  res : Int
  fl : Int
  buf : Int
  A : Option Addr
  n : Nat
  c : Nat
def C.vals (q : C) : List Value := [.int .u64 q.user, .int .i64 q.res, .int .u8 q.fl, .int .i64 q.buf, .slice q.A q.n q.c]
def C.svs (q : C) : List SV := [.int .u64 q.user, .int .i64 q.res, .int .u8 q.fl, .int .i64 q.buf, .raw (.slice q.A q.n q.c)]
structure M where
  what : Int
  host : Int
  ctx : Int
  ticket : Int
  q : Q
  c : C
  fd : Int
  n : Int
  A : Option Addr
  k : Nat
  cp : Nat
def M.vals (m : M) : List Value := [.int .i64 m.what, .int .i64 m.host, .int .i64 m.ctx, .int .i64 m.ticket,
  .int .u8 m.q.op, .int .u8 m.q.fl, .int .i64 m.q.fd, .int .u32 m.q.addr, .int .u16 m.q.port, .int .i64 m.q.len, .int .i64 m.q.group, .int .i64 m.q.count, .int .u64 m.q.aux, .int .u64 m.q.user, .slice m.q.A m.q.n m.q.c,
  .int .u64 m.c.user, .int .i64 m.c.res, .int .u8 m.c.fl, .int .i64 m.c.buf, .slice m.c.A m.c.n m.c.c, .int .i64 m.fd, .int .i64 m.n, .slice m.A m.k m.cp]
def M.svs (m : M) : List SV := [.int .i64 m.what, .int .i64 m.host, .int .i64 m.ctx, .int .i64 m.ticket,
  .int .u8 m.q.op, .int .u8 m.q.fl, .int .i64 m.q.fd, .int .u32 m.q.addr, .int .u16 m.q.port, .int .i64 m.q.len, .int .i64 m.q.group, .int .i64 m.q.count, .int .u64 m.q.aux, .int .u64 m.q.user, .raw (.slice m.q.A m.q.n m.q.c),
  .int .u64 m.c.user, .int .i64 m.c.res, .int .u8 m.c.fl, .int .i64 m.c.buf, .raw (.slice m.c.A m.c.n m.c.c), .int .i64 m.fd, .int .i64 m.n, .raw (.slice m.A m.k m.cp)]
/-- A mark that names an entry alone. -/
def M.at (h c t : Int) : M := ⟨0, h, c, t, ⟨0, 0, 0, 0, 0, 0, 0, 0, 0, 0, none, 0, 0⟩, ⟨0, 0, 0, 0, none, 0, 0⟩, 0, 0, none, 0, 0⟩
/-- An entry that was taken. -/
structure X where
  host : Int
  ctx : Int
  ticket : Int
  q : Q
  tied : Bool := false
  did : Int := 0
  more : Int := 0
  ended : Bool := false
  res : Int := 0
  gone : Bool := false
def X.vals (x : X) : List Value := [.int .i64 x.host, .int .i64 x.ctx, .int .i64 x.ticket,
  .int .u8 x.q.op, .int .u8 x.q.fl, .int .i64 x.q.fd, .int .u32 x.q.addr, .int .u16 x.q.port, .int .i64 x.q.len, .int .i64 x.q.group, .int .i64 x.q.count, .int .u64 x.q.aux, .int .u64 x.q.user, .slice x.q.A x.q.n x.q.c,
  .bool x.tied, .int .i64 x.did, .int .i64 x.more, .bool x.ended, .int .i64 x.res, .bool x.gone]
def X.svs (x : X) : List SV := [.int .i64 x.host, .int .i64 x.ctx, .int .i64 x.ticket,
  .int .u8 x.q.op, .int .u8 x.q.fl, .int .i64 x.q.fd, .int .u32 x.q.addr, .int .u16 x.q.port, .int .i64 x.q.len, .int .i64 x.q.group, .int .i64 x.q.count, .int .u64 x.q.aux, .int .u64 x.q.user, .raw (.slice x.q.A x.q.n x.q.c),
  .bool x.tied, .int .i64 x.did, .int .i64 x.more, .bool x.ended, .int .i64 x.res, .bool x.gone]
def XL : Lay X where
  cells := X.vals
  sz := 20
  len _ := rfl
  one e v hv := by
    simp only [X.vals, List.mem_cons, List.not_mem_nil, or_false] at hv
    rcases hv with rfl | rfl | rfl | rfl | rfl | rfl | rfl | rfl | rfl | rfl | rfl | rfl | rfl | rfl | rfl | rfl | rfl | rfl | rfl | rfl <;> rfl
def ML : Lay M where
  cells := M.vals
  sz := 23
  len _ := rfl
  one e v hv := by
    simp only [M.vals, List.mem_cons, List.not_mem_nil, or_false] at hv
    rcases hv with rfl | rfl | rfl | rfl | rfl | rfl | rfl | rfl | rfl | rfl | rfl | rfl | rfl | rfl | rfl | rfl | rfl | rfl | rfl | rfl | rfl | rfl | rfl <;> rfl
theorem lX (l : List X) : (XL.flat l).length = l.length * 20 := by rw [XL.flat_length]; rfl
theorem lM (l : List M) : (ML.flat l).length = l.length * 23 := by rw [ML.flat_length]; rfl
def hit (h c t : Int) (x : X) : Bool := x.host == h && x.ctx == c && x.ticket == t
def FindR (l : List X) (h c t : Int) (r : Int) : Prop := (r = -1 ∧ ∀ x ∈ l, hit h c t x = false) ∨ ∃ (i : Nat) (x : X), r = i ∧ l[i]? = some x ∧ hit h c t x = true
theorem find_spec (A : Option Addr) (cp : Nat) (l : List X) (m : M) (hl : l.length ≤ 1000000) :
    Does Try.prog 107 #[.slice A l.length cp, .agg m.vals.toArray] (fun f => Reads f A (XL.flat l)) [] (fun v p => ∃ r, v = .int .i64 r ∧ FindR l m.host m.ctx m.ticket r ∧ p = []) := by
  refine Does.ofJ Try.func107 Try.call107 rfl [.raw (.slice A l.length cp), .agg m.svs] [] 0 [] rfl rfl (fun h k => k) (fun f hR => ?_)
  intro b1
  refine LoopOb.mk { k : Nat // k ≤ l.length ∧ ∀ i x, k ≤ i → l[i]? = some x → hit m.host m.ctx m.ticket x = false } (fun z => ⟨42, [(0, .raw (.slice A l.length cp)), (3, .ptr 0 0), (5, .int .i64 ((z.1 : Int) - 1))], [(0, .at b1 0)], 1, [.blk 0 141 m.svs]⟩) (fun z => z.1) ⟨l.length, by omega, fun i x h1 h2 => by rw [List.getElem?_eq_none h1] at h2; cases h2⟩ ?_ ?_
  · exact Le.of rfl ⟨⟨_, rfl, rfl⟩, ⟨_, rfl, rfl⟩, ⟨_, rfl, congrArg (fun z => some (Value.int .i64 z)) (w64 (by omega) (by omega))⟩, trivial⟩ (fun h k => k)
  rintro ⟨k, hk, hall⟩
  refine CondOb.split (fun g => ?_) (fun g => ?_)
  rotate_left
  · simp only [decide_eq_false_iff_not] at g
    have k0 : k = 0 := by omega
    refine FinOb.mk _ [] rfl (fun h k => trivial) ⟨-1, rfl, .inl ⟨rfl, fun x hx => ?_⟩, rfl⟩
    obtain ⟨i, hi, e⟩ := List.getElem_of_mem hx
    exact hall i x (by omega) (by rw [List.getElem?_eq_getElem hi, e])
  simp only [decide_eq_true_eq] at g
  have hk1 : k - 1 < l.length := by omega
  have hx := List.getElem?_eq_getElem hk1
  generalize l[k - 1] = x at hx
  have ek : ((k : Int) - 1).toNat = k - 1 := by omega
  obtain ⟨b, o, hA, hc⟩ := hR.lay (by decide) hx
  have hn : 0 ≤ (k : Int) - 1 ∧ (k : Int) - 1 < l.length := by omega
  have hc' : ∀ (j : Nat) v, (XL.cells x)[j]? = some v → fcell f b (o + ((k : Int) - 1).toNat * 20 + j) = some v := by rw [ek]; exact hc
  refine RegOb.join Unit (fun _ => ⟨42, [(0, .raw (.slice A l.length cp)), (3, .ptr 0 0), (5, .int .i64 ((k : Int) - 1)), (40, .bool (hit m.host m.ctx m.ticket x))], [(0, .at b1 0)], 1, [.blk 0 141 m.svs]⟩) ?_ (fun _ => ?_)
  · refine DrawOb.mk [] (.run [0, 1, 2, 3, 4, 5, 6, 7, 8, 9, 10, 11, 12, 13, 14, 15, 16, 17, 18, 19, 20, 21, 22, 23, 24, 25, 26, 27] .nil) (by kernel_rfl) ?_
    refine Need.mk hn (RawAt.mk b o hA ?_)
    refine RdRaw.mk (.int .i64 x.host) _ rfl (hc' 0 _ rfl) ?_
    refine Br.mk (fun h1 => ?_) (fun h1 => ?_)
    rotate_left
    · exact ⟨(), Le.of rfl ⟨⟨_, rfl, rfl⟩, ⟨_, rfl, rfl⟩, ⟨_, rfl, rfl⟩, ⟨_, rfl, (congrArg (fun x => some (Value.bool x)) (by simp only [hit, h1, Bool.false_and]))⟩, trivial⟩ (fun h k => k)⟩
    refine Need.mk hn (RawAt.mk b o hA ?_)
    refine RdRaw.mk (.int .i64 x.ctx) _ rfl (hc' 1 _ rfl) ?_
    refine Br.mk (fun h2 => ?_) (fun h2 => ?_)
    rotate_left
    · exact ⟨(), Le.of rfl ⟨⟨_, rfl, rfl⟩, ⟨_, rfl, rfl⟩, ⟨_, rfl, rfl⟩, ⟨_, rfl, (congrArg (fun x => some (Value.bool x)) (by simp only [hit, h1, h2, Bool.false_and, Bool.true_and]))⟩, trivial⟩ (fun h k => k)⟩
    refine Need.mk hn (RawAt.mk b o hA ?_)
    refine RdRaw.mk (.int .i64 x.ticket) _ rfl (hc' 2 _ rfl) ?_
    exact ⟨(), Le.of rfl ⟨⟨_, rfl, rfl⟩, ⟨_, rfl, rfl⟩, ⟨_, rfl, rfl⟩, ⟨_, rfl, (congrArg (fun x => some (Value.bool x)) (by simp only [hit, h1, h2, Bool.true_and]))⟩, trivial⟩ (fun h k => k)⟩
  refine CondOb.split (fun gh => ?_) (fun gh => ?_)
  · exact FinOb.mk _ [] rfl (fun h k => trivial) ⟨_, rfl, .inr ⟨k - 1, x, by omega, hx, gh⟩, rfl⟩
  refine ⟨⟨k - 1, by omega, fun i y h1 h2 => ?_⟩, by show k - 1 < k; omega, Le.of rfl ⟨⟨_, rfl, rfl⟩, ⟨_, rfl, rfl⟩, ⟨_, rfl, congrArg (fun z => some (Value.int .i64 z)) (by show IntKind.i64.wrap ((k : Int) - 1 - 1) = ((k - 1 : Nat) : Int) - 1; rw [w64 (by omega) (by omega)]; omega)⟩, trivial⟩ (fun h k => k)⟩
  by_cases e : i = k - 1
  · subst e; rw [hx] at h2; cases h2; exact gh
  · exact hall i y (by omega) h2
def fine (x : X) : Bool := x.ended && (x.q.op == 11 || (decide (x.res ≥ 0) && (x.q.op != 6 || decide (x.res ≥ (x.q.n : Int)))))
theorem fine_spec (x : X) : Does Try.prog 123 #[.agg x.vals.toArray] (fun _ => True) [] (fun v p => v = .bool (fine x) ∧ p = []) := by
  refine Does.ofJ Try.func123 Try.call123 rfl [.agg x.svs] [] 0 [] rfl rfl (fun h k => k) (fun f hR => ?_)
  intro b1
  refine RegOb.go ?_
  repeat' refine Br.mk (fun h => ?_) (fun h => ?_)
  all_goals refine FinOb.mk _ [] rfl (fun h k => trivial) ⟨?_, rfl⟩
  all_goals (simp_all [ret1, fine] <;> try omega)
def AheadR (l : List X) (x : X) (r : Int) : Prop := if x.tied then FindR l x.host x.ctx (x.ticket - 1) r else r = -1
theorem ahead_spec (A : Option Addr) (cp : Nat) (l : List X) (x : X) (hl : l.length ≤ 1000000) (ht : 0 ≤ x.ticket) (ht2 : x.ticket ≤ 1000000) :
    Does Try.prog 122 #[.slice A l.length cp, .agg x.vals.toArray] (fun f => Reads f A (XL.flat l)) [] (fun v p => ∃ r, v = .int .i64 r ∧ AheadR l x r ∧ p = []) := by
  refine Does.ofJ Try.func122 Try.call122 rfl [.raw (.slice A l.length cp), .agg x.svs] [] 0 [] rfl rfl (fun h k => k) (fun f hR => ?_)
  intro b1
  unfold AheadR
  refine CondOb.split (fun g => ?_) (fun g => ?_)
  · have g : x.tied = false := by simpa using g
    exact FinOb.mk _ [] rfl (fun h k => trivial) ⟨-1, rfl, by simp [g], rfl⟩
  have g : x.tied = true := by simpa using g
  have ew : IntKind.i64.wrap (x.ticket - 1) = x.ticket - 1 := w64 (by omega) (by omega)
  have hf := find_spec A cp l (M.at x.host x.ctx (IntKind.i64.wrap (x.ticket - 1))) hl
  refine call_ix hf rfl [] (fun h k => k) (fun f' b' hs _ => hR.frame hs) ?_
  rintro v post ⟨r, rfl, hr, rfl⟩
  refine ⟨.int .i64 r, _, 1, [], NmExt.refl _, rfl, fun h k => trivial, ?_⟩
  refine FinOb.mk _ [] rfl (fun h k => trivial) ⟨r, rfl, ?_, rfl⟩
  rw [if_pos g, ← ew]
  exact hr
/-- No ticket twice. -/
def Uq (l : List X) : Prop := ∀ (i j : Nat) (x y : X), l[i]? = some x → l[j]? = some y → hit x.host x.ctx x.ticket y = true → i = j
def look (l : List X) (h c t : Int) : Option X := l.find? (hit h c t)
theorem hit_iff {h c t : Int} {x : X} : hit h c t x = true ↔ x.host = h ∧ x.ctx = c ∧ x.ticket = t := by simp [hit, and_assoc]
theorem look_of {l : List X} (hu : Uq l) {h c t : Int} {i : Nat} {x : X} (hx : l[i]? = some x) (hh : hit h c t x = true) : look l h c t = some x := by
  unfold look
  cases hf : l.find? (hit h c t) with
  | none => exact absurd hh (by simpa using List.find?_eq_none.1 hf x (List.mem_of_getElem? hx))
  | some y =>
    obtain ⟨j, hj, e⟩ := List.getElem_of_mem (List.mem_of_find?_eq_some hf)
    have hy := List.find?_some hf
    obtain ⟨x1, x2, x3⟩ := hit_iff.1 hh
    obtain ⟨y1, y2, y3⟩ := hit_iff.1 hy
    have := hu i j x y hx (by rw [List.getElem?_eq_getElem hj, e]) (hit_iff.2 ⟨by rw [y1, x1], by rw [y2, x2], by rw [y3, x3]⟩)
    subst this
    rw [List.getElem?_eq_getElem hj, e] at hx
    exact hx
theorem look_none {l : List X} {h c t : Int} (hh : ∀ x ∈ l, hit h c t x = false) : look l h c t = none := List.find?_eq_none.2 fun x hx => by rw [hh x hx]; decide
theorem look_some {l : List X} {h c t : Int} {x : X} (hh : look l h c t = some x) : x ∈ l ∧ hit h c t x = true := ⟨List.mem_of_find?_eq_some hh, List.find?_some hh⟩
def okA (a : X) : Bool := a.ended && !a.gone && (fine a || decide (a.q.fl % 4 ≥ 2))
def began (l : List X) (x : X) : Bool := if x.tied then match look l x.host x.ctx (x.ticket - 1) with
  | none => true
  | some a => okA a else true
theorem AheadR.began {l : List X} (hu : Uq l) {x : X} {r : Int} (h : AheadR l x r) : (r = -1 ∧ Au.began l x = true) ∨ ∃ (i : Nat) (a : X), r = i ∧ l[i]? = some a ∧ x.tied = true ∧ look l x.host x.ctx (x.ticket - 1) = some a ∧ Au.began l x = okA a := by
  unfold AheadR at h
  unfold Au.began
  by_cases ht : x.tied = true
  · rw [if_pos ht] at h ⊢
    rcases h with ⟨h1, h2⟩ | ⟨i, a, h1, h2, h3⟩
    · exact .inl ⟨h1, by rw [look_none h2]⟩
    · exact .inr ⟨i, a, h1, h2, ht, look_of hu h2 h3, by rw [look_of hu h2 h3]⟩
  · rw [if_neg ht] at h ⊢
    exact .inl ⟨h, rfl⟩
theorem began_spec (A : Option Addr) (cp : Nat) (l : List X) (x : X) (hl : l.length ≤ 1000000) (ht : 0 ≤ x.ticket) (ht2 : x.ticket ≤ 1000000) (hu : Uq l) (hq : ∀ x ∈ l, x.q.Ok) :
    Does Try.prog 109 #[.slice A l.length cp, .agg x.vals.toArray] (fun f => Reads f A (XL.flat l)) [] (fun v p => v = .bool (began l x) ∧ p = []) := by
  refine Does.ofJ Try.func109 Try.call109 rfl [.raw (.slice A l.length cp), .agg x.svs] [] 0 [] rfl rfl (fun h k => k) (fun f hR => ?_)
  intro b1
  refine call_ix (ahead_spec A cp l x hl ht ht2) rfl [] (fun h k => k) (fun f' b' hs _ => hR.frame hs) ?_
  rintro v post ⟨r, rfl, hr, rfl⟩
  refine ⟨.int .i64 r, _, 1, [], NmExt.refl _, rfl, fun h k => trivial, ?_⟩
  refine RegOb.go ?_
  rcases hr.began hu with ⟨rfl, hb⟩ | ⟨i, a, rfl, ha, htd, hlk, hb⟩
  · refine Br.mk (fun _ => ?_) (fun h => absurd h (by decide))
    exact FinOb.mk _ [] rfl (fun h k => trivial) ⟨by rw [hb]; rfl, rfl⟩
  have hi := (List.getElem?_eq_some_iff.1 ha).1
  have hqa := hq a (List.mem_of_getElem? ha)
  obtain ⟨b, o, hA, hc⟩ := hR.lay (by decide) ha
  have hn : 0 ≤ (i : Int) ∧ (i : Int) < l.length := by omega
  rw [hb]
  refine Br.mk (fun h => absurd h (by simp)) (fun _ => ?_)
  refine Need.mk hn (RawAt.mk b o hA ?_)
  refine RdRaw.mk (.bool a.ended) _ rfl (hc 17 _ rfl) ?_
  refine Br.mk (fun h1 => ?_) (fun h1 => ?_)
  rotate_left
  · exact FinOb.mk _ [] rfl (fun h k => trivial) ⟨by simp only [ret1, okA, h1, Bool.false_and], rfl⟩
  refine Need.mk hn (RawAt.mk b o hA ?_)
  refine RdRaw.mk (.bool a.gone) _ rfl (hc 19 _ rfl) ?_
  refine Br.mk (fun h2 => ?_) (fun h2 => ?_)
  rotate_left
  · exact FinOb.mk _ [] rfl (fun h k => trivial) ⟨by simp only [ret1, okA, h1, h2, Bool.false_and, Bool.and_false], rfl⟩
  refine Need.mk hn (RawAt.mk b o hA ?_)
  refine RdF.mk a.svs a.vals rfl rfl (fun j v hj => hc j v hj) ?_
  refine useP (.bool (fine a)) (fine_spec a) rfl rfl ?_
  refine Br.mk (fun h3 => ?_) (fun h3 => ?_)
  · exact FinOb.mk _ [] rfl (fun h k => trivial) ⟨by simp only [ret1, okA, h1, h2, h3, Bool.true_and, Bool.true_or], rfl⟩
  refine Need.mk hn (RawAt.mk b o hA ?_)
  refine RdRaw.mk (.int .u8 a.q.fl) _ rfl (hc 4 _ rfl) ?_
  have e4 : a.q.fl.tmod 4 = a.q.fl % 4 := Int.tmod_eq_emod_of_nonneg hqa.fl0
  refine Need.mk (by decide) ?_
  exact FinOb.mk _ [] rfl (fun h k => trivial) ⟨by simp only [ret1, okA, h1, h2, h3, Bool.true_and, Bool.false_or, e4], rfl⟩
end Go.Proofs.Ytlgdagjbphafcaa.Au
