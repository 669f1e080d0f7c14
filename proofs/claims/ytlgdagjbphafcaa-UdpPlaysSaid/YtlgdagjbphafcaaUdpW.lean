/- What the functions of towrope/udp do. Conditions: none. -/
import Derived.Test.YtlgdagjbphafcaaProg
import Derived.Test.YtlgdagjbphafcaaE15
namespace Go.Proofs.Ytlgdagjbphafcaa.Udp
open Go Go.Proofs Sx
set_option maxRecDepth 100000
set_option linter.unusedVariables false

/-- A datagram: whose, its bytes, where they lie. -/
structure M where
  a : Int
  p : Int
  l : Plc
  cap : Nat
  xs : List Value
def M.sl (m : M) : Value := .slice (locAddr 0 m.l) m.xs.length m.cap
def M.cells (m : M) : List Value := [.int .u32 m.a, .int .u16 m.p, m.sl]
def M.own (m : M) : Asn := Vec m.l 5 1 m.cap m.xs
def flat (ms : List M) : List Value := ms.flatMap M.cells
def Own (ms : List M) : Asn := sat (ms.map M.own)
/-- A box. -/
structure B where
  most : Int
  room : Int
  a : Int
  p : Int
  held : Int
  lost : Int
  told : Int
  ms : List M
def sum (ms : List M) : Nat := (ms.map (·.xs.length)).sum
structure Inv (x : B) : Prop where
  m1 : 1 ≤ x.most
  m2 : x.most ≤ 64
  r1 : 1 ≤ x.room
  r2 : x.room ≤ 1048576
  len : (x.ms.length : Int) ≤ x.most
  held : x.held = sum x.ms
  fits : x.held ≤ x.room
  caps : ∀ m ∈ x.ms, m.xs.length ≤ m.cap
  l1 : 0 ≤ x.lost
  l2 : x.lost ≤ 1000000000
def boxS (x : B) (cap : Nat) : List SV := [.int .i64 x.most, .int .i64 x.room, .int .u32 x.a, .int .u16 x.p, .sl 1 0 x.ms.length cap, .int .i64 x.held, .int .i64 x.lost, .int .i64 x.told]
def boxV (x : B) (l : Plc) (cap : Nat) : List Value := [.int .i64 x.most, .int .i64 x.room, .int .u32 x.a, .int .u16 x.p, .slice (locAddr 0 l) x.ms.length cap, .int .i64 x.held, .int .i64 x.lost, .int .i64 x.told]
def Box (b : Nat) (x : B) (l : Plc) (cap : Nat) : List Asn := [pt b (.cells (boxV x l cap).toArray 131 (0, 0)), Vec l 37 3 cap (flat x.ms), Own x.ms]
theorem flat_length (ms : List M) : (flat ms).length = ms.length * 3 := by
  induction ms with
  | nil => rfl
  | cons m ms ih => simp [flat, M.cells] at ih ⊢; omega

theorem code_spec (n : Int) : Does Try.prog 17 #[.int .i64 n] (fun _ => True) [] (fun v p => v = .int .i64 n ∧ p = []) := by
  refine Does.of Try.func17 Try.call17 rfl [.int .i64 n] [] 0 [] rfl rfl (fun h k => k) (fun f hR => ?_)
  exact FinOb.mk _ [] rfl (fun h k => trivial) ⟨rfl, rfl⟩
/-- Whom it lets in. -/
def lets (x : B) (a p : Int) : Bool := (x.a == 0 && x.p == 0) || (x.a == a && x.p == p)
theorem lets_spec (b : Nat) (x : B) (l : Plc) (cap : Nat) (a p : Int) :
    Does Try.prog 77 #[.pointer (some ⟨b, 0, none⟩), .agg #[.int .u32 a, .int .u16 p]] (fun _ => True) [pt b (.cells (boxV x l cap).toArray 131 (0, 0))] (fun v q => v = .bool (lets x a p) ∧ q = [pt b (.cells (boxV x l cap).toArray 131 (0, 0))]) := by
  refine Does.of Try.func77 Try.call77 rfl [.ptr 0 0, .agg [.int .u32 a, .int .u16 p]] [(0, .at b 0), (1, l)] 2 [.blk 0 131 (boxS x cap)] rfl rfl (fun h => sat_cons (fun h => blk_of rfl rfl) (fun h k => k)) (fun f hR => ?_)
  intro b2
  refine DrawOb.mk [] (.run [0, 1, 2, 3, 4, 5, 6, 7, 8, 9, 10, 11, 12, 13, 14] .nil) (by kernel_rfl) ?_
  refine BinOb.eqs 3 (by kernel_rfl) ?_ rfl rfl
  refine Br.mk (fun h => ?_) (fun h => ?_)
  · refine FinOb.mk _ [pt b (.cells (boxV x l cap).toArray 131 (0, 0))] rfl (fun h k => sat_cons (fun h => blk_to rfl rfl) (fun h k => (trivial : sat [] h)) (sat_tail k)) ⟨?_, rfl⟩
    have : (x.a == 0 && x.p == 0) = true := by simpa using h
    simp only [lets, this, Bool.true_or]; rfl
  refine BinOb.eqs 3 (by kernel_rfl) ?_ rfl rfl
  refine FinOb.mk _ [pt b (.cells (boxV x l cap).toArray 131 (0, 0))] rfl (fun h k => sat_cons (fun h => blk_to rfl rfl) (fun h k => (trivial : sat [] h)) (sat_tail k)) ⟨?_, rfl⟩
  have : (x.a == 0 && x.p == 0) = false := by simpa using h
  simp only [lets, this, Bool.false_or, ret1]
  simp
theorem new_spec (most room : Int) :
    Does Try.prog 16 #[.int .i64 most, .int .i64 room] (fun _ => True) [] (fun v q => (¬ (1 ≤ most ∧ most ≤ 64 ∧ 1 ≤ room ∧ room ≤ 1048576) ∧ v = .tuple #[.pointer none, .int .i64 1] ∧ q = []) ∨
      ((1 ≤ most ∧ most ≤ 64 ∧ 1 ≤ room ∧ room ≤ 1048576) ∧ ∃ b, v = .tuple #[.pointer (some ⟨b, 0, none⟩), .int .i64 0] ∧ q = Box b ⟨most, room, 0, 0, 0, 0, 0, []⟩ .nil 0)) := by
  refine Does.of Try.func16 Try.call16 rfl [.int .i64 most, .int .i64 room] [] 0 [] rfl rfl (fun h k => k) (fun f hR => ?_)
  refine Br.mk (fun h1 => ?_) (fun h1 => ?_)
  · refine FinOb.mk _ [] rfl (fun h k => trivial) (.inl ⟨?_, rfl, rfl⟩)
    simp at h1; omega
  refine Br.mk (fun h2 => ?_) (fun h2 => ?_)
  · refine FinOb.mk _ [] rfl (fun h k => trivial) (.inl ⟨?_, rfl, rfl⟩)
    simp at h2; omega
  refine Br.mk (fun h3 => ?_) (fun h3 => ?_)
  · refine FinOb.mk _ [] rfl (fun h k => trivial) (.inl ⟨?_, rfl, rfl⟩)
    simp at h3; omega
  refine CondOb.split (fun h4 => ?_) (fun h4 => ?_)
  · refine FinOb.mk _ [] rfl (fun h k => trivial) (.inl ⟨?_, rfl, rfl⟩)
    simp at h4; omega
  intro b
  refine FinOb.mk _ (Box b ⟨most, room, 0, 0, 0, 0, 0, []⟩ .nil 0) rfl (fun h => sat_cons (fun h => blk_to rfl rfl) (fun h k => sat_add vec_emp (sat_add trivial k))) (.inr ⟨?_, b, rfl, rfl⟩)
  simp at h1 h2 h3 h4; omega
theorem len_spec (b : Nat) (x : B) (l : Plc) (cap : Nat) : Does Try.prog 20 #[.pointer (some ⟨b, 0, none⟩)] (fun _ => True) [pt b (.cells (boxV x l cap).toArray 131 (0, 0))] (fun v q => v = .int .i64 x.ms.length ∧ q = [pt b (.cells (boxV x l cap).toArray 131 (0, 0))]) := by
  refine Does.of Try.func20 Try.call20 rfl [.ptr 0 0] [(0, .at b 0), (1, l)] 2 [.blk 0 131 (boxS x cap)] rfl rfl (fun h => sat_cons (fun h => blk_of rfl rfl) (fun h k => k)) (fun f hR => ?_)
  exact FinOb.mk _ [pt b (.cells (boxV x l cap).toArray 131 (0, 0))] rfl (fun h => sat_cons (fun h => blk_to rfl rfl) (fun h k => k)) ⟨rfl, rfl⟩
theorem lost_spec (b : Nat) (x : B) (l : Plc) (cap : Nat) : Does Try.prog 21 #[.pointer (some ⟨b, 0, none⟩)] (fun _ => True) [pt b (.cells (boxV x l cap).toArray 131 (0, 0))] (fun v q => v = .int .i64 x.lost ∧ q = [pt b (.cells (boxV x l cap).toArray 131 (0, 0))]) := by
  refine Does.of Try.func21 Try.call21 rfl [.ptr 0 0] [(0, .at b 0), (1, l)] 2 [.blk 0 131 (boxS x cap)] rfl rfl (fun h => sat_cons (fun h => blk_of rfl rfl) (fun h k => k)) (fun f hR => ?_)
  exact FinOb.mk _ [pt b (.cells (boxV x l cap).toArray 131 (0, 0))] rfl (fun h => sat_cons (fun h => blk_to rfl rfl) (fun h k => k)) ⟨rfl, rfl⟩

/-! ### Clone -/
/-- What a slice of bytes reads. -/
structure Bytes (f : HP) (A : Option Addr) (ys : List Value) : Prop where
  cells : ∀ i v, ys[i]? = some v → ∃ b o, A = some ⟨b, o, none⟩ ∧ fcell f b (o + i) = some v
  u8 : ∀ v ∈ ys, ∃ n, v = .int .u8 n
theorem Bytes.one {f : HP} {A : Option Addr} {ys : List Value} (h : Bytes f A ys) : ∀ v ∈ ys, v.oneCell' = true := fun v hv => by
  obtain ⟨n, rfl⟩ := h.u8 v hv; rfl
theorem clone_spec (A : Option Addr) (cap : Nat) (ys : List Value) (hk : ys.length ≤ 100000000) :
    Does Try.prog 78 #[.slice A ys.length cap] (fun f => Bytes f A ys) [] (fun v q => ∃ l cap', v = .slice (locAddr 0 l) ys.length cap' ∧ ys.length ≤ cap' ∧ (ys ≠ [] → ∃ b o, l = .at b o) ∧ q = [Vec l 5 1 cap' ys]) := by
  refine Does.of Try.func78 Try.call78 rfl [.raw (.slice A ys.length cap)] [] 0 [] rfl rfl (fun h k => k) (fun f hR => ?_)
  cases A with
  | none =>
    have h0 : ys = [] := by
      cases ys with
      | nil => rfl
      | cons v ys => obtain ⟨_, _, h, _⟩ := hR.cells 0 v rfl; cases h
    subst h0
    refine FinOb.mk [.slice none 0 0] [Vec .nil 5 1 0 []] rfl (fun h k => ⟨HP.emp, h, .emp_left h, ⟨by simp, .inl ⟨rfl, rfl, rfl⟩⟩, trivial⟩) ⟨.nil, 0, rfl, Nat.le_refl _, fun h => absurd rfl h, rfl⟩
  | some ad =>
    intro b
    refine SrcF.mk ys (by omega) hR.cells ?_
    refine StOb.mk [] rfl (Need.mk (by simp) (Need.mk ⟨by omega, by simp only [maxLen]; omega, hR.one⟩ ?_))
    by_cases h0 : ys = []
    · refine NewSl.any (fun l cap' hc => ?_)
      refine FinOb.mk [.slice (locAddr 0 l) (0 + ys.length) cap'] [Vec l 5 1 cap' ys] rfl (fun h k => sat_cons (fun h => vec_to rfl) (fun h k => (trivial : sat [] h)) k) ⟨l, cap', by simp [ret1], by omega, fun h => absurd h0 h, rfl⟩
    · refine NewSl.pos (by have := List.length_pos_iff.2 h0; omega) (fun b5 o5 cap' hc => ?_)
      refine FinOb.mk [.slice (locAddr 0 (.at b5 o5)) (0 + ys.length) cap'] [Vec (.at b5 o5) 5 1 cap' ys] rfl (fun h k => sat_cons (fun h => vec_to rfl) (fun h k => (trivial : sat [] h)) k) ⟨.at b5 o5, cap', by simp [ret1], by omega, fun _ => ⟨_, _, rfl⟩, rfl⟩
/-! ### Put -/
def put (x : B) (m : M) : B × Int :=
  if lets x m.a m.p = false then (x, 6) else
  if (x.ms.length : Int) = x.most ∨ (m.xs.length : Int) > x.room - x.held then ({ x with lost := x.lost + 1 }, 5) else
  ({ x with held := x.held + m.xs.length, ms := x.ms ++ [m] }, 0)
theorem w64 {x : Int} (h : -9223372036854775808 ≤ x) (k : x ≤ 9223372036854775807) : IntKind.i64.wrap x = x := by rw [IntKind.wrap_i64]; omega
theorem useB {P : Program} {f : HP} {g : FuncId} {args : List SV} {K : SV → St → Prop} {s : St} {b k : Nat} {t : TypeId} {cs : List SV} {us : List Value} {v : Value} {vals : List Value} (i : Nat) (sv : SV)
    (spec : Does P g vals.toArray (fun _ => True) [pt b (.cells us.toArray t (0, 0))] (fun u p => u = v ∧ p = [pt b (.cells us.toArray t (0, 0))])) (hv : denL s.nm args = some vals) (hi : s.hp[i]? = some (.blk k t cs)) (hn : getN s.nm k = some (.at b 0)) (hu : denL s.nm cs = some us) (hd : den s.nm sv = some v)
    (h : K sv ⟨s.n, s.env, s.nm, s.next, .blk k t cs :: s.hp.eraseIdx i⟩) : CallOb P f g args K s := by
  refine call_at i spec hi hv (fun h => blk_to hn hu) (fun _ _ => trivial) ?_
  rintro u post ⟨rfl, rfl⟩
  exact ⟨sv, .blk k t cs :: s.hp.eraseIdx i, hd, fun h => sat_cons (fun h => blk_of hn hu) (fun h k => k), h⟩
theorem own_push {m : M} {ms : List M} {h : HP} (k : sat (m.own :: [Own ms]) h) : sat [Own (ms ++ [m])] h := by
  obtain ⟨x, y, s, hx, hy⟩ := k
  obtain ⟨x2, y2, s2, h2, _⟩ := hy
  have h3 : sat (ms.map M.own) y := sat_more s2.comm h2
  refine ⟨h, HP.emp, .emp_right h, ?_, trivial⟩
  show sat ((ms ++ [m]).map M.own) h
  rw [List.map_append]
  exact sat_join s.comm h3 ⟨x, HP.emp, .emp_right x, hx, trivial⟩
theorem put_spec (b : Nat) (x : B) (l : Plc) (cap : Nat) (a p : Int) (A : Option Addr) (c : Nat) (ys : List Value) (hx : Inv x) (hc : x.ms.length ≤ cap) (hy : ys.length ≤ 1000000000) :
    Does Try.prog 18 #[.pointer (some ⟨b, 0, none⟩), .agg #[.int .u32 a, .int .u16 p, .slice A ys.length c]] (fun f => Bytes f A ys) (Box b x l cap)
      (fun v q => ∃ l' cap' l2 c2, (ys.length ≤ c2 ∧ (ys ≠ [] → ∃ b o, l2 = .at b o)) ∧ v = .int .i64 (put x ⟨a, p, l2, c2, ys⟩).2 ∧ (put x ⟨a, p, l2, c2, ys⟩).1.ms.length ≤ cap' ∧ q = Box b (put x ⟨a, p, l2, c2, ys⟩).1 l' cap') := by
  obtain ⟨i1, i2, i3, i4, i5, i6, i7, ic, i8, i9⟩ := hx
  have hl0 : (x.ms.length : Int) ≤ 64 := by omega
  have hh0 : 0 ≤ x.held := by omega
  refine Does.of Try.func18 Try.call18 rfl [.ptr 0 0, .agg [.int .u32 a, .int .u16 p, .raw (.slice A ys.length c)]] [(0, .at b 0), (1, l)] 2 [.blk 0 131 (boxS x cap), .vec 1 37 3 cap (flat x.ms), .asn (Own x.ms)] rfl rfl
    (fun h => sat_cons (fun h => blk_of rfl rfl) (fun h => sat_cons (fun h => vec_of rfl) (fun h k => k))) (fun f hR => ?_)
  intro b2
  refine useB 1 (.bool (lets x a p)) (lets_spec b x l cap a p) rfl rfl rfl rfl rfl ?_
  refine CondOb.split (fun h1 => ?_) (fun h1 => ?_)
  · refine FinOb.mk [.int .i64 6] (Box b x l cap) rfl (fun h k => sat_cons (fun h => blk_to rfl rfl) (fun h k => sat_cons (fun h => vec_to rfl) (fun h k => k) (sat_tail k)) k) ⟨l, cap, .at 0 0, ys.length, ⟨Nat.le_refl _, fun _ => ⟨_, _, rfl⟩⟩, ?_⟩
    have : lets x a p = false := by simpa using h1
    simp [put, this, ret1, hc]
  have h1 : lets x a p = true := by simpa using h1
  refine DrawOb.mk [] (.run [0, 1, 2, 3, 4, 5, 6, 7, 8, 9, 10, 11, 12, 13, 14, 15, 16, 17, 18, 19, 20, 21, 22, 23, 24, 25] .nil) (by kernel_rfl) ?_
  have hlen : ((x.ms.length : Int) == x.most) = decide ((x.ms.length : Int) = x.most) := by rfl
  have er : IntKind.i64.wrap (x.room - x.held) = x.room - x.held := w64 (by omega) (by omega)
  have el : IntKind.i64.wrap (x.lost + 1) = x.lost + 1 := w64 (by omega) (by omega)
  have full : ∀ (l2 : Plc) (c2 : Nat), ((x.ms.length : Int) = x.most ∨ (ys.length : Int) > x.room - x.held) → put x ⟨a, p, l2, c2, ys⟩ = ({ x with lost := x.lost + 1 }, 5) := fun l2 c2 h => by simp [put, h1, h]
  refine Br.mk (fun h2 => ?_) (fun h2 => ?_)
  · refine FinOb.mk [.int .i64 5] (Box b { x with lost := IntKind.i64.wrap (x.lost + 1) } l cap) rfl (fun h k => sat_cons (fun h => blk_to rfl rfl) (fun h k => sat_cons (fun h => vec_to rfl) (fun h k => k) (sat_tail k)) k) ⟨l, cap, .at 0 0, ys.length, ⟨Nat.le_refl _, fun _ => ⟨_, _, rfl⟩⟩, ?_⟩
    rw [full (.at 0 0) ys.length (.inl (by simpa using h2)), el]
    exact ⟨rfl, hc, rfl⟩
  refine CondOb.split (fun h3 => ?_) (fun h3 => ?_)
  · refine FinOb.mk [.int .i64 5] (Box b { x with lost := IntKind.i64.wrap (x.lost + 1) } l cap) rfl (fun h k => sat_cons (fun h => blk_to rfl rfl) (fun h k => sat_cons (fun h => vec_to rfl) (fun h k => k) (sat_tail k)) k) ⟨l, cap, .at 0 0, ys.length, ⟨Nat.le_refl _, fun _ => ⟨_, _, rfl⟩⟩, ?_⟩
    rw [er] at h3
    rw [full (.at 0 0) ys.length (.inr (by simpa using h3)), el]
    exact ⟨rfl, hc, rfl⟩
  rw [er] at h3
  have h2 : ¬ (x.ms.length : Int) = x.most := by simpa using h2
  have h3 : ¬ (ys.length : Int) > x.room - x.held := by simpa using h3
  have ok : ∀ (l2 : Plc) (c2 : Nat), put x ⟨a, p, l2, c2, ys⟩ = ({ x with held := x.held + ys.length, ms := x.ms ++ [⟨a, p, l2, c2, ys⟩] }, 0) := fun l2 c2 => by
    simp only [put, h1, Bool.true_eq_false, if_false]
    rw [if_neg (by simp only [not_or]; exact ⟨h2, h3⟩)]
  refine DrawOb.mk [(9, [0, 1, 2, 3, 4, 5, 6]), (11, [0, 1, 2, 3, 4]), (12, [0])] (.run [0, 1, 2, 3, 4, 5, 6, 7, 8, 9, 10, 11, 12, 13, 14, 15] .nil) (by kernel_rfl) ?_
  refine CallOb.mk _ [.slice A ys.length c] rfl (fun f => Bytes f A ys) [] _ (clone_spec A c ys (by omega)) [.blk 0 131 (boxS x cap), .blk 2 37 [.int .u32 a, .int .u16 p, .raw (.slice A ys.length c)], .vec 1 37 3 cap (flat x.ms), .asn (Own x.ms)] (fun h k => k) (fun f' b' hs _ => ⟨fun i v hi => ?_, hR.u8⟩) ?_
  · obtain ⟨b3, o, e1, e2⟩ := hR.cells i v hi
    refine ⟨b3, o, e1, ?_⟩
    unfold fcell at e2 ⊢
    split at e2 <;> try (cases e2; done)
    rename_i cc t fr hb
    rw [hs.get_right hb]; exact e2
  rintro v post ⟨l2, c2, rfl, hc2, hl2, rfl⟩
  refine ⟨.sl 3 0 ys.length c2, ⟨_, _, [(3, l2), (2, .at b2 0), (0, .at b 0), (1, l)], 4, [.vec 3 5 1 c2 ys, .blk 0 131 (boxS x cap), .blk 2 37 [.int .u32 a, .int .u16 p, .raw (.slice A ys.length c)], .vec 1 37 3 cap (flat x.ms), .asn (Own x.ms)]⟩, ?_, rfl, rfl, NmExt.push rfl, rfl, fun h k => sat_cons (fun h => vec_of rfl) (fun h k => k) k⟩
  refine Need.mk rfl (Need.mk rfl ?_)
  intro b4
  refine Need.mk rfl ?_
  refine StOb.mk (M.cells ⟨a, p, l2, c2, ys⟩) rfl (Need.mk rfl ?_)
  refine Need.mk ⟨by rw [flat_length]; omega, by omega, hc⟩ ?_
  refine Need.mk ⟨by omega, by simp only [maxLen]; omega, fun v hv => by simp [M.cells, M.sl] at hv; rcases hv with rfl | rfl | rfl <;> rfl⟩ ?_
  refine NewSl.pos (by omega) (fun b5 o5 cap' hc' => ?_)
  refine DrawOb.mk [] (.run [0, 1, 2, 3, 4, 5, 6, 7, 8, 9, 10] .nil) (by kernel_rfl) ?_
  have ef : ((flat x.ms).drop 0).take (x.ms.length * 3) ++ M.cells ⟨a, p, l2, c2, ys⟩ = flat (x.ms ++ [⟨a, p, l2, c2, ys⟩]) := by
    rw [List.drop_zero, List.take_of_length_le (by rw [flat_length]; exact Nat.le_refl _)]
    simp [flat]
  have eh : IntKind.i64.wrap (x.held + ys.length) = x.held + ys.length := w64 (by omega) (by omega)
  refine FinOb.mk [.int .i64 0] (Box b { x with held := IntKind.i64.wrap (x.held + ys.length), ms := x.ms ++ [⟨a, p, l2, c2, ys⟩] } (.at b5 o5) cap') rfl ?_ ?_
  · exact fun h k => sat_cons (fun h k => by
        simp only [boxV, List.length_append, List.length_singleton]
        exact blk_to (n := 0) (b := b) (vs := [.int .i64 x.most, .int .i64 x.room, .int .u32 x.a, .int .u16 x.p, .slice (locAddr 0 (.at b5 o5)) (x.ms.length + 1) cap', .int .i64 (IntKind.i64.wrap (x.held + ys.length)), .int .i64 x.lost, .int .i64 x.told]) rfl rfl k) (fun h k => sat_cons (fun h k => by have := vec_to (l := .at b5 o5) rfl k; rw [ef] at this; exact this) (fun h k => own_push (m := ⟨a, p, l2, c2, ys⟩) (sat_cons (fun h => vec_to rfl) (fun h k => sat_tail k) (sat_tail k))) k) k
  · refine ⟨.at b5 o5, cap', l2, c2, ⟨hc2, hl2⟩, ?_⟩
    rw [ok, eh]
    exact ⟨rfl, by simpa using hc', rfl⟩

/-! ### Take -/
theorem nope {P : Program} {g : FuncId} {vals : Array Value} {R : HP → Prop} {pre : List Asn} {Q : Value → List Asn → Prop} (he : Enters P g) (h : ∀ h, sat pre h → False) : Does P g vals R pre Q :=
  ⟨he, fun f w _ hat => by obtain ⟨x, _, k⟩ := hat; exact (h x k).elim⟩
def zeroM : Value := .agg #[.int .u32 0, .int .u16 0, .slice none 0 0]
/-- What Take leaves and answers. -/
def Took (b : Nat) (x : B) (l : Plc) (cap : Nat) (n : Int) (v : Value) (q : List Asn) : Prop :=
  (x.told ≠ 0 ∧ v = .tuple #[zeroM, .int .i64 0, .int .i64 x.told] ∧ q = Box b { x with told := 0 } l cap) ∨
  (x.told = 0 ∧ x.ms = [] ∧ v = .tuple #[zeroM, .int .i64 0, .int .i64 6] ∧ q = Box b x l cap) ∨
  (x.told = 0 ∧ x.ms ≠ [] ∧ n < 0 ∧ v = .tuple #[zeroM, .int .i64 0, .int .i64 1] ∧ q = Box b x l cap) ∨
  (x.told = 0 ∧ 0 ≤ n ∧ ∃ m rest l' cap', x.ms = m :: rest ∧ rest.length ≤ cap' ∧ v = .tuple #[.agg #[.int .u32 m.a, .int .u16 m.p, .slice (locAddr 0 m.l) (if (m.xs.length : Int) < n then (m.xs.length : Int) else n).toNat m.cap], .int .i64 m.xs.length, .int .i64 0] ∧
    q = Box b { x with ms := rest, held := x.held - m.xs.length } l' cap' ++ [m.own])
theorem own_pop {m : M} {ms : List M} {h : HP} (k : sat [Own (m :: ms)] h) : sat [Own ms, m.own] h := by
  obtain ⟨x, y, s, hx, _⟩ := k
  obtain ⟨x2, y2, s2, h2, h3⟩ := hx
  obtain ⟨t1, t2⟩ := s.assoc' s2
  obtain ⟨u1, u2⟩ := t1.comm.assoc' t2
  exact ⟨y2, _, u1, h3, x2, y, u2.comm, h2, trivial⟩
theorem vec_none {b o : Nat} {t : TypeId} {sz cap : Nat} {xs : List Value} {h : HP} (k : Vec (.at b o) t sz cap xs h) : Vec (.at b o) t sz 0 [] h := by
  obtain ⟨_, ⟨h1, _⟩ | ⟨b', o', pre, post, h1, h2, h3, h4⟩⟩ := k
  · cases h1
  · exact ⟨by simp, .inr ⟨b', o', pre, xs ++ post, h1, by simpa using h2, h3, by simp⟩⟩
theorem vec_shift {b o : Nat} {t : TypeId} {sz cap : Nat} {xs ys : List Value} {h : HP} (n : Nat) (k : Vec (.at b o) t sz cap (ys ++ xs) h) (hn : ys.length = n * sz) : Vec (.at b (o + n * sz)) t sz (cap - n) xs h := by
  obtain ⟨hp, ⟨h1, _⟩ | ⟨b', o', pre, post, h1, h2, h3, h4⟩⟩ := k
  · cases h1
  · simp only [Plc.at.injEq] at h1
    obtain ⟨rfl, rfl⟩ := h1
    refine ⟨fun v hv => hp v (List.mem_append_right _ hv), .inr ⟨b, _, pre ++ ys, post, rfl, by simpa using h2, by simp [h3, hn], ?_⟩⟩
    rw [List.length_append, hn] at h4
    rw [Nat.sub_mul]; omega
theorem take_spec (b : Nat) (x : B) (l : Plc) (cap : Nat) (n : Int) (hx : Inv x) (hc : x.ms.length ≤ cap) :
    Does Try.prog 19 #[.pointer (some ⟨b, 0, none⟩), .int .i64 n] (fun _ => True) (Box b x l cap) (Took b x l cap n) := by
  obtain ⟨i1, i2, i3, i4, i5, i6, i7, ic, i8, i9⟩ := hx
  obtain ⟨most, room, a, p, held, lost, told, ms⟩ := x
  cases ms with
  | nil =>
    refine Does.of Try.func19 Try.call19 rfl [.ptr 0 0, .int .i64 n] [(0, .at b 0), (1, l)] 2 [.blk 0 131 (boxS ⟨most, room, a, p, held, lost, told, []⟩ cap), .vec 1 37 3 cap (flat ([])), .asn (Own ([]))] rfl rfl
      (fun h => sat_cons (fun h => blk_of rfl rfl) (fun h => sat_cons (fun h => vec_of rfl) (fun h k => k))) (fun f hR => ?_)
    intro b2
    refine CondOb.split (fun h1 => ?_) (fun h1 => ?_)
    · have h1 : told ≠ 0 := by simpa using h1
      exact FinOb.mk [zeroM, .int .i64 0, .int .i64 told] (Box b ⟨most, room, a, p, held, lost, 0, []⟩ l cap) rfl (fun h k => sat_cons (fun h => blk_to rfl rfl) (fun h k => sat_cons (fun h => vec_to rfl) (fun h k => k) k) (sat_tail k)) (.inl ⟨h1, rfl, rfl⟩)
    have h1 : told = 0 := by simpa using h1
    subst h1
    refine CondOb.split (fun h2 => ?_) (fun h2 => absurd h2 (by simp))
    exact FinOb.mk [zeroM, .int .i64 0, .int .i64 6] (Box b ⟨most, room, a, p, held, lost, 0, []⟩ l cap) rfl (fun h k => sat_cons (fun h => blk_to rfl rfl) (fun h k => sat_cons (fun h => vec_to rfl) (fun h k => k) k) (sat_tail k)) (.inr (.inl ⟨rfl, rfl, rfl, rfl⟩))
  | cons m rest =>
    cases l with
    | nil =>
      refine nope Try.call19 fun h k => ?_
      obtain ⟨_, y, _, _, z, _, _, hv, _⟩ := k
      rcases hv.2 with ⟨_, h2, _⟩ | ⟨b', o', _, _, h1, _⟩
      · have := flat_length (m :: rest)
        simp only at h2
        rw [h2] at this
        simp at this
      · cases h1
    | «at» bl ol =>
      refine Does.of Try.func19 Try.call19 rfl [.ptr 0 0, .int .i64 n] [(0, .at b 0), (1, .at bl ol)] 2 [.blk 0 131 (boxS ⟨most, room, a, p, held, lost, told, m :: rest⟩ cap), .vec 1 37 3 cap (flat (m :: rest)), .asn (Own (m :: rest))] rfl rfl
        (fun h => sat_cons (fun h => blk_of rfl rfl) (fun h => sat_cons (fun h => vec_of rfl) (fun h k => k))) (fun f hR => ?_)
      intro b2
      refine CondOb.split (fun h1 => ?_) (fun h1 => ?_)
      · have h1 : told ≠ 0 := by simpa using h1
        exact FinOb.mk [zeroM, .int .i64 0, .int .i64 told] (Box b ⟨most, room, a, p, held, lost, 0, m :: rest⟩ (.at bl ol) cap) rfl (fun h k => sat_cons (fun h => blk_to rfl rfl) (fun h k => sat_cons (fun h => vec_to rfl) (fun h k => k) k) (sat_tail k)) (.inl ⟨h1, rfl, rfl⟩)
      have h1 : told = 0 := by simpa using h1
      subst h1
      refine CondOb.split (fun h2 => absurd h2 (by simp; omega)) (fun h2 => ?_)
      refine CondOb.split (fun h3 => ?_) (fun h3 => ?_)
      · have h3 : n < 0 := by simpa using h3
        exact FinOb.mk [zeroM, .int .i64 0, .int .i64 1] (Box b ⟨most, room, a, p, held, lost, 0, m :: rest⟩ (.at bl ol) cap) rfl (fun h k => sat_cons (fun h => blk_to rfl rfl) (fun h k => sat_cons (fun h => vec_to rfl) (fun h k => k) k) (sat_tail k)) (.inr (.inr (.inl ⟨rfl, by simp, h3, rfl, rfl⟩)))
      have h3 : 0 ≤ n := by simpa using h3
      have hm : m.xs.length ≤ m.cap := ic m (by simp)
      refine Need.mk (by simp; try omega) ?_
      refine RdObL.mk [.int .u32 m.a, .int .u16 m.p, .raw m.sl] (by omega) (by rw [flat_length]; simp; omega) rfl ?_
      refine Need.mk (by simp; try omega) ?_
      have hs : held = m.xs.length + (sum rest : Nat) := by simpa [sum] using i6
      have hr : held ≤ 1048576 := by simp only at i7 i4; omega
      have ew : IntKind.i64.wrap (held - m.xs.length) = held - m.xs.length := w64 (by omega) (by omega)
      refine Need.mk (by split <;> omega) ?_
      refine FinOb.mk [.agg #[.int .u32 m.a, .int .u16 m.p, .slice (locAddr 0 m.l) (if (m.xs.length : Int) < n then (m.xs.length : Int) else n).toNat m.cap], .int .i64 m.xs.length, .int .i64 0]
        (Box b ⟨most, room, a, p, IntKind.i64.wrap (held - m.xs.length), lost, 0, rest⟩ (if cap = 1 then .at bl ol else .at bl (ol + 3)) (cap - 1) ++ [m.own]) rfl ?_ (.inr (.inr (.inr ⟨rfl, h3, m, rest, _, cap - 1, rfl, by simp at hc; omega, rfl, by rw [ew]⟩)))
      intro h k
      have k := sat_tail k
      refine sat_cons (fun h k => ?_) (fun h k => sat_cons (fun h k => ?_) (fun h k => own_pop k) k) k
      · have := blk_to (n := 0) (b := b) (vs := [.int .i64 most, .int .i64 room, .int .u32 a, .int .u16 p, .slice (locAddr (if cap = 1 then 0 else 3) (.at bl ol)) rest.length (cap - 1), .int .i64 (IntKind.i64.wrap (held - m.xs.length)), .int .i64 lost, .int .i64 0]) rfl rfl k
        by_cases hcap : cap = 1
        · simp only [hcap, if_true] at this ⊢; exact this
        · simp only [hcap, if_false, locAddr] at this ⊢; exact this
      · have hv := vec_to (l := .at bl ol) rfl k
        by_cases hcap : cap = 1
        · have : rest = [] := by
            simp only [List.length_cons] at hc
            exact List.length_eq_zero_iff.1 (by omega)
          subst this; subst hcap
          exact vec_none hv
        · simp only [hcap, if_false]
          exact vec_shift (ys := m.cells) 1 hv rfl
end Go.Proofs.Ytlgdagjbphafcaa.Udp
