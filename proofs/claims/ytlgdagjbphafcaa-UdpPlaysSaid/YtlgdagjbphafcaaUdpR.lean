/- What the functions of udp's reference do. Conditions: none. -/
import Derived.Test.YtlgdagjbphafcaaUdpN
namespace Go.Proofs.Ytlgdagjbphafcaa.Udp
open Go Go.Proofs Sx
set_option maxRecDepth 100000
set_option linter.unusedVariables false

/-- A datagram of the reference: its bytes lie in the frame. -/
structure Q where
  a : Int
  p : Int
  A : Option Addr
  c : Nat
  xs : List Value
def Q.cells (q : Q) : List Value := [.int .u32 q.a, .int .u16 q.p, .slice q.A q.xs.length q.c]
def qflat (l : List Q) : List Value := l.flatMap Q.cells
theorem qflat_length (l : List Q) : (qflat l).length = l.length * 3 := by
  induction l with
  | nil => rfl
  | cons m ms ih => simp [qflat, Q.cells] at ih ⊢; omega
theorem qflat_at (l : List Q) (i : Nat) (q : Q) (h : l[i]? = some q) (j : Nat) (v : Value) (hv : q.cells[j]? = some v) : (qflat l)[i * 3 + j]? = some v := by
  induction l generalizing i with
  | nil => simp at h
  | cons m ms ih =>
    cases i with
    | zero =>
      simp at h; subst h
      have hj : j < m.cells.length := (List.getElem?_eq_some_iff.1 hv).1
      rw [show qflat (m :: ms) = m.cells ++ qflat ms from rfl, List.getElem?_append_left (by omega)]
      simpa using hv
    | succ i =>
      have := ih i (by simpa using h)
      rw [show qflat (m :: ms) = m.cells ++ qflat ms from rfl, List.getElem?_append_right (by simp [Q.cells]; omega)]
      rw [show (i + 1) * 3 + j - m.cells.length = i * 3 + j by simp [Q.cells]; omega]
      exact this
/-- A slice's cells, in the frame. -/
def Reads (f : HP) (A : Option Addr) (ys : List Value) : Prop := ∀ i v, ys[i]? = some v → ∃ b o, A = some ⟨b, o, none⟩ ∧ fcell f b (o + i) = some v
/-- The reference's box. -/
structure RB where
  most : Int
  room : Int
  a : Int
  p : Int
  lost : Int
  told : Int
  l : List Q
def RB.vals (x : RB) (A : Option Addr) (c : Nat) : List Value := [.int .i64 x.most, .int .i64 x.room, .int .u32 x.a, .int .u16 x.p, .slice A x.l.length c, .int .i64 x.lost, .int .i64 x.told]
def RB.svs (x : RB) (A : Option Addr) (c : Nat) : List SV := [.int .i64 x.most, .int .i64 x.room, .int .u32 x.a, .int .u16 x.p, .raw (.slice A x.l.length c), .int .i64 x.lost, .int .i64 x.told]
def rlets (x : RB) (a p : Int) : Bool := (x.a == 0 && x.p == 0) || (x.a == a && x.p == p)
theorem rlets_spec (x : RB) (A : Option Addr) (c : Nat) (a p : Int) :
    Does Try.prog 88 #[.agg (x.vals A c).toArray, .agg #[.int .u32 a, .int .u16 p]] (fun _ => True) [] (fun v q => v = .bool (rlets x a p) ∧ q = []) := by
  refine Does.of Try.func88 Try.call88 rfl [.agg (x.svs A c), .agg [.int .u32 a, .int .u16 p]] [] 0 [] rfl rfl (fun h k => k) (fun f hR => ?_)
  intro b b2
  refine BinOb.eqs 3 (by kernel_rfl) ?_ rfl rfl
  refine Br.mk (fun h => ?_) (fun h => ?_)
  · refine FinOb.mk _ [] rfl (fun h k => trivial) ⟨?_, rfl⟩
    have : (x.a == 0 && x.p == 0) = true := by simpa using h
    simp only [rlets, this, Bool.true_or]; rfl
  refine BinOb.eqs 3 (by kernel_rfl) ?_ rfl rfl
  refine FinOb.mk _ [] rfl (fun h k => trivial) ⟨?_, rfl⟩
  have : (x.a == 0 && x.p == 0) = false := by simpa using h
  simp only [rlets, this, Bool.false_or, ret1]
  simp
/-- The bytes of a list of cells that are bytes. -/
theorem bytes_of : ∀ {ys : List Value}, (∀ v ∈ ys, ∃ b : UInt8, v = .int .u8 b.toNat) → ∃ s : ByteArray, ys = bytesV s
  | [], _ => ⟨.empty, rfl⟩
  | v :: ys, h => by
    obtain ⟨b, rfl⟩ := h v (by simp)
    obtain ⟨s, rfl⟩ := bytes_of (fun v hv => h v (List.mem_cons_of_mem _ hv))
    exact ⟨⟨#[b] ++ s.data⟩, by simp [bytesV]⟩
theorem bytesV_inj {s t : ByteArray} (h : bytesV s = bytesV t) : s = t := by
  have hinj : Function.Injective (fun x : UInt8 => Value.int .u8 (x.toNat : Int)) := fun p q hpq => by
    simp only [Value.int.injEq, true_and] at hpq
    exact UInt8.toNat_inj.1 (by omega)
  have : s.data.toList = t.data.toList := (List.map_inj_right (fun p q h => hinj h)).1 h
  obtain ⟨⟨p⟩⟩ := s; obtain ⟨⟨q⟩⟩ := t
  simp at this; subst this; rfl
theorem same_spec (a1 p1 a2 p2 : Int) (A1 A2 : Option Addr) (c1 c2 : Nat) (s1 s2 : ByteArray) :
    Does Try.prog 52 #[.agg #[.int .u32 a1, .int .u16 p1, .slice A1 (bytesV s1).length c1], .agg #[.int .u32 a2, .int .u16 p2, .slice A2 (bytesV s2).length c2]] (fun f => Reads f A1 (bytesV s1) ∧ Reads f A2 (bytesV s2)) []
      (fun v q => v = .bool ((a1 == a2 && p1 == p2) && (s1.toList == s2.toList)) ∧ q = []) := by
  refine Does.of Try.func52 Try.call52 rfl [.agg [.int .u32 a1, .int .u16 p1, .raw (.slice A1 (bytesV s1).length c1)], .agg [.int .u32 a2, .int .u16 p2, .raw (.slice A2 (bytesV s2).length c2)]] [] 0 [] rfl rfl (fun h k => k) (fun f hR => ?_)
  intro b b2
  refine BinOb.eqs 3 (by kernel_rfl) ?_ rfl rfl
  refine Br.mk (fun h => ?_) (fun h => ?_)
  · refine SrcF.mk (bytesV s1) (by omega) hR.1 (StrOb.mk s1 rfl ?_)
    refine SrcF.mk (bytesV s2) (by omega) hR.2 (StrOb.mk s2 rfl ?_)
    refine FinOb.mk _ [] rfl (fun h k => trivial) ⟨?_, rfl⟩
    have : (a1 == a2 && p1 == p2) = true := by simpa using h
    simp only [this, Bool.true_and, ret1]
  · refine FinOb.mk _ [] rfl (fun h k => trivial) ⟨?_, rfl⟩
    have : (a1 == a2 && p1 == p2) = false := by simpa using h
    simp only [this, Bool.false_and, ret1]
theorem w64' {x : Int} (h : 0 ≤ x) (k : x ≤ 9223372036854775807) : IntKind.i64.wrap x = x := w64 (by omega) k
def qsum (l : List Q) : Nat := (l.map (·.xs.length)).sum
theorem qsum_step {l : List Q} {i : Nat} {q : Q} (h : l[i]? = some q) : qsum (l.take (i + 1)) = qsum (l.take i) + q.xs.length := by
  rw [List.take_add_one, h]
  simp only [qsum, List.map_append, List.sum_append, Option.toList, List.map_cons, List.map_nil, List.sum_cons, List.sum_nil, Nat.add_zero]
theorem held_spec (x : RB) (A : Option Addr) (c : Nat) (hl : x.l.length ≤ 1000) (hb : ∀ q ∈ x.l, q.xs.length ≤ 1000000000) :
    Does Try.prog 58 #[.agg (x.vals A c).toArray] (fun f => Reads f A (qflat x.l)) [] (fun v q => v = .int .i64 (qsum x.l) ∧ q = []) := by
  refine Does.of Try.func58 Try.call58 rfl [.agg (x.svs A c)] [] 0 [] rfl rfl (fun h k => k) (fun f hR => ?_)
  intro b
  have hs : ∀ i, i ≤ x.l.length → qsum (x.l.take i) ≤ i * 1000000000 := by
    intro i
    induction i with
    | zero => intro _; simp [qsum]
    | succ i ih =>
      intro hi
      have hq := List.getElem?_eq_getElem (show i < x.l.length by omega)
      rw [qsum_step hq]
      have := ih (by omega)
      have := hb x.l[i] (List.getElem_mem _)
      omega
  refine LoopOb.mk { i : Nat // i ≤ x.l.length } (fun i => ⟨22, [(1, .ptr 0 0), (3, .int .i64 (qsum (x.l.take i.1))), (4, .int .i64 i.1)], [(0, .at b 0)], 1, [.blk 0 77 (x.svs A c)]⟩) (fun i => x.l.length - i.1) ⟨0, by omega⟩ ?_ ?_
  · exact Le.of rfl ⟨⟨_, rfl, rfl⟩, ⟨_, rfl, rfl⟩, ⟨_, rfl, rfl⟩, trivial⟩ (fun h k => k)
  rintro ⟨i, hi⟩
  refine CondOb.split (fun g => ?_) (fun g => ?_)
  rotate_left
  · simp only [decide_eq_false_iff_not] at g
    replace g : ¬ (i : Int) < x.l.length := g
    refine FinOb.mk _ [] rfl (fun h k => trivial) ⟨?_, rfl⟩
    have : i = x.l.length := by omega
    subst this
    simp [ret1]
  simp only [decide_eq_true_eq] at g
  replace g : (i : Int) < x.l.length := g
  have hq := List.getElem?_eq_getElem (show i < x.l.length by omega)
  obtain ⟨ba, o, rfl, hf⟩ := hR _ _ (qflat_at x.l i _ hq 2 _ rfl)
  refine Need.mk ⟨Int.natCast_nonneg i, g⟩ (RawAt.mk ba o rfl ?_)
  refine RdOb.mk (.raw (.slice (x.l[i]'(by omega)).A (x.l[i]'(by omega)).xs.length (x.l[i]'(by omega)).c)) _ rfl (by simpa [Nat.add_assoc] using hf) ?_
  have hsi := hs i hi
  have hbi := hb x.l[i] (List.getElem_mem _)
  refine ⟨⟨i + 1, by omega⟩, ?_, ?_⟩
  · show x.l.length - (i + 1) < x.l.length - i
    omega
  · refine Le.of rfl ⟨⟨_, rfl, rfl⟩, ⟨_, rfl, ?_⟩, ⟨_, rfl, ?_⟩, trivial⟩ (fun h k => k)
    · refine congrArg (fun z => some (Value.int .i64 z)) ?_
      dsimp only
      rw [w64' (by omega) (by omega), qsum_step hq]
      simp
    · refine congrArg (fun z => some (Value.int .i64 z)) ?_
      dsimp only
      rw [w64' (by omega) (by omega)]; simp
end Go.Proofs.Ytlgdagjbphafcaa.Udp
