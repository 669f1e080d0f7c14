/- What the small functions of a box and of its law do. Conditions: none. -/
import Derived.Test.YtlgdagjbphafcaaUdpT
namespace Go.Proofs.Ytlgdagjbphafcaa.Udp
open Go Go.Proofs Sx
set_option maxRecDepth 100000
set_option linter.unusedVariables false

abbrev BoxA (b : Nat) (x : B) (l : Plc) (cap : Nat) : Asn := pt b (.cells (boxV x l cap).toArray 131 (0, 0))
theorem held_box (b : Nat) (x : B) (l : Plc) (cap : Nat) : Does Try.prog 57 #[.pointer (some ⟨b, 0, none⟩)] (fun _ => True) [BoxA b x l cap] (fun v q => v = .int .i64 x.held ∧ q = [BoxA b x l cap]) := by
  refine Does.of Try.func57 Try.call57 rfl [.ptr 0 0] [(0, .at b 0), (1, l)] 2 [.blk 0 131 (boxS x cap)] rfl rfl (fun h => sat_cons (fun h => blk_of rfl rfl) (fun h k => k)) (fun f hR => ?_)
  exact FinOb.mk _ [BoxA b x l cap] rfl (fun h => sat_cons (fun h => blk_to rfl rfl) (fun h k => k)) ⟨rfl, rfl⟩
theorem ready_box (b : Nat) (x : B) (l : Plc) (cap : Nat) : Does Try.prog 59 #[.pointer (some ⟨b, 0, none⟩)] (fun _ => True) [BoxA b x l cap] (fun v q => v = .bool (decide ((x.ms.length : Int) > 0) || (x.told != 0)) ∧ q = [BoxA b x l cap]) := by
  refine Does.of Try.func59 Try.call59 rfl [.ptr 0 0] [(0, .at b 0), (1, l)] 2 [.blk 0 131 (boxS x cap)] rfl rfl (fun h => sat_cons (fun h => blk_of rfl rfl) (fun h k => k)) (fun f hR => ?_)
  refine Br.mk (fun h => ?_) (fun h => ?_)
  · refine FinOb.mk _ [BoxA b x l cap] rfl (fun h => sat_cons (fun h => blk_to rfl rfl) (fun h k => k)) ⟨?_, rfl⟩
    rw [h]; rfl
  · refine FinOb.mk _ [BoxA b x l cap] rfl (fun h => sat_cons (fun h => blk_to rfl rfl) (fun h k => k)) ⟨?_, rfl⟩
    rw [h]; simp [ret1]
theorem tell_box (b : Nat) (x : B) (l : Plc) (cap : Nat) (n : Int) : Does Try.prog 55 #[.pointer (some ⟨b, 0, none⟩), .int .i64 n] (fun _ => True) [BoxA b x l cap] (fun v q => v = .tuple #[] ∧ q = [BoxA b { x with told := if x.told = 0 then n else x.told } l cap]) := by
  refine Does.of Try.func55 Try.call55 rfl [.ptr 0 0, .int .i64 n] [(0, .at b 0), (1, l)] 2 [.blk 0 131 (boxS x cap)] rfl rfl (fun h => sat_cons (fun h => blk_of rfl rfl) (fun h k => k)) (fun f hR => ?_)
  refine CondOb.split (fun h => ?_) (fun h => ?_)
  · have h : x.told = 0 := by simpa using h
    refine FinOb.mk [] [BoxA b { x with told := n } l cap] rfl (fun h => sat_cons (fun h => blk_to rfl rfl) (fun h k => k)) ⟨rfl, ?_⟩
    simp [h]
  · have h : ¬ x.told = 0 := by simpa using h
    refine FinOb.mk [] [BoxA b x l cap] rfl (fun h => sat_cons (fun h => blk_to rfl rfl) (fun h k => k)) ⟨rfl, ?_⟩
    simp [h]
theorem peer_box (b : Nat) (x : B) (l : Plc) (cap : Nat) : Does Try.prog 56 #[.pointer (some ⟨b, 0, none⟩)] (fun _ => True) [BoxA b x l cap] (fun v q => v = .tuple #[.agg #[.int .u32 x.a, .int .u16 x.p], .bool (!(x.a == 0 && x.p == 0))] ∧ q = [BoxA b x l cap]) := by
  refine Does.of Try.func56 Try.call56 rfl [.ptr 0 0] [(0, .at b 0), (1, l)] 2 [.blk 0 131 (boxS x cap)] rfl rfl (fun h => sat_cons (fun h => blk_of rfl rfl) (fun h k => k)) (fun f hR => ?_)
  intro b2
  refine BinOb.eqs 3 (by kernel_rfl) ?_ rfl rfl
  refine CondOb.split (fun h => ?_) (fun h => ?_)
  · have h : x.a = 0 ∧ x.p = 0 := by simpa using h
    refine FinOb.mk [.agg #[.int .u32 0, .int .u16 0], .bool false] [BoxA b x l cap] rfl (fun h k => sat_cons (fun h => blk_to rfl rfl) (fun h k => k) (sat_tail k)) ⟨?_, rfl⟩
    simp [h, ret1]
  · have h : (x.a == 0 && x.p == 0) = false := by simpa using h
    refine FinOb.mk [.agg #[.int .u32 x.a, .int .u16 x.p], .bool true] [BoxA b x l cap] rfl (fun h k => sat_cons (fun h => blk_to rfl rfl) (fun h k => k) (sat_tail k)) ⟨?_, rfl⟩
    rw [h]; rfl
/-- What a list of calls reads. -/
structure Act where
  d : Int
  n : Int
  q : Q
def Act.cells (a : Act) : List Value := [.int .i64 a.d, .int .i64 a.n, .int .u32 a.q.a, .int .u16 a.q.p, .slice a.q.A a.q.xs.length a.q.c]
/-- A list of calls, in the frame. -/
def Calls' (f : HP) (A : Option Addr) (L : List Act) : Prop := ∀ (i : Nat) (a : Act), L[i]? = some a → ∃ b o, A = some ⟨b, o, none⟩ ∧ ∀ (j : Nat) v, a.cells[j]? = some v → fcell f b (o + i * 5 + j) = some v
structure Iw (L : List Act) where
  i : Nat
  n : Nat
  hi : i ≤ L.length
  h100 : i ≤ 100
  hn : n ≤ 20000
  all : ∀ (j : Nat) a, j < i → L[j]? = some a → a.q.xs.length ≤ 20000
def Small (L : List Act) : Prop := L.length ≤ 100 ∧ ∀ a ∈ L, a.q.xs.length ≤ 20000
theorem much_spec (A : Option Addr) (cap : Nat) (L : List Act) (hL : ∀ a ∈ L, a.q.xs.length ≤ 4611686018427387904) :
    Does Try.prog 49 #[.slice A L.length cap] (fun f => Calls' f A L) [] (fun v q => ∃ r, v = .bool r ∧ q = [] ∧ (r = false → Small L)) := by
  refine Does.of Try.func49 Try.call49 rfl [.raw (.slice A L.length cap)] [] 0 [] rfl rfl (fun h k => k) (fun f hR => ?_)
  refine LoopOb.mk (Iw L) (fun z => ⟨29, [(0, .raw (.slice A L.length cap)), (3, .int .i64 z.n), (4, .int .i64 z.i)], [], 0, []⟩) (fun z => L.length - z.i) ⟨0, 0, by omega, by omega, by omega, fun j a h => by omega⟩ ?_ ?_
  · exact Le.of rfl ⟨⟨_, rfl, rfl⟩, ⟨_, rfl, rfl⟩, ⟨_, rfl, rfl⟩, trivial⟩ (fun h k => k)
  rintro ⟨i, n, hi, h100, hn, all⟩
  refine Br.mk (fun g1 => ?_) (fun g1 => ?_)
  rotate_left
  · simp only [decide_eq_false_iff_not] at g1
    replace g1 : ¬ (i : Int) < L.length := g1
    refine FinOb.mk _ [] rfl (fun h k => trivial) ⟨_, rfl, rfl, fun h => ⟨by simp at h; omega, fun a ha => ?_⟩⟩
    obtain ⟨j, hj, e⟩ := List.getElem_of_mem ha
    exact all j a (by omega) (by rw [List.getElem?_eq_getElem hj, e])
  simp only [decide_eq_true_eq] at g1
  replace g1 : (i : Int) < L.length := g1
  refine CondOb.split (fun g2 => ?_) (fun g2 => ?_)
  rotate_left
  · simp only [decide_eq_false_iff_not] at g2
    replace g2 : ¬ (i : Int) < 100 := g2
    refine FinOb.mk _ [] rfl (fun h k => trivial) ⟨_, rfl, rfl, fun h => ?_⟩
    simp at h; omega
  simp only [decide_eq_true_eq] at g2
  replace g2 : (i : Int) < 100 := g2
  have hq := List.getElem?_eq_getElem (show i < L.length by omega)
  have hm := hL (L[i]'(by omega)) (List.getElem_mem _)
  generalize L[i]'(by omega) = a at *
  obtain ⟨ba, o, rfl, hf⟩ := hR i a hq
  have h4 := hf 4 _ rfl
  have en : IntKind.i64.wrap ((n : Int) + a.q.xs.length) = ((n + a.q.xs.length : Nat) : Int) := by rw [w64 (by omega) (by omega)]; omega
  have ei : IntKind.i64.wrap ((i : Int) + 1) = ((i + 1 : Nat) : Int) := by rw [w64 (by omega) (by omega)]; omega
  refine Need.mk ⟨Int.natCast_nonneg i, g1⟩ (RawAt.mk ba o rfl ?_)
  refine RdOb.mk (.raw (.slice a.q.A a.q.xs.length a.q.c)) _ rfl (by simpa using h4) ?_
  refine CondOb.split (fun g3 => ?_) (fun g3 => ?_)
  · exact FinOb.mk [.bool true] [] rfl (fun h k => trivial) ⟨true, rfl, rfl, fun h => by cases h⟩
  simp only [decide_eq_false_iff_not] at g3
  replace g3 : ¬ IntKind.i64.wrap ((n : Int) + a.q.xs.length) > 20000 := g3
  rw [en] at g3
  refine ⟨⟨i + 1, n + a.q.xs.length, by omega, by omega, by omega, fun j a' hj hja => ?_⟩, ?_, ?_⟩
  · rcases Nat.lt_or_ge j i with h | h
    · exact all j a' h hja
    · have : j = i := by omega
      subst this
      rw [hq] at hja; simp only [Option.some.injEq] at hja; subst hja; omega
  · show L.length - (i + 1) < L.length - i
    omega
  · exact Le.of rfl ⟨⟨_, rfl, rfl⟩, ⟨_, rfl, congrArg (fun z => some (Value.int .i64 z)) en⟩, ⟨_, rfl, congrArg (fun z => some (Value.int .i64 z)) ei⟩, trivial⟩ (fun h k => k)
end Go.Proofs.Ytlgdagjbphafcaa.Udp
