/- reasm: stretches, packets, how they lie; small functions. Conditions: none. -/
import Derived.Test.YtiknkeakielncaaProg
import Derived.Test.YtiknkeakielncaaE22
namespace Go.Proofs.Ytiknkeakielncaa.Rs
open Go Go.Proofs Sx
set_option maxRecDepth 100000
set_option linter.unusedVariables false
set_option linter.unusedSimpArgs false
set_option maxHeartbeats 4000000

/-- Bytes, as they lie. -/
def U : Lay UInt8 where
  cells b := [.int .u8 b.toNat]
  sz := 1
  len _ := rfl
  one b v hv := by simp at hv; subst hv; rfl
theorem lU (l : List UInt8) : (U.flat l).length = l.length := by rw [U.flat_length]; simp [U]
theorem vec_cast {l : Plc} {t : TypeId} {sz cap : Nat} {xs ys : List Value} {h : HP} (e : xs = ys) (k : Vec l t sz cap xs h) : Vec l t sz cap ys h := e ▸ k
def pp (b : Nat) : Value := .pointer (some ⟨b, 0, none⟩)
/-- A stretch: from where on, its bytes (some), and where they lie. -/
structure Sr where
  at_ : Int
  bs : List UInt8
  b : Nat
  o : Nat
  cap : Nat
def Sr.vals (s : Sr) : List Value := [.int .i64 s.at_, .slice (some ⟨s.b, s.o, none⟩) s.bs.length s.cap]
def Sr.svs (s : Sr) : List SV := [.int .i64 s.at_, .raw (.slice (some ⟨s.b, s.o, none⟩) s.bs.length s.cap)]
def Sr.stop (s : Sr) : Int := s.at_ + s.bs.length
def SrL : Lay Sr where
  cells := Sr.vals
  sz := 2
  len _ := rfl
  one e v hv := by
    simp only [Sr.vals, List.mem_cons, List.not_mem_nil, or_false] at hv
    rcases hv with rfl | rfl <;> rfl
theorem lSr (l : List Sr) : (SrL.flat l).length = l.length * 2 := by rw [SrL.flat_length]; rfl
def Sr.dat (s : Sr) : Asn := Vec (.at s.b s.o) 5 1 s.cap (U.flat s.bs)
/-- All bytes. -/
def Ds (l : List Sr) : Asn := Alls (l.map Sr.dat)
theorem dat_rd {b o cap : Nat} {t : TypeId} {bs : List Value} {h : HP} (k : Vec (.at b o) t 1 cap bs h) (i : Nat) (v : Value) (e : bs[i]? = some v) : fcell h b (o + i) = some v := by
  obtain ⟨_, ⟨h1, _⟩ | ⟨b', o', pre, post, h1, hp, ho, _⟩⟩ := k
  · cases h1
  · simp only [Plc.at.injEq] at h1
    obtain ⟨rfl, rfl⟩ := h1
    refine fcell_of (pt_get h hp) ?_
    have hi := (List.getElem?_eq_some_iff.1 e).1
    simp only [List.getElem?_toArray, List.append_assoc]
    rw [List.getElem?_append_right (by omega), ho, show o + i - o = i by omega, List.getElem?_append_left hi]
    exact e
theorem ds_rd {l : List Sr} {s : Sr} (hs : s ∈ l) (h : HP) (k : Ds l h) (i : Nat) (v : Value) (e : (U.flat s.bs)[i]? = some v) : fcell h s.b (s.o + i) = some v :=
  alls_cell (A := s.dat) (List.mem_map.2 ⟨s, hs, rfl⟩) (fun x kx => dat_rd kx i v e) h k
/-- A number between. -/
theorem cmp_nan (x : Int) : Does Try.prog 102 #[.int .i64 x] (fun _ => True) [] (fun v p => v = .bool false ∧ p = []) := by
  refine Does.ofJ Try.func102 Try.call102 rfl [.int .i64 x] [] 0 [] rfl rfl (fun h k => k) (fun f hR => ?_)
  exact FinOb.mk _ [] rfl (fun h k => trivial) ⟨by simp [ret1], rfl⟩
def cmpI (x y : Int) : Int := if x < y then -1 else if y < x then 1 else 0
theorem cmp_spec (x y : Int) : Does Try.prog 71 #[.int .i64 x, .int .i64 y] (fun _ => True) [] (fun v p => v = .int .i64 (cmpI x y) ∧ p = []) := by
  refine Does.ofJ Try.func71 Try.call71 rfl [.int .i64 x, .int .i64 y] [] 0 [] rfl rfl (fun h k => k) (fun f hR => ?_)
  refine useP .ff (cmp_nan x) rfl rfl ?_
  refine useP .ff (cmp_nan y) rfl rfl ?_
  refine CondOb.split (fun g => ?_) (fun g => ?_)
  · have g : x < y := by simpa using g
    exact FinOb.mk _ [] rfl (fun h k => trivial) ⟨by simp [ret1, cmpI, g], rfl⟩
  have g : ¬ x < y := by simpa using g
  refine CondOb.split (fun g2 => ?_) (fun g2 => ?_)
  · have g2 : y < x := by simpa using g2
    exact FinOb.mk _ [] rfl (fun h k => trivial) ⟨by simp [ret1, cmpI, g, g2], rfl⟩
  have g2 : ¬ y < x := by simpa using g2
  exact FinOb.mk _ [] rfl (fun h k => trivial) ⟨by simp [ret1, cmpI, g, g2], rfl⟩
theorem stop_spec (x : Int) (A : Option Addr) (len cap : Nat) (h0 : -9000000000000000000 ≤ x) (h1 : x ≤ 9000000000000000000) (h2 : len ≤ 1000000000) : Does Try.prog 80 #[.agg #[.int .i64 x, .slice A len cap]] (fun _ => True) [] (fun v p => v = .int .i64 (x + len) ∧ p = []) := by
  refine Does.ofJ Try.func80 Try.call80 rfl [.agg [.int .i64 x, .raw (.slice A len cap)]] [] 0 [] rfl rfl (fun h k => k) (fun f hR => ?_)
  intro b1
  exact FinOb.mk _ [] rfl (fun h k => trivial) ⟨by simp only [ret1]; rw [w64 (by omega) (by omega)], rfl⟩
theorem lay1_spec (x y : Sr) : Does Try.prog 107 #[.agg x.vals.toArray, .agg y.vals.toArray] (fun _ => True) [] (fun v p => v = .int .i64 (cmpI x.at_ y.at_) ∧ p = []) := by
  refine Does.ofJ Try.func107 Try.call107 rfl [.agg x.svs, .agg y.svs] [] 0 [] rfl rfl (fun h k => k) (fun f hR => ?_)
  intro b1 b2
  refine useP (.int .i64 (cmpI x.at_ y.at_)) (cmp_spec _ _) rfl rfl ?_
  exact FinOb.mk [.int .i64 (cmpI x.at_ y.at_)] [] rfl (fun h k => trivial) ⟨rfl, rfl⟩
/-- A copy of some bytes (some). -/
theorem clone_some (A : Option Addr) (cap : Nat) (l : List UInt8) (h0 : 0 < l.length) (hl : l.length ≤ 1000000000) :
    Does Try.prog 103 #[.slice A l.length cap] (fun f => Reads f A (U.flat l)) [] (fun v p => ∃ b o c, v = .slice (some ⟨b, o, none⟩) l.length c ∧ l.length ≤ c ∧ p = [Vec (.at b o) 5 1 c (U.flat l)]) := by
  refine Does.ofJ Try.func103 Try.call103 rfl [.raw (.slice A l.length cap)] [] 0 [] rfl rfl (fun h k => k) (fun f hR => ?_)
  obtain ⟨x, l', rfl⟩ : ∃ x l', l = x :: l' := by
    cases l with
    | nil => simp at h0
    | cons x l' => exact ⟨x, l', rfl⟩
  obtain ⟨b0, o0, rfl, _⟩ := hR 0 (.int .u8 x.toNat) rfl
  generalize x :: l' = l at *
  intro b1
  refine SrcF.mk (U.flat l) (by rw [lU, Nat.mul_one]) hR ?_
  refine StOb.mk [] rfl (Need.mk (by simp) (Need.mk ⟨by omega, by simp only [maxLen]; omega, U.flat_one' _⟩ ?_))
  refine NewSl.pos (by omega) (fun b o c hc => ?_)
  exact FinOb.mk [.slice (some ⟨b, o, none⟩) (0 + l.length) c] [Vec (.at b o) 5 1 c (U.flat l)] rfl (fun h k => (let ⟨x, y, t, hx, hy⟩ := k; ⟨x, y, t, vec_to (l := .at b o) rfl hx, hy⟩)) ⟨b, o, c, by rw [Nat.zero_add]; rfl, by omega, rfl⟩
end Go.Proofs.Ytiknkeakielncaa.Rs
