/- What Put, Take and Meet of udp's reference do. Conditions: none. -/
import Derived.Test.YtlgdagjbphafcaaUdpR
namespace Go.Proofs.Ytlgdagjbphafcaa.Udp
open Go Go.Proofs Sx
set_option maxRecDepth 100000
set_option linter.unusedVariables false

theorem Reads.frame {f f' b : HP} {A : Option Addr} {ys : List Value} (s : Split f' b f) (h : Reads f A ys) : Reads f' A ys := fun i v hi => by
  obtain ⟨b, o, h1, h2⟩ := h i v hi
  exact ⟨b, o, h1, frame_cell s h2⟩
theorem useR {P : Program} {f : HP} {g : FuncId} {args : List SV} {K : SV → St → Prop} {s : St} {v : Value} {vals : List Value} {R : HP → Prop} (sv : SV)
    (spec : Does P g vals.toArray R [] (fun u p => u = v ∧ p = [])) (hv : denL s.nm args = some vals) (hR : ∀ f' b, Split f' b f → sat (s.hp.map (entDen s.nm)) b → R f') (hd : den s.nm sv = some v)
    (h : K sv ⟨s.n, s.env, s.nm, s.next, s.hp⟩) : CallOb P f g args K s := by
  refine .mk s vals hv R [] _ spec s.hp (fun h k => k) hR ?_
  rintro u post ⟨rfl, rfl⟩
  exact ⟨sv, _, h, rfl, rfl, NmExt.refl _, hd, fun h k => k⟩
def rput (x : RB) (q : Q) : RB × Int :=
  if rlets x q.a q.p = false then (x, 6) else
  if x.most ≤ (x.l.length : Int) ∨ (qsum x.l : Int) + q.xs.length > x.room then ({ x with lost := x.lost + 1 }, 5) else ({ x with l := x.l ++ [q] }, 0)
theorem one_of {l : List Q} : ∀ v ∈ qflat l, v.oneCell' = true := fun v hv => by
  obtain ⟨q, _, hq⟩ := List.mem_flatMap.1 hv
  simp [Q.cells] at hq
  rcases hq with rfl | rfl | rfl <;> rfl
theorem qsum_le {l : List Q} (h : ∀ q ∈ l, q.xs.length ≤ 1000000000) : qsum l ≤ l.length * 1000000000 := by
  induction l with
  | nil => simp [qsum]
  | cons m l ih =>
    have h1 := ih (fun q hq => h q (List.mem_cons_of_mem _ hq))
    have h2 := h m (by simp)
    have e : qsum (m :: l) = m.xs.length + qsum l := by simp [qsum]
    rw [e, List.length_cons]
    omega
theorem rput_spec (x : RB) (A : Option Addr) (c : Nat) (q : Q) (hl : x.l.length ≤ 1000) (hb : ∀ q ∈ x.l, q.xs.length ≤ 1000000000) (hq : q.xs.length ≤ 1000000000) (h0 : 0 ≤ x.lost) (h1 : x.lost ≤ 1000000000) :
    Does Try.prog 50 #[.agg (x.vals A c).toArray, .agg q.cells.toArray] (fun f => Reads f A (qflat x.l)) []
      (fun v p => ((rput x q).2 ≠ 0 ∧ v = .tuple #[.agg ((rput x q).1.vals A c).toArray, .int .i64 (rput x q).2] ∧ p = []) ∨
        ((rput x q).2 = 0 ∧ ∃ b o c', v = .tuple #[.agg ((rput x q).1.vals (locAddr 0 (.at b o)) c').toArray, .int .i64 (rput x q).2] ∧ (rput x q).1.l.length ≤ c' ∧ p = [Vec (.at b o) 37 3 c' (qflat (rput x q).1.l)])) := by
  refine Does.of Try.func50 Try.call50 rfl [.agg (x.svs A c), .agg [.int .u32 q.a, .int .u16 q.p, .raw (.slice q.A q.xs.length q.c)]] [] 0 [] rfl rfl (fun h k => k) (fun f hR => ?_)
  intro b1 b2 b3
  refine useP (.bool (rlets x q.a q.p)) (rlets_spec x A c q.a q.p) rfl rfl ?_
  refine CondOb.split (fun g1 => ?_) (fun g1 => ?_)
  · have g1 : rlets x q.a q.p = false := by simpa using g1
    have e : rput x q = (x, 6) := by simp [rput, g1]
    exact FinOb.mk [.agg (x.vals A c).toArray, .int .i64 6] [] rfl (fun h k => trivial) (by rw [e]; exact .inl ⟨by simp, rfl, rfl⟩)
  have g1 : rlets x q.a q.p = true := by simpa using g1
  have el : IntKind.i64.wrap (x.lost + 1) = x.lost + 1 := w64 (by omega) (by omega)
  have hs : qsum x.l ≤ 1000000000000 := by
    have := qsum_le hb
    omega
  have es : IntKind.i64.wrap ((qsum x.l : Int) + q.xs.length) = (qsum x.l : Int) + q.xs.length := w64 (by omega) (by omega)
  have full : (x.most ≤ (x.l.length : Int) ∨ (qsum x.l : Int) + q.xs.length > x.room) → rput x q = ({ x with lost := x.lost + 1 }, 5) := fun h => by simp [rput, g1, h]
  refine DrawOb.mk [(8, [9, 10, 11, 13, 14])] (.run [0, 1, 2, 3, 4, 5, 6, 7, 9, 10, 11, 13, 14, 8, 12, 15, 16] .nil) (by kernel_rfl) ?_
  refine Br.mk (fun g2 => ?_) (fun g2 => ?_)
  · have e := full (.inl (by simpa using g2))
    refine FinOb.mk [.agg (({ x with lost := IntKind.i64.wrap (x.lost + 1) } : RB).vals A c).toArray, .int .i64 5] [] rfl (fun h k => trivial) (by rw [e, el]; exact .inl ⟨by simp, rfl, rfl⟩)
  refine useR (.int .i64 _) (held_spec x A c hl hb) rfl (fun f' b' hs _ => hR.frame hs) rfl ?_
  refine Need.mk rfl (Need.mk rfl ?_)
  refine CondOb.split (fun g3 => ?_) (fun g3 => ?_)
  · rw [es] at g3
    have e := full (.inr (by simpa using g3))
    refine FinOb.mk [.agg (({ x with lost := IntKind.i64.wrap (x.lost + 1) } : RB).vals A c).toArray, .int .i64 5] [] rfl (fun h k => trivial) (by rw [e, el]; exact .inl ⟨by simp, rfl, rfl⟩)
  rw [es] at g3
  have g2 : ¬ x.most ≤ (x.l.length : Int) := by simpa using g2
  have g3 : ¬ (qsum x.l : Int) + q.xs.length > x.room := by simpa using g3
  have ok : rput x q = ({ x with l := x.l ++ [q] }, 0) := by
    simp only [rput, g1, Bool.true_eq_false, if_false]
    rw [if_neg (by simp only [not_or]; exact ⟨g2, g3⟩)]
  have ef : List.take ((0 + x.l.length) * 3) (List.drop 0 (List.take (0 * 3) (List.drop 0 []) ++ qflat x.l)) ++ q.cells = qflat (x.l ++ [q]) := by
    rw [Nat.zero_add, Nat.zero_mul, List.take_zero, List.nil_append, List.drop_zero, List.take_of_length_le (by rw [qflat_length]; exact Nat.le_refl _)]
    simp [qflat]
  have fin : ∀ {s : St} {l : List SV} (b o c' : Nat), denL s.nm l = some [.agg (({ x with l := x.l ++ [q] } : RB).vals (locAddr 0 (.at b o)) c').toArray, .int .i64 0] → (x.l ++ [q]).length ≤ c' → (∀ h, sat s.ents h → sat [Vec (.at b o) 37 3 c' (qflat (x.l ++ [q]))] h) →
      FinOb s (fun v p => ((rput x q).2 ≠ 0 ∧ v = .tuple #[.agg ((rput x q).1.vals A c).toArray, .int .i64 (rput x q).2] ∧ p = []) ∨
        ((rput x q).2 = 0 ∧ ∃ b o c', v = .tuple #[.agg ((rput x q).1.vals (locAddr 0 (.at b o)) c').toArray, .int .i64 (rput x q).2] ∧ (rput x q).1.l.length ≤ c' ∧ p = [Vec (.at b o) 37 3 c' (qflat (rput x q).1.l)])) l := fun b o c' hd hc he =>
    FinOb.mk _ _ hd he (by rw [ok]; exact .inr ⟨rfl, b, o, c', rfl, hc, rfl⟩)
  refine DrawOb.mk [(0, [1, 2, 4]), (3, [4]), (5, [1, 2])] (.run [1, 2, 4] (.two 0 (.run [] (.two 3 (.run [5, 6, 7, 8] .nil) 5 (.run [3, 6, 7, 8] .nil))) 5 (.run [0, 3, 6, 7, 8] .nil))) (by kernel_rfl) ?_
  refine ⟨?_, ?_⟩
  · intro c1
    refine Need.mk rfl (Need.mk rfl ?_)
    refine ⟨?_, ?_⟩
    · refine SrcF.mk (qflat x.l) (qflat_length _) hR ?_
      refine StOb.mk [] rfl (Need.mk (by simp) (Need.mk ⟨by omega, by simp only [maxLen]; omega, one_of⟩ ?_))
      refine NewSl.any (fun l2 c2 hc2 => ?_)
      refine Need.mk rfl ?_
      intro c3
      refine Need.mk rfl ?_
      refine StOb.mk q.cells rfl (Need.mk rfl ?_)
      refine Need.mk ⟨by simp [qflat_length], by omega, by omega⟩ ?_
      refine Need.mk ⟨by omega, by simp only [maxLen]; omega, fun v hv => by simp [Q.cells] at hv; rcases hv with rfl | rfl | rfl <;> rfl⟩ ?_
      refine NewSl.pos (by omega) (fun b6 o6 c6 hc6 => ?_)
      refine fin b6 o6 c6 ?_ (by simp; omega) ?_
      · have e : 0 + x.l.length + 1 = (x.l ++ [q]).length := by simp
        simp only [RB.vals, ← e]; rfl
      · intro h k
        have k := sat_cons (fun h k => vec_to rfl k) (fun h k => sat_nil k) (sat_tail (sat_tail k))
        rw [ef] at k
        exact k
    · intro c3
      refine Need.mk rfl ?_
      refine SrcF.mk (qflat x.l) (qflat_length _) hR ?_
      refine StOb.mk [] rfl (Need.mk (by simp) (Need.mk ⟨by omega, by simp only [maxLen]; omega, one_of⟩ ?_))
      refine NewSl.any (fun l2 c2 hc2 => ?_)
      refine Need.mk rfl ?_
      refine StOb.mk q.cells rfl (Need.mk rfl ?_)
      refine Need.mk ⟨by simp [qflat_length], by omega, by omega⟩ ?_
      refine Need.mk ⟨by omega, by simp only [maxLen]; omega, fun v hv => by simp [Q.cells] at hv; rcases hv with rfl | rfl | rfl <;> rfl⟩ ?_
      refine NewSl.pos (by omega) (fun b6 o6 c6 hc6 => ?_)
      refine fin b6 o6 c6 ?_ (by simp; omega) ?_
      · have e : 0 + x.l.length + 1 = (x.l ++ [q]).length := by simp
        simp only [RB.vals, ← e]; rfl
      · intro h k
        have k := sat_cons (fun h k => vec_to rfl k) (fun h k => sat_nil k) (sat_tail (sat_tail k))
        rw [ef] at k
        exact k
  · intro c3
    refine Need.mk rfl ?_
    intro c1
    refine Need.mk rfl (Need.mk rfl ?_)
    refine SrcF.mk (qflat x.l) (qflat_length _) hR ?_
    refine StOb.mk [] rfl (Need.mk (by simp) (Need.mk ⟨by omega, by simp only [maxLen]; omega, one_of⟩ ?_))
    refine NewSl.any (fun l2 c2 hc2 => ?_)
    refine Need.mk rfl ?_
    refine StOb.mk q.cells rfl (Need.mk rfl ?_)
    refine Need.mk ⟨by simp [qflat_length], by omega, by omega⟩ ?_
    refine Need.mk ⟨by omega, by simp only [maxLen]; omega, fun v hv => by simp [Q.cells] at hv; rcases hv with rfl | rfl | rfl <;> rfl⟩ ?_
    refine NewSl.pos (by omega) (fun b6 o6 c6 hc6 => ?_)
    refine fin b6 o6 c6 ?_ (by simp; omega) ?_
    · have e : 0 + x.l.length + 1 = (x.l ++ [q]).length := by simp
      simp only [RB.vals, ← e]; rfl
    · intro h k
      have k := sat_cons (fun h k => vec_to rfl k) (fun h k => sat_nil k) (sat_tail (sat_tail k))
      rw [ef] at k
      exact k

/-! ### Take -/
def RTook (x : RB) (A : Option Addr) (c : Nat) (n : Int) (v : Value) : Prop :=
  (x.told ≠ 0 ∧ v = .tuple #[.agg (({ x with told := 0 } : RB).vals A c).toArray, zeroM, .int .i64 0, .int .i64 x.told]) ∨
  (x.told = 0 ∧ x.l = [] ∧ v = .tuple #[.agg (x.vals A c).toArray, zeroM, .int .i64 0, .int .i64 6]) ∨
  (x.told = 0 ∧ x.l ≠ [] ∧ n < 0 ∧ v = .tuple #[.agg (x.vals A c).toArray, zeroM, .int .i64 0, .int .i64 1]) ∨
  (x.told = 0 ∧ 0 ≤ n ∧ ∃ q rest, x.l = q :: rest ∧ v = .tuple #[.agg (({ x with l := rest } : RB).vals (if c = 1 then A else A.map (·.add 3)) (c - 1)).toArray,
    .agg #[.int .u32 q.a, .int .u16 q.p, .slice q.A (if (q.xs.length : Int) < n then (q.xs.length : Int) else n).toNat q.c], .int .i64 q.xs.length, .int .i64 0])
theorem rtake_spec (x : RB) (A : Option Addr) (c : Nat) (n : Int) (hc : ∀ q ∈ x.l, q.xs.length ≤ q.c) :
    Does Try.prog 51 #[.agg (x.vals A c).toArray, .int .i64 n] (fun f => Reads f A (qflat x.l)) [] (fun v p => RTook x A c n v ∧ p = []) := by
  refine Does.of Try.func51 Try.call51 rfl [.agg (x.svs A c), .int .i64 n] [] 0 [] rfl rfl (fun h k => k) (fun f hR => ?_)
  obtain ⟨most, room, a, p, lost, told, l⟩ := x
  intro b1 b2 b3
  refine CondOb.split (fun h1 => ?_) (fun h1 => ?_)
  · have h1 : told ≠ 0 := by simpa using h1
    exact FinOb.mk [.agg ((⟨most, room, a, p, lost, 0, l⟩ : RB).vals A c).toArray, zeroM, .int .i64 0, .int .i64 told] [] rfl (fun h k => trivial) ⟨.inl ⟨h1, rfl⟩, rfl⟩
  have h1 : told = 0 := by simpa using h1
  subst h1
  cases l with
  | nil =>
    refine CondOb.split (fun h2 => ?_) (fun h2 => absurd h2 (by simp))
    exact FinOb.mk [.agg ((⟨most, room, a, p, lost, 0, []⟩ : RB).vals A c).toArray, zeroM, .int .i64 0, .int .i64 6] [] rfl (fun h k => trivial) ⟨.inr (.inl ⟨rfl, rfl, rfl⟩), rfl⟩
  | cons q rest =>
    refine CondOb.split (fun h2 => absurd h2 (by simp; omega)) (fun h2 => ?_)
    refine CondOb.split (fun h3 => ?_) (fun h3 => ?_)
    · have h3 : n < 0 := by simpa using h3
      exact FinOb.mk [.agg ((⟨most, room, a, p, lost, 0, q :: rest⟩ : RB).vals A c).toArray, zeroM, .int .i64 0, .int .i64 1] [] rfl (fun h k => trivial) ⟨.inr (.inr (.inl ⟨rfl, by simp, h3, rfl⟩)), rfl⟩
    have h3 : 0 ≤ n := by simpa using h3
    have hq := hc q (by simp)
    obtain ⟨ba, o, rfl, f0⟩ := hR 0 (.int .u32 q.a) rfl
    obtain ⟨_, _, e1, f1⟩ := hR 1 (.int .u16 q.p) rfl
    simp only [Option.some.injEq, Addr.mk.injEq, and_true] at e1
    obtain ⟨rfl, rfl⟩ := e1
    obtain ⟨_, _, e1, f2⟩ := hR 2 (.slice q.A q.xs.length q.c) rfl
    simp only [Option.some.injEq, Addr.mk.injEq, and_true] at e1
    obtain ⟨rfl, rfl⟩ := e1
    refine Need.mk (by simp; try omega) (RawAt.mk ba o rfl ?_)
    refine RdF.mk [.int .u32 q.a, .int .u16 q.p, .raw (.slice q.A q.xs.length q.c)] _ rfl rfl (fun i v hi => ?_) ?_
    · match i, hi with
      | 0, hi => simp at hi; subst hi; simpa using f0
      | 1, hi => simp at hi; subst hi; simpa using f1
      | 2, hi => simp at hi; subst hi; simpa using f2
    intro b4
    refine Need.mk (by simp; try omega) ?_
    refine CondOb.split (fun h4 => ?_) (fun h4 => ?_)
    · have h4 : (q.xs.length : Int) < n := by simpa using h4
      refine Need.mk (by omega) ?_
      refine DrawOb.mk [(3, [1, 2]), (4, [2])] (.run [0, 1, 2, 3, 4, 5, 6] .nil) (by kernel_rfl) ?_
      refine Need.mk rfl ?_
      refine FinOb.mk _ [] rfl (fun h k => trivial) ⟨.inr (.inr (.inr ⟨rfl, h3, q, rest, rfl, ?_⟩)), rfl⟩
      rw [if_pos h4]; rfl
    · have h4 : ¬ (q.xs.length : Int) < n := by simpa using h4
      refine Need.mk (by omega) ?_
      refine DrawOb.mk [(3, [1, 2]), (4, [2])] (.run [0, 1, 2, 3, 4, 5, 6] .nil) (by kernel_rfl) ?_
      refine Need.mk rfl ?_
      refine FinOb.mk _ [] rfl (fun h k => trivial) ⟨.inr (.inr (.inr ⟨rfl, h3, q, rest, rfl, ?_⟩)), rfl⟩
      rw [if_neg h4]; rfl

end Go.Proofs.Ytlgdagjbphafcaa.Udp
