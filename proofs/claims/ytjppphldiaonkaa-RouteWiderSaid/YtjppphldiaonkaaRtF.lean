/- route: the reference's place, narrow, rises, Same. Conditions: none. -/
import Derived.Test.YtjppphldiaonkaaRtD
namespace Go.Proofs.Ytjppphldiaonkaa.Rt
open Go Go.Proofs Sx
set_option maxRecDepth 100000
set_option linter.unusedVariables false
set_option linter.unusedSimpArgs false
set_option maxHeartbeats 4000000

def narrow (x y : R) : Bool := decide (x.bits > y.bits) || (x.bits == y.bits && decide (x.cost < y.cost))
def rises (x y : R) : Bool := if x.net ≠ y.net then decide (x.net < y.net) else decide (x.bits < y.bits) || (x.bits == y.bits && decide (x.cost < y.cost))
theorem narrow_spec (x y : R) : Does Try.prog 48 #[.agg x.vals.toArray, .agg y.vals.toArray] (fun _ => True) [] (fun v p => v = .bool (narrow x y) ∧ p = []) := by
  refine Does.ofJ Try.func48 Try.call48 rfl [.agg x.svs, .agg y.svs] [] 0 [] rfl rfl (fun h k => k) (fun f hR => ?_)
  intro b1 b2
  refine RegOb.join Unit (fun _ => ⟨24, [(4, .bool (narrow x y))], [], 0, []⟩) ?_ (fun _ => ?_)
  · repeat' refine Br.mk (fun h => ?_) (fun h => ?_)
    all_goals refine ⟨(), Le.of rfl ⟨⟨_, rfl, (congrArg (fun x => some (Value.bool x)) ?_)⟩, trivial⟩ (fun h k => trivial)⟩
    all_goals (simp_all [narrow] <;> try omega)
  exact FinOb.mk _ [] rfl (fun h k => trivial) ⟨rfl, rfl⟩
theorem rises_spec (x y : R) : Does Try.prog 52 #[.agg x.vals.toArray, .agg y.vals.toArray] (fun _ => True) [] (fun v p => v = .bool (rises x y) ∧ p = []) := by
  refine Does.ofJ Try.func52 Try.call52 rfl [.agg x.svs, .agg y.svs] [] 0 [] rfl rfl (fun h k => k) (fun f hR => ?_)
  intro b1 b2
  refine CondOb.split (fun g => ?_) (fun g => ?_)
  · refine FinOb.mk [.bool (rises x y)] [] ?_ (fun h k => trivial) ⟨rfl, rfl⟩
    refine congrArg (fun x => some [Value.bool x]) ?_
    simp_all [rises]
  refine RegOb.join Unit (fun _ => ⟨34, [(4, .bool (rises x y))], [], 0, []⟩) ?_ (fun _ => ?_)
  · repeat' refine Br.mk (fun h => ?_) (fun h => ?_)
    all_goals refine ⟨(), Le.of rfl ⟨⟨_, rfl, (congrArg (fun x => some (Value.bool x)) ?_)⟩, trivial⟩ (fun h k => trivial)⟩
    all_goals (simp_all [rises] <;> try omega)
  exact FinOb.mk _ [] rfl (fun h k => trivial) ⟨rfl, rfl⟩
def hit (net bits cost : Int) (x : R) : Bool := x.net == net && (x.bits == bits && x.cost == cost)
def PlaceR (l : List R) (net bits cost r : Int) : Prop := (r = -1 ∧ ∀ x ∈ l, hit net bits cost x = false) ∨ ∃ (i : Nat) (x : R), r = i ∧ l[i]? = some x ∧ hit net bits cost x = true
theorem place_spec (A : Option Addr) (cp : Nat) (l : List R) (net bits cost : Int) (hl : l.length ≤ 1000000) :
    Does Try.prog 63 #[.slice A l.length cp, .int .u32 net, .int .i64 bits, .int .i64 cost] (fun f => Reads f A (RL.flat l)) [] (fun v p => ∃ r, v = .int .i64 r ∧ PlaceR l net bits cost r ∧ p = []) := by
  refine Does.ofJ Try.func63 Try.call63 rfl [.raw (.slice A l.length cp), .int .u32 net, .int .i64 bits, .int .i64 cost] [] 0 [] rfl rfl (fun h k => k) (fun f hR => ?_)
  refine LoopOb.mk { k : Nat // k ≤ l.length ∧ ∀ i x, i < k → l[i]? = some x → hit net bits cost x = false } (fun z => ⟨42, [(0, .raw (.slice A l.length cp)), (1, .int .u32 net), (2, .int .i64 bits), (3, .int .i64 cost), (9, .int .i64 (z.1 : Int))], [], 0, []⟩) (fun z => l.length - z.1) ⟨0, by omega, fun i x h1 h2 => absurd h1 (by omega)⟩ ?_ ?_
  · exact Le.of rfl ⟨⟨_, rfl, rfl⟩, ⟨_, rfl, rfl⟩, ⟨_, rfl, rfl⟩, ⟨_, rfl, rfl⟩, ⟨_, rfl, rfl⟩, trivial⟩ (fun h k => k)
  rintro ⟨k, hk, hall⟩
  refine CondOb.split (fun g => ?_) (fun g => ?_)
  rotate_left
  · simp only [decide_eq_false_iff_not] at g
    have k0 : k = l.length := by omega
    refine FinOb.mk _ [] rfl (fun h k => trivial) ⟨-1, rfl, .inl ⟨rfl, fun x hx => ?_⟩, rfl⟩
    obtain ⟨i, hi, e⟩ := List.getElem_of_mem hx
    exact hall i x (by omega) (by rw [List.getElem?_eq_getElem hi, e])
  simp only [decide_eq_true_eq] at g
  have hk1 : k < l.length := by omega
  have hx := List.getElem?_eq_getElem hk1
  generalize l[k] = x at hx
  obtain ⟨b, o, hA, hc⟩ := hR.lay (by decide) hx
  have hn : 0 ≤ (k : Int) ∧ (k : Int) < l.length := by omega
  have hc' : ∀ (j : Nat) v, (RL.cells x)[j]? = some v → fcell f b (o + (k : Int).toNat * 5 + j) = some v := by rw [Int.toNat_natCast]; exact hc
  refine RegOb.join Unit (fun _ => ⟨42, [(0, .raw (.slice A l.length cp)), (1, .int .u32 net), (2, .int .i64 bits), (3, .int .i64 cost), (9, .int .i64 (k : Int)), (40, .bool (hit net bits cost x))], [], 0, []⟩) ?_ (fun _ => ?_)
  · refine Need.mk hn (RawAt.mk b o hA ?_)
    refine RdRaw.mk (.int .u32 x.net) _ rfl (hc' 0 _ rfl) ?_
    refine Br.mk (fun h1 => ?_) (fun h1 => ?_)
    rotate_left
    · exact ⟨(), Le.of rfl ⟨⟨_, rfl, rfl⟩, ⟨_, rfl, rfl⟩, ⟨_, rfl, rfl⟩, ⟨_, rfl, rfl⟩, ⟨_, rfl, rfl⟩, ⟨_, rfl, (congrArg (fun x => some (Value.bool x)) (by simp only [hit, h1, Bool.false_and]))⟩, trivial⟩ (fun h k => k)⟩
    refine Need.mk hn (RawAt.mk b o hA ?_)
    refine RdRaw.mk (.int .i64 x.bits) _ rfl (hc' 1 _ rfl) ?_
    refine Br.mk (fun h2 => ?_) (fun h2 => ?_)
    rotate_left
    · exact ⟨(), Le.of rfl ⟨⟨_, rfl, rfl⟩, ⟨_, rfl, rfl⟩, ⟨_, rfl, rfl⟩, ⟨_, rfl, rfl⟩, ⟨_, rfl, rfl⟩, ⟨_, rfl, (congrArg (fun x => some (Value.bool x)) (by simp only [hit, h1, h2, Bool.false_and, Bool.true_and]))⟩, trivial⟩ (fun h k => k)⟩
    refine Need.mk hn (RawAt.mk b o hA ?_)
    refine RdRaw.mk (.int .i64 x.cost) _ rfl (hc' 4 _ rfl) ?_
    exact ⟨(), Le.of rfl ⟨⟨_, rfl, rfl⟩, ⟨_, rfl, rfl⟩, ⟨_, rfl, rfl⟩, ⟨_, rfl, rfl⟩, ⟨_, rfl, rfl⟩, ⟨_, rfl, (congrArg (fun x => some (Value.bool x)) (by simp only [hit, h1, h2, Bool.true_and]))⟩, trivial⟩ (fun h k => k)⟩
  refine CondOb.split (fun gh => ?_) (fun gh => ?_)
  · exact FinOb.mk _ [] rfl (fun h k => trivial) ⟨_, rfl, .inr ⟨k, x, rfl, hx, gh⟩, rfl⟩
  refine ⟨⟨k + 1, by omega, fun i y h1 h2 => ?_⟩, by show l.length - (k + 1) < l.length - k; omega, Le.of rfl ⟨⟨_, rfl, rfl⟩, ⟨_, rfl, rfl⟩, ⟨_, rfl, rfl⟩, ⟨_, rfl, rfl⟩, ⟨_, rfl, congrArg (fun z => some (Value.int .i64 z)) (w64 (by omega) (by omega))⟩, trivial⟩ (fun h k => k)⟩
  by_cases e : i = k
  · subst e; rw [hx] at h2; cases h2; exact gh
  · exact hall i y (by omega) h2
end Go.Proofs.Ytjppphldiaonkaa.Rt
