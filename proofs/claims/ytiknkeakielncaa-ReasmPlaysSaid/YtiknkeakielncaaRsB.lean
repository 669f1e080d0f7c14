/- reasm: a packet that waits, as it lies; top, fits. Conditions: none. -/
import Derived.Test.YtiknkeakielncaaRsP
namespace Go.Proofs.Ytiknkeakielncaa.Rs
open Go Go.Proofs Sx
set_option maxRecDepth 100000
set_option linter.unusedVariables false
set_option linter.unusedSimpArgs false
set_option maxHeartbeats 4000000

/-- A packet that waits. -/
structure Pk where
  ll : List Sr
  pl : Plc
  cap : Nat
  last : Int
  fst : Option Nat
  till : Int
  num : Int
def Pk.vals (p : Pk) : List Value := [.slice (locAddr 0 p.pl) p.ll.length p.cap, .int .i64 p.last, .pointer (p.fst.map fun b => ⟨b, 0, none⟩), .int .i64 p.till, .int .i64 p.num]
/-- What a frame tells of it. -/
structure PkF (w : Nat) (p : Pk) (f : HP) : Prop where
  own : ∀ i v, p.vals[i]? = some v → fcell f w i = some v
  list : Reads f (locAddr 0 p.pl) (SrL.flat p.ll)
theorem reads_mono {f f' b : HP} {A : Option Addr} {l : List Value} (s : Split f' b f) (h : Reads f A l) : Reads f' A l := fun i v e => by
  obtain ⟨b1, o1, h1, h2⟩ := h i v e
  exact ⟨b1, o1, h1, frame_cell s h2⟩
theorem PkF.mono {w : Nat} {p : Pk} {f f' b : HP} (s : Split f' b f) (h : PkF w p f) : PkF w p f' := ⟨fun i v e => frame_cell s (h.own i v e), reads_mono s h.list⟩
def Sr.t (s : Sr) : T := (s.at_, s.bs)
def Pk.ts (p : Pk) : List T := p.ll.map Sr.t
theorem top_spec (w : Nat) (p : Pk) (h1 : ∀ s ∈ p.ll, 0 ≤ s.at_ ∧ s.stop ≤ 1000000) (h2 : p.ll.length ≤ 1000000) : Does Try.prog 104 #[pp w] (PkF w p) [] (fun v q => v = .int .i64 (topT p.ts) ∧ q = []) := by
  refine Does.ofJ Try.func104 Try.call104 rfl [.raw (pp w)] [] 0 [] rfl rfl (fun h k => k) (fun f hR => ?_)
  refine RdRaw.mk (.raw (.slice (locAddr 0 p.pl) p.ll.length p.cap)) _ rfl (hR.own 0 _ rfl) ?_
  refine CondOb.split (fun g => ?_) (fun g => ?_)
  · have g : p.ll = [] := by simpa using g
    exact FinOb.mk _ [] rfl (fun h k => trivial) ⟨by simp [ret1, topT, Pk.ts, g], rfl⟩
  have g : ¬ p.ll = [] := by simpa using g
  refine DrawOb.mk [] (.run [0, 1, 2, 3, 4, 5, 6, 7, 8, 9, 10, 11, 12, 13] .nil) (by kernel_rfl) ?_
  refine RdRaw.mk (.raw (.slice (locAddr 0 p.pl) p.ll.length p.cap)) _ rfl (hR.own 0 _ rfl) ?_
  refine RdRaw.mk (.raw (.slice (locAddr 0 p.pl) p.ll.length p.cap)) _ rfl (hR.own 0 _ rfl) ?_
  obtain ⟨o, x, e⟩ : ∃ o x, p.ll = o ++ [x] := by
    rcases List.eq_nil_or_concat p.ll with h | ⟨o, x, h⟩
    · exact absurd h g
    · exact ⟨o, x, by rw [h, List.concat_eq_append]⟩
  have hl : (p.ll.length : Int) - 1 = o.length := by rw [e]; simp
  have hn : IntKind.i64.wrap ((p.ll.length : Int) - 1) = o.length := by rw [hl, w64 (by omega) (by omega)]
  have hA : ∃ b i, locAddr 0 p.pl = some ⟨b, i, none⟩ := by
    obtain ⟨b, i, h, _⟩ := hR.list 0 (.int .i64 (o ++ [x])[0].at_) (by rw [e]; cases o <;> rfl)
    exact ⟨b, i, h⟩
  obtain ⟨b, i, hA⟩ := hA
  refine Need.mk (by rw [hn]; omega) (RawAt.mk b i hA ?_)
  have hx : p.ll[o.length]? = some x := by rw [e]; simp
  have hc : ∀ j v, x.vals[j]? = some v → fcell f b (i + (IntKind.i64.wrap ((p.ll.length : Int) - 1)).toNat * 2 + j) = some v := by
    intro j v hv
    rw [hn, Int.toNat_natCast]
    obtain ⟨b', i', h', hh⟩ := hR.list (o.length * 2 + j) v (SrL.flat_at hx hv)
    rw [hA] at h'
    cases h'
    rw [Nat.add_assoc]; exact hh
  refine RdF.mk x.svs x.vals rfl rfl hc ?_
  have hb := h1 x (by rw [e]; simp)
  unfold Sr.stop at hb
  refine useP (.int .i64 x.stop) (stop_spec x.at_ (some ⟨x.b, x.o, none⟩) x.bs.length x.cap (by omega) (by omega) (by omega)) rfl rfl ?_
  exact FinOb.mk [.int .i64 x.stop] [] rfl (fun h k => trivial) ⟨by simp [ret1, topT, Pk.ts, e, Sr.t, Sr.stop, T.stop], rfl⟩
def fitsB (p : Pk) (e : Int) (more : Bool) : Bool := !(!more && (decide (topT p.ts > e) || decide (p.last ≥ 0) && p.last != e)) && (decide (p.last < 0) || decide (e ≤ p.last))
theorem fits_spec (w : Nat) (p : Pk) (x : Int) (A : Option Addr) (len cap : Nat) (more : Bool) (h1 : ∀ s ∈ p.ll, 0 ≤ s.at_ ∧ s.stop ≤ 1000000) (h2 : p.ll.length ≤ 1000000) (h3 : 0 ≤ x ∧ x ≤ 1000000) (h4 : len ≤ 1000000) :
    Does Try.prog 78 #[pp w, .agg #[.int .i64 x, .slice A len cap], .bool more] (PkF w p) [] (fun v q => v = .bool (fitsB p (x + len) more) ∧ q = []) := by
  refine Does.ofJ Try.func78 Try.call78 rfl [.raw (pp w), .agg [.int .i64 x, .raw (.slice A len cap)], .bool more] [] 0 [] rfl rfl (fun h k => k) (fun f hR => ?_)
  intro b1
  refine RegOb.join Unit (fun _ => ⟨46, [(0, .raw (pp w)), (4, .ptr 0 0), (31, .bool (!more && (decide (topT p.ts > x + len) || decide (p.last ≥ 0) && p.last != x + len)))], [(0, .at b1 0)], 1, [.blk 0 148 [.int .i64 x, .raw (.slice A len cap)]]⟩) ?_ (fun _ => ?_)
  · refine DrawOb.mk [(4, [5]), (20, [15, 16, 17, 18])] (.run [0, 1, 2, 3, 5, 4, 6, 7, 8, 9, 10, 11, 12, 13, 14, 15, 16, 17, 18, 19, 20, 21, 22, 23, 24] .nil) (by kernel_rfl) ?_
    refine Br.mk (fun gm => ?_) (fun gm => ?_)
    · refine useR (.int .i64 (topT p.ts)) (top_spec w p h1 h2) rfl (fun f' b' hs kb => hR.mono hs) rfl ?_
      refine Need.mk rfl ?_
      refine useP (.int .i64 (x + len)) (stop_spec x A len cap (by omega) (by omega) (by omega)) rfl rfl ?_
      refine Br.mk (fun g => ?_) (fun g => ?_)
      · exact ⟨(), Le.of rfl ⟨⟨_, rfl, rfl⟩, ⟨_, rfl, rfl⟩, ⟨_, rfl, (congrArg (fun x => some (Value.bool x)) (by rw [gm]; simp only [show decide (topT p.ts > x + len) = true from g]; rfl))⟩, trivial⟩ (fun h k => k)⟩
      refine RdRaw.mk (.int .i64 p.last) _ rfl (hR.own 1 _ rfl) ?_
      refine Br.mk (fun g2 => ?_) (fun g2 => ?_)
      · refine RdRaw.mk (.int .i64 p.last) _ rfl (hR.own 1 _ rfl) ?_
        refine useP (.int .i64 (x + len)) (stop_spec x A len cap (by omega) (by omega) (by omega)) rfl rfl ?_
        refine RdRaw.mk (.int .i64 p.last) _ rfl (hR.own 1 _ rfl) (Need.mk rfl ?_)
        exact ⟨(), Le.of rfl ⟨⟨_, rfl, rfl⟩, ⟨_, rfl, rfl⟩, ⟨_, rfl, (congrArg (fun x => some (Value.bool x)) (by rw [gm]; simp only [show decide (topT p.ts > x + len) = false from g, show decide (p.last ≥ 0) = true from g2]; rfl))⟩, trivial⟩ (fun h k => k)⟩
      · exact ⟨(), Le.of rfl ⟨⟨_, rfl, rfl⟩, ⟨_, rfl, rfl⟩, ⟨_, rfl, (congrArg (fun x => some (Value.bool x)) (by rw [gm]; simp only [show decide (topT p.ts > x + len) = false from g, show decide (p.last ≥ 0) = false from g2]; rfl))⟩, trivial⟩ (fun h k => k)⟩
    · refine ⟨(), Le.of rfl ⟨⟨_, rfl, rfl⟩, ⟨_, rfl, rfl⟩, ⟨_, rfl, (congrArg (fun x => some (Value.bool x)) (by rw [gm]; rfl))⟩, trivial⟩ (fun h k => k)⟩
  refine CondOb.split (fun g => ?_) (fun g => ?_)
  · exact FinOb.mk _ [] rfl (fun h k => trivial) ⟨by simp only [ret1, fitsB, g]; rfl, rfl⟩
  refine RegOb.go ?_
  refine DrawOb.mk [(7, [8, 9, 10, 11])] (.run [0, 1, 2, 3, 4, 5, 6, 8, 9, 10, 11, 7, 12, 13, 14] .nil) (by kernel_rfl) ?_
  refine RdRaw.mk (.int .i64 p.last) _ rfl (hR.own 1 _ rfl) ?_
  refine Br.mk (fun g2 => ?_) (fun g2 => ?_)
  · exact FinOb.mk _ [] rfl (fun h k => trivial) ⟨by simp only [ret1, fitsB, g, show decide (p.last < 0) = true from g2]; rfl, rfl⟩
  refine RdRaw.mk (.int .i64 p.last) _ rfl (hR.own 1 _ rfl) ?_
  refine useP (.int .i64 (x + len)) (stop_spec x A len cap (by omega) (by omega) (by omega)) rfl rfl ?_
  refine RdRaw.mk (.int .i64 p.last) _ rfl (hR.own 1 _ rfl) (Need.mk rfl ?_)
  exact FinOb.mk [.bool (decide (x + len ≤ p.last))] [] rfl (fun h k => trivial) ⟨by simp only [ret1, fitsB, g, show decide (p.last < 0) = false from g2]; rfl, rfl⟩
end Go.Proofs.Ytiknkeakielncaa.Rs
