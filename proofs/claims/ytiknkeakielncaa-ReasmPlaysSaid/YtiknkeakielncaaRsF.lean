/- reasm: Len, ready; the table as it lies; New, of. Conditions: none. -/
import Derived.Test.YtiknkeakielncaaRsE
namespace Go.Proofs.Ytiknkeakielncaa.Rs
open Go Go.Proofs Sx
set_option maxRecDepth 100000
set_option linter.unusedVariables false
set_option linter.unusedSimpArgs false
set_option maxHeartbeats 4000000

theorem iplen_spec (i : Ip) (hf : i.Fits) : Does Try.prog 82 #[.agg i.vals.toArray] (fun _ => True) [] (fun v q => v = .int .i64 (20 + i.p.opts.length + i.p.data.length) ∧ q = []) := by
  refine Does.ofJ Try.func82 Try.call82 rfl [.agg i.svs] [] 0 [] rfl rfl (fun h k => k) (fun f hR => ?_)
  intro b
  have h1 := hf.lo
  have h2 := hf.ld
  exact FinOb.mk [.int .i64 _] [] rfl (fun h k => trivial) ⟨by simp only [ret1]; rw [w64 (x := 20 + i.p.opts.length) (by omega) (by omega), w64 (by omega) (by omega)], rfl⟩
def readyB (p : Pk) : Bool := match p.fst, p.ll with
  | some _, [x] => decide (p.last ≥ 0) && (decide (x.at_ = 0) && decide (x.stop = p.last))
  | _, _ => false
theorem ready_spec (w : Nat) (p : Pk) (h1 : ∀ s ∈ p.ll, 0 ≤ s.at_ ∧ s.stop ≤ 1000000) : Does Try.prog 81 #[pp w] (PkF w p) [] (fun v q => v = .bool (readyB p) ∧ q = []) := by
  refine Does.ofJ Try.func81 Try.call81 rfl [.raw (pp w)] [] 0 [] rfl rfl (fun h k => k) (fun f hR => ?_)
  refine RegOb.go ?_
  refine DrawOb.mk [(37, [38, 39, 40, 41])] (.run [0, 1, 2, 3, 4, 5, 6, 7, 8, 9, 10, 11, 12, 13, 14, 15, 16, 17, 18, 19, 20, 21, 22, 23, 24, 25, 26, 27, 28, 29, 30, 31, 32, 33, 34, 35, 36, 38, 39, 40, 41, 37, 42, 43, 44] .nil) (by kernel_rfl) ?_
  cases hp : p.fst with
  | none =>
    refine RdRaw.mk .nilp _ rfl (hR.own 2 _ (by simp [Pk.vals, hp])) ?_
    exact FinOb.mk _ [] rfl (fun h k => trivial) ⟨by simp [ret1, readyB, hp], rfl⟩
  | some b =>
    refine RdRaw.mk (.raw (.pointer (some ⟨b, 0, none⟩))) _ rfl (hR.own 2 _ (by simp [Pk.vals, hp])) ?_
    refine RdRaw.mk (.int .i64 p.last) _ rfl (hR.own 1 _ rfl) ?_
    refine Br.mk (fun g => ?_) (fun g => ?_)
    rotate_left
    · exact FinOb.mk _ [] rfl (fun h k => trivial) ⟨by
        have g := of_decide_eq_false g
        simp only [ret1, readyB, hp]
        cases p.ll with
        | nil => rfl
        | cons x l =>
          cases l with
          | nil => show Value.bool false = Value.bool (decide (p.last ≥ 0) && _); rw [decide_eq_false g]; rfl
          | cons y l => rfl, rfl⟩
    refine RdRaw.mk (.raw (.slice (locAddr 0 p.pl) p.ll.length p.cap)) _ rfl (hR.own 0 _ rfl) ?_
    refine Br.mk (fun g1 => ?_) (fun g1 => ?_)
    rotate_left
    · exact FinOb.mk _ [] rfl (fun h k => trivial) ⟨by
        have g1 : ¬ (p.ll.length : Int) = 1 := by simpa using g1
        simp only [ret1, readyB, hp]
        cases hl : p.ll with
        | nil => rfl
        | cons x l =>
          cases l with
          | nil => rw [hl] at g1; simp at g1
          | cons y l => rfl, rfl⟩
    have g1 : (p.ll.length : Int) = 1 := by simpa using g1
    obtain ⟨x, hl⟩ : ∃ x, p.ll = [x] := by
      cases hl : p.ll with
      | nil => rw [hl] at g1; simp at g1
      | cons x l =>
        cases l with
        | nil => exact ⟨x, rfl⟩
        | cons y l => rw [hl] at g1; simp at g1; omega
    have g := of_decide_eq_true g
    refine RdRaw.mk (.raw (.slice (locAddr 0 p.pl) p.ll.length p.cap)) _ rfl (hR.own 0 _ rfl) ?_
    obtain ⟨a, o, hA, hx⟩ := hR.list.lay (e := SrL) (l := p.ll) (by decide) (i := 0) (a := x) (by rw [hl]; rfl)
    refine Need.mk (by rw [hl]; exact ⟨by decide, by simp⟩) (RawAt.mk a o hA ?_)
    refine RdRaw.mk (.int .i64 x.at_) _ rfl (hx 0 _ rfl) ?_
    refine Br.mk (fun g2 => ?_) (fun g2 => ?_)
    rotate_left
    · have g2 : ¬ x.at_ = 0 := by simpa using g2
      exact FinOb.mk _ [] rfl (fun h k => trivial) ⟨by simp [ret1, readyB, hp, hl, g2], rfl⟩
    have g2 : x.at_ = 0 := by simpa using g2
    refine RdRaw.mk (.raw (.slice (locAddr 0 p.pl) p.ll.length p.cap)) _ rfl (hR.own 0 _ rfl) ?_
    refine Need.mk (by rw [hl]; exact ⟨by decide, by simp⟩) (RawAt.mk a o hA ?_)
    refine RdF.mk x.svs x.vals rfl rfl (fun j v hv => hx j v hv) ?_
    refine RdRaw.mk (.int .i64 p.last) _ rfl (hR.own 1 _ rfl) ?_
    have hb := h1 x (by rw [hl]; simp)
    unfold Sr.stop at hb
    refine useP (.int .i64 x.stop) (stop_spec x.at_ (some ⟨x.b, x.o, none⟩) x.bs.length x.cap (by omega) (by omega) (by omega)) rfl rfl ?_
    refine RdRaw.mk (.int .i64 p.last) _ rfl (hR.own 1 _ rfl) (Need.mk rfl ?_)
    exact FinOb.mk [.bool _] [] rfl (fun h k => trivial) ⟨by simp only [ret1, readyB, hp, hl]; rw [decide_eq_true g, decide_eq_true g2]; rfl, rfl⟩
/-! ### The table -/
structure Key where
  src : Int
  dst : Int
  proto : Int
  ident : Int
  deriving DecidableEq
def Key.l (k : Key) : List Int := [k.src, k.dst, k.proto, k.ident]
def Key.vals (k : Key) : List Value := [.int .u32 k.src, .int .u32 k.dst, .int .u8 k.proto, .int .u16 k.ident]
def Key.svs (k : Key) : List SV := [.int .u32 k.src, .int .u32 k.dst, .int .u8 k.proto, .int .u16 k.ident]
abbrev K4 : Sx.KS := .many [.u32, .u32, .u8, .u16]
theorem four {k : List Int} (h : k.length = [IntKind.u32, .u32, .u8, .u16].length) : ∃ a b c d, k = [a, b, c, d] := by
  match k, h with
  | [a, b, c, d], _ => exact ⟨a, b, c, d, rfl⟩
theorem keys_law : MapLaw Try.prog 137 K4 := by
  refine MapLaw.many Try.underlying137 Try.underlying143 ?_ ?_
  · intro k hk e w
    obtain ⟨a, b, c, d, rfl⟩ := four hk
    have h1 := checkKey_int (P := Try.prog) (kt := 37) (k := .u32) (m := a) Try.underlying37 9998 e w
    have h2 := checkKey_int (P := Try.prog) (kt := 37) (k := .u32) (m := b) Try.underlying37 9998 e w
    have h3 := checkKey_int (P := Try.prog) (kt := 5) (k := .u8) (m := c) Try.underlying5 9998 e w
    have h4 := checkKey_int (P := Try.prog) (kt := 36) (k := .u16) (m := d) Try.underlying36 9998 e w
    show (Instr.checkKey e (9999 + 1) 143 (.agg #[.int .u32 a, .int .u32 b, .int .u8 c, .int .u16 d])).run Try.prog w = _
    unfold Instr.checkKey
    simp only [Sem.run_bind, underlying_run Try.underlying143, Result.andThen_ok]
    simp [part, isAgg, underlying_run Try.underlying37, underlying_run Try.underlying5, underlying_run Try.underlying36, Sem.run_bind, h1, h2, h3, h4]
  · intro k k' hk hk' w
    obtain ⟨a, b, c, d, rfl⟩ := four hk
    obtain ⟨a', b', c', d', rfl⟩ := four hk'
    obtain ⟨r, hr, he⟩ := eqD_runs (P := Try.prog) (nm := []) 9997 3 (t := 143) (a := .agg [.int .u32 a, .int .u32 b, .int .u8 c, .int .u16 d]) (b := .agg [.int .u32 a', .int .u32 b', .int .u8 c', .int .u16 d']) (K := fun r => r = decide ([a, b, c, d] = [a', b', c', d'])) (by kernel_rfl) (by
      show (a == a' && (b == b' && (c == c' && (d == d' && true)))) = _
      by_cases h1 : a = a' <;> by_cases h2 : b = b' <;> by_cases h3 : c = c' <;> by_cases h4 : d = d' <;> simp [h1, h2, h3, h4]) rfl rfl
    rw [hr] at he
    exact he w
end Go.Proofs.Ytiknkeakielncaa.Rs
