/- What Meet does: the closure, the first to go, the deletion. Conditions: none. -/
import Derived.Test.YtlgdagjbphafcaaUdpV
namespace Go.Proofs.Ytlgdagjbphafcaa.Udp
open Go Go.Proofs Sx
set_option maxRecDepth 100000
set_option linter.unusedVariables false

/-- The cell that the closure has captured. -/
abbrev CapA (c b : Nat) : Asn := pt c (.cells #[.pointer (some ⟨b, 0, none⟩)] 26 (0, 0))
def goes (x : B) (m : M) : B := if lets x m.a m.p = true then x else { x with held := x.held - m.xs.length }
theorem go_spec (b c : Nat) (x : B) (l : Plc) (cap : Nat) (m : M) (h0 : m.xs.length ≤ 1000000000) (h1 : -1000000000000 ≤ x.held) (h2 : x.held ≤ 1000000000000) :
    Does Try.prog 90 #[.agg m.cells.toArray, .pointer (some ⟨c, 0, none⟩)] (fun _ => True) [CapA c b, BoxA b x l cap] (fun v q => v = .bool (!lets x m.a m.p) ∧ q = [CapA c b, BoxA b (goes x m) l cap]) := by
  refine Does.of Try.func90 Try.call90 rfl [.agg [.int .u32 m.a, .int .u16 m.p, .raw m.sl], .ptr 2 0] [(2, .at c 0), (0, .at b 0), (1, l)] 3 [.blk 2 26 [.ptr 0 0], .blk 0 131 (boxS x cap)] rfl rfl (fun h => sat_cons (fun h => blk_of rfl rfl) (fun h => sat_cons (fun h => blk_of rfl rfl) (fun h k => k))) (fun f hR => ?_)
  intro b3
  refine useB 2 (.bool (lets x m.a m.p)) (lets_spec b x l cap m.a m.p) rfl rfl rfl rfl rfl ?_
  refine CondOb.split (fun g => ?_) (fun g => ?_)
  · refine FinOb.mk [.bool false] [CapA c b, BoxA b x l cap] rfl (fun h k => ?_) ⟨by simp [g, ret1], by simp [goes, g]⟩
    exact sat_cons (fun h k => blk_to rfl rfl k) (fun h k => sat_cons (fun h k => blk_to rfl rfl k) (fun h k => sat_nil k) k) (sat_tail (sat_cons (fun h k => k) (fun h k => k) (sat_perm (by
      exact List.Perm.trans (List.Perm.swap _ _ _) (.cons _ (.swap _ _ _))) k)))
  have e : IntKind.i64.wrap (x.held - m.xs.length) = x.held - m.xs.length := w64 (by omega) (by omega)
  refine DrawOb.mk [] (.run [0, 1, 2, 3, 4, 5, 6, 7, 8, 9, 10] .nil) (by kernel_rfl) ?_
  refine FinOb.mk [.bool true] [CapA c b, BoxA b { x with held := IntKind.i64.wrap (x.held - m.xs.length) } l cap] rfl (fun h k => ?_) ⟨by simp [g, ret1], by simp [goes, g, e]⟩
  exact sat_cons (fun h k => blk_to rfl rfl k) (fun h k => sat_cons (fun h k => blk_to rfl rfl k) (fun h k => sat_nil k) k) (sat_tail (sat_cons (fun h k => k) (fun h k => k) (sat_perm (by
      exact List.Perm.trans (List.Perm.swap _ _ _) (.cons _ (.swap _ _ _))) k)))
/-! ### The first that goes -/
theorem flat_at (l : List M) (i : Nat) (q : M) (h : l[i]? = some q) (j : Nat) (v : Value) (hv : q.cells[j]? = some v) : (flat l)[i * 3 + j]? = some v := by
  induction l generalizing i with
  | nil => simp at h
  | cons m ms ih =>
    cases i with
    | zero =>
      simp at h; subst h
      have hj : j < m.cells.length := (List.getElem?_eq_some_iff.1 hv).1
      rw [show flat (m :: ms) = m.cells ++ flat ms from rfl, List.getElem?_append_left (by omega)]
      simpa using hv
    | succ i =>
      have := ih i (by simpa using h)
      rw [show flat (m :: ms) = m.cells ++ flat ms from rfl, List.getElem?_append_right (by simp [M.cells]; omega)]
      rw [show (i + 1) * 3 + j - m.cells.length = i * 3 + j by simp [M.cells]; omega]
      exact this
/-- A datagram's cells, in the frame. -/
theorem mail_at {f : HP} {A : Option Addr} {ms : List M} (hR : Reads f A (flat ms)) {i : Nat} {m : M} (h : ms[i]? = some m) :
    ∃ ba o, A = some ⟨ba, o, none⟩ ∧ ∀ (j : Nat) v, m.cells[j]? = some v → fcell f ba (o + i * 3 + j) = some v := by
  obtain ⟨ba, o, rfl, _⟩ := hR _ _ (flat_at ms i m h 0 _ rfl)
  refine ⟨ba, o, rfl, fun j v hv => ?_⟩
  obtain ⟨b', o', e, hf⟩ := hR _ _ (flat_at ms i m h j v hv)
  simp only [Option.some.injEq, Addr.mk.injEq, and_true] at e
  obtain ⟨rfl, rfl⟩ := e
  rw [Nat.add_assoc]; exact hf
theorem ix_spec (b c : Nat) (x : B) (l : Plc) (cap : Nat) (A : Option Addr) (cp : Nat) (ms : List M) (hl : ms.length ≤ 1000) (h0 : ∀ m ∈ ms, m.xs.length ≤ 1000000000) (h1 : -1000000000000 ≤ x.held) (h2 : x.held ≤ 1000000000000) :
    Does Try.prog 113 #[.slice A ms.length cp, .func (.func 90) #[] #[.pointer (some ⟨c, 0, none⟩)]] (fun f => Reads f A (flat ms)) [CapA c b, BoxA b x l cap]
      (fun v q => ((∀ m ∈ ms, lets x m.a m.p = true) ∧ v = .int .i64 (-1) ∧ q = [CapA c b, BoxA b x l cap]) ∨
        ∃ (i : Nat) (m : M), ms[i]? = some m ∧ (∀ (j : Nat) m', j < i → ms[j]? = some m' → lets x m'.a m'.p = true) ∧ lets x m.a m.p = false ∧ v = .int .i64 i ∧ q = [CapA c b, BoxA b (goes x m) l cap]) := by
  refine Does.of Try.func113 Try.call113 rfl [.raw (.slice A ms.length cp), .fn (.func 90) [] [.ptr 2 0]] [(2, .at c 0)] 3 [.asn (CapA c b), .asn (BoxA b x l cap)] rfl rfl (fun h k => k) (fun f hR => ?_)
  refine LoopOb.mk { i : Nat // i ≤ ms.length ∧ ∀ (j : Nat) m', j < i → ms[j]? = some m' → lets x m'.a m'.p = true } (fun z => ⟨19, [(0, .raw (.slice A ms.length cp)), (1, .fn (.func 90) [] [.ptr 2 0]), (7, .int .i64 ms.length), (8, .int .i64 z.1)], [(2, .at c 0)], 3, [.asn (CapA c b), .asn (BoxA b x l cap)]⟩) (fun z => ms.length - z.1) ⟨0, by omega, fun j m h => by omega⟩ ?_ ?_
  · exact Le.of rfl ⟨⟨_, rfl, rfl⟩, ⟨_, rfl, rfl⟩, ⟨_, rfl, rfl⟩, ⟨_, rfl, rfl⟩, trivial⟩ (fun h k => k)
  rintro ⟨i, hi, hall⟩
  refine CondOb.split (fun g => ?_) (fun g => ?_)
  rotate_left
  · simp only [decide_eq_false_iff_not] at g
    replace g : ¬ (i : Int) < ms.length := g
    refine FinOb.mk [.int .i64 (-1)] [CapA c b, BoxA b x l cap] rfl (fun h k => k) (.inl ⟨fun m hm => ?_, rfl, rfl⟩)
    obtain ⟨j, hj, e⟩ := List.getElem_of_mem hm
    exact hall j m (by omega) (by rw [List.getElem?_eq_getElem hj, e])
  simp only [decide_eq_true_eq] at g
  replace g : (i : Int) < ms.length := g
  have hq := List.getElem?_eq_getElem (show i < ms.length by omega)
  have hm := h0 (ms[i]'(by omega)) (List.getElem_mem _)
  generalize ms[i]'(by omega) = m at *
  obtain ⟨ba, o, rfl, hf⟩ := mail_at hR hq
  have ei : IntKind.i64.wrap ((i : Int) + 1) = ((i + 1 : Nat) : Int) := by rw [w64 (by omega) (by omega)]; omega
  refine Need.mk ⟨Int.natCast_nonneg i, g⟩ (RawAt.mk ba o rfl ?_)
  refine RdF.mk [.int .u32 m.a, .int .u16 m.p, .raw m.sl] _ rfl rfl (fun j v hj => ?_) ?_
  · have := hf j v hj
    simpa using this
  refine call_asn [] [] (go_spec b c x l cap m hm h1 h2) rfl rfl (fun _ _ _ _ => trivial) ?_
  rintro v post ⟨rfl, rfl⟩
  refine ⟨.bool (!lets x m.a m.p), _, 3, NmExt.refl _, rfl, _, fun h k => sat_asns k, ?_⟩
  refine CondOb.split (fun g2 => ?_) (fun g2 => ?_)
  · have g2 : lets x m.a m.p = false := by simpa using g2
    exact FinOb.mk [.int .i64 i] [CapA c b, BoxA b (goes x m) l cap] rfl (fun h k => k) (.inr ⟨i, m, hq, hall, g2, rfl, rfl⟩)
  · have g2 : lets x m.a m.p = true := by simpa using g2
    refine ⟨⟨i + 1, by omega, fun j m' hj hm' => ?_⟩, ?_, ?_⟩
    · rcases Nat.lt_or_ge j i with h | h
      · exact hall j m' h hm'
      · have : j = i := by omega
        subst this
        rw [hq] at hm'; simp only [Option.some.injEq] at hm'; subst hm'; exact g2
    · show ms.length - (i + 1) < ms.length - i
      omega
    · refine Le.of rfl ⟨⟨_, rfl, rfl⟩, ⟨_, rfl, rfl⟩, ⟨_, rfl, rfl⟩, ⟨_, rfl, congrArg (fun z => some (Value.int .i64 z)) ei⟩, trivial⟩ (fun h k => ?_)
      have e : goes x m = x := by simp [goes, g2]
      rw [e] at k
      exact k
end Go.Proofs.Ytlgdagjbphafcaa.Udp
