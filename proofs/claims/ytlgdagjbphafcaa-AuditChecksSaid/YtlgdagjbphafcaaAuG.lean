/- audit: the program's entries: fine, began, did, more. Conditions: none. -/
import Derived.Test.YtlgdagjbphafcaaAuF
namespace Go.Proofs.Ytlgdagjbphafcaa.Au
open Go Go.Proofs Sx
set_option maxRecDepth 100000
set_option linter.unusedVariables false
set_option linter.unusedSimpArgs false
set_option maxHeartbeats 4000000

def ptrB : Option Nat → Value
  | none => .pointer none
  | some b => .pointer (some ⟨b, 0, none⟩)
def scells (x : X) (ah : Option Nat) : List Value := [.int .u8 x.q.op, .int .u8 x.q.fl, .int .i64 x.q.fd, .int .u32 x.q.addr, .int .u16 x.q.port, .int .i64 x.q.len, .int .i64 x.q.group, .int .i64 x.q.count, .int .u64 x.q.aux, .int .u64 x.q.user, .slice x.q.A x.q.n x.q.c,
  ptrB ah, .bool x.ended, .bool x.gone, .int .i64 x.res]
def RB (f : HP) (b : Nat) (vs : List Value) : Prop := ∀ (j : Nat) v, vs[j]? = some v → fcell f b j = some v
theorem RB.frame {f f' g : HP} {b : Nat} {vs : List Value} (s : Split f' g f) (h : RB f b vs) : RB f' b vs := fun j v hj => frame_cell s (h j v hj)
def fineP (x : X) : Bool := x.q.op == 11 || (decide (x.res ≥ 0) && (x.q.op != 6 || decide (x.res ≥ (x.q.n : Int))))
theorem pfine_spec (b : Nat) (x : X) (ah : Option Nat) : Does Try.prog 125 #[.pointer (some ⟨b, 0, none⟩)] (fun f => RB f b (scells x ah)) [] (fun v p => v = .bool (fineP x) ∧ p = []) := by
  refine Does.ofJ Try.func125 Try.call125 rfl [.raw (.pointer (some ⟨b, 0, none⟩))] [] 0 [] rfl rfl (fun h k => k) (fun f hR => ?_)
  refine RegOb.go ?_
  refine DrawOb.mk [] (.run [0, 1, 2, 3, 4, 5, 6, 7, 8, 9, 10, 11, 12, 13, 14, 15, 16, 17, 18, 19, 20, 21, 22, 23, 24, 25, 26, 27, 28, 29, 30, 31, 32, 33, 34] .nil) (by kernel_rfl) ?_
  refine RdRaw.mk (.int .u8 x.q.op) _ rfl (hR 0 _ rfl) ?_
  refine Br.mk (fun h1 => ?_) (fun h1 => ?_)
  · exact FinOb.mk _ [] rfl (fun h k => trivial) ⟨by simp_all [ret1, fineP], rfl⟩
  refine RdRaw.mk (.int .i64 x.res) _ rfl (hR 14 _ rfl) ?_
  refine Br.mk (fun h2 => ?_) (fun h2 => ?_)
  rotate_left
  · exact FinOb.mk _ [] rfl (fun h k => trivial) ⟨by simp_all [ret1, fineP] <;> omega, rfl⟩
  refine RdRaw.mk (.int .u8 x.q.op) _ rfl (hR 0 _ rfl) ?_
  refine Br.mk (fun h3 => ?_) (fun h3 => ?_)
  · exact FinOb.mk _ [] rfl (fun h k => trivial) ⟨by simp_all [ret1, fineP], rfl⟩
  refine RdRaw.mk (.int .i64 x.res) _ rfl (hR 14 _ rfl) ?_
  refine RdRaw.mk (.raw (.slice x.q.A x.q.n x.q.c)) _ rfl (hR 10 _ rfl) ?_
  exact FinOb.mk _ [] rfl (fun h k => trivial) ⟨by simp_all [ret1, fineP], rfl⟩
/-- What holds of the one ahead. -/
def AhR (f : HP) (r : Bool) : Option Nat → Prop
  | none => r = true
  | some ba => ∃ (a : X) (aa : Option Nat), a.q.Ok ∧ RB f ba (scells a aa) ∧ okA a = r
theorem AhR.frame {f f' g : HP} {r : Bool} {ah : Option Nat} (s : Split f' g f) (h : AhR f r ah) : AhR f' r ah := by
  cases ah with
  | none => exact h
  | some ba => obtain ⟨a, aa, h1, h2, h3⟩ := h; exact ⟨a, aa, h1, h2.frame s, h3⟩
theorem pbegan_spec (b : Nat) (x : X) (ah : Option Nat) (r : Bool) : Does Try.prog 118 #[.pointer (some ⟨b, 0, none⟩)] (fun f => RB f b (scells x ah) ∧ AhR f r ah) [] (fun v p => v = .bool r ∧ p = []) := by
  refine Does.ofJ Try.func118 Try.call118 rfl [.raw (.pointer (some ⟨b, 0, none⟩))] [] 0 [] rfl rfl (fun h k => k) (fun f hR => ?_)
  obtain ⟨hR, hah⟩ := hR
  refine RdRaw.mk (.raw (ptrB ah)) _ rfl (hR 11 _ rfl) ?_
  refine RegOb.go ?_
  cases ah with
  | none =>
    rw [show r = true from hah]
    exact FinOb.mk _ [] rfl (fun h k => trivial) ⟨rfl, rfl⟩
  | some ba =>
    obtain ⟨a, aa, hqa, ha, rfl⟩ := hah
    refine RdRaw.mk (.bool a.ended) _ rfl (ha 12 _ rfl) ?_
    refine Br.mk (fun h1 => ?_) (fun h1 => ?_)
    rotate_left
    · exact FinOb.mk _ [] rfl (fun h k => trivial) ⟨by simp_all [ret1, okA], rfl⟩
    refine RdRaw.mk (.bool a.gone) _ rfl (ha 13 _ rfl) ?_
    refine Br.mk (fun h2 => ?_) (fun h2 => ?_)
    rotate_left
    · exact FinOb.mk _ [] rfl (fun h k => trivial) ⟨by simp_all [ret1, okA], rfl⟩
    refine useR (.bool (fineP a)) (pfine_spec ba a aa) rfl (fun f' b' hs _ => ha.frame hs) rfl ?_
    have hf : fine a = fineP a := by simp [fine, fineP, h1]
    refine Br.mk (fun h3 => ?_) (fun h3 => ?_)
    · exact FinOb.mk _ [] rfl (fun h k => trivial) ⟨by simp_all [ret1, okA], rfl⟩
    refine RdRaw.mk (.int .u8 a.q.fl) _ rfl (ha 1 _ rfl) ?_
    have h0 := hqa.fl0
    have eb : (bitsOf .u8 (· &&& ·) a.q.fl 2 != 0) = decide (a.q.fl % 4 ≥ 2) := by
      rw [hqa.b2, Bool.eq_iff_iff]
      simp only [bne_iff_ne, decide_eq_true_eq, ne_eq]
      omega
    refine FinOb.mk _ [] rfl (fun h k => trivial) ⟨?_, rfl⟩
    show Value.bool (bitsOf .u8 (· &&& ·) a.q.fl 2 != 0) = _
    rw [eb]
    simp_all [okA]
def didP (x : X) (r : Bool) : Bool := !x.ended && (r && (okQ x.q && (decide (x.q.op ≥ 1) && decide (x.q.op ≤ 9))))
theorem pdid_spec (b : Nat) (x : X) (ah : Option Nat) (r : Bool) (hq : x.q.Ok) : Does Try.prog 104 #[.pointer (some ⟨b, 0, none⟩)] (fun f => RB f b (scells x ah) ∧ AhR f r ah) [] (fun v p => v = .bool (didP x r) ∧ p = []) := by
  refine Does.ofJ Try.func104 Try.call104 rfl [.raw (.pointer (some ⟨b, 0, none⟩))] [] 0 [] rfl rfl (fun h k => k) (fun f hR => ?_)
  obtain ⟨hR, hah⟩ := hR
  refine RegOb.go ?_
  refine RdRaw.mk (.bool x.ended) _ rfl (hR 12 _ rfl) ?_
  refine Br.mk (fun h1 => ?_) (fun h1 => ?_)
  rotate_left
  · exact FinOb.mk _ [] rfl (fun h k => trivial) ⟨by simp_all [ret1, didP], rfl⟩
  refine useR (.bool r) (pbegan_spec b x ah r) rfl (fun f' b' hs _ => ⟨hR.frame hs, hah.frame hs⟩) rfl ?_
  refine Br.mk (fun h2 => ?_) (fun h2 => ?_)
  rotate_left
  · exact FinOb.mk _ [] rfl (fun h k => trivial) ⟨by simp_all [ret1, didP], rfl⟩
  refine RdF.mk x.q.svs x.q.vals rfl rfl (fun j v hj => ?_) ?_
  · have : (scells x ah)[j]? = some v := by
      have hjl := (List.getElem?_eq_some_iff.1 hj).1
      have e : scells x ah = x.q.vals ++ [ptrB ah, .bool x.ended, .bool x.gone, .int .i64 x.res] := rfl
      rw [e, List.getElem?_append_left hjl]; exact hj
    have h9 := hR j v this
    rw [← h9]; congr 1; simp
  refine useP (.int .i64 (if okQ x.q then 0 else 260)) (check_spec x.q hq) rfl rfl ?_
  cases hk : okQ x.q with
  | false =>
    refine Br.mk (fun h => absurd h (by decide)) (fun _ => ?_)
    exact FinOb.mk _ [] rfl (fun h k => trivial) ⟨by simp_all [ret1, didP], rfl⟩
  | true =>
    refine Br.mk (fun _ => ?_) (fun h => absurd h (by decide))
    refine RdRaw.mk (.int .u8 x.q.op) _ rfl (hR 0 _ rfl) ?_
    refine Br.mk (fun h3 => ?_) (fun h3 => ?_)
    rotate_left
    · exact FinOb.mk _ [] rfl (fun h k => trivial) ⟨by simp_all [ret1, didP] <;> omega, rfl⟩
    refine RdRaw.mk (.int .u8 x.q.op) _ rfl (hR 0 _ rfl) ?_
    exact FinOb.mk _ [] rfl (fun h k => trivial) ⟨by simp_all [ret1, didP], rfl⟩
def moreP (x : X) (c : C) (r : Bool) : Bool := (x.q.op == 5 || x.q.op == 7) && (x.q.fl / 4 % 2 == 1 && (r && decide (c.res ≥ 0)))
theorem sat_none1 {As : List Asn} (h : HP) (_ : sat As h) : sat [] h := trivial
theorem pmore_spec (b : Nat) (x : X) (ah : Option Nat) (c : C) (r : Bool) (hq : x.q.Ok) : Does Try.prog 120 #[.pointer (some ⟨b, 0, none⟩), .agg c.vals.toArray] (fun f => RB f b (scells x ah) ∧ AhR f r ah) [] (fun v p => v = .bool (moreP x c r) ∧ p = []) := by
  refine Does.ofJ Try.func120 Try.call120 rfl [.raw (.pointer (some ⟨b, 0, none⟩)), .agg c.svs] [] 0 [] rfl rfl (fun h k => k) (fun f hR => ?_)
  obtain ⟨hR, hah⟩ := hR
  intro b1
  have e4 : (bitsOf .u8 (· &&& ·) x.q.fl 4 != 0) = (x.q.fl / 4 % 2 == 1) := by
    rw [hq.b4, Bool.eq_iff_iff]
    simp only [bne_iff_ne, beq_iff_eq, ne_eq]
    omega
  refine RegOb.join Unit (fun _ => ⟨37, [(4, .bool (moreP x c r))], [], 0, []⟩) ?_ (fun _ => ?_)
  · refine RdRaw.mk (.int .u8 x.q.op) _ rfl (hR 0 _ rfl) ?_
    refine Br.mk (fun h1 => ?_) (fun h1 => ?_)
    · refine RdRaw.mk (.int .u8 x.q.fl) _ rfl (hR 1 _ rfl) ?_
      refine Br.mk (fun h2 => ?_) (fun h2 => ?_)
      rotate_left
      · rw [show (bitsOf .u8 (· &&& ·) x.q.fl 4 != 0) = (x.q.fl / 4 % 2 == 1) from e4] at h2
        refine ⟨(), Le.of rfl ⟨⟨_, rfl, (congrArg (fun x => some (Value.bool x)) ?_)⟩, trivial⟩ sat_none1⟩
        simp_all [moreP]
      rw [show (bitsOf .u8 (· &&& ·) x.q.fl 4 != 0) = (x.q.fl / 4 % 2 == 1) from e4] at h2
      refine useR (.bool r) (pbegan_spec b x ah r) rfl (fun f' b' hs _ => ⟨hR.frame hs, hah.frame hs⟩) rfl ?_
      refine Br.mk (fun h3 => ?_) (fun h3 => ?_)
      · refine ⟨(), Le.of rfl ⟨⟨_, rfl, (congrArg (fun x => some (Value.bool x)) ?_)⟩, trivial⟩ sat_none1⟩
        simp_all [moreP]
      refine ⟨(), Le.of rfl ⟨⟨_, rfl, (congrArg (fun x => some (Value.bool x)) ?_)⟩, trivial⟩ sat_none1⟩
      simp_all [moreP]
    refine RdRaw.mk (.int .u8 x.q.op) _ rfl (hR 0 _ rfl) ?_
    refine Br.mk (fun h7 => ?_) (fun h7 => ?_)
    · refine RdRaw.mk (.int .u8 x.q.fl) _ rfl (hR 1 _ rfl) ?_
      refine Br.mk (fun h2 => ?_) (fun h2 => ?_)
      rotate_left
      · rw [show (bitsOf .u8 (· &&& ·) x.q.fl 4 != 0) = (x.q.fl / 4 % 2 == 1) from e4] at h2
        refine ⟨(), Le.of rfl ⟨⟨_, rfl, (congrArg (fun x => some (Value.bool x)) ?_)⟩, trivial⟩ sat_none1⟩
        simp_all [moreP]
      rw [show (bitsOf .u8 (· &&& ·) x.q.fl 4 != 0) = (x.q.fl / 4 % 2 == 1) from e4] at h2
      refine useR (.bool r) (pbegan_spec b x ah r) rfl (fun f' b' hs _ => ⟨hR.frame hs, hah.frame hs⟩) rfl ?_
      refine Br.mk (fun h3 => ?_) (fun h3 => ?_)
      · refine ⟨(), Le.of rfl ⟨⟨_, rfl, (congrArg (fun x => some (Value.bool x)) ?_)⟩, trivial⟩ sat_none1⟩
        simp_all [moreP]
      refine ⟨(), Le.of rfl ⟨⟨_, rfl, (congrArg (fun x => some (Value.bool x)) ?_)⟩, trivial⟩ sat_none1⟩
      simp_all [moreP]
    refine ⟨(), Le.of rfl ⟨⟨_, rfl, (congrArg (fun x => some (Value.bool x)) ?_)⟩, trivial⟩ sat_none1⟩
    simp_all [moreP]
  exact FinOb.mk _ [] rfl (fun h k => trivial) ⟨rfl, rfl⟩
end Go.Proofs.Ytlgdagjbphafcaa.Au
