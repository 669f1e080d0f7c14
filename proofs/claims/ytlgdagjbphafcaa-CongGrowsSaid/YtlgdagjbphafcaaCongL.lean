/- The two laws of towrope/cong hold: their walks and their loops. Conditions: none. -/
import Derived.Test.YtlgdagjbphafcaaCongW
import Derived.Test.YtlgdagjbphafcaaE15
namespace Go.Proofs.Ytlgdagjbphafcaa.Cong
open Go Go.Proofs Sx
set_option maxRecDepth 100000
set_option linter.unusedVariables false

theorem fit_of {n : Int} (h : (Lit.int .i64 n).wf = true) : Fit n := by
  simp [Lit.wf] at h; exact h
theorem c3 : Try.prog.cellsOf 3 = 1 := by kernel_rfl
theorem c50 : Try.prog.cellsOf 50 = 2 := by kernel_rfl
/-- What a list of calls reads. -/
theorem acts {f : HP} {A : Option Addr} {len cap : Nat} (h : Rd Try.prog f 3 42 [.slice A len cap]) : ∀ i, i < len → ∃ b o d n, A = some ⟨b, o, none⟩ ∧ fcell f b (o + i * 2 + 0) = some (.int .i64 d) ∧ fcell f b (o + i * 2 + 1) = some (.int .i64 n) ∧ Fit n := by
  intro i hi
  obtain ⟨b, o, cs, hA, hl, hc, hr⟩ := (Rd.slice Try.underlying42 c50 (by omega) h).2.2.2 i hi
  match cs, hl with
  | [x, y], _ =>
  obtain ⟨d, h1, _⟩ := Rd.int Try.underlying3 (Rd.field Try.underlying50 hr 0 rfl (ds := [x]) (by simp only [c3]; rfl))
  obtain ⟨n, h2, h3⟩ := Rd.int Try.underlying3 (Rd.field Try.underlying50 hr 1 rfl (ds := [y]) (by simp only [c3]; rfl))
  simp only [List.cons.injEq, and_true] at h1 h2
  subst h1; subst h2
  exact ⟨b, o, d, n, hA, hc 0 _ rfl, hc 1 _ rfl, fit_of h3⟩

theorem useC {P : Program} {f : HP} {g : FuncId} {args : List SV} {K : SV → St → Prop} {s : St} {b k : Nat} {c c' : C} {v : Value} {vals : List Value} (i : Nat) (sv : SV)
    (spec : Does P g vals.toArray (fun _ => True) [CA b c] (fun u p => u = v ∧ p = [CA b c'])) (hv : denL s.nm args = some vals) (hi : s.hp[i]? = some (.blk k 135 (CS c))) (hn : getN s.nm k = some (.at b 0)) (hd : den s.nm sv = some v)
    (h : K sv ⟨s.n, s.env, s.nm, s.next, .blk k 135 (CS c') :: s.hp.eraseIdx i⟩) : CallOb P f g args K s := by
  refine call_at i spec hi hv (fun h => blk_to hn rfl) (fun _ _ => trivial) ?_
  rintro u post ⟨rfl, rfl⟩
  exact ⟨sv, .blk k 135 (CS c') :: s.hp.eraseIdx i, hd, fun h => sat_cons (fun h => blk_of hn rfl) (fun h k => k), h⟩
theorem useP {P : Program} {f : HP} {g : FuncId} {args : List SV} {K : SV → St → Prop} {s : St} {v : Value} {vals : List Value} (sv : SV)
    (spec : Does P g vals.toArray (fun _ => True) [] (fun u p => u = v ∧ p = [])) (hv : denL s.nm args = some vals) (hd : den s.nm sv = some v)
    (h : K sv ⟨s.n, s.env, s.nm, s.next, s.hp⟩) : CallOb P f g args K s := by
  refine call_pure spec hv (fun _ _ => trivial) ?_
  rintro u post ⟨rfl, rfl⟩
  exact ⟨sv, hd, h⟩
structure Ix (len : Nat) where
  i : Nat
  c : C
  hi : i ≤ len
  hc : Inv c
  h0 : 0 ≤ c.d
  h1 : c.d ≤ i
def SI (m : Int) (A : Option Addr) (len cap b b' : Nat) (x : Ix len) : St :=
  ⟨144, [(1, .raw (.slice A len cap)), (5, .ptr 0 0), (7, .ptr 1 0), (8, .int .i64 x.i)], [(0, .at b 0), (1, .at b' 0)], 2, [.blk 0 135 (CS x.c), .blk 1 47 (CS x.c)]⟩
theorem ack_d {c : C} {n : Int} : (ack c n).d = c.d ∨ (ack c n).d = 0 := by
  unfold ack; repeat' split
  all_goals simp
theorem dup_d {c : C} {n : Int} : (dup c n).1.d = c.d + 1 := by
  unfold dup; repeat' split
  all_goals simp
theorem plays_spec (m : Int) (A : Option Addr) (len cap : Nat) :
    Does Try.prog 4 #[.int .i64 m, .slice A len cap] (fun f => Rd Try.prog f 3 42 [.slice A len cap]) [] (fun v p => v = .bool true ∧ p = []) := by
  refine Does.of Try.func4 Try.call4 rfl [.int .i64 m, .raw (.slice A len cap)] [] 0 [] rfl rfl (fun h k => k) (fun f hR => ?_)
  refine CondOb.split (fun h1 => ?_) (fun h1 => ?_)
  · refine useP .tt live_spec rfl rfl ?_
    exact FinOb.mk _ [] rfl (fun h k => trivial) ⟨rfl, rfl⟩
  simp only [decide_eq_false_iff_not, gt_iff_lt, Int.not_lt] at h1
  refine CallOb.mk _ _ rfl (fun _ => True) [] _ (new_spec m) [] (fun h k => trivial) (fun _ _ _ _ => trivial) ?_
  rintro v post (⟨hm, rfl, rfl⟩ | ⟨hm, b, rfl, rfl⟩)
  · refine ⟨.tuple [.nilp, .int .i64 1], ⟨_, _, [], 0, []⟩, ?_, rfl, rfl, NmExt.refl _, rfl, fun h k => k⟩
    refine Br.mk (fun h2 => ?_) (fun h2 => ?_)
    · refine useP (.int .i64 1) (code_spec 1) rfl rfl ?_
      refine Br.mk (fun _ => ?_) (fun h => absurd h (by decide))
      refine useP .tt live_spec rfl rfl ?_
      exact FinOb.mk _ [] rfl (fun h k => trivial) ⟨rfl, rfl⟩
    refine CondOb.split (fun h3 => ?_) (fun h3 => ?_)
    · refine useP (.int .i64 1) (code_spec 1) rfl rfl ?_
      refine Br.mk (fun _ => ?_) (fun h => absurd h (by decide))
      refine useP .tt live_spec rfl rfl ?_
      exact FinOb.mk _ [] rfl (fun h k => trivial) ⟨rfl, rfl⟩
    · simp at h2 h3; omega
  refine ⟨.tuple [.ptr 0 0, .int .i64 0], ⟨_, _, [(0, .at b 0)], 1, [.blk 0 135 (CS (new m))]⟩, ?_, rfl, rfl, NmExt.push rfl, rfl, fun h => sat_cons (fun h => blk_of rfl rfl) (fun h k => k)⟩
  refine Br.mk (fun h => absurd h (by simp; omega)) (fun _ => ?_)
  refine CondOb.split (fun h => absurd h (by simp; omega)) (fun _ => ?_)
  refine useP (.int .i64 0) (code_spec 0) rfl rfl ?_
  refine Br.mk (fun h => absurd h (by decide)) (fun _ => ?_)
  refine useP (.agg (CS (new m))) (rnew_spec m hm) rfl rfl ?_
  intro b'
  have i0 : Inv (new m) := inv_new hm.1 hm.2
  refine LoopOb.mk (Ix len) (SI m A len cap b b') (fun x => len - x.i) ⟨0, new m, by omega, i0, Int.le_refl _, Int.le_refl _⟩ ?_ ?_
  · refine Le.of rfl ⟨⟨_, rfl, rfl⟩, ⟨_, rfl, rfl⟩, ⟨_, rfl, rfl⟩, ⟨_, rfl, rfl⟩, trivial⟩ (fun h k => sat_swap k)
  rintro ⟨i, c, hi, hc, hd0, hd1⟩
  refine CondOb.split (fun h2 => ?_) (fun h2 => ?_)
  case refine_2 =>
    refine useP .tt live_spec rfl rfl ?_
    exact FinOb.mk _ [] rfl (fun h k => trivial) ⟨rfl, rfl⟩
  simp only [decide_eq_true_eq] at h2
  replace h2 : (i : Int) < len := h2
  obtain ⟨ba, o, d, n, rfl, ha1, ha2, hn⟩ := acts hR i (by omega)
  refine Need.mk ⟨Int.natCast_nonneg i, h2⟩ (RawAt.mk ba o rfl ?_)
  refine RdOb.mk (.int .i64 d) _ rfl (by simpa using ha1) ?_
  have ei : IntKind.i64.wrap ((i : Int) + 1) = ((i + 1 : Nat) : Int) := by rw [w64 (by omega) (by omega)]; omega
  have q1 : ∃ c', Inv c' ∧ 0 ≤ c'.d ∧ c'.d ≤ i + 1 ∧ c' = ack c n := ⟨_, inv_ack hc, by rcases ack_d (c := c) (n := n) with e | e <;> rw [e] <;> omega, by rcases ack_d (c := c) (n := n) with e | e <;> rw [e] <;> omega, rfl⟩
  have q2 : ∃ c', Inv c' ∧ 0 ≤ c'.d ∧ c'.d ≤ i + 1 ∧ c' = (dup c n).1 := ⟨_, inv_dup hc, by rw [dup_d]; omega, by rw [dup_d]; omega, rfl⟩
  have q3 : ∃ c', Inv c' ∧ 0 ≤ c'.d ∧ c'.d ≤ i + 1 ∧ c' = lost c n := ⟨_, inv_lost hc, Int.le_refl _, by simp only [lost]; omega, rfl⟩
  have q4 : ∃ c', Inv c' ∧ 0 ≤ c'.d ∧ c'.d ≤ i + 1 ∧ c' = c := ⟨_, hc, hd0, by omega, rfl⟩
  refine CondOb.split (fun h3 => ?_) (fun h3 => ?_)
  case refine_1 =>
    refine Need.mk ⟨Int.natCast_nonneg i, h2⟩ (RawAt.mk ba o rfl ?_)
    refine RdOb.mk (.int .i64 n) _ rfl (by simpa using ha2) ?_
    obtain ⟨c', hc', hz0, hz1, hz⟩ := q1
    refine useC 0 (c' := c') (.tuple []) (by rw [hz]; exact ack_spec b c n hc) rfl rfl rfl rfl ?_
    refine DrawOb.mk [] (.run [0, 1, 2, 3, 4, 5, 6, 7] .nil) (by kernel_rfl) ?_
    refine Need.mk ⟨Int.natCast_nonneg i, h2⟩ (RawAt.mk ba o rfl ?_)
    refine RdOb.mk (.int .i64 n) _ rfl (by simpa using ha2) ?_
    refine useP (.agg (CS c')) (by rw [hz]; exact rack_spec c n hc) rfl rfl ?_
    refine DrawOb.mk [(1, [2, 3]), (7, [8, 9]), (14, [15, 16]), (21, [22, 23])] (.run [0, 2, 3, 1, 4, 5, 6, 8, 9, 7, 10, 11, 12, 13, 15, 16, 14, 17, 18, 19, 20, 22, 23, 21, 24, 25, 26, 27, 28, 29, 30] .nil) (by kernel_rfl) ?_
    refine useC 1 (.int .i64 _) (window_spec b c') rfl rfl rfl rfl (Need.mk rfl ?_)
    refine Br.mk (fun h => absurd h (by simp)) (fun _ => ?_)
    refine useC 0 (.int .i64 _) (limit_spec b c') rfl rfl rfl rfl (Need.mk rfl ?_)
    refine Br.mk (fun h => absurd h (by simp)) (fun _ => ?_)
    refine useC 0 (.bool _) (fast_spec b c') rfl rfl rfl rfl (Need.mk rfl ?_)
    refine Br.mk (fun h => absurd h (by simp)) (fun _ => ?_)
    refine useC 0 (.int .i64 _) (dups_spec b c') rfl rfl rfl rfl (Need.mk rfl ?_)
    refine Br.mk (fun h => absurd h (by simp)) (fun _ => ?_)
    refine useC 0 (.int .i64 _) (window_spec b c') rfl rfl rfl rfl ?_
    refine CondOb.split (fun h => absurd h (by have := hc'.w1; simp; omega)) (fun _ => ?_)
    refine ⟨⟨i + 1, c', by omega, hc', hz0, by omega⟩, ?_, ?_⟩
    · show len - (i + 1) < len - i
      omega
    · refine Le.of rfl ⟨⟨_, rfl, rfl⟩, ⟨_, rfl, rfl⟩, ⟨_, rfl, rfl⟩, ⟨_, rfl, ?_⟩, trivial⟩ (fun h k => k)
      exact congrArg (fun z => some (Value.int .i64 z)) ei
  refine CondOb.split (fun h4 => ?_) (fun h4 => ?_)
  case refine_2.refine_1 =>
    refine Need.mk ⟨Int.natCast_nonneg i, h2⟩ (RawAt.mk ba o rfl ?_)
    refine RdOb.mk (.int .i64 n) _ rfl (by simpa using ha2) ?_
    obtain ⟨c', hc', hz0, hz1, hz⟩ := q2
    refine useC 0 (c' := c') (.bool (dup c n).2) (by rw [hz]; exact dup_spec b c n hc hn hd0 (by omega)) rfl rfl rfl rfl ?_
    refine DrawOb.mk [(10, [0, 1, 2, 3, 4, 5, 7, 8, 9]), (11, [9])] (.run [0, 1, 2, 3, 4, 5] (.two 6 (.run [7, 8, 9, 10, 11, 12] .nil) 10 (.run [6, 7, 8, 9, 11, 12] .nil))) (by kernel_rfl) ?_
    refine Need.mk ⟨Int.natCast_nonneg i, h2⟩ (RawAt.mk ba o rfl ?_)
    refine RdOb.mk (.int .i64 n) _ rfl (by simpa using ha2) ?_
    refine ⟨?_, ?_⟩
    case refine_1 =>
      refine useP (.tuple [.agg (CS c'), .bool (dup c n).2]) (by rw [hz]; exact rdup_spec c n hc hn hd0 (by omega)) rfl rfl ?_
      intro b2
      refine RdOb.mk (.int .i64 n) _ rfl (by simpa using ha2) (Need.mk rfl (Need.mk rfl ?_))
      refine CondOb.split (fun h => absurd h (by simp)) (fun _ => ?_)
      refine DrawOb.mk [(1, [2, 3]), (7, [8, 9]), (14, [15, 16]), (21, [22, 23])] (.run [0, 2, 3, 1, 4, 5, 6, 8, 9, 7, 10, 11, 12, 13, 15, 16, 14, 17, 18, 19, 20, 22, 23, 21, 24, 25, 26, 27, 28, 29, 30] .nil) (by kernel_rfl) ?_
      refine useC 2 (.int .i64 _) (window_spec b c') rfl rfl rfl rfl (Need.mk rfl ?_)
      refine Br.mk (fun h => absurd h (by simp)) (fun _ => ?_)
      refine useC 0 (.int .i64 _) (limit_spec b c') rfl rfl rfl rfl (Need.mk rfl ?_)
      refine Br.mk (fun h => absurd h (by simp)) (fun _ => ?_)
      refine useC 0 (.bool _) (fast_spec b c') rfl rfl rfl rfl (Need.mk rfl ?_)
      refine Br.mk (fun h => absurd h (by simp)) (fun _ => ?_)
      refine useC 0 (.int .i64 _) (dups_spec b c') rfl rfl rfl rfl (Need.mk rfl ?_)
      refine Br.mk (fun h => absurd h (by simp)) (fun _ => ?_)
      refine useC 0 (.int .i64 _) (window_spec b c') rfl rfl rfl rfl ?_
      refine CondOb.split (fun h => absurd h (by have := hc'.w1; simp; omega)) (fun _ => ?_)
      refine ⟨⟨i + 1, c', by omega, hc', hz0, by omega⟩, ?_, ?_⟩
      · show len - (i + 1) < len - i
        omega
      · refine Le.of rfl ⟨⟨_, rfl, rfl⟩, ⟨_, rfl, rfl⟩, ⟨_, rfl, rfl⟩, ⟨_, rfl, ?_⟩, trivial⟩ (fun h k => sat_cons (fun _ k => k) (fun h k => sat_cons (fun _ k => k) (fun h _ => (trivial : sat [] h)) k) k)
        exact congrArg (fun z => some (Value.int .i64 z)) ei
    case refine_2 =>
      intro b2
      refine RdOb.mk (.int .i64 n) _ rfl (by simpa using ha2) (Need.mk rfl (Need.mk rfl ?_))
      refine useP (.tuple [.agg (CS c'), .bool (dup c n).2]) (by rw [hz]; exact rdup_spec c n hc hn hd0 (by omega)) rfl rfl ?_
      refine CondOb.split (fun h => absurd h (by simp)) (fun _ => ?_)
      refine DrawOb.mk [(1, [2, 3]), (7, [8, 9]), (14, [15, 16]), (21, [22, 23])] (.run [0, 2, 3, 1, 4, 5, 6, 8, 9, 7, 10, 11, 12, 13, 15, 16, 14, 17, 18, 19, 20, 22, 23, 21, 24, 25, 26, 27, 28, 29, 30] .nil) (by kernel_rfl) ?_
      refine useC 2 (.int .i64 _) (window_spec b c') rfl rfl rfl rfl (Need.mk rfl ?_)
      refine Br.mk (fun h => absurd h (by simp)) (fun _ => ?_)
      refine useC 0 (.int .i64 _) (limit_spec b c') rfl rfl rfl rfl (Need.mk rfl ?_)
      refine Br.mk (fun h => absurd h (by simp)) (fun _ => ?_)
      refine useC 0 (.bool _) (fast_spec b c') rfl rfl rfl rfl (Need.mk rfl ?_)
      refine Br.mk (fun h => absurd h (by simp)) (fun _ => ?_)
      refine useC 0 (.int .i64 _) (dups_spec b c') rfl rfl rfl rfl (Need.mk rfl ?_)
      refine Br.mk (fun h => absurd h (by simp)) (fun _ => ?_)
      refine useC 0 (.int .i64 _) (window_spec b c') rfl rfl rfl rfl ?_
      refine CondOb.split (fun h => absurd h (by have := hc'.w1; simp; omega)) (fun _ => ?_)
      refine ⟨⟨i + 1, c', by omega, hc', hz0, by omega⟩, ?_, ?_⟩
      · show len - (i + 1) < len - i
        omega
      · refine Le.of rfl ⟨⟨_, rfl, rfl⟩, ⟨_, rfl, rfl⟩, ⟨_, rfl, rfl⟩, ⟨_, rfl, ?_⟩, trivial⟩ (fun h k => sat_cons (fun _ k => k) (fun h k => sat_cons (fun _ k => k) (fun h _ => (trivial : sat [] h)) k) k)
        exact congrArg (fun z => some (Value.int .i64 z)) ei
  refine CondOb.split (fun h5 => ?_) (fun h5 => ?_)
  case refine_2.refine_2.refine_1 =>
    refine Need.mk ⟨Int.natCast_nonneg i, h2⟩ (RawAt.mk ba o rfl ?_)
    refine RdOb.mk (.int .i64 n) _ rfl (by simpa using ha2) ?_
    obtain ⟨c', hc', hz0, hz1, hz⟩ := q3
    refine useC 0 (c' := c') (.tuple []) (by rw [hz]; exact lost_spec b c n hc hn) rfl rfl rfl rfl ?_
    refine DrawOb.mk [] (.run [0, 1, 2, 3, 4, 5, 6, 7] .nil) (by kernel_rfl) ?_
    refine Need.mk ⟨Int.natCast_nonneg i, h2⟩ (RawAt.mk ba o rfl ?_)
    refine RdOb.mk (.int .i64 n) _ rfl (by simpa using ha2) ?_
    refine useP (.agg (CS c')) (by rw [hz]; exact rlost_spec c n hc hn) rfl rfl ?_
    refine DrawOb.mk [(1, [2, 3]), (7, [8, 9]), (14, [15, 16]), (21, [22, 23])] (.run [0, 2, 3, 1, 4, 5, 6, 8, 9, 7, 10, 11, 12, 13, 15, 16, 14, 17, 18, 19, 20, 22, 23, 21, 24, 25, 26, 27, 28, 29, 30] .nil) (by kernel_rfl) ?_
    refine useC 1 (.int .i64 _) (window_spec b c') rfl rfl rfl rfl (Need.mk rfl ?_)
    refine Br.mk (fun h => absurd h (by simp)) (fun _ => ?_)
    refine useC 0 (.int .i64 _) (limit_spec b c') rfl rfl rfl rfl (Need.mk rfl ?_)
    refine Br.mk (fun h => absurd h (by simp)) (fun _ => ?_)
    refine useC 0 (.bool _) (fast_spec b c') rfl rfl rfl rfl (Need.mk rfl ?_)
    refine Br.mk (fun h => absurd h (by simp)) (fun _ => ?_)
    refine useC 0 (.int .i64 _) (dups_spec b c') rfl rfl rfl rfl (Need.mk rfl ?_)
    refine Br.mk (fun h => absurd h (by simp)) (fun _ => ?_)
    refine useC 0 (.int .i64 _) (window_spec b c') rfl rfl rfl rfl ?_
    refine CondOb.split (fun h => absurd h (by have := hc'.w1; simp; omega)) (fun _ => ?_)
    refine ⟨⟨i + 1, c', by omega, hc', hz0, by omega⟩, ?_, ?_⟩
    · show len - (i + 1) < len - i
      omega
    · refine Le.of rfl ⟨⟨_, rfl, rfl⟩, ⟨_, rfl, rfl⟩, ⟨_, rfl, rfl⟩, ⟨_, rfl, ?_⟩, trivial⟩ (fun h k => k)
      exact congrArg (fun z => some (Value.int .i64 z)) ei
  case refine_2.refine_2.refine_2 =>
    obtain ⟨c', hc', hz0, hz1, hz⟩ := q4
    subst hz
    refine DrawOb.mk [(1, [2, 3]), (7, [8, 9]), (14, [15, 16]), (21, [22, 23])] (.run [0, 2, 3, 1, 4, 5, 6, 8, 9, 7, 10, 11, 12, 13, 15, 16, 14, 17, 18, 19, 20, 22, 23, 21, 24, 25, 26, 27, 28, 29, 30] .nil) (by kernel_rfl) ?_
    refine useC 0 (.int .i64 _) (window_spec b c') rfl rfl rfl rfl (Need.mk rfl ?_)
    refine Br.mk (fun h => absurd h (by simp)) (fun _ => ?_)
    refine useC 0 (.int .i64 _) (limit_spec b c') rfl rfl rfl rfl (Need.mk rfl ?_)
    refine Br.mk (fun h => absurd h (by simp)) (fun _ => ?_)
    refine useC 0 (.bool _) (fast_spec b c') rfl rfl rfl rfl (Need.mk rfl ?_)
    refine Br.mk (fun h => absurd h (by simp)) (fun _ => ?_)
    refine useC 0 (.int .i64 _) (dups_spec b c') rfl rfl rfl rfl (Need.mk rfl ?_)
    refine Br.mk (fun h => absurd h (by simp)) (fun _ => ?_)
    refine useC 0 (.int .i64 _) (window_spec b c') rfl rfl rfl rfl ?_
    refine CondOb.split (fun h => absurd h (by have := hc'.w1; simp; omega)) (fun _ => ?_)
    refine ⟨⟨i + 1, c', by omega, hc', hz0, by omega⟩, ?_, ?_⟩
    · show len - (i + 1) < len - i
      omega
    · refine Le.of rfl ⟨⟨_, rfl, rfl⟩, ⟨_, rfl, rfl⟩, ⟨_, rfl, rfl⟩, ⟨_, rfl, ?_⟩, trivial⟩ (fun h k => k)
      exact congrArg (fun z => some (Value.int .i64 z)) ei

end Go.Proofs.Ytlgdagjbphafcaa.Cong
