/- audit: the law AuditChecks. Conditions: none. -/
import Derived.Test.YtlgdagjbphafcaaAuN
namespace Go.Proofs.Ytlgdagjbphafcaa.Au
open Go Go.Proofs Sx
set_option maxRecDepth 100000
set_option linter.unusedVariables false
set_option linter.unusedSimpArgs false
set_option maxHeartbeats 4000000

theorem much_spec (A : Option Addr) (cp : Nat) (ms : List M) : Does Try.prog 36 #[.slice A ms.length cp] (fun f => Reads f A (ML.flat ms)) [] (fun v p => ∃ r, v = .bool r ∧ (r = false → ms.length ≤ 60) ∧ p = []) := by
  refine Does.ofJ Try.func36 Try.call36 rfl [.raw (.slice A ms.length cp)] [] 0 [] rfl rfl (fun h k => k) (fun f hR => ?_)
  refine CondOb.split (fun g => ?_) (fun g => ?_)
  · exact FinOb.mk _ [] rfl (fun h k => trivial) ⟨true, rfl, ⟨(fun h => by cases h), rfl⟩⟩
  simp only [decide_eq_false_iff_not] at g
  replace g : ¬ (ms.length : Int) > 60 := g
  refine LoopOb.mk { i : Nat // i ≤ ms.length } (fun z => ⟨36, [(0, .raw (.slice A ms.length cp)), (3, .int .i64 z.1)], [], 0, []⟩) (fun z => ms.length - z.1) ⟨0, by omega⟩ ?_ ?_
  · exact Le.of rfl ⟨⟨_, rfl, rfl⟩, ⟨_, rfl, rfl⟩, trivial⟩ (fun h k => k)
  rintro ⟨i, hi⟩
  refine CondOb.split (fun g1 => ?_) (fun g1 => ?_)
  rotate_left
  · exact FinOb.mk _ [] rfl (fun h k => trivial) ⟨false, rfl, ⟨(fun h => by omega), rfl⟩⟩
  simp only [decide_eq_true_eq] at g1
  replace g1 : (i : Int) < ms.length := g1
  have hx := List.getElem?_eq_getElem (show i < ms.length by omega)
  generalize ms[i]'(by omega) = m at hx
  obtain ⟨b, o, hA, hc⟩ := hR.lay (by decide) hx
  have hn : 0 ≤ (i : Int) ∧ (i : Int) < ms.length := by omega
  have ei : IntKind.i64.wrap ((i : Int) + 1) = ((i + 1 : Nat) : Int) := by rw [w64 (by omega) (by omega)]; omega
  refine DrawOb.mk [] (.run [0, 1, 2, 3, 4, 5, 6, 7, 8, 9, 10, 11, 12, 13, 14, 15, 16, 17, 18, 19, 20, 21, 22] .nil) (by kernel_rfl) ?_
  refine Need.mk hn (RawAt.mk b o hA ?_)
  refine RdRaw.mk (.raw (.slice m.A m.k m.cp)) _ rfl (hc 22 _ rfl) ?_
  refine Need.mk hn (RawAt.mk b o hA ?_)
  refine RdRaw.mk (.raw (.slice m.q.A m.q.n m.q.c)) _ rfl (hc 14 _ rfl) ?_
  refine Need.mk hn (RawAt.mk b o hA ?_)
  refine RdRaw.mk (.raw (.slice m.c.A m.c.n m.c.c)) _ rfl (hc 19 _ rfl) ?_
  refine CondOb.split (fun g2 => ?_) (fun g2 => ?_)
  · exact FinOb.mk _ [] rfl (fun h k => trivial) ⟨true, rfl, ⟨(fun h => by cases h), rfl⟩⟩
  · exact ⟨⟨i + 1, by omega⟩, by show ms.length - (i + 1) < ms.length - i; omega, Le.of rfl ⟨⟨_, rfl, rfl⟩, ⟨_, rfl, congrArg (fun z => some (Value.int .i64 z)) ei⟩, trivial⟩ (fun h k => k)⟩
def M0 : M := M.at 0 0 0
def M2 : M := { M0 with what := 2 }
theorem live3 : firstBad [M0, M2, M2] 3 = some 2 := by decide +kernel
theorem live2 : firstBad [M0, M2] 2 = none := by decide +kernel
theorem live_spec : Does Try.prog 37 #[] (fun _ => True) [] (fun v q => v = .bool true ∧ q = []) := by
  refine Does.ofJ Try.func37 Try.call37 rfl [] [] 0 [] rfl rfl (fun h k => k) (fun f hR => ?_)
  intro b1
  have o0 : M0.Ok := ⟨⟨by decide, by decide, by decide, by decide⟩, by decide, by decide⟩
  have o2 : M2.Ok := ⟨⟨by decide, by decide, by decide, by decide⟩, by decide, by decide⟩
  have h3 := pcheck_spec (some ⟨b1, 0, none⟩) 3 [M0, M2, M2] (by
    intro m hm
    simp only [List.mem_cons, List.not_mem_nil, or_false] at hm
    rcases hm with rfl | rfl | rfl
    · exact o0
    · exact o2
    · exact o2) (by decide)
  rw [show ([M0, M2, M2] : List M).length = 3 from rfl, live3] at h3
  refine call_ix h3 rfl [] (fun h k => k) (fun f' b' hs kk => blk_reads 0 hs kk rfl rfl rfl) ?_
  rintro v post ⟨rfl, rfl⟩
  refine ⟨.tuple [.int .i64 2, .ff], _, 1, [], NmExt.refl _, rfl, fun h k => trivial, ?_⟩
  intro b2
  have h2 := pcheck_spec (some ⟨b2, 0, none⟩) 2 [M0, M2] (by
    intro m hm
    simp only [List.mem_cons, List.not_mem_nil, or_false] at hm
    rcases hm with rfl | rfl
    · exact o0
    · exact o2) (by decide)
  rw [show ([M0, M2] : List M).length = 2 from rfl, live2] at h2
  refine call_ix h2 rfl [] (fun h k => k) (fun f' b' hs kk => blk_reads 0 hs kk rfl rfl rfl) ?_
  rintro v post ⟨rfl, rfl⟩
  refine ⟨.tuple [.int .i64 2, .tt], _, 2, [], NmExt.refl _, rfl, fun h k => trivial, ?_⟩
  refine RegOb.go ?_
  repeat' refine Br.mk (fun h => ?_) (fun h => ?_)
  all_goals first | (exact absurd ‹_› (by decide)) | skip
  all_goals exact FinOb.mk _ [] rfl (fun h k => trivial) ⟨rfl, rfl⟩
theorem audit_walk (A : Option Addr) (cp : Nat) (ms : List M) (hok : ∀ m ∈ ms, m.Ok) (hcp : ms.length ≤ cp) : Does Try.prog 6 #[.slice A ms.length cp] (fun f => Reads f A (ML.flat ms)) [] (fun v q => v = .bool true ∧ q = []) := by
  refine Does.ofJ Try.func6 Try.call6 rfl [.raw (.slice A ms.length cp)] [] 0 [] rfl rfl (fun h k => k) (fun f hR => ?_)
  refine call_ix (much_spec A cp ms) rfl [] (fun h k => k) (fun f' b' hs _ => hR.frame hs) ?_
  rintro v post ⟨r, rfl, hr, rfl⟩
  refine ⟨.bool r, _, 0, [], NmExt.refl _, rfl, fun h k => trivial, ?_⟩
  refine CondOb.split (fun g => ?_) (fun g => ?_)
  · refine useP .tt live_spec rfl rfl ?_
    exact FinOb.mk _ [] rfl (fun h k => trivial) ⟨rfl, rfl⟩
  have hlen := hr g
  have hc1 := pcheck_spec A cp ms hok (by omega)
  have hc2 := rcheck2_spec A cp ms hok (by omega) hcp
  cases hb : firstBad ms ms.length with
  | some i =>
    rw [hb] at hc1 hc2
    refine useR (.tuple [.int .i64 i, .ff]) hc1 rfl (fun f' b' hs _ => hR.frame hs) rfl ?_
    refine useR (.tuple [.int .i64 i, .ff]) hc2 rfl (fun f' b' hs _ => hR.frame hs) rfl ?_
    refine RegOb.go ?_
    refine Br.mk (fun _ => ?_) (fun h => absurd h (by simp))
    refine useP .tt live_spec rfl rfl ?_
    exact FinOb.mk _ [] rfl (fun h k => trivial) ⟨rfl, rfl⟩
  | none =>
    rw [hb] at hc1 hc2
    refine useR (.tuple [.int .i64 ms.length, .tt]) hc1 rfl (fun f' b' hs _ => hR.frame hs) rfl ?_
    refine useR (.tuple [.int .i64 ms.length, .tt]) hc2 rfl (fun f' b' hs _ => hR.frame hs) rfl ?_
    refine RegOb.go ?_
    refine Br.mk (fun _ => ?_) (fun h => absurd h (by simp))
    refine useP .tt live_spec rfl rfl ?_
    exact FinOb.mk _ [] rfl (fun h k => trivial) ⟨rfl, rfl⟩
end Go.Proofs.Ytlgdagjbphafcaa.Au
