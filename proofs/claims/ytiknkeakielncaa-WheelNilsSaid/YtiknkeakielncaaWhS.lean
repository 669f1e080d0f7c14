/- wheel: the law's own functions: code, live; WheelNils, WheelPlays walked. Conditions: none. -/
import Derived.Test.YtiknkeakielncaaWhR
namespace Go.Proofs.Ytiknkeakielncaa.Wh
open Go Go.Proofs Sx
set_option maxRecDepth 100000
set_option linter.unusedVariables false
set_option linter.unusedSimpArgs false
set_option maxHeartbeats 4000000

theorem code_spec (x : Int) : Does Try.prog 17 #[.int .i64 x] (fun _ => True) [] (fun v p => v = .int .i64 x ∧ p = []) := by
  refine Does.ofJ Try.func17 Try.call17 rfl [.int .i64 x] [] 0 [] rfl rfl (fun h k => k) (fun f hR => ?_)
  exact FinOb.mk _ [] rfl (fun h k => trivial) ⟨rfl, rfl⟩
abbrev live1 : List T := [⟨1, 70, 0⟩]
abbrev live2 : List T := [⟨1, 70, 0⟩, ⟨2, 5, 1⟩]
abbrev live3 : List T := [⟨1, 70, 0⟩, ⟨2, 5, 1⟩, ⟨3, 5, 2⟩]
theorem live_set1 : setC [] 1 70 = 0 ∧ setN [] 1 70 0 = 1 ∧ setL [] 1 70 0 = live1 := by decide
theorem live_set2 : setC live1 2 5 = 0 ∧ setN live1 2 5 1 = 2 ∧ setL live1 2 5 1 = live2 := by decide
theorem live_set3 : setC live2 3 5 = 0 ∧ setN live2 3 5 2 = 3 ∧ setL live2 3 5 2 = live3 := by decide
theorem told1 : Told 69 live3 [⟨2, 5, 1⟩, ⟨3, 5, 2⟩] := ⟨by rw [show live3.filter (isLate 69) = [⟨2, 5, 1⟩, ⟨3, 5, 2⟩] by decide], by decide⟩
theorem ahead1 : ahead 69 live3 = live1 := by decide
theorem told2 : Told 70 live1 live1 := ⟨by rw [show live1.filter (isLate 70) = live1 by decide], by decide⟩
theorem live_spec : Does Try.prog 15 #[] (fun _ => True) [] (fun v p => v = .bool true ∧ p = []) := by
  refine Does.ofJ Try.func15 Try.call15 rfl [] [] 0 [] rfl rfl (fun h k => k) (fun f hR => ?_)
  have p0 : PL 0 0 [] := PL.emp (by decide) (by decide)
  have p1 := pl_set p0 1 70
  rw [live_set1.2.1, live_set1.2.2] at p1
  have p2 := pl_set p1 2 5
  rw [live_set2.2.1, live_set2.2.2] at p2
  have p3 := pl_set p2 3 5
  rw [live_set3.2.1, live_set3.2.2] at p3
  have p4 := pl_tick (x := 69) p3 (by decide) (by decide)
  rw [ahead1] at p4
  refine call_ix (wnew_spec 0 (by decide) (by decide)) rfl [] (fun h k => k) (fun _ _ _ _ => trivial) ?_
  rintro v post ⟨b, rfl, rfl⟩
  refine ⟨.tuple [.raw (.pointer (some ⟨b, 0, none⟩)), .int .i64 0], _, 0, [.asn (WrA b 0 0 [])], NmExt.refl _, rfl, (fun h k => sat_pick 0 rfl (by first | exact fun _ k => k | exact fun _ k => blk_to rfl rfl k | exact fun _ k => vec_to rfl k | exact fun _ k => blk_of rfl rfl k | exact fun _ k => vec_of rfl k | exact fun _ k => blk_of rfl rfl (blk_to rfl rfl k) | exact fun _ k => vec_of rfl (vec_to rfl k) | exact fun _ k => mp_to rfl k | exact fun _ k => mp_of rfl k | exact fun _ k => mp_of rfl (mp_to rfl k)) (fun h k => sat_nil k) k), ?_⟩
  refine RegOb.go ?_
  refine useP (.int .i64 0) (code_spec 0) rfl rfl ?_
  refine Br.mk (fun h => absurd h (by decide)) (fun _ => ?_)
  have s1 := wset_spec b 0 0 [] p0 (by decide) 1 70
  rw [live_set1.1, live_set1.2.1, live_set1.2.2] at s1
  have s2 := wset_spec b 0 1 live1 p1 (by decide) 2 5
  rw [live_set2.1, live_set2.2.1, live_set2.2.2] at s2
  have s3 := wset_spec b 0 2 live2 p2 (by decide) 3 5
  rw [live_set3.1, live_set3.2.1, live_set3.2.2] at s3
  refine call_ix s1 rfl [0] (fun h k => sat_pick 0 rfl (by first | exact fun _ k => k | exact fun _ k => blk_to rfl rfl k | exact fun _ k => vec_to rfl k | exact fun _ k => blk_of rfl rfl k | exact fun _ k => vec_of rfl k | exact fun _ k => blk_of rfl rfl (blk_to rfl rfl k) | exact fun _ k => vec_of rfl (vec_to rfl k) | exact fun _ k => mp_to rfl k | exact fun _ k => mp_of rfl k | exact fun _ k => mp_of rfl (mp_to rfl k)) (fun h k => sat_nil k) k) (fun _ _ _ _ => trivial) ?_
  rintro v post ⟨rfl, rfl⟩
  refine ⟨.int .i64 0, _, 0, [.asn (WrA b 0 1 live1)], NmExt.refl _, rfl, (fun h k => sat_pick 0 rfl (by first | exact fun _ k => k | exact fun _ k => blk_to rfl rfl k | exact fun _ k => vec_to rfl k | exact fun _ k => blk_of rfl rfl k | exact fun _ k => vec_of rfl k | exact fun _ k => blk_of rfl rfl (blk_to rfl rfl k) | exact fun _ k => vec_of rfl (vec_to rfl k) | exact fun _ k => mp_to rfl k | exact fun _ k => mp_of rfl k | exact fun _ k => mp_of rfl (mp_to rfl k)) (fun h k => sat_nil k) k), ?_⟩
  refine call_ix s2 rfl [0] (fun h k => sat_pick 0 rfl (by first | exact fun _ k => k | exact fun _ k => blk_to rfl rfl k | exact fun _ k => vec_to rfl k | exact fun _ k => blk_of rfl rfl k | exact fun _ k => vec_of rfl k | exact fun _ k => blk_of rfl rfl (blk_to rfl rfl k) | exact fun _ k => vec_of rfl (vec_to rfl k) | exact fun _ k => mp_to rfl k | exact fun _ k => mp_of rfl k | exact fun _ k => mp_of rfl (mp_to rfl k)) (fun h k => sat_nil k) k) (fun _ _ _ _ => trivial) ?_
  rintro v post ⟨rfl, rfl⟩
  refine ⟨.int .i64 0, _, 0, [.asn (WrA b 0 2 live2)], NmExt.refl _, rfl, (fun h k => sat_pick 0 rfl (by first | exact fun _ k => k | exact fun _ k => blk_to rfl rfl k | exact fun _ k => vec_to rfl k | exact fun _ k => blk_of rfl rfl k | exact fun _ k => vec_of rfl k | exact fun _ k => blk_of rfl rfl (blk_to rfl rfl k) | exact fun _ k => vec_of rfl (vec_to rfl k) | exact fun _ k => mp_to rfl k | exact fun _ k => mp_of rfl k | exact fun _ k => mp_of rfl (mp_to rfl k)) (fun h k => sat_nil k) k), ?_⟩
  refine call_ix s3 rfl [0] (fun h k => sat_pick 0 rfl (by first | exact fun _ k => k | exact fun _ k => blk_to rfl rfl k | exact fun _ k => vec_to rfl k | exact fun _ k => blk_of rfl rfl k | exact fun _ k => vec_of rfl k | exact fun _ k => blk_of rfl rfl (blk_to rfl rfl k) | exact fun _ k => vec_of rfl (vec_to rfl k) | exact fun _ k => mp_to rfl k | exact fun _ k => mp_of rfl k | exact fun _ k => mp_of rfl (mp_to rfl k)) (fun h k => sat_nil k) k) (fun _ _ _ _ => trivial) ?_
  rintro v post ⟨rfl, rfl⟩
  refine ⟨.int .i64 0, _, 0, [.asn (WrA b 0 3 live3)], NmExt.refl _, rfl, (fun h k => sat_pick 0 rfl (by first | exact fun _ k => k | exact fun _ k => blk_to rfl rfl k | exact fun _ k => vec_to rfl k | exact fun _ k => blk_of rfl rfl k | exact fun _ k => vec_of rfl k | exact fun _ k => blk_of rfl rfl (blk_to rfl rfl k) | exact fun _ k => vec_of rfl (vec_to rfl k) | exact fun _ k => mp_to rfl k | exact fun _ k => mp_of rfl k | exact fun _ k => mp_of rfl (mp_to rfl k)) (fun h k => sat_nil k) k), ?_⟩
  refine call_ix (wtick_spec b 0 3 live3 p3 69 (by decide) (by decide)) rfl [0] (fun h k => sat_pick 0 rfl (by first | exact fun _ k => k | exact fun _ k => blk_to rfl rfl k | exact fun _ k => vec_to rfl k | exact fun _ k => blk_of rfl rfl k | exact fun _ k => vec_of rfl k | exact fun _ k => blk_of rfl rfl (blk_to rfl rfl k) | exact fun _ k => vec_of rfl (vec_to rfl k) | exact fun _ k => mp_to rfl k | exact fun _ k => mp_of rfl k | exact fun _ k => mp_of rfl (mp_to rfl k)) (fun h k => sat_nil k) k) (fun _ _ _ _ => trivial) ?_
  rintro v post ⟨pl, c, l, rfl, ht, hlc, rfl⟩
  have e := ht.same p3.ord told1
  subst e
  rw [ahead1]
  refine ⟨.tuple [.sl 0 0 2 c, .int .i64 0], [(0, pl)], 1, [.asn (WrA b 69 3 live1), .vec 0 3 1 c (IL.flat [2, 3])], NmExt.push rfl, rfl, (fun h k => sat_pick 0 rfl (by first | exact fun _ k => k | exact fun _ k => blk_to rfl rfl k | exact fun _ k => vec_to rfl k | exact fun _ k => blk_of rfl rfl k | exact fun _ k => vec_of rfl k | exact fun _ k => blk_of rfl rfl (blk_to rfl rfl k) | exact fun _ k => vec_of rfl (vec_to rfl k) | exact fun _ k => mp_to rfl k | exact fun _ k => mp_of rfl k | exact fun _ k => mp_of rfl (mp_to rfl k)) (fun h k => sat_pick 0 rfl (fun _ k => vec_of rfl k) (fun h k => sat_nil k) k) k), ?_⟩
  refine call_ix (wtick_spec b 69 3 live1 p4 70 (by decide) (by decide)) rfl [0] (fun h k => sat_pick 0 rfl (by first | exact fun _ k => k | exact fun _ k => blk_to rfl rfl k | exact fun _ k => vec_to rfl k | exact fun _ k => blk_of rfl rfl k | exact fun _ k => vec_of rfl k | exact fun _ k => blk_of rfl rfl (blk_to rfl rfl k) | exact fun _ k => vec_of rfl (vec_to rfl k) | exact fun _ k => mp_to rfl k | exact fun _ k => mp_of rfl k | exact fun _ k => mp_of rfl (mp_to rfl k)) (fun h k => sat_pick 0 rfl (by first | exact fun _ k => k | exact fun _ k => blk_to rfl rfl k | exact fun _ k => vec_to rfl k | exact fun _ k => blk_of rfl rfl k | exact fun _ k => vec_of rfl k | exact fun _ k => blk_of rfl rfl (blk_to rfl rfl k) | exact fun _ k => vec_of rfl (vec_to rfl k) | exact fun _ k => mp_to rfl k | exact fun _ k => mp_of rfl k | exact fun _ k => mp_of rfl (mp_to rfl k)) (fun h k => sat_nil k) k) k) (fun _ _ _ _ => trivial) ?_
  rintro v post ⟨pl2, c2, l, rfl, ht, hlc2, rfl⟩
  have e := ht.same p4.ord told2
  subst e
  refine ⟨.tuple [.sl 1 0 1 c2, .int .i64 0], (1, pl2) :: _, 2, [.asn (WrA b 70 3 (ahead 70 live1)), .vec 1 3 1 c2 (IL.flat [1])], NmExt.push rfl, rfl, (fun h k => sat_pick 0 rfl (by first | exact fun _ k => k | exact fun _ k => blk_to rfl rfl k | exact fun _ k => vec_to rfl k | exact fun _ k => blk_of rfl rfl k | exact fun _ k => vec_of rfl k | exact fun _ k => blk_of rfl rfl (blk_to rfl rfl k) | exact fun _ k => vec_of rfl (vec_to rfl k) | exact fun _ k => mp_to rfl k | exact fun _ k => mp_of rfl k | exact fun _ k => mp_of rfl (mp_to rfl k)) (fun h k => sat_pick 0 rfl (fun _ k => vec_of rfl k) (fun h k => sat_nil k) k) k), ?_⟩
  refine RegOb.go ?_
  repeat refine useP (.int .i64 0) (code_spec 0) rfl rfl ?_
  refine Br.mk (fun _ => ?_) (fun h => absurd h (by decide))
  intro b54
  refine useR .tt ((same_spec (locAddr 0 pl) (some ⟨b54, 0, none⟩) c 2 [2, 3] [2, 3] (by decide)).mono (Q' := fun v p => v = .bool true ∧ p = []) (by rintro v p ⟨rfl, rfl⟩; simp)) rfl (fun f' b' hs kb => ⟨vec_reads 3 hs kb rfl rfl, blk_reads (xs := [.int .i64 2, .int .i64 3]) (c := b54) 0 hs kb rfl rfl rfl⟩) rfl ?_
  intro b59
  refine useR .tt ((same_spec (locAddr 0 pl2) (some ⟨b59, 0, none⟩) c2 1 [1] [1] (by decide)).mono (Q' := fun v p => v = .bool true ∧ p = []) (by rintro v p ⟨rfl, rfl⟩; simp)) rfl (fun f' b' hs kb => ⟨vec_reads 3 hs kb rfl rfl, blk_reads (xs := [.int .i64 1]) (c := b59) 0 hs kb rfl rfl rfl⟩) rfl ?_
  exact FinOb.mk [.bool true] [] rfl (fun h k => trivial) ⟨rfl, rfl⟩
/-! ### Calls -/
structure A where
  do_ : Int
  id : Int
  at_ : Int
def A.vals (a : A) : List Value := [.int .i64 a.do_, .int .i64 a.id, .int .i64 a.at_]
def A.svs (a : A) : List SV := [.int .i64 a.do_, .int .i64 a.id, .int .i64 a.at_]
def AL : Lay A where
  cells := A.vals
  sz := 3
  len _ := rfl
  one e v hv := by
    simp only [A.vals, List.mem_cons, List.not_mem_nil, or_false] at hv
    rcases hv with rfl | rfl | rfl <;> rfl
theorem nils_spec (a : A) : Does Try.prog 10 #[.agg a.vals.toArray] (fun _ => True) [] (fun v p => v = .bool true ∧ p = []) := by
  refine Does.ofJ Try.func10 Try.call10 rfl [.agg a.svs] [] 0 [] rfl rfl (fun h k => k) (fun f hR => ?_)
  intro b1
  refine useP (.tuple [.raw (.slice none 0 0), .int .i64 7]) (tick_nil a.at_) rfl rfl ?_
  refine useP (.tuple [.int .i64 0, .ff]) next_nil rfl rfl ?_
  refine useP (.tuple [.int .i64 0, .ff]) (due_nil a.id) rfl rfl ?_
  refine RegOb.go ?_
  refine useP (.int .i64 0) now_nil rfl rfl ?_
  refine useP (.int .i64 0) len_nil rfl rfl ?_
  refine Br.mk (fun _ => ?_) (fun h => absurd h (by decide))
  refine useP .ff (stop_nil a.id) rfl rfl ?_
  refine useP (.int .i64 7) (code_spec 7) rfl rfl ?_
  refine Br.mk (fun _ => ?_) (fun h => absurd h (by decide))
  refine useP (.int .i64 7) (set_nil a.id a.at_) rfl rfl ?_
  refine useP (.int .i64 7) (code_spec 7) rfl rfl ?_
  refine Br.mk (fun _ => ?_) (fun h => absurd h (by decide))
  refine useP .tt live_spec rfl rfl ?_
  exact FinOb.mk [.bool true] [] rfl (fun h k => trivial) ⟨rfl, rfl⟩
end Go.Proofs.Ytiknkeakielncaa.Wh
