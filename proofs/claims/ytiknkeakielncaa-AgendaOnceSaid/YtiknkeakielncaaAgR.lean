/- agenda: the reference's Pop. Conditions: none. -/
import Derived.Test.YtiknkeakielncaaAgQ
namespace Go.Proofs.Ytiknkeakielncaa.Ag
open Go Go.Proofs Sx
set_option maxRecDepth 100000
set_option linter.unusedVariables false
set_option linter.unusedSimpArgs false
set_option maxHeartbeats 4000000

theorem ref_pop (A : Option Addr) (cp : Nat) (l : List En) (y : Int) (hn : l.Pairwise (fun a b => a.no < b.no)) (hl : l.length ≤ 90000) :
    Does Try.prog 59 #[.slice A l.length cp, .int .i64 y] (fun f => Reads f A (TL.flat l)) [] (fun v p => ∃ S pl1 c1 pl2 c2, v = .tuple #[.slice (locAddr 0 pl1) (ahead y l).length c1, .slice (locAddr 0 pl2) S.length c2] ∧ Sorted (l.filter (isLate y)) S ∧ (ahead y l).length ≤ c1 ∧ S.length ≤ c2 ∧ p = [Vec pl1 65 3 c1 (TL.flat (ahead y l)), Vec pl2 65 3 c2 (TL.flat S)]) := by
  refine Does.ofJ Try.func59 Try.call59 rfl [.raw (.slice A l.length cp), .int .i64 y] [] 0 [] rfl rfl (fun h k => k) (fun f hR => ?_)
  refine LoopOb.mk { z : Nat × List En × List En × Plc × Nat × Plc × Nat // z.1 ≤ l.length ∧ z.2.1 = ahead y (l.take z.1) ∧ z.2.2.1 = (l.take z.1).filter (isLate y) ∧ z.2.1.length ≤ z.2.2.2.2.1 ∧ z.2.2.1.length ≤ z.2.2.2.2.2.2 } (fun z => ⟨39, [(0, .raw (.slice A l.length cp)), (1, .int .i64 y), (6, .sl 0 0 z.1.2.1.length z.1.2.2.2.2.1), (7, .sl 1 0 z.1.2.2.1.length z.1.2.2.2.2.2.2), (8, .int .i64 z.1.1)], [(1, z.1.2.2.2.2.2.1), (0, z.1.2.2.2.1)], 2, [.vec 0 65 3 z.1.2.2.2.2.1 (TL.flat z.1.2.1), .vec 1 65 3 z.1.2.2.2.2.2.2 (TL.flat z.1.2.2.1)]⟩) (fun z => l.length - z.1.1)
    ⟨(0, [], [], .nil, 0, .nil, 0), Nat.zero_le _, rfl, rfl, Nat.le_refl _, Nat.le_refl _⟩ ?_ ?_
  · exact Le.of rfl ⟨⟨_, rfl, rfl⟩, ⟨_, rfl, rfl⟩, ⟨_, rfl, rfl⟩, ⟨_, rfl, rfl⟩, ⟨_, rfl, rfl⟩, trivial⟩ (fun h k => sat_add (vec_of rfl vec_emp) ((fun h k => sat_add (vec_of rfl vec_emp) ((fun h k => sat_nil k) h k)) h k))
  rintro ⟨⟨i, La, Ld, pl1, c1, pl2, c2⟩, hi, hLa, hLd, h1, h2⟩
  simp only at hi hLa hLd h1 h2
  have hla : La.length ≤ l.length := by
    rw [hLa]; exact Nat.le_trans (List.length_filter_le _ _) (by rw [List.length_take]; omega)
  have hld : Ld.length ≤ l.length := by
    rw [hLd]; exact Nat.le_trans (List.length_filter_le _ _) (by rw [List.length_take]; omega)
  refine CondOb.split (fun g => ?_) (fun g => ?_)
  rotate_left
  · have g : i = l.length := by
      have g := of_decide_eq_false g
      have : ¬ (i : Int) < l.length := g
      omega
    have hLa2 : La = ahead y l := by rw [hLa, List.take_of_length_le (by omega)]
    have hLd2 : Ld = l.filter (isLate y) := by rw [hLd, List.take_of_length_le (by omega)]
    refine call_ix (ref_all (locAddr 0 pl2) c2 Ld (by rw [hLd2]; exact hn.filter _) (by omega)) rfl [] (fun h k => k) (fun f' b' hs kb => vec_reads 1 hs kb rfl rfl) ?_
    rintro v post ⟨S, pl3, c3, rfl, hS, hc3, _, rfl⟩
    refine ⟨.sl 2 0 S.length c3, (2, pl3) :: _, 3, [.vec 2 65 3 c3 (TL.flat S)], NmExt.push rfl, rfl, (fun h k => sat_pick 0 rfl (fun _ k => vec_of rfl k) (fun h k => sat_nil k) k), ?_⟩
    rw [← hLa2, ← hLd2]
    exact FinOb.mk [.slice (locAddr 0 pl1) La.length c1, .slice (locAddr 0 pl3) S.length c3] [Vec pl1 65 3 c1 (TL.flat La), Vec pl3 65 3 c3 (TL.flat S)] rfl (fun h k => sat_pick 1 rfl (fun _ k => vec_to rfl k) (fun h k => sat_pick 0 rfl (fun _ k => vec_to rfl k) (fun h k => sat_nil k) k) k) ⟨S, pl1, c1, pl3, c3, rfl, hS, h1, hc3, rfl⟩
  have hil : i < l.length := by
    have g := of_decide_eq_true g
    have : (i : Int) < l.length := g
    omega
  have hx := List.getElem?_eq_getElem hil
  generalize l[i] = x at hx
  obtain ⟨ba, o, hA, hf⟩ := hR.lay (by decide) hx
  have hn1 : (0 : Int) ≤ (i : Int) ∧ (i : Int) < l.length := by omega
  have ei : IntKind.i64.wrap ((i : Int) + 1) = ((i + 1 : Nat) : Int) := by rw [w64 (by omega) (by omega)]; omega
  refine Need.mk hn1 (RawAt.mk ba o hA ?_)
  refine RdRaw.mk (.int .i64 x.at_) _ rfl (by rw [Int.toNat_natCast]; exact hf 1 _ rfl) ?_
  have tA : ahead y (l.take (i + 1)) = La ++ (if isLate y x = true then [] else [x]) := by
    rw [hLa, List.take_add_one, hx]
    unfold ahead
    rw [List.filter_append]
    cases q : isLate y x <;> simp [q]
  have tD : (l.take (i + 1)).filter (isLate y) = Ld ++ (if isLate y x = true then [x] else []) := by
    rw [hLd, List.take_add_one, hx, List.filter_append]
    cases q : isLate y x <;> simp [q]
  refine CondOb.split (fun g2 => ?_) (fun g2 => ?_)
  · have q : isLate y x = true := g2
    rw [q] at tA tD
    simp only [if_true, List.append_nil] at tA tD
    refine Need.mk hn1 (RawAt.mk ba o hA ?_)
    refine RdF.mk x.itsv x.item rfl rfl (fun j v hj => by rw [Int.toNat_natCast]; exact hf j v hj) ?_
    intro b3
    refine StOb.mk (TL.cells x) rfl (Need.mk rfl ?_)
    refine Need.mk ⟨by dsimp only; rw [lT]; omega, by dsimp only; omega, h2⟩ ?_
    refine Need.mk ⟨by dsimp only; omega, by dsimp only; simp only [maxLen]; omega, TL.one _⟩ ?_
    refine NewSl.pos (Nat.succ_pos _) (fun b6 o6 c6 hc6 => ?_)
    have hfl : List.take ((Ld).length * 3) (List.drop 0 (TL.flat Ld)) ++ TL.cells x = TL.flat (Ld ++ [x]) := by
      rw [List.drop_zero, List.take_of_length_le (by rw [lT]; exact Nat.le_refl _), TL.flat_append, TL.flat_one]
    have eL : (Ld ++ [x]).length = (Ld).length + 1 := by simp
    exact ⟨⟨(i + 1, La, Ld ++ [x], pl1, c1, .at b6 o6, c6), hil, tA.symm, tD.symm, h1, by show (Ld ++ [x]).length ≤ c6; rw [eL]; exact hc6⟩, by show l.length - (i + 1) < l.length - i; omega, Le.of rfl ⟨⟨_, rfl, rfl⟩, ⟨_, rfl, rfl⟩, ⟨_, rfl, rfl⟩, ⟨_, rfl, (congrArg (fun q : Nat => some (Value.slice (some ⟨b6, o6, none⟩) q c6)) eL.symm)⟩, ⟨_, rfl, congrArg (fun z => some (Value.int .i64 z)) ei⟩, trivial⟩ (fun h k => sat_pick 2 rfl (fun _ k => vec_of rfl (vec_to rfl k)) (fun h k => sat_pick 0 rfl (fun _ k => vec_of rfl (vec_cast hfl (vec_to (l := .at b6 o6) rfl k))) (fun h k => sat_nil k) k) k)⟩
  · have q : isLate y x = false := g2
    rw [q] at tA tD
    simp only [Bool.false_eq_true, if_false, List.append_nil] at tA tD
    refine Need.mk hn1 (RawAt.mk ba o hA ?_)
    refine RdF.mk x.itsv x.item rfl rfl (fun j v hj => by rw [Int.toNat_natCast]; exact hf j v hj) ?_
    intro b3
    refine StOb.mk (TL.cells x) rfl (Need.mk rfl ?_)
    refine Need.mk ⟨by dsimp only; rw [lT]; omega, by dsimp only; omega, h1⟩ ?_
    refine Need.mk ⟨by dsimp only; omega, by dsimp only; simp only [maxLen]; omega, TL.one _⟩ ?_
    refine NewSl.pos (Nat.succ_pos _) (fun b6 o6 c6 hc6 => ?_)
    have hfl : List.take ((La).length * 3) (List.drop 0 (TL.flat La)) ++ TL.cells x = TL.flat (La ++ [x]) := by
      rw [List.drop_zero, List.take_of_length_le (by rw [lT]; exact Nat.le_refl _), TL.flat_append, TL.flat_one]
    have eL : (La ++ [x]).length = (La).length + 1 := by simp
    exact ⟨⟨(i + 1, La ++ [x], Ld, .at b6 o6, c6, pl2, c2), hil, tA.symm, tD.symm, by show (La ++ [x]).length ≤ c6; rw [eL]; exact hc6, h2⟩, by show l.length - (i + 1) < l.length - i; omega, Le.of rfl ⟨⟨_, rfl, rfl⟩, ⟨_, rfl, rfl⟩, ⟨_, rfl, (congrArg (fun q : Nat => some (Value.slice (some ⟨b6, o6, none⟩) q c6)) eL.symm)⟩, ⟨_, rfl, rfl⟩, ⟨_, rfl, congrArg (fun z => some (Value.int .i64 z)) ei⟩, trivial⟩ (fun h k => sat_pick 0 rfl (fun _ k => vec_of rfl (vec_cast hfl (vec_to (l := .at b6 o6) rfl k))) (fun h k => sat_pick 1 rfl (fun _ k => vec_of rfl (vec_to rfl k)) (fun h k => sat_nil k) k) k)⟩
end Go.Proofs.Ytiknkeakielncaa.Ag
