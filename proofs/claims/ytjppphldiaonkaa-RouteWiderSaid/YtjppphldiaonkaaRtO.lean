/- route: Concat. Conditions: none. -/
import Derived.Test.YtjppphldiaonkaaRtM
namespace Go.Proofs.Ytjppphldiaonkaa.Rt
open Go Go.Proofs Sx
set_option maxRecDepth 100000
set_option linter.unusedVariables false
set_option linter.unusedSimpArgs false
set_option maxHeartbeats 4000000

/-- A slice of ways, as it lies in a slice of slices. -/
structure SS where
  A : Option Addr
  l : List R
  c : Nat
def SS.vals (s : SS) : List Value := [.slice s.A s.l.length s.c]
def SSL : Lay SS where
  cells := SS.vals
  sz := 1
  len _ := rfl
  one e v hv := by
    simp only [SS.vals, List.mem_cons, List.not_mem_nil, or_false] at hv
    subst hv; rfl
def tot (l : List SS) : Nat := (l.map fun s => s.l.length).sum
def cat (l : List SS) : List R := l.flatMap SS.l
theorem cat_length (l : List SS) : (cat l).length = tot l := by simp [cat, tot, List.length_flatMap]
theorem tot_snoc (l : List SS) (x : SS) : tot (l ++ [x]) = tot l + x.l.length := by simp [tot]
theorem cat_snoc (l : List SS) (x : SS) : cat (l ++ [x]) = cat l ++ x.l := by simp [cat]
theorem tot_take (l : List SS) (i : Nat) : tot (l.take i) ≤ tot l := by
  have : tot l = tot (l.take i) + tot (l.drop i) := by
    simp only [tot, ← List.sum_append, ← List.map_append, List.take_append_drop]
  omega
theorem concat_spec (A : Option Addr) (cp : Nat) (ls : List SS) (hl : tot ls ≤ 1000000) (hn : ls.length ≤ 1000) :
    Does Try.prog 53 #[.slice A ls.length cp] (fun f => Reads f A (SSL.flat ls) ∧ ∀ s ∈ ls, Reads f s.A (RL.flat s.l)) []
      (fun v p => ∃ (pl : Plc) (c : Nat), v = .slice (locAddr 0 pl) (tot ls) c ∧ tot ls ≤ c ∧ (0 < tot ls → ∃ b o, pl = .at b o) ∧ p = [Vec pl 26 5 c (RL.flat (cat ls))]) := by
  refine Does.ofJ Try.func53 Try.call53 rfl [.raw (.slice A ls.length cp)] [] 0 [] rfl rfl (fun h k => k) (fun f hR => ?_)
  refine LoopOb.mk { k : Nat // k ≤ ls.length } (fun z => ⟨36, [(0, .raw (.slice A ls.length cp)), (9, .raw (.slice A ls.length cp)), (10, .int .i64 ls.length), (3, .int .i64 (tot (ls.take z.1))), (11, .int .i64 z.1)], [], 0, []⟩) (fun z => ls.length - z.1) ⟨0, by omega⟩ ?_ ?_
  · exact Le.of rfl ⟨⟨_, rfl, rfl⟩, ⟨_, rfl, rfl⟩, ⟨_, rfl, rfl⟩, ⟨_, rfl, rfl⟩, ⟨_, rfl, rfl⟩, trivial⟩ (fun h k => k)
  rintro ⟨k, hk⟩
  refine CondOb.split (fun g => ?_) (fun g => ?_)
  · have g : k < ls.length := by
      have g := of_decide_eq_true g
      have : (k : Int) < ls.length := g
      omega
    have hx := List.getElem?_eq_getElem g
    generalize ls[k] = x at hx
    obtain ⟨b, o, hA, hca⟩ := hR.1.lay (by decide) hx
    have hn2 : 0 ≤ (k : Int) ∧ (k : Int) < ls.length := by omega
    refine Need.mk hn2 (RawAt.mk b o hA ?_)
    refine RdRaw.mk (.raw (.slice x.A x.l.length x.c)) _ rfl (by rw [Int.toNat_natCast]; exact hca 0 _ rfl) ?_
    have hts : tot (ls.take (k + 1)) = tot (ls.take k) + x.l.length := by rw [List.take_add_one, hx]; exact tot_snoc _ x
    have htl := tot_take ls (k + 1)
    have et : IntKind.i64.wrap ((tot (ls.take k) : Int) + (x.l.length : Nat)) = ((tot (ls.take (k + 1)) : Nat) : Int) := by rw [w64 (by omega) (by omega), hts]; omega
    have ei : IntKind.i64.wrap ((k : Int) + 1) = ((k + 1 : Nat) : Int) := by rw [w64 (by omega) (by omega)]; omega
    refine CondOb.split (fun gh => ?_) (fun _ => ?_)
    · have gh := of_decide_eq_true gh
      replace gh : IntKind.i64.wrap ((tot (ls.take k) : Int) + (x.l.length : Nat)) < 0 := gh
      rw [et] at gh
      omega
    exact ⟨⟨k + 1, by omega⟩, by show ls.length - (k + 1) < ls.length - k; omega, Le.of rfl ⟨⟨_, rfl, rfl⟩, ⟨_, rfl, rfl⟩, ⟨_, rfl, rfl⟩, ⟨_, rfl, congrArg (fun z => some (Value.int .i64 z)) et⟩, ⟨_, rfl, congrArg (fun z => some (Value.int .i64 z)) ei⟩, trivial⟩ (fun h k => k)⟩
  have ek : k = ls.length := by
    have g := of_decide_eq_false g
    have : ¬ (k : Int) < ls.length := g
    omega
  subst ek
  refine call_ix (grow_spec (tot (ls.take ls.length)) (by rw [List.take_length]; omega)) rfl [] (fun h k => k) (fun f' b' hs _ => trivial) ?_
  rintro v post ⟨pl, c, rfl, hc, hpl, rfl⟩
  rw [List.take_length] at hc hpl
  refine ⟨.sl 0 0 0 c, [(0, pl)], 1, [.vec 0 26 5 c []], NmExt.push rfl, rfl, (fun h k => sat_pick 0 rfl (by first | exact fun _ k => k | exact fun _ k => blk_to rfl rfl k | exact fun _ k => vec_to rfl k | exact fun _ k => blk_of rfl rfl k | exact fun _ k => vec_of rfl k | exact fun _ k => blk_of rfl rfl (blk_to rfl rfl k) | exact fun _ k => vec_of rfl (vec_to rfl k) | exact fun _ k => mp_to rfl k | exact fun _ k => mp_of rfl k | exact fun _ k => mp_of rfl (mp_to rfl k)) (fun h k => sat_nil k) k), ?_⟩
  refine LoopOb.mk { z : Nat × Plc × Nat // z.1 ≤ ls.length ∧ tot (ls.take z.1) ≤ z.2.2 ∧ (0 < tot (ls.take z.1) → ∃ b o, z.2.1 = .at b o) } (fun z => ⟨36, [(0, .raw (.slice A ls.length cp)), (25, .raw (.slice A ls.length cp)), (26, .int .i64 ls.length), (6, .sl 0 0 (tot (ls.take z.1.1)) z.1.2.2), (27, .int .i64 z.1.1)], [(0, z.1.2.1)], 1, [.vec 0 26 5 z.1.2.2 (RL.flat (cat (ls.take z.1.1)))]⟩) (fun z => ls.length - z.1.1)
    ⟨(0, pl, c), by omega, by show tot [] ≤ c; exact Nat.zero_le _, fun h => absurd h (by show ¬ 0 < tot []; decide)⟩ ?_ ?_
  · exact Le.of rfl ⟨⟨_, rfl, rfl⟩, ⟨_, rfl, rfl⟩, ⟨_, rfl, rfl⟩, ⟨_, rfl, rfl⟩, ⟨_, rfl, rfl⟩, trivial⟩ (fun h k => sat_pick 0 rfl (by first | exact fun _ k => k | exact fun _ k => blk_to rfl rfl k | exact fun _ k => vec_to rfl k | exact fun _ k => blk_of rfl rfl k | exact fun _ k => vec_of rfl k | exact fun _ k => blk_of rfl rfl (blk_to rfl rfl k) | exact fun _ k => vec_of rfl (vec_to rfl k) | exact fun _ k => mp_to rfl k | exact fun _ k => mp_of rfl k | exact fun _ k => mp_of rfl (mp_to rfl k)) (fun h k => sat_nil k) k)
  rintro ⟨⟨i, pl, c⟩, hi, hic, hpl⟩
  simp only at hi hic hpl
  refine CondOb.split (fun g => ?_) (fun g => ?_)
  rotate_left
  · have e : i = ls.length := by
      have g := of_decide_eq_false g
      have : ¬ (i : Int) < ls.length := g
      omega
    subst e
    rw [List.take_length] at hic hpl
    refine FinOb.mk [.slice (locAddr 0 pl) (tot ls) c] [Vec pl 26 5 c (RL.flat (cat ls))] (by simp only [List.take_length]; rfl) (fun h k => sat_pick 0 rfl (fun _ k9 => ?_) (fun h k => sat_nil k) k) ⟨pl, c, rfl, hic, hpl, rfl⟩
    have kk := vec_to (l := pl) rfl k9
    simp only [List.take_length] at kk
    exact kk
  have g : i < ls.length := by
    have g := of_decide_eq_true g
    have : (i : Int) < ls.length := g
    omega
  have hx := List.getElem?_eq_getElem g
  generalize ls[i] = x at hx
  obtain ⟨b, o, hA, hca⟩ := hR.1.lay (by decide) hx
  have hrx := hR.2 x (List.mem_of_getElem? hx)
  have hn2 : 0 ≤ (i : Int) ∧ (i : Int) < ls.length := by omega
  have hts : tot (ls.take (i + 1)) = tot (ls.take i) + x.l.length := by rw [List.take_add_one, hx]; exact tot_snoc _ x
  have hcs : cat (ls.take (i + 1)) = cat (ls.take i) ++ x.l := by rw [List.take_add_one, hx]; exact cat_snoc _ x
  have htl := tot_take ls (i + 1)
  have ei : IntKind.i64.wrap ((i : Int) + 1) = ((i + 1 : Nat) : Int) := by rw [w64 (by omega) (by omega)]; omega
  have hF : (RL.flat (cat (ls.take i))).length = tot (ls.take i) * 5 := by rw [lR, cat_length]
  have n1 : 0 + tot (ls.take i) * 5 ≤ (RL.flat (cat (ls.take i))).length := by rw [hF]; omega
  have n2 : 0 + c * 5 ≤ c * 5 := by omega
  have n3 : (tot (ls.take i) + x.l.length) * 40 ≤ 140737488355328 := by omega
  have n4 : tot (ls.take i) + x.l.length ≤ maxLen := by simp only [maxLen]; omega
  have hfl : List.take (tot (ls.take i) * 5) (List.drop 0 (RL.flat (cat (ls.take i)))) ++ RL.flat x.l = RL.flat (cat (ls.take (i + 1))) := by
    rw [List.drop_zero, List.take_of_length_le (by rw [hF]; exact Nat.le_refl _), hcs, RL.flat_append]
  refine Need.mk hn2 (RawAt.mk b o hA ?_)
  refine RdRaw.mk (.raw (.slice x.A x.l.length x.c)) _ rfl (by rw [Int.toNat_natCast]; exact hca 0 _ rfl) ?_
  refine SrcF.mk (RL.flat x.l) (lR _) hrx ?_
  refine Need.mk ⟨n1, n2, hic⟩ ?_
  refine Need.mk ⟨n3, n4, RL.flat_one' _⟩ ?_
  by_cases hp : 0 < tot (ls.take i) + x.l.length
  · refine NewSl.pos hp (fun b6 o6 c6 hc6 => ?_)
    refine ⟨⟨(i + 1, .at b6 o6, c6), by show i + 1 ≤ ls.length; omega, by show tot (ls.take (i + 1)) ≤ c6; rw [hts]; exact hc6, fun _ => ⟨_, _, rfl⟩⟩, by show ls.length - (i + 1) < ls.length - i; omega, Le.of rfl ⟨⟨_, rfl, rfl⟩, ⟨_, rfl, rfl⟩, ⟨_, rfl, rfl⟩, ⟨_, rfl, (congrArg (fun q : Nat => some (Value.slice (some ⟨b6, o6, none⟩) q c6)) hts.symm)⟩, ⟨_, rfl, congrArg (fun z => some (Value.int .i64 z)) ei⟩, trivial⟩ (fun h k => sat_pick 0 rfl (fun _ k9 => ?_) (fun h k => sat_nil k) k)⟩
    have kk := vec_to (l := .at b6 o6) rfl k9
    rw [hfl] at kk
    exact vec_of rfl kk
  · refine NewSl.any (fun l6 c6 hc6 => ?_)
    refine ⟨⟨(i + 1, l6, c6), by show i + 1 ≤ ls.length; omega, by show tot (ls.take (i + 1)) ≤ c6; rw [hts]; exact hc6, fun h => absurd h (by show ¬ 0 < tot (ls.take (i + 1)); rw [hts]; exact hp)⟩, by show ls.length - (i + 1) < ls.length - i; omega, Le.of rfl ⟨⟨_, rfl, rfl⟩, ⟨_, rfl, rfl⟩, ⟨_, rfl, rfl⟩, ⟨_, rfl, (congrArg (fun q : Nat => some (Value.slice (locAddr 0 l6) q c6)) hts.symm)⟩, ⟨_, rfl, congrArg (fun z => some (Value.int .i64 z)) ei⟩, trivial⟩ (fun h k => sat_pick 0 rfl (fun _ k9 => ?_) (fun h k => sat_nil k) k)⟩
    have kk := vec_to (l := l6) rfl k9
    rw [hfl] at kk
    exact vec_of rfl kk
end Go.Proofs.Ytjppphldiaonkaa.Rt
