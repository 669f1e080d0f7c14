/- route: the reference's All. Conditions: none. -/
import Derived.Test.YtjppphldiaonkaaRtJ
namespace Go.Proofs.Ytjppphldiaonkaa.Rt
open Go Go.Proofs Sx
set_option maxRecDepth 100000
set_option linter.unusedVariables false
set_option linter.unusedSimpArgs false
set_option maxHeartbeats 4000000

/-- Put behind all that come ahead of it. -/
def ins (lt : R → R → Bool) (x : R) : List R → List R
  | [] => [x]
  | y :: t => if lt y x then y :: ins lt x t else x :: y :: t
def sortBy (lt : R → R → Bool) (l : List R) : List R := l.foldl (fun o x => ins lt x o) []
theorem ins_at (lt : R → R → Bool) (x : R) : ∀ (o : List R) (j : Nat), j ≤ o.length → (∀ (i : Nat) y, i < j → o[i]? = some y → lt y x = true) → (∀ y, o[j]? = some y → lt y x = false) → o.take j ++ [x] ++ o.drop j = ins lt x o
  | [], j, hj, h1, h2 => by
    have : j = 0 := by simpa using hj
    subst this; rfl
  | y :: t, 0, hj, h1, h2 => by
    have := h2 y rfl
    simp [ins, this]
  | y :: t, j + 1, hj, h1, h2 => by
    have h := h1 0 y (by omega) rfl
    have ih := ins_at lt x t j (by simpa using hj) (fun i z hi hz => h1 (i + 1) z (by omega) (by simpa using hz)) (fun z hz => h2 z (by simpa using hz))
    simp only [ins, h, if_true]
    simp only [List.take_succ_cons, List.drop_succ_cons, List.cons_append]
    rw [ih]
theorem ins_length (lt : R → R → Bool) (x : R) : ∀ o, (ins lt x o).length = o.length + 1
  | [] => rfl
  | y :: t => by
    unfold ins
    split
    · simp [ins_length lt x t]
    · rfl
theorem sortBy_snoc (lt : R → R → Bool) (l : List R) (x : R) : sortBy lt (l ++ [x]) = ins lt x (sortBy lt l) := by simp [sortBy]
theorem sortBy_length (lt : R → R → Bool) (l : List R) : (sortBy lt l).length = l.length := by
  have gen : ∀ (l o : List R), (l.foldl (fun o x => ins lt x o) o).length = o.length + l.length := by
    intro l
    induction l with
    | nil => intro o; rfl
    | cons a l ih => intro o; rw [List.foldl_cons, ih, ins_length, List.length_cons]; omega
  unfold sortBy
  rw [gen]; simp
def ahead (lt : R → R → Bool) (x : R) (o : List R) (j : Nat) : Bool := match o[j]? with
  | some y => lt y x
  | none => false
theorem rall_spec (A : Option Addr) (cp : Nat) (l : List R) (hl : l.length ≤ 100000) :
    Does Try.prog 18 #[.slice A l.length cp] (fun f => Reads f A (RL.flat l)) []
      (fun v p => ∃ (pl : Plc) (c : Nat), v = .slice (locAddr 0 pl) l.length c ∧ l.length ≤ c ∧ p = [Vec pl 26 5 c (RL.flat (sortBy rises l))]) := by
  refine Does.ofJ Try.func18 Try.call18 rfl [.raw (.slice A l.length cp)] [] 0 [] rfl rfl (fun h k => k) (fun f hR => ?_)
  refine LoopOb.mk { z : Nat × Plc × Nat // z.1 ≤ l.length ∧ z.1 ≤ z.2.2 ∧ (0 < z.1 → ∃ b o, z.2.1 = .at b o) } (fun z => ⟨37, [(0, .raw (.slice A l.length cp)), (3, .sl 0 0 z.1.1 z.1.2.2), (4, .int .i64 z.1.1)], [(0, z.1.2.1)], 1, [.vec 0 26 5 z.1.2.2 (RL.flat (sortBy rises (l.take z.1.1)))]⟩) (fun z => l.length - z.1.1)
    ⟨(0, .nil, 0), by omega, by omega, fun h => absurd h (by simp)⟩ ?_ ?_
  · exact Le.of rfl ⟨⟨_, rfl, rfl⟩, ⟨_, rfl, rfl⟩, ⟨_, rfl, rfl⟩, trivial⟩ (fun h k => sat_add (vec_of rfl vec_emp) ((fun h k => sat_nil k) h k))
  rintro ⟨⟨i, pl, c⟩, hi, hic, hpl⟩
  simp only at hi hic hpl
  refine CondOb.split (fun g => ?_) (fun g => ?_)
  rotate_left
  · have g := of_decide_eq_false g
    have e : i = l.length := by
      have : ¬ (i : Int) < l.length := g
      omega
    subst e
    refine FinOb.mk [.slice (locAddr 0 pl) l.length c] [Vec pl 26 5 c (RL.flat (sortBy rises l))] rfl (fun h k => sat_pick 0 rfl (fun _ k9 => ?_) (fun h k => sat_nil k) k) ⟨pl, c, rfl, hic, rfl⟩
    have kk := vec_to (l := pl) rfl k9
    simp only [List.take_length] at kk
    exact kk
  have g : i < l.length := by
    have g := of_decide_eq_true g
    have : (i : Int) < l.length := g
    omega
  have hx := List.getElem?_eq_getElem g
  generalize l[i] = x at hx
  obtain ⟨b, o, hA, hca⟩ := hR.lay (by decide) hx
  generalize ho : sortBy rises (l.take i) = out
  have hol : out.length = i := by rw [← ho, sortBy_length, List.length_take]; omega
  refine LoopOb.mk { j : Nat // j ≤ i ∧ ∀ (k : Nat) y, k < j → out[k]? = some y → rises y x = true } (fun j => ⟨37, [(0, .raw (.slice A l.length cp)), (3, .sl 0 0 i c), (4, .int .i64 i), (5, .int .i64 j.1)], [(0, pl)], 1, [.vec 0 26 5 c (RL.flat out)]⟩) (fun j => i - j.1)
    ⟨0, by omega, fun k y h => absurd h (by omega)⟩ ?_ ?_
  · exact Le.of rfl ⟨⟨_, rfl, rfl⟩, ⟨_, rfl, rfl⟩, ⟨_, rfl, rfl⟩, ⟨_, rfl, rfl⟩, trivial⟩ (fun h k => sat_pick 0 rfl (by first | exact fun _ k => k | exact fun _ k => blk_to rfl rfl k | exact fun _ k => vec_to rfl k | exact fun _ k => blk_of rfl rfl k | exact fun _ k => vec_of rfl k | exact fun _ k => blk_of rfl rfl (blk_to rfl rfl k) | exact fun _ k => vec_of rfl (vec_to rfl k) | exact fun _ k => mp_to rfl k | exact fun _ k => mp_of rfl k | exact fun _ k => mp_of rfl (mp_to rfl k)) (fun h k => sat_nil k) k)
  rintro ⟨j, hj, hall⟩

  refine RegOb.join Unit (fun _ => ⟨37, [(0, .raw (.slice A l.length cp)), (3, .sl 0 0 i c), (4, .int .i64 i), (5, .int .i64 j), (26, .bool (ahead rises x out j))], [(0, pl)], 1, [.vec 0 26 5 c (RL.flat out)]⟩) ?_ (fun _ => ?_)
  · refine DrawOb.mk [] (.run [0, 1, 2, 3, 4, 5, 6, 7, 8, 9, 10, 11, 12, 13, 14] .nil) (by kernel_rfl) ?_
    refine Br.mk (fun h1 => ?_) (fun h1 => ?_)
    rotate_left
    · have h1 : ¬ (j : Int) < i := of_decide_eq_false h1
      refine ⟨(), Le.of rfl ⟨⟨_, rfl, rfl⟩, ⟨_, rfl, rfl⟩, ⟨_, rfl, rfl⟩, ⟨_, rfl, rfl⟩, ⟨_, rfl, (congrArg (fun x => some (Value.bool x)) ?_)⟩, trivial⟩ (fun h k => sat_pick 0 rfl (by first | exact fun _ k => k | exact fun _ k => blk_to rfl rfl k | exact fun _ k => vec_to rfl k | exact fun _ k => blk_of rfl rfl k | exact fun _ k => vec_of rfl k | exact fun _ k => blk_of rfl rfl (blk_to rfl rfl k) | exact fun _ k => vec_of rfl (vec_to rfl k) | exact fun _ k => mp_to rfl k | exact fun _ k => mp_of rfl k | exact fun _ k => mp_of rfl (mp_to rfl k)) (fun h k => sat_nil k) k)⟩
      unfold ahead
      rw [List.getElem?_eq_none (by omega)]
    have h1 : (j : Int) < i := of_decide_eq_true h1
    have hjo : j < out.length := by omega
    have hy := List.getElem?_eq_getElem hjo
    generalize out[j] = y at hy
    have hn1 : 0 ≤ (j : Int) ∧ (j : Int) < i := by omega
    have hn2 : 0 ≤ (i : Int) ∧ (i : Int) < l.length := by omega
    obtain ⟨bp, op, rfl⟩ := hpl (by omega)
    have hget : ((RL.flat out).drop (0 + (j : Int).toNat * 5)).take 5 = y.vals := by rw [Nat.zero_add, Int.toNat_natCast]; exact RL.flat_get hy
    refine Need.mk hn1 ?_
    refine RdObL.mk y.svs (by decide) (by show 0 + (j : Int).toNat * 5 + 5 ≤ (RL.flat out).length; rw [lR]; omega) ((show _ = _ from rfl).trans (congrArg some hget.symm)) ?_
    refine Need.mk hn2 (RawAt.mk b o hA ?_)
    refine RdF.mk x.svs x.vals rfl rfl (fun q v hq => by rw [Int.toNat_natCast]; exact hca q v hq) ?_
    refine useP (.bool (rises y x)) (rises_spec y x) rfl rfl ?_
    refine ⟨(), Le.of rfl ⟨⟨_, rfl, rfl⟩, ⟨_, rfl, rfl⟩, ⟨_, rfl, rfl⟩, ⟨_, rfl, rfl⟩, ⟨_, rfl, (congrArg (fun x => some (Value.bool x)) ?_)⟩, trivial⟩ (fun h k => sat_pick 0 rfl (by first | exact fun _ k => k | exact fun _ k => blk_to rfl rfl k | exact fun _ k => vec_to rfl k | exact fun _ k => blk_of rfl rfl k | exact fun _ k => vec_of rfl k | exact fun _ k => blk_of rfl rfl (blk_to rfl rfl k) | exact fun _ k => vec_of rfl (vec_to rfl k) | exact fun _ k => mp_to rfl k | exact fun _ k => mp_of rfl k | exact fun _ k => mp_of rfl (mp_to rfl k)) (fun h k => sat_nil k) k)⟩
    unfold ahead
    rw [hy]
  refine CondOb.split (fun g2 => ?_) (fun g2 => ?_)
  · have hji : j < i := by
      rcases Nat.lt_or_ge j i with h | h
      · exact h
      · unfold ahead at g2; rw [List.getElem?_eq_none (by omega)] at g2; cases g2
    refine ⟨⟨j + 1, by omega, fun k y hk hy => ?_⟩, by show i - (j + 1) < i - j; omega, Le.of rfl ⟨⟨_, rfl, rfl⟩, ⟨_, rfl, rfl⟩, ⟨_, rfl, rfl⟩, ⟨_, rfl, congrArg (fun z => some (Value.int .i64 z)) (by show IntKind.i64.wrap ((j : Int) + 1) = ((j + 1 : Nat) : Int); rw [w64 (by omega) (by omega)]; omega)⟩, trivial⟩ (fun h k => sat_pick 0 rfl (by first | exact fun _ k => k | exact fun _ k => blk_to rfl rfl k | exact fun _ k => vec_to rfl k | exact fun _ k => blk_of rfl rfl k | exact fun _ k => vec_of rfl k | exact fun _ k => blk_of rfl rfl (blk_to rfl rfl k) | exact fun _ k => vec_of rfl (vec_to rfl k) | exact fun _ k => mp_to rfl k | exact fun _ k => mp_of rfl k | exact fun _ k => mp_of rfl (mp_to rfl k)) (fun h k => sat_nil k) k)⟩
    by_cases e : k = j
    · subst e
      unfold ahead at g2
      rw [hy] at g2
      exact g2
    · exact hall k y (by omega) hy
  have hn2 : 0 ≤ (i : Int) ∧ (i : Int) < l.length := by omega
  refine Need.mk hn2 (RawAt.mk b o hA ?_)
  refine RdF.mk x.svs x.vals rfl rfl (fun q v hq => by rw [Int.toNat_natCast]; exact hca q v hq) ?_
  have hput := put_spec (locAddr 0 pl) c out j x (by omega) (by omega) (by omega)
  rw [hol] at hput
  refine call_ix hput rfl [] (fun h k => k) (fun f' b' hs kk => vec_reads 0 hs kk rfl rfl) ?_
  rintro v post ⟨b9, o9, c9, rfl, hc9, rfl⟩
  refine ⟨.sl 1 0 (i + 1) c9, (1, .at b9 o9) :: _, 2, [.vec 1 26 5 c9 _], NmExt.push rfl, rfl, (fun h k => sat_pick 0 rfl (by first | exact fun _ k => k | exact fun _ k => blk_to rfl rfl k | exact fun _ k => vec_to rfl k | exact fun _ k => blk_of rfl rfl k | exact fun _ k => vec_of rfl k | exact fun _ k => blk_of rfl rfl (blk_to rfl rfl k) | exact fun _ k => vec_of rfl (vec_to rfl k) | exact fun _ k => mp_to rfl k | exact fun _ k => mp_of rfl k | exact fun _ k => mp_of rfl (mp_to rfl k)) (fun h k => sat_nil k) k), ?_⟩
  have hins := ins_at rises x out j (by omega) hall (fun y hy => by unfold ahead at g2; rw [hy] at g2; exact g2)
  have hso : sortBy rises (l.take (i + 1)) = ins rises x out := by rw [List.take_add_one, hx, ← ho]; exact sortBy_snoc rises _ x
  have ei : IntKind.i64.wrap ((i : Int) + 1) = ((i + 1 : Nat) : Int) := by rw [w64 (by omega) (by omega)]; omega
  rw [hins, ← hso]
  exact ⟨⟨(i + 1, .at b9 o9, c9), by show i + 1 ≤ l.length; omega, hc9, fun _ => ⟨_, _, rfl⟩⟩, by show l.length - (i + 1) < l.length - i; omega, Le.of rfl ⟨⟨_, rfl, rfl⟩, ⟨_, rfl, rfl⟩, ⟨_, rfl, congrArg (fun z => some (Value.int .i64 z)) ei⟩, trivial⟩ (fun h k => sat_pick 0 rfl (by first | exact fun _ k => k | exact fun _ k => blk_to rfl rfl k | exact fun _ k => vec_to rfl k | exact fun _ k => blk_of rfl rfl k | exact fun _ k => vec_of rfl k | exact fun _ k => blk_of rfl rfl (blk_to rfl rfl k) | exact fun _ k => vec_of rfl (vec_to rfl k) | exact fun _ k => mp_to rfl k | exact fun _ k => mp_of rfl k | exact fun _ k => mp_of rfl (mp_to rfl k)) (fun h k => sat_nil k) k)⟩
end Go.Proofs.Ytjppphldiaonkaa.Rt
