/- route: the reference's Ways. Conditions: none. -/
import Derived.Test.YtjppphldiaonkaaRtK
namespace Go.Proofs.Ytjppphldiaonkaa.Rt
open Go Go.Proofs Sx
set_option maxRecDepth 100000
set_option linter.unusedVariables false
set_option linter.unusedSimpArgs false
set_option maxHeartbeats 4000000

def leads (a : Int) (x : R) : Bool := netOf a x.bits == x.net
def waysOf (l : List R) (a : Int) : List R := sortBy narrow (l.filter (leads a))
theorem waysOf_step (l : List R) (a : Int) (i : Nat) (x : R) (hx : l[i]? = some x) : waysOf (l.take (i + 1)) a = if leads a x then ins narrow x (waysOf (l.take i) a) else waysOf (l.take i) a := by
  unfold waysOf
  rw [List.take_add_one, hx, List.filter_append]
  split
  · rename_i h
    simp only [Option.toList_some, List.filter_cons_of_pos h, List.filter_nil]
    exact sortBy_snoc narrow _ x
  · rename_i h
    simp [h]
theorem waysOf_length (l : List R) (a : Int) : (waysOf l a).length ≤ l.length := by
  unfold waysOf
  rw [sortBy_length]
  exact List.length_filter_le _ _
theorem rways_spec (A : Option Addr) (cp : Nat) (l : List R) (a : Int) (a0 : 0 ≤ a) (a1 : a ≤ 4294967295) (hb : ∀ x ∈ l, 0 ≤ x.bits ∧ x.bits ≤ 32) (hl : l.length ≤ 100000) :
    Does Try.prog 15 #[.slice A l.length cp, .int .u32 a] (fun f => Reads f A (RL.flat l)) []
      (fun v p => ∃ (pl : Plc) (c : Nat), v = .slice (locAddr 0 pl) (waysOf l a).length c ∧ (waysOf l a).length ≤ c ∧ p = [Vec pl 26 5 c (RL.flat (waysOf l a))]) := by
  refine Does.ofJ Try.func15 Try.call15 rfl [.raw (.slice A l.length cp), .int .u32 a] [] 0 [] rfl rfl (fun h k => k) (fun f hR => ?_)
  refine LoopOb.mk { z : Nat × Plc × Nat // z.1 ≤ l.length ∧ (waysOf (l.take z.1) a).length ≤ z.2.2 ∧ (0 < (waysOf (l.take z.1) a).length → ∃ b o, z.2.1 = .at b o) } (fun z => ⟨52, [(0, .raw (.slice A l.length cp)), (1, .int .u32 a), (5, .sl 0 0 (waysOf (l.take z.1.1) a).length z.1.2.2), (6, .int .i64 z.1.1)], [(0, z.1.2.1)], 1, [.vec 0 26 5 z.1.2.2 (RL.flat (waysOf (l.take z.1.1) a))]⟩) (fun z => l.length - z.1.1)
    ⟨(0, .nil, 0), by omega, by simp [waysOf, sortBy], fun h => absurd h (by simp [waysOf, sortBy])⟩ ?_ ?_
  · exact Le.of rfl ⟨⟨_, rfl, rfl⟩, ⟨_, rfl, rfl⟩, ⟨_, rfl, rfl⟩, ⟨_, rfl, rfl⟩, trivial⟩ (fun h k => sat_add (vec_of rfl vec_emp) ((fun h k => sat_nil k) h k))
  rintro ⟨⟨i, pl, c⟩, hi, hic, hpl⟩
  simp only at hi hic hpl
  refine CondOb.split (fun g => ?_) (fun g => ?_)
  rotate_left
  · have g := of_decide_eq_false g
    have e : i = l.length := by
      have : ¬ (i : Int) < l.length := g
      omega
    subst e
    rw [List.take_length] at hic
    refine FinOb.mk [.slice (locAddr 0 pl) (waysOf l a).length c] [Vec pl 26 5 c (RL.flat (waysOf l a))] (by simp only [List.take_length]; rfl) (fun h k => sat_pick 0 rfl (fun _ k9 => ?_) (fun h k => sat_nil k) k) ⟨pl, c, rfl, hic, rfl⟩
    have kk := vec_to (l := pl) rfl k9
    simp only [List.take_length] at kk
    exact kk
  have g : i < l.length := by
    have g := of_decide_eq_true g
    have : (i : Int) < l.length := g
    omega
  have hx := List.getElem?_eq_getElem g
  generalize l[i] = x at hx
  obtain ⟨b, o, hA, hca⟩ := hR.lay (by decide) hx
  have hbx := hb x (List.mem_of_getElem? hx)
  have hn2 : 0 ≤ (i : Int) ∧ (i : Int) < l.length := by omega
  have hca' : ∀ (q : Nat) v, (RL.cells x)[q]? = some v → fcell f b (o + (i : Int).toNat * 5 + q) = some v := by rw [Int.toNat_natCast]; exact hca
  have hstep := waysOf_step l a i x hx
  have hwl := waysOf_length (l.take i) a
  have hti : (l.take i).length = i := by rw [List.length_take]; omega
  have ei : IntKind.i64.wrap ((i : Int) + 1) = ((i + 1 : Nat) : Int) := by rw [w64 (by omega) (by omega)]; omega
  refine DrawOb.mk [(6, [7, 8, 9, 10, 11])] (.run [0, 1, 2, 3, 4, 5, 7, 8, 9, 10, 11, 6, 12] .nil) (by kernel_rfl) ?_
  refine Need.mk hn2 (RawAt.mk b o hA ?_)
  refine RdRaw.mk (.int .i64 x.bits) _ rfl (hca' 1 _ rfl) ?_
  refine Need.mk hn2 (RawAt.mk b o hA ?_)
  refine RdRaw.mk (.int .u32 x.net) _ rfl (hca' 0 _ rfl) ?_
  refine useP (.int .u32 (netOf a x.bits)) (rnet_spec a x.bits a0 a1 hbx.1 hbx.2) rfl rfl ?_
  refine RdRaw.mk (.int .u32 x.net) _ rfl (hca' 0 _ rfl) (Need.mk rfl ?_)
  refine CondOb.split (fun gn => ?_) (fun gn => ?_)
  · have hld : leads a x = false := by
      unfold leads
      simpa using gn
    rw [if_neg (by rw [hld]; decide)] at hstep
    refine ⟨⟨(i + 1, pl, c), by show i + 1 ≤ l.length; omega, by show (waysOf (l.take (i + 1)) a).length ≤ c; rw [hstep]; exact hic, by show 0 < (waysOf (l.take (i + 1)) a).length → _; rw [hstep]; exact hpl⟩, by show l.length - (i + 1) < l.length - i; omega, Le.of rfl ⟨⟨_, rfl, rfl⟩, ⟨_, rfl, rfl⟩, ⟨_, rfl, (congrArg (fun q : List R => some (Value.slice (locAddr 0 pl) q.length c)) hstep.symm)⟩, ⟨_, rfl, congrArg (fun z => some (Value.int .i64 z)) ei⟩, trivial⟩ (fun h k => sat_pick 0 rfl (fun _ k9 => ?_) (fun h k => sat_nil k) k)⟩
    have kk : Vec pl 26 5 c (RL.flat (waysOf (l.take i) a)) _ := vec_to (l := pl) rfl k9
    rw [← hstep] at kk
    exact vec_of rfl kk
  have hld : leads a x = true := by
    unfold leads
    simpa using gn
  rw [if_pos hld] at hstep
  obtain ⟨out, ho⟩ : ∃ out, waysOf (l.take i) a = out := ⟨_, rfl⟩
  rw [ho] at hic hpl hstep hwl
  refine LoopOb.mk { j : Nat // j ≤ out.length ∧ ∀ (k : Nat) y, k < j → out[k]? = some y → narrow y x = true } (fun j => ⟨52, [(0, .raw (.slice A l.length cp)), (1, .int .u32 a), (5, .sl 0 0 out.length c), (6, .int .i64 i), (7, .int .i64 j.1)], [(0, pl)], 1, [.vec 0 26 5 c (RL.flat out)]⟩) (fun j => out.length - j.1)
    ⟨0, by omega, fun k y h => absurd h (by omega)⟩ ?_ ?_
  · exact Le.of rfl ⟨⟨_, rfl, rfl⟩, ⟨_, rfl, rfl⟩, ⟨_, rfl, (congrArg (fun q : List R => some (Value.slice (locAddr 0 pl) q.length c)) ho)⟩, ⟨_, rfl, rfl⟩, ⟨_, rfl, rfl⟩, trivial⟩ (fun h k => sat_pick 0 rfl (fun _ k9 => by
      have kk : Vec pl 26 5 c (RL.flat (waysOf (l.take i) a)) _ := vec_to (l := pl) rfl k9
      rw [ho] at kk
      exact vec_of rfl kk) (fun h k => sat_nil k) k)
  rintro ⟨j, hj, hall⟩

  refine RegOb.join Unit (fun _ => ⟨52, [(0, .raw (.slice A l.length cp)), (1, .int .u32 a), (5, .sl 0 0 out.length c), (6, .int .i64 i), (7, .int .i64 j), (41, .bool (ahead narrow x out j))], [(0, pl)], 1, [.vec 0 26 5 c (RL.flat out)]⟩) ?_ (fun _ => ?_)
  · refine DrawOb.mk [] (.run [0, 1, 2, 3, 4, 5, 6, 7, 8, 9, 10, 11, 12, 13, 14] .nil) (by kernel_rfl) ?_
    refine Br.mk (fun h1 => ?_) (fun h1 => ?_)
    rotate_left
    · have h1 : ¬ (j : Int) < out.length := of_decide_eq_false h1
      refine ⟨(), Le.of rfl ⟨⟨_, rfl, rfl⟩, ⟨_, rfl, rfl⟩, ⟨_, rfl, rfl⟩, ⟨_, rfl, rfl⟩, ⟨_, rfl, rfl⟩, ⟨_, rfl, (congrArg (fun x => some (Value.bool x)) ?_)⟩, trivial⟩ (fun h k => sat_pick 0 rfl (by first | exact fun _ k => k | exact fun _ k => blk_to rfl rfl k | exact fun _ k => vec_to rfl k | exact fun _ k => blk_of rfl rfl k | exact fun _ k => vec_of rfl k | exact fun _ k => blk_of rfl rfl (blk_to rfl rfl k) | exact fun _ k => vec_of rfl (vec_to rfl k) | exact fun _ k => mp_to rfl k | exact fun _ k => mp_of rfl k | exact fun _ k => mp_of rfl (mp_to rfl k)) (fun h k => sat_nil k) k)⟩
      unfold ahead
      rw [List.getElem?_eq_none (by omega)]
    have h1 : (j : Int) < out.length := of_decide_eq_true h1
    have hjo : j < out.length := by omega
    have hy := List.getElem?_eq_getElem hjo
    generalize out[j] = y at hy
    have hn1 : 0 ≤ (j : Int) ∧ (j : Int) < out.length := by omega
    obtain ⟨bp, op, rfl⟩ := hpl (by omega)
    have hget : ((RL.flat out).drop (0 + (j : Int).toNat * 5)).take 5 = y.vals := by rw [Nat.zero_add, Int.toNat_natCast]; exact RL.flat_get hy
    refine Need.mk hn1 ?_
    refine RdObL.mk y.svs (by decide) (by show 0 + (j : Int).toNat * 5 + 5 ≤ (RL.flat out).length; rw [lR]; omega) ((show _ = _ from rfl).trans (congrArg some hget.symm)) ?_
    refine Need.mk hn2 (RawAt.mk b o hA ?_)
    refine RdF.mk x.svs x.vals rfl rfl (fun q v hq => by rw [Int.toNat_natCast]; exact hca q v hq) ?_
    refine useP (.bool (narrow y x)) (narrow_spec y x) rfl rfl ?_
    refine ⟨(), Le.of rfl ⟨⟨_, rfl, rfl⟩, ⟨_, rfl, rfl⟩, ⟨_, rfl, rfl⟩, ⟨_, rfl, rfl⟩, ⟨_, rfl, rfl⟩, ⟨_, rfl, (congrArg (fun x => some (Value.bool x)) ?_)⟩, trivial⟩ (fun h k => sat_pick 0 rfl (by first | exact fun _ k => k | exact fun _ k => blk_to rfl rfl k | exact fun _ k => vec_to rfl k | exact fun _ k => blk_of rfl rfl k | exact fun _ k => vec_of rfl k | exact fun _ k => blk_of rfl rfl (blk_to rfl rfl k) | exact fun _ k => vec_of rfl (vec_to rfl k) | exact fun _ k => mp_to rfl k | exact fun _ k => mp_of rfl k | exact fun _ k => mp_of rfl (mp_to rfl k)) (fun h k => sat_nil k) k)⟩
    unfold ahead
    rw [hy]
  refine CondOb.split (fun g2 => ?_) (fun g2 => ?_)
  · have hji : j < out.length := by
      rcases Nat.lt_or_ge j out.length with h | h
      · exact h
      · unfold ahead at g2; rw [List.getElem?_eq_none (by omega)] at g2; cases g2
    refine ⟨⟨j + 1, by omega, fun k y hk hy => ?_⟩, by show out.length - (j + 1) < out.length - j; omega, Le.of rfl ⟨⟨_, rfl, rfl⟩, ⟨_, rfl, rfl⟩, ⟨_, rfl, rfl⟩, ⟨_, rfl, rfl⟩, ⟨_, rfl, congrArg (fun z => some (Value.int .i64 z)) (by show IntKind.i64.wrap ((j : Int) + 1) = ((j + 1 : Nat) : Int); rw [w64 (by omega) (by omega)]; omega)⟩, trivial⟩ (fun h k => sat_pick 0 rfl (by first | exact fun _ k => k | exact fun _ k => blk_to rfl rfl k | exact fun _ k => vec_to rfl k | exact fun _ k => blk_of rfl rfl k | exact fun _ k => vec_of rfl k | exact fun _ k => blk_of rfl rfl (blk_to rfl rfl k) | exact fun _ k => vec_of rfl (vec_to rfl k) | exact fun _ k => mp_to rfl k | exact fun _ k => mp_of rfl k | exact fun _ k => mp_of rfl (mp_to rfl k)) (fun h k => sat_nil k) k)⟩
    by_cases e : k = j
    · subst e
      unfold ahead at g2
      rw [hy] at g2
      exact g2
    · exact hall k y (by omega) hy
  refine Need.mk hn2 (RawAt.mk b o hA ?_)
  refine RdF.mk x.svs x.vals rfl rfl (fun q v hq => by rw [Int.toNat_natCast]; exact hca q v hq) ?_
  have hput := put_spec (locAddr 0 pl) c out j x (by omega) (by omega) (by omega)
  refine call_ix hput rfl [] (fun h k => k) (fun f' b' hs kk => vec_reads 0 hs kk rfl rfl) ?_
  rintro v post ⟨b9, o9, c9, rfl, hc9, rfl⟩
  refine ⟨.sl 1 0 (out.length + 1) c9, (1, .at b9 o9) :: _, 2, [.vec 1 26 5 c9 _], NmExt.push rfl, rfl, (fun h k => sat_pick 0 rfl (by first | exact fun _ k => k | exact fun _ k => blk_to rfl rfl k | exact fun _ k => vec_to rfl k | exact fun _ k => blk_of rfl rfl k | exact fun _ k => vec_of rfl k | exact fun _ k => blk_of rfl rfl (blk_to rfl rfl k) | exact fun _ k => vec_of rfl (vec_to rfl k) | exact fun _ k => mp_to rfl k | exact fun _ k => mp_of rfl k | exact fun _ k => mp_of rfl (mp_to rfl k)) (fun h k => sat_nil k) k), ?_⟩
  have hins := ins_at narrow x out j (by omega) hall (fun y hy => by unfold ahead at g2; rw [hy] at g2; exact g2)
  have hnl : (waysOf (l.take (i + 1)) a).length = out.length + 1 := by rw [hstep, ins_length]
  rw [hins, ← hstep]
  exact ⟨⟨(i + 1, .at b9 o9, c9), by show i + 1 ≤ l.length; omega, by show (waysOf (l.take (i + 1)) a).length ≤ c9; rw [hnl]; exact hc9, fun _ => ⟨_, _, rfl⟩⟩, by show l.length - (i + 1) < l.length - i; omega, Le.of rfl ⟨⟨_, rfl, rfl⟩, ⟨_, rfl, rfl⟩, ⟨_, rfl, (congrArg (fun q : Nat => some (Value.slice (some ⟨b9, o9, none⟩) q c9)) hnl.symm)⟩, ⟨_, rfl, congrArg (fun z => some (Value.int .i64 z)) ei⟩, trivial⟩ (fun h k => sat_pick 0 rfl (by first | exact fun _ k => k | exact fun _ k => blk_to rfl rfl k | exact fun _ k => vec_to rfl k | exact fun _ k => blk_of rfl rfl k | exact fun _ k => vec_of rfl k | exact fun _ k => blk_of rfl rfl (blk_to rfl rfl k) | exact fun _ k => vec_of rfl (vec_to rfl k) | exact fun _ k => mp_to rfl k | exact fun _ k => mp_of rfl k | exact fun _ k => mp_of rfl (mp_to rfl k)) (fun h k => sat_nil k) k)⟩
end Go.Proofs.Ytjppphldiaonkaa.Rt
