/- route: RouteBack, walked. Conditions: none. -/
import Derived.Test.YtjppphldiaonkaaRuD
namespace Go.Proofs.Ytjppphldiaonkaa.Rt
open Go Go.Proofs Sx
set_option maxRecDepth 100000
set_option linter.unusedVariables false
set_option linter.unusedSimpArgs false
set_option maxHeartbeats 4000000

/-- Added and removed. -/
theorem back_law {T T' T'' : List Nd} {l : List R} {n n' n'' : Nat} {x : R} {e f : Int} (h : RT T l n) (hno : ∀ y ∈ l, key x y = false) (ht : TAdd T n x e T' n') (hd : TDel T' n' x.net x.bits x.cost f T'' n'') : (e == 0) = (f == 0) ∧ RT T'' l n'' := by
  have hnoT : ∀ y, WM T y → key x y = false := fun y hy => hno y ((h.mem y).2 hy)
  have same : T' = T → n' = n → f = 6 ∧ RT T'' l n'' := fun e1 e2 => by
    subst e1; subst e2
    cases hd with
    | none => exact ⟨rfl, h⟩
    | del _ y hy hk =>
      have := hnoT y hy
      have hk : key x y = true := hk
      rw [this] at hk; cases hk
  cases ht with
  | bad =>
    obtain ⟨rfl, h2⟩ := same rfl rfl
    exact ⟨rfl, h2⟩
  | full =>
    obtain ⟨rfl, h2⟩ := same rfl rfl
    exact ⟨rfl, h2⟩
  | set _ _ y hy hk =>
    rw [hnoT y hy] at hk; cases hk
  | new _ ok hn hl hm =>
    cases hd with
    | none hno2 =>
      have := hno2 x ((hm x).2 (.inr rfl))
      have h2 : key x x = true := key_iff.2 ⟨rfl, rfl, rfl⟩
      have this : key x x = false := this
      rw [this] at h2; cases h2
    | del _ y hy hk h0 hm2 =>
      refine ⟨rfl, fun w => ?_, h.nd, by rw [h.len]; omega⟩
      rw [hm2, hm, h.mem]
      constructor
      · intro hw
        exact ⟨.inl hw, hnoT w hw⟩
      · rintro ⟨hw | rfl, hk2⟩
        · exact hw
        · have h2 : key w w = true := key_iff.2 ⟨rfl, rfl, rfl⟩
          have hk2 : key w w = false := hk2
          rw [hk2] at h2; cases h2
theorem vecR_at {pl : Plc} {c : Nat} {l : List R} {As : List Asn} {h : HP} (k : sat (Vec pl 26 5 c (RL.flat l) :: As) h) (hne : l ≠ []) : ∃ b o, pl = .at b o := by
  obtain ⟨x, _, _, hx, _⟩ := k
  refine vec_at (fun e => hne ?_) hx
  have := congrArg List.length e
  rw [lR] at this
  exact List.length_eq_zero_iff.1 (by have h5 : l.length * 5 = 0 := this; omega)
theorem back_spec (B : Option Addr) (cp : Nat) (acts : List A) (hok : ∀ a ∈ acts, a.r.Ok) (x : R) (ok : x.Ok) :
    Does Try.prog 5 #[.slice B acts.length cp, .agg x.vals.toArray] (fun f => Reads f B (AL.flat acts)) [] (fun v p => v = .bool true ∧ p = []) := by
  refine Does.ofJ Try.func5 Try.call5 rfl [.raw (.slice B acts.length cp), .agg x.svs] [] 0 [] rfl rfl (fun h k => k) (fun f hR => ?_)
  intro b3
  refine CondOb.split (fun g => ?_) (fun g => ?_)
  · refine useP .tt live_spec rfl rfl ?_
    exact FinOb.mk [.bool true] [] rfl (fun h k => trivial) ⟨rfl, rfl⟩
  have g : acts.length ≤ 150 := by
    have g := of_decide_eq_false g
    have : ¬ (150 : Int) < acts.length := g
    omega
  refine call_ix ((played_spec B cp acts hok (by omega)).sure (Q' := fun v p => ∃ (tb n : Nat) (T : List Nd) (l : List R) (pl : Plc) (c : Nat), v = .tuple #[.pointer (some ⟨tb, 0, none⟩), .slice (locAddr 0 pl) l.length c, .bool true] ∧ TJ tb n T ∧ RT T l n ∧ l.length ≤ c ∧ (l ≠ [] → ∃ b o, pl = .at b o) ∧ p = [Bs n T, Vs T, Vec pl 26 5 c (RL.flat l)]) (by
    rintro v p h ⟨tb, n, T, l, pl, c, rfl, hj, hr, hlc, rfl⟩ hs
    exact ⟨tb, n, T, l, pl, c, rfl, hj, hr, hlc, vecR_at (As := []) ((fun h k => sat_pick 2 rfl (by first | exact fun _ k => k | exact fun _ k => blk_to rfl rfl k | exact fun _ k => vec_to rfl k | exact fun _ k => blk_of rfl rfl k | exact fun _ k => vec_of rfl k | exact fun _ k => blk_of rfl rfl (blk_to rfl rfl k) | exact fun _ k => vec_of rfl (vec_to rfl k) | exact fun _ k => mp_to rfl k | exact fun _ k => mp_of rfl k | exact fun _ k => mp_of rfl (mp_to rfl k)) (fun h k => sat_nil k) k) h hs), rfl⟩)) rfl [] (fun h k => k) (fun f' b' hs kb => hR.frame hs) ?_
  rintro v post ⟨tb, n, T, l, pl, c, rfl, hj, hr, hlc, hpl, rfl⟩
  refine ⟨.tuple [.raw (.pointer (some ⟨tb, 0, none⟩)), .sl 1 0 l.length c, .tt], (1, pl) :: _, 2, [.asn (Bs n T), .asn (Vs T), .vec 1 26 5 c (RL.flat l)], NmExt.push rfl, rfl, (fun h k => sat_pick 0 rfl (by first | exact fun _ k => k | exact fun _ k => blk_to rfl rfl k | exact fun _ k => vec_to rfl k | exact fun _ k => blk_of rfl rfl k | exact fun _ k => vec_of rfl k | exact fun _ k => blk_of rfl rfl (blk_to rfl rfl k) | exact fun _ k => vec_of rfl (vec_to rfl k) | exact fun _ k => mp_to rfl k | exact fun _ k => mp_of rfl k | exact fun _ k => mp_of rfl (mp_to rfl k)) (fun h k => sat_pick 0 rfl (by first | exact fun _ k => k | exact fun _ k => blk_to rfl rfl k | exact fun _ k => vec_to rfl k | exact fun _ k => blk_of rfl rfl k | exact fun _ k => vec_of rfl k | exact fun _ k => blk_of rfl rfl (blk_to rfl rfl k) | exact fun _ k => vec_of rfl (vec_to rfl k) | exact fun _ k => mp_to rfl k | exact fun _ k => mp_of rfl k | exact fun _ k => mp_of rfl (mp_to rfl k)) (fun h k => sat_pick 0 rfl (fun _ k => vec_of rfl k) (fun h k => sat_nil k) k) k) k), ?_⟩
  have hl64 : l.length ≤ 64 := by have := hr.len; have := hj.le; omega
  refine LoopOb.mk { k : Nat // k ≤ l.length ∧ ∀ i y, i < k → l[i]? = some y → key x y = false } (fun z => ⟨93, [(5, .raw (.pointer (some ⟨tb, 0, none⟩))), (6, .sl 1 0 l.length c), (3, .ptr 0 0), (8, .int .i64 z.1)], [(1, pl), (0, .at b3 0)], 2, [.asn (Bs n T), .asn (Vs T), .vec 1 26 5 c (RL.flat l), .blk 0 26 x.svs]⟩) (fun z => l.length - z.1) ⟨0, Nat.zero_le _, fun i y h => absurd h (by omega)⟩ ?_ ?_
  · exact Le.of rfl ⟨⟨_, rfl, rfl⟩, ⟨_, rfl, rfl⟩, ⟨_, rfl, rfl⟩, ⟨_, rfl, rfl⟩, trivial⟩ (fun h k => sat_pick 0 rfl (by first | exact fun _ k => k | exact fun _ k => blk_to rfl rfl k | exact fun _ k => vec_to rfl k | exact fun _ k => blk_of rfl rfl k | exact fun _ k => vec_of rfl k | exact fun _ k => blk_of rfl rfl (blk_to rfl rfl k) | exact fun _ k => vec_of rfl (vec_to rfl k) | exact fun _ k => mp_to rfl k | exact fun _ k => mp_of rfl k | exact fun _ k => mp_of rfl (mp_to rfl k)) (fun h k => sat_pick 0 rfl (by first | exact fun _ k => k | exact fun _ k => blk_to rfl rfl k | exact fun _ k => vec_to rfl k | exact fun _ k => blk_of rfl rfl k | exact fun _ k => vec_of rfl k | exact fun _ k => blk_of rfl rfl (blk_to rfl rfl k) | exact fun _ k => vec_of rfl (vec_to rfl k) | exact fun _ k => mp_to rfl k | exact fun _ k => mp_of rfl k | exact fun _ k => mp_of rfl (mp_to rfl k)) (fun h k => sat_pick 0 rfl (by first | exact fun _ k => k | exact fun _ k => blk_to rfl rfl k | exact fun _ k => vec_to rfl k | exact fun _ k => blk_of rfl rfl k | exact fun _ k => vec_of rfl k | exact fun _ k => blk_of rfl rfl (blk_to rfl rfl k) | exact fun _ k => vec_of rfl (vec_to rfl k) | exact fun _ k => mp_to rfl k | exact fun _ k => mp_of rfl k | exact fun _ k => mp_of rfl (mp_to rfl k)) (fun h k => sat_pick 0 rfl (by first | exact fun _ k => k | exact fun _ k => blk_to rfl rfl k | exact fun _ k => vec_to rfl k | exact fun _ k => blk_of rfl rfl k | exact fun _ k => vec_of rfl k | exact fun _ k => blk_of rfl rfl (blk_to rfl rfl k) | exact fun _ k => vec_of rfl (vec_to rfl k) | exact fun _ k => mp_to rfl k | exact fun _ k => mp_of rfl k | exact fun _ k => mp_of rfl (mp_to rfl k)) (fun h k => sat_nil k) k) k) k) k)
  rintro ⟨k, hk, hall⟩
  refine CondOb.split (fun g => ?_) (fun g => ?_)
  · have gi : k < l.length := by
      have g := of_decide_eq_true g
      have : (k : Int) < l.length := g
      omega
    have hy := List.getElem?_eq_getElem gi
    generalize l[k] = y at hy
    have hn2 : 0 ≤ (k : Int) ∧ (k : Int) < l.length := by omega
    obtain ⟨b, o, rfl⟩ := hpl (by intro e; rw [e] at gi; simp at gi)
    have hcell : ∀ (j : Nat) v, y.vals[j]? = some v → (RL.flat l)[0 + (k : Int).toNat * 5 + j]? = some v := fun j v hv => by
      rw [Int.toNat_natCast, Nat.zero_add]
      exact RL.flat_at hy hv
    refine RegOb.join Unit (fun _ => ⟨93, [(5, .raw (.pointer (some ⟨tb, 0, none⟩))), (6, .sl 1 0 l.length c), (3, .ptr 0 0), (8, .int .i64 k), (56, .bool (key x y))], [(1, .at b o), (0, .at b3 0)], 2, [.asn (Bs n T), .asn (Vs T), .vec 1 26 5 c (RL.flat l), .blk 0 26 x.svs]⟩) ?_ (fun _ => ?_)
    · refine DrawOb.mk [] (.run [0, 1, 2, 3, 4, 5, 6, 7, 8, 9, 10, 11, 12, 13, 14, 15, 16, 17, 18, 19, 20, 21, 22, 23, 24, 25, 26, 27] .nil) (by kernel_rfl) ?_
      refine Need.mk hn2 ?_
      refine RdOb.mk (.int .u32 y.net) _ rfl (hcell 0 _ rfl) ?_
      refine Br.mk (fun h1 => ?_) (fun h1 => ?_)
      rotate_left
      · exact ⟨(), Le.of rfl ⟨⟨_, rfl, rfl⟩, ⟨_, rfl, rfl⟩, ⟨_, rfl, rfl⟩, ⟨_, rfl, rfl⟩, ⟨_, rfl, (congrArg (fun x => some (Value.bool x)) (by simp only [key, hit, h1, Bool.false_and]))⟩, trivial⟩ (fun h k => sat_pick 0 rfl (by first | exact fun _ k => k | exact fun _ k => blk_to rfl rfl k | exact fun _ k => vec_to rfl k | exact fun _ k => blk_of rfl rfl k | exact fun _ k => vec_of rfl k | exact fun _ k => blk_of rfl rfl (blk_to rfl rfl k) | exact fun _ k => vec_of rfl (vec_to rfl k) | exact fun _ k => mp_to rfl k | exact fun _ k => mp_of rfl k | exact fun _ k => mp_of rfl (mp_to rfl k)) (fun h k => sat_pick 0 rfl (by first | exact fun _ k => k | exact fun _ k => blk_to rfl rfl k | exact fun _ k => vec_to rfl k | exact fun _ k => blk_of rfl rfl k | exact fun _ k => vec_of rfl k | exact fun _ k => blk_of rfl rfl (blk_to rfl rfl k) | exact fun _ k => vec_of rfl (vec_to rfl k) | exact fun _ k => mp_to rfl k | exact fun _ k => mp_of rfl k | exact fun _ k => mp_of rfl (mp_to rfl k)) (fun h k => sat_pick 0 rfl (by first | exact fun _ k => k | exact fun _ k => blk_to rfl rfl k | exact fun _ k => vec_to rfl k | exact fun _ k => blk_of rfl rfl k | exact fun _ k => vec_of rfl k | exact fun _ k => blk_of rfl rfl (blk_to rfl rfl k) | exact fun _ k => vec_of rfl (vec_to rfl k) | exact fun _ k => mp_to rfl k | exact fun _ k => mp_of rfl k | exact fun _ k => mp_of rfl (mp_to rfl k)) (fun h k => sat_pick 0 rfl (by first | exact fun _ k => k | exact fun _ k => blk_to rfl rfl k | exact fun _ k => vec_to rfl k | exact fun _ k => blk_of rfl rfl k | exact fun _ k => vec_of rfl k | exact fun _ k => blk_of rfl rfl (blk_to rfl rfl k) | exact fun _ k => vec_of rfl (vec_to rfl k) | exact fun _ k => mp_to rfl k | exact fun _ k => mp_of rfl k | exact fun _ k => mp_of rfl (mp_to rfl k)) (fun h k => sat_nil k) k) k) k) k)⟩
      refine Need.mk hn2 ?_
      refine RdOb.mk (.int .i64 y.bits) _ rfl (hcell 1 _ rfl) ?_
      refine Br.mk (fun h2 => ?_) (fun h2 => ?_)
      rotate_left
      · exact ⟨(), Le.of rfl ⟨⟨_, rfl, rfl⟩, ⟨_, rfl, rfl⟩, ⟨_, rfl, rfl⟩, ⟨_, rfl, rfl⟩, ⟨_, rfl, (congrArg (fun x => some (Value.bool x)) (by simp only [key, hit, h1, h2, Bool.false_and, Bool.true_and]))⟩, trivial⟩ (fun h k => sat_pick 0 rfl (by first | exact fun _ k => k | exact fun _ k => blk_to rfl rfl k | exact fun _ k => vec_to rfl k | exact fun _ k => blk_of rfl rfl k | exact fun _ k => vec_of rfl k | exact fun _ k => blk_of rfl rfl (blk_to rfl rfl k) | exact fun _ k => vec_of rfl (vec_to rfl k) | exact fun _ k => mp_to rfl k | exact fun _ k => mp_of rfl k | exact fun _ k => mp_of rfl (mp_to rfl k)) (fun h k => sat_pick 0 rfl (by first | exact fun _ k => k | exact fun _ k => blk_to rfl rfl k | exact fun _ k => vec_to rfl k | exact fun _ k => blk_of rfl rfl k | exact fun _ k => vec_of rfl k | exact fun _ k => blk_of rfl rfl (blk_to rfl rfl k) | exact fun _ k => vec_of rfl (vec_to rfl k) | exact fun _ k => mp_to rfl k | exact fun _ k => mp_of rfl k | exact fun _ k => mp_of rfl (mp_to rfl k)) (fun h k => sat_pick 0 rfl (by first | exact fun _ k => k | exact fun _ k => blk_to rfl rfl k | exact fun _ k => vec_to rfl k | exact fun _ k => blk_of rfl rfl k | exact fun _ k => vec_of rfl k | exact fun _ k => blk_of rfl rfl (blk_to rfl rfl k) | exact fun _ k => vec_of rfl (vec_to rfl k) | exact fun _ k => mp_to rfl k | exact fun _ k => mp_of rfl k | exact fun _ k => mp_of rfl (mp_to rfl k)) (fun h k => sat_pick 0 rfl (by first | exact fun _ k => k | exact fun _ k => blk_to rfl rfl k | exact fun _ k => vec_to rfl k | exact fun _ k => blk_of rfl rfl k | exact fun _ k => vec_of rfl k | exact fun _ k => blk_of rfl rfl (blk_to rfl rfl k) | exact fun _ k => vec_of rfl (vec_to rfl k) | exact fun _ k => mp_to rfl k | exact fun _ k => mp_of rfl k | exact fun _ k => mp_of rfl (mp_to rfl k)) (fun h k => sat_nil k) k) k) k) k)⟩
      refine Need.mk hn2 ?_
      refine RdOb.mk (.int .i64 y.cost) _ rfl (hcell 4 _ rfl) ?_
      exact ⟨(), Le.of rfl ⟨⟨_, rfl, rfl⟩, ⟨_, rfl, rfl⟩, ⟨_, rfl, rfl⟩, ⟨_, rfl, rfl⟩, ⟨_, rfl, (congrArg (fun x => some (Value.bool x)) (by simp only [key, hit, h1, h2, Bool.true_and]))⟩, trivial⟩ (fun h k => sat_pick 0 rfl (by first | exact fun _ k => k | exact fun _ k => blk_to rfl rfl k | exact fun _ k => vec_to rfl k | exact fun _ k => blk_of rfl rfl k | exact fun _ k => vec_of rfl k | exact fun _ k => blk_of rfl rfl (blk_to rfl rfl k) | exact fun _ k => vec_of rfl (vec_to rfl k) | exact fun _ k => mp_to rfl k | exact fun _ k => mp_of rfl k | exact fun _ k => mp_of rfl (mp_to rfl k)) (fun h k => sat_pick 0 rfl (by first | exact fun _ k => k | exact fun _ k => blk_to rfl rfl k | exact fun _ k => vec_to rfl k | exact fun _ k => blk_of rfl rfl k | exact fun _ k => vec_of rfl k | exact fun _ k => blk_of rfl rfl (blk_to rfl rfl k) | exact fun _ k => vec_of rfl (vec_to rfl k) | exact fun _ k => mp_to rfl k | exact fun _ k => mp_of rfl k | exact fun _ k => mp_of rfl (mp_to rfl k)) (fun h k => sat_pick 0 rfl (by first | exact fun _ k => k | exact fun _ k => blk_to rfl rfl k | exact fun _ k => vec_to rfl k | exact fun _ k => blk_of rfl rfl k | exact fun _ k => vec_of rfl k | exact fun _ k => blk_of rfl rfl (blk_to rfl rfl k) | exact fun _ k => vec_of rfl (vec_to rfl k) | exact fun _ k => mp_to rfl k | exact fun _ k => mp_of rfl k | exact fun _ k => mp_of rfl (mp_to rfl k)) (fun h k => sat_pick 0 rfl (by first | exact fun _ k => k | exact fun _ k => blk_to rfl rfl k | exact fun _ k => vec_to rfl k | exact fun _ k => blk_of rfl rfl k | exact fun _ k => vec_of rfl k | exact fun _ k => blk_of rfl rfl (blk_to rfl rfl k) | exact fun _ k => vec_of rfl (vec_to rfl k) | exact fun _ k => mp_to rfl k | exact fun _ k => mp_of rfl k | exact fun _ k => mp_of rfl (mp_to rfl k)) (fun h k => sat_nil k) k) k) k) k)⟩
    refine CondOb.split (fun gh => ?_) (fun gh => ?_)
    · refine useP .tt live_spec rfl rfl ?_
      exact FinOb.mk [.bool true] [] rfl (fun h k => trivial) ⟨rfl, rfl⟩
    refine ⟨⟨k + 1, by omega, fun i z h1 h2 => ?_⟩, by show l.length - (k + 1) < l.length - k; omega, Le.of rfl ⟨⟨_, rfl, rfl⟩, ⟨_, rfl, rfl⟩, ⟨_, rfl, rfl⟩, ⟨_, rfl, congrArg (fun z => some (Value.int .i64 z)) (w64 (by omega) (by omega))⟩, trivial⟩ (fun h k => sat_pick 0 rfl (by first | exact fun _ k => k | exact fun _ k => blk_to rfl rfl k | exact fun _ k => vec_to rfl k | exact fun _ k => blk_of rfl rfl k | exact fun _ k => vec_of rfl k | exact fun _ k => blk_of rfl rfl (blk_to rfl rfl k) | exact fun _ k => vec_of rfl (vec_to rfl k) | exact fun _ k => mp_to rfl k | exact fun _ k => mp_of rfl k | exact fun _ k => mp_of rfl (mp_to rfl k)) (fun h k => sat_pick 0 rfl (by first | exact fun _ k => k | exact fun _ k => blk_to rfl rfl k | exact fun _ k => vec_to rfl k | exact fun _ k => blk_of rfl rfl k | exact fun _ k => vec_of rfl k | exact fun _ k => blk_of rfl rfl (blk_to rfl rfl k) | exact fun _ k => vec_of rfl (vec_to rfl k) | exact fun _ k => mp_to rfl k | exact fun _ k => mp_of rfl k | exact fun _ k => mp_of rfl (mp_to rfl k)) (fun h k => sat_pick 0 rfl (by first | exact fun _ k => k | exact fun _ k => blk_to rfl rfl k | exact fun _ k => vec_to rfl k | exact fun _ k => blk_of rfl rfl k | exact fun _ k => vec_of rfl k | exact fun _ k => blk_of rfl rfl (blk_to rfl rfl k) | exact fun _ k => vec_of rfl (vec_to rfl k) | exact fun _ k => mp_to rfl k | exact fun _ k => mp_of rfl k | exact fun _ k => mp_of rfl (mp_to rfl k)) (fun h k => sat_pick 0 rfl (by first | exact fun _ k => k | exact fun _ k => blk_to rfl rfl k | exact fun _ k => vec_to rfl k | exact fun _ k => blk_of rfl rfl k | exact fun _ k => vec_of rfl k | exact fun _ k => blk_of rfl rfl (blk_to rfl rfl k) | exact fun _ k => vec_of rfl (vec_to rfl k) | exact fun _ k => mp_to rfl k | exact fun _ k => mp_of rfl k | exact fun _ k => mp_of rfl (mp_to rfl k)) (fun h k => sat_nil k) k) k) k) k)⟩
    by_cases e : i = k
    · subst e; rw [hy] at h2; cases h2; exact gh
    · exact hall i z (by omega) h2
  have ek : k = l.length := by
    have g := of_decide_eq_false g
    have : ¬ (k : Int) < l.length := g
    omega
  have hno : ∀ y ∈ l, key x y = false := fun y hy => by
    obtain ⟨i, hi, e⟩ := List.getElem_of_mem hy
    exact hall i y (by omega) (by rw [List.getElem?_eq_getElem hi, e])
  refine call_ix (add_spec tb n T hj x ok) rfl [0, 0] (fun h k => sat_pick 0 rfl (by first | exact fun _ k => k | exact fun _ k => blk_to rfl rfl k | exact fun _ k => vec_to rfl k | exact fun _ k => blk_of rfl rfl k | exact fun _ k => vec_of rfl k | exact fun _ k => blk_of rfl rfl (blk_to rfl rfl k) | exact fun _ k => vec_of rfl (vec_to rfl k) | exact fun _ k => mp_to rfl k | exact fun _ k => mp_of rfl k | exact fun _ k => mp_of rfl (mp_to rfl k)) (fun h k => sat_pick 0 rfl (by first | exact fun _ k => k | exact fun _ k => blk_to rfl rfl k | exact fun _ k => vec_to rfl k | exact fun _ k => blk_of rfl rfl k | exact fun _ k => vec_of rfl k | exact fun _ k => blk_of rfl rfl (blk_to rfl rfl k) | exact fun _ k => vec_of rfl (vec_to rfl k) | exact fun _ k => mp_to rfl k | exact fun _ k => mp_of rfl k | exact fun _ k => mp_of rfl (mp_to rfl k)) (fun h k => sat_pick 0 rfl (by first | exact fun _ k => k | exact fun _ k => blk_to rfl rfl k | exact fun _ k => vec_to rfl k | exact fun _ k => blk_of rfl rfl k | exact fun _ k => vec_of rfl k | exact fun _ k => blk_of rfl rfl (blk_to rfl rfl k) | exact fun _ k => vec_of rfl (vec_to rfl k) | exact fun _ k => mp_to rfl k | exact fun _ k => mp_of rfl k | exact fun _ k => mp_of rfl (mp_to rfl k)) (fun h k => sat_pick 0 rfl (by first | exact fun _ k => k | exact fun _ k => blk_to rfl rfl k | exact fun _ k => vec_to rfl k | exact fun _ k => blk_of rfl rfl k | exact fun _ k => vec_of rfl k | exact fun _ k => blk_of rfl rfl (blk_to rfl rfl k) | exact fun _ k => vec_of rfl (vec_to rfl k) | exact fun _ k => mp_to rfl k | exact fun _ k => mp_of rfl k | exact fun _ k => mp_of rfl (mp_to rfl k)) (fun h k => sat_nil k) k) k) k) k) (fun _ _ _ _ => trivial) ?_
  rintro v post ⟨e, T1, n1, rfl, ht1, hj1, rfl⟩
  refine ⟨.int .i64 e, _, 2, [.asn (Bs n1 T1), .asn (Vs T1)], NmExt.refl _, rfl, (fun h k => sat_pick 0 rfl (by first | exact fun _ k => k | exact fun _ k => blk_to rfl rfl k | exact fun _ k => vec_to rfl k | exact fun _ k => blk_of rfl rfl k | exact fun _ k => vec_of rfl k | exact fun _ k => blk_of rfl rfl (blk_to rfl rfl k) | exact fun _ k => vec_of rfl (vec_to rfl k) | exact fun _ k => mp_to rfl k | exact fun _ k => mp_of rfl k | exact fun _ k => mp_of rfl (mp_to rfl k)) (fun h k => sat_pick 0 rfl (by first | exact fun _ k => k | exact fun _ k => blk_to rfl rfl k | exact fun _ k => vec_to rfl k | exact fun _ k => blk_of rfl rfl k | exact fun _ k => vec_of rfl k | exact fun _ k => blk_of rfl rfl (blk_to rfl rfl k) | exact fun _ k => vec_of rfl (vec_to rfl k) | exact fun _ k => mp_to rfl k | exact fun _ k => mp_of rfl k | exact fun _ k => mp_of rfl (mp_to rfl k)) (fun h k => sat_nil k) k) k), ?_⟩
  refine call_ix (remove_spec tb n1 T1 hj1 x.net x.bits x.cost ok.n0 ok.n1) rfl [0, 0] (fun h k => sat_pick 0 rfl (by first | exact fun _ k => k | exact fun _ k => blk_to rfl rfl k | exact fun _ k => vec_to rfl k | exact fun _ k => blk_of rfl rfl k | exact fun _ k => vec_of rfl k | exact fun _ k => blk_of rfl rfl (blk_to rfl rfl k) | exact fun _ k => vec_of rfl (vec_to rfl k) | exact fun _ k => mp_to rfl k | exact fun _ k => mp_of rfl k | exact fun _ k => mp_of rfl (mp_to rfl k)) (fun h k => sat_pick 0 rfl (by first | exact fun _ k => k | exact fun _ k => blk_to rfl rfl k | exact fun _ k => vec_to rfl k | exact fun _ k => blk_of rfl rfl k | exact fun _ k => vec_of rfl k | exact fun _ k => blk_of rfl rfl (blk_to rfl rfl k) | exact fun _ k => vec_of rfl (vec_to rfl k) | exact fun _ k => mp_to rfl k | exact fun _ k => mp_of rfl k | exact fun _ k => mp_of rfl (mp_to rfl k)) (fun h k => sat_pick 0 rfl (by first | exact fun _ k => k | exact fun _ k => blk_to rfl rfl k | exact fun _ k => vec_to rfl k | exact fun _ k => blk_of rfl rfl k | exact fun _ k => vec_of rfl k | exact fun _ k => blk_of rfl rfl (blk_to rfl rfl k) | exact fun _ k => vec_of rfl (vec_to rfl k) | exact fun _ k => mp_to rfl k | exact fun _ k => mp_of rfl k | exact fun _ k => mp_of rfl (mp_to rfl k)) (fun h k => sat_pick 0 rfl (by first | exact fun _ k => k | exact fun _ k => blk_to rfl rfl k | exact fun _ k => vec_to rfl k | exact fun _ k => blk_of rfl rfl k | exact fun _ k => vec_of rfl k | exact fun _ k => blk_of rfl rfl (blk_to rfl rfl k) | exact fun _ k => vec_of rfl (vec_to rfl k) | exact fun _ k => mp_to rfl k | exact fun _ k => mp_of rfl k | exact fun _ k => mp_of rfl (mp_to rfl k)) (fun h k => sat_nil k) k) k) k) k) (fun _ _ _ _ => trivial) ?_
  rintro v post ⟨e2, T2, n2, rfl, ht2, hj2, rfl⟩
  obtain ⟨hcode, hr2⟩ := back_law hr hno ht1 ht2
  refine ⟨.int .i64 e2, _, 2, [.asn (Bs n2 T2), .asn (Vs T2)], NmExt.refl _, rfl, (fun h k => sat_pick 0 rfl (by first | exact fun _ k => k | exact fun _ k => blk_to rfl rfl k | exact fun _ k => vec_to rfl k | exact fun _ k => blk_of rfl rfl k | exact fun _ k => vec_of rfl k | exact fun _ k => blk_of rfl rfl (blk_to rfl rfl k) | exact fun _ k => vec_of rfl (vec_to rfl k) | exact fun _ k => mp_to rfl k | exact fun _ k => mp_of rfl k | exact fun _ k => mp_of rfl (mp_to rfl k)) (fun h k => sat_pick 0 rfl (by first | exact fun _ k => k | exact fun _ k => blk_to rfl rfl k | exact fun _ k => vec_to rfl k | exact fun _ k => blk_of rfl rfl k | exact fun _ k => vec_of rfl k | exact fun _ k => blk_of rfl rfl (blk_to rfl rfl k) | exact fun _ k => vec_of rfl (vec_to rfl k) | exact fun _ k => mp_to rfl k | exact fun _ k => mp_of rfl k | exact fun _ k => mp_of rfl (mp_to rfl k)) (fun h k => sat_nil k) k) k), ?_⟩
  refine RegOb.go ?_
  refine useP (.int .i64 e) (code_spec e) rfl rfl ?_
  refine useP (.int .i64 e2) (code_spec e2) rfl rfl ?_
  refine Br.mk (fun _ => ?_) (fun h => absurd h (by rw [hcode]; simp))
  have hall2 := all_eq hj2.ti hr2
  have hal := all_spec tb n2 T2 hj2.ti hj2.few (by rw [hall2, sortBy_length]; omega)
  have hra := rall_spec (locAddr 0 pl) c l (by omega)
  have hsl := sortBy_length rises l
  rw [hall2] at hal
  generalize sortBy rises l = S at *
  refine call_ix hal rfl [0, 0] (fun h k => sat_pick 0 rfl (by first | exact fun _ k => k | exact fun _ k => blk_to rfl rfl k | exact fun _ k => vec_to rfl k | exact fun _ k => blk_of rfl rfl k | exact fun _ k => vec_of rfl k | exact fun _ k => blk_of rfl rfl (blk_to rfl rfl k) | exact fun _ k => vec_of rfl (vec_to rfl k) | exact fun _ k => mp_to rfl k | exact fun _ k => mp_of rfl k | exact fun _ k => mp_of rfl (mp_to rfl k)) (fun h k => sat_pick 0 rfl (by first | exact fun _ k => k | exact fun _ k => blk_to rfl rfl k | exact fun _ k => vec_to rfl k | exact fun _ k => blk_of rfl rfl k | exact fun _ k => vec_of rfl k | exact fun _ k => blk_of rfl rfl (blk_to rfl rfl k) | exact fun _ k => vec_of rfl (vec_to rfl k) | exact fun _ k => mp_to rfl k | exact fun _ k => mp_of rfl k | exact fun _ k => mp_of rfl (mp_to rfl k)) (fun h k => sat_pick 0 rfl (by first | exact fun _ k => k | exact fun _ k => blk_to rfl rfl k | exact fun _ k => vec_to rfl k | exact fun _ k => blk_of rfl rfl k | exact fun _ k => vec_of rfl k | exact fun _ k => blk_of rfl rfl (blk_to rfl rfl k) | exact fun _ k => vec_of rfl (vec_to rfl k) | exact fun _ k => mp_to rfl k | exact fun _ k => mp_of rfl k | exact fun _ k => mp_of rfl (mp_to rfl k)) (fun h k => sat_pick 0 rfl (by first | exact fun _ k => k | exact fun _ k => blk_to rfl rfl k | exact fun _ k => vec_to rfl k | exact fun _ k => blk_of rfl rfl k | exact fun _ k => vec_of rfl k | exact fun _ k => blk_of rfl rfl (blk_to rfl rfl k) | exact fun _ k => vec_of rfl (vec_to rfl k) | exact fun _ k => mp_to rfl k | exact fun _ k => mp_of rfl k | exact fun _ k => mp_of rfl (mp_to rfl k)) (fun h k => sat_nil k) k) k) k) k) (fun _ _ _ _ => trivial) ?_
  rintro v post ⟨pl3, c3, rfl, hc3, rfl⟩
  refine ⟨.sl 2 0 S.length c3, (2, pl3) :: _, 3, [.asn (Bs n2 T2), .asn (Vs T2), .vec 2 26 5 c3 (RL.flat S)], NmExt.push rfl, rfl, (fun h k => sat_pick 0 rfl (by first | exact fun _ k => k | exact fun _ k => blk_to rfl rfl k | exact fun _ k => vec_to rfl k | exact fun _ k => blk_of rfl rfl k | exact fun _ k => vec_of rfl k | exact fun _ k => blk_of rfl rfl (blk_to rfl rfl k) | exact fun _ k => vec_of rfl (vec_to rfl k) | exact fun _ k => mp_to rfl k | exact fun _ k => mp_of rfl k | exact fun _ k => mp_of rfl (mp_to rfl k)) (fun h k => sat_pick 0 rfl (by first | exact fun _ k => k | exact fun _ k => blk_to rfl rfl k | exact fun _ k => vec_to rfl k | exact fun _ k => blk_of rfl rfl k | exact fun _ k => vec_of rfl k | exact fun _ k => blk_of rfl rfl (blk_to rfl rfl k) | exact fun _ k => vec_of rfl (vec_to rfl k) | exact fun _ k => mp_to rfl k | exact fun _ k => mp_of rfl k | exact fun _ k => mp_of rfl (mp_to rfl k)) (fun h k => sat_pick 0 rfl (fun _ k => vec_of rfl k) (fun h k => sat_nil k) k) k) k), ?_⟩
  refine call_ix hra rfl [] (fun h k => k) (fun f' b' hs kb => vec_reads 3 hs kb rfl rfl) ?_
  rintro v post ⟨pl4, c4, rfl, hc4, rfl⟩
  refine ⟨.sl 3 0 l.length c4, (3, pl4) :: _, 4, [.vec 3 26 5 c4 (RL.flat S)], NmExt.push rfl, rfl, (fun h k => sat_pick 0 rfl (fun _ k => vec_of rfl k) (fun h k => sat_nil k) k), ?_⟩
  refine useR .tt ((same_spec (locAddr 0 pl3) (locAddr 0 pl4) c3 c4 S S (by omega)).mono (Q' := fun v p => v = .bool true ∧ p = []) (by rintro v p ⟨rfl, rfl⟩; simp)) (by rw [hsl]; rfl) (fun f' b' hs kb => ⟨vec_reads 3 hs kb rfl rfl, vec_reads 0 hs kb rfl rfl⟩) rfl ?_
  refine useA [_] [_, _, _, _] (.int .i64 n2) (len_spec tb n2 T2 hj2.ti) rfl rfl rfl ?_
  refine Br.mk (fun _ => ?_) (fun h => absurd h (by rw [hr2.len]; simp))
  refine useP .tt live_spec rfl rfl ?_
  exact FinOb.mk [.bool true] [] rfl (fun h k => trivial) ⟨rfl, rfl⟩
end Go.Proofs.Ytjppphldiaonkaa.Rt
