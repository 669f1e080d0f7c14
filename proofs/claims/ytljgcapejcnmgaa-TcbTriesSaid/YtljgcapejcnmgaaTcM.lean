/- tcb: time passes in SynSent; what is due next. Conditions: none. -/
import Derived.Test.YtljgcapejcnmgaaTcF
namespace Go.Proofs.Ytljgcapejcnmgaa.Tc
open Go Go.Proofs Sx
set_option maxRecDepth 100000
set_option linter.unusedVariables false
set_option linter.unusedSimpArgs false
set_option maxHeartbeats 4000000

def Al.due (a : Al) (n : Int) : Bool := a.set && decide (a.at_ ≤ n)
theorem due_spec (b : Nat) (x : X) (off : Nat) (a : Al) (n : Int) (h0 : x.vals[off]? = some (.int .i64 a.at_)) (h1 : x.vals[off + 1]? = some (.bool a.set)) :
    Does Try.prog 22 #[.pointer (some ⟨b, off, none⟩), .int .i64 n] (Fr (CA b x)) [] (fun v p => v = .bool (a.due n) ∧ p = []) := by
  refine Does.ofJ Try.func22 Try.call22 rfl [.raw (.pointer (some ⟨b, off, none⟩)), .int .i64 n] [] 0 [] rfl rfl (fun h k => k) (fun f hR => ?_)
  refine RegOb.go ?_
  refine RdRaw.mk (.bool a.set) _ rfl (hR.own (off + 1) _ h1) ?_
  refine Br.mk (fun g => ?_) (fun g => ?_)
  · refine RdRaw.mk (.int .i64 a.at_) _ rfl (hR.own off _ h0) ?_
    exact FinOb.mk [.bool (decide (a.at_ ≤ n))] [] rfl (fun h k => trivial) ⟨by unfold Al.due; rw [g]; rfl, rfl⟩
  · exact FinOb.mk [.bool false] [] rfl (fun h k => trivial) ⟨by unfold Al.due; rw [g]; rfl, rfl⟩
def Ro.back (r : Ro) : Ro := { r with now := mn (IntKind.i64.wrap (2 * r.now)) r.most, backs := IntKind.i64.wrap (r.backs + 1) }
theorem ro_set {b : Nat} {r r' : Ro} {off : Nat} {vs : List Value} {h : HP} (k : roA b r h) (hl : off + vs.length ≤ 7) (hv : putV r.vals off vs = r'.vals) :
    ∃ c t, h b = some (.cells c t (0, 0)) ∧ off + vs.length ≤ c.size ∧ roA b r' (upd h b (.cells (putV c.toList off vs).toArray t (0, 0))) := by
  refine ⟨r.vals.toArray, _, pt_get h k, by simpa [Ro.vals] using hl, ?_⟩
  have := (pt_upd (.cells r'.vals.toArray 91 (0, 0)) h k).2
  unfold roA; simpa [hv] using this
theorem ro_rd {As : List Asn} {h : HP} (k : sat As h) (n : Nat) {b : Nat} {r : Ro} (e : As[n]? = some (roA b r)) (i : Nat) (v : Value) (e2 : r.vals[i]? = some v) : fcell h b i = some v := sat_cell n e (ro_at i v e2) k
theorem rback_spec (b : Nat) (r : Ro) : Does Try.prog 25 #[pp b] (fun _ => True) [roA b r] (fun v p => v = .tuple #[] ∧ p = [roA b r.back]) := by
  refine Does.ofJ Try.func25 Try.call25 rfl [.raw (pp b)] [] 0 [.asn (roA b r)] rfl rfl (fun h k => k) (fun f hR => ?_)
  refine DrawOb.mk [] (.run [0, 1, 2, 3, 4, 5, 6, 7, 8, 9, 10, 11, 12, 13] .nil) (by kernel_rfl) ?_
  refine RdRaw.told (.int .i64 r.now) _ rfl (fun h k => ro_rd k 0 rfl 5 _ rfl) ?_
  refine RdRaw.told (.int .i64 r.most) _ rfl (fun h k => ro_rd k 0 rfl 1 _ rfl) ?_
  refine StRaw.on 0 (roA b { r with now := mn (IntKind.i64.wrap (2 * r.now)) r.most }) [.int .i64 (mn (IntKind.i64.wrap (2 * r.now)) r.most)] rfl rfl (fun h k => ro_set k (Nat.le_of_ble_eq_true rfl) rfl) ?_
  refine RdRaw.told (.int .i64 r.backs) _ rfl (fun h k => ro_rd k 0 rfl 6 _ rfl) ?_
  refine StRaw.on 0 (roA b r.back) [.int .i64 (IntKind.i64.wrap (r.backs + 1))] rfl rfl (fun h k => ro_set k (Nat.le_of_ble_eq_true rfl) rfl) ?_
  exact FinOb.mk [] [roA b r.back] rfl (fun h k => sat_pick 0 rfl (by first | exact fun _ k => k | exact fun _ k => blk_to rfl rfl k | exact fun _ k => vec_to rfl k | exact fun _ k => blk_of rfl rfl k | exact fun _ k => vec_of rfl k | exact fun _ k => blk_of rfl rfl (blk_to rfl rfl k) | exact fun _ k => vec_of rfl (vec_to rfl k) | exact fun _ k => mp_to rfl k | exact fun _ k => mp_of rfl k | exact fun _ k => mp_of rfl (mp_to rfl k)) (fun h k => sat_nil k) k) ⟨rfl, rfl⟩
theorem Does.wrap {P : Program} {g : FuncId} {vals : Array Value} {R : HP → Prop} {ι : Type} {pre : ι → List Asn} {Q : ι → Value → List Asn → Prop} {A : List Asn} {Q' : Value → List Asn → Prop} (he : Enters P g)
    (hA : ∀ h, sat A h → ∃ i, sat (pre i) h) (hd : ∀ i, Does P g vals R (pre i) (Q i)) (hq : ∀ i v p h, Q i v p → sat p h → ∃ p', Q' v p' ∧ sat p' h) : Does P g vals R A Q' :=
  ⟨he, fun f w hR ⟨x, s, k⟩ => by
    obtain ⟨i, k⟩ := hA x k
    refine ((hd i).run f w hR ⟨x, s, k⟩).mono ?_
    rintro _ _ ⟨v, post, h1, ⟨y, s2, k2⟩, h3, h4⟩
    obtain ⟨p', a, b⟩ := hq i v post y h3 k2
    exact ⟨v, p', h1, ⟨y, s2, b⟩, a, h4⟩⟩
def X.noRto (x : X) : List Asn := [Vec x.po 49 9 x.co (SL.flat x.out), hoA x.bs x.snd, hoA x.bi x.inn, paA x.be x.early, coA x.bc x.cong]
theorem ca_rto {b : Nat} {x : X} {h : HP} : sat [CA b x] h ↔ sat (roA x.br x.rto :: pt b (.cells x.vals.toArray 63 (0, 0)) :: x.noRto) h := by
  have p : (pt b (.cells x.vals.toArray 63 (0, 0)) :: x.rest).Perm (roA x.br x.rto :: pt b (.cells x.vals.toArray 63 (0, 0)) :: x.noRto) :=
    List.perm_append_comm (l₁ := pt b (.cells x.vals.toArray 63 (0, 0)) :: x.noRto) (l₂ := [roA x.br x.rto])
  constructor
  · rintro ⟨u, v, t, hu, _⟩
    exact sat_perm p (sat_more t.comm hu)
  · intro k
    exact ⟨h, HP.emp, .emp_right h, sat_perm p.symm k, trivial⟩
theorem back_spec (b : Nat) (x : X) : Does Try.prog 25 #[pp x.br] (fun _ => True) [CA b x] (fun v p => v = .tuple #[] ∧ p = [CA b { x with rto := x.rto.back }]) := by
  refine Does.wrap (ι := Unit) Try.call25 (fun h k => ⟨(), ca_rto.1 k⟩) (fun _ => frameOf (pt b (.cells x.vals.toArray 63 (0, 0)) :: x.noRto) (rback_spec x.br x.rto)) ?_
  rintro _ v p h ⟨q, ⟨rfl, rfl⟩, rfl⟩ k
  exact ⟨_, ⟨rfl, rfl⟩, ca_rto.2 k⟩
/-! ### Next -/
def Al.step (z : Int × Bool) (a : Al) : Int × Bool := if a.set && (!z.2 || decide (a.at_ < z.1)) then (a.at_, true) else z
def X.next (x : X) : Int × Bool := Al.step (Al.step (Al.step (Al.step (0, false) x.user) x.wait) x.again) x.probe
def Al.vals (a : Al) : List Value := [.int .i64 a.at_, .bool a.set]
def Al.svs (a : Al) : List SV := [.int .i64 a.at_, .bool a.set]
/-- What is found among the first ones. -/
def X.nexts (x : X) : Nat → Int × Bool
  | 0 => (0, false)
  | 1 => Al.step (0, false) x.user
  | 2 => Al.step (Al.step (0, false) x.user) x.wait
  | 3 => Al.step (Al.step (Al.step (0, false) x.user) x.wait) x.again
  | _ => x.next
theorem next_spec (b : Nat) (x : X) : Does Try.prog 10 #[pp b] (Fr (CA b x)) [] (fun v p => v = .tuple #[.int .i64 x.next.1, .bool x.next.2] ∧ p = []) := by
  refine Does.ofJ Try.func10 Try.call10 rfl [.raw (pp b)] [] 0 [] rfl rfl (fun h k => k) (fun f hR => ?_)
  have two : ∀ (off : Nat) (a : Al), x.vals[off]? = some (.int .i64 a.at_) → x.vals[off + 1]? = some (.bool a.set) → ∀ (i : Nat) v, a.vals[i]? = some v → fcell f b (off + i) = some v := fun off a h0 h1 i v hv => by
    match i, hv with
    | 0, hv => simp [Al.vals] at hv; subst hv; exact hR.own off _ h0
    | 1, hv => simp [Al.vals] at hv; subst hv; exact hR.own (off + 1) _ h1
    | i + 2, hv => simp [Al.vals] at hv
  refine DrawOb.mk [(16, [18])] (.run [0, 1, 2, 3, 4, 5, 6, 7, 8, 9, 10, 11, 12, 13, 14, 15, 18, 16, 17] .nil) (by kernel_rfl) ?_
  refine RdF.mk x.user.svs x.user.vals rfl rfl (fun i v hv => two 50 x.user rfl rfl i v hv) ?_
  refine RdF.mk x.wait.svs x.wait.vals rfl rfl (fun i v hv => two 48 x.wait rfl rfl i v hv) ?_
  refine RdF.mk x.again.svs x.again.vals rfl rfl (fun i v hv => two 44 x.again rfl rfl i v hv) ?_
  refine RdF.mk x.probe.svs x.probe.vals rfl rfl (fun i v hv => two 46 x.probe rfl rfl i v hv) ?_
  intro bb
  refine LoopOb.mk { i : Nat // i ≤ 4 } (fun z => ⟨47, [(2, .int .i64 (x.nexts z.1).1), (3, .bool (x.nexts z.1).2), (24, .sl 0 0 4 4), (25, .int .i64 4), (26, .int .i64 z.1)], [(0, .at bb 0)], 1, [.blk 0 61 (x.user.svs ++ x.wait.svs ++ x.again.svs ++ x.probe.svs)]⟩) (fun z => 4 - z.1) ⟨0, by omega⟩ ?_ ?_
  · exact Le.of rfl ⟨⟨_, rfl, rfl⟩, ⟨_, rfl, rfl⟩, ⟨_, rfl, rfl⟩, ⟨_, rfl, rfl⟩, ⟨_, rfl, rfl⟩, trivial⟩ (fun h k => sat_pick 0 rfl (by first | exact fun _ k => k | exact fun _ k => blk_to rfl rfl k | exact fun _ k => vec_to rfl k | exact fun _ k => blk_of rfl rfl k | exact fun _ k => vec_of rfl k | exact fun _ k => blk_of rfl rfl (blk_to rfl rfl k) | exact fun _ k => vec_of rfl (vec_to rfl k) | exact fun _ k => mp_to rfl k | exact fun _ k => mp_of rfl k | exact fun _ k => mp_of rfl (mp_to rfl k)) (fun h k => sat_nil k) k)
  rintro ⟨i, hi⟩
  match i, hi with
  | 0, _ =>
    refine CondOb.split (fun _ => ?_) (fun g => absurd g (by simp))
    refine Need.mk (by simp) ?_
    intro b5
    refine RegOb.join Unit (fun _ => ⟨47, [(2, .int .i64 (x.nexts 0).1), (3, .bool (x.nexts 0).2), (24, .sl 0 0 4 4), (25, .int .i64 4), (26, .int .i64 0), (5, .ptr 1 0), (41, .bool (x.user.set && (!(x.nexts 0).2 || decide (x.user.at_ < (x.nexts 0).1))))], [(1, .at b5 0), (0, .at bb 0)], 2, [.blk 1 61 x.user.svs, .blk 0 61 (x.user.svs ++ x.wait.svs ++ x.again.svs ++ x.probe.svs)]⟩) ?_ (fun _ => ?_)
    · refine Br.mk (fun g1 => ?_) (fun g1 => ?_)
      rotate_left
      · exact ⟨(), Le.of rfl ⟨⟨_, rfl, rfl⟩, ⟨_, rfl, rfl⟩, ⟨_, rfl, rfl⟩, ⟨_, rfl, rfl⟩, ⟨_, rfl, rfl⟩, ⟨_, rfl, rfl⟩, ⟨_, rfl, (by rw [g1]; rfl)⟩, trivial⟩ (fun h k => sat_pick 0 rfl (by first | exact fun _ k => k | exact fun _ k => blk_to rfl rfl k | exact fun _ k => vec_to rfl k | exact fun _ k => blk_of rfl rfl k | exact fun _ k => vec_of rfl k | exact fun _ k => blk_of rfl rfl (blk_to rfl rfl k) | exact fun _ k => vec_of rfl (vec_to rfl k) | exact fun _ k => mp_to rfl k | exact fun _ k => mp_of rfl k | exact fun _ k => mp_of rfl (mp_to rfl k)) (fun h k => sat_pick 0 rfl (by first | exact fun _ k => k | exact fun _ k => blk_to rfl rfl k | exact fun _ k => vec_to rfl k | exact fun _ k => blk_of rfl rfl k | exact fun _ k => vec_of rfl k | exact fun _ k => blk_of rfl rfl (blk_to rfl rfl k) | exact fun _ k => vec_of rfl (vec_to rfl k) | exact fun _ k => mp_to rfl k | exact fun _ k => mp_of rfl k | exact fun _ k => mp_of rfl (mp_to rfl k)) (fun h k => sat_nil k) k) k)⟩
      refine Br.mk (fun g2 => ?_) (fun g2 => ?_)
      · exact ⟨(), Le.of rfl ⟨⟨_, rfl, rfl⟩, ⟨_, rfl, rfl⟩, ⟨_, rfl, rfl⟩, ⟨_, rfl, rfl⟩, ⟨_, rfl, rfl⟩, ⟨_, rfl, rfl⟩, ⟨_, rfl, (by rw [g1, g2]; rfl)⟩, trivial⟩ (fun h k => sat_pick 0 rfl (by first | exact fun _ k => k | exact fun _ k => blk_to rfl rfl k | exact fun _ k => vec_to rfl k | exact fun _ k => blk_of rfl rfl k | exact fun _ k => vec_of rfl k | exact fun _ k => blk_of rfl rfl (blk_to rfl rfl k) | exact fun _ k => vec_of rfl (vec_to rfl k) | exact fun _ k => mp_to rfl k | exact fun _ k => mp_of rfl k | exact fun _ k => mp_of rfl (mp_to rfl k)) (fun h k => sat_pick 0 rfl (by first | exact fun _ k => k | exact fun _ k => blk_to rfl rfl k | exact fun _ k => vec_to rfl k | exact fun _ k => blk_of rfl rfl k | exact fun _ k => vec_of rfl k | exact fun _ k => blk_of rfl rfl (blk_to rfl rfl k) | exact fun _ k => vec_of rfl (vec_to rfl k) | exact fun _ k => mp_to rfl k | exact fun _ k => mp_of rfl k | exact fun _ k => mp_of rfl (mp_to rfl k)) (fun h k => sat_nil k) k) k)⟩
      · exact ⟨(), Le.of rfl ⟨⟨_, rfl, rfl⟩, ⟨_, rfl, rfl⟩, ⟨_, rfl, rfl⟩, ⟨_, rfl, rfl⟩, ⟨_, rfl, rfl⟩, ⟨_, rfl, rfl⟩, ⟨_, rfl, (by rw [g1, g2]; rfl)⟩, trivial⟩ (fun h k => sat_pick 0 rfl (by first | exact fun _ k => k | exact fun _ k => blk_to rfl rfl k | exact fun _ k => vec_to rfl k | exact fun _ k => blk_of rfl rfl k | exact fun _ k => vec_of rfl k | exact fun _ k => blk_of rfl rfl (blk_to rfl rfl k) | exact fun _ k => vec_of rfl (vec_to rfl k) | exact fun _ k => mp_to rfl k | exact fun _ k => mp_of rfl k | exact fun _ k => mp_of rfl (mp_to rfl k)) (fun h k => sat_pick 0 rfl (by first | exact fun _ k => k | exact fun _ k => blk_to rfl rfl k | exact fun _ k => vec_to rfl k | exact fun _ k => blk_of rfl rfl k | exact fun _ k => vec_of rfl k | exact fun _ k => blk_of rfl rfl (blk_to rfl rfl k) | exact fun _ k => vec_of rfl (vec_to rfl k) | exact fun _ k => mp_to rfl k | exact fun _ k => mp_of rfl k | exact fun _ k => mp_of rfl (mp_to rfl k)) (fun h k => sat_nil k) k) k)⟩
    refine CondOb.split (fun g => ?_) (fun g => ?_)
    · have e : x.nexts (0 + 1) = (x.user.at_, true) := by show Al.step (x.nexts 0) x.user = _; unfold Al.step; rw [g]; rfl
      exact ⟨⟨0 + 1, by omega⟩, by show 4 - (0 + 1) < 4 - 0; omega, Le.of rfl ⟨⟨_, rfl, (by rw [e]; rfl)⟩, ⟨_, rfl, (by rw [e]; rfl)⟩, ⟨_, rfl, rfl⟩, ⟨_, rfl, rfl⟩, ⟨_, rfl, rfl⟩, trivial⟩ (fun h k => sat_pick 1 rfl (by first | exact fun _ k => k | exact fun _ k => blk_to rfl rfl k | exact fun _ k => vec_to rfl k | exact fun _ k => blk_of rfl rfl k | exact fun _ k => vec_of rfl k | exact fun _ k => blk_of rfl rfl (blk_to rfl rfl k) | exact fun _ k => vec_of rfl (vec_to rfl k) | exact fun _ k => mp_to rfl k | exact fun _ k => mp_of rfl k | exact fun _ k => mp_of rfl (mp_to rfl k)) (fun h k => sat_nil k) k)⟩
    · have e : x.nexts (0 + 1) = x.nexts 0 := by show Al.step (x.nexts 0) x.user = _; unfold Al.step; rw [g]; rfl
      exact ⟨⟨0 + 1, by omega⟩, by show 4 - (0 + 1) < 4 - 0; omega, Le.of rfl ⟨⟨_, rfl, (by rw [e]; rfl)⟩, ⟨_, rfl, (by rw [e]; rfl)⟩, ⟨_, rfl, rfl⟩, ⟨_, rfl, rfl⟩, ⟨_, rfl, rfl⟩, trivial⟩ (fun h k => sat_pick 1 rfl (by first | exact fun _ k => k | exact fun _ k => blk_to rfl rfl k | exact fun _ k => vec_to rfl k | exact fun _ k => blk_of rfl rfl k | exact fun _ k => vec_of rfl k | exact fun _ k => blk_of rfl rfl (blk_to rfl rfl k) | exact fun _ k => vec_of rfl (vec_to rfl k) | exact fun _ k => mp_to rfl k | exact fun _ k => mp_of rfl k | exact fun _ k => mp_of rfl (mp_to rfl k)) (fun h k => sat_nil k) k)⟩
  | 1, _ =>
    refine CondOb.split (fun _ => ?_) (fun g => absurd g (by simp))
    refine Need.mk (by simp) ?_
    intro b5
    refine RegOb.join Unit (fun _ => ⟨47, [(2, .int .i64 (x.nexts 1).1), (3, .bool (x.nexts 1).2), (24, .sl 0 0 4 4), (25, .int .i64 4), (26, .int .i64 1), (5, .ptr 1 0), (41, .bool (x.wait.set && (!(x.nexts 1).2 || decide (x.wait.at_ < (x.nexts 1).1))))], [(1, .at b5 0), (0, .at bb 0)], 2, [.blk 1 61 x.wait.svs, .blk 0 61 (x.user.svs ++ x.wait.svs ++ x.again.svs ++ x.probe.svs)]⟩) ?_ (fun _ => ?_)
    · refine Br.mk (fun g1 => ?_) (fun g1 => ?_)
      rotate_left
      · exact ⟨(), Le.of rfl ⟨⟨_, rfl, rfl⟩, ⟨_, rfl, rfl⟩, ⟨_, rfl, rfl⟩, ⟨_, rfl, rfl⟩, ⟨_, rfl, rfl⟩, ⟨_, rfl, rfl⟩, ⟨_, rfl, (by rw [g1]; rfl)⟩, trivial⟩ (fun h k => sat_pick 0 rfl (by first | exact fun _ k => k | exact fun _ k => blk_to rfl rfl k | exact fun _ k => vec_to rfl k | exact fun _ k => blk_of rfl rfl k | exact fun _ k => vec_of rfl k | exact fun _ k => blk_of rfl rfl (blk_to rfl rfl k) | exact fun _ k => vec_of rfl (vec_to rfl k) | exact fun _ k => mp_to rfl k | exact fun _ k => mp_of rfl k | exact fun _ k => mp_of rfl (mp_to rfl k)) (fun h k => sat_pick 0 rfl (by first | exact fun _ k => k | exact fun _ k => blk_to rfl rfl k | exact fun _ k => vec_to rfl k | exact fun _ k => blk_of rfl rfl k | exact fun _ k => vec_of rfl k | exact fun _ k => blk_of rfl rfl (blk_to rfl rfl k) | exact fun _ k => vec_of rfl (vec_to rfl k) | exact fun _ k => mp_to rfl k | exact fun _ k => mp_of rfl k | exact fun _ k => mp_of rfl (mp_to rfl k)) (fun h k => sat_nil k) k) k)⟩
      refine Br.mk (fun g2 => ?_) (fun g2 => ?_)
      · exact ⟨(), Le.of rfl ⟨⟨_, rfl, rfl⟩, ⟨_, rfl, rfl⟩, ⟨_, rfl, rfl⟩, ⟨_, rfl, rfl⟩, ⟨_, rfl, rfl⟩, ⟨_, rfl, rfl⟩, ⟨_, rfl, (by rw [g1, g2]; rfl)⟩, trivial⟩ (fun h k => sat_pick 0 rfl (by first | exact fun _ k => k | exact fun _ k => blk_to rfl rfl k | exact fun _ k => vec_to rfl k | exact fun _ k => blk_of rfl rfl k | exact fun _ k => vec_of rfl k | exact fun _ k => blk_of rfl rfl (blk_to rfl rfl k) | exact fun _ k => vec_of rfl (vec_to rfl k) | exact fun _ k => mp_to rfl k | exact fun _ k => mp_of rfl k | exact fun _ k => mp_of rfl (mp_to rfl k)) (fun h k => sat_pick 0 rfl (by first | exact fun _ k => k | exact fun _ k => blk_to rfl rfl k | exact fun _ k => vec_to rfl k | exact fun _ k => blk_of rfl rfl k | exact fun _ k => vec_of rfl k | exact fun _ k => blk_of rfl rfl (blk_to rfl rfl k) | exact fun _ k => vec_of rfl (vec_to rfl k) | exact fun _ k => mp_to rfl k | exact fun _ k => mp_of rfl k | exact fun _ k => mp_of rfl (mp_to rfl k)) (fun h k => sat_nil k) k) k)⟩
      · exact ⟨(), Le.of rfl ⟨⟨_, rfl, rfl⟩, ⟨_, rfl, rfl⟩, ⟨_, rfl, rfl⟩, ⟨_, rfl, rfl⟩, ⟨_, rfl, rfl⟩, ⟨_, rfl, rfl⟩, ⟨_, rfl, (by rw [g1, g2]; rfl)⟩, trivial⟩ (fun h k => sat_pick 0 rfl (by first | exact fun _ k => k | exact fun _ k => blk_to rfl rfl k | exact fun _ k => vec_to rfl k | exact fun _ k => blk_of rfl rfl k | exact fun _ k => vec_of rfl k | exact fun _ k => blk_of rfl rfl (blk_to rfl rfl k) | exact fun _ k => vec_of rfl (vec_to rfl k) | exact fun _ k => mp_to rfl k | exact fun _ k => mp_of rfl k | exact fun _ k => mp_of rfl (mp_to rfl k)) (fun h k => sat_pick 0 rfl (by first | exact fun _ k => k | exact fun _ k => blk_to rfl rfl k | exact fun _ k => vec_to rfl k | exact fun _ k => blk_of rfl rfl k | exact fun _ k => vec_of rfl k | exact fun _ k => blk_of rfl rfl (blk_to rfl rfl k) | exact fun _ k => vec_of rfl (vec_to rfl k) | exact fun _ k => mp_to rfl k | exact fun _ k => mp_of rfl k | exact fun _ k => mp_of rfl (mp_to rfl k)) (fun h k => sat_nil k) k) k)⟩
    refine CondOb.split (fun g => ?_) (fun g => ?_)
    · have e : x.nexts (1 + 1) = (x.wait.at_, true) := by show Al.step (x.nexts 1) x.wait = _; unfold Al.step; rw [g]; rfl
      exact ⟨⟨1 + 1, by omega⟩, by show 4 - (1 + 1) < 4 - 1; omega, Le.of rfl ⟨⟨_, rfl, (by rw [e]; rfl)⟩, ⟨_, rfl, (by rw [e]; rfl)⟩, ⟨_, rfl, rfl⟩, ⟨_, rfl, rfl⟩, ⟨_, rfl, rfl⟩, trivial⟩ (fun h k => sat_pick 1 rfl (by first | exact fun _ k => k | exact fun _ k => blk_to rfl rfl k | exact fun _ k => vec_to rfl k | exact fun _ k => blk_of rfl rfl k | exact fun _ k => vec_of rfl k | exact fun _ k => blk_of rfl rfl (blk_to rfl rfl k) | exact fun _ k => vec_of rfl (vec_to rfl k) | exact fun _ k => mp_to rfl k | exact fun _ k => mp_of rfl k | exact fun _ k => mp_of rfl (mp_to rfl k)) (fun h k => sat_nil k) k)⟩
    · have e : x.nexts (1 + 1) = x.nexts 1 := by show Al.step (x.nexts 1) x.wait = _; unfold Al.step; rw [g]; rfl
      exact ⟨⟨1 + 1, by omega⟩, by show 4 - (1 + 1) < 4 - 1; omega, Le.of rfl ⟨⟨_, rfl, (by rw [e]; rfl)⟩, ⟨_, rfl, (by rw [e]; rfl)⟩, ⟨_, rfl, rfl⟩, ⟨_, rfl, rfl⟩, ⟨_, rfl, rfl⟩, trivial⟩ (fun h k => sat_pick 1 rfl (by first | exact fun _ k => k | exact fun _ k => blk_to rfl rfl k | exact fun _ k => vec_to rfl k | exact fun _ k => blk_of rfl rfl k | exact fun _ k => vec_of rfl k | exact fun _ k => blk_of rfl rfl (blk_to rfl rfl k) | exact fun _ k => vec_of rfl (vec_to rfl k) | exact fun _ k => mp_to rfl k | exact fun _ k => mp_of rfl k | exact fun _ k => mp_of rfl (mp_to rfl k)) (fun h k => sat_nil k) k)⟩
  | 2, _ =>
    refine CondOb.split (fun _ => ?_) (fun g => absurd g (by simp))
    refine Need.mk (by simp) ?_
    intro b5
    refine RegOb.join Unit (fun _ => ⟨47, [(2, .int .i64 (x.nexts 2).1), (3, .bool (x.nexts 2).2), (24, .sl 0 0 4 4), (25, .int .i64 4), (26, .int .i64 2), (5, .ptr 1 0), (41, .bool (x.again.set && (!(x.nexts 2).2 || decide (x.again.at_ < (x.nexts 2).1))))], [(1, .at b5 0), (0, .at bb 0)], 2, [.blk 1 61 x.again.svs, .blk 0 61 (x.user.svs ++ x.wait.svs ++ x.again.svs ++ x.probe.svs)]⟩) ?_ (fun _ => ?_)
    · refine Br.mk (fun g1 => ?_) (fun g1 => ?_)
      rotate_left
      · exact ⟨(), Le.of rfl ⟨⟨_, rfl, rfl⟩, ⟨_, rfl, rfl⟩, ⟨_, rfl, rfl⟩, ⟨_, rfl, rfl⟩, ⟨_, rfl, rfl⟩, ⟨_, rfl, rfl⟩, ⟨_, rfl, (by rw [g1]; rfl)⟩, trivial⟩ (fun h k => sat_pick 0 rfl (by first | exact fun _ k => k | exact fun _ k => blk_to rfl rfl k | exact fun _ k => vec_to rfl k | exact fun _ k => blk_of rfl rfl k | exact fun _ k => vec_of rfl k | exact fun _ k => blk_of rfl rfl (blk_to rfl rfl k) | exact fun _ k => vec_of rfl (vec_to rfl k) | exact fun _ k => mp_to rfl k | exact fun _ k => mp_of rfl k | exact fun _ k => mp_of rfl (mp_to rfl k)) (fun h k => sat_pick 0 rfl (by first | exact fun _ k => k | exact fun _ k => blk_to rfl rfl k | exact fun _ k => vec_to rfl k | exact fun _ k => blk_of rfl rfl k | exact fun _ k => vec_of rfl k | exact fun _ k => blk_of rfl rfl (blk_to rfl rfl k) | exact fun _ k => vec_of rfl (vec_to rfl k) | exact fun _ k => mp_to rfl k | exact fun _ k => mp_of rfl k | exact fun _ k => mp_of rfl (mp_to rfl k)) (fun h k => sat_nil k) k) k)⟩
      refine Br.mk (fun g2 => ?_) (fun g2 => ?_)
      · exact ⟨(), Le.of rfl ⟨⟨_, rfl, rfl⟩, ⟨_, rfl, rfl⟩, ⟨_, rfl, rfl⟩, ⟨_, rfl, rfl⟩, ⟨_, rfl, rfl⟩, ⟨_, rfl, rfl⟩, ⟨_, rfl, (by rw [g1, g2]; rfl)⟩, trivial⟩ (fun h k => sat_pick 0 rfl (by first | exact fun _ k => k | exact fun _ k => blk_to rfl rfl k | exact fun _ k => vec_to rfl k | exact fun _ k => blk_of rfl rfl k | exact fun _ k => vec_of rfl k | exact fun _ k => blk_of rfl rfl (blk_to rfl rfl k) | exact fun _ k => vec_of rfl (vec_to rfl k) | exact fun _ k => mp_to rfl k | exact fun _ k => mp_of rfl k | exact fun _ k => mp_of rfl (mp_to rfl k)) (fun h k => sat_pick 0 rfl (by first | exact fun _ k => k | exact fun _ k => blk_to rfl rfl k | exact fun _ k => vec_to rfl k | exact fun _ k => blk_of rfl rfl k | exact fun _ k => vec_of rfl k | exact fun _ k => blk_of rfl rfl (blk_to rfl rfl k) | exact fun _ k => vec_of rfl (vec_to rfl k) | exact fun _ k => mp_to rfl k | exact fun _ k => mp_of rfl k | exact fun _ k => mp_of rfl (mp_to rfl k)) (fun h k => sat_nil k) k) k)⟩
      · exact ⟨(), Le.of rfl ⟨⟨_, rfl, rfl⟩, ⟨_, rfl, rfl⟩, ⟨_, rfl, rfl⟩, ⟨_, rfl, rfl⟩, ⟨_, rfl, rfl⟩, ⟨_, rfl, rfl⟩, ⟨_, rfl, (by rw [g1, g2]; rfl)⟩, trivial⟩ (fun h k => sat_pick 0 rfl (by first | exact fun _ k => k | exact fun _ k => blk_to rfl rfl k | exact fun _ k => vec_to rfl k | exact fun _ k => blk_of rfl rfl k | exact fun _ k => vec_of rfl k | exact fun _ k => blk_of rfl rfl (blk_to rfl rfl k) | exact fun _ k => vec_of rfl (vec_to rfl k) | exact fun _ k => mp_to rfl k | exact fun _ k => mp_of rfl k | exact fun _ k => mp_of rfl (mp_to rfl k)) (fun h k => sat_pick 0 rfl (by first | exact fun _ k => k | exact fun _ k => blk_to rfl rfl k | exact fun _ k => vec_to rfl k | exact fun _ k => blk_of rfl rfl k | exact fun _ k => vec_of rfl k | exact fun _ k => blk_of rfl rfl (blk_to rfl rfl k) | exact fun _ k => vec_of rfl (vec_to rfl k) | exact fun _ k => mp_to rfl k | exact fun _ k => mp_of rfl k | exact fun _ k => mp_of rfl (mp_to rfl k)) (fun h k => sat_nil k) k) k)⟩
    refine CondOb.split (fun g => ?_) (fun g => ?_)
    · have e : x.nexts (2 + 1) = (x.again.at_, true) := by show Al.step (x.nexts 2) x.again = _; unfold Al.step; rw [g]; rfl
      exact ⟨⟨2 + 1, by omega⟩, by show 4 - (2 + 1) < 4 - 2; omega, Le.of rfl ⟨⟨_, rfl, (by rw [e]; rfl)⟩, ⟨_, rfl, (by rw [e]; rfl)⟩, ⟨_, rfl, rfl⟩, ⟨_, rfl, rfl⟩, ⟨_, rfl, rfl⟩, trivial⟩ (fun h k => sat_pick 1 rfl (by first | exact fun _ k => k | exact fun _ k => blk_to rfl rfl k | exact fun _ k => vec_to rfl k | exact fun _ k => blk_of rfl rfl k | exact fun _ k => vec_of rfl k | exact fun _ k => blk_of rfl rfl (blk_to rfl rfl k) | exact fun _ k => vec_of rfl (vec_to rfl k) | exact fun _ k => mp_to rfl k | exact fun _ k => mp_of rfl k | exact fun _ k => mp_of rfl (mp_to rfl k)) (fun h k => sat_nil k) k)⟩
    · have e : x.nexts (2 + 1) = x.nexts 2 := by show Al.step (x.nexts 2) x.again = _; unfold Al.step; rw [g]; rfl
      exact ⟨⟨2 + 1, by omega⟩, by show 4 - (2 + 1) < 4 - 2; omega, Le.of rfl ⟨⟨_, rfl, (by rw [e]; rfl)⟩, ⟨_, rfl, (by rw [e]; rfl)⟩, ⟨_, rfl, rfl⟩, ⟨_, rfl, rfl⟩, ⟨_, rfl, rfl⟩, trivial⟩ (fun h k => sat_pick 1 rfl (by first | exact fun _ k => k | exact fun _ k => blk_to rfl rfl k | exact fun _ k => vec_to rfl k | exact fun _ k => blk_of rfl rfl k | exact fun _ k => vec_of rfl k | exact fun _ k => blk_of rfl rfl (blk_to rfl rfl k) | exact fun _ k => vec_of rfl (vec_to rfl k) | exact fun _ k => mp_to rfl k | exact fun _ k => mp_of rfl k | exact fun _ k => mp_of rfl (mp_to rfl k)) (fun h k => sat_nil k) k)⟩
  | 3, _ =>
    refine CondOb.split (fun _ => ?_) (fun g => absurd g (by simp))
    refine Need.mk (by simp) ?_
    intro b5
    refine RegOb.join Unit (fun _ => ⟨47, [(2, .int .i64 (x.nexts 3).1), (3, .bool (x.nexts 3).2), (24, .sl 0 0 4 4), (25, .int .i64 4), (26, .int .i64 3), (5, .ptr 1 0), (41, .bool (x.probe.set && (!(x.nexts 3).2 || decide (x.probe.at_ < (x.nexts 3).1))))], [(1, .at b5 0), (0, .at bb 0)], 2, [.blk 1 61 x.probe.svs, .blk 0 61 (x.user.svs ++ x.wait.svs ++ x.again.svs ++ x.probe.svs)]⟩) ?_ (fun _ => ?_)
    · refine Br.mk (fun g1 => ?_) (fun g1 => ?_)
      rotate_left
      · exact ⟨(), Le.of rfl ⟨⟨_, rfl, rfl⟩, ⟨_, rfl, rfl⟩, ⟨_, rfl, rfl⟩, ⟨_, rfl, rfl⟩, ⟨_, rfl, rfl⟩, ⟨_, rfl, rfl⟩, ⟨_, rfl, (by rw [g1]; rfl)⟩, trivial⟩ (fun h k => sat_pick 0 rfl (by first | exact fun _ k => k | exact fun _ k => blk_to rfl rfl k | exact fun _ k => vec_to rfl k | exact fun _ k => blk_of rfl rfl k | exact fun _ k => vec_of rfl k | exact fun _ k => blk_of rfl rfl (blk_to rfl rfl k) | exact fun _ k => vec_of rfl (vec_to rfl k) | exact fun _ k => mp_to rfl k | exact fun _ k => mp_of rfl k | exact fun _ k => mp_of rfl (mp_to rfl k)) (fun h k => sat_pick 0 rfl (by first | exact fun _ k => k | exact fun _ k => blk_to rfl rfl k | exact fun _ k => vec_to rfl k | exact fun _ k => blk_of rfl rfl k | exact fun _ k => vec_of rfl k | exact fun _ k => blk_of rfl rfl (blk_to rfl rfl k) | exact fun _ k => vec_of rfl (vec_to rfl k) | exact fun _ k => mp_to rfl k | exact fun _ k => mp_of rfl k | exact fun _ k => mp_of rfl (mp_to rfl k)) (fun h k => sat_nil k) k) k)⟩
      refine Br.mk (fun g2 => ?_) (fun g2 => ?_)
      · exact ⟨(), Le.of rfl ⟨⟨_, rfl, rfl⟩, ⟨_, rfl, rfl⟩, ⟨_, rfl, rfl⟩, ⟨_, rfl, rfl⟩, ⟨_, rfl, rfl⟩, ⟨_, rfl, rfl⟩, ⟨_, rfl, (by rw [g1, g2]; rfl)⟩, trivial⟩ (fun h k => sat_pick 0 rfl (by first | exact fun _ k => k | exact fun _ k => blk_to rfl rfl k | exact fun _ k => vec_to rfl k | exact fun _ k => blk_of rfl rfl k | exact fun _ k => vec_of rfl k | exact fun _ k => blk_of rfl rfl (blk_to rfl rfl k) | exact fun _ k => vec_of rfl (vec_to rfl k) | exact fun _ k => mp_to rfl k | exact fun _ k => mp_of rfl k | exact fun _ k => mp_of rfl (mp_to rfl k)) (fun h k => sat_pick 0 rfl (by first | exact fun _ k => k | exact fun _ k => blk_to rfl rfl k | exact fun _ k => vec_to rfl k | exact fun _ k => blk_of rfl rfl k | exact fun _ k => vec_of rfl k | exact fun _ k => blk_of rfl rfl (blk_to rfl rfl k) | exact fun _ k => vec_of rfl (vec_to rfl k) | exact fun _ k => mp_to rfl k | exact fun _ k => mp_of rfl k | exact fun _ k => mp_of rfl (mp_to rfl k)) (fun h k => sat_nil k) k) k)⟩
      · exact ⟨(), Le.of rfl ⟨⟨_, rfl, rfl⟩, ⟨_, rfl, rfl⟩, ⟨_, rfl, rfl⟩, ⟨_, rfl, rfl⟩, ⟨_, rfl, rfl⟩, ⟨_, rfl, rfl⟩, ⟨_, rfl, (by rw [g1, g2]; rfl)⟩, trivial⟩ (fun h k => sat_pick 0 rfl (by first | exact fun _ k => k | exact fun _ k => blk_to rfl rfl k | exact fun _ k => vec_to rfl k | exact fun _ k => blk_of rfl rfl k | exact fun _ k => vec_of rfl k | exact fun _ k => blk_of rfl rfl (blk_to rfl rfl k) | exact fun _ k => vec_of rfl (vec_to rfl k) | exact fun _ k => mp_to rfl k | exact fun _ k => mp_of rfl k | exact fun _ k => mp_of rfl (mp_to rfl k)) (fun h k => sat_pick 0 rfl (by first | exact fun _ k => k | exact fun _ k => blk_to rfl rfl k | exact fun _ k => vec_to rfl k | exact fun _ k => blk_of rfl rfl k | exact fun _ k => vec_of rfl k | exact fun _ k => blk_of rfl rfl (blk_to rfl rfl k) | exact fun _ k => vec_of rfl (vec_to rfl k) | exact fun _ k => mp_to rfl k | exact fun _ k => mp_of rfl k | exact fun _ k => mp_of rfl (mp_to rfl k)) (fun h k => sat_nil k) k) k)⟩
    refine CondOb.split (fun g => ?_) (fun g => ?_)
    · have e : x.nexts (3 + 1) = (x.probe.at_, true) := by show Al.step (x.nexts 3) x.probe = _; unfold Al.step; rw [g]; rfl
      exact ⟨⟨3 + 1, by omega⟩, by show 4 - (3 + 1) < 4 - 3; omega, Le.of rfl ⟨⟨_, rfl, (by rw [e]; rfl)⟩, ⟨_, rfl, (by rw [e]; rfl)⟩, ⟨_, rfl, rfl⟩, ⟨_, rfl, rfl⟩, ⟨_, rfl, rfl⟩, trivial⟩ (fun h k => sat_pick 1 rfl (by first | exact fun _ k => k | exact fun _ k => blk_to rfl rfl k | exact fun _ k => vec_to rfl k | exact fun _ k => blk_of rfl rfl k | exact fun _ k => vec_of rfl k | exact fun _ k => blk_of rfl rfl (blk_to rfl rfl k) | exact fun _ k => vec_of rfl (vec_to rfl k) | exact fun _ k => mp_to rfl k | exact fun _ k => mp_of rfl k | exact fun _ k => mp_of rfl (mp_to rfl k)) (fun h k => sat_nil k) k)⟩
    · have e : x.nexts (3 + 1) = x.nexts 3 := by show Al.step (x.nexts 3) x.probe = _; unfold Al.step; rw [g]; rfl
      exact ⟨⟨3 + 1, by omega⟩, by show 4 - (3 + 1) < 4 - 3; omega, Le.of rfl ⟨⟨_, rfl, (by rw [e]; rfl)⟩, ⟨_, rfl, (by rw [e]; rfl)⟩, ⟨_, rfl, rfl⟩, ⟨_, rfl, rfl⟩, ⟨_, rfl, rfl⟩, trivial⟩ (fun h k => sat_pick 1 rfl (by first | exact fun _ k => k | exact fun _ k => blk_to rfl rfl k | exact fun _ k => vec_to rfl k | exact fun _ k => blk_of rfl rfl k | exact fun _ k => vec_of rfl k | exact fun _ k => blk_of rfl rfl (blk_to rfl rfl k) | exact fun _ k => vec_of rfl (vec_to rfl k) | exact fun _ k => mp_to rfl k | exact fun _ k => mp_of rfl k | exact fun _ k => mp_of rfl (mp_to rfl k)) (fun h k => sat_nil k) k)⟩
  | 4, _ =>
    refine CondOb.split (fun g => absurd g (by simp)) (fun _ => ?_)
    exact FinOb.mk [.int .i64 x.next.1, .bool x.next.2] [] rfl (fun h k => trivial) ⟨rfl, rfl⟩
end Go.Proofs.Ytljgcapejcnmgaa.Tc
