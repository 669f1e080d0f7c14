/- route: RouteWider's walk; the arguments of the laws. Conditions: none. -/
import Derived.Test.YtjppphldiaonkaaRuF
namespace Go.Proofs.Ytjppphldiaonkaa.Rt
open Go Go.Proofs Sx
set_option maxRecDepth 100000
set_option linter.unusedVariables false
set_option linter.unusedSimpArgs false
set_option maxHeartbeats 4000000

def eqB (y z : R) : Bool := y.net == z.net && (y.bits == z.bits && (y.via == z.via && (y.iface == z.iface && (y.cost == z.cost && true))))
theorem eqB_iff {y z : R} : eqB y z = true ↔ y = z := by
  obtain ⟨a1, a2, a3, a4, a5⟩ := y
  obtain ⟨b1, b2, b3, b4, b5⟩ := z
  simp [eqB]
theorem eqB_no {y z : R} (h : eqB y z = false) : y ≠ z := fun e => by rw [eqB_iff.2 e] at h; cases h
theorem wider_spec (B : Option Addr) (cp : Nat) (acts : List A) (hok : ∀ a ∈ acts, a.r.Ok) (x : R) (ok : x.Ok) (a : Int) (a0 : 0 ≤ a) (a1 : a ≤ 4294967295) :
    Does Try.prog 3 #[.slice B acts.length cp, .agg x.vals.toArray, .int .u32 a] (fun f => Reads f B (AL.flat acts)) [] (fun v p => v = .bool true ∧ p = []) := by
  refine Does.ofJ Try.func3 Try.call3 rfl [.raw (.slice B acts.length cp), .agg x.svs, .int .u32 a] [] 0 [] rfl rfl (fun h k => k) (fun f hR => ?_)
  intro b4
  refine CondOb.split (fun g => ?_) (fun g => ?_)
  · refine useP .tt live_spec rfl rfl ?_
    exact FinOb.mk [.bool true] [] rfl (fun h k => trivial) ⟨rfl, rfl⟩
  have g : acts.length ≤ 150 := by
    have g := of_decide_eq_false g
    have : ¬ (150 : Int) < acts.length := g
    omega
  refine call_ix (played_spec B cp acts hok (by omega)) rfl [] (fun h k => k) (fun f' b' hs kb => hR.frame hs) ?_
  rintro v post ⟨tb, n, T, l, pl, c, rfl, hj, hr, hlc, rfl⟩
  refine ⟨.tuple [.raw (.pointer (some ⟨tb, 0, none⟩)), .sl 1 0 l.length c, .tt], (1, pl) :: _, 2, [.asn (Bs n T), .asn (Vs T), .vec 1 26 5 c (RL.flat l)], NmExt.push rfl, rfl, (fun h k => sat_pick 0 rfl (by first | exact fun _ k => k | exact fun _ k => blk_to rfl rfl k | exact fun _ k => vec_to rfl k | exact fun _ k => blk_of rfl rfl k | exact fun _ k => vec_of rfl k | exact fun _ k => blk_of rfl rfl (blk_to rfl rfl k) | exact fun _ k => vec_of rfl (vec_to rfl k) | exact fun _ k => mp_to rfl k | exact fun _ k => mp_of rfl k | exact fun _ k => mp_of rfl (mp_to rfl k)) (fun h k => sat_pick 0 rfl (by first | exact fun _ k => k | exact fun _ k => blk_to rfl rfl k | exact fun _ k => vec_to rfl k | exact fun _ k => blk_of rfl rfl k | exact fun _ k => vec_of rfl k | exact fun _ k => blk_of rfl rfl (blk_to rfl rfl k) | exact fun _ k => vec_of rfl (vec_to rfl k) | exact fun _ k => mp_to rfl k | exact fun _ k => mp_of rfl k | exact fun _ k => mp_of rfl (mp_to rfl k)) (fun h k => sat_pick 0 rfl (fun _ k => vec_of rfl k) (fun h k => sat_nil k) k) k) k), ?_⟩
  have hf1 := find_spec tb n T hj.ti hj.few a a0 a1
  refine call_ix hf1 rfl [0, 0] (fun h k => sat_pick 0 rfl (by first | exact fun _ k => k | exact fun _ k => blk_to rfl rfl k | exact fun _ k => vec_to rfl k | exact fun _ k => blk_of rfl rfl k | exact fun _ k => vec_of rfl k | exact fun _ k => blk_of rfl rfl (blk_to rfl rfl k) | exact fun _ k => vec_of rfl (vec_to rfl k) | exact fun _ k => mp_to rfl k | exact fun _ k => mp_of rfl k | exact fun _ k => mp_of rfl (mp_to rfl k)) (fun h k => sat_pick 0 rfl (by first | exact fun _ k => k | exact fun _ k => blk_to rfl rfl k | exact fun _ k => vec_to rfl k | exact fun _ k => blk_of rfl rfl k | exact fun _ k => vec_of rfl k | exact fun _ k => blk_of rfl rfl (blk_to rfl rfl k) | exact fun _ k => vec_of rfl (vec_to rfl k) | exact fun _ k => mp_to rfl k | exact fun _ k => mp_of rfl k | exact fun _ k => mp_of rfl (mp_to rfl k)) (fun h k => sat_pick 0 rfl (by first | exact fun _ k => k | exact fun _ k => blk_to rfl rfl k | exact fun _ k => vec_to rfl k | exact fun _ k => blk_of rfl rfl k | exact fun _ k => vec_of rfl k | exact fun _ k => blk_of rfl rfl (blk_to rfl rfl k) | exact fun _ k => vec_of rfl (vec_to rfl k) | exact fun _ k => mp_to rfl k | exact fun _ k => mp_of rfl k | exact fun _ k => mp_of rfl (mp_to rfl k)) (fun h k => sat_pick 0 rfl (by first | exact fun _ k => k | exact fun _ k => blk_to rfl rfl k | exact fun _ k => vec_to rfl k | exact fun _ k => blk_of rfl rfl k | exact fun _ k => vec_of rfl k | exact fun _ k => blk_of rfl rfl (blk_to rfl rfl k) | exact fun _ k => vec_of rfl (vec_to rfl k) | exact fun _ k => mp_to rfl k | exact fun _ k => mp_of rfl k | exact fun _ k => mp_of rfl (mp_to rfl k)) (fun h k => sat_nil k) k) k) k) k) (fun _ _ _ _ => trivial) ?_
  rintro v post ⟨rfl, rfl⟩
  refine ⟨.tuple [.agg (find1 (accW T a 33)).1.svs, .int .i64 (find1 (accW T a 33)).2], _, 2, [.asn (Bs n T), .asn (Vs T)], NmExt.refl _, rfl, (fun h k => sat_pick 0 rfl (by first | exact fun _ k => k | exact fun _ k => blk_to rfl rfl k | exact fun _ k => vec_to rfl k | exact fun _ k => blk_of rfl rfl k | exact fun _ k => vec_of rfl k | exact fun _ k => blk_of rfl rfl (blk_to rfl rfl k) | exact fun _ k => vec_of rfl (vec_to rfl k) | exact fun _ k => mp_to rfl k | exact fun _ k => mp_of rfl k | exact fun _ k => mp_of rfl (mp_to rfl k)) (fun h k => sat_pick 0 rfl (by first | exact fun _ k => k | exact fun _ k => blk_to rfl rfl k | exact fun _ k => vec_to rfl k | exact fun _ k => blk_of rfl rfl k | exact fun _ k => vec_of rfl k | exact fun _ k => blk_of rfl rfl (blk_to rfl rfl k) | exact fun _ k => vec_of rfl (vec_to rfl k) | exact fun _ k => mp_to rfl k | exact fun _ k => mp_of rfl k | exact fun _ k => mp_of rfl (mp_to rfl k)) (fun h k => sat_nil k) k) k), ?_⟩
  intro b11
  refine call_ix (add_spec tb n T hj x ok) rfl [1, 1] (fun h k => sat_pick 1 rfl (by first | exact fun _ k => k | exact fun _ k => blk_to rfl rfl k | exact fun _ k => vec_to rfl k | exact fun _ k => blk_of rfl rfl k | exact fun _ k => vec_of rfl k | exact fun _ k => blk_of rfl rfl (blk_to rfl rfl k) | exact fun _ k => vec_of rfl (vec_to rfl k) | exact fun _ k => mp_to rfl k | exact fun _ k => mp_of rfl k | exact fun _ k => mp_of rfl (mp_to rfl k)) (fun h k => sat_pick 1 rfl (by first | exact fun _ k => k | exact fun _ k => blk_to rfl rfl k | exact fun _ k => vec_to rfl k | exact fun _ k => blk_of rfl rfl k | exact fun _ k => vec_of rfl k | exact fun _ k => blk_of rfl rfl (blk_to rfl rfl k) | exact fun _ k => vec_of rfl (vec_to rfl k) | exact fun _ k => mp_to rfl k | exact fun _ k => mp_of rfl k | exact fun _ k => mp_of rfl (mp_to rfl k)) (fun h k => sat_pick 0 rfl (by first | exact fun _ k => k | exact fun _ k => blk_to rfl rfl k | exact fun _ k => vec_to rfl k | exact fun _ k => blk_of rfl rfl k | exact fun _ k => vec_of rfl k | exact fun _ k => blk_of rfl rfl (blk_to rfl rfl k) | exact fun _ k => vec_of rfl (vec_to rfl k) | exact fun _ k => mp_to rfl k | exact fun _ k => mp_of rfl k | exact fun _ k => mp_of rfl (mp_to rfl k)) (fun h k => sat_pick 0 rfl (by first | exact fun _ k => k | exact fun _ k => blk_to rfl rfl k | exact fun _ k => vec_to rfl k | exact fun _ k => blk_of rfl rfl k | exact fun _ k => vec_of rfl k | exact fun _ k => blk_of rfl rfl (blk_to rfl rfl k) | exact fun _ k => vec_of rfl (vec_to rfl k) | exact fun _ k => mp_to rfl k | exact fun _ k => mp_of rfl k | exact fun _ k => mp_of rfl (mp_to rfl k)) (fun h k => sat_pick 0 rfl (by first | exact fun _ k => k | exact fun _ k => blk_to rfl rfl k | exact fun _ k => vec_to rfl k | exact fun _ k => blk_of rfl rfl k | exact fun _ k => vec_of rfl k | exact fun _ k => blk_of rfl rfl (blk_to rfl rfl k) | exact fun _ k => vec_of rfl (vec_to rfl k) | exact fun _ k => mp_to rfl k | exact fun _ k => mp_of rfl k | exact fun _ k => mp_of rfl (mp_to rfl k)) (fun h k => sat_nil k) k) k) k) k) k) (fun _ _ _ _ => trivial) ?_
  rintro v post ⟨e, T1, n1, rfl, ht1, hj1, rfl⟩
  have hwide := wide_all hj.ti hj1.ti hr ht1 a
  refine ⟨.int .i64 e, _, 3, [.asn (Bs n1 T1), .asn (Vs T1)], NmExt.refl _, rfl, (fun h k => sat_pick 0 rfl (by first | exact fun _ k => k | exact fun _ k => blk_to rfl rfl k | exact fun _ k => vec_to rfl k | exact fun _ k => blk_of rfl rfl k | exact fun _ k => vec_of rfl k | exact fun _ k => blk_of rfl rfl (blk_to rfl rfl k) | exact fun _ k => vec_of rfl (vec_to rfl k) | exact fun _ k => mp_to rfl k | exact fun _ k => mp_of rfl k | exact fun _ k => mp_of rfl (mp_to rfl k)) (fun h k => sat_pick 0 rfl (by first | exact fun _ k => k | exact fun _ k => blk_to rfl rfl k | exact fun _ k => vec_to rfl k | exact fun _ k => blk_of rfl rfl k | exact fun _ k => vec_of rfl k | exact fun _ k => blk_of rfl rfl (blk_to rfl rfl k) | exact fun _ k => vec_of rfl (vec_to rfl k) | exact fun _ k => mp_to rfl k | exact fun _ k => mp_of rfl k | exact fun _ k => mp_of rfl (mp_to rfl k)) (fun h k => sat_nil k) k) k), ?_⟩
  refine call_ix (find_spec tb n1 T1 hj1.ti hj1.few a a0 a1) rfl [0, 0] (fun h k => sat_pick 0 rfl (by first | exact fun _ k => k | exact fun _ k => blk_to rfl rfl k | exact fun _ k => vec_to rfl k | exact fun _ k => blk_of rfl rfl k | exact fun _ k => vec_of rfl k | exact fun _ k => blk_of rfl rfl (blk_to rfl rfl k) | exact fun _ k => vec_of rfl (vec_to rfl k) | exact fun _ k => mp_to rfl k | exact fun _ k => mp_of rfl k | exact fun _ k => mp_of rfl (mp_to rfl k)) (fun h k => sat_pick 0 rfl (by first | exact fun _ k => k | exact fun _ k => blk_to rfl rfl k | exact fun _ k => vec_to rfl k | exact fun _ k => blk_of rfl rfl k | exact fun _ k => vec_of rfl k | exact fun _ k => blk_of rfl rfl (blk_to rfl rfl k) | exact fun _ k => vec_of rfl (vec_to rfl k) | exact fun _ k => mp_to rfl k | exact fun _ k => mp_of rfl k | exact fun _ k => mp_of rfl (mp_to rfl k)) (fun h k => sat_pick 0 rfl (by first | exact fun _ k => k | exact fun _ k => blk_to rfl rfl k | exact fun _ k => vec_to rfl k | exact fun _ k => blk_of rfl rfl k | exact fun _ k => vec_of rfl k | exact fun _ k => blk_of rfl rfl (blk_to rfl rfl k) | exact fun _ k => vec_of rfl (vec_to rfl k) | exact fun _ k => mp_to rfl k | exact fun _ k => mp_of rfl k | exact fun _ k => mp_of rfl (mp_to rfl k)) (fun h k => sat_pick 0 rfl (by first | exact fun _ k => k | exact fun _ k => blk_to rfl rfl k | exact fun _ k => vec_to rfl k | exact fun _ k => blk_of rfl rfl k | exact fun _ k => vec_of rfl k | exact fun _ k => blk_of rfl rfl (blk_to rfl rfl k) | exact fun _ k => vec_of rfl (vec_to rfl k) | exact fun _ k => mp_to rfl k | exact fun _ k => mp_of rfl k | exact fun _ k => mp_of rfl (mp_to rfl k)) (fun h k => sat_pick 0 rfl (by first | exact fun _ k => k | exact fun _ k => blk_to rfl rfl k | exact fun _ k => vec_to rfl k | exact fun _ k => blk_of rfl rfl k | exact fun _ k => vec_of rfl k | exact fun _ k => blk_of rfl rfl (blk_to rfl rfl k) | exact fun _ k => vec_of rfl (vec_to rfl k) | exact fun _ k => mp_to rfl k | exact fun _ k => mp_of rfl k | exact fun _ k => mp_of rfl (mp_to rfl k)) (fun h k => sat_nil k) k) k) k) k) k) (fun _ _ _ _ => trivial) ?_
  rintro v post ⟨rfl, rfl⟩
  refine ⟨.tuple [.agg (find1 (accW T1 a 33)).1.svs, .int .i64 (find1 (accW T1 a 33)).2], _, 3, [.asn (Bs n1 T1), .asn (Vs T1)], NmExt.refl _, rfl, (fun h k => sat_pick 0 rfl (by first | exact fun _ k => k | exact fun _ k => blk_to rfl rfl k | exact fun _ k => vec_to rfl k | exact fun _ k => blk_of rfl rfl k | exact fun _ k => vec_of rfl k | exact fun _ k => blk_of rfl rfl (blk_to rfl rfl k) | exact fun _ k => vec_of rfl (vec_to rfl k) | exact fun _ k => mp_to rfl k | exact fun _ k => mp_of rfl k | exact fun _ k => mp_of rfl (mp_to rfl k)) (fun h k => sat_pick 0 rfl (by first | exact fun _ k => k | exact fun _ k => blk_to rfl rfl k | exact fun _ k => vec_to rfl k | exact fun _ k => blk_of rfl rfl k | exact fun _ k => vec_of rfl k | exact fun _ k => blk_of rfl rfl (blk_to rfl rfl k) | exact fun _ k => vec_of rfl (vec_to rfl k) | exact fun _ k => mp_to rfl k | exact fun _ k => mp_of rfl k | exact fun _ k => mp_of rfl (mp_to rfl k)) (fun h k => sat_nil k) k) k), ?_⟩
  generalize find1 (accW T a 33) = p at *
  generalize find1 (accW T1 a 33) = q at *
  intro b14
  refine RegOb.join Unit (fun _ => ⟨103, [(58, .bool (decide (e = 0 ∧ p.2 = 0 ∧ p.1.bits ≤ x.bits))), (12, .int .i64 p.2), (15, .int .i64 q.2), (14, .ptr 3 0), (11, .ptr 2 0), (4, .ptr 0 0)], [(3, .at b14 0), (2, .at b11 0), (1, pl), (0, .at b4 0)], 4, [.blk 3 26 q.1.svs, .blk 2 26 p.1.svs, .blk 0 26 x.svs]⟩) ?_ (fun _ => ?_)
  · refine useP (.int .i64 e) (code_spec e) rfl rfl ?_
    refine Br.mk (fun h1 => ?_) (fun h1 => ?_)
    rotate_left
    · have h1 : ¬ e = 0 := by simpa using h1
      exact ⟨(), Le.of rfl ⟨⟨_, rfl, (congrArg (fun x => some (Value.bool x)) (by simp [h1]))⟩, ⟨_, rfl, rfl⟩, ⟨_, rfl, rfl⟩, ⟨_, rfl, rfl⟩, ⟨_, rfl, rfl⟩, ⟨_, rfl, rfl⟩, trivial⟩ (fun h k => sat_pick 0 rfl (by first | exact fun _ k => k | exact fun _ k => blk_to rfl rfl k | exact fun _ k => vec_to rfl k | exact fun _ k => blk_of rfl rfl k | exact fun _ k => vec_of rfl k | exact fun _ k => blk_of rfl rfl (blk_to rfl rfl k) | exact fun _ k => vec_of rfl (vec_to rfl k) | exact fun _ k => mp_to rfl k | exact fun _ k => mp_of rfl k | exact fun _ k => mp_of rfl (mp_to rfl k)) (fun h k => sat_pick 2 rfl (by first | exact fun _ k => k | exact fun _ k => blk_to rfl rfl k | exact fun _ k => vec_to rfl k | exact fun _ k => blk_of rfl rfl k | exact fun _ k => vec_of rfl k | exact fun _ k => blk_of rfl rfl (blk_to rfl rfl k) | exact fun _ k => vec_of rfl (vec_to rfl k) | exact fun _ k => mp_to rfl k | exact fun _ k => mp_of rfl k | exact fun _ k => mp_of rfl (mp_to rfl k)) (fun h k => sat_pick 3 rfl (by first | exact fun _ k => k | exact fun _ k => blk_to rfl rfl k | exact fun _ k => vec_to rfl k | exact fun _ k => blk_of rfl rfl k | exact fun _ k => vec_of rfl k | exact fun _ k => blk_of rfl rfl (blk_to rfl rfl k) | exact fun _ k => vec_of rfl (vec_to rfl k) | exact fun _ k => mp_to rfl k | exact fun _ k => mp_of rfl k | exact fun _ k => mp_of rfl (mp_to rfl k)) (fun h k => sat_nil k) k) k) k)⟩
    have h1 : e = 0 := by simpa using h1
    refine useP (.int .i64 p.2) (code_spec p.2) rfl rfl ?_
    refine Br.mk (fun h2 => ?_) (fun h2 => ?_)
    rotate_left
    · have h2 : ¬ p.2 = 0 := by simpa using h2
      exact ⟨(), Le.of rfl ⟨⟨_, rfl, (congrArg (fun x => some (Value.bool x)) (by simp [h2]))⟩, ⟨_, rfl, rfl⟩, ⟨_, rfl, rfl⟩, ⟨_, rfl, rfl⟩, ⟨_, rfl, rfl⟩, ⟨_, rfl, rfl⟩, trivial⟩ (fun h k => sat_pick 0 rfl (by first | exact fun _ k => k | exact fun _ k => blk_to rfl rfl k | exact fun _ k => vec_to rfl k | exact fun _ k => blk_of rfl rfl k | exact fun _ k => vec_of rfl k | exact fun _ k => blk_of rfl rfl (blk_to rfl rfl k) | exact fun _ k => vec_of rfl (vec_to rfl k) | exact fun _ k => mp_to rfl k | exact fun _ k => mp_of rfl k | exact fun _ k => mp_of rfl (mp_to rfl k)) (fun h k => sat_pick 2 rfl (by first | exact fun _ k => k | exact fun _ k => blk_to rfl rfl k | exact fun _ k => vec_to rfl k | exact fun _ k => blk_of rfl rfl k | exact fun _ k => vec_of rfl k | exact fun _ k => blk_of rfl rfl (blk_to rfl rfl k) | exact fun _ k => vec_of rfl (vec_to rfl k) | exact fun _ k => mp_to rfl k | exact fun _ k => mp_of rfl k | exact fun _ k => mp_of rfl (mp_to rfl k)) (fun h k => sat_pick 3 rfl (by first | exact fun _ k => k | exact fun _ k => blk_to rfl rfl k | exact fun _ k => vec_to rfl k | exact fun _ k => blk_of rfl rfl k | exact fun _ k => vec_of rfl k | exact fun _ k => blk_of rfl rfl (blk_to rfl rfl k) | exact fun _ k => vec_of rfl (vec_to rfl k) | exact fun _ k => mp_to rfl k | exact fun _ k => mp_of rfl k | exact fun _ k => mp_of rfl (mp_to rfl k)) (fun h k => sat_nil k) k) k) k)⟩
    have h2 : p.2 = 0 := by simpa using h2
    exact ⟨(), Le.of rfl ⟨⟨_, rfl, (congrArg (fun x => some (Value.bool x)) (by simp [h1, h2]))⟩, ⟨_, rfl, rfl⟩, ⟨_, rfl, rfl⟩, ⟨_, rfl, rfl⟩, ⟨_, rfl, rfl⟩, ⟨_, rfl, rfl⟩, trivial⟩ (fun h k => sat_pick 0 rfl (by first | exact fun _ k => k | exact fun _ k => blk_to rfl rfl k | exact fun _ k => vec_to rfl k | exact fun _ k => blk_of rfl rfl k | exact fun _ k => vec_of rfl k | exact fun _ k => blk_of rfl rfl (blk_to rfl rfl k) | exact fun _ k => vec_of rfl (vec_to rfl k) | exact fun _ k => mp_to rfl k | exact fun _ k => mp_of rfl k | exact fun _ k => mp_of rfl (mp_to rfl k)) (fun h k => sat_pick 2 rfl (by first | exact fun _ k => k | exact fun _ k => blk_to rfl rfl k | exact fun _ k => vec_to rfl k | exact fun _ k => blk_of rfl rfl k | exact fun _ k => vec_of rfl k | exact fun _ k => blk_of rfl rfl (blk_to rfl rfl k) | exact fun _ k => vec_of rfl (vec_to rfl k) | exact fun _ k => mp_to rfl k | exact fun _ k => mp_of rfl k | exact fun _ k => mp_of rfl (mp_to rfl k)) (fun h k => sat_pick 3 rfl (by first | exact fun _ k => k | exact fun _ k => blk_to rfl rfl k | exact fun _ k => vec_to rfl k | exact fun _ k => blk_of rfl rfl k | exact fun _ k => vec_of rfl k | exact fun _ k => blk_of rfl rfl (blk_to rfl rfl k) | exact fun _ k => vec_of rfl (vec_to rfl k) | exact fun _ k => mp_to rfl k | exact fun _ k => mp_of rfl k | exact fun _ k => mp_of rfl (mp_to rfl k)) (fun h k => sat_nil k) k) k) k)⟩
  refine CondOb.split (fun g => ?_) (fun g => ?_)
  · have g : e = 0 ∧ p.2 = 0 ∧ p.1.bits ≤ x.bits := of_decide_eq_true g
    unfold Wide at hwide
    rw [if_pos g] at hwide
    refine RegOb.go ?_
    refine useP (.int .i64 q.2) (code_spec q.2) rfl rfl ?_
    refine Br.mk (fun _ => ?_) (fun h => absurd h (by rw [hwide.1]; decide))
    refine BinOb.eqs 3 (by kernel_rfl) ?_ rfl rfl
    refine Br.mk (fun h4 => ?_) (fun h4 => ?_)
    · refine useP .tt live_spec rfl rfl ?_
      exact FinOb.mk [.bool true] [] rfl (fun h k => trivial) ⟨rfl, rfl⟩
    refine BinOb.eqs 3 (by kernel_rfl) ?_ rfl rfl
    have h4 := eqB_no (y := q.1) (z := p.1) h4
    refine Br.mk (fun h5 => ?_) (fun h5 => absurd (hwide.2.resolve_left h4) (eqB_no (y := q.1) (z := x) h5))
    refine useP .tt live_spec rfl rfl ?_
    exact FinOb.mk [.bool true] [] rfl (fun h k => trivial) ⟨rfl, rfl⟩
  have g : ¬ (e = 0 ∧ p.2 = 0 ∧ p.1.bits ≤ x.bits) := of_decide_eq_false g
  unfold Wide at hwide
  rw [if_neg g] at hwide
  refine RegOb.go ?_
  refine useP (.int .i64 p.2) (code_spec p.2) rfl rfl ?_
  refine Br.mk (fun h1 => ?_) (fun h1 => ?_)
  · refine useP (.int .i64 q.2) (code_spec q.2) rfl rfl ?_
    refine Br.mk (fun h2 => ?_) (fun h2 => ?_)
    · exact FinOb.mk [.bool true] [] rfl (fun h k => trivial) ⟨rfl, rfl⟩
    have h2 : q.2 = 0 := by simpa using h2
    refine BinOb.eqs 3 (by kernel_rfl) ?_ rfl rfl
    refine Br.mk (fun h3 => ?_) (fun h3 => ?_)
    · exact FinOb.mk [.bool true] [] rfl (fun h k => trivial) ⟨rfl, rfl⟩
    have h3 := eqB_no (y := q.1) (z := x) h3
    have hB : q.1 = p.1 ∧ p.2 = q.2 := hwide.resolve_left (fun h => h.2.elim (fun h => h h2) h3)
    refine BinOb.eqs 3 (by kernel_rfl) ?_ rfl rfl
    refine Br.mk (fun h4 => ?_) (fun h4 => ?_)
    rotate_left
    · exfalso
      have h4 := eqB_no (y := q.1) (z := p.1) h4
      exact h4 hB.1
    refine useP (.int .i64 p.2) (code_spec p.2) rfl rfl ?_
    refine useP (.int .i64 q.2) (code_spec q.2) rfl rfl ?_
    refine Br.mk (fun h5 => ?_) (fun h5 => ?_)
    rotate_left
    · exfalso
      have h5 : ¬ p.2 = q.2 := by simpa using h5
      exact h5 hB.2
    refine useP .tt live_spec rfl rfl ?_
    exact FinOb.mk [.bool true] [] rfl (fun h k => trivial) ⟨rfl, rfl⟩
  have h1 : p.2 = 0 := by simpa using h1
  have hB : q.1 = p.1 ∧ p.2 = q.2 := hwide.resolve_left (fun h => h.1 h1)
  refine BinOb.eqs 3 (by kernel_rfl) ?_ rfl rfl
  refine Br.mk (fun h4 => ?_) (fun h4 => ?_)
  rotate_left
  · exfalso
    have h4 := eqB_no (y := q.1) (z := p.1) h4
    exact h4 hB.1
  refine useP (.int .i64 p.2) (code_spec p.2) rfl rfl ?_
  refine useP (.int .i64 q.2) (code_spec q.2) rfl rfl ?_
  refine Br.mk (fun h5 => ?_) (fun h5 => ?_)
  rotate_left
  · exfalso
    have h5 : ¬ p.2 = q.2 := by simpa using h5
    exact h5 hB.2
  refine useP .tt live_spec rfl rfl ?_
  exact FinOb.mk [.bool true] [] rfl (fun h k => trivial) ⟨rfl, rfl⟩
end Go.Proofs.Ytjppphldiaonkaa.Rt
namespace Go.Proofs.Ytjppphldiaonkaa.Rt
open Go Go.Proofs Sx
set_option maxRecDepth 100000
set_option linter.unusedVariables false
set_option linter.unusedSimpArgs false

theorem c3 : Try.prog.cellsOf 3 = 1 := by kernel_rfl
theorem c4 : Try.prog.cellsOf 4 = 1 := by kernel_rfl
theorem c24 : Try.prog.cellsOf 24 = 1 := by kernel_rfl
theorem c26 : Try.prog.cellsOf 26 = 5 := by kernel_rfl
theorem c80 : Try.prog.cellsOf 80 = 6 := by kernel_rfl
theorem b80 : 0 < Try.prog.bytesOf 80 := of_decide_eq_true (by kernel_rfl)
theorem r_reads {f : HP} {n : Nat} {cs : List Value} (h : RdS Try.prog f (n + 2) 26 cs) : ∃ r : R, cs = r.vals ∧ r.Ok := by
  have hl := RdS.cells Try.underlying26 h
  rw [c26] at hl
  match cs, hl with
  | [x0, x1, x2, x3, x4], _ =>
  obtain ⟨a0, h0, w0⟩ := RdS.int Try.underlying24 (RdS.field Try.underlying26 h 0 rfl (ds := [x0]) (by simp only [c24]; rfl))
  obtain ⟨a1, h1, w1⟩ := RdS.int Try.underlying3 (RdS.field Try.underlying26 h 1 rfl (ds := [x1]) (by simp only [c3]; rfl))
  obtain ⟨a2, h2, _⟩ := RdS.int Try.underlying24 (RdS.field Try.underlying26 h 2 rfl (ds := [x2]) (by simp only [c24]; rfl))
  obtain ⟨a3, h3, _⟩ := RdS.int Try.underlying3 (RdS.field Try.underlying26 h 3 rfl (ds := [x3]) (by simp only [c3]; rfl))
  obtain ⟨a4, h4, _⟩ := RdS.int Try.underlying3 (RdS.field Try.underlying26 h 4 rfl (ds := [x4]) (by simp only [c3]; rfl))
  simp only [List.cons.injEq, and_true] at h0 h1 h2 h3 h4
  subst h0; subst h1; subst h2; subst h3; subst h4
  have e0 : 0 ≤ a0 ∧ a0 ≤ 4294967295 := by simp [Lit.wf] at w0; exact w0
  exact ⟨⟨a0, a1, a2, a3, a4⟩, rfl, e0.1, e0.2⟩
theorem a_reads {f : HP} {n : Nat} {cs : List Value} (hl : cs.length = 6) (h : RdS Try.prog f (n + 3) 80 cs) : ∃ a : A, cs = a.vals ∧ a.r.Ok := by
  match cs, hl with
  | [x0, y0, y1, y2, y3, y4], _ =>
  obtain ⟨a0, h0⟩ := RdS.bool Try.underlying4 (RdS.field Try.underlying80 h 0 rfl (ds := [x0]) (by simp only [c4]; rfl))
  obtain ⟨r, hr, ok⟩ := r_reads (n := n) (RdS.field Try.underlying80 h 1 rfl (ds := [y0, y1, y2, y3, y4]) (by simp only [c26]; rfl))
  simp only [List.cons.injEq, and_true] at h0
  subst h0
  refine ⟨⟨a0, r⟩, ?_, ok⟩
  show _ = .bool a0 :: r.vals
  rw [← hr]
/-- A list of things, read by a slice. -/
theorem reads_of {α : Type} {f : HP} {A : Option Addr} {L : Lay α} {l : List α} (h0 : 0 < L.sz) (h : ∀ i x, l[i]? = some x → ∃ b o, A = some ⟨b, o, none⟩ ∧ ∀ (j : Nat) v, (L.cells x)[j]? = some v → fcell f b (o + i * L.sz + j) = some v) : Reads f A (L.flat l) := by
  intro j v hv
  have hl : j < l.length * L.sz := by have := (List.getElem?_eq_some_iff.1 hv).1; rw [L.flat_length] at this; exact this
  have hi : j / L.sz < l.length := Nat.div_lt_of_lt_mul (by rw [Nat.mul_comm]; exact hl)
  have hx := List.getElem?_eq_getElem hi
  obtain ⟨b, o, e1, e2⟩ := h (j / L.sz) _ hx
  refine ⟨b, o, e1, ?_⟩
  have e5 : j / L.sz * L.sz + j % L.sz = j := by rw [Nat.mul_comm]; exact Nat.div_add_mod j L.sz
  have hlt : j % L.sz < (L.cells l[j / L.sz]).length := by rw [L.len]; exact Nat.mod_lt _ h0
  have e4 := L.flat_at hx (j := j % L.sz) (List.getElem?_eq_getElem hlt)
  rw [e5, hv] at e4
  have := e2 (j % L.sz) _ (List.getElem?_eq_getElem hlt)
  rw [Nat.add_assoc, e5] at this
  rw [this, ← e4]
theorem acts_of {f : HP} {A : Option Addr} {len cap : Nat} (h : RdS Try.prog f 6 22 [.slice A len cap]) : ∃ acts : List Rt.A, acts.length = len ∧ (∀ a ∈ acts, a.r.Ok) ∧ Reads f A (AL.flat acts) := by
  obtain ⟨ms, h1, h2, h3, h4⟩ := RdS.list (φ := fun f cs (m : Rt.A) => cs = m.vals ∧ m.r.Ok) Try.underlying22 c80 (by omega) b80 h (fun cs hl hr => a_reads (n := 2) hl hr)
  refine ⟨ms, h1, fun m hm => ?_, reads_of (by decide) (fun i x hx => ?_)⟩
  · obtain ⟨i, hi, rfl⟩ := List.getElem_of_mem hm
    obtain ⟨_, _, _, _, _, _, h5⟩ := h4 i _ (List.getElem?_eq_getElem hi)
    exact h5
  · obtain ⟨b, o, cs, e1, e2, e3, _⟩ := h4 i x hx
    subst e3
    exact ⟨b, o, e1, e2⟩
theorem u32_of {a : Int} (w : (Lit.int .u32 a).wf = true) : 0 ≤ a ∧ a ≤ 4294967295 := by simp [Lit.wf] at w; exact w
theorem plays_law (A : Option Addr) (len cap : Nat) (a : Int) (w : (Lit.int .u32 a).wf = true) : Does Try.prog 4 #[.slice A len cap, .int .u32 a] (fun f => RdS Try.prog f 6 22 [.slice A len cap]) [] (fun v q => v = .bool true ∧ q = []) := by
  refine ⟨Try.call4, fun f w0 hR hat => ?_⟩
  obtain ⟨acts, rfl, hok, hr⟩ := acts_of hR
  exact (plays_spec A cap acts hok a (u32_of w).1 (u32_of w).2).run f w0 hr hat
theorem back_law' (A : Option Addr) (len cap : Nat) (x : Array Value) : Does Try.prog 5 #[.slice A len cap, .agg x] (fun f => RdS Try.prog f 6 22 [.slice A len cap] ∧ RdS Try.prog f 6 26 x.toList) [] (fun v q => v = .bool true ∧ q = []) := by
  refine ⟨Try.call5, fun f w0 hR hat => ?_⟩
  obtain ⟨acts, rfl, hok, hr⟩ := acts_of hR.1
  obtain ⟨r, e, ok⟩ := r_reads (n := 4) hR.2
  obtain rfl : x = r.vals.toArray := by rw [← e]
  exact (back_spec A cap acts hok r ok).run f w0 hr hat
theorem wider_law' (A : Option Addr) (len cap : Nat) (x : Array Value) (a : Int) (w : (Lit.int .u32 a).wf = true) : Does Try.prog 3 #[.slice A len cap, .agg x, .int .u32 a] (fun f => RdS Try.prog f 6 22 [.slice A len cap] ∧ RdS Try.prog f 6 26 x.toList) [] (fun v q => v = .bool true ∧ q = []) := by
  refine ⟨Try.call3, fun f w0 hR hat => ?_⟩
  obtain ⟨acts, rfl, hok, hr⟩ := acts_of hR.1
  obtain ⟨r, e, ok⟩ := r_reads (n := 4) hR.2
  obtain rfl : x = r.vals.toArray := by rw [← e]
  exact (wider_spec A cap acts hok r ok a (u32_of w).1 (u32_of w).2).run f w0 hr hat
theorem nils_law (x : Array Value) (a : Int) : Does Try.prog 6 #[.agg x, .int .u32 a] (fun f => RdS Try.prog f 6 26 x.toList) [] (fun v q => v = .bool true ∧ q = []) := by
  refine ⟨Try.call6, fun f w0 hR hat => ?_⟩
  obtain ⟨r, e, ok⟩ := r_reads (n := 4) hR
  obtain rfl : x = r.vals.toArray := by rw [← e]
  exact (nils_spec r a).run f w0 trivial hat
end Go.Proofs.Ytjppphldiaonkaa.Rt
