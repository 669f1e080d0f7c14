/- route: RoutePlays, walked. Conditions: none. -/
import Derived.Test.YtjppphldiaonkaaRuC
namespace Go.Proofs.Ytjppphldiaonkaa.Rt
open Go Go.Proofs Sx
set_option maxRecDepth 100000
set_option linter.unusedVariables false
set_option linter.unusedSimpArgs false
set_option maxHeartbeats 4000000

theorem rt_bits {tb n : Nat} {T : List Nd} {l : List R} (hi : TI tb T) (h : RT T l n) : ∀ x ∈ l, 0 ≤ x.bits ∧ x.bits ≤ 32 := fun x hx => by
  obtain ⟨m, _, _, _, h4, h5, _⟩ := hi.ok ((h.mem x).1 hx)
  omega
theorem plays_spec (B : Option Addr) (cp : Nat) (acts : List A) (hok : ∀ a ∈ acts, a.r.Ok) (a : Int) (a0 : 0 ≤ a) (a1 : a ≤ 4294967295) :
    Does Try.prog 4 #[.slice B acts.length cp, .int .u32 a] (fun f => Reads f B (AL.flat acts)) [] (fun v p => v = .bool true ∧ p = []) := by
  refine Does.ofJ Try.func4 Try.call4 rfl [.raw (.slice B acts.length cp), .int .u32 a] [] 0 [] rfl rfl (fun h k => k) (fun f hR => ?_)
  refine CondOb.split (fun g => ?_) (fun g => ?_)
  · refine useP .tt live_spec rfl rfl ?_
    exact FinOb.mk [.bool true] [] rfl (fun h k => trivial) ⟨rfl, rfl⟩
  have g : acts.length ≤ 150 := by
    have g := of_decide_eq_false g
    have : ¬ (150 : Int) < acts.length := g
    omega
  refine call_ix (played_spec B cp acts hok (by omega)) rfl [] (fun h k => k) (fun f' b' hs kb => hR.frame hs) ?_
  rintro v post ⟨tb, n, T, l, pl, c, rfl, hj, hr, hlc, rfl⟩
  refine ⟨.tuple [.raw (.pointer (some ⟨tb, 0, none⟩)), .sl 0 0 l.length c, .tt], [(0, pl)], 1, [.asn (Bs n T), .asn (Vs T), .vec 0 26 5 c (RL.flat l)], NmExt.push rfl, rfl, (fun h k => sat_pick 0 rfl (by first | exact fun _ k => k | exact fun _ k => blk_to rfl rfl k | exact fun _ k => vec_to rfl k | exact fun _ k => blk_of rfl rfl k | exact fun _ k => vec_of rfl k | exact fun _ k => blk_of rfl rfl (blk_to rfl rfl k) | exact fun _ k => vec_of rfl (vec_to rfl k) | exact fun _ k => mp_to rfl k | exact fun _ k => mp_of rfl k | exact fun _ k => mp_of rfl (mp_to rfl k)) (fun h k => sat_pick 0 rfl (by first | exact fun _ k => k | exact fun _ k => blk_to rfl rfl k | exact fun _ k => vec_to rfl k | exact fun _ k => blk_of rfl rfl k | exact fun _ k => vec_of rfl k | exact fun _ k => blk_of rfl rfl (blk_to rfl rfl k) | exact fun _ k => vec_of rfl (vec_to rfl k) | exact fun _ k => mp_to rfl k | exact fun _ k => mp_of rfl k | exact fun _ k => mp_of rfl (mp_to rfl k)) (fun h k => sat_pick 0 rfl (fun _ k => vec_of rfl k) (fun h k => sat_nil k) k) k) k), ?_⟩
  have hl64 : l.length ≤ 64 := by have := hr.len; have := hj.le; omega
  have hways := ways_eq hj.ti hr a
  have hall := all_eq hj.ti hr
  have hfind := find_spec tb n T hj.ti hj.few a a0 a1
  have hws := ways_spec tb n T hj.ti hj.few a a0 a1
  have hal := all_spec tb n T hj.ti hj.few (by rw [hall, sortBy_length]; omega)
  have hrw := rways_spec (locAddr 0 pl) c l a a0 a1 (rt_bits hj.ti hr) (by omega)
  have hwl := waysOf_length l a
  have hsl := sortBy_length rises l
  have hra := rall_spec (locAddr 0 pl) c l (by omega)
  rw [hways] at hfind hws
  rw [hall] at hal
  generalize waysOf l a = W at *
  generalize sortBy rises l = S at *
  refine call_ix (hrw.sure (Q' := fun v p => ∃ pl1 c1, v = .slice (locAddr 0 pl1) W.length c1 ∧ W.length ≤ c1 ∧ (W ≠ [] → ∃ b o, pl1 = .at b o) ∧ p = [Vec pl1 26 5 c1 (RL.flat W)]) (by
    rintro v p h ⟨pl1, c1, rfl, hc1, rfl⟩ ⟨x, _, _, hx, _⟩
    refine ⟨pl1, c1, rfl, hc1, fun hne => vec_at (fun e => hne ?_) hx, rfl⟩
    have := congrArg List.length e
    rw [lR] at this
    exact List.length_eq_zero_iff.1 (by have h5 : W.length * 5 = 0 := this; omega))) rfl [] (fun h k => k) (fun f' b' hs kb => vec_reads 2 hs kb rfl rfl) ?_
  rintro v post ⟨pl1, c1, rfl, hc1, hpl1, rfl⟩
  refine ⟨.sl 1 0 W.length c1, (1, pl1) :: _, 2, [.vec 1 26 5 c1 (RL.flat W)], NmExt.push rfl, rfl, (fun h k => sat_pick 0 rfl (fun _ k => vec_of rfl k) (fun h k => sat_nil k) k), ?_⟩
  refine call_ix hfind rfl [1, 1] (fun h k => sat_pick 1 rfl (by first | exact fun _ k => k | exact fun _ k => blk_to rfl rfl k | exact fun _ k => vec_to rfl k | exact fun _ k => blk_of rfl rfl k | exact fun _ k => vec_of rfl k | exact fun _ k => blk_of rfl rfl (blk_to rfl rfl k) | exact fun _ k => vec_of rfl (vec_to rfl k) | exact fun _ k => mp_to rfl k | exact fun _ k => mp_of rfl k | exact fun _ k => mp_of rfl (mp_to rfl k)) (fun h k => sat_pick 1 rfl (by first | exact fun _ k => k | exact fun _ k => blk_to rfl rfl k | exact fun _ k => vec_to rfl k | exact fun _ k => blk_of rfl rfl k | exact fun _ k => vec_of rfl k | exact fun _ k => blk_of rfl rfl (blk_to rfl rfl k) | exact fun _ k => vec_of rfl (vec_to rfl k) | exact fun _ k => mp_to rfl k | exact fun _ k => mp_of rfl k | exact fun _ k => mp_of rfl (mp_to rfl k)) (fun h k => sat_pick 0 rfl (by first | exact fun _ k => k | exact fun _ k => blk_to rfl rfl k | exact fun _ k => vec_to rfl k | exact fun _ k => blk_of rfl rfl k | exact fun _ k => vec_of rfl k | exact fun _ k => blk_of rfl rfl (blk_to rfl rfl k) | exact fun _ k => vec_of rfl (vec_to rfl k) | exact fun _ k => mp_to rfl k | exact fun _ k => mp_of rfl k | exact fun _ k => mp_of rfl (mp_to rfl k)) (fun h k => sat_pick 0 rfl (by first | exact fun _ k => k | exact fun _ k => blk_to rfl rfl k | exact fun _ k => vec_to rfl k | exact fun _ k => blk_of rfl rfl k | exact fun _ k => vec_of rfl k | exact fun _ k => blk_of rfl rfl (blk_to rfl rfl k) | exact fun _ k => vec_of rfl (vec_to rfl k) | exact fun _ k => mp_to rfl k | exact fun _ k => mp_of rfl k | exact fun _ k => mp_of rfl (mp_to rfl k)) (fun h k => sat_nil k) k) k) k) k) (fun _ _ _ _ => trivial) ?_
  rintro v post ⟨rfl, rfl⟩
  refine ⟨.tuple [.agg (find1 W).1.svs, .int .i64 (find1 W).2], _, 2, [.asn (Bs n T), .asn (Vs T)], NmExt.refl _, rfl, (fun h k => sat_pick 0 rfl (by first | exact fun _ k => k | exact fun _ k => blk_to rfl rfl k | exact fun _ k => vec_to rfl k | exact fun _ k => blk_of rfl rfl k | exact fun _ k => vec_of rfl k | exact fun _ k => blk_of rfl rfl (blk_to rfl rfl k) | exact fun _ k => vec_of rfl (vec_to rfl k) | exact fun _ k => mp_to rfl k | exact fun _ k => mp_of rfl k | exact fun _ k => mp_of rfl (mp_to rfl k)) (fun h k => sat_pick 0 rfl (by first | exact fun _ k => k | exact fun _ k => blk_to rfl rfl k | exact fun _ k => vec_to rfl k | exact fun _ k => blk_of rfl rfl k | exact fun _ k => vec_of rfl k | exact fun _ k => blk_of rfl rfl (blk_to rfl rfl k) | exact fun _ k => vec_of rfl (vec_to rfl k) | exact fun _ k => mp_to rfl k | exact fun _ k => mp_of rfl k | exact fun _ k => mp_of rfl (mp_to rfl k)) (fun h k => sat_nil k) k) k), ?_⟩
  intro b10
  refine RegOb.go ?_
  refine call_ix hal rfl [1, 1] (fun h k => sat_pick 1 rfl (by first | exact fun _ k => k | exact fun _ k => blk_to rfl rfl k | exact fun _ k => vec_to rfl k | exact fun _ k => blk_of rfl rfl k | exact fun _ k => vec_of rfl k | exact fun _ k => blk_of rfl rfl (blk_to rfl rfl k) | exact fun _ k => vec_of rfl (vec_to rfl k) | exact fun _ k => mp_to rfl k | exact fun _ k => mp_of rfl k | exact fun _ k => mp_of rfl (mp_to rfl k)) (fun h k => sat_pick 1 rfl (by first | exact fun _ k => k | exact fun _ k => blk_to rfl rfl k | exact fun _ k => vec_to rfl k | exact fun _ k => blk_of rfl rfl k | exact fun _ k => vec_of rfl k | exact fun _ k => blk_of rfl rfl (blk_to rfl rfl k) | exact fun _ k => vec_of rfl (vec_to rfl k) | exact fun _ k => mp_to rfl k | exact fun _ k => mp_of rfl k | exact fun _ k => mp_of rfl (mp_to rfl k)) (fun h k => sat_pick 0 rfl (by first | exact fun _ k => k | exact fun _ k => blk_to rfl rfl k | exact fun _ k => vec_to rfl k | exact fun _ k => blk_of rfl rfl k | exact fun _ k => vec_of rfl k | exact fun _ k => blk_of rfl rfl (blk_to rfl rfl k) | exact fun _ k => vec_of rfl (vec_to rfl k) | exact fun _ k => mp_to rfl k | exact fun _ k => mp_of rfl k | exact fun _ k => mp_of rfl (mp_to rfl k)) (fun h k => sat_pick 0 rfl (by first | exact fun _ k => k | exact fun _ k => blk_to rfl rfl k | exact fun _ k => vec_to rfl k | exact fun _ k => blk_of rfl rfl k | exact fun _ k => vec_of rfl k | exact fun _ k => blk_of rfl rfl (blk_to rfl rfl k) | exact fun _ k => vec_of rfl (vec_to rfl k) | exact fun _ k => mp_to rfl k | exact fun _ k => mp_of rfl k | exact fun _ k => mp_of rfl (mp_to rfl k)) (fun h k => sat_pick 0 rfl (by first | exact fun _ k => k | exact fun _ k => blk_to rfl rfl k | exact fun _ k => vec_to rfl k | exact fun _ k => blk_of rfl rfl k | exact fun _ k => vec_of rfl k | exact fun _ k => blk_of rfl rfl (blk_to rfl rfl k) | exact fun _ k => vec_of rfl (vec_to rfl k) | exact fun _ k => mp_to rfl k | exact fun _ k => mp_of rfl k | exact fun _ k => mp_of rfl (mp_to rfl k)) (fun h k => sat_nil k) k) k) k) k) k) (fun _ _ _ _ => trivial) ?_
  rintro v post ⟨pl3, c3, rfl, hc3, rfl⟩
  refine ⟨.sl 3 0 S.length c3, (3, pl3) :: _, 4, [.asn (Bs n T), .asn (Vs T), .vec 3 26 5 c3 (RL.flat S)], NmExt.push rfl, rfl, (fun h k => sat_pick 0 rfl (by first | exact fun _ k => k | exact fun _ k => blk_to rfl rfl k | exact fun _ k => vec_to rfl k | exact fun _ k => blk_of rfl rfl k | exact fun _ k => vec_of rfl k | exact fun _ k => blk_of rfl rfl (blk_to rfl rfl k) | exact fun _ k => vec_of rfl (vec_to rfl k) | exact fun _ k => mp_to rfl k | exact fun _ k => mp_of rfl k | exact fun _ k => mp_of rfl (mp_to rfl k)) (fun h k => sat_pick 0 rfl (by first | exact fun _ k => k | exact fun _ k => blk_to rfl rfl k | exact fun _ k => vec_to rfl k | exact fun _ k => blk_of rfl rfl k | exact fun _ k => vec_of rfl k | exact fun _ k => blk_of rfl rfl (blk_to rfl rfl k) | exact fun _ k => vec_of rfl (vec_to rfl k) | exact fun _ k => mp_to rfl k | exact fun _ k => mp_of rfl k | exact fun _ k => mp_of rfl (mp_to rfl k)) (fun h k => sat_pick 0 rfl (fun _ k => vec_of rfl k) (fun h k => sat_nil k) k) k) k), ?_⟩
  refine call_ix hra rfl [] (fun h k => k) (fun f' b' hs kb => vec_reads 5 hs kb rfl rfl) ?_
  rintro v post ⟨pl4, c4, rfl, hc4, rfl⟩
  refine ⟨.sl 4 0 l.length c4, (4, pl4) :: _, 5, [.vec 4 26 5 c4 (RL.flat S)], NmExt.push rfl, rfl, (fun h k => sat_pick 0 rfl (fun _ k => vec_of rfl k) (fun h k => sat_nil k) k), ?_⟩
  refine useR .tt ((same_spec (locAddr 0 pl3) (locAddr 0 pl4) c3 c4 S S (by omega)).mono (Q' := fun v p => v = .bool true ∧ p = []) (by rintro v p ⟨rfl, rfl⟩; simp)) (by rw [hsl]; rfl) (fun f' b' hs kb => ⟨vec_reads 3 hs kb rfl rfl, vec_reads 0 hs kb rfl rfl⟩) rfl ?_
  refine call_ix hws rfl [1, 1] (fun h k => sat_pick 1 rfl (by first | exact fun _ k => k | exact fun _ k => blk_to rfl rfl k | exact fun _ k => vec_to rfl k | exact fun _ k => blk_of rfl rfl k | exact fun _ k => vec_of rfl k | exact fun _ k => blk_of rfl rfl (blk_to rfl rfl k) | exact fun _ k => vec_of rfl (vec_to rfl k) | exact fun _ k => mp_to rfl k | exact fun _ k => mp_of rfl k | exact fun _ k => mp_of rfl (mp_to rfl k)) (fun h k => sat_pick 1 rfl (by first | exact fun _ k => k | exact fun _ k => blk_to rfl rfl k | exact fun _ k => vec_to rfl k | exact fun _ k => blk_of rfl rfl k | exact fun _ k => vec_of rfl k | exact fun _ k => blk_of rfl rfl (blk_to rfl rfl k) | exact fun _ k => vec_of rfl (vec_to rfl k) | exact fun _ k => mp_to rfl k | exact fun _ k => mp_of rfl k | exact fun _ k => mp_of rfl (mp_to rfl k)) (fun h k => sat_pick 0 rfl (by first | exact fun _ k => k | exact fun _ k => blk_to rfl rfl k | exact fun _ k => vec_to rfl k | exact fun _ k => blk_of rfl rfl k | exact fun _ k => vec_of rfl k | exact fun _ k => blk_of rfl rfl (blk_to rfl rfl k) | exact fun _ k => vec_of rfl (vec_to rfl k) | exact fun _ k => mp_to rfl k | exact fun _ k => mp_of rfl k | exact fun _ k => mp_of rfl (mp_to rfl k)) (fun h k => sat_pick 0 rfl (by first | exact fun _ k => k | exact fun _ k => blk_to rfl rfl k | exact fun _ k => vec_to rfl k | exact fun _ k => blk_of rfl rfl k | exact fun _ k => vec_of rfl k | exact fun _ k => blk_of rfl rfl (blk_to rfl rfl k) | exact fun _ k => vec_of rfl (vec_to rfl k) | exact fun _ k => mp_to rfl k | exact fun _ k => mp_of rfl k | exact fun _ k => mp_of rfl (mp_to rfl k)) (fun h k => sat_pick 0 rfl (by first | exact fun _ k => k | exact fun _ k => blk_to rfl rfl k | exact fun _ k => vec_to rfl k | exact fun _ k => blk_of rfl rfl k | exact fun _ k => vec_of rfl k | exact fun _ k => blk_of rfl rfl (blk_to rfl rfl k) | exact fun _ k => vec_of rfl (vec_to rfl k) | exact fun _ k => mp_to rfl k | exact fun _ k => mp_of rfl k | exact fun _ k => mp_of rfl (mp_to rfl k)) (fun h k => sat_pick 0 rfl (by first | exact fun _ k => k | exact fun _ k => blk_to rfl rfl k | exact fun _ k => vec_to rfl k | exact fun _ k => blk_of rfl rfl k | exact fun _ k => vec_of rfl k | exact fun _ k => blk_of rfl rfl (blk_to rfl rfl k) | exact fun _ k => vec_of rfl (vec_to rfl k) | exact fun _ k => mp_to rfl k | exact fun _ k => mp_of rfl k | exact fun _ k => mp_of rfl (mp_to rfl k)) (fun h k => sat_pick 0 rfl (by first | exact fun _ k => k | exact fun _ k => blk_to rfl rfl k | exact fun _ k => vec_to rfl k | exact fun _ k => blk_of rfl rfl k | exact fun _ k => vec_of rfl k | exact fun _ k => blk_of rfl rfl (blk_to rfl rfl k) | exact fun _ k => vec_of rfl (vec_to rfl k) | exact fun _ k => mp_to rfl k | exact fun _ k => mp_of rfl k | exact fun _ k => mp_of rfl (mp_to rfl k)) (fun h k => sat_nil k) k) k) k) k) k) k) k) (fun _ _ _ _ => trivial) ?_
  rintro v post ⟨pl5, c5, rfl, hc5, _, rfl⟩
  refine ⟨.sl 5 0 W.length c5, (5, pl5) :: _, 6, [.asn (Bs n T), .asn (Vs T), .vec 5 26 5 c5 (RL.flat W)], NmExt.push rfl, rfl, (fun h k => sat_pick 0 rfl (by first | exact fun _ k => k | exact fun _ k => blk_to rfl rfl k | exact fun _ k => vec_to rfl k | exact fun _ k => blk_of rfl rfl k | exact fun _ k => vec_of rfl k | exact fun _ k => blk_of rfl rfl (blk_to rfl rfl k) | exact fun _ k => vec_of rfl (vec_to rfl k) | exact fun _ k => mp_to rfl k | exact fun _ k => mp_of rfl k | exact fun _ k => mp_of rfl (mp_to rfl k)) (fun h k => sat_pick 0 rfl (by first | exact fun _ k => k | exact fun _ k => blk_to rfl rfl k | exact fun _ k => vec_to rfl k | exact fun _ k => blk_of rfl rfl k | exact fun _ k => vec_of rfl k | exact fun _ k => blk_of rfl rfl (blk_to rfl rfl k) | exact fun _ k => vec_of rfl (vec_to rfl k) | exact fun _ k => mp_to rfl k | exact fun _ k => mp_of rfl k | exact fun _ k => mp_of rfl (mp_to rfl k)) (fun h k => sat_pick 0 rfl (fun _ k => vec_of rfl k) (fun h k => sat_nil k) k) k) k), ?_⟩
  refine useR .tt ((same_spec (locAddr 0 pl5) (locAddr 0 pl1) c5 c1 W W (by omega)).mono (Q' := fun v p => v = .bool true ∧ p = []) (by rintro v p ⟨rfl, rfl⟩; simp)) rfl (fun f' b' hs kb => ⟨vec_reads 2 hs kb rfl rfl, vec_reads 6 hs kb rfl rfl⟩) rfl ?_
  cases W with
  | nil =>
    refine CondOb.split (fun _ => ?_) (fun g => absurd g (by decide))
    refine RegOb.go ?_
    refine BinOb.eqs 3 (by kernel_rfl) ?_ rfl rfl
    refine Br.mk (fun _ => ?_) (fun h => absurd h (by decide))
    refine useP (.int .i64 6) (code_spec 6) rfl rfl ?_
    refine Br.mk (fun _ => ?_) (fun h => absurd h (by decide))
    refine useP .tt live_spec rfl rfl ?_
    exact FinOb.mk [.bool true] [] rfl (fun h k => trivial) ⟨rfl, rfl⟩
  | cons x W =>
    refine CondOb.split (fun g => ?_) (fun _ => ?_)
    · have g : (((W.length + 1 : Nat) : Int) == 0) = true := g
      rw [beq_iff_eq] at g
      omega
    refine RegOb.go ?_
    refine DrawOb.mk [] (.run [0, 1, 2, 3, 4, 5, 6, 7, 8, 9, 10, 11, 12, 13] .nil) (by kernel_rfl) ?_
    obtain ⟨b, o, rfl⟩ := hpl1 (by simp)
    refine Need.mk (by simp) ?_
    refine RdObL.mk x.svs (by decide) (by rw [lR, List.length_cons]; show 0 + 0 * 5 + 5 ≤ _; omega) ?_ ?_
    · show _ = some (((RL.flat (x :: W)).drop 0).take 5)
      rw [List.drop_zero, RL.flat_cons, List.take_append_of_le_length (by show 5 ≤ 5; omega)]
      exact congrArg some (List.take_of_length_le (by show 5 ≤ 5; omega)).symm
    refine BinOb.eqs 3 (by kernel_rfl) ?_ rfl rfl
    refine Br.mk (fun _ => ?_) (fun h => absurd h (by simp [find1]))
    refine useP (.int .i64 0) (code_spec 0) rfl rfl ?_
    refine Br.mk (fun _ => ?_) (fun h => absurd h (by decide))
    refine useP .tt live_spec rfl rfl ?_
    exact FinOb.mk [.bool true] [] rfl (fun h k => trivial) ⟨rfl, rfl⟩
end Go.Proofs.Ytjppphldiaonkaa.Rt
