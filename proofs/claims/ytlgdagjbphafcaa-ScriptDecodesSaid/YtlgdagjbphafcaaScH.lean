/- script: Entry, and the law's own example. Conditions: none. -/
import Derived.Test.YtlgdagjbphafcaaScG
namespace Go.Proofs.Ytlgdagjbphafcaa.Sc
open Go Go.Proofs Sx
set_option maxRecDepth 100000
set_option linter.unusedVariables false
set_option linter.unusedSimpArgs false
set_option maxHeartbeats 4000000

theorem bclone_spec (A : Option Addr) (cp : Nat) (l : List Int) (hl : l.length ≤ 1000000000) :
    Does Try.prog 78 #[.slice A l.length cp] (fun f => Reads f A (U8.flat l)) [] (fun v q => ∃ p c', v = .slice (locAddr 0 p) l.length c' ∧ q = [Vec p 5 1 c' (U8.flat l)]) := by
  refine Does.of Try.func78 Try.call78 rfl [.raw (.slice A l.length cp)] [] 0 [] rfl rfl (fun h k => k) (fun f hR => ?_)
  cases A with
  | none =>
    have h0 : l = [] := by
      cases l with
      | nil => rfl
      | cons v ys => obtain ⟨_, _, h, _⟩ := hR.lay (by decide) (i := 0) rfl; cases h
    subst h0
    exact FinOb.mk [.slice none 0 0] [Vec .nil 5 1 0 []] rfl (fun h k => ⟨HP.emp, h, .emp_left h, vec_emp, trivial⟩) ⟨.nil, 0, rfl, rfl⟩
  | some ad =>
    intro b
    refine SrcF.mk (U8.flat l) (by rw [lU]; omega) hR ?_
    refine StOb.mk [] rfl (Need.mk (by simp) (Need.mk ⟨by omega, by simp only [maxLen]; omega, U8.flat_one' l⟩ ?_))
    refine NewSl.any (fun p cap' hc => ?_)
    exact FinOb.mk [.slice (locAddr 0 p) (0 + l.length) cap'] [Vec p 5 1 cap' (U8.flat l)] rfl (fun h k => sat_cons (fun h => vec_to rfl) (fun h k => (trivial : sat [] h)) k) ⟨p, cap', by simp [ret1], rfl⟩
theorem entry'_spec (A : Option Addr) (c : Nat) (L : List Int) (hc : L.length ≤ c) (hb : ∀ x ∈ L, 0 ≤ x ∧ x ≤ 255) (hl : L.length ≤ 1000000) :
    Does Try.prog 63 #[.slice A L.length c] (fun f => Reads f A (U8.flat L)) []
      (fun v q => ∃ pd cd p2 c2, v = .tuple #[.agg ((ent L 0).vals (locAddr 0 pd) cd).toArray, .slice (locAddr 0 p2) (L.drop (0 + entN (ent L 0).op)).length c2] ∧ q = [Vec pd 5 1 cd (U8.flat (ent L 0).data), Vec p2 5 1 c2 (U8.flat (L.drop (0 + entN (ent L 0).op)))]) := by
  refine Does.of Try.func63 Try.call63 rfl [.raw (.slice A L.length c)] [] 0 [] rfl rfl (fun h k => k) (fun f hA => ?_)
  intro b1 b2
  refine call_ix (entry_spec b2 A c L 0 hc hb) rfl [0] (fun h k => sat_pick 0 rfl (fun _ k => by rw [rdr_zero]; exact blk_to rfl rfl k) (fun h k => sat_pick 0 rfl (by first | exact fun _ k => k | exact fun _ k => blk_to rfl rfl k | exact fun _ k => vec_to rfl k | exact fun _ k => blk_of rfl rfl k | exact fun _ k => vec_of rfl k | exact fun _ k => blk_of rfl rfl (blk_to rfl rfl k) | exact fun _ k => vec_of rfl (vec_to rfl k) | exact fun _ k => mp_to rfl k | exact fun _ k => mp_of rfl k | exact fun _ k => mp_of rfl (mp_to rfl k)) (fun h k => sat_nil k) k) k) (fun f' b' hs _ => hA.frame hs) ?_
  rintro v post ⟨pd, cd, rfl, rfl⟩
  refine ⟨.agg ((ent L 0).svs (locAddr 0 pd) cd), _, 2, [.blk 1 167 [rcell A c L (0 + entN (ent L 0).op)], .asn _], NmExt.refl _, rfl, (fun h k => sat_pick 0 rfl (fun _ k => blk_of rfl rfl k) (fun h k => sat_pick 0 rfl (by first | exact fun _ k => k | exact fun _ k => blk_to rfl rfl k | exact fun _ k => vec_to rfl k | exact fun _ k => blk_of rfl rfl k | exact fun _ k => vec_of rfl k | exact fun _ k => blk_of rfl rfl (blk_to rfl rfl k) | exact fun _ k => vec_of rfl (vec_to rfl k) | exact fun _ k => mp_to rfl k | exact fun _ k => mp_of rfl k | exact fun _ k => mp_of rfl (mp_to rfl k)) (fun h k => sat_nil k) k) k), ?_⟩
  refine DrawOb.mk [(5, [0])] (.run [0, 1, 2, 3, 4, 5, 6, 7] .nil) (by kernel_rfl) ?_
  generalize hp : 0 + entN (ent L 0).op = p
  have hd : L.drop (min p L.length) = L.drop p := by
    by_cases h : p ≤ L.length
    · rw [Nat.min_eq_left h]
    · rw [Nat.min_eq_right (by omega), List.drop_length, List.drop_of_length_le (by omega)]
  have cs := bclone_spec (adr A c (min p L.length)).1 (adr A c (min p L.length)).2 (L.drop p) (by simp; omega)
  have hr := adr_reads hA hc (min p L.length) (by omega)
  rw [hd] at hr
  have hdl : (L.drop p).length = L.length - p := by simp
  rw [hdl] at cs ⊢
  refine call_ix cs rfl [] (fun h k => sat_pick 0 rfl (by first | exact fun _ k => k | exact fun _ k => blk_to rfl rfl k | exact fun _ k => vec_to rfl k | exact fun _ k => blk_of rfl rfl k | exact fun _ k => vec_of rfl k | exact fun _ k => blk_of rfl rfl (blk_to rfl rfl k) | exact fun _ k => vec_of rfl (vec_to rfl k) | exact fun _ k => mp_to rfl k | exact fun _ k => mp_of rfl k | exact fun _ k => mp_of rfl (mp_to rfl k)) (fun h k => sat_pick 0 rfl (by first | exact fun _ k => k | exact fun _ k => blk_to rfl rfl k | exact fun _ k => vec_to rfl k | exact fun _ k => blk_of rfl rfl k | exact fun _ k => vec_of rfl k | exact fun _ k => blk_of rfl rfl (blk_to rfl rfl k) | exact fun _ k => vec_of rfl (vec_to rfl k) | exact fun _ k => mp_to rfl k | exact fun _ k => mp_of rfl k | exact fun _ k => mp_of rfl (mp_to rfl k)) (fun h k => sat_pick 0 rfl (by first | exact fun _ k => k | exact fun _ k => blk_to rfl rfl k | exact fun _ k => vec_to rfl k | exact fun _ k => blk_of rfl rfl k | exact fun _ k => vec_of rfl k | exact fun _ k => blk_of rfl rfl (blk_to rfl rfl k) | exact fun _ k => vec_of rfl (vec_to rfl k) | exact fun _ k => mp_to rfl k | exact fun _ k => mp_of rfl k | exact fun _ k => mp_of rfl (mp_to rfl k)) (fun h k => sat_nil k) k) k) k) (fun f' b' hs _ => hr.frame hs) ?_
  rintro v post ⟨p2, c2, rfl, rfl⟩
  refine ⟨.raw (.slice (locAddr 0 p2) (L.length - p) c2), _, 2, [.asn _], NmExt.refl _, rfl, (fun h k => sat_pick 0 rfl (by first | exact fun _ k => k | exact fun _ k => blk_to rfl rfl k | exact fun _ k => vec_to rfl k | exact fun _ k => blk_of rfl rfl k | exact fun _ k => vec_of rfl k | exact fun _ k => blk_of rfl rfl (blk_to rfl rfl k) | exact fun _ k => vec_of rfl (vec_to rfl k) | exact fun _ k => mp_to rfl k | exact fun _ k => mp_of rfl k | exact fun _ k => mp_of rfl (mp_to rfl k)) (fun h k => sat_nil k) k), ?_⟩
  refine Need.mk rfl ?_
  exact FinOb.mk _ [Vec pd 5 1 cd (U8.flat (ent L 0).data), Vec p2 5 1 c2 (U8.flat (L.drop p))] rfl (fun h k => sat_pick 3 rfl (by first | exact fun _ k => k | exact fun _ k => blk_to rfl rfl k | exact fun _ k => vec_to rfl k | exact fun _ k => blk_of rfl rfl k | exact fun _ k => vec_of rfl k | exact fun _ k => blk_of rfl rfl (blk_to rfl rfl k) | exact fun _ k => vec_of rfl (vec_to rfl k) | exact fun _ k => mp_to rfl k | exact fun _ k => mp_of rfl k | exact fun _ k => mp_of rfl (mp_to rfl k)) (fun h k => sat_pick 1 rfl (by first | exact fun _ k => k | exact fun _ k => blk_to rfl rfl k | exact fun _ k => vec_to rfl k | exact fun _ k => blk_of rfl rfl k | exact fun _ k => vec_of rfl k | exact fun _ k => blk_of rfl rfl (blk_to rfl rfl k) | exact fun _ k => vec_of rfl (vec_to rfl k) | exact fun _ k => mp_to rfl k | exact fun _ k => mp_of rfl k | exact fun _ k => mp_of rfl (mp_to rfl k)) (fun h k => sat_nil k) k) k) ⟨pd, cd, p2, c2, rfl, rfl⟩
theorem live_spec : Does Try.prog 60 #[] (fun _ => True) [] (fun v q => v = .bool true ∧ q = []) := by
  refine Does.of Try.func60 Try.call60 rfl [] [] 0 [] rfl rfl (fun h k => k) (fun f hR => ?_)
  refine call_ix (decode_spec none 0 [] (by simp) (by simp) (by simp)) rfl [] (fun h k => k) (fun f' b' hs _ => Reads.nil _ _) ?_
  rintro v post ⟨ss, pl, cl, rfl, hd, hs, hc, rfl⟩
  have h0 : ss.length = 0 := by
    have := hd.all 0
    simp at this
    cases h : ss.length with
    | zero => rfl
    | succ n => exact absurd h (by intro h; have := hd.all 0 (by omega); simp at this)
  rw [h0]
  refine ⟨.tuple [.agg [.int .i64 1, .int .i64 1, .int .i64 128, .int .i64 88, .int .i64 1, .int .i64 1, .int .i64 1, .int .i64 64, .int .i64 1, .int .i64 3, .int .i64 10, .int .i64 100, .int .i64 8, .int .i64 1, .int .u32 4294967232], .raw (.slice (locAddr 0 pl) 0 cl)], _, 0, [], NmExt.refl _, rfl, fun h k => trivial, ?_⟩
  intro b1
  refine Br.mk (fun _ => ?_) (fun h => absurd h (by decide))
  refine Br.mk (fun _ => ?_) (fun h => absurd h (by decide))
  refine Br.mk (fun _ => ?_) (fun h => absurd h (by decide))
  refine Br.mk (fun _ => ?_) (fun h => absurd h (by decide))
  refine Br.mk (fun _ => ?_) (fun h => absurd h (by decide))
  refine Br.mk (fun _ => ?_) (fun h => absurd h (by decide))
  exact FinOb.mk _ [] rfl (fun h k => trivial) ⟨rfl, rfl⟩
end Go.Proofs.Ytlgdagjbphafcaa.Sc
