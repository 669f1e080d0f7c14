/- script: the walk of ScriptDecodes. Conditions: none. -/
import Derived.Test.YtlgdagjbphafcaaScS
namespace Go.Proofs.Ytlgdagjbphafcaa.Sc
open Go Go.Proofs Sx
set_option maxRecDepth 100000
set_option linter.unusedVariables false
set_option linter.unusedSimpArgs false
set_option maxHeartbeats 4000000

theorem dec_sure {g : FuncId} {A : Option Addr} {c : Nat} {L : List Int} (h : Does Try.prog g #[.slice A L.length c] (fun f => Reads f A (U8.flat L)) []
      (fun v q => ∃ (ss : List Sn) (pl : Plc) (cl : Nat), v = .tuple #[.agg (setV L).toArray, .slice (locAddr 0 pl) ss.length cl] ∧ Dn L ss.length ∧ Sns L ss ∧ ss.length ≤ cl ∧ q = [Vec pl 111 7 cl (SL.flat ss), Alls (ss.flatMap Sn.parts)])) :
    Does Try.prog g #[.slice A L.length c] (fun f => Reads f A (U8.flat L)) []
      (fun v q => ∃ (ss : List Sn) (pl : Plc) (cl : Nat), v = .tuple #[.agg (setV L).toArray, .slice (locAddr 0 pl) ss.length cl] ∧ Dn L ss.length ∧ Sns L ss ∧ ss.length ≤ cl ∧ (ss ≠ [] → ∃ b o, pl = .at b o) ∧ (∀ s ∈ ss, s.2.1 ≠ [] → ∃ b o, s.2.2.1 = .at b o) ∧ q = [Vec pl 111 7 cl (SL.flat ss), Alls (ss.flatMap Sn.parts)]) := by
  refine h.sure ?_
  rintro v q h ⟨ss, pl, cl, h1, h2, h3, h4, rfl⟩ hs
  refine ⟨ss, pl, cl, h1, h2, h3, h4, fun hne => ?_, fun s hm hne => ?_, rfl⟩
  · refine vec_sures (As := []) ((fun h k => sat_pick 0 rfl (by first | exact fun _ k => k | exact fun _ k => blk_to rfl rfl k | exact fun _ k => vec_to rfl k | exact fun _ k => blk_of rfl rfl k | exact fun _ k => vec_of rfl k | exact fun _ k => blk_of rfl rfl (blk_to rfl rfl k) | exact fun _ k => vec_of rfl (vec_to rfl k) | exact fun _ k => mp_to rfl k | exact fun _ k => mp_of rfl k | exact fun _ k => mp_of rfl (mp_to rfl k)) (fun h k => sat_nil k) k) h hs) (fun h0 => hne ?_)
    have := congrArg List.length h0
    rw [lS] at this
    have h9 : ss.length * 7 = 0 := this
    exact List.length_eq_zero_iff.1 (by omega)
  · cases he : s.2.1 with
    | nil => exact absurd he hne
    | cons e es =>
      have hi : (EL.flat s.2.1)[0]? = some (.int .u8 e.1.op) := by rw [he]; rfl
      obtain ⟨b, o, h5, _⟩ := step_cell 1 hs rfl hm hi
      exact ⟨b, o, h5⟩
theorem ent_bytes (L : List Int) (p : Nat) : ∀ x ∈ (ent L p).data, 0 ≤ x ∧ x ≤ 255 := by
  unfold ent
  simp only
  (repeat' split) <;> intro x hx <;> first | (simp at hx; done) | exact many_bytes _ _ x hx
theorem decodes_walk (A : Option Addr) (c : Nat) (L : List Int) (hc : L.length ≤ c) (hb : ∀ x ∈ L, 0 ≤ x ∧ x ≤ 255) (hl : L.length ≤ 140737488355328) :
    Does Try.prog 11 #[.slice A L.length c] (fun f => Reads f A (U8.flat L)) [] (fun v q => v = .bool true ∧ q = []) := by
  refine Does.of Try.func11 Try.call11 rfl [.raw (.slice A L.length c)] [] 0 [] rfl rfl (fun h k => k) (fun f hA => ?_)
  refine CondOb.split (fun _ => ?_) (fun g0 => ?_)
  · refine useP .tt live_spec rfl rfl ?_
    exact FinOb.mk _ [] rfl (fun h k => trivial) ⟨rfl, rfl⟩
  simp only [decide_eq_false_iff_not] at g0
  replace g0 : ¬ (3000 : Int) < L.length := g0
  refine call_ix (dec_sure (decode_spec A c L hc hb (by omega))) rfl [] (fun h k => k) (fun f' b' hs _ => hA.frame hs) ?_
  rintro v post ⟨ss1, pl1, cl1, rfl, hd1, hss1, hcl1, hpl1, hes1, rfl⟩
  refine ⟨.tuple [.agg (setW L), .raw (.slice (locAddr 0 pl1) ss1.length cl1)], _, 0, [.asn _, .asn _], NmExt.refl _, rfl, (fun h k => sat_pick 0 rfl (by first | exact fun _ k => k | exact fun _ k => blk_to rfl rfl k | exact fun _ k => vec_to rfl k | exact fun _ k => blk_of rfl rfl k | exact fun _ k => vec_of rfl k | exact fun _ k => blk_of rfl rfl (blk_to rfl rfl k) | exact fun _ k => vec_of rfl (vec_to rfl k) | exact fun _ k => mp_to rfl k | exact fun _ k => mp_of rfl k | exact fun _ k => mp_of rfl (mp_to rfl k)) (fun h k => sat_pick 0 rfl (by first | exact fun _ k => k | exact fun _ k => blk_to rfl rfl k | exact fun _ k => vec_to rfl k | exact fun _ k => blk_of rfl rfl k | exact fun _ k => vec_of rfl k | exact fun _ k => blk_of rfl rfl (blk_to rfl rfl k) | exact fun _ k => vec_of rfl (vec_to rfl k) | exact fun _ k => mp_to rfl k | exact fun _ k => mp_of rfl k | exact fun _ k => mp_of rfl (mp_to rfl k)) (fun h k => sat_nil k) k) k), ?_⟩
  intro b1
  refine call_ix (dec_sure (rdecode_spec A c L hc hb (by omega))) rfl [] (fun h k => k) (fun f' b' hs _ => hA.frame hs) ?_
  rintro v post ⟨ss2, pl2, cl2, rfl, hd2, hss2, hcl2, hpl2, hes2, rfl⟩
  refine ⟨.tuple [.agg (setW L), .raw (.slice (locAddr 0 pl2) ss2.length cl2)], _, 1, [.asn _, .asn _], NmExt.refl _, rfl, (fun h k => sat_pick 0 rfl (by first | exact fun _ k => k | exact fun _ k => blk_to rfl rfl k | exact fun _ k => vec_to rfl k | exact fun _ k => blk_of rfl rfl k | exact fun _ k => vec_of rfl k | exact fun _ k => blk_of rfl rfl (blk_to rfl rfl k) | exact fun _ k => vec_of rfl (vec_to rfl k) | exact fun _ k => mp_to rfl k | exact fun _ k => mp_of rfl k | exact fun _ k => mp_of rfl (mp_to rfl k)) (fun h k => sat_pick 0 rfl (by first | exact fun _ k => k | exact fun _ k => blk_to rfl rfl k | exact fun _ k => vec_to rfl k | exact fun _ k => blk_of rfl rfl k | exact fun _ k => vec_of rfl k | exact fun _ k => blk_of rfl rfl (blk_to rfl rfl k) | exact fun _ k => vec_of rfl (vec_to rfl k) | exact fun _ k => mp_to rfl k | exact fun _ k => mp_of rfl k | exact fun _ k => mp_of rfl (mp_to rfl k)) (fun h k => sat_nil k) k) k), ?_⟩
  intro b2
  refine call_ix (entry'_spec A c L hc hb (by omega)) rfl [] (fun h k => k) (fun f' b' hs _ => hA.frame hs) ?_
  rintro v post ⟨pd, cd, p2, c2, rfl, rfl⟩
  refine ⟨.tuple [.agg ((ent L 0).svs (locAddr 0 pd) cd), .sl 2 0 (L.drop (0 + entN (ent L 0).op)).length c2], (2, p2) :: _, 3, [.asn _, .vec 2 5 1 c2 (U8.flat (L.drop (0 + entN (ent L 0).op)))], NmExt.push rfl, rfl, (fun h k => sat_pick 0 rfl (by first | exact fun _ k => k | exact fun _ k => blk_to rfl rfl k | exact fun _ k => vec_to rfl k | exact fun _ k => blk_of rfl rfl k | exact fun _ k => vec_of rfl k | exact fun _ k => blk_of rfl rfl (blk_to rfl rfl k) | exact fun _ k => vec_of rfl (vec_to rfl k) | exact fun _ k => mp_to rfl k | exact fun _ k => mp_of rfl k | exact fun _ k => mp_of rfl (mp_to rfl k)) (fun h k => sat_pick 0 rfl (by first | exact fun _ k => k | exact fun _ k => blk_to rfl rfl k | exact fun _ k => vec_to rfl k | exact fun _ k => blk_of rfl rfl k | exact fun _ k => vec_of rfl k | exact fun _ k => blk_of rfl rfl (blk_to rfl rfl k) | exact fun _ k => vec_of rfl (vec_to rfl k) | exact fun _ k => mp_to rfl k | exact fun _ k => mp_of rfl k | exact fun _ k => mp_of rfl (mp_to rfl k)) (fun h k => sat_nil k) k) k), ?_⟩
  intro b3
  have hre := rentry_spec A c L 0 hc hb
  rw [left_zero] at hre
  refine call_ix hre rfl [] (fun h k => k) (fun f' b' hs _ => hA.frame hs) ?_
  rintro v post ⟨pd2, cd2, rfl, rfl⟩
  refine ⟨.tuple [.agg ((ent L 0).svs (locAddr 0 pd2) cd2), .raw (left A c L (0 + entN (ent L 0).op))], _, 4, [.asn _], NmExt.refl _, rfl, (fun h k => sat_pick 0 rfl (by first | exact fun _ k => k | exact fun _ k => blk_to rfl rfl k | exact fun _ k => vec_to rfl k | exact fun _ k => blk_of rfl rfl k | exact fun _ k => vec_of rfl k | exact fun _ k => blk_of rfl rfl (blk_to rfl rfl k) | exact fun _ k => vec_of rfl (vec_to rfl k) | exact fun _ k => mp_to rfl k | exact fun _ k => mp_of rfl k | exact fun _ k => mp_of rfl (mp_to rfl k)) (fun h k => sat_nil k) k), ?_⟩
  intro b4
  refine BinOb.eqs 3 (by kernel_rfl) ?_ rfl rfl
  refine Br.mk (fun _ => ?_) (fun h => absurd h (by simp))
  have hn := hd2.uniq hd1
  rw [hn]
  refine call_ix (same_spec L hb ss1 ss2 pl1 pl2 cl1 cl2 ss1.length hss1 hss2 rfl hn hd1.most hpl1 hpl2 hes1 hes2) rfl [9, 9, 6, 6] (fun h k => sat_pick 9 rfl (by first | exact fun _ k => k | exact fun _ k => blk_to rfl rfl k | exact fun _ k => vec_to rfl k | exact fun _ k => blk_of rfl rfl k | exact fun _ k => vec_of rfl k | exact fun _ k => blk_of rfl rfl (blk_to rfl rfl k) | exact fun _ k => vec_of rfl (vec_to rfl k) | exact fun _ k => mp_to rfl k | exact fun _ k => mp_of rfl k | exact fun _ k => mp_of rfl (mp_to rfl k)) (fun h k => sat_pick 9 rfl (by first | exact fun _ k => k | exact fun _ k => blk_to rfl rfl k | exact fun _ k => vec_to rfl k | exact fun _ k => blk_of rfl rfl k | exact fun _ k => vec_of rfl k | exact fun _ k => blk_of rfl rfl (blk_to rfl rfl k) | exact fun _ k => vec_of rfl (vec_to rfl k) | exact fun _ k => mp_to rfl k | exact fun _ k => mp_of rfl k | exact fun _ k => mp_of rfl (mp_to rfl k)) (fun h k => sat_pick 6 rfl (by first | exact fun _ k => k | exact fun _ k => blk_to rfl rfl k | exact fun _ k => vec_to rfl k | exact fun _ k => blk_of rfl rfl k | exact fun _ k => vec_of rfl k | exact fun _ k => blk_of rfl rfl (blk_to rfl rfl k) | exact fun _ k => vec_of rfl (vec_to rfl k) | exact fun _ k => mp_to rfl k | exact fun _ k => mp_of rfl k | exact fun _ k => mp_of rfl (mp_to rfl k)) (fun h k => sat_pick 6 rfl (by first | exact fun _ k => k | exact fun _ k => blk_to rfl rfl k | exact fun _ k => vec_to rfl k | exact fun _ k => blk_of rfl rfl k | exact fun _ k => vec_of rfl k | exact fun _ k => blk_of rfl rfl (blk_to rfl rfl k) | exact fun _ k => vec_of rfl (vec_to rfl k) | exact fun _ k => mp_to rfl k | exact fun _ k => mp_of rfl k | exact fun _ k => mp_of rfl (mp_to rfl k)) (fun h k => sat_pick 0 rfl (by first | exact fun _ k => k | exact fun _ k => blk_to rfl rfl k | exact fun _ k => vec_to rfl k | exact fun _ k => blk_of rfl rfl k | exact fun _ k => vec_of rfl k | exact fun _ k => blk_of rfl rfl (blk_to rfl rfl k) | exact fun _ k => vec_of rfl (vec_to rfl k) | exact fun _ k => mp_to rfl k | exact fun _ k => mp_of rfl k | exact fun _ k => mp_of rfl (mp_to rfl k)) (fun h k => sat_pick 0 rfl (by first | exact fun _ k => k | exact fun _ k => blk_to rfl rfl k | exact fun _ k => vec_to rfl k | exact fun _ k => blk_of rfl rfl k | exact fun _ k => vec_of rfl k | exact fun _ k => blk_of rfl rfl (blk_to rfl rfl k) | exact fun _ k => vec_of rfl (vec_to rfl k) | exact fun _ k => mp_to rfl k | exact fun _ k => mp_of rfl k | exact fun _ k => mp_of rfl (mp_to rfl k)) (fun h k => sat_pick 0 rfl (by first | exact fun _ k => k | exact fun _ k => blk_to rfl rfl k | exact fun _ k => vec_to rfl k | exact fun _ k => blk_of rfl rfl k | exact fun _ k => vec_of rfl k | exact fun _ k => blk_of rfl rfl (blk_to rfl rfl k) | exact fun _ k => vec_of rfl (vec_to rfl k) | exact fun _ k => mp_to rfl k | exact fun _ k => mp_of rfl k | exact fun _ k => mp_of rfl (mp_to rfl k)) (fun h k => sat_pick 0 rfl (by first | exact fun _ k => k | exact fun _ k => blk_to rfl rfl k | exact fun _ k => vec_to rfl k | exact fun _ k => blk_of rfl rfl k | exact fun _ k => vec_of rfl k | exact fun _ k => blk_of rfl rfl (blk_to rfl rfl k) | exact fun _ k => vec_of rfl (vec_to rfl k) | exact fun _ k => mp_to rfl k | exact fun _ k => mp_of rfl k | exact fun _ k => mp_of rfl (mp_to rfl k)) (fun h k => sat_pick 0 rfl (by first | exact fun _ k => k | exact fun _ k => blk_to rfl rfl k | exact fun _ k => vec_to rfl k | exact fun _ k => blk_of rfl rfl k | exact fun _ k => vec_of rfl k | exact fun _ k => blk_of rfl rfl (blk_to rfl rfl k) | exact fun _ k => vec_of rfl (vec_to rfl k) | exact fun _ k => mp_to rfl k | exact fun _ k => mp_of rfl k | exact fun _ k => mp_of rfl (mp_to rfl k)) (fun h k => sat_pick 0 rfl (by first | exact fun _ k => k | exact fun _ k => blk_to rfl rfl k | exact fun _ k => vec_to rfl k | exact fun _ k => blk_of rfl rfl k | exact fun _ k => vec_of rfl k | exact fun _ k => blk_of rfl rfl (blk_to rfl rfl k) | exact fun _ k => vec_of rfl (vec_to rfl k) | exact fun _ k => mp_to rfl k | exact fun _ k => mp_of rfl k | exact fun _ k => mp_of rfl (mp_to rfl k)) (fun h k => sat_pick 0 rfl (by first | exact fun _ k => k | exact fun _ k => blk_to rfl rfl k | exact fun _ k => vec_to rfl k | exact fun _ k => blk_of rfl rfl k | exact fun _ k => vec_of rfl k | exact fun _ k => blk_of rfl rfl (blk_to rfl rfl k) | exact fun _ k => vec_of rfl (vec_to rfl k) | exact fun _ k => mp_to rfl k | exact fun _ k => mp_of rfl k | exact fun _ k => mp_of rfl (mp_to rfl k)) (fun h k => sat_nil k) k) k) k) k) k) k) k) k) k) k) k) (fun f' b' hs _ => trivial) ?_
  rintro v post ⟨rfl, rfl⟩
  refine ⟨.tt, _, 4, [], NmExt.refl _, rfl, fun h k => trivial, ?_⟩
  refine call_ix (esame_spec (ent L 0) (locAddr 0 pd) (locAddr 0 pd2) cd cd2 (ent_bytes L 0)) rfl [] (fun h k => k) (fun f' b' hs kk => ⟨asn_reads 3 hs kk rfl, asn_reads 1 hs kk rfl⟩) ?_
  rintro v post ⟨rfl, rfl⟩
  refine ⟨.tt, _, 4, [], NmExt.refl _, rfl, fun h k => trivial, ?_⟩
  have hbd : ∀ x ∈ L.drop (0 + entN (ent L 0).op), 0 ≤ x ∧ x ≤ 255 := fun x hx => hb x (List.mem_of_mem_drop hx)
  obtain ⟨s, hs, hsz⟩ := bytes_of _ hbd
  have hr := adr_reads hA hc (min (0 + entN (ent L 0).op) L.length) (by omega)
  have hd : L.drop (min (0 + entN (ent L 0).op) L.length) = L.drop (0 + entN (ent L 0).op) := by
    generalize 0 + entN (ent L 0).op = p
    by_cases h : p ≤ L.length
    · rw [Nat.min_eq_left h]
    · rw [Nat.min_eq_right (by omega), List.drop_length, List.drop_of_length_le (by omega)]
  rw [hd] at hr
  refine Need.mk (by rw [lU]; omega) ?_
  refine StrOb.mk s (by rw [hs, List.drop_zero, List.take_of_length_le (by rw [lU]; omega)]) ?_
  refine SrcF.mk (bytesV s) (by rw [hs, lU, List.length_drop]; omega) (by rw [hs]; exact hr) (StrOb.mk s rfl ?_)
  refine Br.mk (fun _ => ?_) (fun h => absurd h (by simp))
  refine useP .tt live_spec rfl rfl ?_
  exact FinOb.mk _ [] rfl (fun h k => trivial) ⟨rfl, rfl⟩
theorem c5' : Try.prog.cellsOf 5 = 1 := by kernel_rfl
/-- A slice of small numbers. -/
theorem u8_list' {f : HP} {A : Option Addr} {len cap : Nat} (h : RdS Try.prog f 3 23 [.slice A len cap]) : ∃ L : List Int, L.length = len ∧ len ≤ cap ∧ cap ≤ 140737488355328 ∧ (∀ x ∈ L, 0 ≤ x ∧ x ≤ 255) ∧ Reads f A (U8.flat L) := by
  obtain ⟨L, h1, h2, h3, h4⟩ := RdS.list (φ := fun f cs (x : Int) => cs = [.int .u8 x] ∧ 0 ≤ x ∧ x ≤ 255) Try.underlying23 c5' (by omega) (of_decide_eq_true (by kernel_rfl)) h (fun cs hl hr => by
    obtain ⟨m, e1, e2⟩ := RdS.int Try.underlying5 hr
    have hm : 0 ≤ m ∧ m ≤ 255 := by simp [Lit.wf] at e2; exact e2
    exact ⟨m, e1, hm⟩)
  refine ⟨L, h1, h2, Nat.le_trans h3 (by unfold reachBytes; omega), fun x hx => ?_, fun i v hv => ?_⟩
  · obtain ⟨i, hi, rfl⟩ := List.getElem_of_mem hx
    obtain ⟨_, _, _, _, _, _, h5⟩ := h4 i _ (List.getElem?_eq_getElem hi)
    exact h5
  · have hl : i < L.length := by have := (List.getElem?_eq_some_iff.1 hv).1; rw [lU] at this; exact this
    have hx := List.getElem?_eq_getElem hl
    obtain ⟨b, o, cs, e1, e2, e3, _⟩ := h4 i _ hx
    refine ⟨b, o, e1, ?_⟩
    have e4 := U8.flat_at hx (j := 0) rfl
    have e5 : i * U8.sz + 0 = i := by simp [ints]
    rw [e5, hv] at e4
    have := e2 0 (.int .u8 L[i]) (by rw [e3]; rfl)
    rw [Nat.mul_one, Nat.add_zero] at this
    rw [this, e4]
theorem decodes_law (A : Option Addr) (len cap : Nat) : Does Try.prog 11 #[.slice A len cap] (fun f => RdS Try.prog f 3 23 [.slice A len cap]) [] (fun v q => v = .bool true ∧ q = []) := by
  refine ⟨Try.call11, fun f w hR hat => ?_⟩
  obtain ⟨L, rfl, h1, h2, h3, h4⟩ := u8_list' hR
  exact (decodes_walk A cap L h1 h3 (by omega)).run f w h4 hat
end Go.Proofs.Ytlgdagjbphafcaa.Sc
