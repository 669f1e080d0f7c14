/- wheel: reach. Conditions: none. -/
import Derived.Test.YtiknkeakielncaaWhH
namespace Go.Proofs.Ytiknkeakielncaa.Wh
open Go Go.Proofs Sx
set_option maxRecDepth 100000
set_option linter.unusedVariables false
set_option linter.unusedSimpArgs false
set_option maxHeartbeats 4000000

def tot (w : W) : Nat := w.late.l.length + (w.S.map fun s => s.l.length).sum
theorem le_sum : ∀ {l : List Nat} {a : Nat}, a ∈ l → a ≤ l.sum
  | [], a, h => by simp at h
  | x :: l, a, h => by
    rw [List.sum_cons]
    rcases List.mem_cons.1 h with rfl | h
    · omega
    · have := le_sum h; omega
theorem sum_set : ∀ (l : List Nat) (i a b : Nat), l[i]? = some b → (l.set i a).sum + b = l.sum + a
  | [], i, a, b, h => by simp at h
  | x :: l, 0, a, b, h => by simp at h; subst h; simp; omega
  | x :: l, i + 1, a, b, h => by
    have := sum_set l i a b (by simpa using h)
    simp only [List.set_cons_succ, List.sum_cons]; omega
theorem few_of {w : W} {n : Nat} (h : tot w ≤ n) : w.late.l.length ≤ n ∧ ∀ s ∈ w.S, s.l.length ≤ n := by
  unfold tot at h
  refine ⟨by omega, fun s hs => ?_⟩
  have : s.l.length ≤ (w.S.map fun s => s.l.length).sum := le_sum (List.mem_map.2 ⟨s, hs, rfl⟩)
  omega
theorem sum_spoke {S : List Sp} {i : Nat} {s s' : Sp} (h : S[i]? = some s) : ((S.set i s').map fun s => s.l.length).sum + s.l.length = (S.map fun s => s.l.length).sum + s'.l.length := by
  rw [List.map_set]
  exact sum_set _ i _ _ (by rw [List.getElem?_map, h]; rfl)
theorem Hung.tot {w w' : W} {t : T} (h : Hung w t w') : tot w' = tot w + 1 := by
  rcases h with ⟨_, s, rfl, e, _⟩ | ⟨_, s0, s, hs, rfl, e, _⟩
  · unfold Wh.tot
    show s.l.length + (w.S.map fun s => s.l.length).sum = w.late.l.length + (w.S.map fun s => s.l.length).sum + 1
    rw [e, List.length_append, List.length_singleton]; omega
  · have := sum_spoke (s' := s) hs
    unfold Wh.tot
    show w.late.l.length + ((w.S.set _ s).map _).sum = _
    rw [e, List.length_append, List.length_singleton] at this
    omega
theorem Hung.fine {w w' : W} {t : T} (h : Hung w t w') (fw : Fine w) (ht : Wh.tot w + 1 ≤ 100000) : Fine w' := by
  have h2 := few_of (n := 100000) (w := w') (by rw [h.tot]; exact ht)
  rcases h with ⟨_, s, rfl, e, hc⟩ | ⟨_, s0, s, hs, rfl, e, hc⟩
  · exact ⟨fw.hl, fw.n0, fw.n1, h2, ⟨hc, fw.cap.2⟩⟩
  · refine ⟨by show (w.S.set _ _).length = 448; rw [List.length_set]; exact fw.hl, fw.n0, fw.n1, h2, ⟨fw.cap.1, fun q hq => ?_⟩⟩
    rcases List.mem_or_eq_of_mem_set hq with hq | rfl
    · exact fw.cap.2 q hq
    · exact hc
theorem Hung.now {w w' : W} {t : T} (h : Hung w t w') : w'.now = w.now ∧ w'.no = w.no := by
  rcases h with ⟨_, s, rfl, _⟩ | ⟨_, s0, s, _, rfl, _⟩ <;> exact ⟨rfl, rfl⟩
/-- Hung one after the other. -/
inductive HungL (w : W) : List T → W → Prop
  | nil : HungL w [] w
  | snoc {l : List T} {w1 w2 : W} {t : T} (h : HungL w l w1) (k : Hung w1 t w2) : HungL w (l ++ [t]) w2
theorem HungL.keep {w w' : W} {l : List T} (h : HungL w l w') (fw : Fine w) (ht : tot w + l.length ≤ 100000) : Fine w' ∧ tot w' = tot w + l.length ∧ w'.now = w.now ∧ w'.no = w.no ∧ w'.mb = w.mb ∧ w'.K = w.K := by
  induction h with
  | nil => exact ⟨fw, rfl, rfl, rfl, rfl, rfl⟩
  | snoc h k ih =>
    rw [List.length_append, List.length_singleton] at ht
    obtain ⟨a, b, c, d, e, f⟩ := ih (by omega)
    refine ⟨k.fine a (by omega), by rw [k.tot, b, List.length_append, List.length_singleton]; omega, by rw [k.now.1, c], by rw [k.now.2, d], by rw [k.same.1, e], by rw [k.same.2, f]⟩
/-- A wheel whose spoke has been taken off, at a new tick. -/
def W.off (w : W) (i : Nat) (x : Int) : W := { w with now := x, S := w.S.set i sp0 }
theorem off_fine {w : W} {i : Nat} {x : Int} (fw : Fine w) (x0 : 0 ≤ x) (x1 : x ≤ Big) : Fine (w.off i x) := by
  have all : ∀ {φ : Sp → Prop}, (∀ q ∈ w.S, φ q) → φ sp0 → ∀ q ∈ w.S.set i sp0, φ q := fun h1 h2 q hq => by
    rcases List.mem_or_eq_of_mem_set hq with hq | rfl
    · exact h1 q hq
    · exact h2
  exact ⟨by show (w.S.set _ _).length = 448; rw [List.length_set]; exact fw.hl, x0, x1, ⟨fw.few.1, all fw.few.2 (Nat.zero_le _)⟩, ⟨fw.cap.1, all fw.cap.2 (Nat.le_refl _)⟩⟩
theorem off_tot {w : W} {i : Nat} {x : Int} {s : Sp} (h : w.S[i]? = some s) : tot (w.off i x) + s.l.length = tot w := by
  have := sum_spoke (s' := sp0) h
  unfold tot W.off
  show w.late.l.length + ((w.S.set i sp0).map _).sum + _ = _
  have e : sp0.l.length = 0 := rfl
  omega
theorem reach_spec (b : Nat) (w : W) (x : Int) (fw : Fine w) (x0 : 0 ≤ x) (x1 : x ≤ Big) (pl0 : Plc) (cap0 : Nat) (l0 : List T) (hix : w.S[ix w.now x]? = some ⟨pl0, cap0, l0⟩) (ht : tot w ≤ 90000) (hr : ∀ t ∈ l0, 0 ≤ t.at_ ∧ t.at_ ≤ Big) :
    Does Try.prog 66 #[.pointer (some ⟨b, 0, none⟩), .int .i64 x] (fun _ => True) [Hd b w, Vs w.S, w.late.vec] (fun v p => ∃ w2, v = .tuple #[] ∧ HungL (w.off (ix w.now x) x) l0 w2 ∧ p = [Hd b w2, Vs w2.S, w2.late.vec]) := by
  have hil := (List.getElem?_eq_some_iff.1 hix).1
  refine Does.presure (φ := l0 ≠ [] → ∃ b o, pl0 = .at b o) Try.call66 (fun h k => fun hne => ?_) (fun hpl => ?_)
  · obtain ⟨_, _, _, hx, _⟩ := vs_out hix (sat_pick 1 rfl (fun _ k => k) (fun _ k => k) k)
    refine vec_at (fun e => hne ?_) hx
    have := congrArg List.length e
    rw [lT] at this
    exact List.length_eq_zero_iff.1 (by have h5 : l0.length * 3 = 0 := this; omega)
  refine Does.ofJ Try.func66 Try.call66 rfl [.raw (.pointer (some ⟨b, 0, none⟩)), .int .i64 x] [(0, pl0)] 1 [.asn (Hd b w), .vec 0 126 3 cap0 (TL.flat l0), .asn (Alls ((w.S.map Sp.vec).eraseIdx (ix w.now x))), .asn w.late.vec] rfl rfl (fun h k => ?_) (fun f hR => ?_)
  · refine sat_cons (fun _ k => k) (fun h k => ?_) k
    exact sat_head (fun _ k => vec_of rfl k) (vs_out hix k)
  refine useA [] [_, _, _] (.int .i64 (hi w.now x)) (wheel_spec b w x fw.n0 fw.n1 x0 x1) rfl rfl rfl ?_
  have hk := hi_lt w.now x
  obtain ⟨d0, d1⟩ := dig_range x (hi w.now x)
  refine DrawOb.mk [(4, [0, 1, 5, 6, 7])] (.run [0, 1, 2, 3, 5, 6, 7, 4, 8, 9] .nil) (by kernel_rfl) ?_
  refine Need.mk ⟨by omega, by omega⟩ ?_
  refine useP (.int .i64 (dig x (hi w.now x))) (spoke_spec x (hi w.now x) x0 x1 (by omega)) rfl rfl ?_
  refine Need.mk ⟨by omega, by omega⟩ ?_
  have hoff : 0 + 3 + ((hi w.now x : Nat) : Int).toNat * 64 + (dig x (hi w.now x)).toNat * 1 = 3 + ix w.now x := by unfold ix; omega
  refine RdRaw.told (.sl 0 0 l0.length cap0) _ rfl (fun h k => sat_cell 0 rfl (fun y ky => by rw [hoff]; exact hd_cell (spoke_cell hix) y ky) k) ?_
  refine StRaw.on 0 (Hd b { w with S := w.S.set (ix w.now x) sp0 }) [.slice none 0 0] rfl rfl (fun y ky => ?_) ?_
  · rw [hoff]
    exact hd_store (w' := { w with S := w.S.set (ix w.now x) sp0 }) (v := .slice none 0 0) (j := 3 + ix w.now x) fw.hl (by have := ix_lt w.now x; omega) (cells_spoke hil) y ky
  refine StRaw.on 0 (Hd b (w.off (ix w.now x) x)) [.int .i64 x] rfl rfl (fun y ky => ?_) ?_
  · exact hd_store (w := { w with S := w.S.set (ix w.now x) sp0 }) (w' := w.off (ix w.now x) x) (v := .int .i64 x) (j := 0) (by show (w.S.set _ _).length = 448; rw [List.length_set]; exact fw.hl) (by omega) rfl y ky
  have fw0 := off_fine (i := ix w.now x) fw x0 x1
  have ht0 : tot (w.off (ix w.now x) x) + l0.length = tot w := off_tot (x := x) hix
  refine LoopOb.mk { z : Nat × W // z.1 ≤ l0.length ∧ HungL (w.off (ix w.now x) x) (l0.take z.1) z.2 } (fun z => ⟨40, [(0, .raw (.pointer (some ⟨b, 0, none⟩))), (30, .sl 0 0 l0.length cap0), (31, .int .i64 l0.length), (32, .int .i64 z.1.1)], [(0, pl0)], 1, [.asn (Hd b z.1.2), .asn (Vs z.1.2.S), .asn z.1.2.late.vec, .vec 0 126 3 cap0 (TL.flat l0)]⟩) (fun z => l0.length - z.1.1)
    ⟨(0, w.off (ix w.now x) x), Nat.zero_le _, HungL.nil⟩ ?_ ?_
  · refine Le.of rfl ⟨⟨_, rfl, rfl⟩, ⟨_, rfl, rfl⟩, ⟨_, rfl, rfl⟩, ⟨_, rfl, rfl⟩, trivial⟩ (fun h k => ?_)
    have k1 : sat [Hd b (w.off (ix w.now x) x), Alls ((w.S.map Sp.vec).eraseIdx (ix w.now x)), w.late.vec, entDen [(0, pl0)] (.vec 0 126 3 cap0 (TL.flat l0))] h := (fun h k => sat_pick 0 rfl (by first | exact fun _ k => k | exact fun _ k => blk_to rfl rfl k | exact fun _ k => vec_to rfl k | exact fun _ k => blk_of rfl rfl k | exact fun _ k => vec_of rfl k | exact fun _ k => blk_of rfl rfl (blk_to rfl rfl k) | exact fun _ k => vec_of rfl (vec_to rfl k) | exact fun _ k => mp_to rfl k | exact fun _ k => mp_of rfl k | exact fun _ k => mp_of rfl (mp_to rfl k)) (fun h k => sat_pick 1 rfl (by first | exact fun _ k => k | exact fun _ k => blk_to rfl rfl k | exact fun _ k => vec_to rfl k | exact fun _ k => blk_of rfl rfl k | exact fun _ k => vec_of rfl k | exact fun _ k => blk_of rfl rfl (blk_to rfl rfl k) | exact fun _ k => vec_of rfl (vec_to rfl k) | exact fun _ k => mp_to rfl k | exact fun _ k => mp_of rfl k | exact fun _ k => mp_of rfl (mp_to rfl k)) (fun h k => sat_pick 1 rfl (by first | exact fun _ k => k | exact fun _ k => blk_to rfl rfl k | exact fun _ k => vec_to rfl k | exact fun _ k => blk_of rfl rfl k | exact fun _ k => vec_of rfl k | exact fun _ k => blk_of rfl rfl (blk_to rfl rfl k) | exact fun _ k => vec_of rfl (vec_to rfl k) | exact fun _ k => mp_to rfl k | exact fun _ k => mp_of rfl k | exact fun _ k => mp_of rfl (mp_to rfl k)) (fun h k => sat_pick 0 rfl (fun _ k => k) (fun h k => sat_nil k) k) k) k) k) h k
    refine sat_cons (fun _ k => k) (fun h k => ?_) k1
    refine sat_head (fun h k => ?_) k
    exact vs_in hil sp0 h (sat_add vec_emp ⟨h, HP.emp, .emp_right _, k, trivial⟩)
  rintro ⟨⟨j, wj⟩, hj, hh⟩
  simp only at hj hh
  refine CondOb.split (fun g => ?_) (fun g => ?_)
  rotate_left
  · have g : j = l0.length := by
      have g := of_decide_eq_false g
      have : ¬ (j : Int) < l0.length := g
      omega
    subst g
    rw [List.take_length] at hh
    exact FinOb.mk [] [Hd b wj, Vs wj.S, wj.late.vec] rfl (fun h k => sat_pick 0 rfl (by first | exact fun _ k => k | exact fun _ k => blk_to rfl rfl k | exact fun _ k => vec_to rfl k | exact fun _ k => blk_of rfl rfl k | exact fun _ k => vec_of rfl k | exact fun _ k => blk_of rfl rfl (blk_to rfl rfl k) | exact fun _ k => vec_of rfl (vec_to rfl k) | exact fun _ k => mp_to rfl k | exact fun _ k => mp_of rfl k | exact fun _ k => mp_of rfl (mp_to rfl k)) (fun h k => sat_pick 0 rfl (by first | exact fun _ k => k | exact fun _ k => blk_to rfl rfl k | exact fun _ k => vec_to rfl k | exact fun _ k => blk_of rfl rfl k | exact fun _ k => vec_of rfl k | exact fun _ k => blk_of rfl rfl (blk_to rfl rfl k) | exact fun _ k => vec_of rfl (vec_to rfl k) | exact fun _ k => mp_to rfl k | exact fun _ k => mp_of rfl k | exact fun _ k => mp_of rfl (mp_to rfl k)) (fun h k => sat_pick 0 rfl (by first | exact fun _ k => k | exact fun _ k => blk_to rfl rfl k | exact fun _ k => vec_to rfl k | exact fun _ k => blk_of rfl rfl k | exact fun _ k => vec_of rfl k | exact fun _ k => blk_of rfl rfl (blk_to rfl rfl k) | exact fun _ k => vec_of rfl (vec_to rfl k) | exact fun _ k => mp_to rfl k | exact fun _ k => mp_of rfl k | exact fun _ k => mp_of rfl (mp_to rfl k)) (fun h k => sat_nil k) k) k) k) ⟨wj, rfl, hh, rfl⟩
  have g : j < l0.length := by
    have g := of_decide_eq_true g
    have : (j : Int) < l0.length := g
    omega
  have hx := List.getElem?_eq_getElem g
  generalize l0[j] = t at hx
  obtain ⟨t0, t1⟩ := hr t (List.mem_of_getElem? hx)
  obtain ⟨fj, tj, nj, noj, mj, kj⟩ := hh.keep fw0 (by rw [List.length_take]; omega)
  rw [List.length_take] at tj
  have ej : IntKind.i64.wrap ((j : Int) + 1) = ((j + 1 : Nat) : Int) := by have := few_of (n := 90000) ht; have : l0.length ≤ 90000 := this.2 ⟨pl0, cap0, l0⟩ (List.mem_of_getElem? hix); rw [w64 (by omega) (by omega)]; omega
  obtain ⟨pb, po, rfl⟩ := hpl (by intro e; rw [e] at g; simp at g)
  refine Need.mk (show (0 : Int) ≤ (j : Int) ∧ (j : Int) < (l0.length : Nat) from ⟨by omega, by omega⟩) ?_
  refine RdObL.mk t.svs (by decide) ?_ ?_ ?_
  · show 0 + j * 3 + 3 ≤ _
    rw [lT]; omega
  · show _ = some (((TL.flat l0).drop (0 + j * 3)).take 3)
    rw [show 0 + j * 3 = j * 3 from by omega]
    exact congrArg some (TL.flat_get hx).symm
  intro b8
  refine call_ix (hang_spec b wj t fj.hl fj.n0 fj.n1 t0 t1 fj.few fj.cap) rfl [1, 1, 1] (fun h k => sat_pick 1 rfl (by first | exact fun _ k => k | exact fun _ k => blk_to rfl rfl k | exact fun _ k => vec_to rfl k | exact fun _ k => blk_of rfl rfl k | exact fun _ k => vec_of rfl k | exact fun _ k => blk_of rfl rfl (blk_to rfl rfl k) | exact fun _ k => vec_of rfl (vec_to rfl k) | exact fun _ k => mp_to rfl k | exact fun _ k => mp_of rfl k | exact fun _ k => mp_of rfl (mp_to rfl k)) (fun h k => sat_pick 1 rfl (by first | exact fun _ k => k | exact fun _ k => blk_to rfl rfl k | exact fun _ k => vec_to rfl k | exact fun _ k => blk_of rfl rfl k | exact fun _ k => vec_of rfl k | exact fun _ k => blk_of rfl rfl (blk_to rfl rfl k) | exact fun _ k => vec_of rfl (vec_to rfl k) | exact fun _ k => mp_to rfl k | exact fun _ k => mp_of rfl k | exact fun _ k => mp_of rfl (mp_to rfl k)) (fun h k => sat_pick 1 rfl (by first | exact fun _ k => k | exact fun _ k => blk_to rfl rfl k | exact fun _ k => vec_to rfl k | exact fun _ k => blk_of rfl rfl k | exact fun _ k => vec_of rfl k | exact fun _ k => blk_of rfl rfl (blk_to rfl rfl k) | exact fun _ k => vec_of rfl (vec_to rfl k) | exact fun _ k => mp_to rfl k | exact fun _ k => mp_of rfl k | exact fun _ k => mp_of rfl (mp_to rfl k)) (fun h k => sat_pick 0 rfl (by first | exact fun _ k => k | exact fun _ k => blk_to rfl rfl k | exact fun _ k => vec_to rfl k | exact fun _ k => blk_of rfl rfl k | exact fun _ k => vec_of rfl k | exact fun _ k => blk_of rfl rfl (blk_to rfl rfl k) | exact fun _ k => vec_of rfl (vec_to rfl k) | exact fun _ k => mp_to rfl k | exact fun _ k => mp_of rfl k | exact fun _ k => mp_of rfl (mp_to rfl k)) (fun h k => sat_pick 0 rfl (fun _ k => k) (fun h k => sat_nil k) k) k) k) k) k) (fun _ _ _ _ => trivial) ?_
  rintro v post ⟨w2, rfl, h2, rfl⟩
  refine ⟨.tuple [], _, 2, [.asn (Hd b w2), .asn (Vs w2.S), .asn w2.late.vec], NmExt.refl _, rfl, (fun h k => sat_pick 0 rfl (by first | exact fun _ k => k | exact fun _ k => blk_to rfl rfl k | exact fun _ k => vec_to rfl k | exact fun _ k => blk_of rfl rfl k | exact fun _ k => vec_of rfl k | exact fun _ k => blk_of rfl rfl (blk_to rfl rfl k) | exact fun _ k => vec_of rfl (vec_to rfl k) | exact fun _ k => mp_to rfl k | exact fun _ k => mp_of rfl k | exact fun _ k => mp_of rfl (mp_to rfl k)) (fun h k => sat_pick 0 rfl (by first | exact fun _ k => k | exact fun _ k => blk_to rfl rfl k | exact fun _ k => vec_to rfl k | exact fun _ k => blk_of rfl rfl k | exact fun _ k => vec_of rfl k | exact fun _ k => blk_of rfl rfl (blk_to rfl rfl k) | exact fun _ k => vec_of rfl (vec_to rfl k) | exact fun _ k => mp_to rfl k | exact fun _ k => mp_of rfl k | exact fun _ k => mp_of rfl (mp_to rfl k)) (fun h k => sat_pick 0 rfl (by first | exact fun _ k => k | exact fun _ k => blk_to rfl rfl k | exact fun _ k => vec_to rfl k | exact fun _ k => blk_of rfl rfl k | exact fun _ k => vec_of rfl k | exact fun _ k => blk_of rfl rfl (blk_to rfl rfl k) | exact fun _ k => vec_of rfl (vec_to rfl k) | exact fun _ k => mp_to rfl k | exact fun _ k => mp_of rfl k | exact fun _ k => mp_of rfl (mp_to rfl k)) (fun h k => sat_nil k) k) k) k), ?_⟩
  refine ⟨⟨(j + 1, w2), g, ?_⟩, by show l0.length - (j + 1) < l0.length - j; omega, Le.of rfl ⟨⟨_, rfl, rfl⟩, ⟨_, rfl, rfl⟩, ⟨_, rfl, rfl⟩, ⟨_, rfl, congrArg (fun z => some (Value.int .i64 z)) ej⟩, trivial⟩ (fun h k => sat_pick 0 rfl (by first | exact fun _ k => k | exact fun _ k => blk_to rfl rfl k | exact fun _ k => vec_to rfl k | exact fun _ k => blk_of rfl rfl k | exact fun _ k => vec_of rfl k | exact fun _ k => blk_of rfl rfl (blk_to rfl rfl k) | exact fun _ k => vec_of rfl (vec_to rfl k) | exact fun _ k => mp_to rfl k | exact fun _ k => mp_of rfl k | exact fun _ k => mp_of rfl (mp_to rfl k)) (fun h k => sat_pick 0 rfl (by first | exact fun _ k => k | exact fun _ k => blk_to rfl rfl k | exact fun _ k => vec_to rfl k | exact fun _ k => blk_of rfl rfl k | exact fun _ k => vec_of rfl k | exact fun _ k => blk_of rfl rfl (blk_to rfl rfl k) | exact fun _ k => vec_of rfl (vec_to rfl k) | exact fun _ k => mp_to rfl k | exact fun _ k => mp_of rfl k | exact fun _ k => mp_of rfl (mp_to rfl k)) (fun h k => sat_pick 0 rfl (by first | exact fun _ k => k | exact fun _ k => blk_to rfl rfl k | exact fun _ k => vec_to rfl k | exact fun _ k => blk_of rfl rfl k | exact fun _ k => vec_of rfl k | exact fun _ k => blk_of rfl rfl (blk_to rfl rfl k) | exact fun _ k => vec_of rfl (vec_to rfl k) | exact fun _ k => mp_to rfl k | exact fun _ k => mp_of rfl k | exact fun _ k => mp_of rfl (mp_to rfl k)) (fun h k => sat_pick 1 rfl (fun _ k => vec_of rfl (vec_to rfl k)) (fun h k => sat_nil k) k) k) k) k)⟩
  show HungL _ (l0.take (j + 1)) w2
  rw [List.take_add_one, hx]
  exact .snoc hh h2
end Go.Proofs.Ytiknkeakielncaa.Wh
