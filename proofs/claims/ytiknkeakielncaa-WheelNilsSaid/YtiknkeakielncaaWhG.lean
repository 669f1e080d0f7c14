/- wheel: Set. Conditions: none. -/
import Derived.Test.YtiknkeakielncaaWhF
namespace Go.Proofs.Ytiknkeakielncaa.Wh
open Go Go.Proofs Sx
set_option maxRecDepth 100000
set_option linter.unusedVariables false
set_option linter.unusedSimpArgs false
set_option maxHeartbeats 4000000

theorem less_length (s : Sp) (id : Int) : (s.less id).l.length ≤ s.l.length := List.length_filter_le _ _
theorem Stopped.same {w w1 : W} {id : Int} {t : T} (h : Stopped w id t w1) : w1.now = w.now ∧ w1.no = w.no ∧ w1.mb = w.mb ∧ w1.K = delT id w.K := by
  rcases h with ⟨_, rfl⟩ | ⟨_, s, _, rfl⟩ <;> exact ⟨rfl, rfl, rfl, rfl⟩
theorem Stopped.fine {w w1 : W} {id : Int} {t : T} (h : Stopped w id t w1) (fw : Fine w) : Fine w1 := by
  rcases h with ⟨_, rfl⟩ | ⟨_, s, hs, rfl⟩
  · have := less_length w.late id
    exact ⟨fw.hl, fw.n0, fw.n1, ⟨by have := fw.few.1; show (w.late.less id).l.length ≤ _; omega, fw.few.2⟩, ⟨by have := fw.cap.1; show (w.late.less id).l.length ≤ w.late.cap; omega, fw.cap.2⟩⟩
  · have hm := List.mem_of_getElem? hs
    have h1 := less_length s id
    have all : ∀ {φ : Sp → Prop}, (∀ q ∈ w.S, φ q) → φ (s.less id) → ∀ q ∈ w.S.set (ix w.now t.at_) (s.less id), φ q := fun h1 h2 q hq => by
      rcases List.mem_or_eq_of_mem_set hq with hq | rfl
      · exact h1 q hq
      · exact h2
    exact ⟨by show (w.S.set _ _).length = 448; rw [List.length_set]; exact fw.hl, fw.n0, fw.n1, ⟨fw.few.1, all fw.few.2 (by have := fw.few.2 s hm; omega)⟩, ⟨fw.cap.1, all fw.cap.2 (by have := fw.cap.2 s hm; show (s.less id).l.length ≤ s.cap; omega)⟩⟩
theorem upd_ent (id : Int) (t : T) (ht : t.id = id) : ∀ K : List T, K.find? (fun t => id == t.id) = none → updL [id] (.agg t.vals.toArray) (K.map T.ent) = (K ++ [t]).map T.ent
  | [], _ => by subst ht; rfl
  | q :: K, h => by
    rw [List.find?_cons] at h
    cases e : (id == q.id) with
    | true => rw [e] at h; cases h
    | false =>
      rw [e] at h
      show updL [id] _ (([q.id], _) :: _) = _
      unfold updL
      rw [if_neg (by simpa using e), upd_ent id t ht K h]
      rfl
theorem find_delT {K : List T} (hnd : K.Pairwise (fun a b => a.id ≠ b.id)) (id : Int) : (delT id K).find? (fun t => id == t.id) = none := by
  induction K with
  | nil => rfl
  | cons q K ih =>
    rw [List.pairwise_cons] at hnd
    unfold delT
    rw [List.eraseP_cons]
    cases e : (id == q.id) with
    | true =>
      show K.find? _ = none
      rw [List.find?_eq_none]
      intro t ht
      have := hnd.1 t ht
      have e : id = q.id := by simpa using e
      simp only [beq_iff_eq]
      omega
    | false =>
      show (q :: delT id K).find? _ = none
      rw [List.find?_cons, e]
      exact ih hnd.2
/-- What Set makes of a wheel, where it may. -/
def SetW (w : W) (id x : Int) (w2 : W) : Prop :=
  ∃ w1, ((w.K.find? (fun t => id == t.id) = none ∧ w1 = w) ∨ ∃ t, w.K.find? (fun t => id == t.id) = some t ∧ Stopped w id t w1) ∧
    Hung { w1 with no := w.no + 1, K := w1.K ++ [⟨id, x, w.no⟩] } ⟨id, x, w.no⟩ w2
theorem Hung.same {w w' : W} {t : T} (h : Hung w t w') : w'.mb = w.mb ∧ w'.K = w.K := by
  rcases h with ⟨_, s, rfl, _⟩ | ⟨_, s0, s, _, rfl, _⟩ <;> exact ⟨rfl, rfl⟩
theorem set_range (b : Nat) (id x : Int) (h : x < 0 ∨ 1099511627776 < x) : Does Try.prog 18 #[.pointer (some ⟨b, 0, none⟩), .int .i64 id, .int .i64 x] (fun _ => True) [] (fun v p => v = .int .i64 8 ∧ p = []) := by
  refine Does.ofJ Try.func18 Try.call18 rfl [.raw (.pointer (some ⟨b, 0, none⟩)), .int .i64 id, .int .i64 x] [] 0 [] rfl rfl (fun h k => k) (fun f hR => ?_)
  refine RegOb.go ?_
  refine Br.mk (fun g => ?_) (fun g => ?_)
  · exact FinOb.mk [.int .i64 8] [] rfl (fun h k => trivial) ⟨rfl, rfl⟩
  refine CondOb.split (fun g2 => ?_) (fun g2 => ?_)
  · exact FinOb.mk [.int .i64 8] [] rfl (fun h k => trivial) ⟨rfl, rfl⟩
  · have g := of_decide_eq_false g
    have g2 := of_decide_eq_false g2
    omega
theorem set_full (b : Nat) (w : W) (id x : Int) (fw : Fine w) (h : w.K.find? (fun t => id == t.id) = none) (x0 : 0 ≤ x) (x1 : x ≤ 1099511627776) (hf : 4096 ≤ w.K.length) (hf2 : w.K.length ≤ 1000000) : Does Try.prog 18 #[.pointer (some ⟨b, 0, none⟩), .int .i64 id, .int .i64 x] (fun _ => True) (Wl b w)
    (fun v p => v = .int .i64 5 ∧ p = Wl b w) := by
  refine Does.ofJ Try.func18 Try.call18 rfl [.raw (.pointer (some ⟨b, 0, none⟩)), .int .i64 id, .int .i64 x] [(0, .at w.mb 0)] 1 [.asn (Hd b w), .asn (Vs w.S), .asn w.late.vec, .mp 0 KI (w.K.map T.ent)] rfl rfl (fun h k => sat_pick 0 rfl (by first | exact fun _ k => k | exact fun _ k => blk_to rfl rfl k | exact fun _ k => vec_to rfl k | exact fun _ k => blk_of rfl rfl k | exact fun _ k => vec_of rfl k | exact fun _ k => blk_of rfl rfl (blk_to rfl rfl k) | exact fun _ k => vec_of rfl (vec_to rfl k) | exact fun _ k => mp_to rfl k | exact fun _ k => mp_of rfl k | exact fun _ k => mp_of rfl (mp_to rfl k)) (fun h k => sat_pick 0 rfl (by first | exact fun _ k => k | exact fun _ k => blk_to rfl rfl k | exact fun _ k => vec_to rfl k | exact fun _ k => blk_of rfl rfl k | exact fun _ k => vec_of rfl k | exact fun _ k => blk_of rfl rfl (blk_to rfl rfl k) | exact fun _ k => vec_of rfl (vec_to rfl k) | exact fun _ k => mp_to rfl k | exact fun _ k => mp_of rfl k | exact fun _ k => mp_of rfl (mp_to rfl k)) (fun h k => sat_pick 0 rfl (by first | exact fun _ k => k | exact fun _ k => blk_to rfl rfl k | exact fun _ k => vec_to rfl k | exact fun _ k => blk_of rfl rfl k | exact fun _ k => vec_of rfl k | exact fun _ k => blk_of rfl rfl (blk_to rfl rfl k) | exact fun _ k => vec_of rfl (vec_to rfl k) | exact fun _ k => mp_to rfl k | exact fun _ k => mp_of rfl k | exact fun _ k => mp_of rfl (mp_to rfl k)) (fun h k => sat_pick 0 rfl (fun _ k => mp_of rfl k) (fun h k => sat_nil k) k) k) k) k) (fun f hR => ?_)
  have hf := find_ent id w.K
  rw [h] at hf
  refine RegOb.go ?_
  refine Br.mk (fun g => absurd (of_decide_eq_true g) (by omega)) (fun g => ?_)
  refine CondOb.split (fun g2 => absurd (of_decide_eq_true g2) (by omega)) (fun g2 => ?_)
  refine RdRaw.told (.map 0) _ rfl (fun h k => sat_cell 0 rfl (fun x kx => known_read fw.hl x kx) k) ?_
  refine LkOb.miss hf ?_
  intro b7
  refine RegOb.go ?_
  refine RdRaw.told (.map 0) _ rfl (fun h k => sat_cell 1 rfl (fun x kx => known_read fw.hl x kx) k) ?_
  refine CondOb.split (fun g => ?_) (fun g => ?_)
  · exact FinOb.mk [.int .i64 5] (Wl b w) rfl (fun h k => sat_pick 1 rfl (by first | exact fun _ k => k | exact fun _ k => blk_to rfl rfl k | exact fun _ k => vec_to rfl k | exact fun _ k => blk_of rfl rfl k | exact fun _ k => vec_of rfl k | exact fun _ k => blk_of rfl rfl (blk_to rfl rfl k) | exact fun _ k => vec_of rfl (vec_to rfl k) | exact fun _ k => mp_to rfl k | exact fun _ k => mp_of rfl k | exact fun _ k => mp_of rfl (mp_to rfl k)) (fun h k => sat_pick 1 rfl (by first | exact fun _ k => k | exact fun _ k => blk_to rfl rfl k | exact fun _ k => vec_to rfl k | exact fun _ k => blk_of rfl rfl k | exact fun _ k => vec_of rfl k | exact fun _ k => blk_of rfl rfl (blk_to rfl rfl k) | exact fun _ k => vec_of rfl (vec_to rfl k) | exact fun _ k => mp_to rfl k | exact fun _ k => mp_of rfl k | exact fun _ k => mp_of rfl (mp_to rfl k)) (fun h k => sat_pick 1 rfl (by first | exact fun _ k => k | exact fun _ k => blk_to rfl rfl k | exact fun _ k => vec_to rfl k | exact fun _ k => blk_of rfl rfl k | exact fun _ k => vec_of rfl k | exact fun _ k => blk_of rfl rfl (blk_to rfl rfl k) | exact fun _ k => vec_of rfl (vec_to rfl k) | exact fun _ k => mp_to rfl k | exact fun _ k => mp_of rfl k | exact fun _ k => mp_of rfl (mp_to rfl k)) (fun h k => sat_pick 1 rfl (fun _ k => mp_to rfl k) (fun h k => sat_nil k) k) k) k) k) ⟨rfl, rfl⟩
  · have g := of_decide_eq_false g
    have g : ¬ (4096 : Int) ≤ ((w.K.map T.ent).length : Nat) := g
    rw [List.length_map] at g
    omega
theorem set_new (b : Nat) (w : W) (id x : Int) (fw : Fine w) (hK : ∀ t ∈ w.K, t.at_ ≤ Big) (h : w.K.find? (fun t => id == t.id) = none) (x0 : 0 ≤ x) (x1 : x ≤ 1099511627776) (hf : w.K.length < 4096) (hno : 0 ≤ w.no ∧ w.no ≤ Big) : Does Try.prog 18 #[.pointer (some ⟨b, 0, none⟩), .int .i64 id, .int .i64 x] (fun _ => True) (Wl b w)
    (fun v p => v = .int .i64 0 ∧ ∃ w2, SetW w id x w2 ∧ p = Wl b w2) := by
  refine Does.ofJ Try.func18 Try.call18 rfl [.raw (.pointer (some ⟨b, 0, none⟩)), .int .i64 id, .int .i64 x] [(0, .at w.mb 0)] 1 [.asn (Hd b w), .asn (Vs w.S), .asn w.late.vec, .mp 0 KI (w.K.map T.ent)] rfl rfl (fun h k => sat_pick 0 rfl (by first | exact fun _ k => k | exact fun _ k => blk_to rfl rfl k | exact fun _ k => vec_to rfl k | exact fun _ k => blk_of rfl rfl k | exact fun _ k => vec_of rfl k | exact fun _ k => blk_of rfl rfl (blk_to rfl rfl k) | exact fun _ k => vec_of rfl (vec_to rfl k) | exact fun _ k => mp_to rfl k | exact fun _ k => mp_of rfl k | exact fun _ k => mp_of rfl (mp_to rfl k)) (fun h k => sat_pick 0 rfl (by first | exact fun _ k => k | exact fun _ k => blk_to rfl rfl k | exact fun _ k => vec_to rfl k | exact fun _ k => blk_of rfl rfl k | exact fun _ k => vec_of rfl k | exact fun _ k => blk_of rfl rfl (blk_to rfl rfl k) | exact fun _ k => vec_of rfl (vec_to rfl k) | exact fun _ k => mp_to rfl k | exact fun _ k => mp_of rfl k | exact fun _ k => mp_of rfl (mp_to rfl k)) (fun h k => sat_pick 0 rfl (by first | exact fun _ k => k | exact fun _ k => blk_to rfl rfl k | exact fun _ k => vec_to rfl k | exact fun _ k => blk_of rfl rfl k | exact fun _ k => vec_of rfl k | exact fun _ k => blk_of rfl rfl (blk_to rfl rfl k) | exact fun _ k => vec_of rfl (vec_to rfl k) | exact fun _ k => mp_to rfl k | exact fun _ k => mp_of rfl k | exact fun _ k => mp_of rfl (mp_to rfl k)) (fun h k => sat_pick 0 rfl (fun _ k => mp_of rfl k) (fun h k => sat_nil k) k) k) k) k) (fun f hR => ?_)
  have hf := find_ent id w.K
  rw [h] at hf
  refine RegOb.go ?_
  refine Br.mk (fun g => absurd (of_decide_eq_true g) (by omega)) (fun g => ?_)
  refine CondOb.split (fun g2 => absurd (of_decide_eq_true g2) (by omega)) (fun g2 => ?_)
  refine RdRaw.told (.map 0) _ rfl (fun h k => sat_cell 0 rfl (fun x kx => known_read fw.hl x kx) k) ?_
  refine LkOb.miss hf ?_
  intro b7
  refine RegOb.go ?_
  refine RdRaw.told (.map 0) _ rfl (fun h k => sat_cell 1 rfl (fun x kx => known_read fw.hl x kx) k) ?_
  refine CondOb.split (fun g => ?_) (fun g => ?_)
  · have g := of_decide_eq_true g
    have g : (4096 : Int) ≤ ((w.K.map T.ent).length : Nat) := g
    rw [List.length_map] at g
    omega
  refine call_ix (stop_spec b w id fw hK) rfl [1, 1, 1, 1] (fun h k => sat_pick 1 rfl (by first | exact fun _ k => k | exact fun _ k => blk_to rfl rfl k | exact fun _ k => vec_to rfl k | exact fun _ k => blk_of rfl rfl k | exact fun _ k => vec_of rfl k | exact fun _ k => blk_of rfl rfl (blk_to rfl rfl k) | exact fun _ k => vec_of rfl (vec_to rfl k) | exact fun _ k => mp_to rfl k | exact fun _ k => mp_of rfl k | exact fun _ k => mp_of rfl (mp_to rfl k)) (fun h k => sat_pick 1 rfl (by first | exact fun _ k => k | exact fun _ k => blk_to rfl rfl k | exact fun _ k => vec_to rfl k | exact fun _ k => blk_of rfl rfl k | exact fun _ k => vec_of rfl k | exact fun _ k => blk_of rfl rfl (blk_to rfl rfl k) | exact fun _ k => vec_of rfl (vec_to rfl k) | exact fun _ k => mp_to rfl k | exact fun _ k => mp_of rfl k | exact fun _ k => mp_of rfl (mp_to rfl k)) (fun h k => sat_pick 1 rfl (by first | exact fun _ k => k | exact fun _ k => blk_to rfl rfl k | exact fun _ k => vec_to rfl k | exact fun _ k => blk_of rfl rfl k | exact fun _ k => vec_of rfl k | exact fun _ k => blk_of rfl rfl (blk_to rfl rfl k) | exact fun _ k => vec_of rfl (vec_to rfl k) | exact fun _ k => mp_to rfl k | exact fun _ k => mp_of rfl k | exact fun _ k => mp_of rfl (mp_to rfl k)) (fun h k => sat_pick 1 rfl (fun _ k => mp_to rfl k) (fun h k => sat_pick 0 rfl (by first | exact fun _ k => k | exact fun _ k => blk_to rfl rfl k | exact fun _ k => vec_to rfl k | exact fun _ k => blk_of rfl rfl k | exact fun _ k => vec_of rfl k | exact fun _ k => blk_of rfl rfl (blk_to rfl rfl k) | exact fun _ k => vec_of rfl (vec_to rfl k) | exact fun _ k => mp_to rfl k | exact fun _ k => mp_of rfl k | exact fun _ k => mp_of rfl (mp_to rfl k)) (fun h k => sat_nil k) k) k) k) k) k) (fun _ _ _ _ => trivial) ?_
  have hmb : w.mb = w.mb := rfl
  rintro v post (⟨rfl, _, rfl⟩ | ⟨rfl, t, w1, ht, _⟩)
  rotate_left
  · rw [h] at ht; cases ht
  refine ⟨.ff, _, 2, [.asn (Hd b w), .asn (Vs w.S), .asn w.late.vec, .mp 0 KI (w.K.map T.ent)], NmExt.refl _, rfl, (fun h k => sat_pick 0 rfl (by first | exact fun _ k => k | exact fun _ k => blk_to rfl rfl k | exact fun _ k => vec_to rfl k | exact fun _ k => blk_of rfl rfl k | exact fun _ k => vec_of rfl k | exact fun _ k => blk_of rfl rfl (blk_to rfl rfl k) | exact fun _ k => vec_of rfl (vec_to rfl k) | exact fun _ k => mp_to rfl k | exact fun _ k => mp_of rfl k | exact fun _ k => mp_of rfl (mp_to rfl k)) (fun h k => sat_pick 0 rfl (by first | exact fun _ k => k | exact fun _ k => blk_to rfl rfl k | exact fun _ k => vec_to rfl k | exact fun _ k => blk_of rfl rfl k | exact fun _ k => vec_of rfl k | exact fun _ k => blk_of rfl rfl (blk_to rfl rfl k) | exact fun _ k => vec_of rfl (vec_to rfl k) | exact fun _ k => mp_to rfl k | exact fun _ k => mp_of rfl k | exact fun _ k => mp_of rfl (mp_to rfl k)) (fun h k => sat_pick 0 rfl (by first | exact fun _ k => k | exact fun _ k => blk_to rfl rfl k | exact fun _ k => vec_to rfl k | exact fun _ k => blk_of rfl rfl k | exact fun _ k => vec_of rfl k | exact fun _ k => blk_of rfl rfl (blk_to rfl rfl k) | exact fun _ k => vec_of rfl (vec_to rfl k) | exact fun _ k => mp_to rfl k | exact fun _ k => mp_of rfl k | exact fun _ k => mp_of rfl (mp_to rfl k)) (fun h k => sat_pick 0 rfl (fun _ k => mp_of rfl k) (fun h k => sat_nil k) k) k) k) k), ?_⟩
  have eno : IntKind.i64.wrap (w.no + 1) = w.no + 1 := w64 (by omega) (by have : w.no ≤ 4611686018427387904 := hno.2; omega)
  have hfd : w.K.find? (fun t => id == t.id) = none := h
  have hset : ∀ w2, Hung { w with no := w.no + 1, K := w.K ++ [⟨id, x, w.no⟩] } ⟨id, x, w.no⟩ w2 → SetW w id x w2 := fun w2 hh => ⟨w, .inl ⟨h, rfl⟩, hh⟩
  refine RdRaw.told (.int .i64 w.no) _ rfl (fun h k => sat_cell 0 rfl (fun x kx => hd_cell (j := 1) rfl x kx) k) ?_
  intro b9
  refine RdRaw.told (.int .i64 w.no) _ rfl (fun h k => sat_cell 1 rfl (fun x kx => hd_cell (j := 1) rfl x kx) k) ?_
  refine StRaw.on 1 (Hd b { w with no := w.no + 1 }) [.int .i64 (w.no + 1)] (congrArg (fun z => some [Value.int .i64 z]) eno) rfl (fun y ky => hd_store (w' := { w with no := w.no + 1 }) (j := 1) fw.hl (by omega) rfl y ky) ?_
  refine DrawOb.mk [] (.run [0, 1, 2, 3, 4, 5, 6] .nil) (by kernel_rfl) ?_
  refine RdRaw.told (.map 0) _ (show _ = some (Value.map (some w.mb)) by rw [hmb]; rfl) (fun h k => sat_cell 1 rfl (fun x kx => known_read (w := { w with no := w.no + 1 }) fw.hl x kx) k) ?_
  refine ValOb.mk (.agg (T.mk id x w.no).vals.toArray) rfl ?_
  refine call_ix (hang_spec b { w with no := w.no + 1, K := w.K ++ [⟨id, x, w.no⟩] } ⟨id, x, w.no⟩ fw.hl fw.n0 fw.n1 x0 (by show x ≤ 4611686018427387904; omega) fw.few fw.cap) rfl [2, 2, 2] (fun h k => sat_pick 2 rfl (by first | exact fun _ k => k | exact fun _ k => blk_to rfl rfl k | exact fun _ k => vec_to rfl k | exact fun _ k => blk_of rfl rfl k | exact fun _ k => vec_of rfl k | exact fun _ k => blk_of rfl rfl (blk_to rfl rfl k) | exact fun _ k => vec_of rfl (vec_to rfl k) | exact fun _ k => mp_to rfl k | exact fun _ k => mp_of rfl k | exact fun _ k => mp_of rfl (mp_to rfl k)) (fun h k => sat_pick 2 rfl (by first | exact fun _ k => k | exact fun _ k => blk_to rfl rfl k | exact fun _ k => vec_to rfl k | exact fun _ k => blk_of rfl rfl k | exact fun _ k => vec_of rfl k | exact fun _ k => blk_of rfl rfl (blk_to rfl rfl k) | exact fun _ k => vec_of rfl (vec_to rfl k) | exact fun _ k => mp_to rfl k | exact fun _ k => mp_of rfl k | exact fun _ k => mp_of rfl (mp_to rfl k)) (fun h k => sat_pick 2 rfl (by first | exact fun _ k => k | exact fun _ k => blk_to rfl rfl k | exact fun _ k => vec_to rfl k | exact fun _ k => blk_of rfl rfl k | exact fun _ k => vec_of rfl k | exact fun _ k => blk_of rfl rfl (blk_to rfl rfl k) | exact fun _ k => vec_of rfl (vec_to rfl k) | exact fun _ k => mp_to rfl k | exact fun _ k => mp_of rfl k | exact fun _ k => mp_of rfl (mp_to rfl k)) (fun h k => sat_pick 0 rfl (by first | exact fun _ k => k | exact fun _ k => blk_to rfl rfl k | exact fun _ k => vec_to rfl k | exact fun _ k => blk_of rfl rfl k | exact fun _ k => vec_of rfl k | exact fun _ k => blk_of rfl rfl (blk_to rfl rfl k) | exact fun _ k => vec_of rfl (vec_to rfl k) | exact fun _ k => mp_to rfl k | exact fun _ k => mp_of rfl k | exact fun _ k => mp_of rfl (mp_to rfl k)) (fun h k => sat_pick 0 rfl (by first | exact fun _ k => k | exact fun _ k => blk_to rfl rfl k | exact fun _ k => vec_to rfl k | exact fun _ k => blk_of rfl rfl k | exact fun _ k => vec_of rfl k | exact fun _ k => blk_of rfl rfl (blk_to rfl rfl k) | exact fun _ k => vec_of rfl (vec_to rfl k) | exact fun _ k => mp_to rfl k | exact fun _ k => mp_of rfl k | exact fun _ k => mp_of rfl (mp_to rfl k)) (fun h k => sat_pick 0 rfl (by first | exact fun _ k => k | exact fun _ k => blk_to rfl rfl k | exact fun _ k => vec_to rfl k | exact fun _ k => blk_of rfl rfl k | exact fun _ k => vec_of rfl k | exact fun _ k => blk_of rfl rfl (blk_to rfl rfl k) | exact fun _ k => vec_of rfl (vec_to rfl k) | exact fun _ k => mp_to rfl k | exact fun _ k => mp_of rfl k | exact fun _ k => mp_of rfl (mp_to rfl k)) (fun h k => sat_nil k) k) k) k) k) k) k) (fun _ _ _ _ => trivial) ?_
  rintro v post ⟨w2, rfl, hh, rfl⟩
  refine ⟨.tuple [], _, 3, [.asn (Hd b w2), .asn (Vs w2.S), .asn w2.late.vec], NmExt.refl _, rfl, (fun h k => sat_pick 0 rfl (by first | exact fun _ k => k | exact fun _ k => blk_to rfl rfl k | exact fun _ k => vec_to rfl k | exact fun _ k => blk_of rfl rfl k | exact fun _ k => vec_of rfl k | exact fun _ k => blk_of rfl rfl (blk_to rfl rfl k) | exact fun _ k => vec_of rfl (vec_to rfl k) | exact fun _ k => mp_to rfl k | exact fun _ k => mp_of rfl k | exact fun _ k => mp_of rfl (mp_to rfl k)) (fun h k => sat_pick 0 rfl (by first | exact fun _ k => k | exact fun _ k => blk_to rfl rfl k | exact fun _ k => vec_to rfl k | exact fun _ k => blk_of rfl rfl k | exact fun _ k => vec_of rfl k | exact fun _ k => blk_of rfl rfl (blk_to rfl rfl k) | exact fun _ k => vec_of rfl (vec_to rfl k) | exact fun _ k => mp_to rfl k | exact fun _ k => mp_of rfl k | exact fun _ k => mp_of rfl (mp_to rfl k)) (fun h k => sat_pick 0 rfl (by first | exact fun _ k => k | exact fun _ k => blk_to rfl rfl k | exact fun _ k => vec_to rfl k | exact fun _ k => blk_of rfl rfl k | exact fun _ k => vec_of rfl k | exact fun _ k => blk_of rfl rfl (blk_to rfl rfl k) | exact fun _ k => vec_of rfl (vec_to rfl k) | exact fun _ k => mp_to rfl k | exact fun _ k => mp_of rfl k | exact fun _ k => mp_of rfl (mp_to rfl k)) (fun h k => sat_nil k) k) k) k), ?_⟩
  have hmb2 : w2.mb = w.mb := by rw [← hmb]; exact hh.same.1
  have hK2 : w2.K = w.K ++ [⟨id, x, w.no⟩] := hh.same.2
  have hu := upd_ent id ⟨id, x, w.no⟩ rfl w.K hfd
  refine FinOb.mk [.int .i64 0] (Wl b w2) rfl (fun h k => sat_pick 0 rfl (by first | exact fun _ k => k | exact fun _ k => blk_to rfl rfl k | exact fun _ k => vec_to rfl k | exact fun _ k => blk_of rfl rfl k | exact fun _ k => vec_of rfl k | exact fun _ k => blk_of rfl rfl (blk_to rfl rfl k) | exact fun _ k => vec_of rfl (vec_to rfl k) | exact fun _ k => mp_to rfl k | exact fun _ k => mp_of rfl k | exact fun _ k => mp_of rfl (mp_to rfl k)) (fun h k => sat_pick 0 rfl (by first | exact fun _ k => k | exact fun _ k => blk_to rfl rfl k | exact fun _ k => vec_to rfl k | exact fun _ k => blk_of rfl rfl k | exact fun _ k => vec_of rfl k | exact fun _ k => blk_of rfl rfl (blk_to rfl rfl k) | exact fun _ k => vec_of rfl (vec_to rfl k) | exact fun _ k => mp_to rfl k | exact fun _ k => mp_of rfl k | exact fun _ k => mp_of rfl (mp_to rfl k)) (fun h k => sat_pick 0 rfl (by first | exact fun _ k => k | exact fun _ k => blk_to rfl rfl k | exact fun _ k => vec_to rfl k | exact fun _ k => blk_of rfl rfl k | exact fun _ k => vec_of rfl k | exact fun _ k => blk_of rfl rfl (blk_to rfl rfl k) | exact fun _ k => vec_of rfl (vec_to rfl k) | exact fun _ k => mp_to rfl k | exact fun _ k => mp_of rfl k | exact fun _ k => mp_of rfl (mp_to rfl k)) (fun h k => sat_pick 0 rfl (fun _ k => ?_) (fun h k => sat_nil k) k) k) k) k) ⟨rfl, w2, hset w2 hh, rfl⟩
  have k := mp_to (b := w.mb) rfl k
  rw [hu, ← hK2, ← hmb2] at k
  exact k
theorem set_old (b : Nat) (w : W) (id x : Int) (fw : Fine w) (hK : ∀ t ∈ w.K, t.at_ ≤ Big) (hnd : w.K.Pairwise (fun a b => a.id ≠ b.id)) (t : T) (h : w.K.find? (fun t => id == t.id) = some t) (x0 : 0 ≤ x) (x1 : x ≤ 1099511627776) (hno : 0 ≤ w.no ∧ w.no ≤ Big) : Does Try.prog 18 #[.pointer (some ⟨b, 0, none⟩), .int .i64 id, .int .i64 x] (fun _ => True) (Wl b w)
    (fun v p => v = .int .i64 0 ∧ ∃ w2, SetW w id x w2 ∧ p = Wl b w2) := by
  refine Does.ofJ Try.func18 Try.call18 rfl [.raw (.pointer (some ⟨b, 0, none⟩)), .int .i64 id, .int .i64 x] [(0, .at w.mb 0)] 1 [.asn (Hd b w), .asn (Vs w.S), .asn w.late.vec, .mp 0 KI (w.K.map T.ent)] rfl rfl (fun h k => sat_pick 0 rfl (by first | exact fun _ k => k | exact fun _ k => blk_to rfl rfl k | exact fun _ k => vec_to rfl k | exact fun _ k => blk_of rfl rfl k | exact fun _ k => vec_of rfl k | exact fun _ k => blk_of rfl rfl (blk_to rfl rfl k) | exact fun _ k => vec_of rfl (vec_to rfl k) | exact fun _ k => mp_to rfl k | exact fun _ k => mp_of rfl k | exact fun _ k => mp_of rfl (mp_to rfl k)) (fun h k => sat_pick 0 rfl (by first | exact fun _ k => k | exact fun _ k => blk_to rfl rfl k | exact fun _ k => vec_to rfl k | exact fun _ k => blk_of rfl rfl k | exact fun _ k => vec_of rfl k | exact fun _ k => blk_of rfl rfl (blk_to rfl rfl k) | exact fun _ k => vec_of rfl (vec_to rfl k) | exact fun _ k => mp_to rfl k | exact fun _ k => mp_of rfl k | exact fun _ k => mp_of rfl (mp_to rfl k)) (fun h k => sat_pick 0 rfl (by first | exact fun _ k => k | exact fun _ k => blk_to rfl rfl k | exact fun _ k => vec_to rfl k | exact fun _ k => blk_of rfl rfl k | exact fun _ k => vec_of rfl k | exact fun _ k => blk_of rfl rfl (blk_to rfl rfl k) | exact fun _ k => vec_of rfl (vec_to rfl k) | exact fun _ k => mp_to rfl k | exact fun _ k => mp_of rfl k | exact fun _ k => mp_of rfl (mp_to rfl k)) (fun h k => sat_pick 0 rfl (fun _ k => mp_of rfl k) (fun h k => sat_nil k) k) k) k) k) (fun f hR => ?_)
  have hf := find_ent id w.K
  rw [h] at hf
  refine RegOb.go ?_
  refine Br.mk (fun g => absurd (of_decide_eq_true g) (by omega)) (fun g => ?_)
  refine CondOb.split (fun g2 => absurd (of_decide_eq_true g2) (by omega)) (fun g2 => ?_)
  refine RdRaw.told (.map 0) _ rfl (fun h k => sat_cell 0 rfl (fun x kx => known_read fw.hl x kx) k) ?_
  refine LkOb.hit _ (.agg t.svs) hf rfl ?_
  intro b7
  refine RegOb.go ?_
  refine call_ix (stop_spec b w id fw hK) rfl [1, 1, 1, 1] (fun h k => sat_pick 1 rfl (by first | exact fun _ k => k | exact fun _ k => blk_to rfl rfl k | exact fun _ k => vec_to rfl k | exact fun _ k => blk_of rfl rfl k | exact fun _ k => vec_of rfl k | exact fun _ k => blk_of rfl rfl (blk_to rfl rfl k) | exact fun _ k => vec_of rfl (vec_to rfl k) | exact fun _ k => mp_to rfl k | exact fun _ k => mp_of rfl k | exact fun _ k => mp_of rfl (mp_to rfl k)) (fun h k => sat_pick 1 rfl (by first | exact fun _ k => k | exact fun _ k => blk_to rfl rfl k | exact fun _ k => vec_to rfl k | exact fun _ k => blk_of rfl rfl k | exact fun _ k => vec_of rfl k | exact fun _ k => blk_of rfl rfl (blk_to rfl rfl k) | exact fun _ k => vec_of rfl (vec_to rfl k) | exact fun _ k => mp_to rfl k | exact fun _ k => mp_of rfl k | exact fun _ k => mp_of rfl (mp_to rfl k)) (fun h k => sat_pick 1 rfl (by first | exact fun _ k => k | exact fun _ k => blk_to rfl rfl k | exact fun _ k => vec_to rfl k | exact fun _ k => blk_of rfl rfl k | exact fun _ k => vec_of rfl k | exact fun _ k => blk_of rfl rfl (blk_to rfl rfl k) | exact fun _ k => vec_of rfl (vec_to rfl k) | exact fun _ k => mp_to rfl k | exact fun _ k => mp_of rfl k | exact fun _ k => mp_of rfl (mp_to rfl k)) (fun h k => sat_pick 1 rfl (fun _ k => mp_to rfl k) (fun h k => sat_pick 0 rfl (by first | exact fun _ k => k | exact fun _ k => blk_to rfl rfl k | exact fun _ k => vec_to rfl k | exact fun _ k => blk_of rfl rfl k | exact fun _ k => vec_of rfl k | exact fun _ k => blk_of rfl rfl (blk_to rfl rfl k) | exact fun _ k => vec_of rfl (vec_to rfl k) | exact fun _ k => mp_to rfl k | exact fun _ k => mp_of rfl k | exact fun _ k => mp_of rfl (mp_to rfl k)) (fun h k => sat_nil k) k) k) k) k) k) (fun _ _ _ _ => trivial) ?_
  rintro v post (⟨rfl, hn, _⟩ | ⟨rfl, t1, w1, ht, hst, rfl⟩)
  · rw [h] at hn; cases hn
  rw [h] at ht
  cases ht
  obtain ⟨_, hno1, hmb, hK1⟩ := hst.same
  have fw1 := hst.fine fw
  refine ⟨.tt, _, 2, [.asn (Hd b w1), .asn (Vs w1.S), .asn w1.late.vec, .mp 0 KI (w1.K.map T.ent)], NmExt.refl _, rfl, (fun h k => sat_pick 0 rfl (by first | exact fun _ k => k | exact fun _ k => blk_to rfl rfl k | exact fun _ k => vec_to rfl k | exact fun _ k => blk_of rfl rfl k | exact fun _ k => vec_of rfl k | exact fun _ k => blk_of rfl rfl (blk_to rfl rfl k) | exact fun _ k => vec_of rfl (vec_to rfl k) | exact fun _ k => mp_to rfl k | exact fun _ k => mp_of rfl k | exact fun _ k => mp_of rfl (mp_to rfl k)) (fun h k => sat_pick 0 rfl (by first | exact fun _ k => k | exact fun _ k => blk_to rfl rfl k | exact fun _ k => vec_to rfl k | exact fun _ k => blk_of rfl rfl k | exact fun _ k => vec_of rfl k | exact fun _ k => blk_of rfl rfl (blk_to rfl rfl k) | exact fun _ k => vec_of rfl (vec_to rfl k) | exact fun _ k => mp_to rfl k | exact fun _ k => mp_of rfl k | exact fun _ k => mp_of rfl (mp_to rfl k)) (fun h k => sat_pick 0 rfl (by first | exact fun _ k => k | exact fun _ k => blk_to rfl rfl k | exact fun _ k => vec_to rfl k | exact fun _ k => blk_of rfl rfl k | exact fun _ k => vec_of rfl k | exact fun _ k => blk_of rfl rfl (blk_to rfl rfl k) | exact fun _ k => vec_of rfl (vec_to rfl k) | exact fun _ k => mp_to rfl k | exact fun _ k => mp_of rfl k | exact fun _ k => mp_of rfl (mp_to rfl k)) (fun h k => sat_pick 0 rfl (fun _ k => mp_of (by rw [hmb]; rfl) k) (fun h k => sat_nil k) k) k) k) k), ?_⟩
  have eno : IntKind.i64.wrap (w1.no + 1) = w1.no + 1 := by rw [hno1]; exact w64 (by omega) (by have : w.no ≤ 4611686018427387904 := hno.2; omega)
  have hfd : w1.K.find? (fun t => id == t.id) = none := by rw [hK1]; exact find_delT hnd id
  have hset : ∀ w2, Hung { w1 with no := w1.no + 1, K := w1.K ++ [⟨id, x, w1.no⟩] } ⟨id, x, w1.no⟩ w2 → SetW w id x w2 := fun w2 hh => by
    rw [hno1] at hh
    exact ⟨w1, .inr ⟨t, h, hst⟩, hh⟩
  refine RdRaw.told (.int .i64 w1.no) _ rfl (fun h k => sat_cell 0 rfl (fun x kx => hd_cell (j := 1) rfl x kx) k) ?_
  intro b9
  refine RdRaw.told (.int .i64 w1.no) _ rfl (fun h k => sat_cell 1 rfl (fun x kx => hd_cell (j := 1) rfl x kx) k) ?_
  refine StRaw.on 1 (Hd b { w1 with no := w1.no + 1 }) [.int .i64 (w1.no + 1)] (congrArg (fun z => some [Value.int .i64 z]) eno) rfl (fun y ky => hd_store (w' := { w1 with no := w1.no + 1 }) (j := 1) fw1.hl (by omega) rfl y ky) ?_
  refine DrawOb.mk [] (.run [0, 1, 2, 3, 4, 5, 6] .nil) (by kernel_rfl) ?_
  refine RdRaw.told (.map 0) _ (show _ = some (Value.map (some w1.mb)) by rw [hmb]; rfl) (fun h k => sat_cell 1 rfl (fun x kx => known_read (w := { w1 with no := w1.no + 1 }) fw1.hl x kx) k) ?_
  refine ValOb.mk (.agg (T.mk id x w1.no).vals.toArray) rfl ?_
  refine call_ix (hang_spec b { w1 with no := w1.no + 1, K := w1.K ++ [⟨id, x, w1.no⟩] } ⟨id, x, w1.no⟩ fw1.hl fw1.n0 fw1.n1 x0 (by show x ≤ 4611686018427387904; omega) fw1.few fw1.cap) rfl [2, 2, 2] (fun h k => sat_pick 2 rfl (by first | exact fun _ k => k | exact fun _ k => blk_to rfl rfl k | exact fun _ k => vec_to rfl k | exact fun _ k => blk_of rfl rfl k | exact fun _ k => vec_of rfl k | exact fun _ k => blk_of rfl rfl (blk_to rfl rfl k) | exact fun _ k => vec_of rfl (vec_to rfl k) | exact fun _ k => mp_to rfl k | exact fun _ k => mp_of rfl k | exact fun _ k => mp_of rfl (mp_to rfl k)) (fun h k => sat_pick 2 rfl (by first | exact fun _ k => k | exact fun _ k => blk_to rfl rfl k | exact fun _ k => vec_to rfl k | exact fun _ k => blk_of rfl rfl k | exact fun _ k => vec_of rfl k | exact fun _ k => blk_of rfl rfl (blk_to rfl rfl k) | exact fun _ k => vec_of rfl (vec_to rfl k) | exact fun _ k => mp_to rfl k | exact fun _ k => mp_of rfl k | exact fun _ k => mp_of rfl (mp_to rfl k)) (fun h k => sat_pick 2 rfl (by first | exact fun _ k => k | exact fun _ k => blk_to rfl rfl k | exact fun _ k => vec_to rfl k | exact fun _ k => blk_of rfl rfl k | exact fun _ k => vec_of rfl k | exact fun _ k => blk_of rfl rfl (blk_to rfl rfl k) | exact fun _ k => vec_of rfl (vec_to rfl k) | exact fun _ k => mp_to rfl k | exact fun _ k => mp_of rfl k | exact fun _ k => mp_of rfl (mp_to rfl k)) (fun h k => sat_pick 0 rfl (by first | exact fun _ k => k | exact fun _ k => blk_to rfl rfl k | exact fun _ k => vec_to rfl k | exact fun _ k => blk_of rfl rfl k | exact fun _ k => vec_of rfl k | exact fun _ k => blk_of rfl rfl (blk_to rfl rfl k) | exact fun _ k => vec_of rfl (vec_to rfl k) | exact fun _ k => mp_to rfl k | exact fun _ k => mp_of rfl k | exact fun _ k => mp_of rfl (mp_to rfl k)) (fun h k => sat_pick 0 rfl (by first | exact fun _ k => k | exact fun _ k => blk_to rfl rfl k | exact fun _ k => vec_to rfl k | exact fun _ k => blk_of rfl rfl k | exact fun _ k => vec_of rfl k | exact fun _ k => blk_of rfl rfl (blk_to rfl rfl k) | exact fun _ k => vec_of rfl (vec_to rfl k) | exact fun _ k => mp_to rfl k | exact fun _ k => mp_of rfl k | exact fun _ k => mp_of rfl (mp_to rfl k)) (fun h k => sat_pick 0 rfl (by first | exact fun _ k => k | exact fun _ k => blk_to rfl rfl k | exact fun _ k => vec_to rfl k | exact fun _ k => blk_of rfl rfl k | exact fun _ k => vec_of rfl k | exact fun _ k => blk_of rfl rfl (blk_to rfl rfl k) | exact fun _ k => vec_of rfl (vec_to rfl k) | exact fun _ k => mp_to rfl k | exact fun _ k => mp_of rfl k | exact fun _ k => mp_of rfl (mp_to rfl k)) (fun h k => sat_nil k) k) k) k) k) k) k) (fun _ _ _ _ => trivial) ?_
  rintro v post ⟨w2, rfl, hh, rfl⟩
  refine ⟨.tuple [], _, 3, [.asn (Hd b w2), .asn (Vs w2.S), .asn w2.late.vec], NmExt.refl _, rfl, (fun h k => sat_pick 0 rfl (by first | exact fun _ k => k | exact fun _ k => blk_to rfl rfl k | exact fun _ k => vec_to rfl k | exact fun _ k => blk_of rfl rfl k | exact fun _ k => vec_of rfl k | exact fun _ k => blk_of rfl rfl (blk_to rfl rfl k) | exact fun _ k => vec_of rfl (vec_to rfl k) | exact fun _ k => mp_to rfl k | exact fun _ k => mp_of rfl k | exact fun _ k => mp_of rfl (mp_to rfl k)) (fun h k => sat_pick 0 rfl (by first | exact fun _ k => k | exact fun _ k => blk_to rfl rfl k | exact fun _ k => vec_to rfl k | exact fun _ k => blk_of rfl rfl k | exact fun _ k => vec_of rfl k | exact fun _ k => blk_of rfl rfl (blk_to rfl rfl k) | exact fun _ k => vec_of rfl (vec_to rfl k) | exact fun _ k => mp_to rfl k | exact fun _ k => mp_of rfl k | exact fun _ k => mp_of rfl (mp_to rfl k)) (fun h k => sat_pick 0 rfl (by first | exact fun _ k => k | exact fun _ k => blk_to rfl rfl k | exact fun _ k => vec_to rfl k | exact fun _ k => blk_of rfl rfl k | exact fun _ k => vec_of rfl k | exact fun _ k => blk_of rfl rfl (blk_to rfl rfl k) | exact fun _ k => vec_of rfl (vec_to rfl k) | exact fun _ k => mp_to rfl k | exact fun _ k => mp_of rfl k | exact fun _ k => mp_of rfl (mp_to rfl k)) (fun h k => sat_nil k) k) k) k), ?_⟩
  have hmb2 : w2.mb = w.mb := by rw [← hmb]; exact hh.same.1
  have hK2 : w2.K = w1.K ++ [⟨id, x, w1.no⟩] := hh.same.2
  have hu := upd_ent id ⟨id, x, w1.no⟩ rfl w1.K hfd
  refine FinOb.mk [.int .i64 0] (Wl b w2) rfl (fun h k => sat_pick 0 rfl (by first | exact fun _ k => k | exact fun _ k => blk_to rfl rfl k | exact fun _ k => vec_to rfl k | exact fun _ k => blk_of rfl rfl k | exact fun _ k => vec_of rfl k | exact fun _ k => blk_of rfl rfl (blk_to rfl rfl k) | exact fun _ k => vec_of rfl (vec_to rfl k) | exact fun _ k => mp_to rfl k | exact fun _ k => mp_of rfl k | exact fun _ k => mp_of rfl (mp_to rfl k)) (fun h k => sat_pick 0 rfl (by first | exact fun _ k => k | exact fun _ k => blk_to rfl rfl k | exact fun _ k => vec_to rfl k | exact fun _ k => blk_of rfl rfl k | exact fun _ k => vec_of rfl k | exact fun _ k => blk_of rfl rfl (blk_to rfl rfl k) | exact fun _ k => vec_of rfl (vec_to rfl k) | exact fun _ k => mp_to rfl k | exact fun _ k => mp_of rfl k | exact fun _ k => mp_of rfl (mp_to rfl k)) (fun h k => sat_pick 0 rfl (by first | exact fun _ k => k | exact fun _ k => blk_to rfl rfl k | exact fun _ k => vec_to rfl k | exact fun _ k => blk_of rfl rfl k | exact fun _ k => vec_of rfl k | exact fun _ k => blk_of rfl rfl (blk_to rfl rfl k) | exact fun _ k => vec_of rfl (vec_to rfl k) | exact fun _ k => mp_to rfl k | exact fun _ k => mp_of rfl k | exact fun _ k => mp_of rfl (mp_to rfl k)) (fun h k => sat_pick 0 rfl (fun _ k => ?_) (fun h k => sat_nil k) k) k) k) k) ⟨rfl, w2, hset w2 hh, rfl⟩
  have k := mp_to (b := w.mb) rfl k
  rw [hu, ← hK2, ← hmb2] at k
  exact k
theorem set_spec (b : Nat) (w : W) (id x : Int) (fw : Fine w) (hK : ∀ t ∈ w.K, t.at_ ≤ Big) (hnd : w.K.Pairwise (fun a b => a.id ≠ b.id)) (hK2 : w.K.length ≤ 1000000) (hno : 0 ≤ w.no ∧ w.no ≤ Big) : Does Try.prog 18 #[.pointer (some ⟨b, 0, none⟩), .int .i64 id, .int .i64 x] (fun _ => True) (Wl b w)
    (fun v p => ((x < 0 ∨ 1099511627776 < x) ∧ v = .int .i64 8 ∧ p = Wl b w) ∨ (0 ≤ x ∧ x ≤ 1099511627776 ∧ w.K.find? (fun t => id == t.id) = none ∧ 4096 ≤ w.K.length ∧ v = .int .i64 5 ∧ p = Wl b w) ∨
      (0 ≤ x ∧ x ≤ 1099511627776 ∧ (w.K.find? (fun t => id == t.id) = none → w.K.length < 4096) ∧ v = .int .i64 0 ∧ ∃ w2, SetW w id x w2 ∧ p = Wl b w2)) := by
  by_cases hx : x < 0 ∨ 1099511627776 < x
  · exact (frameOf (Wl b w) (set_range b id x hx)).mono (by rintro v p ⟨q, ⟨rfl, rfl⟩, rfl⟩; exact .inl ⟨hx, rfl, rfl⟩)
  have x0 : 0 ≤ x := by omega
  have x1 : x ≤ 1099511627776 := by omega
  cases h : w.K.find? (fun t => id == t.id) with
  | none =>
    by_cases hf : 4096 ≤ w.K.length
    · exact (set_full b w id x fw h x0 x1 hf hK2).mono (by rintro v p ⟨rfl, rfl⟩; exact .inr (.inl ⟨x0, x1, rfl, hf, rfl, rfl⟩))
    · exact (set_new b w id x fw hK h x0 x1 (by omega) hno).mono (by rintro v p ⟨rfl, w2, h1, rfl⟩; exact .inr (.inr ⟨x0, x1, fun _ => by omega, rfl, w2, h1, rfl⟩))
  | some t => exact (set_old b w id x fw hK hnd t h x0 x1 hno).mono (by rintro v p ⟨rfl, w2, h1, rfl⟩; exact .inr (.inr ⟨x0, x1, (fun e => by cases e), rfl, w2, h1, rfl⟩))
end Go.Proofs.Ytiknkeakielncaa.Wh
