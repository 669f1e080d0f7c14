/- wheel: Tick. Conditions: none. -/
import Derived.Test.YtiknkeakielncaaWhK
namespace Go.Proofs.Ytiknkeakielncaa.Wh
open Go Go.Proofs Sx
set_option maxRecDepth 100000
set_option linter.unusedVariables false
set_option linter.unusedSimpArgs false
set_option maxHeartbeats 4000000

theorem tick_range (b : Nat) (w : W) (x : Int) (h : x < w.now ∨ Top < x) : Does Try.prog 19 #[.pointer (some ⟨b, 0, none⟩), .int .i64 x] (fun _ => True) [Hd b w] (fun v p => v = .tuple #[.slice none 0 0, .int .i64 8] ∧ p = [Hd b w]) := by
  refine Does.ofJ Try.func19 Try.call19 rfl [.raw (.pointer (some ⟨b, 0, none⟩)), .int .i64 x] [] 0 [.asn (Hd b w)] rfl rfl (fun h k => sat_pick 0 rfl (by first | exact fun _ k => k | exact fun _ k => blk_to rfl rfl k | exact fun _ k => vec_to rfl k | exact fun _ k => blk_of rfl rfl k | exact fun _ k => vec_of rfl k | exact fun _ k => blk_of rfl rfl (blk_to rfl rfl k) | exact fun _ k => vec_of rfl (vec_to rfl k) | exact fun _ k => mp_to rfl k | exact fun _ k => mp_of rfl k | exact fun _ k => mp_of rfl (mp_to rfl k)) (fun h k => sat_nil k) k) (fun f hR => ?_)
  refine RegOb.go ?_
  refine RdRaw.told (.int .i64 w.now) _ rfl (fun h k => sat_cell 0 rfl (fun x kx => hd_cell (j := 0) rfl x kx) k) ?_
  refine Br.mk (fun g => ?_) (fun g => ?_)
  · exact FinOb.mk [.slice none 0 0, .int .i64 8] [Hd b w] rfl (fun h k => sat_pick 0 rfl (by first | exact fun _ k => k | exact fun _ k => blk_to rfl rfl k | exact fun _ k => vec_to rfl k | exact fun _ k => blk_of rfl rfl k | exact fun _ k => vec_of rfl k | exact fun _ k => blk_of rfl rfl (blk_to rfl rfl k) | exact fun _ k => vec_of rfl (vec_to rfl k) | exact fun _ k => mp_to rfl k | exact fun _ k => mp_of rfl k | exact fun _ k => mp_of rfl (mp_to rfl k)) (fun h k => sat_nil k) k) ⟨rfl, rfl⟩
  refine CondOb.split (fun g2 => ?_) (fun g2 => ?_)
  · exact FinOb.mk [.slice none 0 0, .int .i64 8] [Hd b w] rfl (fun h k => sat_pick 0 rfl (by first | exact fun _ k => k | exact fun _ k => blk_to rfl rfl k | exact fun _ k => vec_to rfl k | exact fun _ k => blk_of rfl rfl k | exact fun _ k => vec_of rfl k | exact fun _ k => blk_of rfl rfl (blk_to rfl rfl k) | exact fun _ k => vec_of rfl (vec_to rfl k) | exact fun _ k => mp_to rfl k | exact fun _ k => mp_of rfl k | exact fun _ k => mp_of rfl (mp_to rfl k)) (fun h k => sat_nil k) k) ⟨rfl, rfl⟩
  · have g := of_decide_eq_false g
    have g2 : ¬ x > 1099511627776 := of_decide_eq_false g2
    have h : x < w.now ∨ 1099511627776 < x := h
    omega
def dels (K l : List T) : List T := l.foldl (fun K t => delT t.id K) K
theorem dels_snoc (K l : List T) (t : T) : dels K (l ++ [t]) = delT t.id (dels K l) := by simp [dels]
theorem vecT_at {pl : Plc} {c : Nat} {l : List T} {As : List Asn} {h : HP} (k : sat (Vec pl 126 3 c (TL.flat l) :: As) h) (hne : l ≠ []) : ∃ b o, pl = .at b o := by
  obtain ⟨x, _, _, hx, _⟩ := k
  refine vec_at (fun e => hne ?_) hx
  have := congrArg List.length e
  rw [lT] at this
  exact List.length_eq_zero_iff.1 (by have h5 : l.length * 3 = 0 := this; omega)
theorem tick_walk (b : Nat) (w : W) (L : List T) (hI : Inv w L) (x : Int) (x0 : w.now ≤ x) (x1 : x ≤ Top) :
    Does Try.prog 19 #[.pointer (some ⟨b, 0, none⟩), .int .i64 x] (fun _ => True) (Wl b w)
      (fun v p => ∃ (w1 : W) (pl : Plc) (c : Nat) (l' : List T), v = .tuple #[.slice (locAddr 0 pl) l'.length c, .int .i64 0] ∧ Inv w1 L ∧ Inv { w1 with now := x } L ∧ w1.no = w.no ∧ w1.mb = w.mb ∧ l'.Perm (L.filter (isLate x)) ∧ l'.Pairwise (fun x y => ltT y x = false) ∧ l'.length ≤ c ∧
        p = Wl b { w1 with now := x, late := sp0, K := dels w.K l' } ++ [Vec pl 3 1 c (IL.flat (l'.map T.id))]) := by
  refine Does.ofJ Try.func19 Try.call19 rfl [.raw (.pointer (some ⟨b, 0, none⟩)), .int .i64 x] [(0, .at w.mb 0)] 1 [.asn (Hd b w), .asn (Vs w.S), .asn w.late.vec, .mp 0 KI (w.K.map T.ent)] rfl rfl (fun h k => sat_pick 0 rfl (by first | exact fun _ k => k | exact fun _ k => blk_to rfl rfl k | exact fun _ k => vec_to rfl k | exact fun _ k => blk_of rfl rfl k | exact fun _ k => vec_of rfl k | exact fun _ k => blk_of rfl rfl (blk_to rfl rfl k) | exact fun _ k => vec_of rfl (vec_to rfl k) | exact fun _ k => mp_to rfl k | exact fun _ k => mp_of rfl k | exact fun _ k => mp_of rfl (mp_to rfl k)) (fun h k => sat_pick 0 rfl (by first | exact fun _ k => k | exact fun _ k => blk_to rfl rfl k | exact fun _ k => vec_to rfl k | exact fun _ k => blk_of rfl rfl k | exact fun _ k => vec_of rfl k | exact fun _ k => blk_of rfl rfl (blk_to rfl rfl k) | exact fun _ k => vec_of rfl (vec_to rfl k) | exact fun _ k => mp_to rfl k | exact fun _ k => mp_of rfl k | exact fun _ k => mp_of rfl (mp_to rfl k)) (fun h k => sat_pick 0 rfl (by first | exact fun _ k => k | exact fun _ k => blk_to rfl rfl k | exact fun _ k => vec_to rfl k | exact fun _ k => blk_of rfl rfl k | exact fun _ k => vec_of rfl k | exact fun _ k => blk_of rfl rfl (blk_to rfl rfl k) | exact fun _ k => vec_of rfl (vec_to rfl k) | exact fun _ k => mp_to rfl k | exact fun _ k => mp_of rfl k | exact fun _ k => mp_of rfl (mp_to rfl k)) (fun h k => sat_pick 0 rfl (fun _ k => mp_of rfl k) (fun h k => sat_nil k) k) k) k) k) (fun f hR => ?_)
  refine RegOb.go ?_
  refine RdRaw.told (.int .i64 w.now) _ rfl (fun h k => sat_cell 0 rfl (fun x kx => hd_cell (j := 0) rfl x kx) k) ?_
  refine Br.mk (fun g => absurd (of_decide_eq_true g) (by omega)) (fun g => ?_)
  refine CondOb.split (fun g2 => absurd (of_decide_eq_true g2) (by have : x ≤ 1099511627776 := x1; omega)) (fun g2 => ?_)
  refine LoopOb.mk { w1 : W // Inv w1 L ∧ w1.now ≤ x ∧ w1.no = w.no ∧ w1.mb = w.mb ∧ w1.K = w.K } (fun z => ⟨73, [(0, .raw (.pointer (some ⟨b, 0, none⟩))), (1, .int .i64 x)], [(0, .at w.mb 0)], 1, [.asn (Hd b z.1), .asn (Vs z.1.S), .asn z.1.late.vec, .mp 0 KI (z.1.K.map T.ent)]⟩) (fun z => (x - z.1.now).toNat) ⟨w, hI, x0, rfl, rfl, rfl⟩ ?_ ?_
  · exact Le.of rfl ⟨⟨_, rfl, rfl⟩, ⟨_, rfl, rfl⟩, trivial⟩ (fun h k => sat_pick 0 rfl (by first | exact fun _ k => k | exact fun _ k => blk_to rfl rfl k | exact fun _ k => vec_to rfl k | exact fun _ k => blk_of rfl rfl k | exact fun _ k => vec_of rfl k | exact fun _ k => blk_of rfl rfl (blk_to rfl rfl k) | exact fun _ k => vec_of rfl (vec_to rfl k) | exact fun _ k => mp_to rfl k | exact fun _ k => mp_of rfl k | exact fun _ k => mp_of rfl (mp_to rfl k)) (fun h k => sat_pick 0 rfl (by first | exact fun _ k => k | exact fun _ k => blk_to rfl rfl k | exact fun _ k => vec_to rfl k | exact fun _ k => blk_of rfl rfl k | exact fun _ k => vec_of rfl k | exact fun _ k => blk_of rfl rfl (blk_to rfl rfl k) | exact fun _ k => vec_of rfl (vec_to rfl k) | exact fun _ k => mp_to rfl k | exact fun _ k => mp_of rfl k | exact fun _ k => mp_of rfl (mp_to rfl k)) (fun h k => sat_pick 0 rfl (by first | exact fun _ k => k | exact fun _ k => blk_to rfl rfl k | exact fun _ k => vec_to rfl k | exact fun _ k => blk_of rfl rfl k | exact fun _ k => vec_of rfl k | exact fun _ k => blk_of rfl rfl (blk_to rfl rfl k) | exact fun _ k => vec_of rfl (vec_to rfl k) | exact fun _ k => mp_to rfl k | exact fun _ k => mp_of rfl k | exact fun _ k => mp_of rfl (mp_to rfl k)) (fun h k => sat_pick 0 rfl (by first | exact fun _ k => k | exact fun _ k => blk_to rfl rfl k | exact fun _ k => vec_to rfl k | exact fun _ k => blk_of rfl rfl k | exact fun _ k => vec_of rfl k | exact fun _ k => blk_of rfl rfl (blk_to rfl rfl k) | exact fun _ k => vec_of rfl (vec_to rfl k) | exact fun _ k => mp_to rfl k | exact fun _ k => mp_of rfl k | exact fun _ k => mp_of rfl (mp_to rfl k)) (fun h k => sat_nil k) k) k) k) k)
  rintro ⟨w1, hi1, hx1, hno1, hm1, hk1⟩
  refine call_ix (turn_spec b w1 hi1.fw.hl hi1.fw.n0 hi1.n1) rfl [0] (fun h k => sat_pick 0 rfl (by first | exact fun _ k => k | exact fun _ k => blk_to rfl rfl k | exact fun _ k => vec_to rfl k | exact fun _ k => blk_of rfl rfl k | exact fun _ k => vec_of rfl k | exact fun _ k => blk_of rfl rfl (blk_to rfl rfl k) | exact fun _ k => vec_of rfl (vec_to rfl k) | exact fun _ k => mp_to rfl k | exact fun _ k => mp_of rfl k | exact fun _ k => mp_of rfl (mp_to rfl k)) (fun h k => sat_pick 0 rfl (by first | exact fun _ k => k | exact fun _ k => blk_to rfl rfl k | exact fun _ k => vec_to rfl k | exact fun _ k => blk_of rfl rfl k | exact fun _ k => vec_of rfl k | exact fun _ k => blk_of rfl rfl (blk_to rfl rfl k) | exact fun _ k => vec_of rfl (vec_to rfl k) | exact fun _ k => mp_to rfl k | exact fun _ k => mp_of rfl k | exact fun _ k => mp_of rfl (mp_to rfl k)) (fun h k => sat_pick 0 rfl (by first | exact fun _ k => k | exact fun _ k => blk_to rfl rfl k | exact fun _ k => vec_to rfl k | exact fun _ k => blk_of rfl rfl k | exact fun _ k => vec_of rfl k | exact fun _ k => blk_of rfl rfl (blk_to rfl rfl k) | exact fun _ k => vec_of rfl (vec_to rfl k) | exact fun _ k => mp_to rfl k | exact fun _ k => mp_of rfl k | exact fun _ k => mp_of rfl (mp_to rfl k)) (fun h k => sat_pick 0 rfl (by first | exact fun _ k => k | exact fun _ k => blk_to rfl rfl k | exact fun _ k => vec_to rfl k | exact fun _ k => blk_of rfl rfl k | exact fun _ k => vec_of rfl k | exact fun _ k => blk_of rfl rfl (blk_to rfl rfl k) | exact fun _ k => vec_of rfl (vec_to rfl k) | exact fun _ k => mp_to rfl k | exact fun _ k => mp_of rfl k | exact fun _ k => mp_of rfl (mp_to rfl k)) (fun h k => sat_nil k) k) k) k) k) (fun _ _ _ _ => trivial) ?_
  rintro v post ⟨at_, ok, rfl, ht, rfl⟩
  cases ok with
  | false =>
    have hj : Inv { w1 with now := x } L := hi1.jump hx1 x1 (fun t htL htn => absurd (turn_none hi1 ht t htL) (by omega))
    refine ⟨.tuple [.int .i64 at_, .ff], _, 1, [.asn (Hd b w1)], NmExt.refl _, rfl, (fun h k => sat_pick 0 rfl (by first | exact fun _ k => k | exact fun _ k => blk_to rfl rfl k | exact fun _ k => vec_to rfl k | exact fun _ k => blk_of rfl rfl k | exact fun _ k => vec_of rfl k | exact fun _ k => blk_of rfl rfl (blk_to rfl rfl k) | exact fun _ k => vec_of rfl (vec_to rfl k) | exact fun _ k => mp_to rfl k | exact fun _ k => mp_of rfl k | exact fun _ k => mp_of rfl (mp_to rfl k)) (fun h k => sat_nil k) k), ?_⟩
    refine RegOb.go ?_
    refine call_ix (jump_spec b w1 x hi1.fw.hl) rfl [0] (fun h k => sat_pick 0 rfl (by first | exact fun _ k => k | exact fun _ k => blk_to rfl rfl k | exact fun _ k => vec_to rfl k | exact fun _ k => blk_of rfl rfl k | exact fun _ k => vec_of rfl k | exact fun _ k => blk_of rfl rfl (blk_to rfl rfl k) | exact fun _ k => vec_of rfl (vec_to rfl k) | exact fun _ k => mp_to rfl k | exact fun _ k => mp_of rfl k | exact fun _ k => mp_of rfl (mp_to rfl k)) (fun h k => sat_pick 0 rfl (by first | exact fun _ k => k | exact fun _ k => blk_to rfl rfl k | exact fun _ k => vec_to rfl k | exact fun _ k => blk_of rfl rfl k | exact fun _ k => vec_of rfl k | exact fun _ k => blk_of rfl rfl (blk_to rfl rfl k) | exact fun _ k => vec_of rfl (vec_to rfl k) | exact fun _ k => mp_to rfl k | exact fun _ k => mp_of rfl k | exact fun _ k => mp_of rfl (mp_to rfl k)) (fun h k => sat_pick 0 rfl (by first | exact fun _ k => k | exact fun _ k => blk_to rfl rfl k | exact fun _ k => vec_to rfl k | exact fun _ k => blk_of rfl rfl k | exact fun _ k => vec_of rfl k | exact fun _ k => blk_of rfl rfl (blk_to rfl rfl k) | exact fun _ k => vec_of rfl (vec_to rfl k) | exact fun _ k => mp_to rfl k | exact fun _ k => mp_of rfl k | exact fun _ k => mp_of rfl (mp_to rfl k)) (fun h k => sat_pick 0 rfl (by first | exact fun _ k => k | exact fun _ k => blk_to rfl rfl k | exact fun _ k => vec_to rfl k | exact fun _ k => blk_of rfl rfl k | exact fun _ k => vec_of rfl k | exact fun _ k => blk_of rfl rfl (blk_to rfl rfl k) | exact fun _ k => vec_of rfl (vec_to rfl k) | exact fun _ k => mp_to rfl k | exact fun _ k => mp_of rfl k | exact fun _ k => mp_of rfl (mp_to rfl k)) (fun h k => sat_nil k) k) k) k) k) (fun _ _ _ _ => trivial) ?_
    rintro v post ⟨rfl, rfl⟩
    refine ⟨.tuple [], _, 1, [.asn (Hd b { w1 with now := x })], NmExt.refl _, rfl, (fun h k => sat_pick 0 rfl (by first | exact fun _ k => k | exact fun _ k => blk_to rfl rfl k | exact fun _ k => vec_to rfl k | exact fun _ k => blk_of rfl rfl k | exact fun _ k => vec_of rfl k | exact fun _ k => blk_of rfl rfl (blk_to rfl rfl k) | exact fun _ k => vec_of rfl (vec_to rfl k) | exact fun _ k => mp_to rfl k | exact fun _ k => mp_of rfl k | exact fun _ k => mp_of rfl (mp_to rfl k)) (fun h k => sat_nil k) k), ?_⟩
    have hlen5 : w1.late.l.length ≤ 5000 := by
      have h1 := hi1.tt; have h2 := hi1.few
      have := (few_of (Nat.le_refl (tot w1))).1
      omega
    refine RdRaw.told (.raw w1.late.val) _ rfl (fun h k => sat_cell 0 rfl (fun y ky => hd_cell (w := { w1 with now := x }) (j := 2) rfl y ky) k) ?_
    have hlate := hj.co.late
    obtain ⟨late1, hlate1⟩ : ∃ s, s = w1.late := ⟨_, rfl⟩
    obtain ⟨pl0, cap0, l0⟩ := late1
    have hll : w1.late.l = l0 := by rw [← hlate1]
    refine call_ix ((sort_spec w1.late (by omega)).sure (Q' := fun v p => ∃ l' : List T, v = .tuple #[] ∧ l'.Perm l0 ∧ l'.Pairwise (fun x y => ltT y x = false) ∧ (l' ≠ [] → ∃ b o, pl0 = .at b o) ∧ p = [Vec pl0 126 3 cap0 (TL.flat l')]) (by
      rintro v p h ⟨l', rfl, h2, h3, rfl⟩ hs
      rw [← hlate1] at h2 hs ⊢
      exact ⟨l', rfl, h2, h3, fun hne => vecT_at hs hne, rfl⟩)) rfl [2] (fun h k => sat_pick 2 rfl (by first | exact fun _ k => k | exact fun _ k => blk_to rfl rfl k | exact fun _ k => vec_to rfl k | exact fun _ k => blk_of rfl rfl k | exact fun _ k => vec_of rfl k | exact fun _ k => blk_of rfl rfl (blk_to rfl rfl k) | exact fun _ k => vec_of rfl (vec_to rfl k) | exact fun _ k => mp_to rfl k | exact fun _ k => mp_of rfl k | exact fun _ k => mp_of rfl (mp_to rfl k)) (fun h k => sat_pick 0 rfl (by first | exact fun _ k => k | exact fun _ k => blk_to rfl rfl k | exact fun _ k => vec_to rfl k | exact fun _ k => blk_of rfl rfl k | exact fun _ k => vec_of rfl k | exact fun _ k => blk_of rfl rfl (blk_to rfl rfl k) | exact fun _ k => vec_of rfl (vec_to rfl k) | exact fun _ k => mp_to rfl k | exact fun _ k => mp_of rfl k | exact fun _ k => mp_of rfl (mp_to rfl k)) (fun h k => sat_pick 0 rfl (by first | exact fun _ k => k | exact fun _ k => blk_to rfl rfl k | exact fun _ k => vec_to rfl k | exact fun _ k => blk_of rfl rfl k | exact fun _ k => vec_of rfl k | exact fun _ k => blk_of rfl rfl (blk_to rfl rfl k) | exact fun _ k => vec_of rfl (vec_to rfl k) | exact fun _ k => mp_to rfl k | exact fun _ k => mp_of rfl k | exact fun _ k => mp_of rfl (mp_to rfl k)) (fun h k => sat_pick 0 rfl (by first | exact fun _ k => k | exact fun _ k => blk_to rfl rfl k | exact fun _ k => vec_to rfl k | exact fun _ k => blk_of rfl rfl k | exact fun _ k => vec_of rfl k | exact fun _ k => blk_of rfl rfl (blk_to rfl rfl k) | exact fun _ k => vec_of rfl (vec_to rfl k) | exact fun _ k => mp_to rfl k | exact fun _ k => mp_of rfl k | exact fun _ k => mp_of rfl (mp_to rfl k)) (fun h k => sat_nil k) k) k) k) k) (fun _ _ _ _ => trivial) ?_
    rintro v post ⟨l', rfl, hperm, hsort, hpl0, rfl⟩
    have hval : w1.late.val = .slice (locAddr 0 pl0) l'.length cap0 := by rw [← hlate1, hperm.length_eq]; rfl
    have hl5 : l'.length ≤ 5000 := by rw [hperm.length_eq, ← hll]; exact hlen5
    refine ⟨.tuple [], [(1, pl0), (0, .at w.mb 0)], 2, [.vec 1 126 3 cap0 (TL.flat l')], NmExt.push rfl, rfl, (fun h k => sat_pick 0 rfl (fun _ k => vec_of rfl k) (fun h k => sat_nil k) k), ?_⟩
    refine RdRaw.told (.sl 1 0 l'.length cap0) w1.late.val (by rw [hval]; rfl) (fun h k => sat_cell 1 rfl (fun y ky => hd_cell (w := { w1 with now := x }) (j := 2) rfl y ky) k) ?_
    refine LoopOb.mk { z : Nat × Plc × Nat // z.1 ≤ l'.length ∧ z.1 ≤ z.2.2 } (fun z => ⟨73, [(0, .raw (.pointer (some ⟨b, 0, none⟩))), (8, .sl 2 0 z.1.1 z.1.2.2), (51, .sl 1 0 l'.length cap0), (52, .int .i64 l'.length), (53, .int .i64 z.1.1)], [(2, z.1.2.1), (1, pl0), (0, .at w.mb 0)], 3, [.asn (Hd b { w1 with now := x }), .asn (Vs w1.S), .mp 0 KI ((dels w.K (l'.take z.1.1)).map T.ent), .vec 1 126 3 cap0 (TL.flat l'), .vec 2 3 1 z.1.2.2 (IL.flat ((l'.take z.1.1).map T.id))]⟩) (fun z => l'.length - z.1.1)
      ⟨(0, .nil, 0), Nat.zero_le _, Nat.le_refl _⟩ ?_ ?_
    · exact Le.of rfl ⟨⟨_, rfl, rfl⟩, ⟨_, rfl, rfl⟩, ⟨_, rfl, rfl⟩, ⟨_, rfl, rfl⟩, ⟨_, rfl, rfl⟩, trivial⟩ (fun h k => sat_pick 1 rfl (by first | exact fun _ k => k | exact fun _ k => blk_to rfl rfl k | exact fun _ k => vec_to rfl k | exact fun _ k => blk_of rfl rfl k | exact fun _ k => vec_of rfl k | exact fun _ k => blk_of rfl rfl (blk_to rfl rfl k) | exact fun _ k => vec_of rfl (vec_to rfl k) | exact fun _ k => mp_to rfl k | exact fun _ k => mp_of rfl k | exact fun _ k => mp_of rfl (mp_to rfl k)) (fun h k => sat_pick 1 rfl (by first | exact fun _ k => k | exact fun _ k => blk_to rfl rfl k | exact fun _ k => vec_to rfl k | exact fun _ k => blk_of rfl rfl k | exact fun _ k => vec_of rfl k | exact fun _ k => blk_of rfl rfl (blk_to rfl rfl k) | exact fun _ k => vec_of rfl (vec_to rfl k) | exact fun _ k => mp_to rfl k | exact fun _ k => mp_of rfl k | exact fun _ k => mp_of rfl (mp_to rfl k)) (fun h k => sat_pick 1 rfl (fun _ k => mp_of rfl (by have k := mp_to (b := w.mb) rfl k; rw [show w1.K = w.K from hk1] at k; exact k)) (fun h k => sat_pick 0 rfl (fun _ k => vec_of rfl (vec_to rfl k)) (fun h k => sat_add (vec_of rfl vec_emp) ((fun h k => sat_nil k) h k)) k) k) k) k)
    rintro ⟨⟨j, pl, c⟩, hjl, hjc⟩
    simp only at hjl hjc
    refine CondOb.split (fun g => ?_) (fun g => ?_)
    rotate_left
    · have g : j = l'.length := by
        have g := of_decide_eq_false g
        have : ¬ (j : Int) < l'.length := g
        omega
      subst g
      refine StRaw.on 0 (Hd b { w1 with now := x, late := sp0 }) [.slice none 0 0] rfl rfl (fun y ky => hd_store (w := { w1 with now := x }) (w' := { w1 with now := x, late := sp0 }) (v := .slice none 0 0) (j := 2) hi1.fw.hl (by omega) rfl y ky) ?_
      rw [List.take_length] at *
      refine FinOb.mk [.slice (locAddr 0 pl) l'.length c, .int .i64 0] (Wl b { w1 with now := x, late := sp0, K := dels w.K l' } ++ [Vec pl 3 1 c (IL.flat (l'.map T.id))]) rfl (fun h k => ?_)
        ⟨w1, pl, c, l', rfl, hi1, hj, hno1, hm1, hperm.trans (by rw [← hll]; exact hlate), hsort, hjc, rfl⟩
      have k1 : sat [Hd b { w1 with now := x, late := sp0 }, Vs w1.S, MapA w1.mb KI ((dels w.K l').map T.ent), Vec pl 3 1 c (IL.flat (l'.map T.id))] h := (fun h k => sat_pick 0 rfl (by first | exact fun _ k => k | exact fun _ k => blk_to rfl rfl k | exact fun _ k => vec_to rfl k | exact fun _ k => blk_of rfl rfl k | exact fun _ k => vec_of rfl k | exact fun _ k => blk_of rfl rfl (blk_to rfl rfl k) | exact fun _ k => vec_of rfl (vec_to rfl k) | exact fun _ k => mp_to rfl k | exact fun _ k => mp_of rfl k | exact fun _ k => mp_of rfl (mp_to rfl k)) (fun h k => sat_pick 0 rfl (by first | exact fun _ k => k | exact fun _ k => blk_to rfl rfl k | exact fun _ k => vec_to rfl k | exact fun _ k => blk_of rfl rfl k | exact fun _ k => vec_of rfl k | exact fun _ k => blk_of rfl rfl (blk_to rfl rfl k) | exact fun _ k => vec_of rfl (vec_to rfl k) | exact fun _ k => mp_to rfl k | exact fun _ k => mp_of rfl k | exact fun _ k => mp_of rfl (mp_to rfl k)) (fun h k => sat_pick 0 rfl (fun _ k => by have k := mp_to (b := w.mb) rfl k; rw [show w.mb = w1.mb from hm1.symm] at k; exact k) (fun h k => sat_pick 1 rfl (fun _ k => vec_to rfl k) (fun h k => sat_nil k) k) k) k) k) h k
      exact sat_cons (fun _ k => k) (fun h k => sat_cons (fun _ k => k) (fun h k => sat_add vec_emp k) k) k1
    have g : j < l'.length := by
      have g := of_decide_eq_true g
      have : (j : Int) < l'.length := g
      omega
    obtain ⟨pb, po, rfl⟩ := hpl0 (by intro e; rw [e] at g; simp at g)
    have hx := List.getElem?_eq_getElem g
    generalize l'[j] = t at hx
    have ej : IntKind.i64.wrap ((j : Int) + 1) = ((j + 1 : Nat) : Int) := by rw [w64 (by omega) (by omega)]; omega
    refine Need.mk (show (0 : Int) ≤ (j : Int) ∧ (j : Int) < (l'.length : Nat) from ⟨by omega, by omega⟩) ?_
    refine RdObL.mk t.svs (by decide) ?_ ?_ ?_
    · show 0 + j * 3 + 3 ≤ _
      rw [lT]; omega
    · show _ = some (((TL.flat l').drop (0 + j * 3)).take 3)
      rw [show 0 + j * 3 = j * 3 from by omega]
      exact congrArg some (TL.flat_get hx).symm
    intro b10
    refine DrawOb.mk [] (.run [0, 1, 2, 3, 4, 5, 6] .nil) (by kernel_rfl) ?_
    refine RdRaw.told (.map 0) _ (show _ = some (Value.map (some w1.mb)) by rw [hm1]; rfl) (fun h k => sat_cell 1 rfl (fun y ky => known_read (w := { w1 with now := x }) hi1.fw.hl y ky) k) ?_
    intro b66
    have hF : (IL.flat ((l'.take j).map T.id)).length = j * 1 := by rw [lI, List.length_map, List.length_take]; omega
    refine StOb.mk (IL.cells t.id) rfl (Need.mk rfl ?_)
    refine Need.mk ⟨by rw [hF]; exact Nat.le_of_eq (Nat.zero_add _), by show 0 + c * 1 ≤ c * 1; omega, hjc⟩ ?_
    refine Need.mk ⟨by show (j + 1) * 8 ≤ 140737488355328; omega, by show j + 1 ≤ maxLen; simp only [maxLen]; omega, IL.one _⟩ ?_
    refine NewSl.pos (Nat.succ_pos _) (fun b6 o6 c6 hc6 => ?_)
    have hfl : List.take (j * 1) (List.drop 0 (IL.flat ((l'.take j).map T.id))) ++ IL.cells t.id = IL.flat ((l'.take (j + 1)).map T.id) := by
      rw [List.drop_zero, List.take_of_length_le (by rw [hF]; exact Nat.le_refl _), List.take_add_one, hx, List.map_append, IL.flat_append]
      exact congrArg _ (IL.flat_one t.id).symm
    have hdl : (dels w.K (l'.take (j + 1))) = delT t.id (dels w.K (l'.take j)) := by
      rw [List.take_add_one, hx]; exact dels_snoc _ _ t
    refine ⟨⟨(j + 1, .at b6 o6, c6), g, hc6⟩, by show l'.length - (j + 1) < l'.length - j; omega, Le.of rfl ⟨⟨_, rfl, rfl⟩, ⟨_, rfl, rfl⟩, ⟨_, rfl, rfl⟩, ⟨_, rfl, rfl⟩, ⟨_, rfl, congrArg (fun z => some (Value.int .i64 z)) ej⟩, trivial⟩ (fun h k => sat_pick 4 rfl (by first | exact fun _ k => k | exact fun _ k => blk_to rfl rfl k | exact fun _ k => vec_to rfl k | exact fun _ k => blk_of rfl rfl k | exact fun _ k => vec_of rfl k | exact fun _ k => blk_of rfl rfl (blk_to rfl rfl k) | exact fun _ k => vec_of rfl (vec_to rfl k) | exact fun _ k => mp_to rfl k | exact fun _ k => mp_of rfl k | exact fun _ k => mp_of rfl (mp_to rfl k)) (fun h k => sat_pick 4 rfl (by first | exact fun _ k => k | exact fun _ k => blk_to rfl rfl k | exact fun _ k => vec_to rfl k | exact fun _ k => blk_of rfl rfl k | exact fun _ k => vec_of rfl k | exact fun _ k => blk_of rfl rfl (blk_to rfl rfl k) | exact fun _ k => vec_of rfl (vec_to rfl k) | exact fun _ k => mp_to rfl k | exact fun _ k => mp_of rfl k | exact fun _ k => mp_of rfl (mp_to rfl k)) (fun h k => sat_pick 2 rfl (fun _ k => mp_of rfl (by have k := mp_to (b := w.mb) rfl k; rw [del_ent, ← hdl] at k; exact k)) (fun h k => sat_pick 3 rfl (fun _ k => vec_of rfl (vec_to rfl k)) (fun h k => sat_pick 0 rfl (fun _ k => vec_of rfl (by have k := vec_to (l := .at b6 o6) rfl k; rw [hfl] at k; exact k)) (fun h k => sat_nil k) k) k) k) k) k)⟩
  | true =>
    refine ⟨.tuple [.int .i64 at_, .tt], _, 1, [.asn (Hd b w1)], NmExt.refl _, rfl, (fun h k => sat_pick 0 rfl (by first | exact fun _ k => k | exact fun _ k => blk_to rfl rfl k | exact fun _ k => vec_to rfl k | exact fun _ k => blk_of rfl rfl k | exact fun _ k => vec_of rfl k | exact fun _ k => blk_of rfl rfl (blk_to rfl rfl k) | exact fun _ k => vec_of rfl (vec_to rfl k) | exact fun _ k => mp_to rfl k | exact fun _ k => mp_of rfl k | exact fun _ k => mp_of rfl (mp_to rfl k)) (fun h k => sat_nil k) k), ?_⟩
    refine RegOb.go ?_
    obtain ⟨i, hi0, hn, hix, h1, h2⟩ := turn_first hi1 ht
    refine CondOb.split (fun g => ?_) (fun g => ?_)
    · have g := of_decide_eq_true g
      have hj : Inv { w1 with now := x } L := hi1.jump hx1 x1 (fun t htL htn => by
        by_cases e : ix w1.now t.at_ = i
        · rw [← h1 t htL htn e]; omega
        · have := h2 t htL htn e; omega)
      refine call_ix (jump_spec b w1 x hi1.fw.hl) rfl [0] (fun h k => sat_pick 0 rfl (by first | exact fun _ k => k | exact fun _ k => blk_to rfl rfl k | exact fun _ k => vec_to rfl k | exact fun _ k => blk_of rfl rfl k | exact fun _ k => vec_of rfl k | exact fun _ k => blk_of rfl rfl (blk_to rfl rfl k) | exact fun _ k => vec_of rfl (vec_to rfl k) | exact fun _ k => mp_to rfl k | exact fun _ k => mp_of rfl k | exact fun _ k => mp_of rfl (mp_to rfl k)) (fun h k => sat_pick 0 rfl (by first | exact fun _ k => k | exact fun _ k => blk_to rfl rfl k | exact fun _ k => vec_to rfl k | exact fun _ k => blk_of rfl rfl k | exact fun _ k => vec_of rfl k | exact fun _ k => blk_of rfl rfl (blk_to rfl rfl k) | exact fun _ k => vec_of rfl (vec_to rfl k) | exact fun _ k => mp_to rfl k | exact fun _ k => mp_of rfl k | exact fun _ k => mp_of rfl (mp_to rfl k)) (fun h k => sat_pick 0 rfl (by first | exact fun _ k => k | exact fun _ k => blk_to rfl rfl k | exact fun _ k => vec_to rfl k | exact fun _ k => blk_of rfl rfl k | exact fun _ k => vec_of rfl k | exact fun _ k => blk_of rfl rfl (blk_to rfl rfl k) | exact fun _ k => vec_of rfl (vec_to rfl k) | exact fun _ k => mp_to rfl k | exact fun _ k => mp_of rfl k | exact fun _ k => mp_of rfl (mp_to rfl k)) (fun h k => sat_pick 0 rfl (by first | exact fun _ k => k | exact fun _ k => blk_to rfl rfl k | exact fun _ k => vec_to rfl k | exact fun _ k => blk_of rfl rfl k | exact fun _ k => vec_of rfl k | exact fun _ k => blk_of rfl rfl (blk_to rfl rfl k) | exact fun _ k => vec_of rfl (vec_to rfl k) | exact fun _ k => mp_to rfl k | exact fun _ k => mp_of rfl k | exact fun _ k => mp_of rfl (mp_to rfl k)) (fun h k => sat_nil k) k) k) k) k) (fun _ _ _ _ => trivial) ?_
      rintro v post ⟨rfl, rfl⟩
      refine ⟨.tuple [], _, 1, [.asn (Hd b { w1 with now := x })], NmExt.refl _, rfl, (fun h k => sat_pick 0 rfl (by first | exact fun _ k => k | exact fun _ k => blk_to rfl rfl k | exact fun _ k => vec_to rfl k | exact fun _ k => blk_of rfl rfl k | exact fun _ k => vec_of rfl k | exact fun _ k => blk_of rfl rfl (blk_to rfl rfl k) | exact fun _ k => vec_of rfl (vec_to rfl k) | exact fun _ k => mp_to rfl k | exact fun _ k => mp_of rfl k | exact fun _ k => mp_of rfl (mp_to rfl k)) (fun h k => sat_nil k) k), ?_⟩
      have hlen5 : w1.late.l.length ≤ 5000 := by
        have h1 := hi1.tt; have h2 := hi1.few
        have := (few_of (Nat.le_refl (tot w1))).1
        omega
      refine RdRaw.told (.raw w1.late.val) _ rfl (fun h k => sat_cell 0 rfl (fun y ky => hd_cell (w := { w1 with now := x }) (j := 2) rfl y ky) k) ?_
      have hlate := hj.co.late
      obtain ⟨late1, hlate1⟩ : ∃ s, s = w1.late := ⟨_, rfl⟩
      obtain ⟨pl0, cap0, l0⟩ := late1
      have hll : w1.late.l = l0 := by rw [← hlate1]
      refine call_ix ((sort_spec w1.late (by omega)).sure (Q' := fun v p => ∃ l' : List T, v = .tuple #[] ∧ l'.Perm l0 ∧ l'.Pairwise (fun x y => ltT y x = false) ∧ (l' ≠ [] → ∃ b o, pl0 = .at b o) ∧ p = [Vec pl0 126 3 cap0 (TL.flat l')]) (by
        rintro v p h ⟨l', rfl, h2, h3, rfl⟩ hs
        rw [← hlate1] at h2 hs ⊢
        exact ⟨l', rfl, h2, h3, fun hne => vecT_at hs hne, rfl⟩)) rfl [2] (fun h k => sat_pick 2 rfl (by first | exact fun _ k => k | exact fun _ k => blk_to rfl rfl k | exact fun _ k => vec_to rfl k | exact fun _ k => blk_of rfl rfl k | exact fun _ k => vec_of rfl k | exact fun _ k => blk_of rfl rfl (blk_to rfl rfl k) | exact fun _ k => vec_of rfl (vec_to rfl k) | exact fun _ k => mp_to rfl k | exact fun _ k => mp_of rfl k | exact fun _ k => mp_of rfl (mp_to rfl k)) (fun h k => sat_pick 0 rfl (by first | exact fun _ k => k | exact fun _ k => blk_to rfl rfl k | exact fun _ k => vec_to rfl k | exact fun _ k => blk_of rfl rfl k | exact fun _ k => vec_of rfl k | exact fun _ k => blk_of rfl rfl (blk_to rfl rfl k) | exact fun _ k => vec_of rfl (vec_to rfl k) | exact fun _ k => mp_to rfl k | exact fun _ k => mp_of rfl k | exact fun _ k => mp_of rfl (mp_to rfl k)) (fun h k => sat_pick 0 rfl (by first | exact fun _ k => k | exact fun _ k => blk_to rfl rfl k | exact fun _ k => vec_to rfl k | exact fun _ k => blk_of rfl rfl k | exact fun _ k => vec_of rfl k | exact fun _ k => blk_of rfl rfl (blk_to rfl rfl k) | exact fun _ k => vec_of rfl (vec_to rfl k) | exact fun _ k => mp_to rfl k | exact fun _ k => mp_of rfl k | exact fun _ k => mp_of rfl (mp_to rfl k)) (fun h k => sat_pick 0 rfl (by first | exact fun _ k => k | exact fun _ k => blk_to rfl rfl k | exact fun _ k => vec_to rfl k | exact fun _ k => blk_of rfl rfl k | exact fun _ k => vec_of rfl k | exact fun _ k => blk_of rfl rfl (blk_to rfl rfl k) | exact fun _ k => vec_of rfl (vec_to rfl k) | exact fun _ k => mp_to rfl k | exact fun _ k => mp_of rfl k | exact fun _ k => mp_of rfl (mp_to rfl k)) (fun h k => sat_nil k) k) k) k) k) (fun _ _ _ _ => trivial) ?_
      rintro v post ⟨l', rfl, hperm, hsort, hpl0, rfl⟩
      have hval : w1.late.val = .slice (locAddr 0 pl0) l'.length cap0 := by rw [← hlate1, hperm.length_eq]; rfl
      have hl5 : l'.length ≤ 5000 := by rw [hperm.length_eq, ← hll]; exact hlen5
      refine ⟨.tuple [], [(1, pl0), (0, .at w.mb 0)], 2, [.vec 1 126 3 cap0 (TL.flat l')], NmExt.push rfl, rfl, (fun h k => sat_pick 0 rfl (fun _ k => vec_of rfl k) (fun h k => sat_nil k) k), ?_⟩
      refine RdRaw.told (.sl 1 0 l'.length cap0) w1.late.val (by rw [hval]; rfl) (fun h k => sat_cell 1 rfl (fun y ky => hd_cell (w := { w1 with now := x }) (j := 2) rfl y ky) k) ?_
      refine LoopOb.mk { z : Nat × Plc × Nat // z.1 ≤ l'.length ∧ z.1 ≤ z.2.2 } (fun z => ⟨73, [(0, .raw (.pointer (some ⟨b, 0, none⟩))), (8, .sl 2 0 z.1.1 z.1.2.2), (51, .sl 1 0 l'.length cap0), (52, .int .i64 l'.length), (53, .int .i64 z.1.1)], [(2, z.1.2.1), (1, pl0), (0, .at w.mb 0)], 3, [.asn (Hd b { w1 with now := x }), .asn (Vs w1.S), .mp 0 KI ((dels w.K (l'.take z.1.1)).map T.ent), .vec 1 126 3 cap0 (TL.flat l'), .vec 2 3 1 z.1.2.2 (IL.flat ((l'.take z.1.1).map T.id))]⟩) (fun z => l'.length - z.1.1)
        ⟨(0, .nil, 0), Nat.zero_le _, Nat.le_refl _⟩ ?_ ?_
      · exact Le.of rfl ⟨⟨_, rfl, rfl⟩, ⟨_, rfl, rfl⟩, ⟨_, rfl, rfl⟩, ⟨_, rfl, rfl⟩, ⟨_, rfl, rfl⟩, trivial⟩ (fun h k => sat_pick 1 rfl (by first | exact fun _ k => k | exact fun _ k => blk_to rfl rfl k | exact fun _ k => vec_to rfl k | exact fun _ k => blk_of rfl rfl k | exact fun _ k => vec_of rfl k | exact fun _ k => blk_of rfl rfl (blk_to rfl rfl k) | exact fun _ k => vec_of rfl (vec_to rfl k) | exact fun _ k => mp_to rfl k | exact fun _ k => mp_of rfl k | exact fun _ k => mp_of rfl (mp_to rfl k)) (fun h k => sat_pick 1 rfl (by first | exact fun _ k => k | exact fun _ k => blk_to rfl rfl k | exact fun _ k => vec_to rfl k | exact fun _ k => blk_of rfl rfl k | exact fun _ k => vec_of rfl k | exact fun _ k => blk_of rfl rfl (blk_to rfl rfl k) | exact fun _ k => vec_of rfl (vec_to rfl k) | exact fun _ k => mp_to rfl k | exact fun _ k => mp_of rfl k | exact fun _ k => mp_of rfl (mp_to rfl k)) (fun h k => sat_pick 1 rfl (fun _ k => mp_of rfl (by have k := mp_to (b := w.mb) rfl k; rw [show w1.K = w.K from hk1] at k; exact k)) (fun h k => sat_pick 0 rfl (fun _ k => vec_of rfl (vec_to rfl k)) (fun h k => sat_add (vec_of rfl vec_emp) ((fun h k => sat_nil k) h k)) k) k) k) k)
      rintro ⟨⟨j, pl, c⟩, hjl, hjc⟩
      simp only at hjl hjc
      refine CondOb.split (fun g => ?_) (fun g => ?_)
      rotate_left
      · have g : j = l'.length := by
          have g := of_decide_eq_false g
          have : ¬ (j : Int) < l'.length := g
          omega
        subst g
        refine StRaw.on 0 (Hd b { w1 with now := x, late := sp0 }) [.slice none 0 0] rfl rfl (fun y ky => hd_store (w := { w1 with now := x }) (w' := { w1 with now := x, late := sp0 }) (v := .slice none 0 0) (j := 2) hi1.fw.hl (by omega) rfl y ky) ?_
        rw [List.take_length] at *
        refine FinOb.mk [.slice (locAddr 0 pl) l'.length c, .int .i64 0] (Wl b { w1 with now := x, late := sp0, K := dels w.K l' } ++ [Vec pl 3 1 c (IL.flat (l'.map T.id))]) rfl (fun h k => ?_)
          ⟨w1, pl, c, l', rfl, hi1, hj, hno1, hm1, hperm.trans (by rw [← hll]; exact hlate), hsort, hjc, rfl⟩
        have k1 : sat [Hd b { w1 with now := x, late := sp0 }, Vs w1.S, MapA w1.mb KI ((dels w.K l').map T.ent), Vec pl 3 1 c (IL.flat (l'.map T.id))] h := (fun h k => sat_pick 0 rfl (by first | exact fun _ k => k | exact fun _ k => blk_to rfl rfl k | exact fun _ k => vec_to rfl k | exact fun _ k => blk_of rfl rfl k | exact fun _ k => vec_of rfl k | exact fun _ k => blk_of rfl rfl (blk_to rfl rfl k) | exact fun _ k => vec_of rfl (vec_to rfl k) | exact fun _ k => mp_to rfl k | exact fun _ k => mp_of rfl k | exact fun _ k => mp_of rfl (mp_to rfl k)) (fun h k => sat_pick 0 rfl (by first | exact fun _ k => k | exact fun _ k => blk_to rfl rfl k | exact fun _ k => vec_to rfl k | exact fun _ k => blk_of rfl rfl k | exact fun _ k => vec_of rfl k | exact fun _ k => blk_of rfl rfl (blk_to rfl rfl k) | exact fun _ k => vec_of rfl (vec_to rfl k) | exact fun _ k => mp_to rfl k | exact fun _ k => mp_of rfl k | exact fun _ k => mp_of rfl (mp_to rfl k)) (fun h k => sat_pick 0 rfl (fun _ k => by have k := mp_to (b := w.mb) rfl k; rw [show w.mb = w1.mb from hm1.symm] at k; exact k) (fun h k => sat_pick 1 rfl (fun _ k => vec_to rfl k) (fun h k => sat_nil k) k) k) k) k) h k
        exact sat_cons (fun _ k => k) (fun h k => sat_cons (fun _ k => k) (fun h k => sat_add vec_emp k) k) k1
      have g : j < l'.length := by
        have g := of_decide_eq_true g
        have : (j : Int) < l'.length := g
        omega
      obtain ⟨pb, po, rfl⟩ := hpl0 (by intro e; rw [e] at g; simp at g)
      have hx := List.getElem?_eq_getElem g
      generalize l'[j] = t at hx
      have ej : IntKind.i64.wrap ((j : Int) + 1) = ((j + 1 : Nat) : Int) := by rw [w64 (by omega) (by omega)]; omega
      refine Need.mk (show (0 : Int) ≤ (j : Int) ∧ (j : Int) < (l'.length : Nat) from ⟨by omega, by omega⟩) ?_
      refine RdObL.mk t.svs (by decide) ?_ ?_ ?_
      · show 0 + j * 3 + 3 ≤ _
        rw [lT]; omega
      · show _ = some (((TL.flat l').drop (0 + j * 3)).take 3)
        rw [show 0 + j * 3 = j * 3 from by omega]
        exact congrArg some (TL.flat_get hx).symm
      intro b10
      refine DrawOb.mk [] (.run [0, 1, 2, 3, 4, 5, 6] .nil) (by kernel_rfl) ?_
      refine RdRaw.told (.map 0) _ (show _ = some (Value.map (some w1.mb)) by rw [hm1]; rfl) (fun h k => sat_cell 1 rfl (fun y ky => known_read (w := { w1 with now := x }) hi1.fw.hl y ky) k) ?_
      intro b66
      have hF : (IL.flat ((l'.take j).map T.id)).length = j * 1 := by rw [lI, List.length_map, List.length_take]; omega
      refine StOb.mk (IL.cells t.id) rfl (Need.mk rfl ?_)
      refine Need.mk ⟨by rw [hF]; exact Nat.le_of_eq (Nat.zero_add _), by show 0 + c * 1 ≤ c * 1; omega, hjc⟩ ?_
      refine Need.mk ⟨by show (j + 1) * 8 ≤ 140737488355328; omega, by show j + 1 ≤ maxLen; simp only [maxLen]; omega, IL.one _⟩ ?_
      refine NewSl.pos (Nat.succ_pos _) (fun b6 o6 c6 hc6 => ?_)
      have hfl : List.take (j * 1) (List.drop 0 (IL.flat ((l'.take j).map T.id))) ++ IL.cells t.id = IL.flat ((l'.take (j + 1)).map T.id) := by
        rw [List.drop_zero, List.take_of_length_le (by rw [hF]; exact Nat.le_refl _), List.take_add_one, hx, List.map_append, IL.flat_append]
        exact congrArg _ (IL.flat_one t.id).symm
      have hdl : (dels w.K (l'.take (j + 1))) = delT t.id (dels w.K (l'.take j)) := by
        rw [List.take_add_one, hx]; exact dels_snoc _ _ t
      refine ⟨⟨(j + 1, .at b6 o6, c6), g, hc6⟩, by show l'.length - (j + 1) < l'.length - j; omega, Le.of rfl ⟨⟨_, rfl, rfl⟩, ⟨_, rfl, rfl⟩, ⟨_, rfl, rfl⟩, ⟨_, rfl, rfl⟩, ⟨_, rfl, congrArg (fun z => some (Value.int .i64 z)) ej⟩, trivial⟩ (fun h k => sat_pick 4 rfl (by first | exact fun _ k => k | exact fun _ k => blk_to rfl rfl k | exact fun _ k => vec_to rfl k | exact fun _ k => blk_of rfl rfl k | exact fun _ k => vec_of rfl k | exact fun _ k => blk_of rfl rfl (blk_to rfl rfl k) | exact fun _ k => vec_of rfl (vec_to rfl k) | exact fun _ k => mp_to rfl k | exact fun _ k => mp_of rfl k | exact fun _ k => mp_of rfl (mp_to rfl k)) (fun h k => sat_pick 4 rfl (by first | exact fun _ k => k | exact fun _ k => blk_to rfl rfl k | exact fun _ k => vec_to rfl k | exact fun _ k => blk_of rfl rfl k | exact fun _ k => vec_of rfl k | exact fun _ k => blk_of rfl rfl (blk_to rfl rfl k) | exact fun _ k => vec_of rfl (vec_to rfl k) | exact fun _ k => mp_to rfl k | exact fun _ k => mp_of rfl k | exact fun _ k => mp_of rfl (mp_to rfl k)) (fun h k => sat_pick 2 rfl (fun _ k => mp_of rfl (by have k := mp_to (b := w.mb) rfl k; rw [del_ent, ← hdl] at k; exact k)) (fun h k => sat_pick 3 rfl (fun _ k => vec_of rfl (vec_to rfl k)) (fun h k => sat_pick 0 rfl (fun _ k => vec_of rfl (by have k := vec_to (l := .at b6 o6) rfl k; rw [hfl] at k; exact k)) (fun h k => sat_nil k) k) k) k) k) k)⟩
    · have g : at_ ≤ x := by have := of_decide_eq_false g; omega
      have hil : ix w1.now at_ < w1.S.length := by rw [hi1.fw.hl]; exact ix_lt _ _
      have hs := List.getElem?_eq_getElem hil
      generalize w1.S[ix w1.now at_] = s0 at hs
      obtain ⟨pl0, cap0, l0⟩ := s0
      have hn0 := hi1.fw.n0
      have xT : x ≤ 1099511627776 := x1
      refine call_ix (reach_spec b w1 at_ hi1.fw (by omega) (by show at_ ≤ 4611686018427387904; omega) pl0 cap0 l0 hs (by have := hi1.tt; have := hi1.few; omega) (fun t htm => ?_)) rfl [0, 0, 0] (fun h k => sat_pick 0 rfl (by first | exact fun _ k => k | exact fun _ k => blk_to rfl rfl k | exact fun _ k => vec_to rfl k | exact fun _ k => blk_of rfl rfl k | exact fun _ k => vec_of rfl k | exact fun _ k => blk_of rfl rfl (blk_to rfl rfl k) | exact fun _ k => vec_of rfl (vec_to rfl k) | exact fun _ k => mp_to rfl k | exact fun _ k => mp_of rfl k | exact fun _ k => mp_of rfl (mp_to rfl k)) (fun h k => sat_pick 0 rfl (by first | exact fun _ k => k | exact fun _ k => blk_to rfl rfl k | exact fun _ k => vec_to rfl k | exact fun _ k => blk_of rfl rfl k | exact fun _ k => vec_of rfl k | exact fun _ k => blk_of rfl rfl (blk_to rfl rfl k) | exact fun _ k => vec_of rfl (vec_to rfl k) | exact fun _ k => mp_to rfl k | exact fun _ k => mp_of rfl k | exact fun _ k => mp_of rfl (mp_to rfl k)) (fun h k => sat_pick 0 rfl (by first | exact fun _ k => k | exact fun _ k => blk_to rfl rfl k | exact fun _ k => vec_to rfl k | exact fun _ k => blk_of rfl rfl k | exact fun _ k => vec_of rfl k | exact fun _ k => blk_of rfl rfl (blk_to rfl rfl k) | exact fun _ k => vec_of rfl (vec_to rfl k) | exact fun _ k => mp_to rfl k | exact fun _ k => mp_of rfl k | exact fun _ k => mp_of rfl (mp_to rfl k)) (fun h k => sat_pick 0 rfl (by first | exact fun _ k => k | exact fun _ k => blk_to rfl rfl k | exact fun _ k => vec_to rfl k | exact fun _ k => blk_of rfl rfl k | exact fun _ k => vec_of rfl k | exact fun _ k => blk_of rfl rfl (blk_to rfl rfl k) | exact fun _ k => vec_of rfl (vec_to rfl k) | exact fun _ k => mp_to rfl k | exact fun _ k => mp_of rfl k | exact fun _ k => mp_of rfl (mp_to rfl k)) (fun h k => sat_nil k) k) k) k) k) (fun _ _ _ _ => trivial) ?_
      · have hp := hi1.co.spk _ _ hs
        have hm := (hp.mem_iff).1 htm
        have hr := hi1.rg t (List.mem_filter.1 hm).1
        have : t.at_ ≤ 1099511627776 := hr.2
        exact ⟨hr.1, by show t.at_ ≤ 4611686018427387904; omega⟩
      rintro v post ⟨w2, rfl, hh, rfl⟩
      obtain ⟨i2, n2, no2, mb2, K2⟩ := hi1.reach ht (by show at_ ≤ 1099511627776; omega) hs hh
      refine ⟨.tuple [], _, 1, [.asn (Hd b w2), .asn (Vs w2.S), .asn w2.late.vec], NmExt.refl _, rfl, (fun h k => sat_pick 0 rfl (by first | exact fun _ k => k | exact fun _ k => blk_to rfl rfl k | exact fun _ k => vec_to rfl k | exact fun _ k => blk_of rfl rfl k | exact fun _ k => vec_of rfl k | exact fun _ k => blk_of rfl rfl (blk_to rfl rfl k) | exact fun _ k => vec_of rfl (vec_to rfl k) | exact fun _ k => mp_to rfl k | exact fun _ k => mp_of rfl k | exact fun _ k => mp_of rfl (mp_to rfl k)) (fun h k => sat_pick 0 rfl (by first | exact fun _ k => k | exact fun _ k => blk_to rfl rfl k | exact fun _ k => vec_to rfl k | exact fun _ k => blk_of rfl rfl k | exact fun _ k => vec_of rfl k | exact fun _ k => blk_of rfl rfl (blk_to rfl rfl k) | exact fun _ k => vec_of rfl (vec_to rfl k) | exact fun _ k => mp_to rfl k | exact fun _ k => mp_of rfl k | exact fun _ k => mp_of rfl (mp_to rfl k)) (fun h k => sat_pick 0 rfl (by first | exact fun _ k => k | exact fun _ k => blk_to rfl rfl k | exact fun _ k => vec_to rfl k | exact fun _ k => blk_of rfl rfl k | exact fun _ k => vec_of rfl k | exact fun _ k => blk_of rfl rfl (blk_to rfl rfl k) | exact fun _ k => vec_of rfl (vec_to rfl k) | exact fun _ k => mp_to rfl k | exact fun _ k => mp_of rfl k | exact fun _ k => mp_of rfl (mp_to rfl k)) (fun h k => sat_nil k) k) k) k), ?_⟩
      exact ⟨⟨w2, i2, by omega, by rw [no2, hno1], by rw [mb2, hm1], by rw [K2, hk1]⟩, by show (x - w2.now).toNat < (x - w1.now).toNat; omega, Le.of rfl ⟨⟨_, rfl, rfl⟩, ⟨_, rfl, rfl⟩, trivial⟩ (fun h k => sat_pick 0 rfl (by first | exact fun _ k => k | exact fun _ k => blk_to rfl rfl k | exact fun _ k => vec_to rfl k | exact fun _ k => blk_of rfl rfl k | exact fun _ k => vec_of rfl k | exact fun _ k => blk_of rfl rfl (blk_to rfl rfl k) | exact fun _ k => vec_of rfl (vec_to rfl k) | exact fun _ k => mp_to rfl k | exact fun _ k => mp_of rfl k | exact fun _ k => mp_of rfl (mp_to rfl k)) (fun h k => sat_pick 0 rfl (by first | exact fun _ k => k | exact fun _ k => blk_to rfl rfl k | exact fun _ k => vec_to rfl k | exact fun _ k => blk_of rfl rfl k | exact fun _ k => vec_of rfl k | exact fun _ k => blk_of rfl rfl (blk_to rfl rfl k) | exact fun _ k => vec_of rfl (vec_to rfl k) | exact fun _ k => mp_to rfl k | exact fun _ k => mp_of rfl k | exact fun _ k => mp_of rfl (mp_to rfl k)) (fun h k => sat_pick 0 rfl (by first | exact fun _ k => k | exact fun _ k => blk_to rfl rfl k | exact fun _ k => vec_to rfl k | exact fun _ k => blk_of rfl rfl k | exact fun _ k => vec_of rfl k | exact fun _ k => blk_of rfl rfl (blk_to rfl rfl k) | exact fun _ k => vec_of rfl (vec_to rfl k) | exact fun _ k => mp_to rfl k | exact fun _ k => mp_of rfl k | exact fun _ k => mp_of rfl (mp_to rfl k)) (fun h k => sat_pick 0 rfl (fun _ k => mp_of rfl (by have k := mp_to (b := w.mb) rfl k; rw [← K2] at k; exact k)) (fun h k => sat_nil k) k) k) k) k)⟩
end Go.Proofs.Ytiknkeakielncaa.Wh
