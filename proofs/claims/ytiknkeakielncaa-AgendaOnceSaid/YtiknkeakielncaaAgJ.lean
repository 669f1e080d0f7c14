/- agenda: Clone, SortFunc; All. Conditions: none. -/
import Derived.Test.YtiknkeakielncaaAgI
import Derived.Test.YtiknkeakielncaaSoB
namespace Go.Proofs.Ytiknkeakielncaa.Ag
open Go Go.Proofs Sx
set_option maxRecDepth 100000
set_option linter.unusedVariables false
set_option linter.unusedSimpArgs false
set_option maxHeartbeats 4000000

theorem flatP (l : List En) : PL.flat l = l.map En.ptr := by
  induction l with
  | nil => rfl
  | cons a l ih => rw [PL.flat_cons, ih]; rfl
def cfS {M : List En} (x y : { e : En // e ∈ M }) : Int := cfE x.1 y.1
theorem ltOf_cfS {M : List En} (x y : { e : En // e ∈ M }) : ltOf cfS x y = ltE x.1 y.1 := by
  unfold ltOf cfS ltE; rfl
theorem swoS {M : List En} : Go.Sort.SWO (ltOf (cfS (M := M))) := by
  have e : ltOf (cfS (M := M)) = fun x y => ltE x.1 y.1 := funext fun x => funext fun y => ltOf_cfS x y
  rw [e]
  have f : ∀ {x y : En}, ltE x y = false ↔ LeE y x := ltE_no
  refine ⟨fun x => ?_, fun x y z h1 h2 => ?_, fun x y z h1 h2 => ?_⟩
  · exact f.2 (LeE.refl _)
  · exact ltE_iff.2 (by have h1 := ltE_iff.1 h1; have h2 := ltE_iff.1 h2; unfold LtE at *; omega)
  · exact f.2 (by have h1 := f.1 h1; have h2 := f.1 h2; unfold LeE LtE at *; omega)
theorem seen_mono {M : List En} : ∀ f f' b, Split f' b f → (∀ e ∈ M, Seen f e) → ∀ e ∈ M, Seen f' e := fun f f' b s h e he =>
  ⟨frame_cell s (h e he).c0, frame_cell s (h e he).c1, frame_cell s (h e he).c2, frame_cell s (h e he).c3⟩
theorem sortP_spec (pl : Plc) (cap : Nat) (H : List En) (hl : H.length ≤ 100000) :
    Does Try.prog 98 #[.slice (locAddr 0 pl) H.length cap, .func (.func 99) #[] #[]] (fun f => ∀ e ∈ H, Seen f e) [Vec pl 163 1 cap (PL.flat H)]
      (fun v p => ∃ H', v = .tuple #[] ∧ H'.Perm H ∧ H'.Pairwise (fun x y => ltE y x = false) ∧ p = [Vec pl 163 1 cap (PL.flat H')]) := by
  cases hcl : H with
  | nil =>
    refine ⟨So.sortP.f6.enters rfl, fun f w hR hat => ?_⟩
    refine (Proofs.AnyF.slices_SortFunc_none (P := Try.prog) (ρ := So.sortP_ren) { So.sortP with } (locAddr 0 pl) cap _ w).mono ?_
    rintro e' w' ⟨rfl, rfl⟩
    exact ⟨_, _, rfl, hat, ⟨[], rfl, .refl _, .nil, rfl⟩, .refl _⟩
  | cons x0 H0 =>
    rw [← hcl]
    have hx0 : x0 ∈ H := by rw [hcl]; simp
    haveI : Inhabited { e : En // e ∈ H } := ⟨⟨x0, hx0⟩⟩
    have h := sort1_does So.sortP (fun x : { e : En // e ∈ H } => x.1.ptr) (fun _ => rfl) cfS swoS 99 #[] (fun f => ∀ e ∈ H, Seen f e) seen_mono (fun x y => ⟨Try.call99, fun f w hR hat => (against_spec x.1 y.1).run f w ⟨hR _ x.2, hR _ y.2⟩ hat⟩) 163 pl cap H.attach (by rw [List.length_attach]; omega)
    rw [List.length_attach, show H.attach.map (fun x : { e : En // e ∈ H } => x.1.ptr) = PL.flat H by rw [flatP]; exact List.attach_map_val] at h
    refine h.mono ?_
    rintro v p ⟨l', rfl, h2, h3, rfl⟩
    refine ⟨l'.map (·.1), rfl, ?_, ?_, ?_⟩
    · have := h2.map (fun x : { e : En // e ∈ H } => x.1)
      rw [show H.attach.map (fun x : { e : En // e ∈ H } => x.1) = H from List.attach_map_subtype_val H] at this
      exact this
    · rw [List.pairwise_map]
      exact h3.imp fun {x y} h => by rw [← ltOf_cfS]; exact h
    · rw [flatP, List.map_map]; rfl
theorem clone_spec (A : Option Addr) (cap : Nat) (l : List En) (hk : l.length ≤ 100000) :
    Does Try.prog 97 #[.slice A l.length cap] (fun f => Reads f A (PL.flat l)) [] (fun v q => ∃ p cap', v = .slice (locAddr 0 p) l.length cap' ∧ q = [Vec p 163 1 cap' (PL.flat l)]) := by
  refine Does.ofJ Try.func97 Try.call97 rfl [.raw (.slice A l.length cap)] [] 0 [] rfl rfl (fun h k => k) (fun f hR => ?_)
  have hl := PL.flat_length l
  cases A with
  | none =>
    have h0 : l = [] := by
      cases l with
      | nil => rfl
      | cons v ys => obtain ⟨_, _, h, _⟩ := hR.lay (by decide) (i := 0) rfl; cases h
    subst h0
    exact FinOb.mk [.slice none 0 0] [Vec .nil 163 1 0 []] rfl (fun h k => ⟨HP.emp, h, .emp_left h, vec_emp, trivial⟩) ⟨.nil, 0, rfl, rfl⟩
  | some ad =>
    intro b
    refine SrcF.mk (PL.flat l) (by rw [hl]; rfl) hR ?_
    refine StOb.mk [] rfl (Need.mk (by simp) (Need.mk ⟨by omega, by simp only [maxLen]; omega, PL.flat_one' l⟩ ?_))
    refine NewSl.any (fun p cap' hc => ?_)
    exact FinOb.mk [.slice (locAddr 0 p) (0 + l.length) cap'] [Vec p 163 1 cap' (PL.flat l)] rfl (fun h k => sat_cons (fun h => vec_to rfl) (fun h k => (trivial : sat [] h)) k) ⟨p, cap', by simp [ret1], rfl⟩
/-- Items. -/
def TL : Lay En where
  cells := En.item
  sz := 3
  len _ := rfl
  one e v hv := by
    simp only [En.item, List.mem_cons, List.not_mem_nil, or_false] at hv
    rcases hv with rfl | rfl | rfl <;> rfl
theorem lT (l : List En) : (TL.flat l).length = l.length * 3 := by rw [TL.flat_length]; rfl
structure Sorted (H S : List En) : Prop where
  perm : S.Perm H
  ord : S.Pairwise (fun x y => ltE y x = false)
theorem vecP_at {pl : Plc} {c : Nat} {l : List En} {As : List Asn} {h : HP} (k : sat (Vec pl 163 1 c (PL.flat l) :: As) h) (hne : 0 < l.length) : ∃ b o, pl = .at b o := by
  obtain ⟨x, _, _, hx, _⟩ := k
  exact vec_at (fun e => by
    have := congrArg List.length e
    rw [lP] at this
    have : l.length = 0 := this
    omega) hx
theorem all_spec (b : Nat) (g : Ag) (H : List En) (hl : H.length ≤ 90000) :
    Does Try.prog 63 #[ap b] (fun _ => True) (Hp b g H) (fun v p => ∃ S pl c, v = .slice (locAddr 0 pl) S.length c ∧ Sorted H S ∧ S.length ≤ c ∧ p = Hp b g H ++ [Vec pl 65 3 c (TL.flat S)]) := by
  obtain ⟨most, no, pl0, cap, mb⟩ := g
  refine Does.ofJ Try.func63 Try.call63 rfl [.raw (ap b)] [(0, pl0)] 1 [.asn (Hd b ⟨most, no, pl0, cap, mb⟩ H.length), .vec 0 163 1 cap (PL.flat H), .asn (Es H)] rfl rfl (fun h k => sat_pick 0 rfl (by first | exact fun _ k => k | exact fun _ k => blk_to rfl rfl k | exact fun _ k => vec_to rfl k | exact fun _ k => blk_of rfl rfl k | exact fun _ k => vec_of rfl k | exact fun _ k => blk_of rfl rfl (blk_to rfl rfl k) | exact fun _ k => vec_of rfl (vec_to rfl k) | exact fun _ k => mp_to rfl k | exact fun _ k => mp_of rfl k | exact fun _ k => mp_of rfl (mp_to rfl k)) (fun h k => sat_pick 0 rfl (fun _ k => vec_of rfl k) (fun h k => sat_pick 0 rfl (by first | exact fun _ k => k | exact fun _ k => blk_to rfl rfl k | exact fun _ k => vec_to rfl k | exact fun _ k => blk_of rfl rfl k | exact fun _ k => vec_of rfl k | exact fun _ k => blk_of rfl rfl (blk_to rfl rfl k) | exact fun _ k => vec_of rfl (vec_to rfl k) | exact fun _ k => mp_to rfl k | exact fun _ k => mp_of rfl k | exact fun _ k => mp_of rfl (mp_to rfl k)) (fun h k => sat_nil k) k) k) k) (fun f hR => ?_)
  refine RdRaw.told (.sl 0 0 H.length cap) _ rfl (fun h k => sat_cell 0 rfl (fun x kx => hd_sl x kx) k) ?_
  refine call_ix (clone_spec (locAddr 0 pl0) cap H (by omega)) rfl [] (fun h k => k) (fun f' b' hs kb => vec_reads 1 hs kb rfl rfl) ?_
  rintro v post ⟨pl1, c1, rfl, rfl⟩
  refine ⟨.sl 1 0 H.length c1, (1, pl1) :: _, 2, [.vec 1 163 1 c1 (PL.flat H)], NmExt.push rfl, rfl, (fun h k => sat_pick 0 rfl (fun _ k => vec_of rfl k) (fun h k => sat_nil k) k), ?_⟩
  refine call_ix ((sortP_spec pl1 c1 H (by omega)).sure (Q' := fun v p => ∃ S : List En, v = .tuple #[] ∧ Sorted H S ∧ (0 < S.length → ∃ b o, pl1 = .at b o) ∧ p = [Vec pl1 163 1 c1 (PL.flat S)]) (by
    rintro v p h ⟨S, rfl, h1, h2, rfl⟩ hs
    exact ⟨S, rfl, ⟨h1, h2⟩, fun h0 => vecP_at hs h0, rfl⟩)) rfl [0] (fun h k => sat_pick 0 rfl (fun _ k => vec_to rfl k) (fun h k => sat_pick 0 rfl (by first | exact fun _ k => k | exact fun _ k => blk_to rfl rfl k | exact fun _ k => vec_to rfl k | exact fun _ k => blk_of rfl rfl k | exact fun _ k => vec_of rfl k | exact fun _ k => blk_of rfl rfl (blk_to rfl rfl k) | exact fun _ k => vec_of rfl (vec_to rfl k) | exact fun _ k => mp_to rfl k | exact fun _ k => mp_of rfl k | exact fun _ k => mp_of rfl (mp_to rfl k)) (fun h k => sat_pick 0 rfl (by first | exact fun _ k => k | exact fun _ k => blk_to rfl rfl k | exact fun _ k => vec_to rfl k | exact fun _ k => blk_of rfl rfl k | exact fun _ k => vec_of rfl k | exact fun _ k => blk_of rfl rfl (blk_to rfl rfl k) | exact fun _ k => vec_of rfl (vec_to rfl k) | exact fun _ k => mp_to rfl k | exact fun _ k => mp_of rfl k | exact fun _ k => mp_of rfl (mp_to rfl k)) (fun h k => sat_pick 0 rfl (by first | exact fun _ k => k | exact fun _ k => blk_to rfl rfl k | exact fun _ k => vec_to rfl k | exact fun _ k => blk_of rfl rfl k | exact fun _ k => vec_of rfl k | exact fun _ k => blk_of rfl rfl (blk_to rfl rfl k) | exact fun _ k => vec_of rfl (vec_to rfl k) | exact fun _ k => mp_to rfl k | exact fun _ k => mp_of rfl k | exact fun _ k => mp_of rfl (mp_to rfl k)) (fun h k => sat_nil k) k) k) k) k) (fun f' b' hs kb => fun e he => by
      obtain ⟨i, hi⟩ := List.getElem?_of_mem he
      exact (Seen.at 2 rfl hi kb).sub hs) ?_
  rintro v post ⟨S, rfl, hS, hpl, rfl⟩
  have hlen := hS.perm.length_eq
  refine ⟨.tuple [], _, 2, [.vec 1 163 1 c1 (PL.flat S)], NmExt.refl _, rfl, (fun h k => sat_pick 0 rfl (fun _ k => vec_of rfl k) (fun h k => sat_nil k) k), ?_⟩
  refine LoopOb.mk { z : Nat × Plc × Nat // z.1 ≤ S.length ∧ z.1 ≤ z.2.2 } (fun z => ⟨32, [(4, .sl 2 0 z.1.1 z.1.2.2), (17, .sl 1 0 H.length c1), (18, .int .i64 H.length), (19, .int .i64 z.1.1)], [(2, z.1.2.1), (1, pl1), (0, pl0)], 3, [.asn (Hd b ⟨most, no, pl0, cap, mb⟩ H.length), .vec 0 163 1 cap (PL.flat H), .asn (Es H), .vec 1 163 1 c1 (PL.flat S), .vec 2 65 3 z.1.2.2 (TL.flat (S.take z.1.1))]⟩) (fun z => S.length - z.1.1)
    ⟨(0, .nil, 0), Nat.zero_le _, Nat.le_refl _⟩ ?_ ?_
  · exact Le.of rfl ⟨⟨_, rfl, rfl⟩, ⟨_, rfl, rfl⟩, ⟨_, rfl, rfl⟩, ⟨_, rfl, rfl⟩, trivial⟩ (fun h k => sat_pick 1 rfl (by first | exact fun _ k => k | exact fun _ k => blk_to rfl rfl k | exact fun _ k => vec_to rfl k | exact fun _ k => blk_of rfl rfl k | exact fun _ k => vec_of rfl k | exact fun _ k => blk_of rfl rfl (blk_to rfl rfl k) | exact fun _ k => vec_of rfl (vec_to rfl k) | exact fun _ k => mp_to rfl k | exact fun _ k => mp_of rfl k | exact fun _ k => mp_of rfl (mp_to rfl k)) (fun h k => sat_pick 1 rfl (fun _ k => vec_of rfl (vec_to rfl k)) (fun h k => sat_pick 1 rfl (by first | exact fun _ k => k | exact fun _ k => blk_to rfl rfl k | exact fun _ k => vec_to rfl k | exact fun _ k => blk_of rfl rfl k | exact fun _ k => vec_of rfl k | exact fun _ k => blk_of rfl rfl (blk_to rfl rfl k) | exact fun _ k => vec_of rfl (vec_to rfl k) | exact fun _ k => mp_to rfl k | exact fun _ k => mp_of rfl k | exact fun _ k => mp_of rfl (mp_to rfl k)) (fun h k => sat_pick 0 rfl (fun _ k => vec_of rfl (vec_to rfl k)) (fun h k => sat_add (vec_of rfl vec_emp) ((fun h k => sat_nil k) h k)) k) k) k) k)
  rintro ⟨⟨j, pl, c⟩, hjl, hjc⟩
  simp only at hjl hjc
  refine CondOb.split (fun g => ?_) (fun g => ?_)
  rotate_left
  · have g : j = S.length := by
      have g := of_decide_eq_false g
      have : ¬ (j : Int) < H.length := g
      omega
    subst g
    refine FinOb.mk [.slice (locAddr 0 pl) S.length c] (Hp b ⟨most, no, pl0, cap, mb⟩ H ++ [Vec pl 65 3 c (TL.flat S)]) rfl (fun h k => sat_pick 0 rfl (by first | exact fun _ k => k | exact fun _ k => blk_to rfl rfl k | exact fun _ k => vec_to rfl k | exact fun _ k => blk_of rfl rfl k | exact fun _ k => vec_of rfl k | exact fun _ k => blk_of rfl rfl (blk_to rfl rfl k) | exact fun _ k => vec_of rfl (vec_to rfl k) | exact fun _ k => mp_to rfl k | exact fun _ k => mp_of rfl k | exact fun _ k => mp_of rfl (mp_to rfl k)) (fun h k => sat_pick 0 rfl (fun _ k => vec_to rfl k) (fun h k => sat_pick 0 rfl (by first | exact fun _ k => k | exact fun _ k => blk_to rfl rfl k | exact fun _ k => vec_to rfl k | exact fun _ k => blk_of rfl rfl k | exact fun _ k => vec_of rfl k | exact fun _ k => blk_of rfl rfl (blk_to rfl rfl k) | exact fun _ k => vec_of rfl (vec_to rfl k) | exact fun _ k => mp_to rfl k | exact fun _ k => mp_of rfl k | exact fun _ k => mp_of rfl (mp_to rfl k)) (fun h k => sat_pick 1 rfl (fun _ k => ?_) (fun h k => sat_nil k) k) k) k) k) ⟨S, pl, c, rfl, hS, hjc, rfl⟩
    have kk := vec_to (l := pl) rfl k
    rw [List.take_length] at kk
    exact kk
  have g : j < S.length := by
    have g := of_decide_eq_true g
    have : (j : Int) < H.length := g
    omega
  obtain ⟨pb, po, rfl⟩ := hpl (by omega)
  have hx := List.getElem?_eq_getElem g
  have hxH : S[j] ∈ H := hS.perm.mem_iff.1 (List.getElem_mem g)
  generalize S[j] = x at hx hxH
  obtain ⟨i, hi⟩ := List.getElem?_of_mem hxH
  have ej : IntKind.i64.wrap ((j : Int) + 1) = ((j + 1 : Nat) : Int) := by rw [w64 (by omega) (by omega)]; omega
  refine Need.mk (show (0 : Int) ≤ (j : Int) ∧ (j : Int) < (H.length : Nat) from ⟨by omega, by omega⟩) ?_
  refine RdOb.mk (.raw x.ptr) _ rfl (by rw [Int.toNat_natCast, Nat.zero_add]; exact PL.flat_at hx (j := 0) rfl) ?_
  refine RdF.told x.itsv x.item rfl rfl (fun h k i2 v hv => ?_) ?_
  · have hs := Seen.at 2 rfl hi k
    match i2, hv with
    | 0, hv => cases hv; exact hs.c0
    | 1, hv => cases hv; exact hs.c1
    | 2, hv => cases hv; exact hs.c2
    | n + 3, hv => simp [En.item] at hv
  intro b28
  have hF : (TL.flat (S.take j)).length = j * 3 := by rw [lT, List.length_take]; omega
  refine StOb.mk (TL.cells x) rfl (Need.mk rfl ?_)
  refine Need.mk ⟨by dsimp only; rw [hF]; omega, by dsimp only; omega, hjc⟩ ?_
  refine Need.mk ⟨by dsimp only; omega, by dsimp only; simp only [maxLen]; omega, TL.one _⟩ ?_
  refine NewSl.pos (Nat.succ_pos _) (fun b6 o6 c6 hc6 => ?_)
  have hfl : List.take (j * 3) (List.drop 0 (TL.flat (S.take j))) ++ TL.cells x = TL.flat (S.take (j + 1)) := by
    rw [List.drop_zero, List.take_of_length_le (by rw [hF]; exact Nat.le_refl _), List.take_add_one, hx, TL.flat_append]
    exact congrArg _ (TL.flat_one x).symm
  refine ⟨⟨(j + 1, .at b6 o6, c6), g, hc6⟩, by show S.length - (j + 1) < S.length - j; omega, Le.of rfl ⟨⟨_, rfl, rfl⟩, ⟨_, rfl, rfl⟩, ⟨_, rfl, rfl⟩, ⟨_, rfl, congrArg (fun z => some (Value.int .i64 z)) ej⟩, trivial⟩ (fun h k => sat_pick 2 rfl (by first | exact fun _ k => k | exact fun _ k => blk_to rfl rfl k | exact fun _ k => vec_to rfl k | exact fun _ k => blk_of rfl rfl k | exact fun _ k => vec_of rfl k | exact fun _ k => blk_of rfl rfl (blk_to rfl rfl k) | exact fun _ k => vec_of rfl (vec_to rfl k) | exact fun _ k => mp_to rfl k | exact fun _ k => mp_of rfl k | exact fun _ k => mp_of rfl (mp_to rfl k)) (fun h k => sat_pick 2 rfl (fun _ k => vec_of rfl (vec_to rfl k)) (fun h k => sat_pick 2 rfl (by first | exact fun _ k => k | exact fun _ k => blk_to rfl rfl k | exact fun _ k => vec_to rfl k | exact fun _ k => blk_of rfl rfl k | exact fun _ k => vec_of rfl k | exact fun _ k => blk_of rfl rfl (blk_to rfl rfl k) | exact fun _ k => vec_of rfl (vec_to rfl k) | exact fun _ k => mp_to rfl k | exact fun _ k => mp_of rfl k | exact fun _ k => mp_of rfl (mp_to rfl k)) (fun h k => sat_pick 2 rfl (fun _ k => vec_of rfl (vec_to rfl k)) (fun h k => sat_pick 0 rfl (fun _ k => vec_of rfl (by have k := vec_to (l := .at b6 o6) rfl k; rw [hfl] at k; exact k)) (fun h k => sat_nil k) k) k) k) k) k)⟩
end Go.Proofs.Ytiknkeakielncaa.Ag
