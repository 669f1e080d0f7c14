/- reasm: New, Len, Next, Held. Conditions: none. -/
import Derived.Test.YtiknkeakielncaaRsG
namespace Go.Proofs.Ytiknkeakielncaa.Rs
open Go Go.Proofs Sx
set_option maxRecDepth 100000
set_option linter.unusedVariables false
set_option linter.unusedSimpArgs false
set_option maxHeartbeats 4000000

def newOK (most life : Int) : Bool := decide (1 ≤ most ∧ most ≤ 64 ∧ 1 ≤ life ∧ life ≤ 65535)
theorem new_spec (most life : Int) : Does Try.prog 22 #[.int .i64 most, .int .i64 life] (fun _ => True) []
    (fun v q => (newOK most life = false ∧ v = .tuple #[.pointer none, .int .i64 1] ∧ q = []) ∨ (newOK most life = true ∧ ∃ b mb, v = .tuple #[pp b, .int .i64 0] ∧ q = TbL ⟨b, mb, most, life, 0⟩ [])) := by
  refine Does.ofJ Try.func22 Try.call22 rfl [.int .i64 most, .int .i64 life] [] 0 [] rfl rfl (fun h k => k) (fun f hR => ?_)
  refine RegOb.join Unit (fun _ => ⟨25, [(19, .bool (!newOK most life)), (0, .int .i64 most), (1, .int .i64 life)], [], 0, []⟩) ?_ (fun _ => ?_)
  · refine Br.mk (fun h1 => ?_) (fun h1 => ?_)
    · exact ⟨(), Le.of rfl ⟨⟨_, rfl, (bool_eq (by unfold newOK; simp at h1 ⊢; omega))⟩, ⟨_, rfl, rfl⟩, ⟨_, rfl, rfl⟩, trivial⟩ (fun h k => k)⟩
    refine Br.mk (fun h2 => ?_) (fun h2 => ?_)
    · exact ⟨(), Le.of rfl ⟨⟨_, rfl, (bool_eq (by unfold newOK; simp at h2 ⊢; omega))⟩, ⟨_, rfl, rfl⟩, ⟨_, rfl, rfl⟩, trivial⟩ (fun h k => k)⟩
    refine Br.mk (fun h3 => ?_) (fun h3 => ?_)
    · exact ⟨(), Le.of rfl ⟨⟨_, rfl, (bool_eq (by unfold newOK; simp at h3 ⊢; omega))⟩, ⟨_, rfl, rfl⟩, ⟨_, rfl, rfl⟩, trivial⟩ (fun h k => k)⟩
    · exact ⟨(), Le.of rfl ⟨⟨_, rfl, (bool_eq (by unfold newOK; simp at h1 h2 h3 ⊢; omega))⟩, ⟨_, rfl, rfl⟩, ⟨_, rfl, rfl⟩, trivial⟩ (fun h k => k)⟩
  refine CondOb.split (fun g => ?_) (fun g => ?_)
  · exact FinOb.mk _ [] rfl (fun h k => trivial) (.inl ⟨by simpa using g, rfl, rfl⟩)
  · refine MkMap.mk K4 ?_
    intro mb b
    refine FinOb.mk [pp b, .int .i64 0] (TbL ⟨b, mb, most, life, 0⟩ []) rfl (fun h k => ?_) (.inr ⟨by simpa using g, b, mb, rfl, rfl⟩)
    exact (fun h k => sat_pick 0 rfl (fun _ k9 => blk_to (b := b) rfl rfl k9) (fun h k => sat_pick 0 rfl (fun _ k9 => mp_to rfl k9) (fun h k => sat_add (show Alls [] HP.emp from trivial) ((fun h k => sat_nil k) h k)) k) k) h k
theorem order_nil : Does Try.prog 83 #[.pointer none] (fun _ => True) [] (fun v q => v = .slice none 0 0 ∧ q = []) := by
  refine Does.ofJ Try.func83 Try.call83 rfl [.nilp] [] 0 [] rfl rfl (fun h k => k) (fun f hR => ?_)
  intro b1
  exact FinOb.mk _ [] rfl (fun h k => trivial) ⟨rfl, rfl⟩
theorem len_nil : Does Try.prog 26 #[.pointer none] (fun _ => True) [] (fun v q => v = .int .i64 0 ∧ q = []) := by
  refine Does.ofJ Try.func26 Try.call26 rfl [.nilp] [] 0 [] rfl rfl (fun h k => k) (fun f hR => ?_)
  refine useP .nils order_nil rfl rfl ?_
  exact FinOb.mk _ [] rfl (fun h k => trivial) ⟨rfl, rfl⟩
theorem len_spec (t : Tb) (L : List Kp) (hL : TbOK t L) : Does Try.prog 26 #[pp t.b] (fun _ => True) (TbL t L) (fun v q => v = .int .i64 L.length ∧ q = TbL t L) := by
  refine Does.ofJ Try.func26 Try.call26 rfl [.raw (pp t.b)] [] 0 ((TbL t L).map .asn) rfl rfl (fun h k => k) (fun f hR => ?_)
  refine call_ix (order_spec t L hL) rfl [0, 0, 0] (fun h k => k) (fun f' b' hs kb => trivial) ?_
  rintro v post ⟨pl, c, rfl, hpl, rfl⟩
  refine ⟨.raw (.slice (locAddr 0 pl) L.length c), [], 0, (TbL t L ++ [Vec pl 143 4 c (KL.flat (L.map Kp.k))]).map .asn, NmExt.refl _, rfl, fun h k => k, ?_⟩
  exact FinOb.mk [.int .i64 L.length] (TbL t L) rfl (fun h k => sat_pick 0 rfl (by first | exact fun _ k => k | exact fun _ k => blk_to rfl rfl k | exact fun _ k => vec_to rfl k | exact fun _ k => blk_of rfl rfl k | exact fun _ k => vec_of rfl k | exact fun _ k => blk_of rfl rfl (blk_to rfl rfl k) | exact fun _ k => vec_of rfl (vec_to rfl k) | exact fun _ k => mp_to rfl k | exact fun _ k => mp_of rfl k | exact fun _ k => mp_of rfl (mp_to rfl k)) (fun h k => sat_pick 0 rfl (by first | exact fun _ k => k | exact fun _ k => blk_to rfl rfl k | exact fun _ k => vec_to rfl k | exact fun _ k => blk_of rfl rfl k | exact fun _ k => vec_of rfl k | exact fun _ k => blk_of rfl rfl (blk_to rfl rfl k) | exact fun _ k => vec_of rfl (vec_to rfl k) | exact fun _ k => mp_to rfl k | exact fun _ k => mp_of rfl k | exact fun _ k => mp_of rfl (mp_to rfl k)) (fun h k => sat_pick 0 rfl (by first | exact fun _ k => k | exact fun _ k => blk_to rfl rfl k | exact fun _ k => vec_to rfl k | exact fun _ k => blk_of rfl rfl k | exact fun _ k => vec_of rfl k | exact fun _ k => blk_of rfl rfl (blk_to rfl rfl k) | exact fun _ k => vec_of rfl (vec_to rfl k) | exact fun _ k => mp_to rfl k | exact fun _ k => mp_of rfl k | exact fun _ k => mp_of rfl (mp_to rfl k)) (fun h k => sat_nil k) k) k) k) ⟨rfl, rfl⟩
def nextS (l : List Kp) : Int × Bool := l.foldl (fun a x => if !a.2 || decide (x.p.till < a.1) then (x.p.till, true) else a) (0, false)
theorem next_spec (t : Tb) (L : List Kp) (hL : TbOK t L) : Does Try.prog 50 #[pp t.b] (fun _ => True) (TbL t L) (fun v q => v = .tuple #[.int .i64 (nextS L).1, .bool (nextS L).2] ∧ q = TbL t L) := by
  refine Does.ofJ Try.func50 Try.call50 rfl [.raw (pp t.b)] [] 0 ((TbL t L).map .asn) rfl rfl (fun h k => k) (fun f hR => ?_)
  have hfew := hL.few
  refine call_ix (order_spec t L hL) rfl [0, 0, 0] (fun h k => k) (fun f' b' hs kb => trivial) ?_
  rintro v post ⟨pl, c, rfl, hpl, rfl⟩
  refine ⟨.raw (.slice (locAddr 0 pl) L.length c), [], 0, (TbL t L ++ [Vec pl 143 4 c (KL.flat (L.map Kp.k))]).map .asn, NmExt.refl _, rfl, fun h k => k, ?_⟩
  refine LoopOb.mk { i : Nat // i ≤ L.length } (fun i => ⟨34, [(0, .raw (pp t.b)), (2, .int .i64 (nextS (L.take i.1)).1), (3, .bool (nextS (L.take i.1)).2), (8, .raw (.slice (locAddr 0 pl) L.length c)), (9, .int .i64 L.length), (10, .int .i64 i.1)], [], 0, (TbL t L ++ [Vec pl 143 4 c (KL.flat (L.map Kp.k))]).map .asn⟩) (fun i => L.length - i.1) ⟨0, Nat.zero_le _⟩ ?_ ?_
  · exact Le.of rfl ⟨⟨_, rfl, rfl⟩, ⟨_, rfl, rfl⟩, ⟨_, rfl, rfl⟩, ⟨_, rfl, rfl⟩, ⟨_, rfl, rfl⟩, ⟨_, rfl, rfl⟩, trivial⟩ (fun h k => k)
  rintro ⟨i, hi⟩
  refine CondOb.split (fun g => ?_) (fun g => ?_)
  rotate_left
  · have e : i = L.length := by
      have g := of_decide_eq_false g
      have : ¬ (i : Int) < L.length := g
      omega
    subst e
    exact FinOb.mk [.int .i64 _, .bool _] (TbL t L) rfl (fun h k => sat_pick 0 rfl (by first | exact fun _ k => k | exact fun _ k => blk_to rfl rfl k | exact fun _ k => vec_to rfl k | exact fun _ k => blk_of rfl rfl k | exact fun _ k => vec_of rfl k | exact fun _ k => blk_of rfl rfl (blk_to rfl rfl k) | exact fun _ k => vec_of rfl (vec_to rfl k) | exact fun _ k => mp_to rfl k | exact fun _ k => mp_of rfl k | exact fun _ k => mp_of rfl (mp_to rfl k)) (fun h k => sat_pick 0 rfl (by first | exact fun _ k => k | exact fun _ k => blk_to rfl rfl k | exact fun _ k => vec_to rfl k | exact fun _ k => blk_of rfl rfl k | exact fun _ k => vec_of rfl k | exact fun _ k => blk_of rfl rfl (blk_to rfl rfl k) | exact fun _ k => vec_of rfl (vec_to rfl k) | exact fun _ k => mp_to rfl k | exact fun _ k => mp_of rfl k | exact fun _ k => mp_of rfl (mp_to rfl k)) (fun h k => sat_pick 0 rfl (by first | exact fun _ k => k | exact fun _ k => blk_to rfl rfl k | exact fun _ k => vec_to rfl k | exact fun _ k => blk_of rfl rfl k | exact fun _ k => vec_of rfl k | exact fun _ k => blk_of rfl rfl (blk_to rfl rfl k) | exact fun _ k => vec_of rfl (vec_to rfl k) | exact fun _ k => mp_to rfl k | exact fun _ k => mp_of rfl k | exact fun _ k => mp_of rfl (mp_to rfl k)) (fun h k => sat_nil k) k) k) k) ⟨by rw [List.take_length]; rfl, rfl⟩
  have gi : i < L.length := by
    have g := of_decide_eq_true g
    have : (i : Int) < L.length := g
    omega
  obtain ⟨pb, po, rfl⟩ := hpl (by intro e; rw [e] at gi; simp at gi)
  have hx := List.getElem?_eq_getElem gi
  have hxm : L[i] ∈ L := List.getElem_mem gi
  generalize L[i] = x at hx hxm
  have ei : IntKind.i64.wrap ((i : Int) + 1) = ((i + 1 : Nat) : Int) := by rw [w64 (by omega) (by omega)]; omega
  refine Need.mk (show (0 : Int) ≤ (i : Int) ∧ (i : Int) < (L.length : Nat) from ⟨by omega, by omega⟩) (RawAt.mk pb (po + 0) rfl ?_)
  refine RdF.told x.k.svs x.k.vals rfl rfl (fun h k j v hv => sat_cell 3 rfl (fun y ky => ?_) k) ?_
  · rw [Int.toNat_natCast, Nat.add_assoc]
    have := vec_rd ky (i * 4 + j) v (KL.flat_at (l := L.map Kp.k) (by rw [List.getElem?_map, hx]; rfl) hv)
    exact this
  intro b5
  refine DrawOb.mk [] (.run [0, 1, 2, 3, 4, 5, 6, 7, 8, 9] .nil) (by kernel_rfl) ?_
  refine RdRaw.told (.raw (.map (some t.mb))) _ rfl (fun h k => (tsee_mp 2 1 3 k rfl rfl rfl).c2) ?_
  refine LkF.told K4 (L.map Kp.ent) (fun h k => (tsee_mp 2 1 3 k rfl rfl rfl).mp) ?_
  refine Need.mk keys_law ?_
  refine LkOb.hit (pp x.w) (.raw (pp x.w)) (find_ent hL.keys hxm) rfl ?_
  refine RdRaw.told (.int .i64 x.p.till) _ rfl (fun h k => sat_cell 3 rfl (fun y ky => kps_cell hxm y ky 3 _ rfl) k) ?_
  have hstep : nextS (L.take (i + 1)) = (if !(nextS (L.take i)).2 || decide (x.p.till < (nextS (L.take i)).1) then (x.p.till, true) else nextS (L.take i)) := by
    rw [List.take_add_one, hx]
    unfold nextS
    rw [List.foldl_append]
    rfl
  refine RegOb.go ?_
  refine Br.mk (fun h1 => ?_) (fun h1 => ?_)
  · have h2 : nextS (L.take (i + 1)) = (x.p.till, true) := by rw [hstep, if_pos (by rw [Bool.or_eq_true]; exact .inl h1)]
    exact ⟨⟨i + 1, gi⟩, by show L.length - (i + 1) < L.length - i; omega, Le.of rfl ⟨⟨_, rfl, rfl⟩, ⟨_, rfl, (by rw [h2]; rfl)⟩, ⟨_, rfl, (by rw [h2]; rfl)⟩, ⟨_, rfl, rfl⟩, ⟨_, rfl, rfl⟩, ⟨_, rfl, congrArg (fun z => some (Value.int .i64 z)) ei⟩, trivial⟩ (fun h k => sat_pick 1 rfl (by first | exact fun _ k => k | exact fun _ k => blk_to rfl rfl k | exact fun _ k => vec_to rfl k | exact fun _ k => blk_of rfl rfl k | exact fun _ k => vec_of rfl k | exact fun _ k => blk_of rfl rfl (blk_to rfl rfl k) | exact fun _ k => vec_of rfl (vec_to rfl k) | exact fun _ k => mp_to rfl k | exact fun _ k => mp_of rfl k | exact fun _ k => mp_of rfl (mp_to rfl k)) (fun h k => sat_pick 1 rfl (by first | exact fun _ k => k | exact fun _ k => blk_to rfl rfl k | exact fun _ k => vec_to rfl k | exact fun _ k => blk_of rfl rfl k | exact fun _ k => vec_of rfl k | exact fun _ k => blk_of rfl rfl (blk_to rfl rfl k) | exact fun _ k => vec_of rfl (vec_to rfl k) | exact fun _ k => mp_to rfl k | exact fun _ k => mp_of rfl k | exact fun _ k => mp_of rfl (mp_to rfl k)) (fun h k => sat_pick 1 rfl (by first | exact fun _ k => k | exact fun _ k => blk_to rfl rfl k | exact fun _ k => vec_to rfl k | exact fun _ k => blk_of rfl rfl k | exact fun _ k => vec_of rfl k | exact fun _ k => blk_of rfl rfl (blk_to rfl rfl k) | exact fun _ k => vec_of rfl (vec_to rfl k) | exact fun _ k => mp_to rfl k | exact fun _ k => mp_of rfl k | exact fun _ k => mp_of rfl (mp_to rfl k)) (fun h k => sat_pick 1 rfl (by first | exact fun _ k => k | exact fun _ k => blk_to rfl rfl k | exact fun _ k => vec_to rfl k | exact fun _ k => blk_of rfl rfl k | exact fun _ k => vec_of rfl k | exact fun _ k => blk_of rfl rfl (blk_to rfl rfl k) | exact fun _ k => vec_of rfl (vec_to rfl k) | exact fun _ k => mp_to rfl k | exact fun _ k => mp_of rfl k | exact fun _ k => mp_of rfl (mp_to rfl k)) (fun h k => sat_nil k) k) k) k) k)⟩
  refine CondOb.split (fun g2 => ?_) (fun g2 => ?_)
  · have h2 : nextS (L.take (i + 1)) = (x.p.till, true) := by rw [hstep, if_pos (by rw [Bool.or_eq_true]; exact .inr g2)]
    exact ⟨⟨i + 1, gi⟩, by show L.length - (i + 1) < L.length - i; omega, Le.of rfl ⟨⟨_, rfl, rfl⟩, ⟨_, rfl, (by rw [h2]; rfl)⟩, ⟨_, rfl, (by rw [h2]; rfl)⟩, ⟨_, rfl, rfl⟩, ⟨_, rfl, rfl⟩, ⟨_, rfl, congrArg (fun z => some (Value.int .i64 z)) ei⟩, trivial⟩ (fun h k => sat_pick 1 rfl (by first | exact fun _ k => k | exact fun _ k => blk_to rfl rfl k | exact fun _ k => vec_to rfl k | exact fun _ k => blk_of rfl rfl k | exact fun _ k => vec_of rfl k | exact fun _ k => blk_of rfl rfl (blk_to rfl rfl k) | exact fun _ k => vec_of rfl (vec_to rfl k) | exact fun _ k => mp_to rfl k | exact fun _ k => mp_of rfl k | exact fun _ k => mp_of rfl (mp_to rfl k)) (fun h k => sat_pick 1 rfl (by first | exact fun _ k => k | exact fun _ k => blk_to rfl rfl k | exact fun _ k => vec_to rfl k | exact fun _ k => blk_of rfl rfl k | exact fun _ k => vec_of rfl k | exact fun _ k => blk_of rfl rfl (blk_to rfl rfl k) | exact fun _ k => vec_of rfl (vec_to rfl k) | exact fun _ k => mp_to rfl k | exact fun _ k => mp_of rfl k | exact fun _ k => mp_of rfl (mp_to rfl k)) (fun h k => sat_pick 1 rfl (by first | exact fun _ k => k | exact fun _ k => blk_to rfl rfl k | exact fun _ k => vec_to rfl k | exact fun _ k => blk_of rfl rfl k | exact fun _ k => vec_of rfl k | exact fun _ k => blk_of rfl rfl (blk_to rfl rfl k) | exact fun _ k => vec_of rfl (vec_to rfl k) | exact fun _ k => mp_to rfl k | exact fun _ k => mp_of rfl k | exact fun _ k => mp_of rfl (mp_to rfl k)) (fun h k => sat_pick 1 rfl (by first | exact fun _ k => k | exact fun _ k => blk_to rfl rfl k | exact fun _ k => vec_to rfl k | exact fun _ k => blk_of rfl rfl k | exact fun _ k => vec_of rfl k | exact fun _ k => blk_of rfl rfl (blk_to rfl rfl k) | exact fun _ k => vec_of rfl (vec_to rfl k) | exact fun _ k => mp_to rfl k | exact fun _ k => mp_of rfl k | exact fun _ k => mp_of rfl (mp_to rfl k)) (fun h k => sat_nil k) k) k) k) k)⟩
  · have h2 : nextS (L.take (i + 1)) = nextS (L.take i) := by
      rw [hstep, if_neg]
      rw [Bool.or_eq_true]
      rintro (h | h)
      · rw [show (!(nextS (L.take i)).2) = false from h1] at h; cases h
      · rw [show decide (x.p.till < (nextS (L.take i)).1) = false from g2] at h; cases h
    exact ⟨⟨i + 1, gi⟩, by show L.length - (i + 1) < L.length - i; omega, Le.of rfl ⟨⟨_, rfl, rfl⟩, ⟨_, rfl, (by rw [h2]; rfl)⟩, ⟨_, rfl, (by rw [h2]; rfl)⟩, ⟨_, rfl, rfl⟩, ⟨_, rfl, rfl⟩, ⟨_, rfl, congrArg (fun z => some (Value.int .i64 z)) ei⟩, trivial⟩ (fun h k => sat_pick 1 rfl (by first | exact fun _ k => k | exact fun _ k => blk_to rfl rfl k | exact fun _ k => vec_to rfl k | exact fun _ k => blk_of rfl rfl k | exact fun _ k => vec_of rfl k | exact fun _ k => blk_of rfl rfl (blk_to rfl rfl k) | exact fun _ k => vec_of rfl (vec_to rfl k) | exact fun _ k => mp_to rfl k | exact fun _ k => mp_of rfl k | exact fun _ k => mp_of rfl (mp_to rfl k)) (fun h k => sat_pick 1 rfl (by first | exact fun _ k => k | exact fun _ k => blk_to rfl rfl k | exact fun _ k => vec_to rfl k | exact fun _ k => blk_of rfl rfl k | exact fun _ k => vec_of rfl k | exact fun _ k => blk_of rfl rfl (blk_to rfl rfl k) | exact fun _ k => vec_of rfl (vec_to rfl k) | exact fun _ k => mp_to rfl k | exact fun _ k => mp_of rfl k | exact fun _ k => mp_of rfl (mp_to rfl k)) (fun h k => sat_pick 1 rfl (by first | exact fun _ k => k | exact fun _ k => blk_to rfl rfl k | exact fun _ k => vec_to rfl k | exact fun _ k => blk_of rfl rfl k | exact fun _ k => vec_of rfl k | exact fun _ k => blk_of rfl rfl (blk_to rfl rfl k) | exact fun _ k => vec_of rfl (vec_to rfl k) | exact fun _ k => mp_to rfl k | exact fun _ k => mp_of rfl k | exact fun _ k => mp_of rfl (mp_to rfl k)) (fun h k => sat_pick 1 rfl (by first | exact fun _ k => k | exact fun _ k => blk_to rfl rfl k | exact fun _ k => vec_to rfl k | exact fun _ k => blk_of rfl rfl k | exact fun _ k => vec_of rfl k | exact fun _ k => blk_of rfl rfl (blk_to rfl rfl k) | exact fun _ k => vec_of rfl (vec_to rfl k) | exact fun _ k => mp_to rfl k | exact fun _ k => mp_of rfl k | exact fun _ k => mp_of rfl (mp_to rfl k)) (fun h k => sat_nil k) k) k) k) k)⟩
theorem next_nil : Does Try.prog 50 #[.pointer none] (fun _ => True) [] (fun v q => v = .tuple #[.int .i64 0, .bool false] ∧ q = []) := by
  refine Does.ofJ Try.func50 Try.call50 rfl [.nilp] [] 0 [] rfl rfl (fun h k => k) (fun f hR => ?_)
  refine useP .nils order_nil rfl rfl ?_
  refine LoopOb.mk Unit (fun _ => ⟨34, [(0, .nilp), (2, .int .i64 0), (3, .ff), (8, .nils), (9, .int .i64 0), (10, .int .i64 0)], [], 0, []⟩) (fun _ => 0) () ?_ (fun _ => ?_)
  · exact Le.of rfl ⟨⟨_, rfl, rfl⟩, ⟨_, rfl, rfl⟩, ⟨_, rfl, rfl⟩, ⟨_, rfl, rfl⟩, ⟨_, rfl, rfl⟩, ⟨_, rfl, rfl⟩, trivial⟩ (fun h k => k)
  refine CondOb.split (fun g => absurd g (by decide)) (fun g => ?_)
  exact FinOb.mk [.int .i64 0, .bool false] [] rfl (fun h k => trivial) ⟨rfl, rfl⟩
theorem held_nil : Does Try.prog 52 #[.pointer none] (fun _ => True) [] (fun v q => v = .int .i64 0 ∧ q = []) := by
  refine Does.ofJ Try.func52 Try.call52 rfl [.nilp] [] 0 [] rfl rfl (fun h k => k) (fun f hR => ?_)
  refine useP .nils order_nil rfl rfl ?_
  refine LoopOb.mk Unit (fun _ => ⟨37, [(0, .nilp), (3, .int .i64 0), (9, .nils), (10, .int .i64 0), (11, .int .i64 0)], [], 0, []⟩) (fun _ => 0) () ?_ (fun _ => ?_)
  · exact Le.of rfl ⟨⟨_, rfl, rfl⟩, ⟨_, rfl, rfl⟩, ⟨_, rfl, rfl⟩, ⟨_, rfl, rfl⟩, ⟨_, rfl, rfl⟩, trivial⟩ (fun h k => k)
  refine CondOb.split (fun g => absurd g (by decide)) (fun g => ?_)
  exact FinOb.mk [.int .i64 0] [] rfl (fun h k => trivial) ⟨rfl, rfl⟩
theorem expire_nil (now : Int) : Does Try.prog 46 #[.pointer none, .int .i64 now] (fun _ => True) [] (fun v q => v = .slice none 0 0 ∧ q = []) := by
  refine Does.ofJ Try.func46 Try.call46 rfl [.nilp, .int .i64 now] [] 0 [] rfl rfl (fun h k => k) (fun f hR => ?_)
  refine useP .nils order_nil rfl rfl ?_
  refine LoopOb.mk Unit (fun _ => ⟨49, [(0, .nilp), (1, .int .i64 now), (5, .nils), (10, .nils), (11, .int .i64 0), (12, .int .i64 0)], [], 0, []⟩) (fun _ => 0) () ?_ (fun _ => ?_)
  · exact Le.of rfl ⟨⟨_, rfl, rfl⟩, ⟨_, rfl, rfl⟩, ⟨_, rfl, rfl⟩, ⟨_, rfl, rfl⟩, ⟨_, rfl, rfl⟩, ⟨_, rfl, rfl⟩, trivial⟩ (fun h k => k)
  refine CondOb.split (fun g => absurd g (by decide)) (fun g => ?_)
  exact FinOb.mk [.slice none 0 0] [] rfl (fun h k => trivial) ⟨rfl, rfl⟩
theorem add_nil (now : Int) (i : Ip) : Does Try.prog 24 #[.pointer none, .int .i64 now, .agg i.vals.toArray] (fun _ => True) [] (fun v q => v = .tuple #[.agg (Ip.mk ⟨⟨0, 0, false, false, 0, 0, 0, 0, 0⟩, [], []⟩ none 0 none 0).vals.toArray, .bool false, .int .i64 7] ∧ q = []) := by
  refine Does.ofJ Try.func24 Try.call24 rfl [.nilp, .int .i64 now, .agg i.svs] [] 0 [] rfl rfl (fun h k => k) (fun f hR => ?_)
  intro b1 b2
  exact FinOb.mk [.agg (Ip.mk ⟨⟨0, 0, false, false, 0, 0, 0, 0, 0⟩, [], []⟩ none 0 none 0).vals.toArray, .bool false, .int .i64 7] [] rfl (fun h k => trivial) ⟨rfl, rfl⟩
theorem kps_list {L : List Kp} {x : Kp} (hx : x ∈ L) (h : HP) (k : Alls (L.map Kp.A) h) : Reads h (locAddr 0 x.p.pl) (SrL.flat x.p.ll) := by
  obtain ⟨i, hi⟩ := List.getElem?_of_mem hx
  obtain ⟨y, hy, ky⟩ := sat_sub (n := i) (A := x.A) (by rw [List.getElem?_map, hi]; rfl) (show sat (L.map Kp.A) h from k)
  refine rd_sub hy ?_
  obtain ⟨a, b, s, ka, _⟩ := ky
  refine rd_sub (fun r q hq => s.get hq) ?_
  obtain ⟨z, hz, kz⟩ := sat_sub (n := 1) (A := Vec x.p.pl 148 2 x.p.cap (SrL.flat x.p.ll)) rfl ka
  exact rd_sub hz (vec_reads' kz)
theorem sum_le : ∀ {l : List Int} {m : Int}, 0 ≤ m → (∀ x ∈ l, 0 ≤ x ∧ x ≤ m) → 0 ≤ l.sum ∧ l.sum ≤ l.length * m
  | [], m, _, _ => by simp
  | x :: l, m, h0, h => by
    have h1 := h x (by simp)
    have h2 := sum_le h0 (fun y hy => h y (List.mem_cons_of_mem _ hy))
    rw [List.sum_cons, List.length_cons]
    have e : ((l.length + 1 : Nat) : Int) * m = l.length * m + m := by rw [Int.natCast_add, Int.add_mul]; omega
    omega
/-- How many bytes. -/
def heldP (l : List Sr) : Int := (l.map fun s => (s.bs.length : Int)).sum
def heldS (l : List Kp) : Int := (l.map fun x => heldP x.p.ll).sum
theorem held_spec (t : Tb) (L : List Kp) (hL : TbOK t L) (hb : ∀ x ∈ L, x.p.ll.length ≤ 100000 ∧ ∀ s ∈ x.p.ll, s.bs.length ≤ 70000) : Does Try.prog 52 #[pp t.b] (fun _ => True) (TbL t L) (fun v q => v = .int .i64 (heldS L) ∧ q = TbL t L) := by
  refine Does.ofJ Try.func52 Try.call52 rfl [.raw (pp t.b)] [] 0 ((TbL t L).map .asn) rfl rfl (fun h k => k) (fun f hR => ?_)
  have hfew := hL.few
  refine call_ix (order_spec t L hL) rfl [0, 0, 0] (fun h k => k) (fun f' b' hs kb => trivial) ?_
  rintro v post ⟨pl, c, rfl, hpl, rfl⟩
  refine ⟨.raw (.slice (locAddr 0 pl) L.length c), [], 0, (TbL t L ++ [Vec pl 143 4 c (KL.flat (L.map Kp.k))]).map .asn, NmExt.refl _, rfl, fun h k => k, ?_⟩
  refine LoopOb.mk { i : Nat // i ≤ L.length } (fun i => ⟨37, [(0, .raw (pp t.b)), (3, .int .i64 (heldS (L.take i.1))), (9, .raw (.slice (locAddr 0 pl) L.length c)), (10, .int .i64 L.length), (11, .int .i64 i.1)], [], 0, (TbL t L ++ [Vec pl 143 4 c (KL.flat (L.map Kp.k))]).map .asn⟩) (fun i => L.length - i.1) ⟨0, Nat.zero_le _⟩ ?_ ?_
  · exact Le.of rfl ⟨⟨_, rfl, rfl⟩, ⟨_, rfl, rfl⟩, ⟨_, rfl, rfl⟩, ⟨_, rfl, rfl⟩, ⟨_, rfl, rfl⟩, trivial⟩ (fun h k => k)
  rintro ⟨i, hi⟩
  refine CondOb.split (fun g => ?_) (fun g => ?_)
  rotate_left
  · have e : i = L.length := by
      have g := of_decide_eq_false g
      have : ¬ (i : Int) < L.length := g
      omega
    subst e
    exact FinOb.mk [.int .i64 _] (TbL t L) rfl (fun h k => sat_pick 0 rfl (by first | exact fun _ k => k | exact fun _ k => blk_to rfl rfl k | exact fun _ k => vec_to rfl k | exact fun _ k => blk_of rfl rfl k | exact fun _ k => vec_of rfl k | exact fun _ k => blk_of rfl rfl (blk_to rfl rfl k) | exact fun _ k => vec_of rfl (vec_to rfl k) | exact fun _ k => mp_to rfl k | exact fun _ k => mp_of rfl k | exact fun _ k => mp_of rfl (mp_to rfl k)) (fun h k => sat_pick 0 rfl (by first | exact fun _ k => k | exact fun _ k => blk_to rfl rfl k | exact fun _ k => vec_to rfl k | exact fun _ k => blk_of rfl rfl k | exact fun _ k => vec_of rfl k | exact fun _ k => blk_of rfl rfl (blk_to rfl rfl k) | exact fun _ k => vec_of rfl (vec_to rfl k) | exact fun _ k => mp_to rfl k | exact fun _ k => mp_of rfl k | exact fun _ k => mp_of rfl (mp_to rfl k)) (fun h k => sat_pick 0 rfl (by first | exact fun _ k => k | exact fun _ k => blk_to rfl rfl k | exact fun _ k => vec_to rfl k | exact fun _ k => blk_of rfl rfl k | exact fun _ k => vec_of rfl k | exact fun _ k => blk_of rfl rfl (blk_to rfl rfl k) | exact fun _ k => vec_of rfl (vec_to rfl k) | exact fun _ k => mp_to rfl k | exact fun _ k => mp_of rfl k | exact fun _ k => mp_of rfl (mp_to rfl k)) (fun h k => sat_nil k) k) k) k) ⟨by rw [List.take_length]; rfl, rfl⟩
  have gi : i < L.length := by
    have g := of_decide_eq_true g
    have : (i : Int) < L.length := g
    omega
  obtain ⟨pb, po, rfl⟩ := hpl (by intro e; rw [e] at gi; simp at gi)
  have hx := List.getElem?_eq_getElem gi
  have hxm : L[i] ∈ L := List.getElem_mem gi
  generalize L[i] = x at hx hxm
  have ei : IntKind.i64.wrap ((i : Int) + 1) = ((i + 1 : Nat) : Int) := by rw [w64 (by omega) (by omega)]; omega
  refine Need.mk (show (0 : Int) ≤ (i : Int) ∧ (i : Int) < (L.length : Nat) from ⟨by omega, by omega⟩) (RawAt.mk pb (po + 0) rfl ?_)
  refine RdF.told x.k.svs x.k.vals rfl rfl (fun h k j v hv => sat_cell 3 rfl (fun y ky => ?_) k) ?_
  · rw [Int.toNat_natCast, Nat.add_assoc]
    have := vec_rd ky (i * 4 + j) v (KL.flat_at (l := L.map Kp.k) (by rw [List.getElem?_map, hx]; rfl) hv)
    exact this
  intro b5
  refine DrawOb.mk [(5, [10])] (.run [0, 1, 2, 3, 4, 10, 5, 6, 7, 8, 9] .nil) (by kernel_rfl) ?_
  refine RdRaw.told (.raw (.map (some t.mb))) _ rfl (fun h k => (tsee_mp 2 1 3 k rfl rfl rfl).c2) ?_
  refine LkF.told K4 (L.map Kp.ent) (fun h k => (tsee_mp 2 1 3 k rfl rfl rfl).mp) ?_
  refine Need.mk keys_law ?_
  refine LkOb.hit (pp x.w) (.raw (pp x.w)) (find_ent hL.keys hxm) rfl ?_
  refine RdRaw.told (.raw (.slice (locAddr 0 x.p.pl) x.p.ll.length x.p.cap)) _ rfl (fun h k => sat_cell 3 rfl (fun y ky => kps_cell hxm y ky 0 _ rfl) k) ?_
  have hxb := hb x hxm
  have hP : ∀ l : List Sr, l.length ≤ 100000 → (∀ s ∈ l, s.bs.length ≤ 70000) → 0 ≤ heldP l ∧ heldP l ≤ 7000000000 := by
    intro l h1 h2
    have h3 := sum_le (l := l.map fun s => (s.bs.length : Int)) (m := 70000) (by omega) (fun y hy => by
      obtain ⟨s, hs, rfl⟩ := List.mem_map.1 hy
      have := h2 s hs
      omega)
    rw [List.length_map] at h3
    unfold heldP
    omega
  have hS : 0 ≤ heldS (L.take i) ∧ heldS (L.take i) ≤ 7000000000000 := by
    have h3 := sum_le (l := (L.take i).map fun x => heldP x.p.ll) (m := 7000000000) (by omega) (fun y hy => by
      obtain ⟨z, hz, rfl⟩ := List.mem_map.1 hy
      have hz := hb z (List.mem_of_mem_take hz)
      exact hP _ hz.1 hz.2)
    rw [List.length_map, List.length_take] at h3
    unfold heldS
    omega
  refine LoopOb.mk { j : Nat // j ≤ x.p.ll.length } (fun j => ⟨37, [(0, .raw (pp t.b)), (3, .int .i64 (heldS (L.take i) + heldP (x.p.ll.take j.1))), (9, .raw (.slice (locAddr 0 (.at pb po)) L.length c)), (10, .int .i64 L.length), (11, .int .i64 i), (23, .raw (.slice (locAddr 0 x.p.pl) x.p.ll.length x.p.cap)), (24, .int .i64 x.p.ll.length), (25, .int .i64 j.1)], [], 0, (TbL t L ++ [Vec (.at pb po) 143 4 c (KL.flat (L.map Kp.k))]).map .asn⟩) (fun j => x.p.ll.length - j.1) ⟨0, Nat.zero_le _⟩ ?_ ?_
  · exact Le.of rfl ⟨⟨_, rfl, rfl⟩, ⟨_, rfl, (by rw [show heldS (L.take i) + heldP (x.p.ll.take 0) = heldS (L.take i) from Int.add_zero _]; rfl)⟩, ⟨_, rfl, rfl⟩, ⟨_, rfl, rfl⟩, ⟨_, rfl, rfl⟩, ⟨_, rfl, rfl⟩, ⟨_, rfl, rfl⟩, ⟨_, rfl, rfl⟩, trivial⟩ (fun h k => sat_pick 1 rfl (by first | exact fun _ k => k | exact fun _ k => blk_to rfl rfl k | exact fun _ k => vec_to rfl k | exact fun _ k => blk_of rfl rfl k | exact fun _ k => vec_of rfl k | exact fun _ k => blk_of rfl rfl (blk_to rfl rfl k) | exact fun _ k => vec_of rfl (vec_to rfl k) | exact fun _ k => mp_to rfl k | exact fun _ k => mp_of rfl k | exact fun _ k => mp_of rfl (mp_to rfl k)) (fun h k => sat_pick 1 rfl (by first | exact fun _ k => k | exact fun _ k => blk_to rfl rfl k | exact fun _ k => vec_to rfl k | exact fun _ k => blk_of rfl rfl k | exact fun _ k => vec_of rfl k | exact fun _ k => blk_of rfl rfl (blk_to rfl rfl k) | exact fun _ k => vec_of rfl (vec_to rfl k) | exact fun _ k => mp_to rfl k | exact fun _ k => mp_of rfl k | exact fun _ k => mp_of rfl (mp_to rfl k)) (fun h k => sat_pick 1 rfl (by first | exact fun _ k => k | exact fun _ k => blk_to rfl rfl k | exact fun _ k => vec_to rfl k | exact fun _ k => blk_of rfl rfl k | exact fun _ k => vec_of rfl k | exact fun _ k => blk_of rfl rfl (blk_to rfl rfl k) | exact fun _ k => vec_of rfl (vec_to rfl k) | exact fun _ k => mp_to rfl k | exact fun _ k => mp_of rfl k | exact fun _ k => mp_of rfl (mp_to rfl k)) (fun h k => sat_pick 1 rfl (by first | exact fun _ k => k | exact fun _ k => blk_to rfl rfl k | exact fun _ k => vec_to rfl k | exact fun _ k => blk_of rfl rfl k | exact fun _ k => vec_of rfl k | exact fun _ k => blk_of rfl rfl (blk_to rfl rfl k) | exact fun _ k => vec_of rfl (vec_to rfl k) | exact fun _ k => mp_to rfl k | exact fun _ k => mp_of rfl k | exact fun _ k => mp_of rfl (mp_to rfl k)) (fun h k => sat_nil k) k) k) k) k)
  rintro ⟨j, hj⟩
  refine CondOb.split (fun g => ?_) (fun g => ?_)
  rotate_left
  · have e : j = x.p.ll.length := by
      have g := of_decide_eq_false g
      have : ¬ (j : Int) < x.p.ll.length := g
      omega
    subst e
    have hstep : heldS (L.take (i + 1)) = heldS (L.take i) + heldP x.p.ll := by
      rw [List.take_add_one, hx]
      unfold heldS
      rw [List.map_append, List.sum_append]
      simp
    exact ⟨⟨i + 1, gi⟩, by show L.length - (i + 1) < L.length - i; omega, Le.of rfl ⟨⟨_, rfl, rfl⟩, ⟨_, rfl, (by rw [hstep, List.take_length])⟩, ⟨_, rfl, rfl⟩, ⟨_, rfl, rfl⟩, ⟨_, rfl, congrArg (fun z => some (Value.int .i64 z)) ei⟩, trivial⟩ (fun h k => k)⟩
  have gj : j < x.p.ll.length := by
    have g := of_decide_eq_true g
    have : (j : Int) < x.p.ll.length := g
    omega
  have hs := List.getElem?_eq_getElem gj
  have hsm : x.p.ll[j] ∈ x.p.ll := List.getElem_mem gj
  generalize x.p.ll[j] = s at hs hsm
  obtain ⟨sb, so, hA⟩ := (hL.ok x hxm).at_ (by intro e; rw [e] at gj; simp at gj)
  have ej : IntKind.i64.wrap ((j : Int) + 1) = ((j + 1 : Nat) : Int) := by rw [w64 (by omega) (by omega)]; omega
  refine Need.mk (show (0 : Int) ≤ (j : Int) ∧ (j : Int) < (x.p.ll.length : Nat) from ⟨by omega, by omega⟩) (RawAt.mk sb (so + 0) (by rw [hA]; rfl) ?_)
  refine RdF.told s.svs s.vals rfl rfl (fun h k q v hv => sat_cell 2 rfl (fun y ky => ?_) k) ?_
  · rw [Int.toNat_natCast, Nat.add_assoc]
    obtain ⟨b', o', h1, h2⟩ := kps_list hxm y ky (j * 2 + q) v (SrL.flat_at hs hv)
    rw [hA] at h1
    cases h1
    exact h2
  intro b7
  have hjs : heldP (x.p.ll.take (j + 1)) = heldP (x.p.ll.take j) + s.bs.length := by
    rw [List.take_add_one, hs]
    unfold heldP
    rw [List.map_append, List.sum_append]
    simp
  have hPj := hP (x.p.ll.take j) (by rw [List.length_take]; omega) (fun s hs => hxb.2 s (List.mem_of_mem_take hs))
  have hsl := hxb.2 s hsm
  exact ⟨⟨j + 1, gj⟩, by show x.p.ll.length - (j + 1) < x.p.ll.length - j; omega, Le.of rfl ⟨⟨_, rfl, rfl⟩, ⟨_, rfl, (by rw [hjs]; show some (Value.int .i64 (IntKind.i64.wrap (heldS (L.take i) + heldP (x.p.ll.take j) + s.bs.length))) = _; rw [w64 (by omega) (by omega), Int.add_assoc]; rfl)⟩, ⟨_, rfl, rfl⟩, ⟨_, rfl, rfl⟩, ⟨_, rfl, rfl⟩, ⟨_, rfl, rfl⟩, ⟨_, rfl, rfl⟩, ⟨_, rfl, congrArg (fun z => some (Value.int .i64 z)) ej⟩, trivial⟩ (fun h k => sat_pick 1 rfl (by first | exact fun _ k => k | exact fun _ k => blk_to rfl rfl k | exact fun _ k => vec_to rfl k | exact fun _ k => blk_of rfl rfl k | exact fun _ k => vec_of rfl k | exact fun _ k => blk_of rfl rfl (blk_to rfl rfl k) | exact fun _ k => vec_of rfl (vec_to rfl k) | exact fun _ k => mp_to rfl k | exact fun _ k => mp_of rfl k | exact fun _ k => mp_of rfl (mp_to rfl k)) (fun h k => sat_pick 1 rfl (by first | exact fun _ k => k | exact fun _ k => blk_to rfl rfl k | exact fun _ k => vec_to rfl k | exact fun _ k => blk_of rfl rfl k | exact fun _ k => vec_of rfl k | exact fun _ k => blk_of rfl rfl (blk_to rfl rfl k) | exact fun _ k => vec_of rfl (vec_to rfl k) | exact fun _ k => mp_to rfl k | exact fun _ k => mp_of rfl k | exact fun _ k => mp_of rfl (mp_to rfl k)) (fun h k => sat_pick 1 rfl (by first | exact fun _ k => k | exact fun _ k => blk_to rfl rfl k | exact fun _ k => vec_to rfl k | exact fun _ k => blk_of rfl rfl k | exact fun _ k => vec_of rfl k | exact fun _ k => blk_of rfl rfl (blk_to rfl rfl k) | exact fun _ k => vec_of rfl (vec_to rfl k) | exact fun _ k => mp_to rfl k | exact fun _ k => mp_of rfl k | exact fun _ k => mp_of rfl (mp_to rfl k)) (fun h k => sat_pick 1 rfl (by first | exact fun _ k => k | exact fun _ k => blk_to rfl rfl k | exact fun _ k => vec_to rfl k | exact fun _ k => blk_of rfl rfl k | exact fun _ k => vec_of rfl k | exact fun _ k => blk_of rfl rfl (blk_to rfl rfl k) | exact fun _ k => vec_of rfl (vec_to rfl k) | exact fun _ k => mp_to rfl k | exact fun _ k => mp_of rfl k | exact fun _ k => mp_of rfl (mp_to rfl k)) (fun h k => sat_nil k) k) k) k) k)⟩
end Go.Proofs.Ytiknkeakielncaa.Rs
