/- agenda: the reference's All. Conditions: none. -/
import Derived.Test.YtiknkeakielncaaAgP
namespace Go.Proofs.Ytiknkeakielncaa.Ag
open Go Go.Proofs Sx
set_option maxRecDepth 100000
set_option linter.unusedVariables false
set_option linter.unusedSimpArgs false
set_option maxHeartbeats 4000000

theorem NewSl.both {tot : Nat} {φ Y γ : Prop} {Z X : Plc → Nat → Prop} (k : ∀ l cap, tot ≤ cap → (0 < tot → ∃ b o, l = .at b o) → X l cap) : NewSl (φ := φ) (Y := Y) (γ := γ) (Z := Z) tot X := by
  rcases Nat.eq_zero_or_pos tot with h | h
  · exact .any fun l c hc => k l c hc (fun h2 => by omega)
  · exact .pos h fun b o c hc => k _ c hc (fun _ => ⟨b, o, rfl⟩)
def before (a x : En) : Prop := a.at_ < x.at_ ∨ (a.at_ = x.at_ ∧ a.rank ≤ x.rank)
theorem before_le {a x : En} (h : before a x) (hn : a.no < x.no) : LeE a x := by
  unfold before at h; unfold LeE LtE; omega
theorem not_before {a x : En} (h : ¬ before a x) : LtE x a := by
  unfold before at h; unfold LtE; omega
theorem ins_sorted {H out : List En} {x : En} {k : Nat} (hs : Sorted H out) (hno : ∀ a ∈ H, a.no < x.no) (hk : k ≤ out.length) (hb : ∀ a ∈ out.take k, before a x) (hn : ∀ a, out[k]? = some a → ¬ before a x) :
    Sorted (H ++ [x]) (out.take k ++ [x] ++ out.drop k) := by
  have hout : ∀ a ∈ out, a.no < x.no := fun a ha => hno a (hs.perm.mem_iff.1 ha)
  have ho := hs.ord
  have hsplit : out = out.take k ++ out.drop k := (List.take_append_drop k out).symm
  have ho2 : (out.take k ++ out.drop k).Pairwise (fun x y => ltE y x = false) := by rw [← hsplit]; exact ho
  rw [List.pairwise_append] at ho2
  refine ⟨?_, ?_⟩
  · rw [List.append_assoc]
    have h1 : (out.take k ++ ([x] ++ out.drop k)).Perm (x :: (out.take k ++ out.drop k)) := List.perm_middle
    refine h1.trans ?_
    rw [← hsplit]
    exact (hs.perm.cons x).trans (List.perm_append_singleton x H).symm
  · rw [List.append_assoc, List.pairwise_append]
    refine ⟨ho2.1, ?_, fun a ha c hc => ?_⟩
    · rw [List.singleton_append, List.pairwise_cons]
      refine ⟨fun c hc => ?_, ho2.2.1⟩
      cases hd : out.drop k with
      | nil => rw [hd] at hc; simp at hc
      | cons y D =>
        have hy : out[k]? = some y := by
          have : (out.drop k)[0]? = some y := by rw [hd]; rfl
          rw [List.getElem?_drop] at this
          simpa using this
        have hxy := (not_before (hn y hy)).le
        rw [hd] at hc
        rcases List.mem_cons.1 hc with rfl | hc
        · exact ltE_no.2 hxy
        · have h3 := ho2.2.1
          rw [hd, List.pairwise_cons] at h3
          exact ltE_no.2 (hxy.trans (ltE_no.1 (h3.1 c hc)))
    · rcases List.mem_append.1 hc with hc | hc
      · simp at hc; subst hc
        exact ltE_no.2 (before_le (hb a ha) (hout a (List.mem_of_mem_take ha)))
      · exact ho2.2.2 a ha c hc
theorem vec_cast {l : Plc} {t : TypeId} {sz cap : Nat} {xs ys : List Value} {h : HP} (e : xs = ys) (k : Vec l t sz cap xs h) : Vec l t sz cap ys h := e ▸ k
theorem ref_all (A : Option Addr) (cp : Nat) (l : List En) (hn : l.Pairwise (fun a b => a.no < b.no)) (hl : l.length ≤ 90000) :
    Does Try.prog 61 #[.slice A l.length cp] (fun f => Reads f A (TL.flat l)) [] (fun v p => ∃ S pl c, v = .slice (locAddr 0 pl) S.length c ∧ Sorted l S ∧ S.length ≤ c ∧ (0 < S.length → ∃ b o, pl = .at b o) ∧ p = [Vec pl 65 3 c (TL.flat S)]) := by
  refine Does.ofJ Try.func61 Try.call61 rfl [.raw (.slice A l.length cp)] [] 0 [] rfl rfl (fun h k => k) (fun f hR => ?_)
  refine LoopOb.mk { z : Nat × List En × Plc × Nat // z.1 ≤ l.length ∧ Sorted (l.take z.1) z.2.1 ∧ z.2.1.length ≤ z.2.2.2 ∧ (0 < z.2.1.length → ∃ b o, z.2.2.1 = .at b o) } (fun z => ⟨76, [(0, .raw (.slice A l.length cp)), (3, .sl 0 0 z.1.2.1.length z.1.2.2.2), (4, .int .i64 z.1.1)], [(0, z.1.2.2.1)], 1, [.vec 0 65 3 z.1.2.2.2 (TL.flat z.1.2.1)]⟩) (fun z => l.length - z.1.1)
    ⟨(0, [], .nil, 0), Nat.zero_le _, ⟨by simp, .nil⟩, Nat.le_refl _, fun h => absurd h (Nat.lt_irrefl 0)⟩ ?_ ?_
  · exact Le.of rfl ⟨⟨_, rfl, rfl⟩, ⟨_, rfl, rfl⟩, ⟨_, rfl, rfl⟩, trivial⟩ (fun h k => sat_add (vec_of rfl vec_emp) ((fun h k => sat_nil k) h k))
  rintro ⟨⟨i, out, pl, c⟩, hi, hS, hc, hpl⟩
  simp only at hi hS hc hpl
  have hlen : out.length = i := by rw [hS.perm.length_eq, List.length_take]; omega
  refine CondOb.split (fun g => ?_) (fun g => ?_)
  rotate_left
  · have g : i = l.length := by
      have g := of_decide_eq_false g
      have : ¬ (i : Int) < l.length := g
      omega
    subst g
    rw [List.take_length] at hS
    exact FinOb.mk [.slice (locAddr 0 pl) out.length c] [Vec pl 65 3 c (TL.flat out)] rfl (fun h k => sat_pick 0 rfl (fun _ k => vec_to rfl k) (fun h k => sat_nil k) k) ⟨out, pl, c, rfl, hS, hc, hpl, rfl⟩
  have g : i < l.length := by
    have g := of_decide_eq_true g
    have : (i : Int) < l.length := g
    omega
  have hil := g
  have hx := List.getElem?_eq_getElem g
  have hxno : ∀ a ∈ l.take i, a.no < l[i].no := fun a ha => by
    obtain ⟨j, hj, e⟩ := List.getElem_of_mem ha
    rw [List.length_take] at hj
    rw [List.getElem_take] at e
    rw [← e]
    exact (List.pairwise_iff_getElem.1 hn) j i (by omega) g (by omega)
  generalize l[i] = x at hx hxno
  obtain ⟨ba, o, hA, hf⟩ := hR.lay (by decide) hx
  have hn1 : (0 : Int) ≤ (i : Int) ∧ (i : Int) < l.length := by omega
  have ei : IntKind.i64.wrap ((i : Int) + 1) = ((i + 1 : Nat) : Int) := by rw [w64 (by omega) (by omega)]; omega
  have hF : (TL.flat out).length = out.length * 3 := lT out
  refine LoopOb.mk { k : Nat // k ≤ out.length ∧ ∀ a ∈ out.take k, before a x } (fun z => ⟨76, [(0, .raw (.slice A l.length cp)), (3, .sl 0 0 out.length c), (4, .int .i64 i), (5, .int .i64 z.1)], [(0, pl)], 1, [.vec 0 65 3 c (TL.flat out)]⟩) (fun z => out.length - z.1) ⟨0, Nat.zero_le _, by simp⟩ ?_ ?_
  · exact Le.of rfl ⟨⟨_, rfl, rfl⟩, ⟨_, rfl, rfl⟩, ⟨_, rfl, rfl⟩, ⟨_, rfl, rfl⟩, trivial⟩ (fun h k => sat_pick 0 rfl (by first | exact fun _ k => k | exact fun _ k => blk_to rfl rfl k | exact fun _ k => vec_to rfl k | exact fun _ k => blk_of rfl rfl k | exact fun _ k => vec_of rfl k | exact fun _ k => blk_of rfl rfl (blk_to rfl rfl k) | exact fun _ k => vec_of rfl (vec_to rfl k) | exact fun _ k => mp_to rfl k | exact fun _ k => mp_of rfl k | exact fun _ k => mp_of rfl (mp_to rfl k)) (fun h k => sat_nil k) k)
  rintro ⟨k, hk, hb⟩
  refine RegOb.go ?_
  refine DrawOb.mk [] (.run [0, 1, 2, 3, 4, 5, 6, 7, 8, 9, 10, 11, 12, 13, 14, 15, 16, 17, 18, 19, 20, 21, 22, 23, 24, 25, 26, 27, 28, 29, 30, 31, 32, 33, 34, 35, 36, 37, 38, 39, 40, 41, 42] .nil) (by kernel_rfl) ?_
  refine Br.mk (fun g1 => ?_) (fun g1 => ?_)
  rotate_left
  · have g1 : ¬ (k : Int) < out.length := of_decide_eq_false g1
    have hnb : ∀ a, out[k]? = some a → ¬ before a x := fun a ha => by
      have := (List.getElem?_eq_some_iff.1 ha).1; omega
    intro b1
    refine Need.mk (by dsimp only; omega) ?_
    refine Need.mk (by dsimp only; rw [hF, Int.toNat_natCast]; omega) ?_
    refine StOb.mk [] rfl (Need.mk (by simp) ?_)
    refine Need.mk ⟨by dsimp only; omega, by dsimp only; simp only [maxLen]; omega, fun v hv => TL.flat_one' _ v (List.mem_of_mem_drop (List.mem_of_mem_take hv))⟩ ?_
    refine NewSl.any (fun l2 c2 hc2 => ?_)
    dsimp only at hc2
    have tP : (TL.flat out).take (k * 3) = TL.flat (out.take k) := TL.flat_take out k
    have hP : (TL.flat (out.take k)).length = k * 3 := by rw [lT, List.length_take]; omega
    have hQ : (TL.flat (out.drop k)).length = (out.length - k) * 3 := by rw [lT, List.length_drop]
    refine Need.mk hn1 (RawAt.mk ba o hA ?_)
    refine RdF.mk x.itsv x.item rfl rfl (fun j v hj => by rw [Int.toNat_natCast]; exact hf j v hj) ?_
    intro b2
    refine StOb.mk (TL.cells x) rfl (Need.mk rfl ?_)
    refine Need.mk (by dsimp only; rw [Nat.zero_mul, List.take_zero, List.nil_append, List.drop_zero, Int.toNat_natCast, tP, hP]; rw [Int.toNat_natCast] at hc2; omega) ?_
    refine Need.mk ⟨by dsimp only; omega, by dsimp only; simp only [maxLen]; omega, TL.one _⟩ ?_
    refine NewSl.pos (Nat.succ_pos _) (fun b3 o3 c3 hc3 => ?_)
    dsimp only at hc3
    rw [Int.toNat_natCast] at hc3
    refine Need.mk (by dsimp only; omega) ?_
    have tQ : ((TL.flat out).drop (if c = k then 0 else k * 3)).take ((out.length - k) * 3) = TL.flat (out.drop k) := by
      by_cases hck : c = k
      · have : out.length = k := by omega
        rw [this, Nat.sub_self, Nat.zero_mul, List.take_zero, List.drop_of_length_le (l := out) (by omega)]
        rfl
      · have : (TL.flat out).drop (k * 3) = TL.flat (out.drop k) := TL.flat_drops out k
        rw [if_neg hck, this, List.take_of_length_le (by rw [hQ]; exact Nat.le_refl _)]
    have hX : (TL.cells x).length = 3 := rfl
    have hPX : List.take ((0 + k) * 3) (List.drop 0 (List.take (0 * 3) (List.drop 0 []) ++ List.take (k * 3) (List.drop 0 (TL.flat out)))) ++ TL.cells x = TL.flat (out.take k) ++ TL.cells x := by
      rw [Nat.zero_mul, List.take_zero, List.nil_append, List.drop_zero, List.drop_zero, tP, Nat.zero_add, List.take_of_length_le (by rw [hP]; exact Nat.le_refl _)]
    refine Need.mk (by dsimp only; rw [hF, Int.toNat_natCast]; split <;> omega) ?_
    refine Need.mk (by dsimp only; rw [Int.toNat_natCast, hPX, List.length_append, hP, hX]; omega) ?_
    refine Need.mk ⟨by dsimp only; omega, by dsimp only; simp only [maxLen]; omega, fun v hv => TL.flat_one' _ v (List.mem_of_mem_drop (List.mem_of_mem_take hv))⟩ ?_
    refine NewSl.pos (by omega) (fun b4 o4 c4 hc4 => ?_)
    dsimp only at hc4
    rw [Int.toNat_natCast] at hc4
    have eL : (out.take k ++ [x] ++ out.drop k).length = out.length + 1 := by
      rw [List.length_append, List.length_append, List.length_take, List.length_drop, List.length_singleton]; omega
    have hfl : List.take ((0 + k + 1) * 3) (List.drop 0 (List.take ((0 + k) * 3) (List.drop 0 (List.take (0 * 3) (List.drop 0 []) ++ List.take (k * 3) (List.drop 0 (TL.flat out)))) ++ TL.cells x)) ++ List.take ((out.length - k) * 3) (List.drop (if c = k then 0 else 0 + k * 3) (TL.flat out)) = TL.flat (out.take k ++ [x] ++ out.drop k) := by
      rw [hPX, List.drop_zero, List.take_of_length_le (by rw [List.length_append, hP, hX]; omega), Nat.zero_add, tQ, ← TL.flat_one x, ← TL.flat_append, ← TL.flat_append]
    refine ⟨⟨(i + 1, out.take k ++ [x] ++ out.drop k, .at b4 o4, c4), hil, ?_, by show (out.take k ++ [x] ++ out.drop k).length ≤ c4; omega, fun _ => ⟨b4, o4, rfl⟩⟩, by show l.length - (i + 1) < l.length - i; omega, Le.of rfl ⟨⟨_, rfl, rfl⟩, ⟨_, rfl, (congrArg (fun q : Nat => some (Value.slice (some ⟨b4, o4, none⟩) q c4)) (by rw [eL]; dsimp only; rw [Int.toNat_natCast]; omega))⟩, ⟨_, rfl, congrArg (fun z => some (Value.int .i64 z)) ei⟩, trivial⟩ (fun h k => sat_pick 0 rfl (fun _ k9 => vec_of rfl (vec_cast hfl (vec_to (l := .at b4 o4) rfl k9))) (fun h k => sat_nil k) k)⟩
    · show Sorted (l.take (i + 1)) (out.take k ++ [x] ++ out.drop k)
      rw [List.take_add_one, hx]
      exact ins_sorted hS hxno hk hb hnb
  have g1 : k < out.length := by
    have g := of_decide_eq_true g1
    have : (k : Int) < out.length := g
    omega
  have ek : IntKind.i64.wrap ((k : Int) + 1) = ((k + 1 : Nat) : Int) := by rw [w64 (by omega) (by omega)]; omega
  obtain ⟨pb, po, rfl⟩ := hpl (by omega)
  have ha := List.getElem?_eq_getElem g1
  generalize out[k] = a at ha
  have hnk : (0 : Int) ≤ (k : Int) ∧ (k : Int) < (out.length : Nat) := by omega
  have hcont : before a x → ∀ q ∈ out.take (k + 1), before q x := fun h q hq => by
    rw [List.take_add_one, ha] at hq
    rcases List.mem_append.1 hq with hq | hq
    · exact hb q hq
    · simp at hq; subst hq; exact h
  have hrd : ∀ (j : Nat) (v : Value), (TL.cells a)[j]? = some v → (TL.flat out)[0 + (k : Int).toNat * 3 + j]? = some v := fun j v hv => by
    rw [Int.toNat_natCast, Nat.zero_add]; exact TL.flat_at ha hv
  refine Need.mk hnk ?_
  refine RdOb.mk (.int .i64 a.at_) _ rfl (hrd 1 _ rfl) ?_
  refine Need.mk hn1 (RawAt.mk ba o hA ?_)
  refine RdRaw.mk (.int .i64 x.at_) _ rfl (by rw [Int.toNat_natCast]; exact hf 1 _ rfl) ?_
  refine Br.mk (fun g2 => ?_) (fun g2 => ?_)
  · have g2 : a.at_ < x.at_ := of_decide_eq_true g2
    exact ⟨⟨k + 1, g1, hcont (.inl g2)⟩, by show out.length - (k + 1) < out.length - k; omega, Le.of rfl ⟨⟨_, rfl, rfl⟩, ⟨_, rfl, rfl⟩, ⟨_, rfl, rfl⟩, ⟨_, rfl, congrArg (fun z => some (Value.int .i64 z)) ek⟩, trivial⟩ (fun h k => sat_pick 0 rfl (by first | exact fun _ k => k | exact fun _ k => blk_to rfl rfl k | exact fun _ k => vec_to rfl k | exact fun _ k => blk_of rfl rfl k | exact fun _ k => vec_of rfl k | exact fun _ k => blk_of rfl rfl (blk_to rfl rfl k) | exact fun _ k => vec_of rfl (vec_to rfl k) | exact fun _ k => mp_to rfl k | exact fun _ k => mp_of rfl k | exact fun _ k => mp_of rfl (mp_to rfl k)) (fun h k => sat_nil k) k)⟩
  have g2 : ¬ a.at_ < x.at_ := of_decide_eq_false g2
  refine Need.mk hnk ?_
  refine RdOb.mk (.int .i64 a.at_) _ rfl (hrd 1 _ rfl) ?_
  refine Need.mk hn1 (RawAt.mk ba o hA ?_)
  refine RdRaw.mk (.int .i64 x.at_) _ rfl (by rw [Int.toNat_natCast]; exact hf 1 _ rfl) ?_
  refine Br.mk (fun g3 => ?_) (fun g3 => ?_)
  rotate_left
  · have g3 : ¬ a.at_ = x.at_ := by simpa using g3
    have hnb : ∀ a, out[k]? = some a → ¬ before a x := fun a' ha' => by
      rw [ha] at ha'; cases ha'; unfold before; omega
    intro b1
    refine Need.mk (by dsimp only; omega) ?_
    refine Need.mk (by dsimp only; rw [hF, Int.toNat_natCast]; omega) ?_
    refine StOb.mk [] rfl (Need.mk (by simp) ?_)
    refine Need.mk ⟨by dsimp only; omega, by dsimp only; simp only [maxLen]; omega, fun v hv => TL.flat_one' _ v (List.mem_of_mem_drop (List.mem_of_mem_take hv))⟩ ?_
    refine NewSl.any (fun l2 c2 hc2 => ?_)
    dsimp only at hc2
    have tP : (TL.flat out).take (k * 3) = TL.flat (out.take k) := TL.flat_take out k
    have hP : (TL.flat (out.take k)).length = k * 3 := by rw [lT, List.length_take]; omega
    have hQ : (TL.flat (out.drop k)).length = (out.length - k) * 3 := by rw [lT, List.length_drop]
    refine Need.mk hn1 (RawAt.mk ba o hA ?_)
    refine RdF.mk x.itsv x.item rfl rfl (fun j v hj => by rw [Int.toNat_natCast]; exact hf j v hj) ?_
    intro b2
    refine StOb.mk (TL.cells x) rfl (Need.mk rfl ?_)
    refine Need.mk (by dsimp only; rw [Nat.zero_mul, List.take_zero, List.nil_append, List.drop_zero, Int.toNat_natCast, tP, hP]; rw [Int.toNat_natCast] at hc2; omega) ?_
    refine Need.mk ⟨by dsimp only; omega, by dsimp only; simp only [maxLen]; omega, TL.one _⟩ ?_
    refine NewSl.pos (Nat.succ_pos _) (fun b3 o3 c3 hc3 => ?_)
    dsimp only at hc3
    rw [Int.toNat_natCast] at hc3
    refine Need.mk (by dsimp only; omega) ?_
    have tQ : ((TL.flat out).drop (if c = k then 0 else k * 3)).take ((out.length - k) * 3) = TL.flat (out.drop k) := by
      by_cases hck : c = k
      · have : out.length = k := by omega
        rw [this, Nat.sub_self, Nat.zero_mul, List.take_zero, List.drop_of_length_le (l := out) (by omega)]
        rfl
      · have : (TL.flat out).drop (k * 3) = TL.flat (out.drop k) := TL.flat_drops out k
        rw [if_neg hck, this, List.take_of_length_le (by rw [hQ]; exact Nat.le_refl _)]
    have hX : (TL.cells x).length = 3 := rfl
    have hPX : List.take ((0 + k) * 3) (List.drop 0 (List.take (0 * 3) (List.drop 0 []) ++ List.take (k * 3) (List.drop 0 (TL.flat out)))) ++ TL.cells x = TL.flat (out.take k) ++ TL.cells x := by
      rw [Nat.zero_mul, List.take_zero, List.nil_append, List.drop_zero, List.drop_zero, tP, Nat.zero_add, List.take_of_length_le (by rw [hP]; exact Nat.le_refl _)]
    refine Need.mk (by dsimp only; rw [hF, Int.toNat_natCast]; split <;> omega) ?_
    refine Need.mk (by dsimp only; rw [Int.toNat_natCast, hPX, List.length_append, hP, hX]; omega) ?_
    refine Need.mk ⟨by dsimp only; omega, by dsimp only; simp only [maxLen]; omega, fun v hv => TL.flat_one' _ v (List.mem_of_mem_drop (List.mem_of_mem_take hv))⟩ ?_
    refine NewSl.pos (by omega) (fun b4 o4 c4 hc4 => ?_)
    dsimp only at hc4
    rw [Int.toNat_natCast] at hc4
    have eL : (out.take k ++ [x] ++ out.drop k).length = out.length + 1 := by
      rw [List.length_append, List.length_append, List.length_take, List.length_drop, List.length_singleton]; omega
    have hfl : List.take ((0 + k + 1) * 3) (List.drop 0 (List.take ((0 + k) * 3) (List.drop 0 (List.take (0 * 3) (List.drop 0 []) ++ List.take (k * 3) (List.drop 0 (TL.flat out)))) ++ TL.cells x)) ++ List.take ((out.length - k) * 3) (List.drop (if c = k then 0 else 0 + k * 3) (TL.flat out)) = TL.flat (out.take k ++ [x] ++ out.drop k) := by
      rw [hPX, List.drop_zero, List.take_of_length_le (by rw [List.length_append, hP, hX]; omega), Nat.zero_add, tQ, ← TL.flat_one x, ← TL.flat_append, ← TL.flat_append]
    refine ⟨⟨(i + 1, out.take k ++ [x] ++ out.drop k, .at b4 o4, c4), hil, ?_, by show (out.take k ++ [x] ++ out.drop k).length ≤ c4; omega, fun _ => ⟨b4, o4, rfl⟩⟩, by show l.length - (i + 1) < l.length - i; omega, Le.of rfl ⟨⟨_, rfl, rfl⟩, ⟨_, rfl, (congrArg (fun q : Nat => some (Value.slice (some ⟨b4, o4, none⟩) q c4)) (by rw [eL]; dsimp only; rw [Int.toNat_natCast]; omega))⟩, ⟨_, rfl, congrArg (fun z => some (Value.int .i64 z)) ei⟩, trivial⟩ (fun h k => sat_pick 0 rfl (fun _ k9 => vec_of rfl (vec_cast hfl (vec_to (l := .at b4 o4) rfl k9))) (fun h k => sat_nil k) k)⟩
    · show Sorted (l.take (i + 1)) (out.take k ++ [x] ++ out.drop k)
      rw [List.take_add_one, hx]
      exact ins_sorted hS hxno hk hb hnb
  have g3 : a.at_ = x.at_ := by simpa using g3
  refine Need.mk hnk ?_
  refine RdOb.mk (.int .i64 a.rank) _ rfl (hrd 2 _ rfl) ?_
  refine Need.mk hn1 (RawAt.mk ba o hA ?_)
  refine RdRaw.mk (.int .i64 x.rank) _ rfl (by rw [Int.toNat_natCast]; exact hf 2 _ rfl) ?_
  refine CondOb.split (fun g4 => ?_) (fun g4 => ?_)
  · have g4 : a.rank ≤ x.rank := of_decide_eq_true g4
    exact ⟨⟨k + 1, g1, hcont (.inr ⟨g3, g4⟩)⟩, by show out.length - (k + 1) < out.length - k; omega, Le.of rfl ⟨⟨_, rfl, rfl⟩, ⟨_, rfl, rfl⟩, ⟨_, rfl, rfl⟩, ⟨_, rfl, congrArg (fun z => some (Value.int .i64 z)) ek⟩, trivial⟩ (fun h k => sat_pick 0 rfl (by first | exact fun _ k => k | exact fun _ k => blk_to rfl rfl k | exact fun _ k => vec_to rfl k | exact fun _ k => blk_of rfl rfl k | exact fun _ k => vec_of rfl k | exact fun _ k => blk_of rfl rfl (blk_to rfl rfl k) | exact fun _ k => vec_of rfl (vec_to rfl k) | exact fun _ k => mp_to rfl k | exact fun _ k => mp_of rfl k | exact fun _ k => mp_of rfl (mp_to rfl k)) (fun h k => sat_nil k) k)⟩
  · have g4 : ¬ a.rank ≤ x.rank := of_decide_eq_false g4
    have hnb : ∀ a, out[k]? = some a → ¬ before a x := fun a' ha' => by
      rw [ha] at ha'; cases ha'; unfold before; omega
    intro b1
    refine Need.mk (by dsimp only; omega) ?_
    refine Need.mk (by dsimp only; rw [hF, Int.toNat_natCast]; omega) ?_
    refine StOb.mk [] rfl (Need.mk (by simp) ?_)
    refine Need.mk ⟨by dsimp only; omega, by dsimp only; simp only [maxLen]; omega, fun v hv => TL.flat_one' _ v (List.mem_of_mem_drop (List.mem_of_mem_take hv))⟩ ?_
    refine NewSl.any (fun l2 c2 hc2 => ?_)
    dsimp only at hc2
    have tP : (TL.flat out).take (k * 3) = TL.flat (out.take k) := TL.flat_take out k
    have hP : (TL.flat (out.take k)).length = k * 3 := by rw [lT, List.length_take]; omega
    have hQ : (TL.flat (out.drop k)).length = (out.length - k) * 3 := by rw [lT, List.length_drop]
    refine Need.mk hn1 (RawAt.mk ba o hA ?_)
    refine RdF.mk x.itsv x.item rfl rfl (fun j v hj => by rw [Int.toNat_natCast]; exact hf j v hj) ?_
    intro b2
    refine StOb.mk (TL.cells x) rfl (Need.mk rfl ?_)
    refine Need.mk (by dsimp only; rw [Nat.zero_mul, List.take_zero, List.nil_append, List.drop_zero, Int.toNat_natCast, tP, hP]; rw [Int.toNat_natCast] at hc2; omega) ?_
    refine Need.mk ⟨by dsimp only; omega, by dsimp only; simp only [maxLen]; omega, TL.one _⟩ ?_
    refine NewSl.pos (Nat.succ_pos _) (fun b3 o3 c3 hc3 => ?_)
    dsimp only at hc3
    rw [Int.toNat_natCast] at hc3
    refine Need.mk (by dsimp only; omega) ?_
    have tQ : ((TL.flat out).drop (if c = k then 0 else k * 3)).take ((out.length - k) * 3) = TL.flat (out.drop k) := by
      by_cases hck : c = k
      · have : out.length = k := by omega
        rw [this, Nat.sub_self, Nat.zero_mul, List.take_zero, List.drop_of_length_le (l := out) (by omega)]
        rfl
      · have : (TL.flat out).drop (k * 3) = TL.flat (out.drop k) := TL.flat_drops out k
        rw [if_neg hck, this, List.take_of_length_le (by rw [hQ]; exact Nat.le_refl _)]
    have hX : (TL.cells x).length = 3 := rfl
    have hPX : List.take ((0 + k) * 3) (List.drop 0 (List.take (0 * 3) (List.drop 0 []) ++ List.take (k * 3) (List.drop 0 (TL.flat out)))) ++ TL.cells x = TL.flat (out.take k) ++ TL.cells x := by
      rw [Nat.zero_mul, List.take_zero, List.nil_append, List.drop_zero, List.drop_zero, tP, Nat.zero_add, List.take_of_length_le (by rw [hP]; exact Nat.le_refl _)]
    refine Need.mk (by dsimp only; rw [hF, Int.toNat_natCast]; split <;> omega) ?_
    refine Need.mk (by dsimp only; rw [Int.toNat_natCast, hPX, List.length_append, hP, hX]; omega) ?_
    refine Need.mk ⟨by dsimp only; omega, by dsimp only; simp only [maxLen]; omega, fun v hv => TL.flat_one' _ v (List.mem_of_mem_drop (List.mem_of_mem_take hv))⟩ ?_
    refine NewSl.pos (by omega) (fun b4 o4 c4 hc4 => ?_)
    dsimp only at hc4
    rw [Int.toNat_natCast] at hc4
    have eL : (out.take k ++ [x] ++ out.drop k).length = out.length + 1 := by
      rw [List.length_append, List.length_append, List.length_take, List.length_drop, List.length_singleton]; omega
    have hfl : List.take ((0 + k + 1) * 3) (List.drop 0 (List.take ((0 + k) * 3) (List.drop 0 (List.take (0 * 3) (List.drop 0 []) ++ List.take (k * 3) (List.drop 0 (TL.flat out)))) ++ TL.cells x)) ++ List.take ((out.length - k) * 3) (List.drop (if c = k then 0 else 0 + k * 3) (TL.flat out)) = TL.flat (out.take k ++ [x] ++ out.drop k) := by
      rw [hPX, List.drop_zero, List.take_of_length_le (by rw [List.length_append, hP, hX]; omega), Nat.zero_add, tQ, ← TL.flat_one x, ← TL.flat_append, ← TL.flat_append]
    refine ⟨⟨(i + 1, out.take k ++ [x] ++ out.drop k, .at b4 o4, c4), hil, ?_, by show (out.take k ++ [x] ++ out.drop k).length ≤ c4; omega, fun _ => ⟨b4, o4, rfl⟩⟩, by show l.length - (i + 1) < l.length - i; omega, Le.of rfl ⟨⟨_, rfl, rfl⟩, ⟨_, rfl, (congrArg (fun q : Nat => some (Value.slice (some ⟨b4, o4, none⟩) q c4)) (by rw [eL]; dsimp only; rw [Int.toNat_natCast]; omega))⟩, ⟨_, rfl, congrArg (fun z => some (Value.int .i64 z)) ei⟩, trivial⟩ (fun h k => sat_pick 0 rfl (fun _ k9 => vec_of rfl (vec_cast hfl (vec_to (l := .at b4 o4) rfl k9))) (fun h k => sat_nil k) k)⟩
    · show Sorted (l.take (i + 1)) (out.take k ++ [x] ++ out.drop k)
      rw [List.take_add_one, hx]
      exact ins_sorted hS hxno hk hb hnb
end Go.Proofs.Ytiknkeakielncaa.Ag
