/- The law of entries that are linked on by Hard alone. Conditions: none. -/
import Derived.Test.YtlgdagjbphafcaaChF
namespace Go.Proofs.Ytlgdagjbphafcaa.Ch
open Go Go.Proofs Sx
set_option maxRecDepth 100000
set_option linter.unusedVariables false

def hardAt (lo hi k : Nat) : EA := ⟨((lo + k : Nat) : Int), 2, if k = 0 then none else some ((lo + k : Nat) - 1 : Int), if lo + k + 1 = hi then none else some ((lo + k + 1 : Nat) : Int), false⟩
def hard (lo hi : Nat) : List EA := (List.range (hi - lo)).map (hardAt lo hi)
theorem hard_at {lo hi k : Nat} (h : k < hi - lo) : (hard lo hi)[k]? = some (hardAt lo hi k) := by simp [hard, h]
theorem hard_none {lo hi k : Nat} (h : hi - lo ≤ k) : (hard lo hi)[k]? = none := by simp [hard, h]
theorem hard_ids (lo hi : Nat) : (hard lo hi).map EA.id = (List.range (hi - lo)).map (fun k => ((lo + k : Nat) : Int)) := by simp [hard, hardAt, Function.comp_def]
theorem hard_nodup (lo hi : Nat) : ((hard lo hi).map EA.id).Nodup := by
  rw [hard_ids]
  refine List.Pairwise.map _ (fun a b h => ?_) List.nodup_range
  intro e
  have : a = b := by omega
  exact h this
theorem hard_mem {lo hi : Nat} {n : Int} : n ∈ (hard lo hi).map EA.id ↔ (lo : Int) ≤ n ∧ n < hi := by
  rw [hard_ids, List.mem_map]
  constructor
  · rintro ⟨k, hk, rfl⟩
    have := List.mem_range.1 hk
    omega
  · rintro ⟨h1, h2⟩
    exact ⟨(n - lo).toNat, List.mem_range.2 (by omega), by omega⟩
def B1 (i : Nat) : BA := ⟨hard 0 i, if i = 0 then [] else [0], if i = 0 then none else some ((i : Int) - 1)⟩
theorem add_hard (i : Nat) : addA (B1 i) i 2 = B1 (i + 1) := by
  cases i with
  | zero => decide
  | succ i =>
    have h1 : (B1 (i + 1)).last = some (i : Int) := by simp [B1]
    have h2 := ixA_at (hard_nodup 0 (i + 1)) (hard_at (lo := 0) (hi := i + 1) (k := i) (by omega))
    have h3 : (hardAt 0 (i + 1) i).id = (i : Int) := by simp [hardAt]
    rw [h3] at h2
    have : lnk (B1 (i + 1)) = some i := by
      unfold lnk
      rw [h1]
      have e5 : (B1 (i + 1)).es = hard 0 (i + 1) := rfl
      simp only [e5, h2, hard_at (lo := 0) (hi := i + 1) (k := i) (by omega)]
      rfl
    unfold addA
    rw [this]
    simp only [h1]
    simp only [B1, Nat.succ_ne_zero, if_false]
    congr 1
    · refine List.ext_getElem? fun k => ?_
      have hl : ((hard 0 (i + 1)).modify i fun a => { a with behind := some (((i + 1 : Nat)) : Int) }).length = i + 1 := by simp [hard]
      rcases Nat.lt_trichotomy k (i + 1) with h | h | h
      · rw [List.getElem?_append_left (by omega), List.getElem?_modify, hard_at (by omega), hard_at (by omega)]
        by_cases e : i = k
        · subst e; simp [hardAt]
        · simp only [if_neg e, Option.map_eq_map, Option.map_some, Option.some.injEq]
          simp only [hardAt]
          congr 1
          rw [if_neg (by omega), if_neg (by omega)]
      · subst h
        rw [List.getElem?_append_right (by omega), hl, hard_at (by omega)]
        simp [hardAt]
      · rw [List.getElem?_append_right (by omega), hl, hard_none (by omega), List.getElem?_eq_none (by simp; omega)]
    · simp
def B2 (many i : Nat) (L : Option Int) : BA := ⟨hard i many, if i < many then [(i : Int)] else [], L⟩
def told0 (l : List EA) : List EA := match l with
  | [] => []
  | e :: l => { e with told := true } :: l
theorem hard_cons {i many : Nat} (h : i < many) : hard i many = hardAt i many 0 :: (hard (i + 1) many).modify 0 (fun n => { n with ahead := some (i : Int) }) := by
  refine List.ext_getElem? fun k => ?_
  cases k with
  | zero => rw [hard_at (by omega)]; rfl
  | succ k =>
    rw [List.getElem?_cons_succ, List.getElem?_modify]
    by_cases hk : k + 1 < many - i
    · rw [hard_at hk, hard_at (by omega)]
      simp only [Option.map_eq_map, Option.map_some, Option.some.injEq]
      have e1 : i + 1 + k = i + (k + 1) := by omega
      by_cases e : 0 = k
      · subst e; simp [hardAt]
      · rw [if_neg e]
        simp only [hardAt, e1]
        congr 1
        rw [if_neg (by omega), if_neg (by omega)]
    · rw [hard_none (by omega), hard_none (by omega)]; rfl
theorem ready_hard {many i : Nat} (h : i < many) (L : Option Int) : readyA (B2 many i L) = ⟨told0 (hard i many), [], L⟩ := by
  simp only [readyA, B2, if_pos h]
  congr 1
  refine List.ext_getElem? fun k => ?_
  rw [List.getElem?_map]
  rw [hard_cons h]
  cases k with
  | zero => simp [told0, hardAt]
  | succ k =>
    simp only [List.getElem?_cons_succ, told0, List.getElem?_modify]
    by_cases hk : k + 1 < many - i
    · rw [hard_at (by omega)]
      simp only [Option.map_eq_map, Option.map_some, Option.some.injEq]
      have : ∀ a : EA, a.id = ((i + 1 + k : Nat) : Int) → (if a.id ∈ [(i : Int)] then { a with told := true } else a) = a := fun a ha => by
        rw [if_neg (by rw [ha]; simp; omega)]
      exact this _ (by split <;> rfl)
    · rw [hard_none (by omega)]; rfl
theorem erase_hard {many i : Nat} (h : i < many) : (told0 (hard i many)).eraseIdx 0 = (hard (i + 1) many).modify 0 (fun n => { n with ahead := some (i : Int) }) := by
  rw [hard_cons h]; rfl
theorem told_ids (l : List EA) : (told0 l).map EA.id = l.map EA.id := by cases l <;> rfl
theorem done_hard {many i : Nat} (h : i < many) (L : Option Int) (ok : Bool) : doneA ⟨told0 (hard i many), [], L⟩ i ok = (B2 many (i + 1) L, 0) := by
  have hn : ((told0 (hard i many)).map EA.id).Nodup := by rw [told_ids]; exact hard_nodup _ _
  have h0 : (told0 (hard i many))[0]? = some { hardAt i many 0 with told := true } := by rw [hard_cons h]; rfl
  have h1 := ixA_at hn h0
  have h2 : ({ hardAt i many 0 with told := true } : EA).id = (i : Int) := by simp [hardAt]
  rw [h2] at h1
  unfold doneA
  simp only [h1, h0]
  simp only [Bool.true_eq_false, if_false, erase_hard h]
  by_cases he : i + 1 = many
  · have hb : (hardAt i many 0).behind = none := by simp [hardAt, he]
    simp only [hb]
    subst he
    simp [B2, hard]
  · have hb : (hardAt i many 0).behind = some ((i + 1 : Nat) : Int) := by simp [hardAt, he]
    simp only [hb]
    have j0 : ((hard (i + 1) many).modify 0 (fun n => { n with ahead := some (i : Int) }))[0]? = some { hardAt (i + 1) many 0 with ahead := some (i : Int) } := by
      rw [List.getElem?_modify, hard_at (by omega)]; rfl
    have hm : (((hard (i + 1) many).modify 0 (fun n => { n with ahead := some (i : Int) })).map EA.id) = (hard (i + 1) many).map EA.id := by
      cases hard (i + 1) many <;> rfl
    have j1 := ixA_at (by rw [hm]; exact hard_nodup _ _) j0
    have j2 : ({ hardAt (i + 1) many 0 with ahead := some (i : Int) } : EA).id = ((i + 1 : Nat) : Int) := by simp [hardAt]
    rw [j2] at j1
    simp only [j1]
    have hmm : ((hard (i + 1) many).modify 0 (fun n => { n with ahead := some (i : Int) })).modify 0 (fun n => { n with ahead := none }) = hard (i + 1) many := by
      have : (hard (i + 1) many)[0]? = some (hardAt (i + 1) many 0) := hard_at (by omega)
      cases hh : hard (i + 1) many with
      | nil => rfl
      | cons a l =>
        rw [hh] at this; simp at this; subst this; rfl
    rw [hmm]
    simp [B2, show i + 1 < many by omega]
theorem tied_hard {many i : Nat} (h : i < many) (L : Option Int) : Tied ⟨told0 (hard i many), [], L⟩ := by
  refine ⟨fun j e he k hk => ?_⟩
  have hl : (told0 (hard i many)).length = many - i := by rw [hard_cons h]; simp [told0, hard]; omega
  have hj := (List.getElem?_eq_some_iff.1 he).1
  rw [hl] at hj
  have hb : e.behind = (hardAt i many j).behind := by
    rw [hard_cons h] at he
    cases j with
    | zero => simp [told0] at he; subst he; rfl
    | succ j =>
      simp only [told0, List.getElem?_cons_succ, List.getElem?_modify] at he
      rw [hard_at (by omega)] at he
      simp at he
      rw [← he]
      have e1 : i + 1 + j = i + (j + 1) := by omega
      split <;> simp only [hardAt, e1]
  rw [hb] at hk
  have hk' : (k = ((i + j + 1 : Nat) : Int)) ∧ i + j + 1 < many := by
    simp only [hardAt] at hk
    split at hk
    · cases hk
    · simp at hk; exact ⟨by omega, by omega⟩
  obtain ⟨rfl, hlt⟩ := hk'
  refine List.mem_map.2 ⟨(told0 (hard i many))[j + 1]'(by omega), List.mem_of_getElem? (i := j) ?_, ?_⟩
  · rw [List.getElem?_eraseIdx, if_neg (by omega), List.getElem?_eq_getElem]
  · have h1 : ((told0 (hard i many)).map EA.id)[j + 1]? = some ((i + j + 1 : Nat) : Int) := by
      rw [told_ids, List.getElem?_map, hard_at (by omega)]
      simp [hardAt]; omega
    rw [List.getElem?_map, List.getElem?_eq_getElem (by omega)] at h1
    simpa using h1
/-- A list of bools, in the frame. -/
def Bools (f : HP) (A : Option Addr) (len : Nat) : Prop := ∀ i, i < len → ∃ b o q, A = some ⟨b, o, none⟩ ∧ fcell f b (o + i) = some (.bool q)
theorem hard_spec (n : Int) (A : Option Addr) (len cap : Nat) (h0 : 0 ≤ n) (h1 : n ≤ 255) :
    Does Try.prog 7 #[.int .u8 n, .slice A len cap] (fun f => Bools f A len) [] (fun v q => v = .bool true ∧ q = []) := by
  refine Does.of Try.func7 Try.call7 rfl [.int .u8 n, .raw (.slice A len cap)] [] 0 [] rfl rfl (fun h k => k) (fun f hR => ?_)
  refine call_asn (pre := []) [] [] newA_spec rfl rfl (fun _ _ _ _ => trivial) ?_
  rintro v post ⟨bb, mb, rfl, rfl⟩
  refine ⟨.ptr 0 0, [(0, .at bb 0)], 1, NmExt.push rfl, rfl, _, fun h k => sat_asns k, ?_⟩
  refine Need.mk (by decide) ?_
  have hw : IntKind.i64.wrap n = n := w64 (by omega) (by omega)
  have hm0 : 0 ≤ n.tmod 40 ∧ n.tmod 40 < 40 := ⟨Int.tmod_nonneg _ h0, Int.tmod_lt_of_pos _ (by decide)⟩
  obtain ⟨many, hmany⟩ : ∃ many : Nat, n.tmod 40 = many := ⟨(n.tmod 40).toNat, by omega⟩
  have h40 : many < 40 := by omega
  have em : (IntKind.i64.wrap n).tmod 40 = many := by rw [hw, hmany]
  refine LoopOb.mk { i : Nat // i ≤ many } (fun z => ⟨75, [(1, .raw (.slice A len cap)), (5, .ptr 0 0), (6, .int .i64 many), (7, .int .i64 z.1)], [(0, .at bb 0)], 1, [.asn (BkA bb mb (B1 z.1))]⟩) (fun z => many - z.1) ⟨0, by omega⟩ ?_ ?_
  · exact Le.of rfl ⟨⟨_, rfl, rfl⟩, ⟨_, rfl, rfl⟩, ⟨_, rfl, congrArg (fun z => some (Value.int .i64 z)) em⟩, ⟨_, rfl, rfl⟩, trivial⟩ (fun h k => sat_pick 0 rfl (by first | exact fun _ k => k | exact fun _ k => blk_to rfl rfl k | exact fun _ k => vec_to rfl k | exact fun _ k => blk_of rfl rfl k | exact fun _ k => vec_of rfl k | exact fun _ k => blk_of rfl rfl (blk_to rfl rfl k) | exact fun _ k => vec_of rfl (vec_to rfl k) | exact fun _ k => mp_to rfl k | exact fun _ k => mp_of rfl k | exact fun _ k => mp_of rfl (mp_to rfl k)) (fun h k => sat_nil k) k)
  rintro ⟨i, hi⟩
  refine CondOb.split (fun g => ?_) (fun g => ?_)
  · simp only [decide_eq_true_eq] at g
    replace g : (i : Int) < many := g
    have hlen : (B1 i).es.length = i := by simp [B1, hard]
    refine call_asn [] [] (addA_spec bb mb (B1 i) i 2 (by decide) (by decide) (by rw [hlen]; omega) (by simp only [B1]; split <;> simp)) rfl rfl (fun _ _ _ _ => trivial) ?_
    rintro v post (⟨h, _⟩ | ⟨_, rfl, rfl⟩)
    · exfalso
      have h : (i : Int) ∈ (hard 0 i).map EA.id := h
      rw [hard_mem] at h; omega
    refine ⟨.int .i64 0, _, 1, NmExt.refl _, rfl, _, fun h k => sat_asns k, ?_⟩
    refine useP (.int .i64 0) (code_spec 0) rfl rfl ?_
    refine CondOb.split (fun h => absurd h (by decide)) (fun _ => ?_)
    have ei : IntKind.i64.wrap ((i : Int) + 1) = ((i + 1 : Nat) : Int) := by rw [w64 (by omega) (by omega)]; omega
    rw [add_hard]
    refine ⟨⟨i + 1, by omega⟩, ?_, Le.of rfl ⟨⟨_, rfl, rfl⟩, ⟨_, rfl, rfl⟩, ⟨_, rfl, rfl⟩, ⟨_, rfl, congrArg (fun z => some (Value.int .i64 z)) ei⟩, trivial⟩ (fun h k => sat_pick 0 rfl (by first | exact fun _ k => k | exact fun _ k => blk_to rfl rfl k | exact fun _ k => vec_to rfl k | exact fun _ k => blk_of rfl rfl k | exact fun _ k => vec_of rfl k | exact fun _ k => blk_of rfl rfl (blk_to rfl rfl k) | exact fun _ k => vec_of rfl (vec_to rfl k) | exact fun _ k => mp_to rfl k | exact fun _ k => mp_of rfl k | exact fun _ k => mp_of rfl (mp_to rfl k)) (fun h k => sat_nil k) k)⟩
    show many - (i + 1) < many - i
    omega
  simp only [decide_eq_false_iff_not] at g
  replace g : ¬ (i : Int) < many := g
  have ei : i = many := by omega
  subst ei
  have e0 : B1 i = B2 i 0 (B1 i).last := by
    simp only [B1, B2]
    congr 1
    by_cases h : i = 0
    · subst h; rfl
    · rw [if_neg h, if_pos (by omega)]; rfl
  generalize (B1 i).last = L at e0
  refine LoopOb.mk { j : Nat // j ≤ i } (fun z => ⟨75, [(1, .raw (.slice A len cap)), (5, .ptr 0 0), (6, .int .i64 i), (8, .int .i64 z.1)], [(0, .at bb 0)], 1, [.asn (BkA bb mb (B2 i z.1 L))]⟩) (fun z => i - z.1) ⟨0, by omega⟩ ?_ ?_
  · exact Le.of rfl ⟨⟨_, rfl, rfl⟩, ⟨_, rfl, rfl⟩, ⟨_, rfl, rfl⟩, ⟨_, rfl, rfl⟩, trivial⟩ (fun h k => sat_pick 0 rfl (fun _ k => by rw [← e0]; exact k) (fun h k => sat_nil k) k)
  rintro ⟨j, hj⟩
  refine CondOb.split (fun g2 => ?_) (fun g2 => ?_)
  rotate_left
  · simp only [decide_eq_false_iff_not] at g2
    replace g2 : ¬ (j : Int) < i := g2
    have ej : j = i := by omega
    subst ej
    have hes : (B2 j j L).es = [] := by simp [B2, hard]
    have hrd : (B2 j j L).ready = [] := by simp [B2]
    refine call_asn [] [] (openA_spec bb mb (B2 j j L)) rfl rfl (fun _ _ _ _ => trivial) ?_
    rintro v post ⟨p, cp, rfl, rfl⟩
    refine ⟨.raw (.slice (locAddr 0 p) 0 cp), _, 1, NmExt.refl _, by rw [hes]; rfl, _, fun h k => sat_asns k, ?_⟩
    refine call_asn [] [_] (readyA_spec bb mb (B2 j j L) (by rw [hrd]; simp)) rfl rfl (fun _ _ _ _ => trivial) ?_
    rintro v post ⟨p2, cp2, rfl, rfl⟩
    refine ⟨.raw (.slice (locAddr 0 p2) 0 cp2), _, 1, NmExt.refl _, by rw [hrd]; rfl, _, fun h k => sat_asns k, ?_⟩
    refine Br.mk (fun _ => ?_) (fun h => absurd h (by decide))
    refine useP .tt live_spec rfl rfl ?_
    exact FinOb.mk _ [] rfl (fun h k => trivial) ⟨rfl, rfl⟩
  simp only [decide_eq_true_eq] at g2
  replace g2 : (j : Int) < i := g2
  have hji : j < i := by omega
  have ej1 : IntKind.i64.wrap ((j : Int) + 1) = ((j + 1 : Nat) : Int) := by rw [w64 (by omega) (by omega)]; omega
  have hrd : (B2 i j L).ready = [(j : Int)] := by simp [B2, hji]
  refine call_asn [] [] (readyA_spec bb mb (B2 i j L) (by rw [hrd]; intro n hn; simp at hn; subst hn; show _ ∈ (hard j i).map EA.id; rw [hard_mem]; omega)) rfl rfl (fun _ _ _ _ => trivial) ?_
  rintro v post ⟨p, cp, rfl, rfl⟩
  rw [hrd, ready_hard hji]
  refine ⟨.raw (.slice (locAddr 0 p) 1 cp), _, 1, NmExt.refl _, rfl, _, fun h k => sat_asns k, ?_⟩
  have hflag : ∀ e, getA ⟨told0 (hard j i), [], L⟩ (j : Int) = some e → e.flags = 2 := by
    intro e he
    have he := List.mem_of_find?_eq_some he
    rw [hard_cons hji] at he
    simp only [told0, List.mem_cons] at he
    rcases he with rfl | he
    · rfl
    · obtain ⟨k, hk, e1⟩ := List.getElem_of_mem he
      rw [← Option.some.injEq, ← List.getElem?_eq_getElem hk, List.getElem?_modify] at e1
      simp at hk
      rw [hard_at (by simp [hard] at hk; omega)] at e1
      simp at e1
      rw [← e1]; split <;> rfl
  refine Br.mk (fun g3 => ?_) (fun g3 => ?_)
  · simp only [decide_eq_true_eq] at g3
    replace g3 : (j : Int) < len := g3
    obtain ⟨ba, o, tk, rfl, ht⟩ := hR j (by omega)
    refine Need.mk ⟨Int.natCast_nonneg j, g3⟩ (RawAt.mk ba o rfl ?_)
    refine RdRaw.mk (.bool tk) _ rfl (by simpa using ht) ?_
    refine call_asn [] [_] (doneA_spec bb mb ⟨told0 (hard j i), [], L⟩ j tk (by simp) (tied_hard hji L) (fun e he _ => .inr (.inr (by rw [hflag e he]; decide)))) rfl rfl (fun _ _ _ _ => trivial) ?_
    rw [done_hard hji]
    rintro v post ⟨rfl, rfl⟩
    refine ⟨.tuple [.nils, .int .i64 0], _, 1, NmExt.refl _, rfl, _, fun h k => sat_asns k, ?_⟩
    intro s1
    refine useR (.bool (decide ([(j : Int)] = [(j : Int)]))) (same_spec (locAddr 0 p) (locAddr 0 (.at s1 0)) cp 1 [(j : Int)] [(j : Int)] (by simp)) rfl (fun f' b hs hk => ⟨asn_reads 2 hs hk rfl, blk_reads 0 hs hk rfl (c := s1) rfl rfl⟩) rfl ?_
    refine Br.mk (fun h => absurd h (by simp)) (fun _ => ?_)
    refine Br.mk (fun h => absurd h (by decide)) (fun _ => ?_)
    refine useP (.int .i64 0) (code_spec 0) rfl rfl ?_
    refine CondOb.split (fun h => absurd h (by decide)) (fun _ => ?_)
    refine ⟨⟨j + 1, by omega⟩, ?_, Le.of rfl ⟨⟨_, rfl, rfl⟩, ⟨_, rfl, rfl⟩, ⟨_, rfl, rfl⟩, ⟨_, rfl, congrArg (fun z => some (Value.int .i64 z)) ej1⟩, trivial⟩ (fun h k => sat_pick 1 rfl (by first | exact fun _ k => k | exact fun _ k => blk_to rfl rfl k | exact fun _ k => vec_to rfl k | exact fun _ k => blk_of rfl rfl k | exact fun _ k => vec_of rfl k | exact fun _ k => blk_of rfl rfl (blk_to rfl rfl k) | exact fun _ k => vec_of rfl (vec_to rfl k) | exact fun _ k => mp_to rfl k | exact fun _ k => mp_of rfl k | exact fun _ k => mp_of rfl (mp_to rfl k)) (fun h k => sat_nil k) k)⟩
    show i - (j + 1) < i - j
    omega
  · refine call_asn [] [_] (doneA_spec bb mb ⟨told0 (hard j i), [], L⟩ j false (by simp) (tied_hard hji L) (fun e he _ => .inr (.inr (by rw [hflag e he]; decide)))) rfl rfl (fun _ _ _ _ => trivial) ?_
    rw [done_hard hji]
    rintro v post ⟨rfl, rfl⟩
    refine ⟨.tuple [.nils, .int .i64 0], _, 1, NmExt.refl _, rfl, _, fun h k => sat_asns k, ?_⟩
    intro s1
    refine useR (.bool (decide ([(j : Int)] = [(j : Int)]))) (same_spec (locAddr 0 p) (locAddr 0 (.at s1 0)) cp 1 [(j : Int)] [(j : Int)] (by simp)) rfl (fun f' b hs hk => ⟨asn_reads 2 hs hk rfl, blk_reads 0 hs hk rfl (c := s1) rfl rfl⟩) rfl ?_
    refine Br.mk (fun h => absurd h (by simp)) (fun _ => ?_)
    refine Br.mk (fun h => absurd h (by decide)) (fun _ => ?_)
    refine useP (.int .i64 0) (code_spec 0) rfl rfl ?_
    refine CondOb.split (fun h => absurd h (by decide)) (fun _ => ?_)
    refine ⟨⟨j + 1, by omega⟩, ?_, Le.of rfl ⟨⟨_, rfl, rfl⟩, ⟨_, rfl, rfl⟩, ⟨_, rfl, rfl⟩, ⟨_, rfl, congrArg (fun z => some (Value.int .i64 z)) ej1⟩, trivial⟩ (fun h k => sat_pick 1 rfl (by first | exact fun _ k => k | exact fun _ k => blk_to rfl rfl k | exact fun _ k => vec_to rfl k | exact fun _ k => blk_of rfl rfl k | exact fun _ k => vec_of rfl k | exact fun _ k => blk_of rfl rfl (blk_to rfl rfl k) | exact fun _ k => vec_of rfl (vec_to rfl k) | exact fun _ k => mp_to rfl k | exact fun _ k => mp_of rfl k | exact fun _ k => mp_of rfl (mp_to rfl k)) (fun h k => sat_nil k) k)⟩
    show i - (j + 1) < i - j
    omega
theorem hard_law (n : Int) (A : Option Addr) (len cap : Nat) (h : (Lit.int .u8 n).wf = true) :
    Does Try.prog 7 #[.int .u8 n, .slice A len cap] (fun f => RdS Try.prog f 3 24 [.slice A len cap]) [] (fun v q => v = .bool true ∧ q = []) := by
  have h' : 0 ≤ n ∧ n ≤ 255 := by simp [Lit.wf] at h; exact h
  refine ⟨Try.call7, fun f w hR hat => (hard_spec n A len cap h'.1 h'.2).run f w (fun i hi => ?_) hat⟩
  obtain ⟨b, o, cs, hA, hl, hc, hr⟩ := (RdS.slice Try.underlying24 c4 (by omega) (of_decide_eq_true (by kernel_rfl)) hR).2.2.2 i hi
  match cs, hl with
  | [x], _ =>
  obtain ⟨q, h1⟩ := RdS.bool Try.underlying4 hr
  simp only [List.cons.injEq, and_true] at h1
  subst h1
  exact ⟨b, o, q, hA, by simpa using hc 0 _ rfl⟩
end Go.Proofs.Ytlgdagjbphafcaa.Ch
