/- wheel: timers are taken out of a slice. Conditions: none. -/
import Derived.Test.YtiknkeakielncaaWhD
namespace Go.Proofs.Ytiknkeakielncaa.Wh
open Go Go.Proofs Sx
set_option maxRecDepth 100000
set_option linter.unusedVariables false
set_option linter.unusedSimpArgs false
set_option maxHeartbeats 4000000

theorem gone_spec (t : T) (id : Int) (c : Nat) : Does Try.prog 86 #[.agg t.vals.toArray, .pointer (some ⟨c, 0, none⟩)] (fun f => fcell f c 0 = some (.int .i64 id)) [] (fun v q => v = .bool (t.id == id) ∧ q = []) := by
  refine Does.ofJ Try.func86 Try.call86 rfl [.agg t.svs, .raw (.pointer (some ⟨c, 0, none⟩))] [] 0 [] rfl rfl (fun h k => k) (fun f hR => ?_)
  intro b2
  refine RdRaw.mk (.int .i64 id) _ rfl hR ?_
  exact FinOb.mk _ [] rfl (fun h k => trivial) ⟨rfl, rfl⟩
abbrev goneV (c : Nat) : Value := .func (.func 86) #[] #[.pointer (some ⟨c, 0, none⟩)]
abbrev goneS (c : Nat) : SV := .fn (.func 86) [] [.raw (.pointer (some ⟨c, 0, none⟩))]
theorem ixf_spec (id : Int) (c : Nat) (A : Option Addr) (cp : Nat) (l : List T) (hl : l.length ≤ 1000000) :
    Does Try.prog 112 #[.slice A l.length cp, goneV c] (fun f => Reads f A (TL.flat l) ∧ fcell f c 0 = some (.int .i64 id)) []
      (fun v q => q = [] ∧ (((∀ t ∈ l, t.id ≠ id) ∧ v = .int .i64 (-1)) ∨ ∃ (i : Nat) (t : T), l[i]? = some t ∧ t.id = id ∧ (∀ t ∈ l.take i, t.id ≠ id) ∧ v = .int .i64 i)) := by
  refine Does.ofJ Try.func112 Try.call112 rfl [.raw (.slice A l.length cp), goneS c] [] 0 [] rfl rfl (fun h k => k) (fun f hR => ?_)
  obtain ⟨hA, hc⟩ := hR
  refine LoopOb.mk { i : Nat // i ≤ l.length ∧ ∀ t ∈ l.take i, t.id ≠ id } (fun z => ⟨19, [(0, .raw (.slice A l.length cp)), (1, goneS c), (7, .int .i64 l.length), (8, .int .i64 z.1)], [], 0, []⟩) (fun z => l.length - z.1) ⟨0, by omega, by simp⟩ ?_ ?_
  · exact Le.of rfl ⟨⟨_, rfl, rfl⟩, ⟨_, rfl, rfl⟩, ⟨_, rfl, rfl⟩, ⟨_, rfl, rfl⟩, trivial⟩ (fun h k => k)
  rintro ⟨i, hi0, hall⟩
  refine CondOb.split (fun g => ?_) (fun g => ?_)
  rotate_left
  · have g := of_decide_eq_false g
    replace g : ¬ (i : Int) < l.length := g
    refine FinOb.mk [.int .i64 (-1)] [] rfl (fun h k => k) ⟨rfl, .inl ⟨?_, rfl⟩⟩
    rw [List.take_of_length_le (by omega)] at hall; exact hall
  have g := of_decide_eq_true g
  replace g : (i : Int) < l.length := g
  have hq := List.getElem?_eq_getElem (show i < l.length by omega)
  generalize l[i]'(by omega) = m at *
  obtain ⟨ba, o, rfl, hf⟩ := hA.lay (by decide) hq
  have ei : IntKind.i64.wrap ((i : Int) + 1) = ((i + 1 : Nat) : Int) := by rw [w64 (by omega) (by omega)]; omega
  refine Need.mk ⟨Int.natCast_nonneg i, g⟩ (RawAt.mk ba o rfl ?_)
  refine RdF.mk m.svs m.vals rfl rfl (fun j v hj => by rw [Int.toNat_natCast]; exact hf j v hj) ?_
  refine useR (.bool (m.id == id)) (gone_spec m id c) rfl (fun f' b hs _ => frame_cell hs hc) rfl ?_
  refine CondOb.split (fun g2 => ?_) (fun g2 => ?_)
  · have g2 : m.id = id := by simpa using g2
    exact FinOb.mk [.int .i64 i] [] rfl (fun h k => k) ⟨rfl, .inr ⟨i, m, hq, g2, hall, rfl⟩⟩
  · have g2 : ¬ m.id = id := by simpa using g2
    refine ⟨⟨i + 1, by omega, ?_⟩, ?_, Le.of rfl ⟨⟨_, rfl, rfl⟩, ⟨_, rfl, rfl⟩, ⟨_, rfl, rfl⟩, ⟨_, rfl, congrArg (fun z => some (Value.int .i64 z)) ei⟩, trivial⟩ (fun h k => k)⟩
    · rw [List.take_add_one, hq]
      intro t ht
      rcases List.mem_append.1 ht with h | h
      · exact hall t h
      · simp at h; subst h; exact g2
    · show l.length - (i + 1) < l.length - i
      omega
def without (id : Int) (l : List T) : List T := l.filter (fun t => t.id != id)
theorem without_step {id : Int} {l : List T} {i : Nat} {m : T} (h : l[i]? = some m) : without id (l.take (i + 1)) = without id (l.take i) ++ (if m.id = id then [] else [m]) := by
  rw [List.take_add_one, h]
  simp only [without, List.filter_append, Option.toList, List.filter_cons, List.filter_nil]
  by_cases e : m.id = id
  · simp [e]
  · simp [e]
theorem without_none {id : Int} {l : List T} (h : ∀ t ∈ l, t.id ≠ id) : without id l = l := by
  rw [without, List.filter_eq_self]
  intro a ha
  simpa using h a ha
structure Id (id : Int) (l : List T) where
  j : Nat
  G : List T
  hj : j ≤ l.length
  less : (without id (l.take j)).length + 1 ≤ j
  hG : G.length = j - (without id (l.take j)).length
def SD (id : Int) (l : List T) (c bl ol cp : Nat) (z : Id id l) : St :=
  ⟨42, [(0, .sl 1 0 l.length cp), (1, goneS c), (5, .int .i64 (without id (l.take z.j)).length), (6, .int .i64 z.j)], [(1, .at bl ol)], 2, [.vec 1 126 3 cp (TL.flat (without id (l.take z.j) ++ z.G ++ l.drop z.j))]⟩
theorem set_mid {K G D : List T} {x : T} (hG : 0 < G.length) : (K ++ G ++ D).set K.length x = K ++ [x] ++ (G.drop 1 ++ D) := by
  cases G with
  | nil => simp at hG
  | cons g G =>
    rw [List.append_assoc, List.set_append_right _ _ (Nat.le_refl _), Nat.sub_self]
    simp
theorem del_at (id : Int) (c bl ol cp : Nat) (l : List T) (hc : l.length ≤ cp) (hl : l.length ≤ 1000000) :
    Does Try.prog 87 #[.slice (locAddr 0 (.at bl ol)) l.length cp, goneV c] (fun f => fcell f c 0 = some (.int .i64 id)) [Vec (.at bl ol) 126 3 cp (TL.flat l)]
      (fun v q => v = .slice (locAddr 0 (.at bl ol)) (without id l).length cp ∧ q = [Vec (.at bl ol) 126 3 cp (TL.flat (without id l))]) := by
  refine Does.ofJ Try.func87 Try.call87 rfl [.sl 1 0 l.length cp, goneS c] [(1, .at bl ol)] 2 [.vec 1 126 3 cp (TL.flat l)] rfl rfl (fun h k => sat_pick 0 rfl (by first | exact fun _ k => k | exact fun _ k => blk_to rfl rfl k | exact fun _ k => vec_to rfl k | exact fun _ k => blk_of rfl rfl k | exact fun _ k => vec_of rfl k | exact fun _ k => blk_of rfl rfl (blk_to rfl rfl k) | exact fun _ k => vec_of rfl (vec_to rfl k) | exact fun _ k => mp_to rfl k | exact fun _ k => mp_of rfl k | exact fun _ k => mp_of rfl (mp_to rfl k)) (fun h k => sat_nil k) k) (fun f hR => ?_)
  refine call_ix (ixf_spec id c (locAddr 0 (.at bl ol)) cp l hl) rfl [] (fun h k => k) (fun f' b' hs hk => ⟨vec_reads 0 hs hk rfl (l := .at bl ol) rfl, frame_cell hs hR⟩) ?_
  rintro v post ⟨rfl, ⟨hno, rfl⟩ | ⟨i, m, hm, hmid, hb, rfl⟩⟩
  · refine ⟨.int .i64 (-1), _, 2, [], NmExt.refl _, rfl, fun h k => trivial, ?_⟩
    refine CondOb.split (fun _ => ?_) (fun h => absurd h (by decide))
    rw [without_none hno]
    exact FinOb.mk [.slice (locAddr 0 (.at bl ol)) l.length cp] [Vec (.at bl ol) 126 3 cp (TL.flat l)] rfl (fun h k => sat_pick 0 rfl (by first | exact fun _ k => k | exact fun _ k => blk_to rfl rfl k | exact fun _ k => vec_to rfl k | exact fun _ k => blk_of rfl rfl k | exact fun _ k => vec_of rfl k | exact fun _ k => blk_of rfl rfl (blk_to rfl rfl k) | exact fun _ k => vec_of rfl (vec_to rfl k) | exact fun _ k => mp_to rfl k | exact fun _ k => mp_of rfl k | exact fun _ k => mp_of rfl (mp_to rfl k)) (fun h k => sat_nil k) k) ⟨rfl, rfl⟩
  refine ⟨.int .i64 i, _, 2, [], NmExt.refl _, rfl, fun h k => trivial, ?_⟩
  have hi0 := (List.getElem?_eq_some_iff.1 hm).1
  refine CondOb.split (fun h => absurd h (by simp)) (fun _ => ?_)
  have ei : IntKind.i64.wrap ((i : Int) + 1) = ((i + 1 : Nat) : Int) := by rw [w64 (by omega) (by omega)]; omega
  have s0 : without id (l.take i) = l.take i := without_none hb
  have s1 := without_step (id := id) hm
  rw [if_pos hmid, List.append_nil, s0] at s1
  have sl : (without id (l.take (i + 1))).length = i := by rw [s1]; simp; omega
  refine LoopOb.mk (Id id l) (SD id l c bl ol cp) (fun z => l.length - z.j) ⟨i + 1, [m], by omega, by omega, by rw [sl]; simp⟩ ?_ ?_
  · refine Le.of rfl ⟨⟨_, rfl, rfl⟩, ⟨_, rfl, rfl⟩, ⟨_, rfl, congrArg (fun z => some (Value.int .i64 z)) (by rw [sl])⟩, ⟨_, rfl, congrArg (fun z => some (Value.int .i64 z)) ei⟩, trivial⟩ (fun h k => sat_pick 0 rfl (fun _ k => vec_of rfl ?_) (fun h k => sat_nil k) k)
    have k := vec_to (l := .at bl ol) rfl k
    have e : l = without id (l.take (i + 1)) ++ [m] ++ l.drop (i + 1) := by
      rw [s1]
      have h1 := List.take_append_drop (i + 1) l
      rw [List.take_add_one, hm] at h1
      simpa using h1.symm
    have e2 : TL.flat l = TL.flat (without id (l.take (i + 1)) ++ [m] ++ l.drop (i + 1)) := congrArg _ e
    rw [e2] at k
    exact k
  rintro ⟨j, G, hj, less, hG⟩
  refine CondOb.split (fun g => ?_) (fun g => ?_)
  rotate_left
  · have g := of_decide_eq_false g
    replace g : ¬ (j : Int) < l.length := g
    have ej : j = l.length := by omega
    subst ej
    have et : l.take l.length = l := List.take_length
    have hcK : (without id l).length ≤ cp ∧ (without id l).length ≠ cp := by
      rw [et] at less; omega
    refine Need.mk (by simp only; omega) ?_
    rw [et] at less hG
    have hne : ¬ cp = ((without id (l.take l.length)).length : Int).toNat := by rw [et, Int.toNat_natCast]; omega
    refine Need.mk ?_ ?_
    · show (if cp = ((without id (l.take l.length)).length : Int).toNat then 0 else 0 + ((without id (l.take l.length)).length : Int).toNat * 3) + (l.length - ((without id (l.take l.length)).length : Int).toNat) * 3 ≤ (TL.flat (without id (l.take l.length) ++ G ++ l.drop l.length)).length
      rw [if_neg hne, et, Int.toNat_natCast, lT, List.length_append, List.length_append, hG]
      omega
    refine Need.mk (by rw [et]; omega) ?_
    refine FinOb.mk [.slice (locAddr 0 (.at bl ol)) ((without id (l.take l.length)).length : Int).toNat cp] [Vec (.at bl ol) 126 3 cp (TL.flat (without id l))] rfl (fun h k => sat_pick 0 rfl (fun _ k => ?_) (fun h k => sat_nil k) k) ⟨by rw [et, Int.toNat_natCast]; rfl, rfl⟩
    have k := vec_to (l := .at bl ol) rfl k
    simp only [TL.flat_append] at k
    have k := clear_cut (by rw [if_neg hne, et, Int.toNat_natCast, lT]; omega) (by rw [flat_len, et, Int.toNat_natCast, lT, hG]; exact Nat.le_refl _) k
    rw [et] at k
    exact k
  have g := of_decide_eq_true g
  replace g : (j : Int) < l.length := g
  have hq := List.getElem?_eq_getElem (show j < l.length by omega)
  generalize l[j]'(by omega) = q at *
  have ej1 : IntKind.i64.wrap ((j : Int) + 1) = ((j + 1 : Nat) : Int) := by rw [w64 (by omega) (by omega)]; omega
  have hKG : (without id (l.take j) ++ G).length = j := by rw [List.length_append]; omega
  have hat : (without id (l.take j) ++ G ++ l.drop j)[j]? = some q := by
    rw [List.getElem?_append_right (by omega), hKG, Nat.sub_self, List.getElem?_drop, Nat.add_zero]; exact hq
  have hlen : (without id (l.take j) ++ G ++ l.drop j).length = l.length := by rw [List.length_append, hKG, List.length_drop]; omega
  have hdr : l.drop j = q :: l.drop (j + 1) := by
    have hlt : j < l.length := by omega
    rw [List.drop_eq_getElem_cons hlt]
    rw [List.getElem?_eq_getElem hlt] at hq
    simp only [Option.some.injEq] at hq
    rw [hq]
  refine Need.mk ⟨Int.natCast_nonneg j, g⟩ ?_
  refine RdObL.mk q.svs (by decide) ?_ ?_ ?_
  · show 0 + j * 3 + 3 ≤ _
    rw [lT, hlen]; omega
  · rw [Int.toNat_natCast, Nat.zero_add]
    exact congrArg some (TL.flat_get hat).symm
  intro b7
  refine useR (.bool (q.id == id)) (gone_spec q id c) rfl (fun f' b hs _ => frame_cell hs hR) rfl ?_
  have ss := without_step (id := id) hq
  refine CondOb.split (fun g2 => ?_) (fun g2 => ?_)
  · have g2 : ¬ q.id = id := by simpa using g2
    rw [if_neg g2] at ss
    have ek : IntKind.i64.wrap (((without id (l.take j)).length : Int) + 1) = ((without id (l.take (j + 1))).length : Int) := by
      rw [ss, w64 (by omega) (by omega)]; simp
    refine Need.mk (by simp only; omega) ?_
    refine StOb.mk q.vals rfl (Need.mk ?_ ?_)
    · show 0 + (without id (l.take j)).length * 3 + 3 ≤ _
      rw [lT, hlen]; omega
    refine ⟨⟨j + 1, G.drop 1 ++ [q], by omega, by rw [ss, List.length_append]; simp only [List.length_singleton]; omega, ?_⟩, ?_, ?_⟩
    · rw [ss]; simp only [List.length_append, List.length_drop, hG, List.length_singleton]; omega
    · show l.length - (j + 1) < l.length - j
      omega
    · refine Le.of rfl ⟨⟨_, rfl, rfl⟩, ⟨_, rfl, rfl⟩, ⟨_, rfl, congrArg (fun z => some (Value.int .i64 z)) ek⟩, ⟨_, rfl, congrArg (fun z => some (Value.int .i64 z)) ej1⟩, trivial⟩ (fun h k => sat_pick 0 rfl (fun _ k => vec_of rfl ?_) (fun h k => sat_nil k) k)
      have k := vec_to (l := .at bl ol) rfl k
      rw [Int.toNat_natCast, Nat.zero_add] at k
      have e := TL.flat_set (l := without id (l.take j) ++ G ++ l.drop j) (i := (without id (l.take j)).length) (a := q) (by rw [hlen]; omega)
      have e2 : (without id (l.take j) ++ G ++ l.drop j).set (without id (l.take j)).length q = without id (l.take (j + 1)) ++ (G.drop 1 ++ [q]) ++ l.drop (j + 1) := by
        rw [set_mid (by omega), ss, hdr]; simp
      rw [e2] at e
      have k : Vec (.at bl ol) 126 3 cp (putV (TL.flat (without id (l.take j) ++ G ++ l.drop j)) ((without id (l.take j)).length * TL.sz) (TL.cells q)) _ := k
      rw [e] at k
      exact k
  · have g2 : q.id = id := by simpa using g2
    rw [if_pos g2, List.append_nil] at ss
    refine ⟨⟨j + 1, G ++ [q], by omega, by rw [ss]; omega, by rw [ss]; simp only [List.length_append, hG, List.length_singleton]; omega⟩, ?_, ?_⟩
    · show l.length - (j + 1) < l.length - j
      omega
    · refine Le.of rfl ⟨⟨_, rfl, rfl⟩, ⟨_, rfl, rfl⟩, ⟨_, rfl, congrArg (fun z => some (Value.int .i64 z)) (by rw [ss])⟩, ⟨_, rfl, congrArg (fun z => some (Value.int .i64 z)) ej1⟩, trivial⟩ (fun h k => sat_pick 1 rfl (fun _ k => vec_of rfl ?_) (fun h k => sat_nil k) k)
      have k := vec_to (l := .at bl ol) rfl k
      have e : without id (l.take j) ++ G ++ l.drop j = without id (l.take (j + 1)) ++ (G ++ [q]) ++ l.drop (j + 1) := by
        rw [ss, hdr]; simp
      rw [e] at k
      exact k
theorem del_spec (id : Int) (c : Nat) (s : Sp) (hc : s.l.length ≤ s.cap) (hl : s.l.length ≤ 1000000) :
    Does Try.prog 87 #[s.val, goneV c] (fun f => fcell f c 0 = some (.int .i64 id)) [s.vec]
      (fun v q => v = (Sp.mk s.pl s.cap (without id s.l)).val ∧ q = [(Sp.mk s.pl s.cap (without id s.l)).vec]) := by
  obtain ⟨pl, cp, l⟩ := s
  cases pl with
  | «at» bl ol => exact del_at id c bl ol cp l hc hl
  | nil =>
    cases l with
    | nil =>
      refine Does.ofJ Try.func87 Try.call87 rfl [.raw (.slice none 0 cp), goneS c] [] 0 [.asn (Vec .nil 126 3 cp [])] rfl rfl (fun h k => k) (fun f hR => ?_)
      refine call_ix (ixf_spec id c none cp [] (by decide)) rfl [] (fun h k => k) (fun f' b' hs hk => ⟨Reads.nil _ _, frame_cell hs hR⟩) ?_
      rintro v post ⟨rfl, ⟨hno, rfl⟩ | ⟨i, m, hm, hmid, hb, rfl⟩⟩
      · refine ⟨.int .i64 (-1), _, 2, [], NmExt.refl _, rfl, fun h k => trivial, ?_⟩
        refine CondOb.split (fun _ => ?_) (fun h => absurd h (by decide))
        exact FinOb.mk [.slice none 0 cp] [Vec .nil 126 3 cp []] rfl (fun h k => sat_pick 0 rfl (by first | exact fun _ k => k | exact fun _ k => blk_to rfl rfl k | exact fun _ k => vec_to rfl k | exact fun _ k => blk_of rfl rfl k | exact fun _ k => vec_of rfl k | exact fun _ k => blk_of rfl rfl (blk_to rfl rfl k) | exact fun _ k => vec_of rfl (vec_to rfl k) | exact fun _ k => mp_to rfl k | exact fun _ k => mp_of rfl k | exact fun _ k => mp_of rfl (mp_to rfl k)) (fun h k => sat_nil k) k) ⟨rfl, rfl⟩
      · simp at hm
    | cons n l =>
      refine nope Try.call87 fun h k => ?_
      obtain ⟨x, _, _, hx, _⟩ := k
      obtain ⟨b, o, e⟩ := vec_at (by rw [TL.flat_cons]; simp [TL, T.vals]) hx
      cases e
end Go.Proofs.Ytiknkeakielncaa.Wh
