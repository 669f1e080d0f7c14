/- What the deletion of those that aren't let in does. Conditions: none. -/
import Derived.Test.YtlgdagjbphafcaaUdpX
namespace Go.Proofs.Ytlgdagjbphafcaa.Udp
open Go Go.Proofs Sx
set_option maxRecDepth 100000
set_option linter.unusedVariables false

def stay (x : B) (ms : List M) : List M := ms.filter fun m => lets x m.a m.p
def drops (x : B) (ms : List M) : Nat := ((ms.filter fun m => !lets x m.a m.p).map (·.xs.length)).sum
theorem stay_step {x : B} {ms : List M} {i : Nat} {m : M} (h : ms[i]? = some m) : stay x (ms.take (i + 1)) = stay x (ms.take i) ++ (if lets x m.a m.p = true then [m] else []) := by
  rw [List.take_add_one, h]
  simp only [stay, List.filter_append, Option.toList, List.filter_cons, List.filter_nil]
theorem drops_step {x : B} {ms : List M} {i : Nat} {m : M} (h : ms[i]? = some m) : drops x (ms.take (i + 1)) = drops x (ms.take i) + (if lets x m.a m.p = true then 0 else m.xs.length) := by
  rw [List.take_add_one, h]
  simp only [drops, List.filter_append, Option.toList, List.filter_cons, List.filter_nil, List.map_append, List.sum_append]
  split <;> rename_i hh
  · have : lets x m.a m.p = false := by simpa using hh
    simp [this]
  · have : lets x m.a m.p = true := by simpa using hh
    simp [this]
theorem drops_cons {x : B} {m : M} {ms : List M} : drops x (m :: ms) ≤ m.xs.length + drops x ms := by
  unfold drops
  rw [List.filter_cons]
  split
  · rw [List.map_cons, List.sum_cons]; exact Nat.le_refl _
  · exact Nat.le_add_left _ _
theorem drops_le {x : B} {ms : List M} (h : ∀ m ∈ ms, m.xs.length ≤ 1000000000) : drops x ms ≤ ms.length * 1000000000 := by
  induction ms with
  | nil => exact Nat.zero_le _
  | cons m ms ih =>
    have h1 := ih (fun q hq => h q (List.mem_cons_of_mem _ hq))
    have h2 := h m (by simp)
    have h3 := drops_cons (x := x) (m := m) (ms := ms)
    rw [List.length_cons]
    omega
theorem flat_append (a b : List M) : flat (a ++ b) = flat a ++ flat b := by simp [flat]
theorem flat_drop {ms : List M} {i : Nat} {m : M} (h : ms[i]? = some m) : flat (ms.drop i) = m.cells ++ flat (ms.drop (i + 1)) := by
  have hl := (List.getElem?_eq_some_iff.1 h).1
  have : ms.drop i = m :: ms.drop (i + 1) := by
    rw [List.drop_eq_getElem_cons hl]
    rw [List.getElem?_eq_getElem hl] at h
    simp only [Option.some.injEq] at h
    rw [h]
  rw [this]; rfl
theorem vec_cut {l : Plc} {t : TypeId} {sz cap : Nat} {xs ys : List Value} {h : HP} (k : Vec l t sz cap (xs ++ ys) h) : Vec l t sz cap xs h := by
  obtain ⟨hp, ⟨h1, h2, h3⟩ | ⟨b', o', pre, post, h1, h2, h3, h4⟩⟩ := k
  · exact ⟨fun v hv => hp v (List.mem_append_left _ hv), .inl ⟨h1, (List.append_eq_nil_iff.1 h2).1, h3⟩⟩
  · exact ⟨fun v hv => hp v (List.mem_append_left _ hv), .inr ⟨b', o', pre, ys ++ post, h1, by simpa using h2, h3, by simp at h4 ⊢; omega⟩⟩
/-- Laid onto what is not needed any more. -/
theorem putV_mid {K G T c : List Value} {n : Nat} (hn : n = K.length) (hc : c.length ≤ G.length) : putV (K ++ G ++ T) n c = K ++ c ++ (G.drop c.length ++ T) := by
  subst hn
  have e := putV_pre K (G ++ T) 0 c
  rw [Nat.add_zero, ← List.append_assoc] at e
  rw [e, putV_post G T 0 c (by omega)]
  have e2 : putV G 0 c = c ++ G.drop c.length := by
    have e3 : G = G.take c.length ++ G.drop c.length := (List.take_append_drop _ _).symm
    have e4 : (G.take c.length).length = c.length := by simp; omega
    conv => lhs; rw [e3]
    rw [putV_post _ _ _ _ (by omega)]
    congr 1
    exact putV_all _ _ e4
  rw [e2]; simp

theorem lets_held (x : B) (h a p : Int) : lets { x with held := h } a p = lets x a p := rfl
theorem clear_cut {l : Plc} {t : TypeId} {sz cap n : Nat} {K G T Z : List Value} {h : HP} (hn : n = K.length) (hc : Z.length ≤ G.length) (k : Vec l t sz cap (putV (K ++ G ++ T) n Z) h) : Vec l t sz cap K h := by
  rw [putV_mid hn hc, List.append_assoc] at k
  exact vec_cut k
structure Id (x : B) (ms : List M) where
  j : Nat
  G : List Value
  held : Int
  hj : j ≤ ms.length
  less : (stay x (ms.take j)).length + 1 ≤ j
  hG : G.length = (j - (stay x (ms.take j)).length) * 3
  hheld : held = x.held - drops x (ms.take j)
def SD (x : B) (ms : List M) (b c bl ol cp : Nat) (lb : Plc) (capb : Nat) (z : Id x ms) : St :=
  ⟨42, [(0, .sl 1 0 ms.length cp), (1, .fn (.func 90) [] [.ptr 2 0]), (5, .int .i64 (stay x (ms.take z.j)).length), (6, .int .i64 z.j)], [(2, .at c 0), (1, .at bl ol)], 3,
    [.asn (CapA c b), .asn (BoxA b { x with held := z.held } lb capb), .vec 1 37 3 cp (flat (stay x (ms.take z.j)) ++ z.G ++ flat (ms.drop z.j))]⟩
theorem del_spec (b c : Nat) (x : B) (lb : Plc) (capb : Nat) (bl ol cp : Nat) (ms : List M) (hc : ms.length ≤ cp) (hl : ms.length ≤ 1000) (h0 : ∀ m ∈ ms, m.xs.length ≤ 1000000000) (h1 : 0 ≤ x.held) (h2 : x.held ≤ 100000000) :
    Does Try.prog 89 #[.slice (locAddr 0 (.at bl ol)) ms.length cp, .func (.func 90) #[] #[.pointer (some ⟨c, 0, none⟩)]] (fun _ => True) [CapA c b, BoxA b x lb capb, Vec (.at bl ol) 37 3 cp (flat ms)]
      (fun v q => v = .slice (locAddr 0 (.at bl ol)) (stay x ms).length cp ∧ q = [CapA c b, BoxA b { x with held := x.held - drops x ms } lb capb, Vec (.at bl ol) 37 3 cp (flat (stay x ms))]) := by
  refine Does.of Try.func89 Try.call89 rfl [.sl 1 0 ms.length cp, .fn (.func 90) [] [.ptr 2 0]] [(2, .at c 0), (1, .at bl ol)] 3 [.asn (CapA c b), .asn (BoxA b x lb capb), .vec 1 37 3 cp (flat ms)] rfl rfl (fun h => sat_cons (fun h k => k) (fun h => sat_cons (fun h k => k) (fun h => sat_cons (fun h => vec_of rfl) (fun h k => k)))) (fun f hR => ?_)
  refine call_asn [] [.vec 1 37 3 cp (flat ms)] (ix_spec b c x lb capb (locAddr 0 (.at bl ol)) cp ms hl h0 (by omega) (by omega)) rfl rfl (fun f' b' hs hk => vec_reads 0 hs hk rfl (l := .at bl ol) rfl) ?_
  rintro v post (⟨hall, rfl, rfl⟩ | ⟨i, m, hm, hbefore, hm2, rfl, rfl⟩)
  · refine ⟨.int .i64 (-1), _, 3, NmExt.refl _, rfl, _, fun h k => sat_asns k, ?_⟩
    have e1 : stay x ms = ms := by
      rw [stay, List.filter_eq_self]; exact hall
    have e2 : drops x ms = 0 := by
      have : ms.filter (fun m => !lets x m.a m.p) = [] := by
        rw [List.filter_eq_nil_iff]; intro m hm; simp [hall m hm]
      simp [drops, this]
    refine CondOb.split (fun _ => ?_) (fun h => absurd h (by decide))
    refine FinOb.mk [.slice (locAddr 0 (.at bl ol)) ms.length cp] [CapA c b, BoxA b x lb capb, Vec (.at bl ol) 37 3 cp (flat ms)] rfl (fun h k => sat_cons (fun h k => k) (fun h k => sat_cons (fun h k => k) (fun h k => sat_cons (fun h => vec_to rfl) (fun h k => k) k) k) k) ⟨by rw [e1]; rfl, by rw [e1, e2]; simp⟩
  refine ⟨.int .i64 i, _, 3, NmExt.refl _, rfl, _, fun h k => sat_asns k, ?_⟩
  have hi := (List.getElem?_eq_some_iff.1 hm).1
  refine CondOb.split (fun h => absurd h (by simp)) (fun _ => ?_)
  have ei : IntKind.i64.wrap ((i : Int) + 1) = ((i + 1 : Nat) : Int) := by rw [w64 (by omega) (by omega)]; omega
  have s0 : stay x (ms.take i) = ms.take i := by
    rw [stay, List.filter_eq_self]
    intro q hq
    obtain ⟨j, hj, e⟩ := List.getElem_of_mem hq
    simp at hj
    exact hbefore j q (by omega) (by rw [← e, List.getElem_take, List.getElem?_eq_getElem (by omega)])
  have d0 : drops x (ms.take i) = 0 := by
    have : (ms.take i).filter (fun m => !lets x m.a m.p) = [] := by
      rw [List.filter_eq_nil_iff]
      intro q hq
      obtain ⟨j, hj, e⟩ := List.getElem_of_mem hq
      simp at hj
      have := hbefore j q (by omega) (by rw [← e, List.getElem_take, List.getElem?_eq_getElem (by omega)])
      simp [this]
    simp [drops, this]
  have s1 := stay_step (x := x) hm
  have d1 := drops_step (x := x) hm
  rw [hm2] at s1 d1
  simp only [Bool.false_eq_true, if_false, List.append_nil] at s1 d1
  have sl : (stay x (ms.take (i + 1))).length = i := by rw [s1, s0]; simp; try omega
  refine LoopOb.mk (Id x ms) (SD x ms b c bl ol cp lb capb) (fun z => ms.length - z.j) ⟨i + 1, m.cells, (goes x m).held, by omega, by omega, by rw [sl]; simp [M.cells], by simp only [goes, hm2, d1, d0]; simp⟩ ?_ ?_
  · refine Le.of rfl ⟨⟨_, rfl, rfl⟩, ⟨_, rfl, rfl⟩, ⟨_, rfl, congrArg (fun z => some (Value.int .i64 z)) (by rw [sl])⟩, ⟨_, rfl, congrArg (fun z => some (Value.int .i64 z)) ei⟩, trivial⟩ (fun h k => ?_)
    refine sat_cons (fun h k => k) (fun h k => sat_cons (fun h k => ?_) (fun h k => sat_cons (fun h k => ?_) (fun h k => k) k) k) k
    · have e : goes x m = { x with held := (goes x m).held } := by simp [goes, hm2]
      rw [e] at k; exact k
    · have k := vec_to (l := .at bl ol) rfl k
      refine vec_of rfl ?_
      have e : flat ms = flat (stay x (ms.take (i + 1))) ++ m.cells ++ flat (ms.drop (i + 1)) := by
        rw [s1, s0, List.append_assoc, ← flat_drop hm, ← flat_append, List.take_append_drop]
      rw [e] at k; exact k
  rintro ⟨j, G, held, hj, less, hG, hheld⟩
  have hK3 := flat_length (stay x (ms.take j))
  have hD3 := flat_length (ms.drop j)
  have hdl := drops_le (x := x) (ms := ms.take j) (fun q hq => h0 q (List.mem_of_mem_take hq))
  have htl : (ms.take j).length ≤ 1000 := by simp; omega
  refine CondOb.split (fun g => ?_) (fun g => ?_)
  rotate_left
  · simp only [decide_eq_false_iff_not] at g
    replace g : ¬ (j : Int) < ms.length := g
    have ej : j = ms.length := by omega
    subst ej
    have et : ms.take ms.length = ms := List.take_length
    refine Need.mk (by simp only; omega) ?_
    rw [et] at less hG hheld hK3
    have hne : ¬ cp = ((stay x (ms.take ms.length)).length : Int).toNat := by rw [et, Int.toNat_natCast]; omega
    refine Need.mk ?_ ?_
    · show (if cp = ((stay x (ms.take ms.length)).length : Int).toNat then 0 else 0 + ((stay x (ms.take ms.length)).length : Int).toNat * 3) + (ms.length - ((stay x (ms.take ms.length)).length : Int).toNat) * 3 ≤ (flat (stay x (ms.take ms.length)) ++ G ++ flat (ms.drop ms.length)).length
      rw [if_neg hne, et, Int.toNat_natCast]
      simp only [List.length_append, hK3, hG]; omega
    refine Need.mk (by rw [et]; omega) ?_
    refine FinOb.mk [.slice (locAddr 0 (.at bl ol)) ((stay x (ms.take ms.length)).length : Int).toNat cp] [CapA c b, BoxA b { x with held := held } lb capb, Vec (.at bl ol) 37 3 cp (flat (stay x ms))] rfl (fun h k => ?_) ⟨by rw [et, Int.toNat_natCast]; rfl, by rw [hheld]⟩
    refine sat_cons (fun h k => k) (fun h k => sat_cons (fun h k => k) (fun h k => sat_cons (fun h k => ?_) (fun h k => k) k) k) (sat_perm (List.Perm.trans (List.Perm.swap _ _ _) (.cons _ (.swap _ _ _))) k)
    have k := clear_cut (by rw [if_neg hne, et, Int.toNat_natCast, hK3]; omega) (by rw [flat_len, et, Int.toNat_natCast, hG]; exact Nat.le_refl _) (vec_to (l := .at bl ol) rfl k)
    rw [et] at k
    exact k
  simp only [decide_eq_true_eq] at g
  replace g : (j : Int) < ms.length := g
  have hq := List.getElem?_eq_getElem (show j < ms.length by omega)
  have hm' := h0 (ms[j]'(by omega)) (List.getElem_mem _)
  generalize ms[j]'(by omega) = q at *
  have ej1 : IntKind.i64.wrap ((j : Int) + 1) = ((j + 1 : Nat) : Int) := by rw [w64 (by omega) (by omega)]; omega
  have hfd := flat_drop hq
  have ecell : List.take 3 (List.drop (0 + (j : Int).toNat * 3) (flat (stay x (ms.take j)) ++ G ++ flat (ms.drop j))) = q.cells := by
    have e1 : 0 + (j : Int).toNat * 3 = (flat (stay x (ms.take j)) ++ G).length := by simp only [List.length_append, hK3, hG, Int.toNat_natCast]; omega
    rw [e1, List.drop_left, hfd]
    exact List.take_left' rfl
  refine Need.mk ⟨Int.natCast_nonneg j, g⟩ ?_
  refine RdObL.mk [.int .u32 q.a, .int .u16 q.p, .raw q.sl] (by omega) ?_ ?_ ?_
  · simp only [List.length_append, hK3, hD3, hG, List.length_drop, Int.toNat_natCast]; omega
  · show some q.cells = some _
    rw [ecell]
  intro b7
  refine call_asn [_] [_] (go_spec b c { x with held := held } lb capb q hm' (by simp only; omega) (by simp only; omega)) rfl rfl (fun _ _ _ _ => trivial) ?_
  rintro v post ⟨rfl, rfl⟩
  refine ⟨.bool (!lets x q.a q.p), _, 4, NmExt.refl _, rfl, _, fun h k => sat_asns k, ?_⟩
  have ss := stay_step (x := x) hq
  have sd := drops_step (x := x) hq
  refine CondOb.split (fun g2 => ?_) (fun g2 => ?_)
  · have g2 : lets x q.a q.p = true := by simpa using g2
    rw [g2] at ss sd
    simp only [if_true, Nat.add_zero] at ss sd
    have ek : IntKind.i64.wrap (((stay x (ms.take j)).length : Int) + 1) = ((stay x (ms.take (j + 1))).length : Int) := by
      rw [ss, w64 (by omega) (by omega)]; simp
    refine Need.mk (by simp only; omega) ?_
    refine StOb.mk q.cells rfl (Need.mk ?_ ?_)
    · simp only [List.length_append, hK3, hD3, hG, List.length_drop, Int.toNat_natCast]
      show 0 + _ * 3 + 3 ≤ _
      omega
    refine ⟨⟨j + 1, G.drop 3 ++ q.cells, held, by omega, by rw [ss, List.length_append]; simp only [List.length_singleton]; omega, ?_, by rw [sd]; exact hheld⟩, ?_, ?_⟩
    · rw [ss]; simp only [List.length_append, List.length_drop, hG, List.length_singleton]
      show _ + 3 = _
      omega
    · show ms.length - (j + 1) < ms.length - j
      omega
    · refine Le.of rfl ⟨⟨_, rfl, rfl⟩, ⟨_, rfl, rfl⟩, ⟨_, rfl, congrArg (fun z => some (Value.int .i64 z)) ek⟩, ⟨_, rfl, congrArg (fun z => some (Value.int .i64 z)) ej1⟩, trivial⟩ (fun h k => ?_)
      refine sat_cons (fun h k => k) (fun h k => sat_cons (fun h k => ?_) (fun h k => sat_cons (fun h k => ?_) (fun h k => sat_nil k) k) k) (sat_perm (List.Perm.trans (List.Perm.swap _ _ _) (.cons _ (.swap _ _ _))) k)
      · have e : goes { x with held := held } q = { x with held := held } := by simp [goes, lets_held, g2]
        rw [e] at k; exact k
      · have k := vec_to (l := .at bl ol) rfl k
        refine vec_of rfl ?_
        have hn : 0 + ((stay x (ms.take j)).length : Int).toNat * 3 = (flat (stay x (ms.take j))).length := by rw [hK3, Int.toNat_natCast]; omega
        have e := putV_mid (K := flat (stay x (ms.take j))) (G := G) (T := flat (ms.drop j)) (c := q.cells) hn (by rw [hG]; show 3 ≤ _; omega)
        have k : Vec (.at bl ol) 37 3 cp (putV (flat (stay x (ms.take j)) ++ G ++ flat (ms.drop j)) (0 + ((stay x (ms.take j)).length : Int).toNat * 3) q.cells) h := k
        rw [e] at k
        simp only [ss, flat_append]
        have e2 : flat [q] = q.cells := by simp [flat]
        rw [e2]
        have e3 : flat (stay x (ms.take j)) ++ q.cells ++ (G.drop q.cells.length ++ flat (ms.drop j)) = flat (stay x (ms.take j)) ++ q.cells ++ (G.drop 3 ++ q.cells) ++ flat (ms.drop (j + 1)) := by
          rw [hfd]; simp [M.cells]
        rw [e3] at k
        exact k
  · have g2 : lets x q.a q.p = false := by simpa using g2
    rw [g2] at ss sd
    simp only [Bool.false_eq_true, if_false, List.append_nil] at ss sd
    refine ⟨⟨j + 1, G ++ q.cells, held - q.xs.length, by omega, by rw [ss]; omega, ?_, by rw [sd, hheld]; simp; omega⟩, ?_, ?_⟩
    · rw [ss]; simp only [List.length_append, hG]
      show _ + 3 = _
      omega
    · show ms.length - (j + 1) < ms.length - j
      omega
    · refine Le.of rfl ⟨⟨_, rfl, rfl⟩, ⟨_, rfl, rfl⟩, ⟨_, rfl, congrArg (fun z => some (Value.int .i64 z)) (by rw [ss])⟩, ⟨_, rfl, congrArg (fun z => some (Value.int .i64 z)) ej1⟩, trivial⟩ (fun h k => ?_)
      refine sat_cons (fun h k => k) (fun h k => sat_cons (fun h k => ?_) (fun h k => sat_cons (fun h k => ?_) (fun h k => k) (sat_tail k)) k) k
      · have e : goes { x with held := held } q = { x with held := held - q.xs.length } := by simp [goes, lets_held, g2]
        rw [e] at k; exact k
      · have k := vec_to (l := .at bl ol) rfl k
        refine vec_of rfl ?_
        simp only [ss]
        have e : flat (stay x (ms.take j)) ++ G ++ flat (ms.drop j) = flat (stay x (ms.take j)) ++ (G ++ q.cells) ++ flat (ms.drop (j + 1)) := by
          rw [hfd]; simp
        rw [← e]
        exact k
end Go.Proofs.Ytlgdagjbphafcaa.Udp
