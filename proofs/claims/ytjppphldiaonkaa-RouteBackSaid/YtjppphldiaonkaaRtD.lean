/- route: a way put into a list, and taken out. Conditions: none. -/
import Derived.Test.YtjppphldiaonkaaRtC
import Derived.Lib.Overlaps
namespace Go.Proofs.Ytjppphldiaonkaa.Rt
open Go Go.Proofs Sx
set_option maxRecDepth 100000
set_option linter.unusedVariables false
set_option linter.unusedSimpArgs false
set_option maxHeartbeats 4000000

theorem apart {f : HP} {b c : Nat} {o o' : Obj} {r : List Asn} {w : World} (h : At f (pt b o :: pt c o' :: r) w) : b ≠ c := by
  obtain ⟨x, s, y, z, t, hy, y1, z1, t2, hz, _⟩ := h
  intro e
  subst e
  have h1 : y b = some o := by rw [hy]; simp [one]
  have h2 : y1 b = some o' := by rw [hz]; simp [one]
  have h3 : z b = some o' := t2.get h2
  have := t.other h1
  rw [h3] at this; cases this
theorem flat1 (x : R) : RL.flat [x] = x.vals := RL.flat_one x
theorem over65 (w : World) (vals : List Value) (v : Value) (h : (Extern.SlicesOverlaps.overlaps #[90, 90] #[4] vals.toArray).run Try.prog w = .ok v w) : (callFunc 65 vals.toArray).run Try.prog w = .ok (.value v) w := by
  rw [run_callFunc_extern Try.func65 (by kernel_rfl) (by kernel_rfl) (by kernel_rfl) (e := Extern.SlicesOverlaps.overlaps #[90, 90] #[4]) (by kernel_rfl), h]
  rfl
theorem over_apart {f : HP} {w0 : World} {s : St} {a : Act} {w : World} {pl : Plc} {c cap n k : Nat} {xs ys : List Value} {r : List Ent} (R : Rel f w0 s a w)
    (hs : s.hp = .vec n 85 5 cap xs :: .vec k 85 5 1 ys :: r) (hn : getN s.nm n = some pl) (hk : getN s.nm k = some (.at c 0)) (hc : 0 < cap) (lo la ca lb cb : Nat) :
    (callFunc 65 #[.slice (some ⟨c, 0, none⟩) la ca, .slice (locAddr lo pl) lb cb]).run Try.prog w = .ok (.value (.bool false)) w := by
  obtain ⟨x, t, hh⟩ := R.heap
  have hh : sat (s.hp.map (entDen s.nm)) x := hh
  rw [hs] at hh
  obtain ⟨y, z, sp, ⟨l, e1, _, hA⟩, y1, z1, sp2, ⟨l2, e2, _, hB⟩, _⟩ := hh
  rw [hn] at e1; rw [hk] at e2
  cases e1; cases e2
  rcases hA with ⟨_, _, e⟩ | ⟨b, o, pre, post, e, hp, hpre, hcap⟩
  · omega
  rcases hB with ⟨e2, _⟩ | ⟨b2, o2, pre2, post2, e2, hp2, hpre2, hcap2⟩
  · cases e2
  cases e2
  subst e
  have h1 : y b = some (.cells (pre ++ xs ++ post).toArray 85 (0, 0)) := by rw [hp]; simp [one]
  have h2 : y1 c = some (.cells (pre2 ++ ys ++ post2).toArray 85 (0, 0)) := by rw [hp2]; simp [one]
  have h3 : z c = some (.cells (pre2 ++ ys ++ post2).toArray 85 (0, 0)) := sp2.get h2
  have hne : c ≠ b := by
    intro e
    subst e
    have := sp.other h1
    rw [h3] at this; cases this
  have g1 : w.heap[b]? = some (.cells (pre ++ xs ++ post).toArray 85 (0, 0)) := (hpOf_some.mp (t.get (sp.get h1))).1
  have g2 : w.heap[c]? = some (.cells (pre2 ++ ys ++ post2).toArray 85 (0, 0)) := (hpOf_some.mp (t.get (sp.comm.get h3))).1
  refine over65 w [.slice (some ⟨c, 0, none⟩) la ca, .slice (some ⟨b, o + lo, none⟩) lb cb] (.bool false) ?_
  refine Go.Lib.run_overlaps_apart w 90 4 85 (by kernel_rfl) 5 (fun w => (sizeOf_run (P := Try.prog) (t := 85) rfl w).trans rfl) ⟨c, 0, none⟩ ⟨b, o + lo, none⟩ la ca lb cb hne 85 85 (pre2 ++ ys ++ post2).toArray.size (pre ++ xs ++ post).toArray.size (by simp only [World.shape?, g2]) (by simp only [World.shape?, g1]) ?_ (free_of g2 _) (free_of g2 _)
  simp only [List.size_toArray, List.length_append]
  omega
theorem ins_a (p q x z : List Value) (a b c : Nat) (ha : p.length = a) (hb : x.length + a = b) (hc : q.length + b = c) (hz : z.length = x.length + q.length) :
    (((p ++ z).take a ++ x ++ (p ++ z).drop b).take b ++ q ++ ((p ++ z).take a ++ x ++ (p ++ z).drop b).drop c) = p ++ x ++ q := by
  subst ha
  have h1 : (p ++ z).take p.length = p := by simp
  have h2 : ((p ++ z).drop b).length = q.length := by simp; omega
  have h3 : (p ++ x).length = b := by simp; omega
  rw [h1, List.take_append_of_le_length (by omega), List.take_of_length_le (by omega), List.drop_eq_nil_of_le (by rw [List.length_append, h2, h3]; omega), List.append_nil]
theorem ins_b (p q x : List Value) (a b c : Nat) (ha : p.length = a) (hb : x.length + a = b) (hq : x.length ≤ q.length) (hc : b + q.length = c) :
    (((p ++ q).take b ++ q ++ (p ++ q).drop c).take a ++ x ++ ((p ++ q).take b ++ q ++ (p ++ q).drop c).drop b) = p ++ x ++ q := by
  subst ha
  have h1 : ((p ++ q).take b).length = b := by simp; omega
  have h2 : (p ++ q).drop c = [] := List.drop_eq_nil_of_le (by simp; omega)
  rw [h2, List.append_nil, List.take_append_of_le_length (by omega), List.take_take, Nat.min_eq_left (by omega), List.take_left, List.drop_append_of_le_length (by omega), List.drop_of_length_le (by omega), List.nil_append]
theorem zl (z : Value) (n k : Nat) (h : z.cells.toList.length = k) : (zerosV z n).length = n * k := by unfold zerosV; rw [flat_len, h]
theorem insert_spec (pl : Plc) (cap c : Nat) (ws : List R) (x : R) (i : Nat) (hi : i ≤ ws.length) (hl : ws.length ≤ 100000) (hc : ws.length ≤ cap) :
    Does Try.prog 46 #[.slice (locAddr 0 pl) ws.length cap, .int .i64 i, .slice (some ⟨c, 0, none⟩) 1 1] (fun _ => True) [Vec pl 85 5 cap (RL.flat ws), Vec (.at c 0) 85 5 1 (RL.flat [x])]
      (fun v q => ∃ pl' c', v = .slice (locAddr 0 pl') (ws.length + 1) c' ∧ ws.length + 1 ≤ c' ∧ q = [Vec pl' 85 5 c' (RL.flat (ws.take i ++ [x] ++ ws.drop i))]) := by
  generalize hn : ws.length = n at *
  refine Does.ofJ Try.func46 Try.call46 rfl [.sl 0 0 n cap, .int .i64 i, .sl 1 0 1 1] [(0, pl), (1, .at c 0)] 2 [.vec 0 85 5 cap (RL.flat ws), .vec 1 85 5 1 (RL.flat [x])] rfl rfl (fun h k => sat_pick 0 rfl (fun _ k => vec_of rfl k) (fun h k => sat_pick 0 rfl (fun _ k => vec_of rfl k) (fun h k => sat_nil k) k) k) (fun f hR => ?_)
  have hF : (RL.flat ws).length = n * 5 := by rw [lR, hn]
  refine Need.mk ⟨Int.natCast_nonneg _, by omega⟩ ?_
  refine CondOb.split (fun h => absurd h (by decide)) (fun _ => ?_)
  refine CondOb.split (fun g => ?_) (fun g => ?_)
  · have g : i = n := by
      have g2 : ((i : Int) == n) = true := g
      rw [beq_iff_eq] at g2
      exact Int.ofNat_inj.mp g2
    refine Need.mk (by rw [lR]; simp) ?_
    refine Need.mk ⟨by rw [hF]; omega, by omega, hc⟩ ?_
    refine Need.mk ⟨by omega, by simp only [maxLen]; omega, fun v hv => RL.flat_one' [x] v (List.mem_of_mem_drop (List.mem_of_mem_take hv))⟩ ?_
    refine NewSl.pos (by omega) (fun b o c' hc' => ?_)
    refine FinOb.mk [.slice (some ⟨b, o, none⟩) (n + 1) c'] [Vec (.at b o) 85 5 c' (RL.flat (ws.take i ++ [x] ++ ws.drop i))] rfl (fun h k => sat_pick 0 rfl (fun _ k => ?_) (fun h k => sat_nil k) k) ⟨.at b o, c', rfl, hc', rfl⟩
    have k := vec_to (l := .at b o) rfl k
    rw [g, ← hn, List.take_length, List.drop_length, List.append_nil, RL.flat_append]
    rw [List.drop_zero, List.take_of_length_le (by rw [hF]; omega), List.drop_zero, List.take_of_length_le (by rw [lR]; simp)] at k
    exact k
  have g : i ≠ n := fun e => by subst e; simp at g
  have hin : i < n := by omega
  have en : IntKind.i64.wrap ((n : Int) + 1) = n + 1 := w64 (by omega) (by omega)
  have en' : IntKind.i64.wrap ((n : Int) + (1 : Nat)) = n + 1 := en
  have e2 : IntKind.i64.wrap (IntKind.i64.wrap ((n : Int) + (1 : Nat)) - i) = n + 1 - i := by rw [en', w64 (by omega) (by omega)]
  have e3 : (IntKind.i64.wrap (IntKind.i64.wrap ((n : Int) + (1 : Nat)) - i)).toNat = n + 1 - i := by rw [e2]; omega
  have e4 : IntKind.i64.wrap ((i : Int) + (1 : Nat)) = i + 1 := w64 (by omega) (by omega)
  have e5 : (IntKind.i64.wrap ((i : Int) + (1 : Nat))).toNat = i + 1 := by rw [e4]; omega
  have hi3 : (if cap = i then 0 else i * 5) = i * 5 := if_neg (by omega)
  have hX : (RL.flat [x]).length = 5 := by rw [lR]; simp
  have hP : (RL.flat (ws.take i)).length = i * 5 := by rw [lR, List.length_take, hn, Nat.min_eq_left hi]
  have hQ : (RL.flat (ws.drop i)).length = (n - i) * 5 := by rw [lR, List.length_drop, hn]
  have tP : (RL.flat ws).take (i * 5) = RL.flat (ws.take i) := RL.flat_take ws i
  have tQ : (RL.flat ws).drop (i * 5) = RL.flat (ws.drop i) := RL.flat_drops ws i
  have tF : RL.flat ws = RL.flat (ws.take i) ++ RL.flat (ws.drop i) := RL.flat_split ws i
  have m1 : min 1 (i + (n + 1 - i) - i) = 1 := by omega
  have m2 : min (n - i) (i + (n + 1 - i) - (i + 1)) = n - i := by omega
  have hZ : ∀ z : Value, z.cells.toList.length = 5 → (zerosV z (n + 1 - i)).length = (n + 1 - i) * 5 := fun z h => zl z _ 5 h
  have tX : (RL.flat [x]).take (1 * 5) = RL.flat [x] := List.take_of_length_le (by rw [hX]; exact Nat.le_refl _)
  have tQ2 : (RL.flat (ws.drop i)).take ((n - i) * 5) = RL.flat (ws.drop i) := List.take_of_length_le (by rw [hQ]; exact Nat.le_refl _)
  have q1 : i * 5 + 1 * 5 = (i + 1) * 5 := by omega
  have oX : ∀ v ∈ RL.flat [x], v.oneCell' = true := RL.flat_one' [x]
  have oF : ∀ v ∈ RL.flat ws, v.oneCell' = true := RL.flat_one' ws
  have hi4 : n + 1 ≤ cap → (if cap = i + 1 then 0 else (i + 1) * 5) = (i + 1) * 5 := fun h => if_neg (by omega)
  have m3 : min (n + 1 - i) (n + 1 - (i + 1)) = n - i := by omega
  have m4 : min 1 (n + 1 - i) = 1 := by omega
  refine CondOb.split (fun g2 => ?_) (fun g2 => ?_)
  · have g2 : (cap : Int) < n + 1 := by rw [en'] at g2; exact of_decide_eq_true g2
    refine Need.mk ⟨Int.natCast_nonneg _, by omega⟩ ?_
    refine Need.mk (by rw [e2]; omega) ?_
    refine Need.mk ⟨by rw [hF, Int.toNat_natCast]; omega, by omega, by rw [Int.toNat_natCast]; omega⟩ ?_
    refine Need.mk (by rw [e3, Int.toNat_natCast]; refine ⟨by omega, by simp only [maxLen]; omega, fun v hv => ?_⟩; simp only [zerosV, List.mem_flatten, List.mem_replicate] at hv; obtain ⟨_, ⟨_, rfl⟩, hv⟩ := hv; revert v; decide) ?_
    refine NewSl.grow (by rw [e3, Int.toNat_natCast]; simp only [growP]; omega) (fun b o c' hc' => ?_)
    rw [e3, Int.toNat_natCast] at hc'
    have hi1 : (if c' = i then 0 else i * 5) = i * 5 := if_neg (by omega)
    have hi2 : (if c' = i + 1 then 0 else (i + 1) * 5) = (i + 1) * 5 := if_neg (by omega)
    refine Need.mk (by rw [e3, Int.toNat_natCast]; omega) ?_
    refine Need.mk (by rw [hX]; have := Nat.min_le_left 1 (lenS (SV.sl 2 (if c' = (i : Int).toNat then 0 else 0 + (i : Int).toNat * 5) ((i : Int).toNat + (IntKind.i64.wrap (IntKind.i64.wrap ((n : Int) + (1 : Nat)) - i)).toNat - (i : Int).toNat) (c' - (i : Int).toNat))); omega) ?_
    refine Need.mk (by
      simp only [lenS, e3, Int.toNat_natCast, List.drop_zero, hi1, Nat.zero_add, m1]
      refine ⟨by rw [tP, List.length_append, hP]; omega, by omega, fun v hv => oX v (List.mem_of_mem_take hv)⟩) ?_
    refine DrawOb.mk [] (.run [0, 1, 2, 3, 4, 5, 6, 7, 8] .nil) (by kernel_rfl) ?_
    refine Need.mk (by rw [e4, e3, Int.toNat_natCast]; omega) ?_
    refine Need.mk ⟨Int.natCast_nonneg _, by omega⟩ ?_
    refine Need.mk (by simp only [lenS, e3, e5, Int.toNat_natCast, List.drop_zero, hi1, hi2, hi3, Nat.zero_add, hF, m2]; omega) ?_
    refine Need.mk (by
      simp only [lenS, e3, e5, Int.toNat_natCast, List.drop_zero, hi1, hi2, hi3, Nat.zero_add, m1, m2]
      refine ⟨?_, by omega, fun v hv => oF v (List.mem_of_mem_drop (List.mem_of_mem_take hv))⟩
      rw [tP, List.length_append, List.length_append, List.length_take, List.length_append, hP, hZ _ rfl, List.take_of_length_le (by rw [hX]; exact Nat.le_refl _), hX]
      omega) ?_
    have hi9 : i + (n + 1 - i) = n + 1 := by omega
    refine FinOb.mk [.slice (some ⟨b, o, none⟩) (n + 1) c'] [Vec (.at b o) 85 5 c' (RL.flat (ws.take i ++ [x] ++ ws.drop i))] (by simp only [e3, Int.toNat_natCast, hi9]; rfl) (fun h k => sat_pick 0 rfl (fun _ k => ?_) (fun h k => sat_nil k) k) ⟨.at b o, c', rfl, by omega, rfl⟩
    have k := vec_to (l := .at b o) rfl k
    simp only [lenS, e3, e5, Int.toNat_natCast, List.drop_zero, hi1, hi2, hi3, Nat.zero_add, m1, m2] at k
    rw [tP, tQ, tX, tQ2, q1] at k
    rw [ins_a (RL.flat (ws.take i)) (RL.flat (ws.drop i)) (RL.flat [x]) _ _ _ _ hP (by rw [hX]; omega) (by rw [hQ]; omega) (by rw [hX, hQ, hZ _ rfl]; omega)] at k
    rw [RL.flat_append, RL.flat_append]
    exact k
  have g2 : n + 1 ≤ cap := by
    rw [en'] at g2
    have := of_decide_eq_false g2
    omega
  have hi4 := hi4 g2
  have e6 : (IntKind.i64.wrap ((n : Int) + (1 : Nat))).toNat = n + 1 := by rw [en']; omega
  refine Need.mk (by rw [en']; omega) ?_
  refine Need.mk (by rw [e4, en']; omega) ?_
  refine CallOb.ext _ .ff ?_ (fun w0 a w vals R hv => ?_)
  · refine DrawOb.mk [] (.run [0, 1, 2, 3, 4, 5, 6, 7, 8] .nil) (by kernel_rfl) ?_
    refine Need.mk (by rw [e4, en']; omega) ?_
    refine Need.mk (by rw [e6]; omega) ?_
    refine Need.mk (by simp only [lenS, e6, e5, Int.toNat_natCast, hi3, hi4, Nat.zero_add, m3, hF]; omega) ?_
    refine Need.mk (by
      simp only [lenS, e6, e5, Int.toNat_natCast, hi3, hi4, Nat.zero_add, m3, hF]
      exact ⟨by omega, by omega, fun v hv => oF v (List.mem_of_mem_drop (List.mem_of_mem_take hv))⟩) ?_
    refine Need.mk (by rw [e6]; omega) ?_
    refine Need.mk (by simp only [lenS, e6, e5, Int.toNat_natCast, hi3, hi4, Nat.zero_add, m3, m4, hX]; omega) ?_
    refine Need.mk (by
      simp only [lenS, e6, e5, Int.toNat_natCast, hi3, hi4, Nat.zero_add, m3, m4, hF, hX]
      refine ⟨?_, by omega, fun v hv => oX v (List.mem_of_mem_drop (List.mem_of_mem_take hv))⟩
      simp only [List.length_append, List.length_take, List.length_drop, hF]
      omega) ?_
    refine FinOb.mk [.slice (locAddr 0 pl) (n + 1) cap] [Vec pl 85 5 cap (RL.flat (ws.take i ++ [x] ++ ws.drop i))] (by simp only [e6]; rfl) (fun h k => sat_pick 0 rfl (fun _ k => ?_) (fun h k => sat_nil k) k) ?_
    · have k := vec_to (l := pl) rfl k
      simp only [lenS, e6, e5, Int.toNat_natCast, List.drop_zero, hi3, hi4, Nat.zero_add, m3, m4] at k
      rw [tQ, tX, tQ2, q1, tF, ins_b (RL.flat (ws.take i)) (RL.flat (ws.drop i)) (RL.flat [x]) _ _ _ hP (by rw [hX]; omega) (by rw [hX, hQ]; omega) (by rw [hQ])] at k
      rw [RL.flat_append, RL.flat_append]
      exact k
    exact ⟨pl, cap, rfl, g2, rfl⟩
  · refine ⟨.bool false, rfl, ?_⟩
    cases hv
    exact over_apart R rfl rfl rfl (by omega) _ _ _ _ _
end Go.Proofs.Ytjppphldiaonkaa.Rt
namespace Go.Proofs.Ytjppphldiaonkaa.Rt
open Go Go.Proofs Sx
set_option maxRecDepth 100000
set_option linter.unusedVariables false
set_option linter.unusedSimpArgs false
set_option maxHeartbeats 4000000

theorem del_cut {l : Plc} {t : TypeId} {sz cap n : Nat} {K G Z : List Value} {h : HP} (hn : n = K.length) (hc : Z.length ≤ G.length) (k : Vec l t sz cap (putV (K ++ G) n Z) h) : Vec l t sz cap K h :=
  clear_cut (T := []) hn hc (by rw [List.append_nil]; exact k)
theorem delete_spec (pl : Plc) (cap : Nat) (ws : List R) (i : Nat) (hi : i < ws.length) (hl : ws.length ≤ 100000) (hc : ws.length ≤ cap) :
    Does Try.prog 56 #[.slice (locAddr 0 pl) ws.length cap, .int .i64 i, .int .i64 (i + 1)] (fun _ => True) [Vec pl 85 5 cap (RL.flat ws)]
      (fun v q => v = .slice (locAddr 0 pl) (ws.length - 1) cap ∧ q = [Vec pl 85 5 cap (RL.flat (ws.eraseIdx i))]) := by
  generalize hn : ws.length = n at *
  refine Does.ofJ Try.func56 Try.call56 rfl [.sl 0 0 n cap, .int .i64 i, .int .i64 (i + 1)] [(0, pl)] 1 [.vec 0 85 5 cap (RL.flat ws)] rfl rfl (fun h k => sat_pick 0 rfl (fun _ k => vec_of rfl k) (fun h k => sat_nil k) k) (fun f hR => ?_)
  have hF : (RL.flat ws).length = n * 5 := by rw [lR, hn]
  have e1 : ((i : Int) + 1).toNat = i + 1 := by omega
  have tP : (RL.flat ws).take (i * 5) = RL.flat (ws.take i) := RL.flat_take ws i
  have hQ : (RL.flat (ws.drop (i + 1))).length = (n - (i + 1)) * 5 := by rw [lR, List.length_drop, hn]
  have tQ : ((RL.flat ws).drop (if cap = i + 1 then 0 else (i + 1) * 5)).take ((n - (i + 1)) * 5) = RL.flat (ws.drop (i + 1)) := by
    by_cases hci : cap = i + 1
    · have : n = i + 1 := by omega
      subst this
      rw [Nat.sub_self, Nat.zero_mul, List.take_zero, List.drop_of_length_le (l := ws) (by omega)]
      rfl
    · have : (RL.flat ws).drop ((i + 1) * 5) = RL.flat (ws.drop (i + 1)) := RL.flat_drops ws (i + 1)
      rw [if_neg hci, this, List.take_of_length_le (by rw [hQ]; exact Nat.le_refl _)]
  refine Need.mk (by omega) ?_
  refine CondOb.split (fun h => absurd h (by simp; omega)) (fun _ => ?_)
  refine DrawOb.mk [] (.run [0, 1, 2, 3, 4, 5, 6, 7] .nil) (by kernel_rfl) ?_
  refine Need.mk (by omega) ?_
  refine Need.mk (by omega) ?_
  refine Need.mk (by rw [e1, hF]; split <;> omega) ?_
  refine Need.mk (by rw [hF, Int.toNat_natCast]; omega) ?_
  refine Need.mk (by rw [e1, Int.toNat_natCast]; exact ⟨by omega, by simp only [maxLen]; omega, fun v hv => RL.flat_one' ws v (List.mem_of_mem_drop (List.mem_of_mem_take hv))⟩) ?_
  refine NewSl.fit (by rw [e1, Int.toNat_natCast]; exact ⟨by omega, by omega⟩) ?_
  have e2 : ((((i : Int).toNat + (n - ((i : Int) + 1).toNat) : Nat) : Int)).toNat = n - 1 := by omega
  have e3 : (i : Int).toNat + (n - ((i : Int) + 1).toNat) = n - 1 := by omega
  have hlo : (if cap = n - 1 then 0 else 0 + (n - 1) * 5) = (n - 1) * 5 := by rw [if_neg (by omega)]; omega
  have hP : (RL.flat (ws.take i)).length = i * 5 := by rw [lR, List.length_take, hn, Nat.min_eq_left (by omega)]
  refine Need.mk (by omega) ?_
  refine Need.mk (by
    rw [e2, hlo, e1]
    simp only [Int.toNat_natCast, Nat.zero_add, tP, tQ]
    rw [List.length_append, List.length_append, hP, hQ, List.length_drop, hF]
    omega) ?_
  refine FinOb.mk [.slice (locAddr 0 pl) (n - 1) cap] [Vec pl 85 5 cap (RL.flat (ws.eraseIdx i))] (by rw [e3]; rfl) (fun h k => sat_pick 0 rfl (fun _ k => ?_) (fun h k => sat_nil k) k) ⟨rfl, rfl⟩
  have k := vec_to (l := pl) rfl k
  rw [e2, hlo, e1] at k
  simp only [Int.toNat_natCast, Nat.zero_add, tP, tQ] at k
  have hG : ((RL.flat ws).drop ((i + (n - (i + 1))) * 5)).length = 5 := by rw [List.length_drop, hF]; omega
  have hr : n - (n - 1) = 1 := by omega
  rw [hr] at k
  rw [List.eraseIdx_eq_take_drop_succ, RL.flat_append]
  refine del_cut ?_ ?_ k
  · rw [List.length_append, hP, hQ]; omega
  · rw [hG]; decide
end Go.Proofs.Ytjppphldiaonkaa.Rt
