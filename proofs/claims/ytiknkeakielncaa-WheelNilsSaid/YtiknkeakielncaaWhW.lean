/- wheel: WheelOnce, walked. Conditions: none. -/
import Derived.Test.YtiknkeakielncaaWhV
namespace Go.Proofs.Ytiknkeakielncaa.Wh
open Go Go.Proofs Sx
set_option maxRecDepth 100000
set_option linter.unusedVariables false
set_option linter.unusedSimpArgs false
set_option maxHeartbeats 4000000

abbrev UI : Lay Int := ints .u32
def BL : Lay Bool where
  cells b := [.bool b]
  sz := 1
  len _ := rfl
  one _ v hv := by simp at hv; subst hv; rfl
def gl (n : Nat) (g : Nat → Bool) : List Bool := (List.range n).map g
theorem gl_len (n : Nat) (g : Nat → Bool) : (BL.flat (gl n g)).length = n * 1 := by rw [BL.flat_length]; simp [gl, BL]
theorem gl_at {n i : Nat} (g : Nat → Bool) (hi : i < n) : (BL.flat (gl n g))[0 + i * 1]? = some (.bool (g i)) := by
  rw [Nat.zero_add]
  exact BL.flat_at (l := gl n g) (i := i) (a := g i) (j := 0) (by simp [gl, hi]) rfl
theorem gl_set {n i : Nat} (g : Nat → Bool) (hi : i < n) : putV (BL.flat (gl n g)) (0 + i * 1) [.bool true] = BL.flat (gl n (fun j => g j || decide (j = i))) := by
  rw [Nat.zero_add]
  have h := BL.flat_set (l := gl n g) (i := i) (a := true) (by simpa [gl] using hi)
  have e : (gl n g).set i true = gl n (fun j => g j || decide (j = i)) := by
    apply List.ext_getElem (by simp [gl])
    intro j h1 h2
    rw [List.getElem_set]
    by_cases q : i = j
    · subst q; simp [gl]
    · have : ¬ j = i := fun e => q e.symm
      simp [gl, q, this]
  rw [← e]; exact h
theorem gl_rep (m : Nat) : (List.replicate m [Value.bool false]).flatten = BL.flat (gl m fun _ => false) := by
  have : gl m (fun _ => false) = List.replicate m false := by
    unfold gl; rw [List.eq_replicate_iff]; simp
  rw [this]
  simp [Lay.flat, List.flatMap, BL]
theorem vec_eq {nm : List (Nat × Plc)} {m : Nat} {t : TypeId} {sz cap : Nat} {xs ys : List Value} {h : HP} (e : xs = ys) (k : entDen nm (.vec m t sz cap xs) h) : entDen nm (.vec m t sz cap ys) h := e ▸ k
/-! ### The timers that WheelOnce sets -/
def onceL (xs : List Int) (k : Nat) : List T := (List.range k).map fun i : Nat => ⟨i, xs.getD i 0, i⟩
theorem once_mem {xs : List Int} {k : Nat} {t : T} : t ∈ onceL xs k ↔ ∃ i : Nat, i < k ∧ t = ⟨i, xs.getD i 0, i⟩ := by
  unfold onceL
  rw [List.mem_map]
  constructor
  · rintro ⟨i, hi, rfl⟩; exact ⟨i, List.mem_range.1 hi, rfl⟩
  · rintro ⟨i, hi, rfl⟩; exact ⟨i, List.mem_range.2 hi, rfl⟩
theorem once_set {xs : List Int} {k : Nat} (hk : k ≤ 150) (h0 : 0 ≤ xs.getD k 0) (h1 : xs.getD k 0 ≤ 4294967295) :
    setC (onceL xs k) k (xs.getD k 0) = 0 ∧ setN (onceL xs k) k (xs.getD k 0) k = (k + 1 : Nat) ∧ setL (onceL xs k) k (xs.getD k 0) k = onceL xs (k + 1) := by
  have hf : (onceL xs k).find? (fun t => (k : Int) == t.id) = none := by
    rw [find_none]
    intro t ht e
    obtain ⟨i, hi, rfl⟩ := once_mem.1 ht
    have e : (i : Int) = k := e
    omega
  have hl : (onceL xs k).length = k := by simp [onceL]
  have hc : setC (onceL xs k) k (xs.getD k 0) = 0 := by
    unfold setC
    rw [if_neg (by show ¬ (xs.getD k 0 < 0 ∨ 1099511627776 < xs.getD k 0); omega), if_neg (fun q => by have := q.2; omega)]
  refine ⟨hc, ?_, ?_⟩
  · unfold setN; rw [if_pos hc]; omega
  · unfold setL; rw [if_pos hc, without_none (find_none.1 hf)]
    unfold onceL
    rw [List.range_succ, List.map_append]
    rfl
/-- What is told already, and what hangs still. -/
structure Half (n : Nat) (L : List T) (now : Int) (M : List T) (o : Nat → Bool) : Prop where
  sub : ∀ t ∈ M, t ∈ L
  told : ∀ i : Nat, i < n → ∀ t ∈ L, t.id = i → (o i = true ↔ t ∉ M)
  past : ∀ t ∈ L, t ∉ M → t.at_ ≤ now
theorem Half.step {n : Nat} {L : List T} {now y : Int} {M d : List T} {o : Nat → Bool} (hL : Ids L) (h : Half n L now M o) (hy : now ≤ y) (hd : Told y M d) :
    Half n L y (ahead y M) (fun i => o i || d.any (fun t => t.id == (i : Int))) ∧ ∀ i : Nat, i < n → ∀ t ∈ L, t.id = i → (o i || d.any (fun t => t.id == (i : Int))) = decide (t.at_ ≤ y) := by
  have hmem : ∀ t, t ∈ d ↔ t ∈ M ∧ t.at_ ≤ y := fun t => by
    rw [hd.perm.mem_iff, List.mem_filter]; simp [isLate]
  have hah : ∀ t, t ∈ ahead y M ↔ t ∈ M ∧ ¬ t.at_ ≤ y := fun t => by
    unfold ahead; rw [List.mem_filter]; simp [isLate]
  have hany : ∀ i : Nat, ∀ t ∈ L, t.id = i → (d.any (fun t => t.id == (i : Int)) = true ↔ t ∈ d) := fun i t ht e => by
    rw [List.any_eq_true]
    constructor
    · rintro ⟨u, hu, q⟩
      have q : u.id = i := by simpa using q
      have : u = t := hL.inj (h.sub u ((hmem u).1 hu).1) ht (by omega)
      rw [← this]; exact hu
    · intro hu; exact ⟨t, hu, by simp [e]⟩
  have key : ∀ i : Nat, i < n → ∀ t ∈ L, t.id = i → ((o i || d.any (fun t => t.id == (i : Int))) = true ↔ t ∉ ahead y M) := fun i hi t ht e => by
    rw [Bool.or_eq_true, h.told i hi t ht e, hany i t ht e, hmem, hah]
    by_cases q : t ∈ M <;> by_cases r : t.at_ ≤ y <;> simp [q, r]
  refine ⟨⟨fun t ht => h.sub t ((hah t).1 ht).1, key, fun t ht hn => ?_⟩, fun i hi t ht e => ?_⟩
  · by_cases q : t ∈ M
    · by_cases r : t.at_ ≤ y
      · exact r
      · exact absurd ((hah t).2 ⟨q, r⟩) hn
    · have := h.past t ht q; omega
  · rw [Bool.eq_iff_iff, key i hi t ht e, hah, decide_eq_true_eq]
    by_cases q : t ∈ M
    · by_cases r : t.at_ ≤ y <;> simp [q, r]
    · have := h.past t ht q
      simp [q]; omega
theorem once_spec (B C : Option Addr) (cp cq : Nat) (xs ys : List Int) (hxs : ∀ x ∈ xs, 0 ≤ x ∧ x ≤ 4294967295) (hys : ∀ x ∈ ys, 0 ≤ x ∧ x ≤ 4294967295) (hl1 : xs.length ≤ 9223372036854775807) (hl2 : ys.length ≤ 9223372036854775807) :
    Does Try.prog 3 #[.slice B xs.length cp, .slice C ys.length cq] (fun f => Reads f B (UI.flat xs) ∧ Reads f C (UI.flat ys)) [] (fun v p => v = .bool true ∧ p = []) := by
  refine Does.ofJ Try.func3 Try.call3 rfl [.raw (.slice B xs.length cp), .raw (.slice C ys.length cq)] [] 0 [] rfl rfl (fun h k => k) (fun f hR => ?_)
  obtain ⟨hR, hS⟩ := hR
  refine RegOb.go ?_
  refine Br.mk (fun g => ?_) (fun g => ?_)
  · refine useP .tt live_spec rfl rfl ?_
    exact FinOb.mk [.bool true] [] rfl (fun h k => trivial) ⟨rfl, rfl⟩
  refine CondOb.split (fun g2 => ?_) (fun g2 => ?_)
  · refine useP .tt live_spec rfl rfl ?_
    exact FinOb.mk [.bool true] [] rfl (fun h k => trivial) ⟨rfl, rfl⟩
  replace g : xs.length ≤ 150 := by
    have g := of_decide_eq_false g
    omega
  replace g2 : ys.length ≤ 100 := by
    have g := of_decide_eq_false g2
    omega
  refine call_ix (wnew_spec 0 (by decide) (by decide)) rfl [] (fun h k => k) (fun _ _ _ _ => trivial) ?_
  rintro v post ⟨b, rfl, rfl⟩
  refine ⟨.tuple [.raw (.pointer (some ⟨b, 0, none⟩)), .int .i64 0], _, 0, [.asn (WrA b 0 0 [])], NmExt.refl _, rfl, (fun h k => sat_pick 0 rfl (by first | exact fun _ k => k | exact fun _ k => blk_to rfl rfl k | exact fun _ k => vec_to rfl k | exact fun _ k => blk_of rfl rfl k | exact fun _ k => vec_of rfl k | exact fun _ k => blk_of rfl rfl (blk_to rfl rfl k) | exact fun _ k => vec_of rfl (vec_to rfl k) | exact fun _ k => mp_to rfl k | exact fun _ k => mp_of rfl k | exact fun _ k => mp_of rfl (mp_to rfl k)) (fun h k => sat_nil k) k), ?_⟩
  refine RegOb.go ?_
  refine useP (.int .i64 0) (code_spec 0) rfl rfl ?_
  refine Br.mk (fun h => absurd h (by decide)) (fun _ => ?_)
  have hgx : ∀ i, i < xs.length → 0 ≤ xs.getD i 0 ∧ xs.getD i 0 ≤ 4294967295 := fun i hi => by
    rw [List.getD_eq_getElem?_getD, List.getElem?_eq_getElem hi]
    exact hxs _ (List.getElem_mem hi)
  obtain ⟨n, hn⟩ : ∃ n : Nat, xs.length = n := ⟨_, rfl⟩
  refine Need.mk (by omega) (fun bt => ?_)
  refine LoopOb.mk { i : Nat // i ≤ n ∧ PL 0 i (onceL xs i) } (fun z => ⟨142, [(0, .raw (.slice B xs.length cp)), (1, .raw (.slice C ys.length cq)), (5, .raw (.pointer (some ⟨b, 0, none⟩))), (7, .sl 0 0 n n), (8, .int .i64 z.1)], [(0, .at bt 0)], 1, [.asn (WrA b 0 z.1 (onceL xs z.1)), .vec 0 4 1 n (BL.flat (gl n fun _ => false))]⟩) (fun z => n - z.1)
    ⟨0, Nat.zero_le _, PL.emp (x := 0) (by decide) (by decide)⟩ ?_ ?_
  · refine Le.of rfl ⟨⟨_, rfl, rfl⟩, ⟨_, rfl, rfl⟩, ⟨_, rfl, rfl⟩, ⟨_, rfl, (by rw [← hn]; rfl)⟩, ⟨_, rfl, rfl⟩, trivial⟩ (fun h k => sat_pick 1 rfl (by first | exact fun _ k => k | exact fun _ k => blk_to rfl rfl k | exact fun _ k => vec_to rfl k | exact fun _ k => blk_of rfl rfl k | exact fun _ k => vec_of rfl k | exact fun _ k => blk_of rfl rfl (blk_to rfl rfl k) | exact fun _ k => vec_of rfl (vec_to rfl k) | exact fun _ k => mp_to rfl k | exact fun _ k => mp_of rfl k | exact fun _ k => mp_of rfl (mp_to rfl k)) (fun h k => sat_pick 0 rfl (fun _ k => ?_) (fun h k => sat_nil k) k) k)
    rw [← gl_rep, ← hn]; exact k
  rintro ⟨i, hi, hp⟩
  refine CondOb.split (fun gg => ?_) (fun gg => ?_)
  · have gi : i < n := by
      have g := of_decide_eq_true gg
      have : (i : Int) < xs.length := g
      omega
    have hx := List.getElem?_eq_getElem (show i < xs.length by omega)
    have hx : xs[i]? = some (xs.getD i 0) := by rw [List.getD_eq_getElem?_getD, hx]; rfl
    obtain ⟨h0, h1⟩ := hgx i (by omega)
    obtain ⟨bb, o, hB, hca⟩ := hR.lay (by decide) hx
    have hn2 : 0 ≤ (i : Int) ∧ (i : Int) < xs.length := by omega
    have ei : IntKind.i64.wrap ((i : Int) + 1) = ((i + 1 : Nat) : Int) := by rw [w64 (by omega) (by omega)]; omega
    have ex : IntKind.i64.wrap (xs.getD i 0) = xs.getD i 0 := w64 (by omega) (by omega)
    obtain ⟨s1, s2, s3⟩ := once_set (xs := xs) (k := i) (by omega) h0 h1
    have hs := wset_spec b 0 i (onceL xs i) hp (by show (i : Int) ≤ 4611686018427387904; omega) i (xs.getD i 0)
    have hp2 := pl_set hp (i : Int) (xs.getD i 0)
    rw [s2, s3] at hp2
    rw [s1, s2, s3] at hs
    refine Need.mk hn2 (RawAt.mk bb o hB ?_)
    refine RdRaw.mk (.int .u32 (xs.getD i 0)) _ rfl (by rw [Int.toNat_natCast]; exact hca 0 _ rfl) ?_
    refine call_ix hs (by rw [ex]; rfl) [0] (fun h k => sat_pick 0 rfl (by first | exact fun _ k => k | exact fun _ k => blk_to rfl rfl k | exact fun _ k => vec_to rfl k | exact fun _ k => blk_of rfl rfl k | exact fun _ k => vec_of rfl k | exact fun _ k => blk_of rfl rfl (blk_to rfl rfl k) | exact fun _ k => vec_of rfl (vec_to rfl k) | exact fun _ k => mp_to rfl k | exact fun _ k => mp_of rfl k | exact fun _ k => mp_of rfl (mp_to rfl k)) (fun h k => sat_pick 0 rfl (by first | exact fun _ k => k | exact fun _ k => blk_to rfl rfl k | exact fun _ k => vec_to rfl k | exact fun _ k => blk_of rfl rfl k | exact fun _ k => vec_of rfl k | exact fun _ k => blk_of rfl rfl (blk_to rfl rfl k) | exact fun _ k => vec_of rfl (vec_to rfl k) | exact fun _ k => mp_to rfl k | exact fun _ k => mp_of rfl k | exact fun _ k => mp_of rfl (mp_to rfl k)) (fun h k => sat_nil k) k) k) (fun _ _ _ _ => trivial) ?_
    rintro v post ⟨rfl, rfl⟩
    refine ⟨.int .i64 0, _, 1, [.asn (WrA b 0 (i + 1 : Nat) (onceL xs (i + 1)))], NmExt.refl _, rfl, (fun h k => sat_pick 0 rfl (by first | exact fun _ k => k | exact fun _ k => blk_to rfl rfl k | exact fun _ k => vec_to rfl k | exact fun _ k => blk_of rfl rfl k | exact fun _ k => vec_of rfl k | exact fun _ k => blk_of rfl rfl (blk_to rfl rfl k) | exact fun _ k => vec_of rfl (vec_to rfl k) | exact fun _ k => mp_to rfl k | exact fun _ k => mp_of rfl k | exact fun _ k => mp_of rfl (mp_to rfl k)) (fun h k => sat_nil k) k), ?_⟩
    refine useP (.int .i64 0) (code_spec _) rfl rfl ?_
    refine CondOb.split (fun h => absurd h (by decide)) (fun _ => ?_)
    exact ⟨⟨i + 1, gi, hp2⟩, by show n - (i + 1) < n - i; omega, Le.of rfl ⟨⟨_, rfl, rfl⟩, ⟨_, rfl, rfl⟩, ⟨_, rfl, rfl⟩, ⟨_, rfl, rfl⟩, ⟨_, rfl, congrArg (fun z => some (Value.int .i64 z)) ei⟩, trivial⟩ (fun h k => sat_pick 0 rfl (by first | exact fun _ k => k | exact fun _ k => blk_to rfl rfl k | exact fun _ k => vec_to rfl k | exact fun _ k => blk_of rfl rfl k | exact fun _ k => vec_of rfl k | exact fun _ k => blk_of rfl rfl (blk_to rfl rfl k) | exact fun _ k => vec_of rfl (vec_to rfl k) | exact fun _ k => mp_to rfl k | exact fun _ k => mp_of rfl k | exact fun _ k => mp_of rfl (mp_to rfl k)) (fun h k => sat_pick 0 rfl (by first | exact fun _ k => k | exact fun _ k => blk_to rfl rfl k | exact fun _ k => vec_to rfl k | exact fun _ k => blk_of rfl rfl k | exact fun _ k => vec_of rfl k | exact fun _ k => blk_of rfl rfl (blk_to rfl rfl k) | exact fun _ k => vec_of rfl (vec_to rfl k) | exact fun _ k => mp_to rfl k | exact fun _ k => mp_of rfl k | exact fun _ k => mp_of rfl (mp_to rfl k)) (fun h k => sat_nil k) k) k)⟩
  have hin : i = n := by
    have g := of_decide_eq_false gg
    have : ¬ (i : Int) < xs.length := g
    omega
  subst hin
  obtain ⟨L, hL⟩ : ∃ L, L = onceL xs i := ⟨_, rfl⟩
  rw [← hL] at hp
  have hIds := hp.ids
  have hLf := hp.few
  refine LoopOb.mk { z : Nat × Int × List T × (Nat → Bool) // z.1 ≤ ys.length ∧ 0 ≤ z.2.1 ∧ z.2.1 ≤ z.1 * 4294967295 ∧ PL z.2.1 i z.2.2.1 ∧ Half i L z.2.1 z.2.2.1 z.2.2.2 } (fun z => ⟨142, [(0, .raw (.slice B xs.length cp)), (1, .raw (.slice C ys.length cq)), (5, .raw (.pointer (some ⟨b, 0, none⟩))), (7, .sl 0 0 i i), (9, .int .i64 z.1.2.1), (10, .int .i64 z.1.1)], [(0, .at bt 0)], 1, [.asn (WrA b z.1.2.1 i z.1.2.2.1), .vec 0 4 1 i (BL.flat (gl i z.1.2.2.2))]⟩) (fun z => ys.length - z.1.1)
    ⟨(0, 0, L, fun _ => false), Nat.zero_le _, Int.le_refl _, by simp, hp, ⟨fun t ht => ht, fun j hj t ht e => by simp [ht], fun t ht hn => absurd ht hn⟩⟩ ?_ ?_
  · exact Le.of rfl ⟨⟨_, rfl, rfl⟩, ⟨_, rfl, rfl⟩, ⟨_, rfl, rfl⟩, ⟨_, rfl, rfl⟩, ⟨_, rfl, rfl⟩, ⟨_, rfl, rfl⟩, trivial⟩ (fun h k => sat_pick 0 rfl (fun _ k => (hL ▸ k : WrA b 0 i L _)) (fun h k => sat_pick 0 rfl (by first | exact fun _ k => k | exact fun _ k => blk_to rfl rfl k | exact fun _ k => vec_to rfl k | exact fun _ k => blk_of rfl rfl k | exact fun _ k => vec_of rfl k | exact fun _ k => blk_of rfl rfl (blk_to rfl rfl k) | exact fun _ k => vec_of rfl (vec_to rfl k) | exact fun _ k => mp_to rfl k | exact fun _ k => mp_of rfl k | exact fun _ k => mp_of rfl (mp_to rfl k)) (fun h k => sat_nil k) k) k)
  rintro ⟨⟨j, now, M, o⟩, hj, n0, n1, hpM, hh⟩
  simp only at hj n0 n1 hpM hh
  refine CondOb.split (fun gg => ?_) (fun gg => ?_)
  rotate_left
  · refine useP .tt live_spec rfl rfl ?_
    exact FinOb.mk [.bool true] [] rfl (fun h k => trivial) ⟨rfl, rfl⟩
  have gj : j < ys.length := by
    have g := of_decide_eq_true gg
    have : (j : Int) < ys.length := g
    omega
  have hy := List.getElem?_eq_getElem gj
  have hyr := hys _ (List.getElem_mem gj)
  generalize ys[j] = y at hy hyr
  obtain ⟨bb, oo, hC, hcy⟩ := hS.lay (by decide) hy
  have ej : IntKind.i64.wrap ((j : Int) + 1) = ((j + 1 : Nat) : Int) := by rw [w64 (by omega) (by omega)]; omega
  have ey : IntKind.i64.wrap y = y := w64 (by omega) (by omega)
  have en : IntKind.i64.wrap (now + IntKind.i64.wrap y) = now + y := by rw [ey, w64 (by omega) (by omega)]
  refine Need.mk (show (0 : Int) ≤ (j : Int) ∧ (j : Int) < ys.length from by omega) (RawAt.mk bb oo hC ?_)
  refine RdRaw.mk (.int .u32 y) _ rfl (by rw [Int.toNat_natCast]; exact hcy 0 _ rfl) ?_
  refine call_ix ((wtick_spec b now i M hpM (now + y) (by omega) (by show now + y ≤ 1099511627776; omega)).sure (Q' := fun v p => ∃ (pl : Plc) (c : Nat) (l : List T), v = .tuple #[.slice (locAddr 0 pl) l.length c, .int .i64 0] ∧ Told (now + y) M l ∧ l.length ≤ c ∧ (0 < l.length → ∃ b o, pl = .at b o) ∧ p = [WrA b (now + y) i (ahead (now + y) M), Vec pl 3 1 c (IL.flat (l.map T.id))]) (by
    rintro v p h ⟨pl, c, l, rfl, h1, h2, rfl⟩ hs
    refine ⟨pl, c, l, rfl, h1, h2, fun h0 => ?_, rfl⟩
    obtain ⟨x, _, _, hx, _⟩ := sat_tail hs
    exact vec_at (fun e => by
      have := congrArg List.length e
      rw [lI, List.length_map] at this
      have : l.length = 0 := this
      omega) hx)) (by show _ = some [Value.pointer (some ⟨b, 0, none⟩), Value.int .i64 (now + y)]; rw [← en]; rfl) [0] (fun h k => sat_pick 0 rfl (by first | exact fun _ k => k | exact fun _ k => blk_to rfl rfl k | exact fun _ k => vec_to rfl k | exact fun _ k => blk_of rfl rfl k | exact fun _ k => vec_of rfl k | exact fun _ k => blk_of rfl rfl (blk_to rfl rfl k) | exact fun _ k => vec_of rfl (vec_to rfl k) | exact fun _ k => mp_to rfl k | exact fun _ k => mp_of rfl k | exact fun _ k => mp_of rfl (mp_to rfl k)) (fun h k => sat_pick 0 rfl (by first | exact fun _ k => k | exact fun _ k => blk_to rfl rfl k | exact fun _ k => vec_to rfl k | exact fun _ k => blk_of rfl rfl k | exact fun _ k => vec_of rfl k | exact fun _ k => blk_of rfl rfl (blk_to rfl rfl k) | exact fun _ k => vec_of rfl (vec_to rfl k) | exact fun _ k => mp_to rfl k | exact fun _ k => mp_of rfl k | exact fun _ k => mp_of rfl (mp_to rfl k)) (fun h k => sat_nil k) k) k) (fun _ _ _ _ => trivial) ?_
  rintro v post ⟨pl2, c2, d, rfl, hd, hdc, hpl2, rfl⟩
  refine ⟨.tuple [.sl 1 0 d.length c2, .int .i64 0], (1, pl2) :: _, 2, [.asn (WrA b (now + y) i (ahead (now + y) M)), .vec 1 3 1 c2 (IL.flat (d.map T.id))], NmExt.push rfl, rfl, (fun h k => sat_pick 0 rfl (by first | exact fun _ k => k | exact fun _ k => blk_to rfl rfl k | exact fun _ k => vec_to rfl k | exact fun _ k => blk_of rfl rfl k | exact fun _ k => vec_of rfl k | exact fun _ k => blk_of rfl rfl (blk_to rfl rfl k) | exact fun _ k => vec_of rfl (vec_to rfl k) | exact fun _ k => mp_to rfl k | exact fun _ k => mp_of rfl k | exact fun _ k => mp_of rfl (mp_to rfl k)) (fun h k => sat_pick 0 rfl (fun _ k => vec_of rfl k) (fun h k => sat_nil k) k) k), ?_⟩
  refine useP (.int .i64 0) (code_spec _) rfl rfl ?_
  refine CondOb.split (fun h => absurd h (by decide)) (fun _ => ?_)
  have hMf := hpM.few
  have hdf := told_len hd hMf
  obtain ⟨hh2, hdec⟩ := hh.step hIds (show now ≤ now + y by omega) hd
  refine LoopOb.mk { k : Nat // k ≤ d.length } (fun z => ⟨142, [(0, .raw (.slice B xs.length cp)), (1, .raw (.slice C ys.length cq)), (5, .raw (.pointer (some ⟨b, 0, none⟩))), (7, .sl 0 0 i i), (9, .int .i64 (now + y)), (10, .int .i64 j), (11, .sl 1 0 d.length c2), (13, .int .i64 z.1)], [(1, pl2), (0, .at bt 0)], 2, [.asn (WrA b (now + y) i (ahead (now + y) M)), .vec 1 3 1 c2 (IL.flat (d.map T.id)), .vec 0 4 1 i (BL.flat (gl i fun q => o q || (d.take z.1).any (fun t => t.id == (q : Int))))]⟩) (fun z => d.length - z.1) ⟨0, Nat.zero_le _⟩ ?_ ?_
  · refine Le.of rfl ⟨⟨_, rfl, rfl⟩, ⟨_, rfl, rfl⟩, ⟨_, rfl, rfl⟩, ⟨_, rfl, rfl⟩, ⟨_, rfl, congrArg (fun z => some (Value.int .i64 z)) en⟩, ⟨_, rfl, rfl⟩, ⟨_, rfl, rfl⟩, ⟨_, rfl, rfl⟩, trivial⟩ (fun h k => sat_pick 0 rfl (by first | exact fun _ k => k | exact fun _ k => blk_to rfl rfl k | exact fun _ k => vec_to rfl k | exact fun _ k => blk_of rfl rfl k | exact fun _ k => vec_of rfl k | exact fun _ k => blk_of rfl rfl (blk_to rfl rfl k) | exact fun _ k => vec_of rfl (vec_to rfl k) | exact fun _ k => mp_to rfl k | exact fun _ k => mp_of rfl k | exact fun _ k => mp_of rfl (mp_to rfl k)) (fun h k => sat_pick 0 rfl (by first | exact fun _ k => k | exact fun _ k => blk_to rfl rfl k | exact fun _ k => vec_to rfl k | exact fun _ k => blk_of rfl rfl k | exact fun _ k => vec_of rfl k | exact fun _ k => blk_of rfl rfl (blk_to rfl rfl k) | exact fun _ k => vec_of rfl (vec_to rfl k) | exact fun _ k => mp_to rfl k | exact fun _ k => mp_of rfl k | exact fun _ k => mp_of rfl (mp_to rfl k)) (fun h k => sat_pick 0 rfl (fun _ k => ?_) (fun h k => sat_nil k) k) k) k)
    simpa using k
  rintro ⟨k, hk⟩
  refine CondOb.split (fun gk => ?_) (fun gk => ?_)
  · have gk : k < d.length := by
      have g := of_decide_eq_true gk
      have : (k : Int) < d.length := g
      omega
    obtain ⟨pb, po, rfl⟩ := hpl2 (by omega)
    have hx := List.getElem?_eq_getElem gk
    have htd := List.getElem_mem gk
    generalize d[k] = t at hx htd
    have htm := List.mem_filter.1 (hd.perm.mem_iff.1 htd)
    have hlate : t.at_ ≤ now + y := by simpa [isLate] using htm.2
    have htL := hh.sub t htm.1
    rw [hL] at htL
    obtain ⟨q, hq, rfl⟩ := once_mem.1 htL
    have hqx : q < xs.length := by omega
    have hxq : xs[q]? = some (xs.getD q 0) := by rw [List.getD_eq_getElem?_getD, List.getElem?_eq_getElem hqx]; rfl
    obtain ⟨hx0, hx1⟩ := hgx q hqx
    have hlate : xs.getD q 0 ≤ now + y := hlate
    obtain ⟨bx, ox, hB, hcx⟩ := hR.lay (by decide) hxq
    have hid : (IL.flat (d.map T.id))[0 + (k : Int).toNat * 1]? = some (.int .i64 (q : Int)) := by
      rw [Int.toNat_natCast, Nat.zero_add]
      exact IL.flat_at (l := d.map T.id) (i := k) (a := (q : Int)) (j := 0) (by rw [List.getElem?_map, hx]; rfl) rfl
    have hnk : (0 : Int) ≤ (k : Int) ∧ (k : Int) < d.length := by omega
    have ek : IntKind.i64.wrap ((k : Int) + 1) = ((k + 1 : Nat) : Int) := by rw [w64 (by omega) (by omega)]; omega
    have ex : IntKind.i64.wrap (xs.getD q 0) = xs.getD q 0 := w64 (by omega) (by omega)
    have hold : (o q || (d.take k).any (fun t => t.id == (q : Int))) = false := by
      rw [Bool.or_eq_false_iff]
      constructor
      · rw [Bool.eq_false_iff, ne_eq, hh.told q hq _ (hL ▸ htL) rfl]
        simpa using htm.1
      · rw [Bool.eq_false_iff, ne_eq, List.any_eq_true]
        rintro ⟨u, hu, e⟩
        have e : u.id = q := by simpa using e
        have hdn : Ids d := (hpM.ids.filter _).perm hd.perm.symm
        obtain ⟨j2, hj2, e2⟩ := List.getElem_of_mem hu
        rw [List.length_take] at hj2
        rw [List.getElem_take] at e2
        have hk2 := List.getElem?_eq_some_iff.1 hx
        have := (List.pairwise_iff_getElem.1 hdn) j2 k (by omega) hk2.1 (by omega)
        rw [e2, hk2.2] at this
        exact this e
    have heq : putV (BL.flat (gl i fun q2 => o q2 || (d.take k).any (fun t => t.id == (q2 : Int)))) (0 + (q : Int).toNat * 1) [.bool true] = BL.flat (gl i fun q2 => o q2 || (d.take (k + 1)).any (fun t => t.id == (q2 : Int))) := by
      rw [Int.toNat_natCast]
      refine (gl_set _ hq).trans (congrArg (fun g => BL.flat (gl i g)) (funext fun q2 => ?_))
      show _ = (o q2 || (d.take (k + 1)).any (fun t => t.id == (q2 : Int)))
      rw [List.take_add_one, hx, List.any_append, ← Bool.or_assoc]
      show _ = ((o q2 || (d.take k).any (fun t => t.id == (q2 : Int))) || (((q : Int) == (q2 : Int)) || false))
      rw [Bool.or_false]
      congr 1
      by_cases e : q2 = q
      · subst e; simp
      · have e1 : ¬ (q : Int) = q2 := by omega
        simp [e, e1]
    refine RegOb.go ?_
    refine Need.mk hnk ?_
    refine RdOb.mk (.int .i64 q) _ rfl hid ?_
    refine Br.mk (fun h => absurd (show (q : Int) < 0 from of_decide_eq_true h) (by omega)) (fun _ => ?_)
    refine Need.mk hnk ?_
    refine RdOb.mk (.int .i64 q) _ rfl hid ?_
    refine Br.mk (fun h => absurd (show (q : Int) ≥ xs.length from of_decide_eq_true h) (by omega)) (fun _ => ?_)
    refine Need.mk hnk ?_
    refine RdOb.mk (.int .i64 q) _ rfl hid ?_
    refine Need.mk (show (0 : Int) ≤ (q : Int) ∧ (q : Int) < i from by omega) ?_
    refine RdOb.mk .ff _ rfl (by rw [Int.toNat_natCast, gl_at _ hq, hold]) ?_
    refine Need.mk hnk ?_
    refine RdOb.mk (.int .i64 q) _ rfl hid ?_
    refine Need.mk (show (0 : Int) ≤ (q : Int) ∧ (q : Int) < xs.length from by omega) (RawAt.mk bx ox hB ?_)
    refine RdRaw.mk (.int .u32 (xs.getD q 0)) _ rfl (by rw [Int.toNat_natCast]; exact hcx 0 _ rfl) ?_
    refine CondOb.split (fun h => absurd (show IntKind.i64.wrap (xs.getD q 0) > now + y from of_decide_eq_true h) (by rw [ex]; omega)) (fun _ => ?_)
    refine Need.mk hnk ?_
    refine RdOb.mk (.int .i64 q) _ rfl hid ?_
    refine Need.mk (show (0 : Int) ≤ (q : Int) ∧ (q : Int) < i from by omega) ?_
    refine StOb.mk [.bool true] rfl (Need.mk (by dsimp only; rw [gl_len, Int.toNat_natCast]; show 0 + q * 1 + 1 ≤ i * 1; omega) ?_)
    refine ⟨⟨k + 1, gk⟩, by show d.length - (k + 1) < d.length - k; omega, Le.of rfl ⟨⟨_, rfl, rfl⟩, ⟨_, rfl, rfl⟩, ⟨_, rfl, rfl⟩, ⟨_, rfl, rfl⟩, ⟨_, rfl, rfl⟩, ⟨_, rfl, rfl⟩, ⟨_, rfl, rfl⟩, ⟨_, rfl, congrArg (fun z => some (Value.int .i64 z)) ek⟩, trivial⟩ (fun h k => sat_pick 1 rfl (by first | exact fun _ k => k | exact fun _ k => blk_to rfl rfl k | exact fun _ k => vec_to rfl k | exact fun _ k => blk_of rfl rfl k | exact fun _ k => vec_of rfl k | exact fun _ k => blk_of rfl rfl (blk_to rfl rfl k) | exact fun _ k => vec_of rfl (vec_to rfl k) | exact fun _ k => mp_to rfl k | exact fun _ k => mp_of rfl k | exact fun _ k => mp_of rfl (mp_to rfl k)) (fun h k => sat_pick 1 rfl (by first | exact fun _ k => k | exact fun _ k => blk_to rfl rfl k | exact fun _ k => vec_to rfl k | exact fun _ k => blk_of rfl rfl k | exact fun _ k => vec_of rfl k | exact fun _ k => blk_of rfl rfl (blk_to rfl rfl k) | exact fun _ k => vec_of rfl (vec_to rfl k) | exact fun _ k => mp_to rfl k | exact fun _ k => mp_of rfl k | exact fun _ k => mp_of rfl (mp_to rfl k)) (fun h k => sat_pick 0 rfl (fun _ k9 => vec_eq heq k9) (fun h k => sat_nil k) k) k) k)⟩
  have hkd : k = d.length := by
    have g := of_decide_eq_false gk
    have : ¬ (k : Int) < d.length := g
    omega
  subst hkd
  refine LoopOb.mk { k : Nat // k ≤ xs.length } (fun z => ⟨142, [(0, .raw (.slice B xs.length cp)), (1, .raw (.slice C ys.length cq)), (5, .raw (.pointer (some ⟨b, 0, none⟩))), (7, .sl 0 0 i i), (9, .int .i64 (now + y)), (10, .int .i64 j), (14, .int .i64 z.1)], [(0, .at bt 0)], 1, [.asn (WrA b (now + y) i (ahead (now + y) M)), .vec 0 4 1 i (BL.flat (gl i fun q => o q || d.any (fun t => t.id == (q : Int))))]⟩) (fun z => xs.length - z.1) ⟨0, Nat.zero_le _⟩ ?_ ?_
  · refine Le.of rfl ⟨⟨_, rfl, rfl⟩, ⟨_, rfl, rfl⟩, ⟨_, rfl, rfl⟩, ⟨_, rfl, rfl⟩, ⟨_, rfl, rfl⟩, ⟨_, rfl, rfl⟩, ⟨_, rfl, rfl⟩, trivial⟩ (fun h k => sat_pick 0 rfl (by first | exact fun _ k => k | exact fun _ k => blk_to rfl rfl k | exact fun _ k => vec_to rfl k | exact fun _ k => blk_of rfl rfl k | exact fun _ k => vec_of rfl k | exact fun _ k => blk_of rfl rfl (blk_to rfl rfl k) | exact fun _ k => vec_of rfl (vec_to rfl k) | exact fun _ k => mp_to rfl k | exact fun _ k => mp_of rfl k | exact fun _ k => mp_of rfl (mp_to rfl k)) (fun h k => sat_pick 1 rfl (fun _ k => vec_of rfl ?_) (fun h k => sat_nil k) k) k)
    have kk := vec_to (l := .at bt 0) rfl k
    rw [List.take_length] at kk
    exact kk
  rintro ⟨k, hk⟩
  refine CondOb.split (fun gk => ?_) (fun gk => ?_)
  · have gk : k < xs.length := by
      have g := of_decide_eq_true gk
      have : (k : Int) < xs.length := g
      omega
    have hxq : xs[k]? = some (xs.getD k 0) := by rw [List.getD_eq_getElem?_getD, List.getElem?_eq_getElem gk]; rfl
    obtain ⟨hx0, hx1⟩ := hgx k gk
    obtain ⟨bx, ox, hB, hcx⟩ := hR.lay (by decide) hxq
    have ek : IntKind.i64.wrap ((k : Int) + 1) = ((k + 1 : Nat) : Int) := by rw [w64 (by omega) (by omega)]; omega
    have ex : IntKind.i64.wrap (xs.getD k 0) = xs.getD k 0 := w64 (by omega) (by omega)
    have hv := hdec k (by omega) ⟨k, xs.getD k 0, k⟩ (by rw [hL]; exact once_mem.2 ⟨k, by omega, rfl⟩) rfl
    refine DrawOb.mk [] (.run [0, 1, 2, 3, 4, 5, 6, 7, 8, 9, 10, 11] .nil) (by kernel_rfl) ?_
    refine Need.mk (show (0 : Int) ≤ (k : Int) ∧ (k : Int) < i from by omega) ?_
    refine RdOb.mk (.bool (decide (xs.getD k 0 ≤ now + y))) _ rfl (by rw [Int.toNat_natCast, gl_at _ (show k < i by omega), hv]) ?_
    refine Need.mk (show (0 : Int) ≤ (k : Int) ∧ (k : Int) < xs.length from by omega) (RawAt.mk bx ox hB ?_)
    refine RdRaw.mk (.int .u32 (xs.getD k 0)) _ rfl (by rw [Int.toNat_natCast]; exact hcx 0 _ rfl) ?_
    refine CondOb.split (fun h => ?_) (fun _ => ?_)
    · have h : (decide (xs.getD k 0 ≤ now + y) != decide (IntKind.i64.wrap (xs.getD k 0) ≤ now + y)) = true := h
      rw [ex] at h
      simp at h
    exact ⟨⟨k + 1, gk⟩, by show xs.length - (k + 1) < xs.length - k; omega, Le.of rfl ⟨⟨_, rfl, rfl⟩, ⟨_, rfl, rfl⟩, ⟨_, rfl, rfl⟩, ⟨_, rfl, rfl⟩, ⟨_, rfl, rfl⟩, ⟨_, rfl, rfl⟩, ⟨_, rfl, congrArg (fun z => some (Value.int .i64 z)) ek⟩, trivial⟩ (fun h k => sat_pick 0 rfl (by first | exact fun _ k => k | exact fun _ k => blk_to rfl rfl k | exact fun _ k => vec_to rfl k | exact fun _ k => blk_of rfl rfl k | exact fun _ k => vec_of rfl k | exact fun _ k => blk_of rfl rfl (blk_to rfl rfl k) | exact fun _ k => vec_of rfl (vec_to rfl k) | exact fun _ k => mp_to rfl k | exact fun _ k => mp_of rfl k | exact fun _ k => mp_of rfl (mp_to rfl k)) (fun h k => sat_pick 0 rfl (by first | exact fun _ k => k | exact fun _ k => blk_to rfl rfl k | exact fun _ k => vec_to rfl k | exact fun _ k => blk_of rfl rfl k | exact fun _ k => vec_of rfl k | exact fun _ k => blk_of rfl rfl (blk_to rfl rfl k) | exact fun _ k => vec_of rfl (vec_to rfl k) | exact fun _ k => mp_to rfl k | exact fun _ k => mp_of rfl k | exact fun _ k => mp_of rfl (mp_to rfl k)) (fun h k => sat_nil k) k) k)⟩
  exact ⟨⟨(j + 1, now + y, ahead (now + y) M, fun q => o q || d.any (fun t => t.id == (q : Int))), gj, by show 0 ≤ now + y; omega, by show now + y ≤ ((j + 1 : Nat) : Int) * 4294967295; omega, pl_tick (x := now + y) hpM (by omega) (by show now + y ≤ 1099511627776; omega), hh2⟩, by show ys.length - (j + 1) < ys.length - j; omega, Le.of rfl ⟨⟨_, rfl, rfl⟩, ⟨_, rfl, rfl⟩, ⟨_, rfl, rfl⟩, ⟨_, rfl, rfl⟩, ⟨_, rfl, rfl⟩, ⟨_, rfl, congrArg (fun z => some (Value.int .i64 z)) ej⟩, trivial⟩ (fun h k => sat_pick 0 rfl (by first | exact fun _ k => k | exact fun _ k => blk_to rfl rfl k | exact fun _ k => vec_to rfl k | exact fun _ k => blk_of rfl rfl k | exact fun _ k => vec_of rfl k | exact fun _ k => blk_of rfl rfl (blk_to rfl rfl k) | exact fun _ k => vec_of rfl (vec_to rfl k) | exact fun _ k => mp_to rfl k | exact fun _ k => mp_of rfl k | exact fun _ k => mp_of rfl (mp_to rfl k)) (fun h k => sat_pick 0 rfl (by first | exact fun _ k => k | exact fun _ k => blk_to rfl rfl k | exact fun _ k => vec_to rfl k | exact fun _ k => blk_of rfl rfl k | exact fun _ k => vec_of rfl k | exact fun _ k => blk_of rfl rfl (blk_to rfl rfl k) | exact fun _ k => vec_of rfl (vec_to rfl k) | exact fun _ k => mp_to rfl k | exact fun _ k => mp_of rfl k | exact fun _ k => mp_of rfl (mp_to rfl k)) (fun h k => sat_nil k) k) k)⟩
end Go.Proofs.Ytiknkeakielncaa.Wh
