/- reasm: the packet that a piece belongs to; Expire. Conditions: none. -/
import Derived.Test.YtiknkeakielncaaRsH
namespace Go.Proofs.Ytiknkeakielncaa.Rs
open Go Go.Proofs Sx
set_option maxRecDepth 100000
set_option linter.unusedVariables false
set_option linter.unusedSimpArgs false
set_option maxHeartbeats 4000000

theorem Key.l_inj {a b : Key} (h : a.l = b.l) : a = b := by
  obtain ⟨a1, a2, a3, a4⟩ := a
  obtain ⟨b1, b2, b3, b4⟩ := b
  simp [Key.l] at h
  obtain ⟨rfl, rfl, rfl, rfl⟩ := h
  rfl
theorem find_none {L : List Kp} {k : Key} (h : ∀ x ∈ L, x.k ≠ k) : findL k.l (L.map Kp.ent) = none := by
  induction L with
  | nil => rfl
  | cons y L ih =>
    show (if k.l = y.k.l then _ else _) = _
    rw [if_neg (fun e => h y (by simp) (Key.l_inj e).symm)]
    exact ih (fun x hx => h x (List.mem_cons_of_mem _ hx))
theorem upd_new {L : List Kp} {x : Kp} (h : ∀ y ∈ L, y.k ≠ x.k) : updL x.k.l (pp x.w) (L.map Kp.ent) = (L ++ [x]).map Kp.ent := by
  induction L with
  | nil => rfl
  | cons y L ih =>
    show (if x.k.l = y.k.l then _ else _) = _
    rw [if_neg (fun e => h y (by simp) (Key.l_inj e).symm), ih (fun z hz => h z (List.mem_cons_of_mem _ hz))]
    rfl
theorem del_ent {A B : List Kp} {x : Kp} (h : ∀ y ∈ A, y.k ≠ x.k) : delL x.k.l ((A ++ x :: B).map Kp.ent) = (A ++ B).map Kp.ent := by
  induction A with
  | nil => show (if x.k.l = x.k.l then _ else _) = _; rw [if_pos rfl]; rfl
  | cons y A ih =>
    show (if x.k.l = y.k.l then _ else _) = _
    rw [if_neg (fun e => h y (by simp) (Key.l_inj e).symm)]
    exact congrArg _ (ih (fun z hz => h z (List.mem_cons_of_mem _ hz)))
def newPk (t : Tb) (now : Int) : Pk := ⟨[], .nil, 0, -1, none, now + t.life, t.next⟩
theorem pka_new (w : Nat) (t : Tb) (now : Int) (h : HP) (k : pt w (.cells (newPk t now).vals.toArray 154 (0, 0)) h) : PkA w (newPk t now) h :=
  ⟨h, HP.emp, .emp_right h, k, HP.emp, HP.emp, .emp_right _, vec_emp, HP.emp, HP.emp, .emp_right _, trivial, trivial⟩
def OfQ (t : Tb) (L : List Kp) (now : Int) (k : Key) (v : Value) (q : List Asn) : Prop :=
  (∃ x ∈ L, x.k = k ∧ v = .tuple #[pp x.w, .int .i64 0] ∧ q = TbL t L) ∨
  ((∀ x ∈ L, x.k ≠ k) ∧ t.most ≤ L.length ∧ v = .tuple #[.pointer none, .int .i64 5] ∧ q = TbL t L) ∨
  ((∀ x ∈ L, x.k ≠ k) ∧ L.length < t.most ∧ ∃ w, v = .tuple #[pp w, .int .i64 0] ∧ q = TbL { t with next := t.next + 1 } (L ++ [⟨k, w, newPk t now, none⟩]))
theorem of_spec (t : Tb) (L : List Kp) (hL : TbOK t L) (now : Int) (k : Key) (hn : 0 ≤ now ∧ now ≤ 1099511627776) (hl : 0 ≤ t.life ∧ t.life ≤ 65535) (hx : 0 ≤ t.next ∧ t.next ≤ 1000000000) :
    Does Try.prog 77 #[pp t.b, .int .i64 now, .agg k.vals.toArray] (fun _ => True) (TbL t L) (OfQ t L now k) := by
  refine Does.ofJ Try.func77 Try.call77 rfl [.ptr 1 0, .int .i64 now, .agg k.svs] [(0, .at t.mb 0), (1, .at t.b 0)] 2 [.blk 1 139 [.int .i64 t.most, .int .i64 t.life, .map 0, .int .i64 t.next], .mp 0 K4 (L.map Kp.ent), .asn (Alls (L.map Kp.A))] rfl rfl (fun h k => sat_pick 0 rfl (fun _ k9 => blk_of rfl rfl k9) (fun h k => sat_pick 0 rfl (fun _ k => mp_of rfl k) (fun h k => sat_pick 0 rfl (by first | exact fun _ k => k | exact fun _ k => blk_to rfl rfl k | exact fun _ k => vec_to rfl k | exact fun _ k => blk_of rfl rfl k | exact fun _ k => vec_of rfl k | exact fun _ k => blk_of rfl rfl (blk_to rfl rfl k) | exact fun _ k => vec_of rfl (vec_to rfl k) | exact fun _ k => mp_to rfl k | exact fun _ k => mp_of rfl k | exact fun _ k => mp_of rfl (mp_to rfl k)) (fun h k => sat_nil k) k) k) k) (fun f hR => ?_)
  intro b5
  refine DrawOb.mk [] (.run [0, 1, 2, 3, 4, 5, 6, 7, 8, 9, 10] .nil) (by kernel_rfl) ?_
  refine Need.mk keys_law ?_
  by_cases hm : ∃ x ∈ L, x.k = k
  · obtain ⟨x, hx, rfl⟩ := hm
    refine LkOb.hit (pp x.w) (.raw (pp x.w)) (find_ent hL.keys hx) rfl ?_
    exact FinOb.mk [pp x.w, .int .i64 0] (TbL t L) rfl (fun h k => sat_pick 1 rfl (fun _ k9 => blk_to (b := t.b) rfl rfl k9) (fun h k => sat_pick 1 rfl (fun _ k9 => mp_to rfl k9) (fun h k => sat_pick 1 rfl (by first | exact fun _ k => k | exact fun _ k => blk_to rfl rfl k | exact fun _ k => vec_to rfl k | exact fun _ k => blk_of rfl rfl k | exact fun _ k => vec_of rfl k | exact fun _ k => blk_of rfl rfl (blk_to rfl rfl k) | exact fun _ k => vec_of rfl (vec_to rfl k) | exact fun _ k => mp_to rfl k | exact fun _ k => mp_of rfl k | exact fun _ k => mp_of rfl (mp_to rfl k)) (fun h k => sat_nil k) k) k) k) (.inl ⟨x, hx, rfl, rfl, rfl⟩)
  · have hm : ∀ x ∈ L, x.k ≠ k := fun x hx e => hm ⟨x, hx, e⟩
    have hfew := hL.few
    refine LkOb.miss (find_none hm) ?_
    refine DrawOb.mk [(4, [0, 1, 2, 3, 5, 6, 7, 8]), (999, [4])] (.run [0, 1, 2, 3, 5, 6, 7, 8, 4, 9] .nil) (by kernel_rfl) ?_
    refine Need.mk rfl ?_
    refine Need.mk rfl ?_
    refine CondOb.split (fun g => ?_) (fun g => ?_)
    · have g := of_decide_eq_true g
      rw [List.length_map] at g
      exact FinOb.mk [.pointer none, .int .i64 5] (TbL t L) rfl (fun h k => sat_pick 1 rfl (fun _ k9 => blk_to (b := t.b) rfl rfl k9) (fun h k => sat_pick 1 rfl (fun _ k9 => mp_to rfl k9) (fun h k => sat_pick 1 rfl (by first | exact fun _ k => k | exact fun _ k => blk_to rfl rfl k | exact fun _ k => vec_to rfl k | exact fun _ k => blk_of rfl rfl k | exact fun _ k => vec_of rfl k | exact fun _ k => blk_of rfl rfl (blk_to rfl rfl k) | exact fun _ k => vec_of rfl (vec_to rfl k) | exact fun _ k => mp_to rfl k | exact fun _ k => mp_of rfl k | exact fun _ k => mp_of rfl (mp_to rfl k)) (fun h k => sat_nil k) k) k) k) (.inr (.inl ⟨hm, by omega, rfl, rfl⟩))
    have g := of_decide_eq_false g
    rw [List.length_map] at g
    refine DrawOb.mk [] (.run [0, 1, 2, 3, 4, 5, 6, 7, 8, 9, 10, 11, 12] .nil) (by kernel_rfl) ?_
    intro b
    refine DrawOb.mk [] (.run [0, 1, 2, 3, 4, 5, 6] .nil) (by kernel_rfl) ?_
    refine Need.mk keys_law ?_
    refine ValOb.mk (pp b) rfl ?_
    have e1 : IntKind.i64.wrap (t.next + 1) = t.next + 1 := w64 (by omega) (by omega)
    have e2 : IntKind.i64.wrap (now + t.life) = now + t.life := w64 (by omega) (by omega)
    have hu : updL [k.src, k.dst, k.proto, k.ident] (pp b) (L.map Kp.ent) = (L ++ [(⟨k, b, newPk t now, none⟩ : Kp)]).map Kp.ent := upd_new (x := ⟨k, b, newPk t now, none⟩) (L := L) hm
    refine FinOb.mk [pp b, .int .i64 0] (TbL { t with next := t.next + 1 } (L ++ [⟨k, b, newPk t now, none⟩])) rfl (fun h k9 => ?_) (.inr (.inr ⟨hm, by omega, b, rfl, rfl⟩))
    exact (fun h k => sat_pick 0 rfl (fun _ k9 => by exact blk_to (b := t.b) rfl rfl (blk_cast (congrArg (fun z => [SV.int .i64 t.most, .int .i64 t.life, .map 0, .int .i64 z]) e1) k9)) (fun h k => sat_pick 0 rfl (fun _ k9 => by have k8 := mp_to rfl k9; rw [hu] at k8; exact k8) (fun h k => sat_pick2 0 1 rfl rfl (fun h9 k9 => by
      obtain ⟨a9, b9, t9, ka, kb⟩ := k9
      rw [List.map_append]
      refine alls_snoc h9 ⟨a9, b9, t9, ?_, kb⟩
      refine ⟨a9, HP.emp, .emp_right _, pka_new b t now a9 ?_, trivial⟩
      exact blk_to (b := b) rfl rfl (blk_cast (congrArg (fun z => [SV.nils, .int .i64 (-1), .nilp, .int .i64 z, .int .i64 t.next]) e2) ka)) (fun h k => sat_nil k) k) k) k) h k9
/-! ### Expire -/
def IL : Lay Ip where
  cells := Ip.vals
  sz := 11
  len _ := rfl
  one e v hv := by
    simp only [Ip.vals, List.mem_cons, List.not_mem_nil, or_false] at hv
    rcases hv with rfl | rfl | rfl | rfl | rfl | rfl | rfl | rfl | rfl | rfl | rfl <;> rfl
theorem lIL (l : List Ip) : (IL.flat l).length = l.length * 11 := by rw [IL.flat_length]; rfl
def Fst.own (x : Fst) : List Asn := [Vec x.po 5 1 x.co (U.flat x.i.opts), Vec x.pd 5 1 x.cd (U.flat x.i.data)]
/-- The first pieces, and their bytes. -/
def Fs (l : List Fst) : Asn := Alls (l.flatMap Fst.own)
def lateL (now : Int) (L : List Kp) : List Kp := L.filter (fun x => decide (x.p.till ≤ now))
def keepL (now : Int) (L : List Kp) : List Kp := L.filter (fun x => decide (now < x.p.till))
def firsts (L : List Kp) : List Fst := L.filterMap Kp.fi
theorem kps_less {l m : List Kp} (s : m.Sublist l) (h : HP) (k : Alls (l.map Kp.A) h) : Alls (m.map Kp.A) h := sat_subset (s.map _) k
theorem kps_fst {L : List Kp} {x : Kp} (hx : x ∈ L) {y : Fst} (hf : x.fi = some y) (h : HP) (k : Alls (L.map Kp.A) h) (i : Nat) (v : Value) (e : y.ip.vals[i]? = some v) : fcell h y.b i = some v := by
  obtain ⟨n, hn⟩ := List.getElem?_of_mem hx
  obtain ⟨z, hz, kz⟩ := sat_sub (n := n) (A := x.A) (by rw [List.getElem?_map, hn]; rfl) (show sat (L.map Kp.A) h from k)
  refine fcell_sub hz ?_
  unfold Kp.A at kz
  rw [hf] at kz
  exact sat_cell 1 (A := pt y.b (.cells y.ip.vals.toArray 40 (0, 0))) rfl (fun q kq => fcell_of (pt_get q kq) (by simpa using e)) kz
/-- One of them goes; what its first piece has is left. -/
theorem kps_out {A B : List Kp} {x : Kp} {Cs : List Asn} {h : HP} (k : sat (Alls ((A ++ x :: B).map Kp.A) :: Cs) h) : sat (x.A :: Alls ((A ++ B).map Kp.A) :: Cs) h := by
  rw [List.map_append, List.map_cons] at k
  rw [List.map_append]
  exact alls_out k
theorem fs_more {F : List Fst} {x : Kp} {y : Fst} (hf : x.fi = some y) (h : HP) (k : sat [x.A, Fs F] h) : Fs (F ++ [y]) h := by
  obtain ⟨a, b, s, ka, b1, b2, s2, kb, _⟩ := k
  unfold Kp.A at ka
  rw [hf] at ka
  have k1 : sat y.own a := sat_tail (sat_tail ka)
  have k3 : sat (F.flatMap Fst.own) b := sat_more s2.comm (show sat _ b1 from kb)
  have k4 := sat_join s.comm k3 k1
  unfold Fs
  rw [List.flatMap_append, List.flatMap_cons, List.flatMap_nil, List.append_nil]
  exact k4
theorem expire_spec (t : Tb) (L : List Kp) (hL : TbOK t L) (now : Int) : Does Try.prog 46 #[pp t.b, .int .i64 now] (fun _ => True) (TbL t L)
    (fun v q => ∃ pl c, v = .slice (locAddr 0 pl) (firsts (lateL now L)).length c ∧ (firsts (lateL now L)).length ≤ c ∧ q = TbL t (keepL now L) ++ [Vec pl 40 11 c (IL.flat ((firsts (lateL now L)).map Fst.ip)), Fs (firsts (lateL now L))]) := by
  refine Does.ofJ Try.func46 Try.call46 rfl [.ptr 1 0, .int .i64 now] [(0, .at t.mb 0), (1, .at t.b 0)] 2 [.asn (Hd0 t), .asn (MapA t.mb K4 (L.map Kp.ent)), .asn (Alls (L.map Kp.A))] rfl rfl (fun h k => k) (fun f hR => ?_)
  have hfew := hL.few
  refine call_ix (order_spec t L hL) rfl [0, 0, 0] (fun h k => k) (fun f' b' hs kb => trivial) ?_
  rintro v post ⟨pl, c, rfl, hpl, rfl⟩
  refine ⟨.raw (.slice (locAddr 0 pl) L.length c), [(0, .at t.mb 0), (1, .at t.b 0)], 2, [.blk 1 139 [.int .i64 t.most, .int .i64 t.life, .map 0, .int .i64 t.next], .mp 0 K4 (L.map Kp.ent), .asn (Alls (L.map Kp.A)), .asn (Vec pl 143 4 c (KL.flat (L.map Kp.k)))], NmExt.refl _, rfl, (fun h k => sat_pick 0 rfl (fun _ k9 => blk_of rfl rfl k9) (fun h k => sat_pick 0 rfl (fun _ k => mp_of rfl k) (fun h k => sat_pick 0 rfl (by first | exact fun _ k => k | exact fun _ k => blk_to rfl rfl k | exact fun _ k => vec_to rfl k | exact fun _ k => blk_of rfl rfl k | exact fun _ k => vec_of rfl k | exact fun _ k => blk_of rfl rfl (blk_to rfl rfl k) | exact fun _ k => vec_of rfl (vec_to rfl k) | exact fun _ k => mp_to rfl k | exact fun _ k => mp_of rfl k | exact fun _ k => mp_of rfl (mp_to rfl k)) (fun h k => sat_pick 0 rfl (by first | exact fun _ k => k | exact fun _ k => blk_to rfl rfl k | exact fun _ k => vec_to rfl k | exact fun _ k => blk_of rfl rfl k | exact fun _ k => vec_of rfl k | exact fun _ k => blk_of rfl rfl (blk_to rfl rfl k) | exact fun _ k => vec_of rfl (vec_to rfl k) | exact fun _ k => mp_to rfl k | exact fun _ k => mp_of rfl k | exact fun _ k => mp_of rfl (mp_to rfl k)) (fun h k => sat_nil k) k) k) k) k), ?_⟩
  refine LoopOb.mk { z : Nat × Plc × Nat × List Kp × List Fst // z.1 ≤ L.length ∧ z.2.2.2.2.length ≤ z.2.2.1 ∧ z.2.2.2.1 = keepL now (L.take z.1) ++ L.drop z.1 ∧ z.2.2.2.2 = firsts (lateL now (L.take z.1)) } (fun z => ⟨49, [(0, .ptr 1 0), (1, .int .i64 now), (5, .sl 2 0 z.1.2.2.2.2.length z.1.2.2.1), (10, .raw (.slice (locAddr 0 pl) L.length c)), (11, .int .i64 L.length), (12, .int .i64 z.1.1)], [(2, z.1.2.1), (0, .at t.mb 0), (1, .at t.b 0)], 3, [.blk 1 139 [.int .i64 t.most, .int .i64 t.life, .map 0, .int .i64 t.next], .mp 0 K4 (z.1.2.2.2.1.map Kp.ent), .asn (Alls (z.1.2.2.2.1.map Kp.A)), .asn (Vec pl 143 4 c (KL.flat (L.map Kp.k))), .vec 2 40 11 z.1.2.2.1 (IL.flat (z.1.2.2.2.2.map Fst.ip)), .asn (Fs z.1.2.2.2.2)]⟩) (fun z => L.length - z.1.1) ⟨(0, .nil, 0, L, []), Nat.zero_le _, Nat.le_refl _, rfl, rfl⟩ ?_ ?_
  · exact Le.of rfl ⟨⟨_, rfl, rfl⟩, ⟨_, rfl, rfl⟩, ⟨_, rfl, rfl⟩, ⟨_, rfl, rfl⟩, ⟨_, rfl, rfl⟩, ⟨_, rfl, rfl⟩, trivial⟩ (fun h k => sat_pick 0 rfl (by first | exact fun _ k => k | exact fun _ k => blk_to rfl rfl k | exact fun _ k => vec_to rfl k | exact fun _ k => blk_of rfl rfl k | exact fun _ k => vec_of rfl k | exact fun _ k => blk_of rfl rfl (blk_to rfl rfl k) | exact fun _ k => vec_of rfl (vec_to rfl k) | exact fun _ k => mp_to rfl k | exact fun _ k => mp_of rfl k | exact fun _ k => mp_of rfl (mp_to rfl k)) (fun h k => sat_pick 0 rfl (fun _ k => k) (fun h k => sat_pick 0 rfl (by first | exact fun _ k => k | exact fun _ k => blk_to rfl rfl k | exact fun _ k => vec_to rfl k | exact fun _ k => blk_of rfl rfl k | exact fun _ k => vec_of rfl k | exact fun _ k => blk_of rfl rfl (blk_to rfl rfl k) | exact fun _ k => vec_of rfl (vec_to rfl k) | exact fun _ k => mp_to rfl k | exact fun _ k => mp_of rfl k | exact fun _ k => mp_of rfl (mp_to rfl k)) (fun h k => sat_pick 0 rfl (by first | exact fun _ k => k | exact fun _ k => blk_to rfl rfl k | exact fun _ k => vec_to rfl k | exact fun _ k => blk_of rfl rfl k | exact fun _ k => vec_of rfl k | exact fun _ k => blk_of rfl rfl (blk_to rfl rfl k) | exact fun _ k => vec_of rfl (vec_to rfl k) | exact fun _ k => mp_to rfl k | exact fun _ k => mp_of rfl k | exact fun _ k => mp_of rfl (mp_to rfl k)) (fun h k => sat_add (vec_of rfl vec_emp) ((fun h k => sat_add (show Alls [] HP.emp from trivial) ((fun h k => sat_nil k) h k)) h k)) k) k) k) k)
  rintro ⟨⟨i, pv, cv, K, F⟩, hi, hcv, hK, hF⟩
  simp only at hi hcv hK hF
  refine CondOb.split (fun g => ?_) (fun g => ?_)
  rotate_left
  · have e : i = L.length := by
      have g := of_decide_eq_false g
      have : ¬ (i : Int) < L.length := g
      omega
    have hK2 : K = keepL now L := by rw [hK, e, List.take_length, List.drop_length, List.append_nil]
    have hF2 : F = firsts (lateL now L) := by rw [hF, e, List.take_length]
    rw [← hF2, ← hK2]
    exact FinOb.mk [.slice (locAddr 0 pv) F.length cv] (TbL t K ++ [Vec pv 40 11 cv (IL.flat (F.map Fst.ip)), Fs F]) rfl (fun h k => sat_pick 0 rfl (fun _ k9 => blk_to (b := t.b) rfl rfl k9) (fun h k => sat_pick 0 rfl (fun _ k9 => mp_to rfl k9) (fun h k => sat_pick 0 rfl (by first | exact fun _ k => k | exact fun _ k => blk_to rfl rfl k | exact fun _ k => vec_to rfl k | exact fun _ k => blk_of rfl rfl k | exact fun _ k => vec_of rfl k | exact fun _ k => blk_of rfl rfl (blk_to rfl rfl k) | exact fun _ k => vec_of rfl (vec_to rfl k) | exact fun _ k => mp_to rfl k | exact fun _ k => mp_of rfl k | exact fun _ k => mp_of rfl (mp_to rfl k)) (fun h k => sat_pick 1 rfl (fun _ k9 => vec_to (l := pv) rfl k9) (fun h k => sat_pick 1 rfl (by first | exact fun _ k => k | exact fun _ k => blk_to rfl rfl k | exact fun _ k => vec_to rfl k | exact fun _ k => blk_of rfl rfl k | exact fun _ k => vec_of rfl k | exact fun _ k => blk_of rfl rfl (blk_to rfl rfl k) | exact fun _ k => vec_of rfl (vec_to rfl k) | exact fun _ k => mp_to rfl k | exact fun _ k => mp_of rfl k | exact fun _ k => mp_of rfl (mp_to rfl k)) (fun h k => sat_nil k) k) k) k) k) k) ⟨pv, cv, rfl, hcv, rfl⟩
  have gi : i < L.length := by
    have g := of_decide_eq_true g
    have : (i : Int) < L.length := g
    omega
  obtain ⟨pb, po, rfl⟩ := hpl (by intro e; rw [e] at gi; simp at gi)
  have hx := List.getElem?_eq_getElem gi
  have hxm : L[i] ∈ L := List.getElem_mem gi
  have hd : L.drop i = L[i] :: L.drop (i + 1) := List.drop_eq_getElem_cons gi
  have ht1 : L.take (i + 1) = L.take i ++ [L[i]] := by rw [List.take_add_one, hx]; rfl
  generalize L[i] = x at hx hxm hd ht1
  have ei : IntKind.i64.wrap ((i : Int) + 1) = ((i + 1 : Nat) : Int) := by rw [w64 (by omega) (by omega)]; omega
  have hKx : K = keepL now (L.take i) ++ x :: L.drop (i + 1) := by rw [hK, hd]
  have hxK : x ∈ K := by rw [hKx]; simp
  have hKL : K.Sublist L := by
    rw [hK]
    conv => rhs; rw [← List.take_append_drop i L]
    exact List.Sublist.append_right List.filter_sublist _
  have hkK : K.Pairwise (fun x y => x.k ≠ y.k) := hL.keys.sublist hKL
  refine Need.mk (show (0 : Int) ≤ (i : Int) ∧ (i : Int) < (L.length : Nat) from ⟨by omega, by omega⟩) (RawAt.mk pb (po + 0) rfl ?_)
  refine RdF.told x.k.svs x.k.vals rfl rfl (fun h k j v hv => sat_cell 3 rfl (fun y ky => ?_) k) ?_
  · rw [Int.toNat_natCast, Nat.add_assoc]
    have := vec_rd ky (i * 4 + j) v (KL.flat_at (l := L.map Kp.k) (by rw [List.getElem?_map, hx]; rfl) hv)
    exact this
  intro b5
  refine DrawOb.mk [] (.run [0, 1, 2, 3, 4, 5, 6] .nil) (by kernel_rfl) ?_
  refine Need.mk keys_law ?_
  refine LkOb.hit (pp x.w) (.raw (pp x.w)) (find_ent hkK hxK) rfl ?_
  refine RdRaw.told (.int .i64 x.p.till) _ rfl (fun h k => sat_cell 3 rfl (fun y ky => kps_cell hxK y ky 3 _ rfl) k) ?_
  refine CondOb.split (fun g2 => ?_) (fun g2 => ?_)
  · have g2 : now < x.p.till := by simpa using g2
    refine ⟨⟨(i + 1, pv, cv, K, F), gi, hcv, ?_, ?_⟩, by show L.length - (i + 1) < L.length - i; omega, Le.of rfl ⟨⟨_, rfl, rfl⟩, ⟨_, rfl, rfl⟩, ⟨_, rfl, rfl⟩, ⟨_, rfl, rfl⟩, ⟨_, rfl, rfl⟩, ⟨_, rfl, congrArg (fun z => some (Value.int .i64 z)) ei⟩, trivial⟩ (fun h k => sat_pick 1 rfl (by first | exact fun _ k => k | exact fun _ k => blk_to rfl rfl k | exact fun _ k => vec_to rfl k | exact fun _ k => blk_of rfl rfl k | exact fun _ k => vec_of rfl k | exact fun _ k => blk_of rfl rfl (blk_to rfl rfl k) | exact fun _ k => vec_of rfl (vec_to rfl k) | exact fun _ k => mp_to rfl k | exact fun _ k => mp_of rfl k | exact fun _ k => mp_of rfl (mp_to rfl k)) (fun h k => sat_pick 1 rfl (fun _ k => k) (fun h k => sat_pick 1 rfl (by first | exact fun _ k => k | exact fun _ k => blk_to rfl rfl k | exact fun _ k => vec_to rfl k | exact fun _ k => blk_of rfl rfl k | exact fun _ k => vec_of rfl k | exact fun _ k => blk_of rfl rfl (blk_to rfl rfl k) | exact fun _ k => vec_of rfl (vec_to rfl k) | exact fun _ k => mp_to rfl k | exact fun _ k => mp_of rfl k | exact fun _ k => mp_of rfl (mp_to rfl k)) (fun h k => sat_pick 1 rfl (by first | exact fun _ k => k | exact fun _ k => blk_to rfl rfl k | exact fun _ k => vec_to rfl k | exact fun _ k => blk_of rfl rfl k | exact fun _ k => vec_of rfl k | exact fun _ k => blk_of rfl rfl (blk_to rfl rfl k) | exact fun _ k => vec_of rfl (vec_to rfl k) | exact fun _ k => mp_to rfl k | exact fun _ k => mp_of rfl k | exact fun _ k => mp_of rfl (mp_to rfl k)) (fun h k => sat_pick 1 rfl (by first | exact fun _ k => k | exact fun _ k => blk_to rfl rfl k | exact fun _ k => vec_to rfl k | exact fun _ k => blk_of rfl rfl k | exact fun _ k => vec_of rfl k | exact fun _ k => blk_of rfl rfl (blk_to rfl rfl k) | exact fun _ k => vec_of rfl (vec_to rfl k) | exact fun _ k => mp_to rfl k | exact fun _ k => mp_of rfl k | exact fun _ k => mp_of rfl (mp_to rfl k)) (fun h k => sat_pick 1 rfl (by first | exact fun _ k => k | exact fun _ k => blk_to rfl rfl k | exact fun _ k => vec_to rfl k | exact fun _ k => blk_of rfl rfl k | exact fun _ k => vec_of rfl k | exact fun _ k => blk_of rfl rfl (blk_to rfl rfl k) | exact fun _ k => vec_of rfl (vec_to rfl k) | exact fun _ k => mp_to rfl k | exact fun _ k => mp_of rfl k | exact fun _ k => mp_of rfl (mp_to rfl k)) (fun h k => sat_nil k) k) k) k) k) k) k)⟩
    · show K = keepL now (L.take (i + 1)) ++ L.drop (i + 1)
      rw [hKx, ht1]
      unfold keepL
      rw [List.filter_append, List.append_assoc]
      simp [g2]
    · show F = firsts (lateL now (L.take (i + 1)))
      rw [hF, ht1]
      unfold lateL
      rw [List.filter_append]
      simp [show ¬ x.p.till ≤ now by omega]
  have g2 : ¬ now < x.p.till := by simpa using g2
  refine DrawOb.mk [] (.run [0, 1, 2, 3, 4, 5] .nil) (by kernel_rfl) ?_
  refine Need.mk keys_law ?_
  have hmA : ∀ y ∈ keepL now (L.take i), y.k ≠ x.k := by
    rw [hKx] at hkK
    intro y hy
    exact (List.pairwise_append.1 hkK).2.2 y hy x (by simp)
  have hde : delL [x.k.src, x.k.dst, x.k.proto, x.k.ident] (K.map Kp.ent) = (keepL now (L.take i) ++ L.drop (i + 1)).map Kp.ent := by rw [hKx]; exact del_ent hmA
  have hK3 : keepL now (L.take i) ++ L.drop (i + 1) = keepL now (L.take (i + 1)) ++ L.drop (i + 1) := by
    rw [ht1]
    unfold keepL
    rw [List.filter_append]
    simp [g2]
  have hlate : lateL now (L.take (i + 1)) = lateL now (L.take i) ++ [x] := by
    rw [ht1]
    unfold lateL
    rw [List.filter_append]
    simp [show x.p.till ≤ now by omega]
  have hsub : (keepL now (L.take i) ++ L.drop (i + 1)).Sublist K := by rw [hKx]; exact List.Sublist.append_left (List.sublist_cons_self _ _) _
  have hfst := (hL.ok x hxm).fst
  cases hfi : x.fi with
  | none =>
    rw [hfi] at hfst
    refine RdRaw.told .nilp _ rfl (fun h k => sat_cell 3 rfl (fun y ky => kps_cell hxK y ky 2 _ (by simp [Pk.vals, hfst])) k) ?_
    refine ⟨⟨(i + 1, pv, cv, keepL now (L.take i) ++ L.drop (i + 1), F), gi, hcv, hK3, ?_⟩, by show L.length - (i + 1) < L.length - i; omega, Le.of rfl ⟨⟨_, rfl, rfl⟩, ⟨_, rfl, rfl⟩, ⟨_, rfl, rfl⟩, ⟨_, rfl, rfl⟩, ⟨_, rfl, rfl⟩, ⟨_, rfl, congrArg (fun z => some (Value.int .i64 z)) ei⟩, trivial⟩ (fun h k => sat_pick 2 rfl (by first | exact fun _ k => k | exact fun _ k => blk_to rfl rfl k | exact fun _ k => vec_to rfl k | exact fun _ k => blk_of rfl rfl k | exact fun _ k => vec_of rfl k | exact fun _ k => blk_of rfl rfl (blk_to rfl rfl k) | exact fun _ k => vec_of rfl (vec_to rfl k) | exact fun _ k => mp_to rfl k | exact fun _ k => mp_of rfl k | exact fun _ k => mp_of rfl (mp_to rfl k)) (fun h k => sat_pick 0 rfl (fun _ k9 => by rw [← hde]; exact k9) (fun h k => sat_pick 1 rfl (fun _ k9 => by exact kps_less hsub _ k9) (fun h k => sat_pick 1 rfl (by first | exact fun _ k => k | exact fun _ k => blk_to rfl rfl k | exact fun _ k => vec_to rfl k | exact fun _ k => blk_of rfl rfl k | exact fun _ k => vec_of rfl k | exact fun _ k => blk_of rfl rfl (blk_to rfl rfl k) | exact fun _ k => vec_of rfl (vec_to rfl k) | exact fun _ k => mp_to rfl k | exact fun _ k => mp_of rfl k | exact fun _ k => mp_of rfl (mp_to rfl k)) (fun h k => sat_pick 1 rfl (by first | exact fun _ k => k | exact fun _ k => blk_to rfl rfl k | exact fun _ k => vec_to rfl k | exact fun _ k => blk_of rfl rfl k | exact fun _ k => vec_of rfl k | exact fun _ k => blk_of rfl rfl (blk_to rfl rfl k) | exact fun _ k => vec_of rfl (vec_to rfl k) | exact fun _ k => mp_to rfl k | exact fun _ k => mp_of rfl k | exact fun _ k => mp_of rfl (mp_to rfl k)) (fun h k => sat_pick 1 rfl (by first | exact fun _ k => k | exact fun _ k => blk_to rfl rfl k | exact fun _ k => vec_to rfl k | exact fun _ k => blk_of rfl rfl k | exact fun _ k => vec_of rfl k | exact fun _ k => blk_of rfl rfl (blk_to rfl rfl k) | exact fun _ k => vec_of rfl (vec_to rfl k) | exact fun _ k => mp_to rfl k | exact fun _ k => mp_of rfl k | exact fun _ k => mp_of rfl (mp_to rfl k)) (fun h k => sat_nil k) k) k) k) k) k) k)⟩
    show F = firsts (lateL now (L.take (i + 1)))
    rw [hlate, hF]
    unfold firsts
    rw [List.filterMap_append]
    simp [hfi]
  | some y =>
    rw [hfi] at hfst
    refine RdRaw.told (.raw (pp y.b)) _ rfl (fun h k => sat_cell 3 rfl (fun z kz => kps_cell hxK z kz 2 _ (by simp [Pk.vals, hfst, pp])) k) ?_
    refine RdRaw.told (.raw (pp y.b)) _ rfl (fun h k => sat_cell 3 rfl (fun z kz => kps_cell hxK z kz 2 _ (by simp [Pk.vals, hfst, pp])) k) ?_
    refine RdF.told y.ip.svs y.ip.vals rfl rfl (fun h k j v hv => sat_cell 3 rfl (fun z kz => by rw [Nat.zero_add]; exact kps_fst hxK hfi z kz j v hv) k) ?_
    intro b6
    have hFl : F.length ≤ i := by
      rw [hF]
      unfold firsts lateL
      exact Nat.le_trans (List.length_filterMap_le _ _) (Nat.le_trans (List.length_filter_le _ _) (by rw [List.length_take]; omega))
    have hlF : (IL.flat (F.map Fst.ip)).length = F.length * 11 := by rw [lIL, List.length_map]
    refine StOb.mk (IL.cells y.ip) rfl (Need.mk rfl ?_)
    refine Need.mk ⟨by dsimp only; omega, by dsimp only; omega, hcv⟩ ?_
    refine Need.mk ⟨by dsimp only; omega, by dsimp only; simp only [maxLen]; omega, IL.one _⟩ ?_
    refine NewSl.pos (Nat.succ_pos _) (fun b8 o8 c8 hc8 => ?_)
    have hfl : List.take (F.length * 11) (List.drop 0 (IL.flat (F.map Fst.ip))) ++ IL.cells y.ip = IL.flat ((F ++ [y]).map Fst.ip) := by
      rw [List.drop_zero, List.take_of_length_le (by omega), List.map_append, IL.flat_append]
      exact congrArg _ (IL.flat_one y.ip).symm
    have e3 : (F ++ [y]).length = F.length + 1 := List.length_append
    have hKm : K.map Kp.A = (keepL now (L.take i) ++ x :: L.drop (i + 1)).map Kp.A := by rw [hKx]
    refine ⟨⟨(i + 1, .at b8 o8, c8, keepL now (L.take i) ++ L.drop (i + 1), F ++ [y]), gi, by show (F ++ [y]).length ≤ c8; rw [e3]; exact hc8, hK3, ?_⟩, by show L.length - (i + 1) < L.length - i; omega, Le.of rfl ⟨⟨_, rfl, rfl⟩, ⟨_, rfl, rfl⟩, ⟨_, rfl, (congrArg (fun n => some (Value.slice (some ⟨b8, o8 + 0, none⟩) n c8)) e3.symm)⟩, ⟨_, rfl, rfl⟩, ⟨_, rfl, rfl⟩, ⟨_, rfl, congrArg (fun z => some (Value.int .i64 z)) ei⟩, trivial⟩ (fun h k => ?_)⟩
    · show F ++ [y] = firsts (lateL now (L.take (i + 1)))
      rw [hlate, hF]
      unfold firsts
      rw [List.filterMap_append]
      simp [hfi]
    · have k1 := (fun h k => sat_pick 5 rfl (by first | exact fun _ k => k | exact fun _ k => blk_to rfl rfl k | exact fun _ k => vec_to rfl k | exact fun _ k => blk_of rfl rfl k | exact fun _ k => vec_of rfl k | exact fun _ k => blk_of rfl rfl (blk_to rfl rfl k) | exact fun _ k => vec_of rfl (vec_to rfl k) | exact fun _ k => mp_to rfl k | exact fun _ k => mp_of rfl k | exact fun _ k => mp_of rfl (mp_to rfl k)) (fun h k => sat_pick 0 rfl (by first | exact fun _ k => k | exact fun _ k => blk_to rfl rfl k | exact fun _ k => vec_to rfl k | exact fun _ k => blk_of rfl rfl k | exact fun _ k => vec_of rfl k | exact fun _ k => blk_of rfl rfl (blk_to rfl rfl k) | exact fun _ k => vec_of rfl (vec_to rfl k) | exact fun _ k => mp_to rfl k | exact fun _ k => mp_of rfl k | exact fun _ k => mp_of rfl (mp_to rfl k)) (fun h k => sat_pick 1 rfl (by first | exact fun _ k => k | exact fun _ k => blk_to rfl rfl k | exact fun _ k => vec_to rfl k | exact fun _ k => blk_of rfl rfl k | exact fun _ k => vec_of rfl k | exact fun _ k => blk_of rfl rfl (blk_to rfl rfl k) | exact fun _ k => vec_of rfl (vec_to rfl k) | exact fun _ k => mp_to rfl k | exact fun _ k => mp_of rfl k | exact fun _ k => mp_of rfl (mp_to rfl k)) (fun h k => sat_pick 2 rfl (by first | exact fun _ k => k | exact fun _ k => blk_to rfl rfl k | exact fun _ k => vec_to rfl k | exact fun _ k => blk_of rfl rfl k | exact fun _ k => vec_of rfl k | exact fun _ k => blk_of rfl rfl (blk_to rfl rfl k) | exact fun _ k => vec_of rfl (vec_to rfl k) | exact fun _ k => mp_to rfl k | exact fun _ k => mp_of rfl k | exact fun _ k => mp_of rfl (mp_to rfl k)) (fun h k => sat_pick 2 rfl (by first | exact fun _ k => k | exact fun _ k => blk_to rfl rfl k | exact fun _ k => vec_to rfl k | exact fun _ k => blk_of rfl rfl k | exact fun _ k => vec_of rfl k | exact fun _ k => blk_of rfl rfl (blk_to rfl rfl k) | exact fun _ k => vec_of rfl (vec_to rfl k) | exact fun _ k => mp_to rfl k | exact fun _ k => mp_of rfl k | exact fun _ k => mp_of rfl (mp_to rfl k)) (fun h k => sat_pick 2 rfl (by first | exact fun _ k => k | exact fun _ k => blk_to rfl rfl k | exact fun _ k => vec_to rfl k | exact fun _ k => blk_of rfl rfl k | exact fun _ k => vec_of rfl k | exact fun _ k => blk_of rfl rfl (blk_to rfl rfl k) | exact fun _ k => vec_of rfl (vec_to rfl k) | exact fun _ k => mp_to rfl k | exact fun _ k => mp_of rfl k | exact fun _ k => mp_of rfl (mp_to rfl k)) (fun h k => sat_nil k) k) k) k) k) k) k) h k
      have k1 := sat_head (B := Alls ((keepL now (L.take i) ++ x :: L.drop (i + 1)).map Kp.A)) (fun _ q => by rw [← hKm]; exact q) k1
      exact (fun h k => sat_pick 4 rfl (by first | exact fun _ k => k | exact fun _ k => blk_to rfl rfl k | exact fun _ k => vec_to rfl k | exact fun _ k => blk_of rfl rfl k | exact fun _ k => vec_of rfl k | exact fun _ k => blk_of rfl rfl (blk_to rfl rfl k) | exact fun _ k => vec_of rfl (vec_to rfl k) | exact fun _ k => mp_to rfl k | exact fun _ k => mp_of rfl k | exact fun _ k => mp_of rfl (mp_to rfl k)) (fun h k => sat_pick 3 rfl (fun _ k9 => by rw [← hde]; exact k9) (fun h k => sat_pick 1 rfl (by first | exact fun _ k => k | exact fun _ k => blk_to rfl rfl k | exact fun _ k => vec_to rfl k | exact fun _ k => blk_of rfl rfl k | exact fun _ k => vec_of rfl k | exact fun _ k => blk_of rfl rfl (blk_to rfl rfl k) | exact fun _ k => vec_of rfl (vec_to rfl k) | exact fun _ k => mp_to rfl k | exact fun _ k => mp_of rfl k | exact fun _ k => mp_of rfl (mp_to rfl k)) (fun h k => sat_pick 2 rfl (by first | exact fun _ k => k | exact fun _ k => blk_to rfl rfl k | exact fun _ k => vec_to rfl k | exact fun _ k => blk_of rfl rfl k | exact fun _ k => vec_of rfl k | exact fun _ k => blk_of rfl rfl (blk_to rfl rfl k) | exact fun _ k => vec_of rfl (vec_to rfl k) | exact fun _ k => mp_to rfl k | exact fun _ k => mp_of rfl k | exact fun _ k => mp_of rfl (mp_to rfl k)) (fun h k => sat_pick 1 rfl (fun _ k9 => by exact vec_of rfl (vec_cast hfl (vec_to (l := .at b8 o8) rfl k9))) (fun h k => sat_pick2 0 0 rfl rfl (fun h9 k9 => fs_more hfi h9 k9) (fun h k => sat_nil k) k) k) k) k) k) k) h (kps_out k1)
end Go.Proofs.Ytiknkeakielncaa.Rs
