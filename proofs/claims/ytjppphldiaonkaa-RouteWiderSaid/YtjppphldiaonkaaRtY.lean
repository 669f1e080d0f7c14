/- route: Add. Conditions: none. -/
import Derived.Test.YtjppphldiaonkaaRtW
namespace Go.Proofs.Ytjppphldiaonkaa.Rt
open Go Go.Proofs Sx
set_option maxRecDepth 100000
set_option linter.unusedVariables false
set_option linter.unusedSimpArgs false
set_option maxHeartbeats 4000000

/-- Cells of a part that is told are turned. -/
theorem sat_updE {A A' : Asn} {b o : Nat} {vs : List Value} (g : ∀ x, A x → ∃ c t, x b = some (.cells c t (0, 0)) ∧ o + vs.length ≤ c.size ∧ A' (upd x b (.cells (putV c.toList o vs).toArray t (0, 0)))) :
    ∀ (n : Nat) {As : List Asn} {h : HP}, As[n]? = some A → sat As h → ∃ c t, h b = some (.cells c t (0, 0)) ∧ o + vs.length ≤ c.size ∧ sat (As.set n A') (upd h b (.cells (putV c.toList o vs).toArray t (0, 0)))
  | 0, As, h, e, k => by
    cases As with
    | nil => simp at e
    | cons B As =>
      simp at e; subst e
      obtain ⟨x, y, t, hx, hy⟩ := k
      obtain ⟨c, ty, h1, h2, h3⟩ := g x hx
      exact ⟨c, ty, t.get h1, h2, _, y, t.updL h1, h3, hy⟩
  | n + 1, As, h, e, k => by
    cases As with
    | nil => simp at e
    | cons B As =>
      obtain ⟨x, y, t, hx, hy⟩ := k
      obtain ⟨c, ty, h1, h2, h3⟩ := sat_updE g n (show As[n]? = some A by simpa using e) hy
      exact ⟨c, ty, t.comm.get h1, h2, x, _, (t.comm.updL h1).comm, hx, h3⟩
theorem StRaw.on {s : St} {b o : Nat} {l : List SV} {K : St → Prop} (n : Nat) {A : Asn} (A' : Asn) (vs : List Value) (hd : denL s.nm l = some vs) (hn : s.hp[n]? = some (.asn A))
    (g : ∀ x, A x → ∃ c t, x b = some (.cells c t (0, 0)) ∧ o + vs.length ≤ c.size ∧ A' (upd x b (.cells (putV c.toList o vs).toArray t (0, 0)))) (k : K ⟨s.n, s.env, s.nm, s.next, s.hp.set n (.asn A')⟩) : StRaw s b o l K := by
  refine .mk vs hd _ (fun h hs => ?_) k
  have hn' : s.ents[n]? = some A := by simp only [St.ents, List.getElem?_map, hn]; rfl
  rw [List.map_set]
  exact sat_updE g n hn' hs
theorem blk_vec {b : Nat} {t : TypeId} {sz cap : Nat} {xs : List Value} {h : HP} (hv : ∀ v ∈ xs, v.oneCell' = true) (hc : cap * sz ≤ xs.length) (k : pt b (.cells xs.toArray t (0, 0)) h) : Vec (.at b 0) t sz cap xs h :=
  ⟨hv, .inr ⟨b, 0, [], [], rfl, by simpa using k, rfl, by simpa using hc⟩⟩
theorem bs_same {n : Int} {T : List Nd} {i : Nat} {m : Nd} (h : T[i]? = some m) {ws : List R} (e : ws.length = m.ws.length) : Bs n (T.set i (m.turn m.pl m.cap ws)) = Bs n T := by
  unfold Bs
  rw [keys_set h]
  refine congrArg Alls (map_set_same h ?_)
  unfold Nd.blk Nd.obj Nd.cells
  show pt m.b (if m.k = 0 then Obj.cells ([.slice (locAddr 0 m.pl) ws.length m.cap, _, _] ++ _).toArray 97 (0, 0) else .cells [.slice (locAddr 0 m.pl) ws.length m.cap, _, _].toArray 93 (0, 0)) = _
  rw [e]; rfl
theorem vs_out {T : List Nd} {i : Nat} {m : Nd} (h : T[i]? = some m) {As : List Asn} {y : HP} (k : sat (Vs T :: As) y) : sat (Vec m.pl 85 5 m.cap (RL.flat m.ws) :: Alls ((T.map Nd.vec).eraseIdx i) :: As) y :=
  alls_pick i (by rw [List.getElem?_map, h]; rfl) k
theorem vec_at {pl : Plc} {t : TypeId} {sz cap : Nat} {xs : List Value} {h : HP} (hx : xs ≠ []) (k : Vec pl t sz cap xs h) : ∃ b o, pl = .at b o := by
  obtain ⟨_, ⟨_, h2, _⟩ | ⟨b, o, _, _, h2, _⟩⟩ := k
  · exact absurd h2 hx
  · exact ⟨b, o, h2⟩
theorem insertT {T : List Nd} {i : Nat} {m : Nd} (h : T[i]? = some m) (c : Nat) (x : R) (j : Nat) (hj : j ≤ m.ws.length) (hl : m.ws.length ≤ 100000) (hc : m.ws.length ≤ m.cap) :
    Does Try.prog 46 #[.slice (locAddr 0 m.pl) m.ws.length m.cap, .int .i64 j, .slice (some ⟨c, 0, none⟩) 1 1] (fun _ => True) [Vs T, Vec (.at c 0) 85 5 1 (RL.flat [x])]
      (fun v q => ∃ pl' c', v = .slice (locAddr 0 pl') (m.ws.take j ++ [x] ++ m.ws.drop j).length c' ∧ (m.ws.take j ++ [x] ++ m.ws.drop j).length ≤ c' ∧ (∃ b o, pl' = .at b o) ∧ q = [Vs (T.set i (m.turn pl' c' (m.ws.take j ++ [x] ++ m.ws.drop j)))]) := by
  have hil := (List.getElem?_eq_some_iff.1 h).1
  have hlen : (m.ws.take j ++ [x] ++ m.ws.drop j).length = m.ws.length + 1 := by simp; omega
  have h1 := frameOf [Alls ((T.map Nd.vec).eraseIdx i)] (insert_spec m.pl m.cap c m.ws x j hj hl hc)
  have h2 := h1.pre (pre' := [Vs T, Vec (.at c 0) 85 5 1 (RL.flat [x])]) (fun y k => by
    have k := vs_out h k
    exact sat_perm ((List.Perm.swap _ _ _).cons _) k)
  refine h2.opens ?_
  rintro v q y ⟨q', ⟨pl', c', rfl, hc', rfl⟩, rfl⟩ k
  rw [hlen]
  obtain ⟨u, w, s, hu, hw⟩ := k
  have hat := vec_at (by rw [Ne, ← List.length_eq_zero_iff, lR, hlen]; omega) hu
  exact ⟨_, ⟨pl', c', rfl, hc', hat, rfl⟩, y, HP.emp, .emp_right _, vs_turn hil m pl' c' _ y ⟨u, w, s, hu, hw⟩, trivial⟩
/-- The tree in which a way has been put in place of another one. -/
theorem add_set {tb n : Nat} {T : List Nd} (hj : TJ tb n T) {x : R} (ho : okR x = true) {i : Nat} {m : Nd} (h : T[i]? = some m) (hx : m.x = x.net ∧ (m.k : Int) = x.bits) {k : Nat} (hf : foundB m.ws x.cost k = true) :
    TAdd T n x 0 (T.set i (m.turn m.pl m.cap (m.ws.set k x))) n ∧ TJ tb n (T.set i (m.turn m.pl m.cap (m.ws.set k x))) := by
  obtain ⟨y, hy, hyc⟩ := bs_hit hf
  have hm := List.mem_of_getElem? h
  have hi := hj.ti
  have hup := hi.ord m hm
  have hym : y ∈ m.ws := List.mem_of_getElem? hy
  refine ⟨.set _ ho y ⟨m, hm, hym⟩ ((hi.here hm hx hym).2 hyc) (fun w => ?_), hi.turn h (up_set hup hy hyc.symm) (fun w hw => ?_) (by rw [List.length_set]; exact hi.cap m hm) (fun _ => hi.at_ m hm (by intro e; rw [e] at hym; simp at hym)), ?_, hj.le⟩
  · rw [wm_turn h, wm_old h, mem_setR hup hy]
    constructor
    · rintro (⟨j, q, hne, hq, hw⟩ | ⟨hw, hc⟩ | rfl)
      · exact .inl ⟨.inl ⟨j, q, hne, hq, hw⟩, hi.other h hx hne hq hw⟩
      · refine .inl ⟨.inr hw, ?_⟩
        rw [← Bool.not_eq_true, hi.here hm hx hw, ← hyc]; exact hc
      · exact .inr rfl
    · rintro (⟨⟨j, q, hne, hq, hw⟩ | hw, hk⟩ | rfl)
      · exact .inl ⟨j, q, hne, hq, hw⟩
      · refine .inr (.inl ⟨hw, ?_⟩)
        rw [← Bool.not_eq_true, hi.here hm hx hw, ← hyc] at hk; exact hk
      · exact .inr (.inr rfl)
  · rw [mem_setR hup hy] at hw
    rcases hw with ⟨hw, _⟩ | rfl
    · exact hi.way m hm w hw
    · exact ⟨hx.1.symm, hx.2.symm, ho⟩
  · have := totw_turn h m.pl m.cap (m.ws.set k x)
    rw [List.length_set] at this
    have := hj.tot; omega
/-- .. in which a way is new. -/
theorem add_new {tb n : Nat} {T E : List Nd} (hj : TJ tb n T) (hE : ∀ e ∈ E, e.ws = []) (hi : TI tb (T ++ E)) {x : R} (ho : okR x = true) (hn : ∀ y, WM T y → key x y = false) (hl : n ≠ 64) {i : Nat} {m : Nd} (h : (T ++ E)[i]? = some m) (hx : m.x = x.net ∧ (m.k : Int) = x.bits) {k : Nat} (b : BsR m.ws x.cost k) {pl : Plc} {c : Nat}
    (hf : foundB m.ws x.cost k = false) (hc : (m.ws.take k ++ [x] ++ m.ws.drop k).length ≤ c) (ha : ∃ b o, pl = .at b o) :
    TAdd T n x 0 ((T ++ E).set i (m.turn pl c (m.ws.take k ++ [x] ++ m.ws.drop k))) (n + 1) ∧ TJ tb (n + 1) ((T ++ E).set i (m.turn pl c (m.ws.take k ++ [x] ++ m.ws.drop k))) := by
  have hm := List.mem_of_getElem? h
  have hup := hi.ord m hm
  refine ⟨.new _ ho hn hl (fun w => ?_), hi.turn h (up_ins hup b hf) (fun w hw => ?_) hc (fun _ => ha), ?_, by have := hj.le; omega⟩
  · rw [wm_turn h, ← wm_more hE w, wm_old h, mem_ins]
    exact or_assoc.symm
  · rw [mem_ins] at hw
    rcases hw with hw | rfl
    · exact hi.way m hm w hw
    · exact ⟨hx.1.symm, hx.2.symm, ho⟩
  · have := totw_turn h pl c (m.ws.take k ++ [x] ++ m.ws.drop k)
    rw [totw_more hE] at this
    have e : (m.ws.take k ++ [x] ++ m.ws.drop k).length = m.ws.length + 1 := by simp; have := b.le; omega
    have := hj.tot; omega
theorem not_found {tb : Nat} {T : List Nd} (hi : TI tb T) {x : R} (hn : ∀ y, WM T y → key x y = false) {m : Nd} (hm : m ∈ T) (hx : m.x = x.net ∧ (m.k : Int) = x.bits) (k : Nat) : foundB m.ws x.cost k = false := by
  cases e : foundB m.ws x.cost k with
  | false => rfl
  | true =>
    obtain ⟨y, hy, hyc⟩ := bs_hit e
    have hym := List.mem_of_getElem? hy
    have := hn y ⟨m, hm, hym⟩
    rw [(hi.here hm hx hym).2 hyc] at this
    cases this
theorem found_none {tb : Nat} {T : List Nd} (hi : TI tb T) {x : R} {m : Nd} (hm : m ∈ T) (hx : m.x = x.net ∧ (m.k : Int) = x.bits) {k : Nat} (b : BsR m.ws x.cost k) (hf : foundB m.ws x.cost k = false) : ∀ y, WM T y → key x y = false := fun y hy => by
  cases e : key x y with
  | false => rfl
  | true =>
    obtain ⟨i, hil, hie⟩ := List.getElem_of_mem hm
    have h : T[i]? = some m := by rw [List.getElem?_eq_getElem hil, hie]
    rcases (wm_old h y).1 hy with ⟨j, q, hne, hq, hw⟩ | hw
    · rw [hi.other h hx hne hq hw] at e; cases e
    · obtain ⟨j, hj, e2⟩ := List.getElem_of_mem hw
      have hjw : m.ws[j]? = some y := by rw [List.getElem?_eq_getElem hj, e2]
      have := bs_miss (hi.ord m hm) b hf j y hjw
      have hc := (hi.here hm hx hw).1 e
      rcases Nat.lt_or_ge j k with h1 | h1
      · have := this.1 h1; omega
      · have := this.2 h1; omega
theorem none_none {tb : Nat} {T : List Nd} (hi : TI tb T) {x : R} {k : Nat} (hk : x.bits = (k : Int)) (h : nodeAt T x.net k = none) : ∀ y, WM T y → key x y = false := fun y ⟨m, hm, hy⟩ => by
  cases e : key x y with
  | false => rfl
  | true =>
    obtain ⟨h1, h2, _⟩ := key_iff.1 e
    obtain ⟨h3, h4, _⟩ := hi.way m hm y hy
    exact absurd ⟨by rw [← h3, h1], by omega⟩ (nodeAt_none h m hm)
theorem okR_all {x : R} (h : okR x = true) : ∃ k : Nat, k ≤ 32 ∧ x.bits = (k : Int) ∧ netOf x.net (k : Int) = x.net := by
  simp only [okR, Bool.and_eq_true, decide_eq_true_eq] at h
  obtain ⟨h0, h1, h2, _⟩ := h
  obtain ⟨k, hk⟩ := Int.eq_ofNat_of_zero_le h0
  exact ⟨k, by omega, hk, by rw [← hk]; exact h2⟩
end Go.Proofs.Ytjppphldiaonkaa.Rt
namespace Go.Proofs.Ytjppphldiaonkaa.Rt
open Go Go.Proofs Sx
set_option maxRecDepth 100000
set_option linter.unusedVariables false
set_option linter.unusedSimpArgs false
set_option maxHeartbeats 4000000

theorem add_spec (tb n : Nat) (T : List Nd) (hj : TJ tb n T) (x : R) (ok : x.Ok) :
    Does Try.prog 13 #[.pointer (some ⟨tb, 0, none⟩), .agg x.vals.toArray] (fun _ => True) [Bs n T, Vs T]
      (fun v p => ∃ e T' n', v = .int .i64 e ∧ TAdd T n x e T' n' ∧ TJ tb n' T' ∧ p = [Bs n' T', Vs T']) := by
  refine Does.ofJ Try.func13 Try.call13 rfl [.raw (.pointer (some ⟨tb, 0, none⟩)), .agg x.svs] [] 0 [.asn (Bs n T), .asn (Vs T)] rfl rfl (fun h k => sat_pick 0 rfl (by first | exact fun _ k => k | exact fun _ k => blk_to rfl rfl k | exact fun _ k => vec_to rfl k | exact fun _ k => blk_of rfl rfl k | exact fun _ k => vec_of rfl k | exact fun _ k => blk_of rfl rfl (blk_to rfl rfl k) | exact fun _ k => vec_of rfl (vec_to rfl k) | exact fun _ k => mp_to rfl k | exact fun _ k => mp_of rfl k | exact fun _ k => mp_of rfl (mp_to rfl k)) (fun h k => sat_pick 0 rfl (by first | exact fun _ k => k | exact fun _ k => blk_to rfl rfl k | exact fun _ k => vec_to rfl k | exact fun _ k => blk_of rfl rfl k | exact fun _ k => vec_of rfl k | exact fun _ k => blk_of rfl rfl (blk_to rfl rfl k) | exact fun _ k => vec_of rfl (vec_to rfl k) | exact fun _ k => mp_to rfl k | exact fun _ k => mp_of rfl k | exact fun _ k => mp_of rfl (mp_to rfl k)) (fun h k => sat_nil k) k) k) (fun f hR => ?_)
  have hi := hj.ti
  intro b3
  refine useP (.bool (okR x)) (right_spec x ok) rfl rfl ?_
  refine CondOb.split (fun g => ?_) (fun g => ?_)
  · have g : okR x = false := by simpa using g
    exact FinOb.mk [.int .i64 1] [Bs n T, Vs T] rfl (fun h k => sat_pick 1 rfl (by first | exact fun _ k => k | exact fun _ k => blk_to rfl rfl k | exact fun _ k => vec_to rfl k | exact fun _ k => blk_of rfl rfl k | exact fun _ k => vec_of rfl k | exact fun _ k => blk_of rfl rfl (blk_to rfl rfl k) | exact fun _ k => vec_of rfl (vec_to rfl k) | exact fun _ k => mp_to rfl k | exact fun _ k => mp_of rfl k | exact fun _ k => mp_of rfl (mp_to rfl k)) (fun h k => sat_pick 1 rfl (by first | exact fun _ k => k | exact fun _ k => blk_to rfl rfl k | exact fun _ k => vec_to rfl k | exact fun _ k => blk_of rfl rfl k | exact fun _ k => vec_of rfl k | exact fun _ k => blk_of rfl rfl (blk_to rfl rfl k) | exact fun _ k => vec_of rfl (vec_to rfl k) | exact fun _ k => mp_to rfl k | exact fun _ k => mp_of rfl k | exact fun _ k => mp_of rfl (mp_to rfl k)) (fun h k => sat_nil k) k) k) ⟨1, T, n, rfl, .bad g, hj, rfl⟩
  have hok : okR x = true := by simpa using g
  obtain ⟨k, hk, hkb, hkn⟩ := okR_all hok
  intro b5
  have hget := net_get tb n T hi x.net ok.n0 ok.n1 k hk
  rw [hkn, ← hkb] at hget
  cases e : nodeAt T x.net k with
  | none =>
    rw [kidP_no e] at hget
    have hno := none_none hi hkb e
    refine useA [_, _] [_] (.raw (.pointer none)) hget rfl rfl rfl ?_
    refine RdRaw.told (.int .i64 n) _ rfl (fun h hh => sat_cell 2 rfl (fun x kx => bs_n hi x kx) hh) ?_
    refine CondOb.split (fun g => ?_) (fun g => ?_)
    · have g : n = 64 := by
        have g : ((n : Int) == 64) = true := g
        rw [beq_iff_eq] at g
        omega
      exact FinOb.mk [.int .i64 5] [Bs n T, Vs T] rfl (fun h k => sat_pick 2 rfl (by first | exact fun _ k => k | exact fun _ k => blk_to rfl rfl k | exact fun _ k => vec_to rfl k | exact fun _ k => blk_of rfl rfl k | exact fun _ k => vec_of rfl k | exact fun _ k => blk_of rfl rfl (blk_to rfl rfl k) | exact fun _ k => vec_of rfl (vec_to rfl k) | exact fun _ k => mp_to rfl k | exact fun _ k => mp_of rfl k | exact fun _ k => mp_of rfl (mp_to rfl k)) (fun h k => sat_pick 2 rfl (by first | exact fun _ k => k | exact fun _ k => blk_to rfl rfl k | exact fun _ k => vec_to rfl k | exact fun _ k => blk_of rfl rfl k | exact fun _ k => vec_of rfl k | exact fun _ k => blk_of rfl rfl (blk_to rfl rfl k) | exact fun _ k => vec_of rfl (vec_to rfl k) | exact fun _ k => mp_to rfl k | exact fun _ k => mp_of rfl k | exact fun _ k => mp_of rfl (mp_to rfl k)) (fun h k => sat_nil k) k) k) ⟨5, T, n, rfl, .full hok hno g, hj, rfl⟩
    have g : n ≠ 64 := by
      have g : ((n : Int) == 64) = false := g
      rw [beq_eq_false_iff_ne] at g
      omega
    have hmake := net_make tb n T hi x.net ok.n0 ok.n1 k hk
    rw [← hkb] at hmake
    refine call_ix hmake rfl [2, 2] (fun h k => sat_pick 2 rfl (by first | exact fun _ k => k | exact fun _ k => blk_to rfl rfl k | exact fun _ k => vec_to rfl k | exact fun _ k => blk_of rfl rfl k | exact fun _ k => vec_of rfl k | exact fun _ k => blk_of rfl rfl (blk_to rfl rfl k) | exact fun _ k => vec_of rfl (vec_to rfl k) | exact fun _ k => mp_to rfl k | exact fun _ k => mp_of rfl k | exact fun _ k => mp_of rfl (mp_to rfl k)) (fun h k => sat_pick 2 rfl (by first | exact fun _ k => k | exact fun _ k => blk_to rfl rfl k | exact fun _ k => vec_to rfl k | exact fun _ k => blk_of rfl rfl k | exact fun _ k => vec_of rfl k | exact fun _ k => blk_of rfl rfl (blk_to rfl rfl k) | exact fun _ k => vec_of rfl (vec_to rfl k) | exact fun _ k => mp_to rfl k | exact fun _ k => mp_of rfl k | exact fun _ k => mp_of rfl (mp_to rfl k)) (fun h k => sat_pick 0 rfl (by first | exact fun _ k => k | exact fun _ k => blk_to rfl rfl k | exact fun _ k => vec_to rfl k | exact fun _ k => blk_of rfl rfl k | exact fun _ k => vec_of rfl k | exact fun _ k => blk_of rfl rfl (blk_to rfl rfl k) | exact fun _ k => vec_of rfl (vec_to rfl k) | exact fun _ k => mp_to rfl k | exact fun _ k => mp_of rfl k | exact fun _ k => mp_of rfl (mp_to rfl k)) (fun h k => sat_pick 0 rfl (by first | exact fun _ k => k | exact fun _ k => blk_to rfl rfl k | exact fun _ k => vec_to rfl k | exact fun _ k => blk_of rfl rfl k | exact fun _ k => vec_of rfl k | exact fun _ k => blk_of rfl rfl (blk_to rfl rfl k) | exact fun _ k => vec_of rfl (vec_to rfl k) | exact fun _ k => mp_to rfl k | exact fun _ k => mp_of rfl k | exact fun _ k => mp_of rfl (mp_to rfl k)) (fun h k => sat_nil k) k) k) k) k) (fun _ _ _ _ => trivial) ?_
    rintro v post ⟨E, m, hE, hiE, hm, hmx, hmk, rfl, rfl⟩
    rw [hkb, hkn] at hmx
    have hx : m.x = x.net ∧ (m.k : Int) = x.bits := ⟨hmx, by rw [hkb, hmk]⟩
    refine ⟨.raw (.pointer (some ⟨m.b, 0, none⟩)), _, 2, [.asn (Bs n (T ++ E)), .asn (Vs (T ++ E))], NmExt.refl _, rfl, (fun h k => sat_pick 0 rfl (by first | exact fun _ k => k | exact fun _ k => blk_to rfl rfl k | exact fun _ k => vec_to rfl k | exact fun _ k => blk_of rfl rfl k | exact fun _ k => vec_of rfl k | exact fun _ k => blk_of rfl rfl (blk_to rfl rfl k) | exact fun _ k => vec_of rfl (vec_to rfl k) | exact fun _ k => mp_to rfl k | exact fun _ k => mp_of rfl k | exact fun _ k => mp_of rfl (mp_to rfl k)) (fun h k => sat_pick 0 rfl (by first | exact fun _ k => k | exact fun _ k => blk_to rfl rfl k | exact fun _ k => vec_to rfl k | exact fun _ k => blk_of rfl rfl k | exact fun _ k => vec_of rfl k | exact fun _ k => blk_of rfl rfl (blk_to rfl rfl k) | exact fun _ k => vec_of rfl (vec_to rfl k) | exact fun _ k => mp_to rfl k | exact fun _ k => mp_of rfl k | exact fun _ k => mp_of rfl (mp_to rfl k)) (fun h k => sat_nil k) k) k), ?_⟩
    have hup := hiE.ord m hm
    have hml : m.ws.length ≤ 64 := by
      have h1 : m.ws.length ≤ totw (T ++ E) := le_sum (List.mem_map.2 ⟨m, hm, rfl⟩)
      rw [totw_more hE, hj.tot] at h1
      have := hj.le; omega
    have hnoE : ∀ y, WM (T ++ E) y → key x y = false := fun y hy => hno y ((wm_more hE y).1 hy)
    have hc0 : ∀ h, Bs n (T ++ E) h → fcell h m.b (0 + 0) = some (.slice (locAddr 0 m.pl) m.ws.length m.cap) := fun h kh => bs_cell hm (j := 0) rfl h kh
    refine DrawOb.mk [] (.run [0, 1, 2, 3, 4, 5, 6, 7, 8, 9, 10] .nil) (by kernel_rfl) ?_
    refine RdRaw.told (.raw (.slice (locAddr 0 m.pl) m.ws.length m.cap)) _ rfl (fun h hh => sat_cell 0 rfl hc0 hh) ?_
    refine call_ix (bs_spec (locAddr 0 m.pl) m.cap m.ws x hup (by omega)) rfl [] (fun h k => k) (fun f' b' hs kb => vs_reads 1 hs kb rfl hm) ?_
    rintro v post ⟨j, rfl, hbs, rfl⟩
    have hnf := not_found hiE hnoE hm hx j
    rw [hnf]
    refine ⟨.tuple [.int .i64 j, .bool false], _, 2, [], NmExt.refl _, rfl, fun h k => trivial, ?_⟩
    refine DrawOb.mk [(7, [0, 1, 2, 3, 4, 5]), (8, [0])] (.run [0, 1, 2, 3, 4, 5, 6, 7, 8, 9, 10, 11] .nil) (by kernel_rfl) ?_
    refine RdRaw.told (.raw (.slice (locAddr 0 m.pl) m.ws.length m.cap)) _ rfl (fun h hh => sat_cell 0 rfl hc0 hh) ?_
    intro b7
    refine RdRaw.told (.raw (.slice (locAddr 0 m.pl) m.ws.length m.cap)) _ rfl (fun h hh => sat_cell 1 rfl hc0 hh) ?_
    refine Need.mk rfl ?_
    obtain ⟨i, hil, hie⟩ := List.getElem_of_mem hm
    have hix : (T ++ E)[i]? = some m := by rw [List.getElem?_eq_getElem hil, hie]
    refine call_ix (insertT hix b7 x j hbs.le (by omega) (hiE.cap m hm)) rfl [2, 0] (fun h k => sat_pick 2 rfl (by first | exact fun _ k => k | exact fun _ k => blk_to rfl rfl k | exact fun _ k => vec_to rfl k | exact fun _ k => blk_of rfl rfl k | exact fun _ k => vec_of rfl k | exact fun _ k => blk_of rfl rfl (blk_to rfl rfl k) | exact fun _ k => vec_of rfl (vec_to rfl k) | exact fun _ k => mp_to rfl k | exact fun _ k => mp_of rfl k | exact fun _ k => mp_of rfl (mp_to rfl k)) (fun h k => sat_pick 0 rfl (fun _ k => ?_) (fun h k => sat_pick 0 rfl (by first | exact fun _ k => k | exact fun _ k => blk_to rfl rfl k | exact fun _ k => vec_to rfl k | exact fun _ k => blk_of rfl rfl k | exact fun _ k => vec_of rfl k | exact fun _ k => blk_of rfl rfl (blk_to rfl rfl k) | exact fun _ k => vec_of rfl (vec_to rfl k) | exact fun _ k => mp_to rfl k | exact fun _ k => mp_of rfl k | exact fun _ k => mp_of rfl (mp_to rfl k)) (fun h k => sat_pick 0 rfl (by first | exact fun _ k => k | exact fun _ k => blk_to rfl rfl k | exact fun _ k => vec_to rfl k | exact fun _ k => blk_of rfl rfl k | exact fun _ k => vec_of rfl k | exact fun _ k => blk_of rfl rfl (blk_to rfl rfl k) | exact fun _ k => vec_of rfl (vec_to rfl k) | exact fun _ k => mp_to rfl k | exact fun _ k => mp_of rfl k | exact fun _ k => mp_of rfl (mp_to rfl k)) (fun h k => sat_pick 0 rfl (by first | exact fun _ k => k | exact fun _ k => blk_to rfl rfl k | exact fun _ k => vec_to rfl k | exact fun _ k => blk_of rfl rfl k | exact fun _ k => vec_of rfl k | exact fun _ k => blk_of rfl rfl (blk_to rfl rfl k) | exact fun _ k => vec_of rfl (vec_to rfl k) | exact fun _ k => mp_to rfl k | exact fun _ k => mp_of rfl k | exact fun _ k => mp_of rfl (mp_to rfl k)) (fun h k => sat_nil k) k) k) k) k) k) (fun _ _ _ _ => trivial) ?_
    · have k := blk_to rfl rfl k
      exact blk_vec (by rw [RL.flat_one]; exact RL.one x) (by rw [lR]; show 1 * 5 ≤ 1 * 5; omega) k
    rintro v post ⟨pl', c', rfl, hlen', hat, rfl⟩
    obtain ⟨ha1, ha2⟩ := add_new hj hE hiE hok hno g hix hx hbs hnf hlen' hat
    refine ⟨.raw (.slice (locAddr 0 pl') (m.ws.take j ++ [x] ++ m.ws.drop j).length c'), _, 3, [.asn (Vs ((T ++ E).set i (m.turn pl' c' (m.ws.take j ++ [x] ++ m.ws.drop j))))], NmExt.refl _, rfl, (fun h k => sat_pick 0 rfl (by first | exact fun _ k => k | exact fun _ k => blk_to rfl rfl k | exact fun _ k => vec_to rfl k | exact fun _ k => blk_of rfl rfl k | exact fun _ k => vec_of rfl k | exact fun _ k => blk_of rfl rfl (blk_to rfl rfl k) | exact fun _ k => vec_of rfl (vec_to rfl k) | exact fun _ k => mp_to rfl k | exact fun _ k => mp_of rfl k | exact fun _ k => mp_of rfl (mp_to rfl k)) (fun h k => sat_nil k) k), ?_⟩
    refine StRaw.on 1 (Bs n ((T ++ E).set i (m.turn pl' c' (m.ws.take j ++ [x] ++ m.ws.drop j)))) [.slice (locAddr 0 pl') (m.ws.take j ++ [x] ++ m.ws.drop j).length c'] rfl rfl (fun y ky => ?_) ?_
    · exact bs_turn hix pl' c' _ y ky
    generalize (T ++ E).set i (m.turn pl' c' (m.ws.take j ++ [x] ++ m.ws.drop j)) = T' at *
    refine RdRaw.told (.int .i64 n) _ rfl (fun h hh => sat_cell 1 rfl (fun x kx => bs_n ha2.ti x kx) hh) ?_
    have en : IntKind.i64.wrap ((n : Int) + 1) = ((n + 1 : Nat) : Int) := by have := hj.le; rw [w64 (by omega) (by omega)]; omega
    refine StRaw.on 1 (Bs ((n + 1 : Nat) : Int) T') [.int .i64 ((n + 1 : Nat) : Int)] (by rw [← en]; rfl) rfl (fun y ky => ?_) ?_
    · exact bs_count ha2.ti y ky
    exact FinOb.mk [.int .i64 0] [Bs ((n + 1 : Nat) : Int) T', Vs T'] rfl (fun h k => sat_pick 1 rfl (by first | exact fun _ k => k | exact fun _ k => blk_to rfl rfl k | exact fun _ k => vec_to rfl k | exact fun _ k => blk_of rfl rfl k | exact fun _ k => vec_of rfl k | exact fun _ k => blk_of rfl rfl (blk_to rfl rfl k) | exact fun _ k => vec_of rfl (vec_to rfl k) | exact fun _ k => mp_to rfl k | exact fun _ k => mp_of rfl k | exact fun _ k => mp_of rfl (mp_to rfl k)) (fun h k => sat_pick 0 rfl (by first | exact fun _ k => k | exact fun _ k => blk_to rfl rfl k | exact fun _ k => vec_to rfl k | exact fun _ k => blk_of rfl rfl k | exact fun _ k => vec_of rfl k | exact fun _ k => blk_of rfl rfl (blk_to rfl rfl k) | exact fun _ k => vec_of rfl (vec_to rfl k) | exact fun _ k => mp_to rfl k | exact fun _ k => mp_of rfl k | exact fun _ k => mp_of rfl (mp_to rfl k)) (fun h k => sat_nil k) k) k) ⟨0, T', n + 1, rfl, ha1, ha2, rfl⟩
  | some m =>
    rw [kidP_at e] at hget
    refine useA [_, _] [_] (.raw (.pointer (some ⟨m.b, 0, none⟩))) hget rfl rfl rfl ?_
    obtain ⟨hm, hmx, hmk⟩ := nodeAt_some e
    have hx : m.x = x.net ∧ (m.k : Int) = x.bits := ⟨hmx, by rw [hkb, hmk]⟩
    have hup := hi.ord m hm
    have hml := hj.few m hm
    have hc0 : ∀ h, Bs n T h → fcell h m.b (0 + 0) = some (.slice (locAddr 0 m.pl) m.ws.length m.cap) := fun h kh => bs_cell hm (j := 0) rfl h kh
    refine DrawOb.mk [] (.run [0, 1, 2, 3, 4, 5, 6, 7, 8, 9, 10] .nil) (by kernel_rfl) ?_
    refine RdRaw.told (.raw (.slice (locAddr 0 m.pl) m.ws.length m.cap)) _ rfl (fun h hh => sat_cell 2 rfl hc0 hh) ?_
    refine call_ix (bs_spec (locAddr 0 m.pl) m.cap m.ws x hup (by omega)) rfl [] (fun h k => k) (fun f' b' hs kb => vs_reads 3 hs kb rfl hm) ?_
    rintro v post ⟨j, rfl, hbs, rfl⟩
    refine ⟨.tuple [.int .i64 j, .bool (foundB m.ws x.cost j)], _, 2, [], NmExt.refl _, rfl, fun h k => trivial, ?_⟩
    refine CondOb.split (fun g => ?_) (fun g => ?_)
    · have hjl : j < m.ws.length := by
        obtain ⟨y, hy, _⟩ := bs_hit g
        exact (List.getElem?_eq_some_iff.1 hy).1
      obtain ⟨b, o, hpl⟩ := hi.at_ m hm (by intro e; rw [e] at hjl; simp at hjl)
      obtain ⟨i, hil, hie⟩ := List.getElem_of_mem hm
      have hix : T[i]? = some m := by rw [List.getElem?_eq_getElem hil, hie]
      obtain ⟨ha1, ha2⟩ := add_set hj hok hix hx g
      refine DrawOb.mk [] (.run [0, 1, 2, 3, 4, 5, 6, 7] .nil) (by kernel_rfl) ?_
      refine RdRaw.told (.raw (.slice (locAddr 0 m.pl) m.ws.length m.cap)) _ rfl (fun h hh => sat_cell 2 rfl hc0 hh) ?_
      refine Need.mk ⟨by omega, by omega⟩ (RawAt.mk b o (by rw [hpl]; rfl) ?_)
      refine StRaw.on 3 (Vs (T.set i (m.turn m.pl m.cap (m.ws.set j x)))) x.vals rfl rfl (fun y ky => ?_) ?_
      · exact vs_set hix hpl hjl x y ky
      exact FinOb.mk [.int .i64 0] [Bs n (T.set i (m.turn m.pl m.cap (m.ws.set j x))), Vs (T.set i (m.turn m.pl m.cap (m.ws.set j x)))] rfl (fun h k => sat_pick 2 rfl (fun _ k => by rw [bs_same hix (List.length_set ..)]; exact k) (fun h k => sat_pick 2 rfl (by first | exact fun _ k => k | exact fun _ k => blk_to rfl rfl k | exact fun _ k => vec_to rfl k | exact fun _ k => blk_of rfl rfl k | exact fun _ k => vec_of rfl k | exact fun _ k => blk_of rfl rfl (blk_to rfl rfl k) | exact fun _ k => vec_of rfl (vec_to rfl k) | exact fun _ k => mp_to rfl k | exact fun _ k => mp_of rfl k | exact fun _ k => mp_of rfl (mp_to rfl k)) (fun h k => sat_nil k) k) k) ⟨0, _, n, rfl, ha1, ha2, rfl⟩
    have hno := found_none hi hm hx hbs g
    refine RdRaw.told (.int .i64 n) _ rfl (fun h hh => sat_cell 2 rfl (fun x kx => bs_n hi x kx) hh) ?_
    refine CondOb.split (fun g => ?_) (fun g => ?_)
    · have g : n = 64 := by
        have g : ((n : Int) == 64) = true := g
        rw [beq_iff_eq] at g
        omega
      exact FinOb.mk [.int .i64 5] [Bs n T, Vs T] rfl (fun h k => sat_pick 2 rfl (by first | exact fun _ k => k | exact fun _ k => blk_to rfl rfl k | exact fun _ k => vec_to rfl k | exact fun _ k => blk_of rfl rfl k | exact fun _ k => vec_of rfl k | exact fun _ k => blk_of rfl rfl (blk_to rfl rfl k) | exact fun _ k => vec_of rfl (vec_to rfl k) | exact fun _ k => mp_to rfl k | exact fun _ k => mp_of rfl k | exact fun _ k => mp_of rfl (mp_to rfl k)) (fun h k => sat_pick 2 rfl (by first | exact fun _ k => k | exact fun _ k => blk_to rfl rfl k | exact fun _ k => vec_to rfl k | exact fun _ k => blk_of rfl rfl k | exact fun _ k => vec_of rfl k | exact fun _ k => blk_of rfl rfl (blk_to rfl rfl k) | exact fun _ k => vec_of rfl (vec_to rfl k) | exact fun _ k => mp_to rfl k | exact fun _ k => mp_of rfl k | exact fun _ k => mp_of rfl (mp_to rfl k)) (fun h k => sat_nil k) k) k) ⟨5, T, n, rfl, .full hok hno g, hj, rfl⟩
    have g : n ≠ 64 := by
      have g : ((n : Int) == 64) = false := g
      rw [beq_eq_false_iff_ne] at g
      omega
    have hmake := net_make tb n T hi x.net ok.n0 ok.n1 k hk
    rw [← hkb] at hmake
    refine call_ix hmake rfl [2, 2] (fun h k => sat_pick 2 rfl (by first | exact fun _ k => k | exact fun _ k => blk_to rfl rfl k | exact fun _ k => vec_to rfl k | exact fun _ k => blk_of rfl rfl k | exact fun _ k => vec_of rfl k | exact fun _ k => blk_of rfl rfl (blk_to rfl rfl k) | exact fun _ k => vec_of rfl (vec_to rfl k) | exact fun _ k => mp_to rfl k | exact fun _ k => mp_of rfl k | exact fun _ k => mp_of rfl (mp_to rfl k)) (fun h k => sat_pick 2 rfl (by first | exact fun _ k => k | exact fun _ k => blk_to rfl rfl k | exact fun _ k => vec_to rfl k | exact fun _ k => blk_of rfl rfl k | exact fun _ k => vec_of rfl k | exact fun _ k => blk_of rfl rfl (blk_to rfl rfl k) | exact fun _ k => vec_of rfl (vec_to rfl k) | exact fun _ k => mp_to rfl k | exact fun _ k => mp_of rfl k | exact fun _ k => mp_of rfl (mp_to rfl k)) (fun h k => sat_pick 0 rfl (by first | exact fun _ k => k | exact fun _ k => blk_to rfl rfl k | exact fun _ k => vec_to rfl k | exact fun _ k => blk_of rfl rfl k | exact fun _ k => vec_of rfl k | exact fun _ k => blk_of rfl rfl (blk_to rfl rfl k) | exact fun _ k => vec_of rfl (vec_to rfl k) | exact fun _ k => mp_to rfl k | exact fun _ k => mp_of rfl k | exact fun _ k => mp_of rfl (mp_to rfl k)) (fun h k => sat_pick 0 rfl (by first | exact fun _ k => k | exact fun _ k => blk_to rfl rfl k | exact fun _ k => vec_to rfl k | exact fun _ k => blk_of rfl rfl k | exact fun _ k => vec_of rfl k | exact fun _ k => blk_of rfl rfl (blk_to rfl rfl k) | exact fun _ k => vec_of rfl (vec_to rfl k) | exact fun _ k => mp_to rfl k | exact fun _ k => mp_of rfl k | exact fun _ k => mp_of rfl (mp_to rfl k)) (fun h k => sat_nil k) k) k) k) k) (fun _ _ _ _ => trivial) ?_
    rintro v post ⟨E, m, hE, hiE, hm, hmx, hmk, rfl, rfl⟩
    rw [hkb, hkn] at hmx
    have hx : m.x = x.net ∧ (m.k : Int) = x.bits := ⟨hmx, by rw [hkb, hmk]⟩
    refine ⟨.raw (.pointer (some ⟨m.b, 0, none⟩)), _, 2, [.asn (Bs n (T ++ E)), .asn (Vs (T ++ E))], NmExt.refl _, rfl, (fun h k => sat_pick 0 rfl (by first | exact fun _ k => k | exact fun _ k => blk_to rfl rfl k | exact fun _ k => vec_to rfl k | exact fun _ k => blk_of rfl rfl k | exact fun _ k => vec_of rfl k | exact fun _ k => blk_of rfl rfl (blk_to rfl rfl k) | exact fun _ k => vec_of rfl (vec_to rfl k) | exact fun _ k => mp_to rfl k | exact fun _ k => mp_of rfl k | exact fun _ k => mp_of rfl (mp_to rfl k)) (fun h k => sat_pick 0 rfl (by first | exact fun _ k => k | exact fun _ k => blk_to rfl rfl k | exact fun _ k => vec_to rfl k | exact fun _ k => blk_of rfl rfl k | exact fun _ k => vec_of rfl k | exact fun _ k => blk_of rfl rfl (blk_to rfl rfl k) | exact fun _ k => vec_of rfl (vec_to rfl k) | exact fun _ k => mp_to rfl k | exact fun _ k => mp_of rfl k | exact fun _ k => mp_of rfl (mp_to rfl k)) (fun h k => sat_nil k) k) k), ?_⟩
    have hup := hiE.ord m hm
    have hml : m.ws.length ≤ 64 := by
      have h1 : m.ws.length ≤ totw (T ++ E) := le_sum (List.mem_map.2 ⟨m, hm, rfl⟩)
      rw [totw_more hE, hj.tot] at h1
      have := hj.le; omega
    have hnoE : ∀ y, WM (T ++ E) y → key x y = false := fun y hy => hno y ((wm_more hE y).1 hy)
    have hc0 : ∀ h, Bs n (T ++ E) h → fcell h m.b (0 + 0) = some (.slice (locAddr 0 m.pl) m.ws.length m.cap) := fun h kh => bs_cell hm (j := 0) rfl h kh
    refine DrawOb.mk [] (.run [0, 1, 2, 3, 4, 5, 6, 7, 8, 9, 10] .nil) (by kernel_rfl) ?_
    refine RdRaw.told (.raw (.slice (locAddr 0 m.pl) m.ws.length m.cap)) _ rfl (fun h hh => sat_cell 0 rfl hc0 hh) ?_
    refine call_ix (bs_spec (locAddr 0 m.pl) m.cap m.ws x hup (by omega)) rfl [] (fun h k => k) (fun f' b' hs kb => vs_reads 1 hs kb rfl hm) ?_
    rintro v post ⟨j, rfl, hbs, rfl⟩
    have hnf := not_found hiE hnoE hm hx j
    rw [hnf]
    refine ⟨.tuple [.int .i64 j, .bool false], _, 2, [], NmExt.refl _, rfl, fun h k => trivial, ?_⟩
    refine DrawOb.mk [(7, [0, 1, 2, 3, 4, 5]), (8, [0])] (.run [0, 1, 2, 3, 4, 5, 6, 7, 8, 9, 10, 11] .nil) (by kernel_rfl) ?_
    refine RdRaw.told (.raw (.slice (locAddr 0 m.pl) m.ws.length m.cap)) _ rfl (fun h hh => sat_cell 0 rfl hc0 hh) ?_
    intro b7
    refine RdRaw.told (.raw (.slice (locAddr 0 m.pl) m.ws.length m.cap)) _ rfl (fun h hh => sat_cell 1 rfl hc0 hh) ?_
    refine Need.mk rfl ?_
    obtain ⟨i, hil, hie⟩ := List.getElem_of_mem hm
    have hix : (T ++ E)[i]? = some m := by rw [List.getElem?_eq_getElem hil, hie]
    refine call_ix (insertT hix b7 x j hbs.le (by omega) (hiE.cap m hm)) rfl [2, 0] (fun h k => sat_pick 2 rfl (by first | exact fun _ k => k | exact fun _ k => blk_to rfl rfl k | exact fun _ k => vec_to rfl k | exact fun _ k => blk_of rfl rfl k | exact fun _ k => vec_of rfl k | exact fun _ k => blk_of rfl rfl (blk_to rfl rfl k) | exact fun _ k => vec_of rfl (vec_to rfl k) | exact fun _ k => mp_to rfl k | exact fun _ k => mp_of rfl k | exact fun _ k => mp_of rfl (mp_to rfl k)) (fun h k => sat_pick 0 rfl (fun _ k => ?_) (fun h k => sat_pick 0 rfl (by first | exact fun _ k => k | exact fun _ k => blk_to rfl rfl k | exact fun _ k => vec_to rfl k | exact fun _ k => blk_of rfl rfl k | exact fun _ k => vec_of rfl k | exact fun _ k => blk_of rfl rfl (blk_to rfl rfl k) | exact fun _ k => vec_of rfl (vec_to rfl k) | exact fun _ k => mp_to rfl k | exact fun _ k => mp_of rfl k | exact fun _ k => mp_of rfl (mp_to rfl k)) (fun h k => sat_pick 0 rfl (by first | exact fun _ k => k | exact fun _ k => blk_to rfl rfl k | exact fun _ k => vec_to rfl k | exact fun _ k => blk_of rfl rfl k | exact fun _ k => vec_of rfl k | exact fun _ k => blk_of rfl rfl (blk_to rfl rfl k) | exact fun _ k => vec_of rfl (vec_to rfl k) | exact fun _ k => mp_to rfl k | exact fun _ k => mp_of rfl k | exact fun _ k => mp_of rfl (mp_to rfl k)) (fun h k => sat_pick 0 rfl (by first | exact fun _ k => k | exact fun _ k => blk_to rfl rfl k | exact fun _ k => vec_to rfl k | exact fun _ k => blk_of rfl rfl k | exact fun _ k => vec_of rfl k | exact fun _ k => blk_of rfl rfl (blk_to rfl rfl k) | exact fun _ k => vec_of rfl (vec_to rfl k) | exact fun _ k => mp_to rfl k | exact fun _ k => mp_of rfl k | exact fun _ k => mp_of rfl (mp_to rfl k)) (fun h k => sat_nil k) k) k) k) k) k) (fun _ _ _ _ => trivial) ?_
    · have k := blk_to rfl rfl k
      exact blk_vec (by rw [RL.flat_one]; exact RL.one x) (by rw [lR]; show 1 * 5 ≤ 1 * 5; omega) k
    rintro v post ⟨pl', c', rfl, hlen', hat, rfl⟩
    obtain ⟨ha1, ha2⟩ := add_new hj hE hiE hok hno g hix hx hbs hnf hlen' hat
    refine ⟨.raw (.slice (locAddr 0 pl') (m.ws.take j ++ [x] ++ m.ws.drop j).length c'), _, 3, [.asn (Vs ((T ++ E).set i (m.turn pl' c' (m.ws.take j ++ [x] ++ m.ws.drop j))))], NmExt.refl _, rfl, (fun h k => sat_pick 0 rfl (by first | exact fun _ k => k | exact fun _ k => blk_to rfl rfl k | exact fun _ k => vec_to rfl k | exact fun _ k => blk_of rfl rfl k | exact fun _ k => vec_of rfl k | exact fun _ k => blk_of rfl rfl (blk_to rfl rfl k) | exact fun _ k => vec_of rfl (vec_to rfl k) | exact fun _ k => mp_to rfl k | exact fun _ k => mp_of rfl k | exact fun _ k => mp_of rfl (mp_to rfl k)) (fun h k => sat_nil k) k), ?_⟩
    refine StRaw.on 1 (Bs n ((T ++ E).set i (m.turn pl' c' (m.ws.take j ++ [x] ++ m.ws.drop j)))) [.slice (locAddr 0 pl') (m.ws.take j ++ [x] ++ m.ws.drop j).length c'] rfl rfl (fun y ky => ?_) ?_
    · exact bs_turn hix pl' c' _ y ky
    generalize (T ++ E).set i (m.turn pl' c' (m.ws.take j ++ [x] ++ m.ws.drop j)) = T' at *
    refine RdRaw.told (.int .i64 n) _ rfl (fun h hh => sat_cell 1 rfl (fun x kx => bs_n ha2.ti x kx) hh) ?_
    have en : IntKind.i64.wrap ((n : Int) + 1) = ((n + 1 : Nat) : Int) := by have := hj.le; rw [w64 (by omega) (by omega)]; omega
    refine StRaw.on 1 (Bs ((n + 1 : Nat) : Int) T') [.int .i64 ((n + 1 : Nat) : Int)] (by rw [← en]; rfl) rfl (fun y ky => ?_) ?_
    · exact bs_count ha2.ti y ky
    exact FinOb.mk [.int .i64 0] [Bs ((n + 1 : Nat) : Int) T', Vs T'] rfl (fun h k => sat_pick 1 rfl (by first | exact fun _ k => k | exact fun _ k => blk_to rfl rfl k | exact fun _ k => vec_to rfl k | exact fun _ k => blk_of rfl rfl k | exact fun _ k => vec_of rfl k | exact fun _ k => blk_of rfl rfl (blk_to rfl rfl k) | exact fun _ k => vec_of rfl (vec_to rfl k) | exact fun _ k => mp_to rfl k | exact fun _ k => mp_of rfl k | exact fun _ k => mp_of rfl (mp_to rfl k)) (fun h k => sat_pick 0 rfl (by first | exact fun _ k => k | exact fun _ k => blk_to rfl rfl k | exact fun _ k => vec_to rfl k | exact fun _ k => blk_of rfl rfl k | exact fun _ k => vec_of rfl k | exact fun _ k => blk_of rfl rfl (blk_to rfl rfl k) | exact fun _ k => vec_of rfl (vec_to rfl k) | exact fun _ k => mp_to rfl k | exact fun _ k => mp_of rfl k | exact fun _ k => mp_of rfl (mp_to rfl k)) (fun h k => sat_nil k) k) k) ⟨0, T', n + 1, rfl, ha1, ha2, rfl⟩
end Go.Proofs.Ytjppphldiaonkaa.Rt
