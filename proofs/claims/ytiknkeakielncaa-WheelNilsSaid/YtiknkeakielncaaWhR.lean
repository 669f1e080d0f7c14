/- wheel: what the wheel answers, told of its timers. Conditions: none. -/
import Derived.Test.YtiknkeakielncaaWhQ
namespace Go.Proofs.Ytiknkeakielncaa.Wh
open Go Go.Proofs Sx
set_option maxRecDepth 100000
set_option linter.unusedVariables false
set_option linter.unusedSimpArgs false
set_option maxHeartbeats 4000000

theorem Does.wrap {P : Program} {g : FuncId} {vals : Array Value} {R : HP → Prop} {ι : Type} {pre : ι → List Asn} {Q : ι → Value → List Asn → Prop} {A : List Asn} {Q' : Value → List Asn → Prop} (he : Enters P g)
    (hA : ∀ h, sat A h → ∃ i, sat (pre i) h) (hd : ∀ i, Does P g vals R (pre i) (Q i)) (hq : ∀ i v p h, Q i v p → sat p h → ∃ p', Q' v p' ∧ sat p' h) : Does P g vals R A Q' :=
  ⟨he, fun f w hR ⟨x, s, k⟩ => by
    obtain ⟨i, k⟩ := hA x k
    refine ((hd i).run f w hR ⟨x, s, k⟩).mono ?_
    rintro _ _ ⟨v, post, h1, ⟨y, s2, k2⟩, h3, h4⟩
    obtain ⟨p', a, b⟩ := hq i v post y h3 k2
    exact ⟨v, p', h1, ⟨y, s2, b⟩, a, h4⟩⟩
/-- A wheel with these timers. -/
def WrA (b : Nat) (now no : Int) (L : List T) : Asn := fun h => ∃ w, WR w now no L ∧ sat (Wl b w) h
theorem wra_in {b : Nat} {now no : Int} {L : List T} {w : W} (hw : WR w now no L) {As : List Asn} {h : HP} (k : sat (Wl b w ++ As) h) : sat (WrA b now no L :: As) h := by
  obtain ⟨x, y, s, hx, hy⟩ := sat_append k
  exact ⟨x, y, s, ⟨w, hw, hx⟩, hy⟩
theorem wra_out {b : Nat} {now no : Int} {L : List T} {h : HP} (k : sat [WrA b now no L] h) : ∃ w : { w : W // WR w now no L }, sat (Wl b w.1) h := by
  obtain ⟨x, y, s, ⟨w, hw, hx⟩, _⟩ := k
  exact ⟨⟨w, hw⟩, sat_more s.comm hx⟩
theorem wra_out2 {b : Nat} {now no : Int} {L : List T} {h : HP} (k : sat [WrA b now no L] h) : ∃ w : { w : W // WR w now no L }, sat ([Hd b w.1, MapA w.1.mb KI (w.1.K.map T.ent)] ++ [Vs w.1.S, w.1.late.vec]) h := by
  obtain ⟨w, k⟩ := wra_out k
  refine ⟨w, sat_perm ?_ k⟩
  unfold Wl
  refine List.Perm.cons _ ?_
  exact List.perm_middle (l₁ := [Vs w.1.S, w.1.late.vec]) (l₂ := [])
theorem wra_in2 {b : Nat} {now no : Int} {L : List T} {w : W} (hw : WR w now no L) {h : HP} (k : sat ([Hd b w, MapA w.mb KI (w.K.map T.ent)] ++ [Vs w.S, w.late.vec]) h) : sat [WrA b now no L] h := by
  refine wra_in hw (sat_perm ?_ k)
  unfold Wl
  refine List.Perm.cons _ ?_
  exact (List.perm_middle (l₁ := [Vs w.S, w.late.vec]) (l₂ := [])).symm
theorem PL.emp {x : Int} (h0 : 0 ≤ x) (h1 : x ≤ Top) : PL x 0 [] := ⟨h0, h1, Int.le_refl _, .nil, .nil, by simp, by simp, by simp⟩
theorem wr_new {x : Int} (h0 : 0 ≤ x) (h1 : x ≤ Top) (mb : Nat) : WR (W0 x mb) x 0 [] := by
  have hT : x ≤ 1099511627776 := h1
  refine ⟨⟨⟨by simp [W0], h0, by show x ≤ 4611686018427387904; omega, ⟨by simp [W0, sp0], fun s hs => ?_⟩, ⟨by simp [W0, sp0], fun s hs => ?_⟩⟩, h1, by simp, ⟨List.Perm.refl _, fun i s hs => ?_⟩, ?_, by simp⟩, rfl, rfl, List.Perm.refl _⟩
  · simp [W0] at hs; subst hs; simp [sp0]
  · simp [W0] at hs; subst hs; simp [sp0]
  · have := List.mem_of_getElem? hs
    simp [W0] at this; subst this; exact List.Perm.refl _
  · show 0 + (((List.replicate 448 sp0).map fun s => s.l.length).sum) = 0
    rw [List.map_replicate]
    simp [sp0]
theorem wnew_spec (x : Int) (h0 : 0 ≤ x) (h1 : x ≤ Top) : Does Try.prog 16 #[.int .i64 x] (fun _ => True) [] (fun v p => ∃ b, v = .tuple #[.pointer (some ⟨b, 0, none⟩), .int .i64 0] ∧ p = [WrA b x 0 []]) := by
  refine Does.wrap (ι := Unit) (pre := fun _ => []) (Q := fun _ v p => ∃ b mb, v = .tuple #[.pointer (some ⟨b, 0, none⟩), .int .i64 0] ∧ p = Wl b (W0 x mb)) Try.call16 (fun h k => ⟨(), k⟩) (fun _ => new_spec x h0 h1) ?_
  rintro _ v p h ⟨b, mb, rfl, rfl⟩ k
  exact ⟨_, ⟨b, rfl, rfl⟩, wra_in (wr_new h0 h1 mb) (by rw [List.append_nil]; exact k)⟩
theorem wlen_spec (b : Nat) (now no : Int) (L : List T) : Does Try.prog 28 #[.pointer (some ⟨b, 0, none⟩)] (fun _ => True) [WrA b now no L] (fun v p => v = .int .i64 L.length ∧ p = [WrA b now no L]) := by
  refine Does.wrap Try.call28 (fun h k => wra_out2 k) (fun w => frameOf _ (len_spec b w.1 w.2.inv.fw.hl)) ?_
  rintro w v p h ⟨q, ⟨rfl, rfl⟩, rfl⟩ k
  exact ⟨_, ⟨by rw [w.2.K.length_eq], rfl⟩, wra_in2 w.2 k⟩
theorem wnow_spec (b : Nat) (now no : Int) (L : List T) : Does Try.prog 44 #[.pointer (some ⟨b, 0, none⟩)] (fun _ => True) [WrA b now no L] (fun v p => v = .int .i64 now ∧ p = [WrA b now no L]) := by
  refine Does.wrap Try.call44 (pre := fun w : { w : W // WR w now no L } => [Hd b w.1] ++ [MapA w.1.mb KI (w.1.K.map T.ent), Vs w.1.S, w.1.late.vec]) (fun h k => wra_out2 k) (fun w => frameOf _ (now_spec b w.1)) ?_
  rintro w v p h ⟨q, ⟨rfl, rfl⟩, rfl⟩ k
  exact ⟨_, ⟨by rw [w.2.hnow], rfl⟩, wra_in2 w.2 k⟩
theorem wdue_spec (b : Nat) (now no : Int) (L : List T) (hp : PL now no L) (id : Int) : Does Try.prog 42 #[.pointer (some ⟨b, 0, none⟩), .int .i64 id] (fun _ => True) [WrA b now no L]
    (fun v p => v = .tuple #[.int .i64 (((L.find? (fun t => id == t.id)).getD T0).at_), .bool (L.find? (fun t => id == t.id)).isSome] ∧ p = [WrA b now no L]) := by
  refine Does.wrap Try.call42 (fun h k => wra_out2 k) (fun w => frameOf _ (due_spec b w.1 id w.2.inv.fw.hl)) ?_
  rintro w v p h ⟨q, ⟨rfl, rfl⟩, rfl⟩ k
  exact ⟨_, ⟨by rw [find_perm (hp.ids.perm w.2.K.symm) w.2.K], rfl⟩, wra_in2 w.2 k⟩
theorem wnext_spec (b : Nat) (now no : Int) (L : List T) : Does Try.prog 40 #[.pointer (some ⟨b, 0, none⟩)] (fun _ => True) [WrA b now no L]
    (fun v p => ∃ n ok, v = .tuple #[.int .i64 n, .bool ok] ∧ NextR L n ok ∧ p = [WrA b now no L]) := by
  refine Does.wrap Try.call40 (fun h k => wra_out2 k) (fun w => frameOf _ (next_spec b w.1 w.2.inv.fw)) ?_
  rintro w v p h ⟨q, ⟨n, ok, rfl, hn, rfl⟩, rfl⟩ k
  exact ⟨_, ⟨n, ok, rfl, hn.perm w.2.K, rfl⟩, wra_in2 w.2 k⟩
theorem big_at {now no : Int} {L : List T} (hp : PL now no L) {w : W} (hw : WR w now no L) : ∀ t ∈ w.K, t.at_ ≤ Big := fun t ht => by
  have : t.at_ ≤ 1099511627776 := (hp.rg t (hw.K.mem_iff.1 ht)).2
  show t.at_ ≤ 4611686018427387904
  omega
theorem wstop_spec (b : Nat) (now no : Int) (L : List T) (hp : PL now no L) (id : Int) : Does Try.prog 37 #[.pointer (some ⟨b, 0, none⟩), .int .i64 id] (fun _ => True) [WrA b now no L]
    (fun v p => v = .bool (L.find? (fun t => id == t.id)).isSome ∧ p = [WrA b now no (without id L)]) := by
  refine Does.wrap Try.call37 (fun h k => wra_out k) (fun w => stop_spec b w.1 id w.2.inv.fw (big_at hp w.2)) ?_
  rintro ⟨w, hw⟩ v p h hq k
  have hik := hp.ids.perm hw.K.symm
  rcases hq with ⟨rfl, hn, rfl⟩ | ⟨rfl, t, w', ht, hs, rfl⟩
  · rw [find_perm hik hw.K] at hn
    refine ⟨_, ⟨by rw [hn]; rfl, rfl⟩, ?_⟩
    rw [without_none (find_none.1 hn)]
    exact wra_in hw (by rw [List.append_nil]; exact k)
  · rw [find_perm hik hw.K] at ht
    refine ⟨_, ⟨by rw [ht]; rfl, rfl⟩, ?_⟩
    have h2 : id = t.id := by simpa using List.find?_some ht
    obtain ⟨s1, s2, s3, s4⟩ := hs.same
    refine wra_in (w := w') ⟨stopped_inv hw.inv hp.ids (List.mem_of_find?_eq_some ht) h2.symm hs, by rw [s1, hw.hnow], by rw [s2, hw.hno], by rw [s4, delT_without hik]; exact without_perm hw.K⟩ (by rw [List.append_nil]; exact k)
theorem wset_spec (b : Nat) (now no : Int) (L : List T) (hp : PL now no L) (hno : no ≤ Big) (id x : Int) : Does Try.prog 18 #[.pointer (some ⟨b, 0, none⟩), .int .i64 id, .int .i64 x] (fun _ => True) [WrA b now no L]
    (fun v p => v = .int .i64 (setC L id x) ∧ p = [WrA b now (setN L id x no) (setL L id x no)]) := by
  refine Does.wrap Try.call18 (fun h k => wra_out k) (fun w => set_spec b w.1 id x w.2.inv.fw (big_at hp w.2) (hp.ids.perm w.2.K.symm) (by rw [w.2.K.length_eq]; have := hp.few; omega) (by rw [w.2.hno]; exact ⟨hp.no0, hno⟩)) ?_
  rintro ⟨w, hw⟩ v p h hq k
  have hik := hp.ids.perm hw.K.symm
  simp only at hq k
  rw [find_perm hik hw.K, hw.K.length_eq] at hq
  rcases hq with ⟨hr, rfl, rfl⟩ | ⟨h0, h1, hn, hf, rfl, rfl⟩ | ⟨h0, h1, hf, rfl, w2, hs, rfl⟩
  · have e : setC L id x = 8 := by unfold setC; rw [if_pos hr]
    refine ⟨_, ⟨by rw [e], rfl⟩, ?_⟩
    unfold setN setL
    rw [e, if_neg (by decide), if_neg (by decide)]
    exact wra_in hw (by rw [List.append_nil]; exact k)
  · have e : setC L id x = 5 := by unfold setC; rw [if_neg (by show ¬ (x < 0 ∨ 1099511627776 < x); omega), if_pos ⟨hn, hf⟩]
    refine ⟨_, ⟨by rw [e], rfl⟩, ?_⟩
    unfold setN setL
    rw [e, if_neg (by decide), if_neg (by decide)]
    exact wra_in hw (by rw [List.append_nil]; exact k)
  · have e : setC L id x = 0 := by unfold setC; rw [if_neg (by show ¬ (x < 0 ∨ 1099511627776 < x); omega), if_neg (fun q => by have := hf q.1; omega)]
    refine ⟨_, ⟨by rw [e], rfl⟩, ?_⟩
    have hw2 := wr_set hp hw e hs
    unfold setN setL
    rw [e, if_pos rfl, if_pos rfl]
    exact wra_in hw2 (by rw [List.append_nil]; exact k)
theorem wtick_bad (b : Nat) (now no : Int) (L : List T) (x : Int) (hx : x < now ∨ Top < x) : Does Try.prog 19 #[.pointer (some ⟨b, 0, none⟩), .int .i64 x] (fun _ => True) [WrA b now no L]
    (fun v p => v = .tuple #[.slice none 0 0, .int .i64 8] ∧ p = [WrA b now no L]) := by
  refine Does.wrap Try.call19 (pre := fun w : { w : W // WR w now no L } => [Hd b w.1] ++ [MapA w.1.mb KI (w.1.K.map T.ent), Vs w.1.S, w.1.late.vec]) (fun h k => wra_out2 k) (fun w => frameOf _ (tick_range b w.1 x (by rw [w.2.hnow]; exact hx))) ?_
  rintro w v p h ⟨q, ⟨rfl, rfl⟩, rfl⟩ k
  exact ⟨_, ⟨rfl, rfl⟩, wra_in2 w.2 k⟩
theorem wtick_spec (b : Nat) (now no : Int) (L : List T) (hp : PL now no L) (x : Int) (x0 : now ≤ x) (x1 : x ≤ Top) : Does Try.prog 19 #[.pointer (some ⟨b, 0, none⟩), .int .i64 x] (fun _ => True) [WrA b now no L]
    (fun v p => ∃ (pl : Plc) (c : Nat) (l : List T), v = .tuple #[.slice (locAddr 0 pl) l.length c, .int .i64 0] ∧ Told x L l ∧ l.length ≤ c ∧ p = [WrA b x no (ahead x L), Vec pl 3 1 c (IL.flat (l.map T.id))]) := by
  refine Does.wrap Try.call19 (fun h k => wra_out k) (fun w => tick_walk b w.1 L w.2.inv x (by rw [w.2.hnow]; exact x0) x1) ?_
  rintro ⟨w, hw⟩ v p h ⟨w1, pl, c, l, rfl, hi1, hj, hno1, hm1, hperm, hsort, hlc, rfl⟩ k
  have ht : Told x L l := ⟨hperm, hsort⟩
  exact ⟨_, ⟨pl, c, l, rfl, ht, hlc, rfl⟩, wra_in (wr_tick hp hw x0 x1 hj hno1 ht) k⟩
end Go.Proofs.Ytiknkeakielncaa.Wh
