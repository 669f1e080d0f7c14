/- reasm: ReasmPlays: acts as data, how many are played, calls told of one more assertion. Conditions: none. -/
import Derived.Test.YtiknkeakielncaaRsZA
namespace Go.Proofs.Ytiknkeakielncaa.Rs
open Go Go.Proofs Sx
set_option maxRecDepth 100000
set_option linter.unusedVariables false
set_option linter.unusedSimpArgs false
set_option maxHeartbeats 4000000

structure Ac where
  out : Bool
  now : Int
  i : Ip
def Ac.vals (a : Ac) : List Value := .bool a.out :: .int .i64 a.now :: a.i.vals
def AcL : Lay Ac where
  cells := Ac.vals
  sz := 13
  len _ := rfl
  one e v hv := by
    simp only [Ac.vals, Ip.vals, List.mem_cons, List.not_mem_nil, or_false] at hv
    rcases hv with rfl | rfl | rfl | rfl | rfl | rfl | rfl | rfl | rfl | rfl | rfl | rfl | rfl <;> rfl
def Few (acts : List Ac) : Prop := acts.length ≤ 100 ∧ ∀ a ∈ acts, longP a.i.p = false
theorem much_spec (B : Option Addr) (cp : Nat) (acts : List Ac) (hlen0 : acts.length ≤ 9223372036854775807) :
    Does Try.prog 45 #[.slice B acts.length cp] (fun f => Reads f B (AcL.flat acts)) [] (fun v q => ∃ m, v = .bool m ∧ (m = false → Few acts) ∧ q = []) := by
  refine Does.ofJ Try.func45 Try.call45 rfl [.raw (.slice B acts.length cp)] [] 0 [] rfl rfl (fun h k => k) (fun f hR => ?_)
  refine LoopOb.mk { z : Nat // z ≤ acts.length ∧ z ≤ 100 ∧ ∀ k a, k < z → acts[k]? = some a → longP a.i.p = false } (fun z => ⟨41, [(0, .raw (.slice B acts.length cp)), (3, .int .i64 z.1), (4, .int .i64 z.1)], [], 0, []⟩) (fun z => acts.length - z.1) ⟨0, Nat.zero_le _, Nat.zero_le _, fun k a h => absurd h (Nat.not_lt_zero _)⟩ ?_ ?_
  · exact Le.of rfl ⟨⟨_, rfl, rfl⟩, ⟨_, rfl, rfl⟩, ⟨_, rfl, rfl⟩, trivial⟩ (fun h k => k)
  rintro ⟨j, hj, hj2, ha⟩
  have fin1 : acts.length = j → Few acts := fun e => ⟨by omega, fun a hm => by
    obtain ⟨k, hk, rfl⟩ := List.getElem_of_mem hm
    exact ha k _ (by omega) (List.getElem?_eq_getElem hk)⟩
  refine RegOb.go ?_
  refine Br.mk (fun g => ?_) (fun g => ?_)
  rotate_left
  · have g : ¬ (j : Int) < acts.length := of_decide_eq_false g
    exact FinOb.mk [.bool (decide ((j : Int) < acts.length))] [] rfl (fun h k => trivial) ⟨_, rfl, fun _ => fin1 (by omega), rfl⟩
  have g : (j : Int) < acts.length := of_decide_eq_true g
  refine CondOb.split (fun g2 => ?_) (fun g2 => ?_)
  rotate_left
  · exact FinOb.mk [.bool (decide ((j : Int) < acts.length))] [] rfl (fun h k => trivial) ⟨_, rfl, fun e => absurd g (of_decide_eq_false e), rfl⟩
  have g2 : (j : Int) < 100 := of_decide_eq_true g2
  have hx := List.getElem?_eq_getElem (show j < acts.length by omega)
  have hxm : acts[j]'(by omega) ∈ acts := List.getElem_mem _
  generalize acts[j]'(by omega) = a at hx hxm
  obtain ⟨bb, o, hA, hca⟩ := hR.lay (by decide) hx
  have hn2 : 0 ≤ (j : Int) ∧ (j : Int) < acts.length := by omega
  have ej : IntKind.i64.wrap ((j : Int) + 1) = ((j + 1 : Nat) : Int) := by rw [w64 (by omega) (by omega)]; omega
  refine RegOb.go ?_
  refine Need.mk hn2 (RawAt.mk bb o hA ?_)
  refine RdF.mk a.i.svs a.i.vals rfl rfl (fun q v hq => by rw [Int.toNat_natCast, Nat.add_assoc, Nat.add_comm 2 q]; exact hca (q + 2) v hq) ?_
  refine useP (.bool (longP a.i.p)) (long_spec a.i) rfl rfl ?_
  refine Br.mk (fun g3 => ?_) (fun g3 => ?_)
  · exact FinOb.mk [.bool true] [] rfl (fun h k => trivial) ⟨_, rfl, fun e => (Bool.noConfusion e), rfl⟩
  have hnext : ∀ k b, k < j + 1 → acts[k]? = some b → longP b.i.p = false := fun k b hk hb => by
    by_cases e : k = j
    · subst e
      rw [hx] at hb
      injection hb with hb
      subst hb
      exact g3
    · exact ha k b (by omega) hb
  refine Need.mk hn2 (RawAt.mk bb o hA ?_)
  refine RdRaw.mk (.raw (.slice a.i.ad a.i.p.data.length a.i.cd)) _ rfl (by rw [Int.toNat_natCast]; exact hca 12 _ rfl) ?_
  refine Br.mk (fun g4 => ?_) (fun g4 => ?_)
  · refine CondOb.split (fun g5 => ?_) (fun g5 => ?_)
    · exact FinOb.mk [.bool true] [] rfl (fun h k => trivial) ⟨_, rfl, fun e => (Bool.noConfusion e), rfl⟩
    · exact ⟨⟨j + 1, by omega, by omega, hnext⟩, by show acts.length - (j + 1) < acts.length - j; omega, Le.of rfl ⟨⟨_, rfl, rfl⟩, ⟨_, rfl, congrArg (fun z => some (Value.int .i64 z)) ej⟩, ⟨_, rfl, congrArg (fun z => some (Value.int .i64 z)) ej⟩, trivial⟩ (fun h k => k)⟩
  · exact ⟨⟨j + 1, by omega, by omega, hnext⟩, by show acts.length - (j + 1) < acts.length - j; omega, Le.of rfl ⟨⟨_, rfl, rfl⟩, ⟨_, rfl, congrArg (fun z => some (Value.int .i64 z)) ej⟩, ⟨_, rfl, congrArg (fun z => some (Value.int .i64 z)) ej⟩, trivial⟩ (fun h k => k)⟩
theorem alls_of {A : Asn} {own : List Asn} {h : HP} (k : sat (A :: own) h) : sat [A, Alls own] h := by
  obtain ⟨x, y, t, hx, hy⟩ := k
  exact ⟨x, y, t, hx, y, HP.emp, .emp_right _, hy, trivial⟩
theorem alls_of2 {A B : Asn} {own : List Asn} {h : HP} (k : sat (A :: B :: own) h) : sat [A, B, Alls own] h := by
  obtain ⟨x, y, t, hx, hy⟩ := k
  exact ⟨x, y, t, hx, alls_of hy⟩
theorem tadd2_spec (b : Nat) (most life n : Int) (M : List Mp) (now : Int) (i : Ip) (hf : i.Fits) (hm : most ≤ 64) (hl : 0 ≤ life ∧ life ≤ 65535) (hn : n ≤ 1000000000) :
    Does Try.prog 24 #[pp b, .int .i64 now, .agg i.vals.toArray] i.Sees [TA b most life n M]
      (fun v q => ∃ M' r dn e own, v = .tuple #[.agg r.vals.toArray, .bool dn, .int .i64 e] ∧ AddP most life now i.p M M' r.p dn e ∧ OwnR r dn own ∧ q = [TA b most life (n + 1) M', Alls own]) := by
  refine (tadd_spec b most life n M now i hf hm hl hn).post ?_
  rintro v q ⟨M', r, dn, e, own, rfl, h1, h2, rfl⟩
  exact ⟨_, ⟨M', r, dn, e, own, rfl, h1, h2, rfl⟩, fun h k => alls_of k⟩
theorem radd2_spec (most life : Int) (pl : Plc) (cap : Nat) (L : List RP) (hc : L.length ≤ cap) (hL : L.length ≤ 64) (hm : most ≤ 64) (hl : 0 ≤ life ∧ life ≤ 65535) (hok : ∀ x ∈ L, ROK x) (now : Int) (i : Ip) (hf : i.Fits) :
    Does Try.prog 49 #[.agg #[.int .i64 most, .int .i64 life, .slice (locAddr 0 pl) L.length cap], .int .i64 now, .agg i.vals.toArray] (fun f => i.Sees f ∧ ∀ x ∈ L, ∀ y, x.fi = some y → y.Sees f) [Vec pl 178 20 cap (RPL.flat L), Rs' L]
      (fun v q => ∃ L' r dn e own pl c, v = .tuple #[.agg #[.int .i64 most, .int .i64 life, .slice (locAddr 0 pl) L'.length c], .agg r.vals.toArray, .bool dn, .int .i64 e] ∧ L'.length ≤ c ∧ RAdd most life now i L L' r dn e own ∧ q = [Vec pl 178 20 c (RPL.flat L'), Rs' L', Alls own]) := by
  refine Does.presure (φ := L ≠ [] → ∃ b o, pl = .at b o) Try.call49 ?_ (fun h => ?_)
  · rintro h ⟨x, _, _, hx, _⟩ e
    exact vec_at (flat_ne e) hx
  · refine (radd_spec most life pl cap L hc hL hm hl hok now i hf h).post ?_
    rintro v q ⟨L', r, dn, e, own, pl, c, rfl, h1, h2, rfl⟩
    exact ⟨_, ⟨L', r, dn, e, own, pl, c, rfl, h1, h2, rfl⟩, fun h k => alls_of2 k⟩
theorem sees_mono {i : Ip} {f f' : HP} (hs : ∀ r q, f r = some q → f' r = some q) (h : i.Sees f) : i.Sees f' := ⟨rd_sub hs h.o, rd_sub hs h.d⟩
theorem start_mem {most till : Int} {k : Key} {L A B : List RP} {x : RP} (h : Start most k till L A x B) : (∀ y ∈ A ++ B, y ∈ L) ∧ (x ∈ L ∨ x.fi = none) := by
  cases h with
  | found A B x e hk hA =>
    subst e
    refine ⟨fun y hy => ?_, .inl (by simp)⟩
    rcases List.mem_append.1 hy with h | h
    · exact List.mem_append.2 (.inl h)
    · exact List.mem_append.2 (.inr (List.mem_cons_of_mem _ h))
  | new h hm => exact ⟨fun y hy => by rwa [List.append_nil] at hy, .inr rfl⟩
theorem step_fi {x x' : RP} {i y : Ip} (st : Step x i x') (h : x'.fi = some y) : y = i ∨ x.fi = some y := by
  rw [st.fi] at h
  split at h
  · injection h with h
    exact .inl h.symm
  · exact .inr h
theorem start_sees {most till : Int} {k : Key} {L A B : List RP} {x x' : RP} {i : Ip} {f : HP} (hs : Start most k till L A x B) (st : Step x i x') (hi : i.Sees f) (hL : ∀ x ∈ L, ∀ y, x.fi = some y → y.Sees f) : ∀ y, x'.fi = some y → y.Sees f := fun y hy => by
  rcases step_fi st hy with rfl | e
  · exact hi
  · rcases (start_mem hs).2 with h | h
    · exact hL x h y e
    · rw [h] at e; cases e
/-- What waits looks at the frame alone. -/
theorem radd_fi {most life now : Int} {i : Ip} {L L' : List RP} {r : Ip} {dn : Bool} {e : Int} {own : List Asn} {f : HP} (hi : i.Sees f) (hL : ∀ x ∈ L, ∀ y, x.fi = some y → y.Sees f) (h : RAdd most life now i L L' r dn e own) : ∀ x ∈ L', ∀ y, x.fi = some y → y.Sees f := by
  cases h with
  | bad _ => exact hL
  | at_once _ _ => exact hL
  | full _ _ _ _ => exact hL
  | stale _ _ _ _ _ _ _ => exact hL
  | more _ _ A B x x' hs _ st _ =>
    intro z hz y hy
    rcases List.mem_append.1 hz with h | h
    · exact hL z ((start_mem hs).1 z (List.mem_append.2 (.inl h))) y hy
    · rcases List.mem_cons.1 h with rfl | h
      · exact start_sees hs st hi hL y hy
      · exact hL z ((start_mem hs).1 z (List.mem_append.2 (.inr h))) y hy
  | long _ _ A B x x' hs _ _ _ _ _ _ => exact fun z hz y hy => hL z ((start_mem hs).1 z hz) y hy
  | done _ _ A B x x' hs _ _ _ _ _ _ => exact fun z hz y hy => hL z ((start_mem hs).1 z hz) y hy
theorem zero_sees (f : HP) : zeroI.Sees f := ⟨Reads.nil _ _, Reads.nil _ _⟩
/-- What an answer of the reference looks at. -/
theorem radd_sees {most life now : Int} {i : Ip} {L L' : List RP} {r : Ip} {dn : Bool} {e : Int} {own : List Asn} {f b : HP} (hi : i.Sees f) (hL : ∀ x ∈ L, ∀ y, x.fi = some y → y.Sees f) (h : RAdd most life now i L L' r dn e own) (k : Alls own b) {f' : HP} (s1 : ∀ r q, f r = some q → f' r = some q) (s2 : ∀ r q, b r = some q → f' r = some q) : r.Sees f' := by
  cases h with
  | bad _ => exact zero_sees _
  | at_once _ _ => exact sees_mono s1 hi
  | full _ _ _ _ => exact zero_sees _
  | stale _ _ _ _ _ _ _ => exact zero_sees _
  | more _ _ _ _ _ _ _ _ _ _ => exact zero_sees _
  | long _ _ _ _ _ _ _ _ _ _ _ _ _ => exact zero_sees _
  | done _ _ A B x x' hs _ st _ y hy _ =>
    have h1 := start_sees hs st hi hL y hy
    obtain ⟨u, v, t, ku, _⟩ := k
    refine ⟨rd_sub s1 h1.o, ?_⟩
    have := vec_reads' ku
    exact rd_sub (fun r q hq => s2 r q (t.get hq)) (take_rdL (e := U) this)
theorem own_sees {r : Ip} {dn : Bool} {own : List Asn} {b : HP} (h : OwnR r dn own) (k : Alls own b) : r.Sees b := by
  rcases h with ⟨_, rfl, _⟩ | ⟨_, po, pd, co, cd, e, _, _, rfl⟩
  · exact zero_sees _
  · obtain ⟨x, y, t, kx, z, w, t2, kz, _⟩ := k
    rw [e]
    exact ⟨rd_sub (fun r q hq => t.get hq) (vec_reads' kx), rd_sub (fun r q hq => t.get_right (t2.get hq)) (vec_reads' kz)⟩
theorem fs_sees {Y : List Fst} {b : HP} (k : Fs Y b) : ∀ x ∈ Y.map Fst.ip, x.Sees b := fun x hx => by
  obtain ⟨y, hy, rfl⟩ := List.mem_map.1 hx
  have key : ∀ A ∈ y.own, ∃ z, (∀ r q, z r = some q → b r = some q) ∧ A z := fun A hA => by
    obtain ⟨n, hn⟩ := List.getElem?_of_mem (List.mem_flatMap.2 ⟨y, hy, hA⟩ : A ∈ Y.flatMap Fst.own)
    obtain ⟨z, hz, kz⟩ := sat_sub (n := n) (A := A) hn (show sat (Y.flatMap Fst.own) b from k)
    exact ⟨z, hz, kz⟩
  obtain ⟨z1, h1, k1⟩ := key _ (by unfold Fst.own; exact List.mem_cons_self)
  obtain ⟨z2, h2, k2⟩ := key (Vec y.pd 5 1 y.cd (U.flat y.i.data)) (by unfold Fst.own; simp)
  exact ⟨rd_sub h1 (vec_reads' k1), rd_sub h2 (vec_reads' k2)⟩
theorem fs_p (Y : List Fst) : (Y.map Fst.ip).map Ip.p = Y.map Fst.i := by rw [List.map_map]; rfl
theorem keep_sees {now : Int} {L : List RP} {f : HP} (hL : ∀ x ∈ L, ∀ y, x.fi = some y → y.Sees f) : (∀ x ∈ keepR now L, ∀ y, x.fi = some y → y.Sees f) ∧ ∀ x ∈ firstR (lateR now L), x.Sees f := by
  refine ⟨fun x hx => hL x (List.mem_filter.1 hx).1, fun x hx => ?_⟩
  obtain ⟨z, hz, e⟩ := List.mem_filterMap.1 hx
  exact hL z (List.mem_filter.1 hz).1 x e
theorem late_len (now : Int) (L : List RP) : (firstR (lateR now L)).length ≤ L.length := Nat.le_trans (List.length_filterMap_le _ _) (List.length_filter_le _ _)
end Go.Proofs.Ytiknkeakielncaa.Rs
