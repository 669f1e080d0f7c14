/- wheel: WheelPlays, walked. Conditions: none. -/
import Derived.Test.YtiknkeakielncaaWhT
namespace Go.Proofs.Ytiknkeakielncaa.Wh
open Go Go.Proofs Sx
set_option maxRecDepth 100000
set_option linter.unusedVariables false
set_option linter.unusedSimpArgs false
set_option maxHeartbeats 4000000

def dueV (L : List T) (id : Int) : Value := .tuple #[.int .i64 (((L.find? (fun t => id == t.id)).getD T0).at_), .bool (L.find? (fun t => id == t.id)).isSome]
theorem find_is {L : List T} (h : Ids L) {t : T} (ht : t ∈ L) : L.find? (fun s => t.id == s.id) = some t := by
  cases e : L.find? (fun s => t.id == s.id) with
  | none => exact absurd rfl (find_none.1 e t ht)
  | some s =>
    have : t.id = s.id := by simpa using List.find?_some e
    rw [h.inj (List.mem_of_find?_eq_some e) ht this.symm]
theorem rdue_same (A : Option Addr) (cp : Nat) {L : List T} (hi : Ids L) (hl : L.length ≤ 4096) (id : Int) :
    Does Try.prog 43 #[.slice A L.length cp, .int .i64 id] (fun f => Reads f A (UL.flat (L.map T.u))) [] (fun v p => v = dueV L id ∧ p = []) := by
  have h := rdue_spec A cp (L.map T.u) id (by simp; omega)
  rw [List.length_map] at h
  refine h.mono ?_
  rintro v p ⟨rfl, ⟨rfl, hn⟩ | ⟨x, hx, hid, rfl⟩⟩
  · rw [find_map] at hn
    exact ⟨by unfold dueV; rw [hn]; rfl, rfl⟩
  · obtain ⟨t, ht, rfl⟩ := List.mem_map.1 hx
    have hid : t.id = id := hid
    subst hid
    exact ⟨by unfold dueV; rw [find_is hi ht]; rfl, rfl⟩
theorem rnext_same (A : Option Addr) (cp : Nat) {L : List T} (hl : L.length ≤ 4096) {n : Int} {ok : Bool} (hn : NextR L n ok) :
    Does Try.prog 41 #[.slice A L.length cp] (fun f => Reads f A (UL.flat (L.map T.u))) [] (fun v p => v = .tuple #[.int .i64 n, .bool ok] ∧ p = []) := by
  have h := rnext_spec A cp (L.map T.u) (by simp; omega)
  rw [List.length_map] at h
  refine h.mono ?_
  rintro v p ⟨n', ok', rfl, hn', rfl⟩
  obtain ⟨rfl, rfl⟩ := next_same hn hn'
  exact ⟨rfl, rfl⟩
theorem rset_same' (A : Option Addr) (cp : Nat) {now no : Int} {L : List T} (hp : PL now no L) (hc : L.length ≤ cp) (id x : Int) :
    Does Try.prog 36 #[.slice A L.length cp, .int .i64 id, .int .i64 x] (fun f => Reads f A (UL.flat (L.map T.u))) []
      (fun v p => (v = .tuple #[.slice A L.length cp, .int .i64 (setC L id x)] ∧ setL L id x no = L ∧ p = []) ∨
        ∃ (pl : Plc) (c : Nat), v = .tuple #[.slice (locAddr 0 pl) (setL L id x no).length c, .int .i64 (setC L id x)] ∧ (setL L id x no).length ≤ c ∧ p = [Vec pl 171 2 c (UL.flat ((setL L id x no).map T.u))]) := by
  have hf := hp.few
  have h := rset_spec A cp (L.map T.u) id x (by simp; omega) (by simp; omega)
  rw [List.length_map] at h
  refine h.mono ?_
  rintro v p ⟨code, l', hr, hh⟩
  obtain ⟨rfl, rfl⟩ := rset_same hp hr
  rcases hh with ⟨rfl, e, h0, rfl⟩ | ⟨pl, c, rfl, hc, rfl⟩
  · exact .inl ⟨rfl, by unfold setL; rw [if_neg h0], rfl⟩
  · rw [List.length_map] at hc ⊢
    exact .inr ⟨pl, c, rfl, hc, rfl⟩
theorem rstop_same (A : Option Addr) (cp : Nat) {now no : Int} {L : List T} (hp : PL now no L) (hc : L.length ≤ cp) (id : Int) :
    Does Try.prog 38 #[.slice A L.length cp, .int .i64 id] (fun f => Reads f A (UL.flat (L.map T.u))) []
      (fun v p => (v = .tuple #[.slice A L.length cp, .bool (L.find? (fun t => id == t.id)).isSome] ∧ without id L = L ∧ p = []) ∨
        ∃ (pl : Plc) (c : Nat), v = .tuple #[.slice (locAddr 0 pl) (without id L).length c, .bool (L.find? (fun t => id == t.id)).isSome] ∧ (without id L).length ≤ c ∧ p = [Vec pl 171 2 c (UL.flat ((without id L).map T.u))]) := by
  have hf := hp.few
  have h := rstop_spec A cp (L.map T.u) id (by simp; omega) (by simp; omega)
  rw [List.length_map] at h
  refine h.mono ?_
  rintro v p (⟨rfl, rfl, hn⟩ | ⟨i, x, pl, c, hx, hid, rfl, hc, rfl⟩)
  · rw [find_map] at hn
    exact .inl ⟨by rw [hn]; rfl, without_none (find_none.1 hn), rfl⟩
  · obtain ⟨t, ht, rfl, hfd⟩ := find_nth hp.ids hx
    have hid : t.id = id := hid
    subst hid
    have hl := without_len hp.ids (List.mem_of_getElem? ht)
    have e : L.length - 1 = (without t.id L).length := by omega
    rw [e] at hc ⊢
    refine .inr ⟨pl, c, by rw [hfd]; rfl, hc, ?_⟩
    rw [map_erase, erase_without hp.ids ht]
theorem rtick_same (pl : Plc) (c : Nat) {now no : Int} {L : List T} (hp : PL now no L) (hc : L.length ≤ c) (x : Int) :
    Does Try.prog 39 #[.slice (locAddr 0 pl) L.length c, .int .i64 x] (fun _ => True) [Vec pl 171 2 c (UL.flat (L.map T.u))]
      (fun v p => ∃ (l : List T) (pl1 : Plc) (c1 : Nat) (pl2 : Plc) (c2 : Nat), Told x L l ∧ v = .tuple #[.slice (locAddr 0 pl1) (ahead x L).length c1, .slice (locAddr 0 pl2) l.length c2] ∧ (ahead x L).length ≤ c1 ∧ l.length ≤ c2 ∧ p = [Vec pl1 171 2 c1 (UL.flat ((ahead x L).map T.u)), Vec pl2 3 1 c2 (IL.flat (l.map T.id))]) := by
  have hf := hp.few
  have h := rtick_spec pl c (L.map T.u) x (by simp; omega) (by simp; omega)
  rw [List.length_map] at h
  refine h.mono ?_
  rintro v p ⟨out, m, pl1, c1, pl2, c2, rfl, hk, hm, h1, h2, rfl⟩
  obtain ⟨l, ht, rfl, rfl⟩ := picked_told hp.ord hk hm
  rw [List.length_map] at h1 h2
  exact ⟨l, pl1, c1, pl2, c2, ht, by rw [List.length_map, List.length_map], h1, h2, rfl⟩
theorem told_len {x : Int} {L l : List T} (h : Told x L l) (hf : L.length ≤ 4096) : l.length ≤ 4096 := by
  have := h.perm.length_eq
  have : (L.filter (isLate x)).length ≤ L.length := List.length_filter_le _ _
  omega
def Z (acts : List A) : Type := { z : Nat × Int × Int × List T × Plc × Nat // z.1 ≤ acts.length ∧ PL z.2.1 z.2.2.1 z.2.2.2.1 ∧ z.2.2.2.1.length ≤ z.2.2.2.2.2 ∧ z.2.2.1 ≤ z.1 }
theorem plays_spec (B : Option Addr) (cp : Nat) (acts : List A) (now : Int) (hlen0 : acts.length ≤ 9223372036854775807) :
    Does Try.prog 9 #[.int .i64 now, .slice B acts.length cp] (fun f => Reads f B (AL.flat acts)) [] (fun v p => v = .bool true ∧ p = []) := by
  refine Does.ofJ Try.func9 Try.call9 rfl [.int .i64 now, .raw (.slice B acts.length cp)] [] 0 [] rfl rfl (fun h k => k) (fun f hR => ?_)
  refine CondOb.split (fun g => ?_) (fun g => ?_)
  · refine useP .tt live_spec rfl rfl ?_
    exact FinOb.mk [.bool true] [] rfl (fun h k => trivial) ⟨rfl, rfl⟩
  have g : acts.length ≤ 200 := by
    have g := of_decide_eq_false g
    have : ¬ (200 : Int) < acts.length := g
    omega
  by_cases hnow : now < 0 ∨ Top < now
  · refine useP (.tuple [.nilp, .int .i64 8]) (new_bad now hnow) rfl rfl ?_
    refine RegOb.join Unit (fun _ => ⟨211, [(5, .nilp), (6, .int .i64 8), (42, .tt)], [], 0, []⟩) ?_ (fun _ => ?_)
    · refine Br.mk (fun h => ?_) (fun h => ?_)
      · exact ⟨(), Le.of rfl ⟨⟨_, rfl, rfl⟩, ⟨_, rfl, rfl⟩, ⟨_, rfl, rfl⟩, trivial⟩ (fun h k => k)⟩
      · have h := of_decide_eq_false h
        exact ⟨(), Le.of rfl ⟨⟨_, rfl, rfl⟩, ⟨_, rfl, rfl⟩, ⟨_, rfl, (congrArg (fun x => some (Value.bool x)) (decide_eq_true (show now > 1099511627776 by have : ¬ now < 0 := h; have hnow : now < 0 ∨ 1099511627776 < now := hnow; omega)))⟩, trivial⟩ (fun h k => k)⟩
    refine RegOb.go ?_
    refine useP (.int .i64 8) (code_spec 8) rfl rfl ?_
    refine Br.mk (fun _ => ?_) (fun h => absurd h (by decide))
    refine useP .tt live_spec rfl rfl ?_
    exact FinOb.mk [.bool true] [] rfl (fun h k => trivial) ⟨rfl, rfl⟩
  have n0 : 0 ≤ now := by omega
  have n1 : now ≤ 1099511627776 := by have : ¬ (now < 0 ∨ 1099511627776 < now) := hnow; omega
  refine call_ix (wnew_spec now n0 n1) rfl [] (fun h k => k) (fun _ _ _ _ => trivial) ?_
  rintro v post ⟨b, rfl, rfl⟩
  refine ⟨.tuple [.raw (.pointer (some ⟨b, 0, none⟩)), .int .i64 0], _, 0, [.asn (WrA b now 0 [])], NmExt.refl _, rfl, (fun h k => sat_pick 0 rfl (by first | exact fun _ k => k | exact fun _ k => blk_to rfl rfl k | exact fun _ k => vec_to rfl k | exact fun _ k => blk_of rfl rfl k | exact fun _ k => vec_of rfl k | exact fun _ k => blk_of rfl rfl (blk_to rfl rfl k) | exact fun _ k => vec_of rfl (vec_to rfl k) | exact fun _ k => mp_to rfl k | exact fun _ k => mp_of rfl k | exact fun _ k => mp_of rfl (mp_to rfl k)) (fun h k => sat_nil k) k), ?_⟩
  refine RegOb.go ?_
  refine Br.mk (fun h => absurd (of_decide_eq_true h) (by omega)) (fun _ => ?_)
  refine CondOb.split (fun h => absurd (of_decide_eq_true h) (by omega)) (fun _ => ?_)
  refine RegOb.go ?_
  refine useP (.int .i64 0) (code_spec 0) rfl rfl ?_
  refine Br.mk (fun h => absurd h (by decide)) (fun _ => ?_)
  refine LoopOb.mk (Z acts) (fun z => ⟨211, [(0, .int .i64 z.1.2.1), (1, .raw (.slice B acts.length cp)), (5, .raw (.pointer (some ⟨b, 0, none⟩))), (7, .sl 0 0 z.1.2.2.2.1.length z.1.2.2.2.2.2), (8, .int .i64 z.1.1)], [(0, z.1.2.2.2.2.1)], 1, [.asn (WrA b z.1.2.1 z.1.2.2.1 z.1.2.2.2.1), .vec 0 171 2 z.1.2.2.2.2.2 (UL.flat (z.1.2.2.2.1.map T.u))]⟩) (fun z => acts.length - z.1.1)
    ⟨(0, now, 0, [], .nil, 0), Nat.zero_le _, PL.emp n0 n1, Nat.le_refl _, Int.le_refl _⟩ ?_ ?_
  · exact Le.of rfl ⟨⟨_, rfl, rfl⟩, ⟨_, rfl, rfl⟩, ⟨_, rfl, rfl⟩, ⟨_, rfl, rfl⟩, ⟨_, rfl, rfl⟩, trivial⟩ (fun h k => sat_pick 0 rfl (by first | exact fun _ k => k | exact fun _ k => blk_to rfl rfl k | exact fun _ k => vec_to rfl k | exact fun _ k => blk_of rfl rfl k | exact fun _ k => vec_of rfl k | exact fun _ k => blk_of rfl rfl (blk_to rfl rfl k) | exact fun _ k => vec_of rfl (vec_to rfl k) | exact fun _ k => mp_to rfl k | exact fun _ k => mp_of rfl k | exact fun _ k => mp_of rfl (mp_to rfl k)) (fun h k => sat_add (vec_of rfl vec_emp) ((fun h k => sat_nil k) h k)) k)
  clear hnow n0 n1
  rintro ⟨⟨i, now, no, L, pl, c⟩, hi, hp, hLc, hno⟩
  simp only at hi hp hLc hno
  refine CondOb.split (fun gg => ?_) (fun gg => ?_)
  rotate_left
  · refine useP .tt live_spec rfl rfl ?_
    exact FinOb.mk [.bool true] [] rfl (fun h k => trivial) ⟨rfl, rfl⟩
  have gi : i < acts.length := by
    have g := of_decide_eq_true gg
    have : (i : Int) < acts.length := g
    omega
  have hx := List.getElem?_eq_getElem gi
  generalize acts[i] = a at hx
  obtain ⟨bb, o, hA, hca⟩ := hR.lay (by decide) hx
  have hn2 : 0 ≤ (i : Int) ∧ (i : Int) < acts.length := by omega
  have ei : IntKind.i64.wrap ((i : Int) + 1) = ((i + 1 : Nat) : Int) := by rw [w64 (by omega) (by omega)]; omega
  refine Need.mk hn2 (RawAt.mk bb o hA ?_)
  refine RdF.mk a.svs a.vals rfl rfl (fun q v hq => by rw [Int.toNat_natCast]; exact hca q v hq) ?_
  intro b9
  refine CondOb.split (fun g0 => ?_) (fun g0 => ?_)
  · have hp2 := pl_set hp a.id a.at_
    have hno2 : setN L a.id a.at_ no ≤ (i + 1 : Nat) := by unfold setN; split <;> omega
    refine call_ix (wset_spec b now no L hp (by show no ≤ 4611686018427387904; omega) a.id a.at_) rfl [1] (fun h k => sat_pick 1 rfl (by first | exact fun _ k => k | exact fun _ k => blk_to rfl rfl k | exact fun _ k => vec_to rfl k | exact fun _ k => blk_of rfl rfl k | exact fun _ k => vec_of rfl k | exact fun _ k => blk_of rfl rfl (blk_to rfl rfl k) | exact fun _ k => vec_of rfl (vec_to rfl k) | exact fun _ k => mp_to rfl k | exact fun _ k => mp_of rfl k | exact fun _ k => mp_of rfl (mp_to rfl k)) (fun h k => sat_pick 0 rfl (by first | exact fun _ k => k | exact fun _ k => blk_to rfl rfl k | exact fun _ k => vec_to rfl k | exact fun _ k => blk_of rfl rfl k | exact fun _ k => vec_of rfl k | exact fun _ k => blk_of rfl rfl (blk_to rfl rfl k) | exact fun _ k => vec_of rfl (vec_to rfl k) | exact fun _ k => mp_to rfl k | exact fun _ k => mp_of rfl k | exact fun _ k => mp_of rfl (mp_to rfl k)) (fun h k => sat_pick 0 rfl (by first | exact fun _ k => k | exact fun _ k => blk_to rfl rfl k | exact fun _ k => vec_to rfl k | exact fun _ k => blk_of rfl rfl k | exact fun _ k => vec_of rfl k | exact fun _ k => blk_of rfl rfl (blk_to rfl rfl k) | exact fun _ k => vec_of rfl (vec_to rfl k) | exact fun _ k => mp_to rfl k | exact fun _ k => mp_of rfl k | exact fun _ k => mp_of rfl (mp_to rfl k)) (fun h k => sat_nil k) k) k) k) (fun _ _ _ _ => trivial) ?_
    rintro v post ⟨rfl, rfl⟩
    refine ⟨.int .i64 (setC L a.id a.at_), _, 2, [.asn (WrA b now (setN L a.id a.at_ no) (setL L a.id a.at_ no))], NmExt.refl _, rfl, (fun h k => sat_pick 0 rfl (by first | exact fun _ k => k | exact fun _ k => blk_to rfl rfl k | exact fun _ k => vec_to rfl k | exact fun _ k => blk_of rfl rfl k | exact fun _ k => vec_of rfl k | exact fun _ k => blk_of rfl rfl (blk_to rfl rfl k) | exact fun _ k => vec_of rfl (vec_to rfl k) | exact fun _ k => mp_to rfl k | exact fun _ k => mp_of rfl k | exact fun _ k => mp_of rfl (mp_to rfl k)) (fun h k => sat_nil k) k), ?_⟩
    refine call_ix (rset_same' (locAddr 0 pl) c hp hLc a.id a.at_) rfl [] (fun h k => k) (fun f' b' hs kb => vec_reads 2 hs kb rfl rfl) ?_
    rintro v post (⟨rfl, eL, rfl⟩ | ⟨pl2, c2, rfl, hc2, rfl⟩)
    · refine ⟨.tuple [.sl 0 0 L.length c, .int .i64 (setC L a.id a.at_)], _, 2, [], NmExt.refl _, rfl, fun h k => trivial, ?_⟩
      refine useP (.int .i64 (setC L a.id a.at_)) (code_spec _) rfl rfl ?_
      refine CondOb.split (fun h => absurd h (by simp)) (fun _ => ?_)
      rw [eL] at hp2 ⊢
      refine call_ix (wnext_spec b now (setN L a.id a.at_ no) L) rfl [0] (fun h k => sat_pick 0 rfl (by first | exact fun _ k => k | exact fun _ k => blk_to rfl rfl k | exact fun _ k => vec_to rfl k | exact fun _ k => blk_of rfl rfl k | exact fun _ k => vec_of rfl k | exact fun _ k => blk_of rfl rfl (blk_to rfl rfl k) | exact fun _ k => vec_of rfl (vec_to rfl k) | exact fun _ k => mp_to rfl k | exact fun _ k => mp_of rfl k | exact fun _ k => mp_of rfl (mp_to rfl k)) (fun h k => sat_pick 0 rfl (by first | exact fun _ k => k | exact fun _ k => blk_to rfl rfl k | exact fun _ k => vec_to rfl k | exact fun _ k => blk_of rfl rfl k | exact fun _ k => vec_of rfl k | exact fun _ k => blk_of rfl rfl (blk_to rfl rfl k) | exact fun _ k => vec_of rfl (vec_to rfl k) | exact fun _ k => mp_to rfl k | exact fun _ k => mp_of rfl k | exact fun _ k => mp_of rfl (mp_to rfl k)) (fun h k => sat_pick 0 rfl (by first | exact fun _ k => k | exact fun _ k => blk_to rfl rfl k | exact fun _ k => vec_to rfl k | exact fun _ k => blk_of rfl rfl k | exact fun _ k => vec_of rfl k | exact fun _ k => blk_of rfl rfl (blk_to rfl rfl k) | exact fun _ k => vec_of rfl (vec_to rfl k) | exact fun _ k => mp_to rfl k | exact fun _ k => mp_of rfl k | exact fun _ k => mp_of rfl (mp_to rfl k)) (fun h k => sat_nil k) k) k) k) (fun _ _ _ _ => trivial) ?_
      rintro v post ⟨n, ok, rfl, hnx, rfl⟩
      refine ⟨.tuple [.int .i64 n, .bool ok], _, 2, [.asn (WrA b now (setN L a.id a.at_ no) L)], NmExt.refl _, rfl, (fun h k => sat_pick 0 rfl (by first | exact fun _ k => k | exact fun _ k => blk_to rfl rfl k | exact fun _ k => vec_to rfl k | exact fun _ k => blk_of rfl rfl k | exact fun _ k => vec_of rfl k | exact fun _ k => blk_of rfl rfl (blk_to rfl rfl k) | exact fun _ k => vec_of rfl (vec_to rfl k) | exact fun _ k => mp_to rfl k | exact fun _ k => mp_of rfl k | exact fun _ k => mp_of rfl (mp_to rfl k)) (fun h k => sat_nil k) k), ?_⟩
      refine useR (.tuple [.int .i64 n, .bool ok]) (rnext_same (locAddr 0 pl) c hp2.few hnx) rfl (fun f' b' hs kb => vec_reads 2 hs kb rfl rfl) rfl ?_
      refine useA [] [_, _] (.tuple [.int .i64 ((((L).find? (fun t => a.id == t.id)).getD T0).at_), .bool ((L).find? (fun t => a.id == t.id)).isSome]) (wdue_spec b now (setN L a.id a.at_ no) L hp2 a.id) rfl rfl rfl ?_
      refine useR (.tuple [.int .i64 ((((L).find? (fun t => a.id == t.id)).getD T0).at_), .bool ((L).find? (fun t => a.id == t.id)).isSome]) (rdue_same (locAddr 0 pl) c hp2.ids hp2.few a.id) rfl (fun f' b' hs kb => vec_reads 2 hs kb rfl rfl) rfl ?_
      refine RegOb.go ?_
      refine Br.mk (fun h => absurd h (by simp)) (fun _ => ?_)
      refine Br.mk (fun h => absurd h (by simp)) (fun _ => ?_)
      refine Br.mk (fun h => absurd h (by simp)) (fun _ => ?_)
      refine Br.mk (fun h => absurd h (by simp)) (fun _ => ?_)
      refine useA [] [_, _] (.int .i64 now) (wnow_spec b now (setN L a.id a.at_ no) L) rfl rfl rfl ?_
      refine Br.mk (fun h => absurd h (by simp)) (fun _ => ?_)
      refine useA [] [_, _] (.int .i64 (L).length) (wlen_spec b now (setN L a.id a.at_ no) L) rfl rfl rfl ?_
      refine CondOb.split (fun h => absurd h (by simp)) (fun _ => ?_)
      exact ⟨⟨(i + 1, now, setN L a.id a.at_ no, L, pl, c), gi, hp2, hLc, hno2⟩, by show acts.length - (i + 1) < acts.length - i; omega, Le.of rfl ⟨⟨_, rfl, rfl⟩, ⟨_, rfl, rfl⟩, ⟨_, rfl, rfl⟩, ⟨_, rfl, rfl⟩, ⟨_, rfl, congrArg (fun z => some (Value.int .i64 z)) ei⟩, trivial⟩ (fun h k => sat_pick 0 rfl (by first | exact fun _ k => k | exact fun _ k => blk_to rfl rfl k | exact fun _ k => vec_to rfl k | exact fun _ k => blk_of rfl rfl k | exact fun _ k => vec_of rfl k | exact fun _ k => blk_of rfl rfl (blk_to rfl rfl k) | exact fun _ k => vec_of rfl (vec_to rfl k) | exact fun _ k => mp_to rfl k | exact fun _ k => mp_of rfl k | exact fun _ k => mp_of rfl (mp_to rfl k)) (fun h k => sat_pick 1 rfl (by first | exact fun _ k => k | exact fun _ k => blk_to rfl rfl k | exact fun _ k => vec_to rfl k | exact fun _ k => blk_of rfl rfl k | exact fun _ k => vec_of rfl k | exact fun _ k => blk_of rfl rfl (blk_to rfl rfl k) | exact fun _ k => vec_of rfl (vec_to rfl k) | exact fun _ k => mp_to rfl k | exact fun _ k => mp_of rfl k | exact fun _ k => mp_of rfl (mp_to rfl k)) (fun h k => sat_nil k) k) k)⟩
    · refine ⟨.tuple [.sl 2 0 (setL L a.id a.at_ no).length c2, .int .i64 (setC L a.id a.at_)], (2, pl2) :: _, 3, [.vec 2 171 2 c2 (UL.flat ((setL L a.id a.at_ no).map T.u))], NmExt.push rfl, rfl, (fun h k => sat_pick 0 rfl (fun _ k => vec_of rfl k) (fun h k => sat_nil k) k), ?_⟩
      refine useP (.int .i64 (setC L a.id a.at_)) (code_spec _) rfl rfl ?_
      refine CondOb.split (fun h => absurd h (by simp)) (fun _ => ?_)
      generalize setL L a.id a.at_ no = L2 at *
      generalize setN L a.id a.at_ no = no2 at *
      refine call_ix (wnext_spec b now no2 L2) rfl [1] (fun h k => sat_pick 1 rfl (by first | exact fun _ k => k | exact fun _ k => blk_to rfl rfl k | exact fun _ k => vec_to rfl k | exact fun _ k => blk_of rfl rfl k | exact fun _ k => vec_of rfl k | exact fun _ k => blk_of rfl rfl (blk_to rfl rfl k) | exact fun _ k => vec_of rfl (vec_to rfl k) | exact fun _ k => mp_to rfl k | exact fun _ k => mp_of rfl k | exact fun _ k => mp_of rfl (mp_to rfl k)) (fun h k => sat_pick 0 rfl (by first | exact fun _ k => k | exact fun _ k => blk_to rfl rfl k | exact fun _ k => vec_to rfl k | exact fun _ k => blk_of rfl rfl k | exact fun _ k => vec_of rfl k | exact fun _ k => blk_of rfl rfl (blk_to rfl rfl k) | exact fun _ k => vec_of rfl (vec_to rfl k) | exact fun _ k => mp_to rfl k | exact fun _ k => mp_of rfl k | exact fun _ k => mp_of rfl (mp_to rfl k)) (fun h k => sat_pick 0 rfl (by first | exact fun _ k => k | exact fun _ k => blk_to rfl rfl k | exact fun _ k => vec_to rfl k | exact fun _ k => blk_of rfl rfl k | exact fun _ k => vec_of rfl k | exact fun _ k => blk_of rfl rfl (blk_to rfl rfl k) | exact fun _ k => vec_of rfl (vec_to rfl k) | exact fun _ k => mp_to rfl k | exact fun _ k => mp_of rfl k | exact fun _ k => mp_of rfl (mp_to rfl k)) (fun h k => sat_pick 0 rfl (by first | exact fun _ k => k | exact fun _ k => blk_to rfl rfl k | exact fun _ k => vec_to rfl k | exact fun _ k => blk_of rfl rfl k | exact fun _ k => vec_of rfl k | exact fun _ k => blk_of rfl rfl (blk_to rfl rfl k) | exact fun _ k => vec_of rfl (vec_to rfl k) | exact fun _ k => mp_to rfl k | exact fun _ k => mp_of rfl k | exact fun _ k => mp_of rfl (mp_to rfl k)) (fun h k => sat_nil k) k) k) k) k) (fun _ _ _ _ => trivial) ?_
      rintro v post ⟨n, ok, rfl, hnx, rfl⟩
      refine ⟨.tuple [.int .i64 n, .bool ok], _, 3, [.asn (WrA b now no2 L2)], NmExt.refl _, rfl, (fun h k => sat_pick 0 rfl (by first | exact fun _ k => k | exact fun _ k => blk_to rfl rfl k | exact fun _ k => vec_to rfl k | exact fun _ k => blk_of rfl rfl k | exact fun _ k => vec_of rfl k | exact fun _ k => blk_of rfl rfl (blk_to rfl rfl k) | exact fun _ k => vec_of rfl (vec_to rfl k) | exact fun _ k => mp_to rfl k | exact fun _ k => mp_of rfl k | exact fun _ k => mp_of rfl (mp_to rfl k)) (fun h k => sat_nil k) k), ?_⟩
      refine useR (.tuple [.int .i64 n, .bool ok]) (rnext_same (locAddr 0 pl2) c2 hp2.few hnx) rfl (fun f' b' hs kb => vec_reads 1 hs kb rfl rfl) rfl ?_
      refine useA [] [_, _, _] (.tuple [.int .i64 ((((L2).find? (fun t => a.id == t.id)).getD T0).at_), .bool ((L2).find? (fun t => a.id == t.id)).isSome]) (wdue_spec b now no2 L2 hp2 a.id) rfl rfl rfl ?_
      refine useR (.tuple [.int .i64 ((((L2).find? (fun t => a.id == t.id)).getD T0).at_), .bool ((L2).find? (fun t => a.id == t.id)).isSome]) (rdue_same (locAddr 0 pl2) c2 hp2.ids hp2.few a.id) rfl (fun f' b' hs kb => vec_reads 1 hs kb rfl rfl) rfl ?_
      refine RegOb.go ?_
      refine Br.mk (fun h => absurd h (by simp)) (fun _ => ?_)
      refine Br.mk (fun h => absurd h (by simp)) (fun _ => ?_)
      refine Br.mk (fun h => absurd h (by simp)) (fun _ => ?_)
      refine Br.mk (fun h => absurd h (by simp)) (fun _ => ?_)
      refine useA [] [_, _, _] (.int .i64 now) (wnow_spec b now no2 L2) rfl rfl rfl ?_
      refine Br.mk (fun h => absurd h (by simp)) (fun _ => ?_)
      refine useA [] [_, _, _] (.int .i64 (L2).length) (wlen_spec b now no2 L2) rfl rfl rfl ?_
      refine CondOb.split (fun h => absurd h (by simp)) (fun _ => ?_)
      exact ⟨⟨(i + 1, now, no2, L2, pl2, c2), gi, hp2, hc2, hno2⟩, by show acts.length - (i + 1) < acts.length - i; omega, Le.of rfl ⟨⟨_, rfl, rfl⟩, ⟨_, rfl, rfl⟩, ⟨_, rfl, rfl⟩, ⟨_, rfl, rfl⟩, ⟨_, rfl, congrArg (fun z => some (Value.int .i64 z)) ei⟩, trivial⟩ (fun h k => sat_pick 0 rfl (by first | exact fun _ k => k | exact fun _ k => blk_to rfl rfl k | exact fun _ k => vec_to rfl k | exact fun _ k => blk_of rfl rfl k | exact fun _ k => vec_of rfl k | exact fun _ k => blk_of rfl rfl (blk_to rfl rfl k) | exact fun _ k => vec_of rfl (vec_to rfl k) | exact fun _ k => mp_to rfl k | exact fun _ k => mp_of rfl k | exact fun _ k => mp_of rfl (mp_to rfl k)) (fun h k => sat_pick 0 rfl (fun _ k => vec_of rfl (vec_to rfl k)) (fun h k => sat_nil k) k) k)⟩
  refine CondOb.split (fun g1 => ?_) (fun g1 => ?_)
  · have hp2 := pl_stop hp a.id
    have hno2 : no ≤ (i + 1 : Nat) := by omega
    refine call_ix (wstop_spec b now no L hp a.id) rfl [1] (fun h k => sat_pick 1 rfl (by first | exact fun _ k => k | exact fun _ k => blk_to rfl rfl k | exact fun _ k => vec_to rfl k | exact fun _ k => blk_of rfl rfl k | exact fun _ k => vec_of rfl k | exact fun _ k => blk_of rfl rfl (blk_to rfl rfl k) | exact fun _ k => vec_of rfl (vec_to rfl k) | exact fun _ k => mp_to rfl k | exact fun _ k => mp_of rfl k | exact fun _ k => mp_of rfl (mp_to rfl k)) (fun h k => sat_pick 0 rfl (by first | exact fun _ k => k | exact fun _ k => blk_to rfl rfl k | exact fun _ k => vec_to rfl k | exact fun _ k => blk_of rfl rfl k | exact fun _ k => vec_of rfl k | exact fun _ k => blk_of rfl rfl (blk_to rfl rfl k) | exact fun _ k => vec_of rfl (vec_to rfl k) | exact fun _ k => mp_to rfl k | exact fun _ k => mp_of rfl k | exact fun _ k => mp_of rfl (mp_to rfl k)) (fun h k => sat_pick 0 rfl (by first | exact fun _ k => k | exact fun _ k => blk_to rfl rfl k | exact fun _ k => vec_to rfl k | exact fun _ k => blk_of rfl rfl k | exact fun _ k => vec_of rfl k | exact fun _ k => blk_of rfl rfl (blk_to rfl rfl k) | exact fun _ k => vec_of rfl (vec_to rfl k) | exact fun _ k => mp_to rfl k | exact fun _ k => mp_of rfl k | exact fun _ k => mp_of rfl (mp_to rfl k)) (fun h k => sat_nil k) k) k) k) (fun _ _ _ _ => trivial) ?_
    rintro v post ⟨rfl, rfl⟩
    refine ⟨.bool (L.find? (fun t => a.id == t.id)).isSome, _, 2, [.asn (WrA b now no (without a.id L))], NmExt.refl _, rfl, (fun h k => sat_pick 0 rfl (by first | exact fun _ k => k | exact fun _ k => blk_to rfl rfl k | exact fun _ k => vec_to rfl k | exact fun _ k => blk_of rfl rfl k | exact fun _ k => vec_of rfl k | exact fun _ k => blk_of rfl rfl (blk_to rfl rfl k) | exact fun _ k => vec_of rfl (vec_to rfl k) | exact fun _ k => mp_to rfl k | exact fun _ k => mp_of rfl k | exact fun _ k => mp_of rfl (mp_to rfl k)) (fun h k => sat_nil k) k), ?_⟩
    refine call_ix (rstop_same (locAddr 0 pl) c hp hLc a.id) rfl [] (fun h k => k) (fun f' b' hs kb => vec_reads 2 hs kb rfl rfl) ?_
    rintro v post (⟨rfl, eL, rfl⟩ | ⟨pl2, c2, rfl, hc2, rfl⟩)
    · refine ⟨.tuple [.sl 0 0 L.length c, .bool (L.find? (fun t => a.id == t.id)).isSome], _, 2, [], NmExt.refl _, rfl, fun h k => trivial, ?_⟩
      refine CondOb.split (fun h => absurd h (by simp)) (fun _ => ?_)
      rw [eL] at hp2 ⊢
      refine call_ix (wnext_spec b now no L) rfl [0] (fun h k => sat_pick 0 rfl (by first | exact fun _ k => k | exact fun _ k => blk_to rfl rfl k | exact fun _ k => vec_to rfl k | exact fun _ k => blk_of rfl rfl k | exact fun _ k => vec_of rfl k | exact fun _ k => blk_of rfl rfl (blk_to rfl rfl k) | exact fun _ k => vec_of rfl (vec_to rfl k) | exact fun _ k => mp_to rfl k | exact fun _ k => mp_of rfl k | exact fun _ k => mp_of rfl (mp_to rfl k)) (fun h k => sat_pick 0 rfl (by first | exact fun _ k => k | exact fun _ k => blk_to rfl rfl k | exact fun _ k => vec_to rfl k | exact fun _ k => blk_of rfl rfl k | exact fun _ k => vec_of rfl k | exact fun _ k => blk_of rfl rfl (blk_to rfl rfl k) | exact fun _ k => vec_of rfl (vec_to rfl k) | exact fun _ k => mp_to rfl k | exact fun _ k => mp_of rfl k | exact fun _ k => mp_of rfl (mp_to rfl k)) (fun h k => sat_pick 0 rfl (by first | exact fun _ k => k | exact fun _ k => blk_to rfl rfl k | exact fun _ k => vec_to rfl k | exact fun _ k => blk_of rfl rfl k | exact fun _ k => vec_of rfl k | exact fun _ k => blk_of rfl rfl (blk_to rfl rfl k) | exact fun _ k => vec_of rfl (vec_to rfl k) | exact fun _ k => mp_to rfl k | exact fun _ k => mp_of rfl k | exact fun _ k => mp_of rfl (mp_to rfl k)) (fun h k => sat_nil k) k) k) k) (fun _ _ _ _ => trivial) ?_
      rintro v post ⟨n, ok, rfl, hnx, rfl⟩
      refine ⟨.tuple [.int .i64 n, .bool ok], _, 2, [.asn (WrA b now no L)], NmExt.refl _, rfl, (fun h k => sat_pick 0 rfl (by first | exact fun _ k => k | exact fun _ k => blk_to rfl rfl k | exact fun _ k => vec_to rfl k | exact fun _ k => blk_of rfl rfl k | exact fun _ k => vec_of rfl k | exact fun _ k => blk_of rfl rfl (blk_to rfl rfl k) | exact fun _ k => vec_of rfl (vec_to rfl k) | exact fun _ k => mp_to rfl k | exact fun _ k => mp_of rfl k | exact fun _ k => mp_of rfl (mp_to rfl k)) (fun h k => sat_nil k) k), ?_⟩
      refine useR (.tuple [.int .i64 n, .bool ok]) (rnext_same (locAddr 0 pl) c hp2.few hnx) rfl (fun f' b' hs kb => vec_reads 2 hs kb rfl rfl) rfl ?_
      refine useA [] [_, _] (.tuple [.int .i64 ((((L).find? (fun t => a.id == t.id)).getD T0).at_), .bool ((L).find? (fun t => a.id == t.id)).isSome]) (wdue_spec b now no L hp2 a.id) rfl rfl rfl ?_
      refine useR (.tuple [.int .i64 ((((L).find? (fun t => a.id == t.id)).getD T0).at_), .bool ((L).find? (fun t => a.id == t.id)).isSome]) (rdue_same (locAddr 0 pl) c hp2.ids hp2.few a.id) rfl (fun f' b' hs kb => vec_reads 2 hs kb rfl rfl) rfl ?_
      refine RegOb.go ?_
      refine Br.mk (fun h => absurd h (by simp)) (fun _ => ?_)
      refine Br.mk (fun h => absurd h (by simp)) (fun _ => ?_)
      refine Br.mk (fun h => absurd h (by simp)) (fun _ => ?_)
      refine Br.mk (fun h => absurd h (by simp)) (fun _ => ?_)
      refine useA [] [_, _] (.int .i64 now) (wnow_spec b now no L) rfl rfl rfl ?_
      refine Br.mk (fun h => absurd h (by simp)) (fun _ => ?_)
      refine useA [] [_, _] (.int .i64 (L).length) (wlen_spec b now no L) rfl rfl rfl ?_
      refine CondOb.split (fun h => absurd h (by simp)) (fun _ => ?_)
      exact ⟨⟨(i + 1, now, no, L, pl, c), gi, hp2, hLc, hno2⟩, by show acts.length - (i + 1) < acts.length - i; omega, Le.of rfl ⟨⟨_, rfl, rfl⟩, ⟨_, rfl, rfl⟩, ⟨_, rfl, rfl⟩, ⟨_, rfl, rfl⟩, ⟨_, rfl, congrArg (fun z => some (Value.int .i64 z)) ei⟩, trivial⟩ (fun h k => sat_pick 0 rfl (by first | exact fun _ k => k | exact fun _ k => blk_to rfl rfl k | exact fun _ k => vec_to rfl k | exact fun _ k => blk_of rfl rfl k | exact fun _ k => vec_of rfl k | exact fun _ k => blk_of rfl rfl (blk_to rfl rfl k) | exact fun _ k => vec_of rfl (vec_to rfl k) | exact fun _ k => mp_to rfl k | exact fun _ k => mp_of rfl k | exact fun _ k => mp_of rfl (mp_to rfl k)) (fun h k => sat_pick 1 rfl (by first | exact fun _ k => k | exact fun _ k => blk_to rfl rfl k | exact fun _ k => vec_to rfl k | exact fun _ k => blk_of rfl rfl k | exact fun _ k => vec_of rfl k | exact fun _ k => blk_of rfl rfl (blk_to rfl rfl k) | exact fun _ k => vec_of rfl (vec_to rfl k) | exact fun _ k => mp_to rfl k | exact fun _ k => mp_of rfl k | exact fun _ k => mp_of rfl (mp_to rfl k)) (fun h k => sat_nil k) k) k)⟩
    · refine ⟨.tuple [.sl 2 0 (without a.id L).length c2, .bool (L.find? (fun t => a.id == t.id)).isSome], (2, pl2) :: _, 3, [.vec 2 171 2 c2 (UL.flat ((without a.id L).map T.u))], NmExt.push rfl, rfl, (fun h k => sat_pick 0 rfl (fun _ k => vec_of rfl k) (fun h k => sat_nil k) k), ?_⟩
      refine CondOb.split (fun h => absurd h (by simp)) (fun _ => ?_)
      generalize without a.id L = L2 at *
      refine call_ix (wnext_spec b now no L2) rfl [1] (fun h k => sat_pick 1 rfl (by first | exact fun _ k => k | exact fun _ k => blk_to rfl rfl k | exact fun _ k => vec_to rfl k | exact fun _ k => blk_of rfl rfl k | exact fun _ k => vec_of rfl k | exact fun _ k => blk_of rfl rfl (blk_to rfl rfl k) | exact fun _ k => vec_of rfl (vec_to rfl k) | exact fun _ k => mp_to rfl k | exact fun _ k => mp_of rfl k | exact fun _ k => mp_of rfl (mp_to rfl k)) (fun h k => sat_pick 0 rfl (by first | exact fun _ k => k | exact fun _ k => blk_to rfl rfl k | exact fun _ k => vec_to rfl k | exact fun _ k => blk_of rfl rfl k | exact fun _ k => vec_of rfl k | exact fun _ k => blk_of rfl rfl (blk_to rfl rfl k) | exact fun _ k => vec_of rfl (vec_to rfl k) | exact fun _ k => mp_to rfl k | exact fun _ k => mp_of rfl k | exact fun _ k => mp_of rfl (mp_to rfl k)) (fun h k => sat_pick 0 rfl (by first | exact fun _ k => k | exact fun _ k => blk_to rfl rfl k | exact fun _ k => vec_to rfl k | exact fun _ k => blk_of rfl rfl k | exact fun _ k => vec_of rfl k | exact fun _ k => blk_of rfl rfl (blk_to rfl rfl k) | exact fun _ k => vec_of rfl (vec_to rfl k) | exact fun _ k => mp_to rfl k | exact fun _ k => mp_of rfl k | exact fun _ k => mp_of rfl (mp_to rfl k)) (fun h k => sat_pick 0 rfl (by first | exact fun _ k => k | exact fun _ k => blk_to rfl rfl k | exact fun _ k => vec_to rfl k | exact fun _ k => blk_of rfl rfl k | exact fun _ k => vec_of rfl k | exact fun _ k => blk_of rfl rfl (blk_to rfl rfl k) | exact fun _ k => vec_of rfl (vec_to rfl k) | exact fun _ k => mp_to rfl k | exact fun _ k => mp_of rfl k | exact fun _ k => mp_of rfl (mp_to rfl k)) (fun h k => sat_nil k) k) k) k) k) (fun _ _ _ _ => trivial) ?_
      rintro v post ⟨n, ok, rfl, hnx, rfl⟩
      refine ⟨.tuple [.int .i64 n, .bool ok], _, 3, [.asn (WrA b now no L2)], NmExt.refl _, rfl, (fun h k => sat_pick 0 rfl (by first | exact fun _ k => k | exact fun _ k => blk_to rfl rfl k | exact fun _ k => vec_to rfl k | exact fun _ k => blk_of rfl rfl k | exact fun _ k => vec_of rfl k | exact fun _ k => blk_of rfl rfl (blk_to rfl rfl k) | exact fun _ k => vec_of rfl (vec_to rfl k) | exact fun _ k => mp_to rfl k | exact fun _ k => mp_of rfl k | exact fun _ k => mp_of rfl (mp_to rfl k)) (fun h k => sat_nil k) k), ?_⟩
      refine useR (.tuple [.int .i64 n, .bool ok]) (rnext_same (locAddr 0 pl2) c2 hp2.few hnx) rfl (fun f' b' hs kb => vec_reads 1 hs kb rfl rfl) rfl ?_
      refine useA [] [_, _, _] (.tuple [.int .i64 ((((L2).find? (fun t => a.id == t.id)).getD T0).at_), .bool ((L2).find? (fun t => a.id == t.id)).isSome]) (wdue_spec b now no L2 hp2 a.id) rfl rfl rfl ?_
      refine useR (.tuple [.int .i64 ((((L2).find? (fun t => a.id == t.id)).getD T0).at_), .bool ((L2).find? (fun t => a.id == t.id)).isSome]) (rdue_same (locAddr 0 pl2) c2 hp2.ids hp2.few a.id) rfl (fun f' b' hs kb => vec_reads 1 hs kb rfl rfl) rfl ?_
      refine RegOb.go ?_
      refine Br.mk (fun h => absurd h (by simp)) (fun _ => ?_)
      refine Br.mk (fun h => absurd h (by simp)) (fun _ => ?_)
      refine Br.mk (fun h => absurd h (by simp)) (fun _ => ?_)
      refine Br.mk (fun h => absurd h (by simp)) (fun _ => ?_)
      refine useA [] [_, _, _] (.int .i64 now) (wnow_spec b now no L2) rfl rfl rfl ?_
      refine Br.mk (fun h => absurd h (by simp)) (fun _ => ?_)
      refine useA [] [_, _, _] (.int .i64 (L2).length) (wlen_spec b now no L2) rfl rfl rfl ?_
      refine CondOb.split (fun h => absurd h (by simp)) (fun _ => ?_)
      exact ⟨⟨(i + 1, now, no, L2, pl2, c2), gi, hp2, hc2, hno2⟩, by show acts.length - (i + 1) < acts.length - i; omega, Le.of rfl ⟨⟨_, rfl, rfl⟩, ⟨_, rfl, rfl⟩, ⟨_, rfl, rfl⟩, ⟨_, rfl, rfl⟩, ⟨_, rfl, congrArg (fun z => some (Value.int .i64 z)) ei⟩, trivial⟩ (fun h k => sat_pick 0 rfl (by first | exact fun _ k => k | exact fun _ k => blk_to rfl rfl k | exact fun _ k => vec_to rfl k | exact fun _ k => blk_of rfl rfl k | exact fun _ k => vec_of rfl k | exact fun _ k => blk_of rfl rfl (blk_to rfl rfl k) | exact fun _ k => vec_of rfl (vec_to rfl k) | exact fun _ k => mp_to rfl k | exact fun _ k => mp_of rfl k | exact fun _ k => mp_of rfl (mp_to rfl k)) (fun h k => sat_pick 0 rfl (fun _ k => vec_of rfl (vec_to rfl k)) (fun h k => sat_nil k) k) k)⟩
  refine CondOb.split (fun g2 => ?_) (fun g2 => ?_)
  rotate_left
  · have hp2 := hp
    have hno2 : no ≤ (i + 1 : Nat) := by omega
    refine call_ix (wnext_spec b now no L) rfl [1] (fun h k => sat_pick 1 rfl (by first | exact fun _ k => k | exact fun _ k => blk_to rfl rfl k | exact fun _ k => vec_to rfl k | exact fun _ k => blk_of rfl rfl k | exact fun _ k => vec_of rfl k | exact fun _ k => blk_of rfl rfl (blk_to rfl rfl k) | exact fun _ k => vec_of rfl (vec_to rfl k) | exact fun _ k => mp_to rfl k | exact fun _ k => mp_of rfl k | exact fun _ k => mp_of rfl (mp_to rfl k)) (fun h k => sat_pick 0 rfl (by first | exact fun _ k => k | exact fun _ k => blk_to rfl rfl k | exact fun _ k => vec_to rfl k | exact fun _ k => blk_of rfl rfl k | exact fun _ k => vec_of rfl k | exact fun _ k => blk_of rfl rfl (blk_to rfl rfl k) | exact fun _ k => vec_of rfl (vec_to rfl k) | exact fun _ k => mp_to rfl k | exact fun _ k => mp_of rfl k | exact fun _ k => mp_of rfl (mp_to rfl k)) (fun h k => sat_pick 0 rfl (by first | exact fun _ k => k | exact fun _ k => blk_to rfl rfl k | exact fun _ k => vec_to rfl k | exact fun _ k => blk_of rfl rfl k | exact fun _ k => vec_of rfl k | exact fun _ k => blk_of rfl rfl (blk_to rfl rfl k) | exact fun _ k => vec_of rfl (vec_to rfl k) | exact fun _ k => mp_to rfl k | exact fun _ k => mp_of rfl k | exact fun _ k => mp_of rfl (mp_to rfl k)) (fun h k => sat_nil k) k) k) k) (fun _ _ _ _ => trivial) ?_
    rintro v post ⟨n, ok, rfl, hnx, rfl⟩
    refine ⟨.tuple [.int .i64 n, .bool ok], _, 2, [.asn (WrA b now no L)], NmExt.refl _, rfl, (fun h k => sat_pick 0 rfl (by first | exact fun _ k => k | exact fun _ k => blk_to rfl rfl k | exact fun _ k => vec_to rfl k | exact fun _ k => blk_of rfl rfl k | exact fun _ k => vec_of rfl k | exact fun _ k => blk_of rfl rfl (blk_to rfl rfl k) | exact fun _ k => vec_of rfl (vec_to rfl k) | exact fun _ k => mp_to rfl k | exact fun _ k => mp_of rfl k | exact fun _ k => mp_of rfl (mp_to rfl k)) (fun h k => sat_nil k) k), ?_⟩
    refine useR (.tuple [.int .i64 n, .bool ok]) (rnext_same (locAddr 0 pl) c hp2.few hnx) rfl (fun f' b' hs kb => vec_reads 2 hs kb rfl rfl) rfl ?_
    refine useA [] [_, _] (.tuple [.int .i64 ((((L).find? (fun t => a.id == t.id)).getD T0).at_), .bool ((L).find? (fun t => a.id == t.id)).isSome]) (wdue_spec b now no L hp2 a.id) rfl rfl rfl ?_
    refine useR (.tuple [.int .i64 ((((L).find? (fun t => a.id == t.id)).getD T0).at_), .bool ((L).find? (fun t => a.id == t.id)).isSome]) (rdue_same (locAddr 0 pl) c hp2.ids hp2.few a.id) rfl (fun f' b' hs kb => vec_reads 2 hs kb rfl rfl) rfl ?_
    refine RegOb.go ?_
    refine Br.mk (fun h => absurd h (by simp)) (fun _ => ?_)
    refine Br.mk (fun h => absurd h (by simp)) (fun _ => ?_)
    refine Br.mk (fun h => absurd h (by simp)) (fun _ => ?_)
    refine Br.mk (fun h => absurd h (by simp)) (fun _ => ?_)
    refine useA [] [_, _] (.int .i64 now) (wnow_spec b now no L) rfl rfl rfl ?_
    refine Br.mk (fun h => absurd h (by simp)) (fun _ => ?_)
    refine useA [] [_, _] (.int .i64 (L).length) (wlen_spec b now no L) rfl rfl rfl ?_
    refine CondOb.split (fun h => absurd h (by simp)) (fun _ => ?_)
    exact ⟨⟨(i + 1, now, no, L, pl, c), gi, hp2, hLc, hno2⟩, by show acts.length - (i + 1) < acts.length - i; omega, Le.of rfl ⟨⟨_, rfl, rfl⟩, ⟨_, rfl, rfl⟩, ⟨_, rfl, rfl⟩, ⟨_, rfl, rfl⟩, ⟨_, rfl, congrArg (fun z => some (Value.int .i64 z)) ei⟩, trivial⟩ (fun h k => sat_pick 0 rfl (by first | exact fun _ k => k | exact fun _ k => blk_to rfl rfl k | exact fun _ k => vec_to rfl k | exact fun _ k => blk_of rfl rfl k | exact fun _ k => vec_of rfl k | exact fun _ k => blk_of rfl rfl (blk_to rfl rfl k) | exact fun _ k => vec_of rfl (vec_to rfl k) | exact fun _ k => mp_to rfl k | exact fun _ k => mp_of rfl k | exact fun _ k => mp_of rfl (mp_to rfl k)) (fun h k => sat_pick 1 rfl (by first | exact fun _ k => k | exact fun _ k => blk_to rfl rfl k | exact fun _ k => vec_to rfl k | exact fun _ k => blk_of rfl rfl k | exact fun _ k => vec_of rfl k | exact fun _ k => blk_of rfl rfl (blk_to rfl rfl k) | exact fun _ k => vec_of rfl (vec_to rfl k) | exact fun _ k => mp_to rfl k | exact fun _ k => mp_of rfl k | exact fun _ k => mp_of rfl (mp_to rfl k)) (fun h k => sat_nil k) k) k)⟩
  have hno2 : no ≤ (i + 1 : Nat) := by omega
  by_cases hx0 : a.at_ < now ∨ Top < a.at_
  · refine call_ix (wtick_bad b now no L a.at_ hx0) rfl [1] (fun h k => sat_pick 1 rfl (by first | exact fun _ k => k | exact fun _ k => blk_to rfl rfl k | exact fun _ k => vec_to rfl k | exact fun _ k => blk_of rfl rfl k | exact fun _ k => vec_of rfl k | exact fun _ k => blk_of rfl rfl (blk_to rfl rfl k) | exact fun _ k => vec_of rfl (vec_to rfl k) | exact fun _ k => mp_to rfl k | exact fun _ k => mp_of rfl k | exact fun _ k => mp_of rfl (mp_to rfl k)) (fun h k => sat_pick 0 rfl (by first | exact fun _ k => k | exact fun _ k => blk_to rfl rfl k | exact fun _ k => vec_to rfl k | exact fun _ k => blk_of rfl rfl k | exact fun _ k => vec_of rfl k | exact fun _ k => blk_of rfl rfl (blk_to rfl rfl k) | exact fun _ k => vec_of rfl (vec_to rfl k) | exact fun _ k => mp_to rfl k | exact fun _ k => mp_of rfl k | exact fun _ k => mp_of rfl (mp_to rfl k)) (fun h k => sat_pick 0 rfl (by first | exact fun _ k => k | exact fun _ k => blk_to rfl rfl k | exact fun _ k => vec_to rfl k | exact fun _ k => blk_of rfl rfl k | exact fun _ k => vec_of rfl k | exact fun _ k => blk_of rfl rfl (blk_to rfl rfl k) | exact fun _ k => vec_of rfl (vec_to rfl k) | exact fun _ k => mp_to rfl k | exact fun _ k => mp_of rfl k | exact fun _ k => mp_of rfl (mp_to rfl k)) (fun h k => sat_nil k) k) k) k) (fun _ _ _ _ => trivial) ?_
    rintro v post ⟨rfl, rfl⟩
    refine ⟨.tuple [.raw (.slice none 0 0), .int .i64 8], _, 2, [.asn (WrA b now no L)], NmExt.refl _, rfl, (fun h k => sat_pick 0 rfl (by first | exact fun _ k => k | exact fun _ k => blk_to rfl rfl k | exact fun _ k => vec_to rfl k | exact fun _ k => blk_of rfl rfl k | exact fun _ k => vec_of rfl k | exact fun _ k => blk_of rfl rfl (blk_to rfl rfl k) | exact fun _ k => vec_of rfl (vec_to rfl k) | exact fun _ k => mp_to rfl k | exact fun _ k => mp_of rfl k | exact fun _ k => mp_of rfl (mp_to rfl k)) (fun h k => sat_nil k) k), ?_⟩
    have hx0 : a.at_ < now ∨ 1099511627776 < a.at_ := hx0
    refine RegOb.go ?_
    refine Br.mk (fun h => ?_) (fun h => ?_)
    · refine RegOb.go ?_
      refine Br.mk (fun h => absurd h (by decide)) (fun _ => ?_)
      refine useP (.int .i64 8) (code_spec 8) rfl rfl ?_
      refine CondOb.split (fun h => absurd h (by decide)) (fun _ => ?_)
      exact ⟨⟨(i + 1, now, no, L, pl, c), gi, hp, hLc, hno2⟩, by show acts.length - (i + 1) < acts.length - i; omega, Le.of rfl ⟨⟨_, rfl, rfl⟩, ⟨_, rfl, rfl⟩, ⟨_, rfl, rfl⟩, ⟨_, rfl, rfl⟩, ⟨_, rfl, congrArg (fun z => some (Value.int .i64 z)) ei⟩, trivial⟩ (fun h k => sat_pick 0 rfl (by first | exact fun _ k => k | exact fun _ k => blk_to rfl rfl k | exact fun _ k => vec_to rfl k | exact fun _ k => blk_of rfl rfl k | exact fun _ k => vec_of rfl k | exact fun _ k => blk_of rfl rfl (blk_to rfl rfl k) | exact fun _ k => vec_of rfl (vec_to rfl k) | exact fun _ k => mp_to rfl k | exact fun _ k => mp_of rfl k | exact fun _ k => mp_of rfl (mp_to rfl k)) (fun h k => sat_pick 1 rfl (by first | exact fun _ k => k | exact fun _ k => blk_to rfl rfl k | exact fun _ k => vec_to rfl k | exact fun _ k => blk_of rfl rfl k | exact fun _ k => vec_of rfl k | exact fun _ k => blk_of rfl rfl (blk_to rfl rfl k) | exact fun _ k => vec_of rfl (vec_to rfl k) | exact fun _ k => mp_to rfl k | exact fun _ k => mp_of rfl k | exact fun _ k => mp_of rfl (mp_to rfl k)) (fun h k => sat_nil k) k) k)⟩
    · have h : ¬ a.at_ < now := of_decide_eq_false h
      refine CondOb.split (fun _ => ?_) (fun h2 => absurd (show a.at_ > 1099511627776 by omega) (of_decide_eq_false h2))
      refine RegOb.go ?_
      refine Br.mk (fun h => absurd h (by decide)) (fun _ => ?_)
      refine useP (.int .i64 8) (code_spec 8) rfl rfl ?_
      refine CondOb.split (fun h => absurd h (by decide)) (fun _ => ?_)
      exact ⟨⟨(i + 1, now, no, L, pl, c), gi, hp, hLc, hno2⟩, by show acts.length - (i + 1) < acts.length - i; omega, Le.of rfl ⟨⟨_, rfl, rfl⟩, ⟨_, rfl, rfl⟩, ⟨_, rfl, rfl⟩, ⟨_, rfl, rfl⟩, ⟨_, rfl, congrArg (fun z => some (Value.int .i64 z)) ei⟩, trivial⟩ (fun h k => sat_pick 0 rfl (by first | exact fun _ k => k | exact fun _ k => blk_to rfl rfl k | exact fun _ k => vec_to rfl k | exact fun _ k => blk_of rfl rfl k | exact fun _ k => vec_of rfl k | exact fun _ k => blk_of rfl rfl (blk_to rfl rfl k) | exact fun _ k => vec_of rfl (vec_to rfl k) | exact fun _ k => mp_to rfl k | exact fun _ k => mp_of rfl k | exact fun _ k => mp_of rfl (mp_to rfl k)) (fun h k => sat_pick 1 rfl (by first | exact fun _ k => k | exact fun _ k => blk_to rfl rfl k | exact fun _ k => vec_to rfl k | exact fun _ k => blk_of rfl rfl k | exact fun _ k => vec_of rfl k | exact fun _ k => blk_of rfl rfl (blk_to rfl rfl k) | exact fun _ k => vec_of rfl (vec_to rfl k) | exact fun _ k => mp_to rfl k | exact fun _ k => mp_of rfl k | exact fun _ k => mp_of rfl (mp_to rfl k)) (fun h k => sat_nil k) k) k)⟩
  have x0 : now ≤ a.at_ := by omega
  have x1 : a.at_ ≤ 1099511627776 := by have : ¬ (a.at_ < now ∨ 1099511627776 < a.at_) := hx0; omega
  have hp2 := pl_tick hp x0 x1
  refine call_ix (wtick_spec b now no L hp a.at_ x0 x1) rfl [1] (fun h k => sat_pick 1 rfl (by first | exact fun _ k => k | exact fun _ k => blk_to rfl rfl k | exact fun _ k => vec_to rfl k | exact fun _ k => blk_of rfl rfl k | exact fun _ k => vec_of rfl k | exact fun _ k => blk_of rfl rfl (blk_to rfl rfl k) | exact fun _ k => vec_of rfl (vec_to rfl k) | exact fun _ k => mp_to rfl k | exact fun _ k => mp_of rfl k | exact fun _ k => mp_of rfl (mp_to rfl k)) (fun h k => sat_pick 0 rfl (by first | exact fun _ k => k | exact fun _ k => blk_to rfl rfl k | exact fun _ k => vec_to rfl k | exact fun _ k => blk_of rfl rfl k | exact fun _ k => vec_of rfl k | exact fun _ k => blk_of rfl rfl (blk_to rfl rfl k) | exact fun _ k => vec_of rfl (vec_to rfl k) | exact fun _ k => mp_to rfl k | exact fun _ k => mp_of rfl k | exact fun _ k => mp_of rfl (mp_to rfl k)) (fun h k => sat_pick 0 rfl (by first | exact fun _ k => k | exact fun _ k => blk_to rfl rfl k | exact fun _ k => vec_to rfl k | exact fun _ k => blk_of rfl rfl k | exact fun _ k => vec_of rfl k | exact fun _ k => blk_of rfl rfl (blk_to rfl rfl k) | exact fun _ k => vec_of rfl (vec_to rfl k) | exact fun _ k => mp_to rfl k | exact fun _ k => mp_of rfl k | exact fun _ k => mp_of rfl (mp_to rfl k)) (fun h k => sat_nil k) k) k) k) (fun _ _ _ _ => trivial) ?_
  rintro v post ⟨pl2, c2, l, rfl, ht, hlc, rfl⟩
  refine ⟨.tuple [.sl 2 0 l.length c2, .int .i64 0], (2, pl2) :: _, 3, [.asn (WrA b a.at_ no (ahead a.at_ L)), .vec 2 3 1 c2 (IL.flat (l.map T.id))], NmExt.push rfl, rfl, (fun h k => sat_pick 0 rfl (by first | exact fun _ k => k | exact fun _ k => blk_to rfl rfl k | exact fun _ k => vec_to rfl k | exact fun _ k => blk_of rfl rfl k | exact fun _ k => vec_of rfl k | exact fun _ k => blk_of rfl rfl (blk_to rfl rfl k) | exact fun _ k => vec_of rfl (vec_to rfl k) | exact fun _ k => mp_to rfl k | exact fun _ k => mp_of rfl k | exact fun _ k => mp_of rfl (mp_to rfl k)) (fun h k => sat_pick 0 rfl (fun _ k => vec_of rfl k) (fun h k => sat_nil k) k) k), ?_⟩
  refine RegOb.go ?_
  refine Br.mk (fun h => absurd (show a.at_ < now from of_decide_eq_true h) (by omega)) (fun _ => ?_)
  refine CondOb.split (fun h => absurd (show a.at_ > 1099511627776 from of_decide_eq_true h) (by omega)) (fun _ => ?_)
  refine call_ix (rtick_same pl c hp hLc a.at_) rfl [3] (fun h k => sat_pick 3 rfl (by first | exact fun _ k => k | exact fun _ k => blk_to rfl rfl k | exact fun _ k => vec_to rfl k | exact fun _ k => blk_of rfl rfl k | exact fun _ k => vec_of rfl k | exact fun _ k => blk_of rfl rfl (blk_to rfl rfl k) | exact fun _ k => vec_of rfl (vec_to rfl k) | exact fun _ k => mp_to rfl k | exact fun _ k => mp_of rfl k | exact fun _ k => mp_of rfl (mp_to rfl k)) (fun h k => sat_pick 0 rfl (by first | exact fun _ k => k | exact fun _ k => blk_to rfl rfl k | exact fun _ k => vec_to rfl k | exact fun _ k => blk_of rfl rfl k | exact fun _ k => vec_of rfl k | exact fun _ k => blk_of rfl rfl (blk_to rfl rfl k) | exact fun _ k => vec_of rfl (vec_to rfl k) | exact fun _ k => mp_to rfl k | exact fun _ k => mp_of rfl k | exact fun _ k => mp_of rfl (mp_to rfl k)) (fun h k => sat_pick 0 rfl (by first | exact fun _ k => k | exact fun _ k => blk_to rfl rfl k | exact fun _ k => vec_to rfl k | exact fun _ k => blk_of rfl rfl k | exact fun _ k => vec_of rfl k | exact fun _ k => blk_of rfl rfl (blk_to rfl rfl k) | exact fun _ k => vec_of rfl (vec_to rfl k) | exact fun _ k => mp_to rfl k | exact fun _ k => mp_of rfl k | exact fun _ k => mp_of rfl (mp_to rfl k)) (fun h k => sat_pick 0 rfl (by first | exact fun _ k => k | exact fun _ k => blk_to rfl rfl k | exact fun _ k => vec_to rfl k | exact fun _ k => blk_of rfl rfl k | exact fun _ k => vec_of rfl k | exact fun _ k => blk_of rfl rfl (blk_to rfl rfl k) | exact fun _ k => vec_of rfl (vec_to rfl k) | exact fun _ k => mp_to rfl k | exact fun _ k => mp_of rfl k | exact fun _ k => mp_of rfl (mp_to rfl k)) (fun h k => sat_nil k) k) k) k) k) (fun _ _ _ _ => trivial) ?_
  rintro v post ⟨l2, pl3, c3, pl4, c4, ht2, rfl, hc3, hc4, rfl⟩
  have e := ht.same hp.ord ht2
  subst e
  have hl4 := told_len ht hp.few
  refine ⟨.tuple [.sl 3 0 (ahead a.at_ L).length c3, .sl 4 0 l.length c4], (4, pl4) :: (3, pl3) :: _, 5, [.vec 3 171 2 c3 (UL.flat ((ahead a.at_ L).map T.u)), .vec 4 3 1 c4 (IL.flat (l.map T.id))], (NmExt.push rfl).trans (NmExt.push rfl), rfl, (fun h k => sat_pick 0 rfl (fun _ k => vec_of rfl k) (fun h k => sat_pick 0 rfl (fun _ k => vec_of rfl k) (fun h k => sat_nil k) k) k), ?_⟩
  refine RegOb.go ?_
  have hsm := same_spec (locAddr 0 pl2) (locAddr 0 pl4) c2 c4 (l.map T.id) (l.map T.id) (by rw [List.length_map]; omega)
  rw [List.length_map] at hsm
  refine useR .tt (hsm.mono (Q' := fun v p => v = .bool true ∧ p = []) (by rintro v p ⟨rfl, rfl⟩; simp)) rfl (fun f' b' hs kb => ⟨vec_reads 3 hs kb rfl rfl, vec_reads 1 hs kb rfl rfl⟩) rfl ?_
  refine useP (.int .i64 0) (code_spec 0) rfl rfl ?_
  refine CondOb.split (fun h => absurd h (by decide)) (fun _ => ?_)
  generalize ahead a.at_ L = L2 at *
  refine call_ix (wnext_spec b a.at_ no L2) rfl [2] (fun h k => sat_pick 2 rfl (by first | exact fun _ k => k | exact fun _ k => blk_to rfl rfl k | exact fun _ k => vec_to rfl k | exact fun _ k => blk_of rfl rfl k | exact fun _ k => vec_of rfl k | exact fun _ k => blk_of rfl rfl (blk_to rfl rfl k) | exact fun _ k => vec_of rfl (vec_to rfl k) | exact fun _ k => mp_to rfl k | exact fun _ k => mp_of rfl k | exact fun _ k => mp_of rfl (mp_to rfl k)) (fun h k => sat_pick 0 rfl (by first | exact fun _ k => k | exact fun _ k => blk_to rfl rfl k | exact fun _ k => vec_to rfl k | exact fun _ k => blk_of rfl rfl k | exact fun _ k => vec_of rfl k | exact fun _ k => blk_of rfl rfl (blk_to rfl rfl k) | exact fun _ k => vec_of rfl (vec_to rfl k) | exact fun _ k => mp_to rfl k | exact fun _ k => mp_of rfl k | exact fun _ k => mp_of rfl (mp_to rfl k)) (fun h k => sat_pick 0 rfl (by first | exact fun _ k => k | exact fun _ k => blk_to rfl rfl k | exact fun _ k => vec_to rfl k | exact fun _ k => blk_of rfl rfl k | exact fun _ k => vec_of rfl k | exact fun _ k => blk_of rfl rfl (blk_to rfl rfl k) | exact fun _ k => vec_of rfl (vec_to rfl k) | exact fun _ k => mp_to rfl k | exact fun _ k => mp_of rfl k | exact fun _ k => mp_of rfl (mp_to rfl k)) (fun h k => sat_pick 0 rfl (by first | exact fun _ k => k | exact fun _ k => blk_to rfl rfl k | exact fun _ k => vec_to rfl k | exact fun _ k => blk_of rfl rfl k | exact fun _ k => vec_of rfl k | exact fun _ k => blk_of rfl rfl (blk_to rfl rfl k) | exact fun _ k => vec_of rfl (vec_to rfl k) | exact fun _ k => mp_to rfl k | exact fun _ k => mp_of rfl k | exact fun _ k => mp_of rfl (mp_to rfl k)) (fun h k => sat_pick 0 rfl (by first | exact fun _ k => k | exact fun _ k => blk_to rfl rfl k | exact fun _ k => vec_to rfl k | exact fun _ k => blk_of rfl rfl k | exact fun _ k => vec_of rfl k | exact fun _ k => blk_of rfl rfl (blk_to rfl rfl k) | exact fun _ k => vec_of rfl (vec_to rfl k) | exact fun _ k => mp_to rfl k | exact fun _ k => mp_of rfl k | exact fun _ k => mp_of rfl (mp_to rfl k)) (fun h k => sat_nil k) k) k) k) k) k) (fun _ _ _ _ => trivial) ?_
  rintro v post ⟨n, ok, rfl, hnx, rfl⟩
  refine ⟨.tuple [.int .i64 n, .bool ok], _, 5, [.asn (WrA b a.at_ no L2)], NmExt.refl _, rfl, (fun h k => sat_pick 0 rfl (by first | exact fun _ k => k | exact fun _ k => blk_to rfl rfl k | exact fun _ k => vec_to rfl k | exact fun _ k => blk_of rfl rfl k | exact fun _ k => vec_of rfl k | exact fun _ k => blk_of rfl rfl (blk_to rfl rfl k) | exact fun _ k => vec_of rfl (vec_to rfl k) | exact fun _ k => mp_to rfl k | exact fun _ k => mp_of rfl k | exact fun _ k => mp_of rfl (mp_to rfl k)) (fun h k => sat_nil k) k), ?_⟩
  refine useR (.tuple [.int .i64 n, .bool ok]) (rnext_same (locAddr 0 pl3) c3 hp2.few hnx) rfl (fun f' b' hs kb => vec_reads 1 hs kb rfl rfl) rfl ?_
  refine useA [] [_, _, _, _] (.tuple [.int .i64 ((((L2).find? (fun t => a.id == t.id)).getD T0).at_), .bool ((L2).find? (fun t => a.id == t.id)).isSome]) (wdue_spec b a.at_ no L2 hp2 a.id) rfl rfl rfl ?_
  refine useR (.tuple [.int .i64 ((((L2).find? (fun t => a.id == t.id)).getD T0).at_), .bool ((L2).find? (fun t => a.id == t.id)).isSome]) (rdue_same (locAddr 0 pl3) c3 hp2.ids hp2.few a.id) rfl (fun f' b' hs kb => vec_reads 1 hs kb rfl rfl) rfl ?_
  refine RegOb.go ?_
  refine Br.mk (fun h => absurd h (by simp)) (fun _ => ?_)
  refine Br.mk (fun h => absurd h (by simp)) (fun _ => ?_)
  refine Br.mk (fun h => absurd h (by simp)) (fun _ => ?_)
  refine Br.mk (fun h => absurd h (by simp)) (fun _ => ?_)
  refine useA [] [_, _, _, _] (.int .i64 a.at_) (wnow_spec b a.at_ no L2) rfl rfl rfl ?_
  refine Br.mk (fun h => absurd h (by simp)) (fun _ => ?_)
  refine useA [] [_, _, _, _] (.int .i64 (L2).length) (wlen_spec b a.at_ no L2) rfl rfl rfl ?_
  refine CondOb.split (fun h => absurd h (by simp)) (fun _ => ?_)
  exact ⟨⟨(i + 1, a.at_, no, L2, pl3, c3), gi, hp2, hc3, hno2⟩, by show acts.length - (i + 1) < acts.length - i; omega, Le.of rfl ⟨⟨_, rfl, rfl⟩, ⟨_, rfl, rfl⟩, ⟨_, rfl, rfl⟩, ⟨_, rfl, rfl⟩, ⟨_, rfl, congrArg (fun z => some (Value.int .i64 z)) ei⟩, trivial⟩ (fun h k => sat_pick 0 rfl (by first | exact fun _ k => k | exact fun _ k => blk_to rfl rfl k | exact fun _ k => vec_to rfl k | exact fun _ k => blk_of rfl rfl k | exact fun _ k => vec_of rfl k | exact fun _ k => blk_of rfl rfl (blk_to rfl rfl k) | exact fun _ k => vec_of rfl (vec_to rfl k) | exact fun _ k => mp_to rfl k | exact fun _ k => mp_of rfl k | exact fun _ k => mp_of rfl (mp_to rfl k)) (fun h k => sat_pick 0 rfl (fun _ k => vec_of rfl (vec_to rfl k)) (fun h k => sat_nil k) k) k)⟩
end Go.Proofs.Ytiknkeakielncaa.Wh
