/- audit: an entry is looked up. Conditions: none. -/
import Derived.Test.YtlgdagjbphafcaaAuI
namespace Go.Proofs.Ytlgdagjbphafcaa.Au
open Go Go.Proofs Sx
set_option maxRecDepth 100000
set_option linter.unusedVariables false
set_option linter.unusedSimpArgs false
set_option maxHeartbeats 4000000

/-- The heap of a book, one context's list set apart. -/
def hpK (p1 : List P) (p : P) (p2 : List P) (zs : List Z) : List Ent :=
  [.blk 0 145 [.map 1], .mp 1 K2 ((p1 ++ p :: p2).map (P.key zs)), .vec 2 182 1 p.cap (PLy.flat (ids zs p.h p.c)), .asn (Alls (p1.map (P.vec zs) ++ p2.map (P.vec zs))), .asn (Blks (zs.map zblk))]
def nmK (rb mb : Nat) (p : P) : List (Nat × Plc) := [(0, .at rb 0), (1, .at mb 0), (2, p.pl)]
theorem vec_at2 {rb mb : Nat} {p : P} {zs : List Z} {h : HP} (k : P.vec zs p h) : entDen (nmK rb mb p) (.vec 2 182 1 p.cap (PLy.flat (ids zs p.h p.c))) h :=
  vec_of (nm := nmK rb mb p) (n := 2) (l := p.pl) rfl k
theorem mp_at1 {rb mb : Nat} {p : P} {l : List (List Int × Value)} {h : HP} (k : MapA mb K2 l h) : entDen (nmK rb mb p) (.mp 1 K2 l) h :=
  mp_of (nm := nmK rb mb p) (n := 1) rfl k
theorem blk_at0 {rb mb : Nat} {p : P} {h : HP} (k : pt rb (.cells #[.map (some mb)] 145 (0, 0)) h) : entDen (nmK rb mb p) (.blk 0 145 [.map 1]) h :=
  blk_of (nm := nmK rb mb p) (n := 0) rfl rfl k
theorem bk_open {rb mb : Nat} {p1 p2 : List P} {p : P} {zs : List Z} (h : HP) (k : sat (Bk rb mb (p1 ++ p :: p2) zs) h) : sat ((hpK p1 p p2 zs).map (entDen (nmK rb mb p))) h := by
  have k1 : sat [Alls (p1.map (P.vec zs) ++ P.vec zs p :: p2.map (P.vec zs)), pt rb (.cells #[.map (some mb)] 145 (0, 0)), MapA mb K2 ((p1 ++ p :: p2).map (P.key zs)), Blks (zs.map zblk)] h := by
    have e : p1.map (P.vec zs) ++ P.vec zs p :: p2.map (P.vec zs) = (p1 ++ p :: p2).map (P.vec zs) := by simp
    rw [e]
    exact (fun h k => sat_pick 2 rfl (by first | exact fun _ k => k | exact fun _ k => blk_to rfl rfl k | exact fun _ k => vec_to rfl k | exact fun _ k => blk_of rfl rfl k | exact fun _ k => vec_of rfl k | exact fun _ k => blk_of rfl rfl (blk_to rfl rfl k) | exact fun _ k => vec_of rfl (vec_to rfl k) | exact fun _ k => mp_to rfl k | exact fun _ k => mp_of rfl k | exact fun _ k => mp_of rfl (mp_to rfl k)) (fun h k => sat_pick 0 rfl (by first | exact fun _ k => k | exact fun _ k => blk_to rfl rfl k | exact fun _ k => vec_to rfl k | exact fun _ k => blk_of rfl rfl k | exact fun _ k => vec_of rfl k | exact fun _ k => blk_of rfl rfl (blk_to rfl rfl k) | exact fun _ k => vec_of rfl (vec_to rfl k) | exact fun _ k => mp_to rfl k | exact fun _ k => mp_of rfl k | exact fun _ k => mp_of rfl (mp_to rfl k)) (fun h k => sat_pick 0 rfl (by first | exact fun _ k => k | exact fun _ k => blk_to rfl rfl k | exact fun _ k => vec_to rfl k | exact fun _ k => blk_of rfl rfl k | exact fun _ k => vec_of rfl k | exact fun _ k => blk_of rfl rfl (blk_to rfl rfl k) | exact fun _ k => vec_of rfl (vec_to rfl k) | exact fun _ k => mp_to rfl k | exact fun _ k => mp_of rfl k | exact fun _ k => mp_of rfl (mp_to rfl k)) (fun h k => sat_pick 0 rfl (by first | exact fun _ k => k | exact fun _ k => blk_to rfl rfl k | exact fun _ k => vec_to rfl k | exact fun _ k => blk_of rfl rfl k | exact fun _ k => vec_of rfl k | exact fun _ k => blk_of rfl rfl (blk_to rfl rfl k) | exact fun _ k => vec_of rfl (vec_to rfl k) | exact fun _ k => mp_to rfl k | exact fun _ k => mp_of rfl k | exact fun _ k => mp_of rfl (mp_to rfl k)) (fun h k => sat_nil k) k) k) k) k) h k
  have k2 := alls_out k1
  show sat [entDen (nmK rb mb p) (.blk 0 145 [.map 1]), entDen (nmK rb mb p) (.mp 1 K2 ((p1 ++ p :: p2).map (P.key zs))), entDen (nmK rb mb p) (.vec 2 182 1 p.cap (PLy.flat (ids zs p.h p.c))), Alls (p1.map (P.vec zs) ++ p2.map (P.vec zs)), Blks (zs.map zblk)] h
  exact (fun h k => sat_pick 2 rfl (fun _ k => blk_at0 k) (fun h k => sat_pick 2 rfl (fun _ k => mp_at1 k) (fun h k => sat_pick 0 rfl (fun _ k => vec_at2 k) (fun h k => sat_pick 0 rfl (by first | exact fun _ k => k | exact fun _ k => blk_to rfl rfl k | exact fun _ k => vec_to rfl k | exact fun _ k => blk_of rfl rfl k | exact fun _ k => vec_of rfl k | exact fun _ k => blk_of rfl rfl (blk_to rfl rfl k) | exact fun _ k => vec_of rfl (vec_to rfl k) | exact fun _ k => mp_to rfl k | exact fun _ k => mp_of rfl k | exact fun _ k => mp_of rfl (mp_to rfl k)) (fun h k => sat_pick 0 rfl (by first | exact fun _ k => k | exact fun _ k => blk_to rfl rfl k | exact fun _ k => vec_to rfl k | exact fun _ k => blk_of rfl rfl k | exact fun _ k => vec_of rfl k | exact fun _ k => blk_of rfl rfl (blk_to rfl rfl k) | exact fun _ k => vec_of rfl (vec_to rfl k) | exact fun _ k => mp_to rfl k | exact fun _ k => mp_of rfl k | exact fun _ k => mp_of rfl (mp_to rfl k)) (fun h k => sat_nil k) k) k) k) k) k) h k2
theorem bk_shut {rb mb : Nat} {p1 p2 : List P} {p : P} {zs : List Z} (h : HP) (k : sat [pt rb (.cells #[.map (some mb)] 145 (0, 0)), MapA mb K2 ((p1 ++ p :: p2).map (P.key zs)), P.vec zs p, Alls (p1.map (P.vec zs) ++ p2.map (P.vec zs)), Blks (zs.map zblk)] h) : sat (Bk rb mb (p1 ++ p :: p2) zs) h := by
  have e : (p1 ++ p :: p2).map (P.vec zs) = p1.map (P.vec zs) ++ P.vec zs p :: p2.map (P.vec zs) := by simp
  unfold Bk
  rw [e]
  exact (fun h k => sat_pick 0 rfl (by first | exact fun _ k => k | exact fun _ k => blk_to rfl rfl k | exact fun _ k => vec_to rfl k | exact fun _ k => blk_of rfl rfl k | exact fun _ k => vec_of rfl k | exact fun _ k => blk_of rfl rfl (blk_to rfl rfl k) | exact fun _ k => vec_of rfl (vec_to rfl k) | exact fun _ k => mp_to rfl k | exact fun _ k => mp_of rfl k | exact fun _ k => mp_of rfl (mp_to rfl k)) (fun h k => sat_pick 0 rfl (by first | exact fun _ k => k | exact fun _ k => blk_to rfl rfl k | exact fun _ k => vec_to rfl k | exact fun _ k => blk_of rfl rfl k | exact fun _ k => vec_of rfl k | exact fun _ k => blk_of rfl rfl (blk_to rfl rfl k) | exact fun _ k => vec_of rfl (vec_to rfl k) | exact fun _ k => mp_to rfl k | exact fun _ k => mp_of rfl k | exact fun _ k => mp_of rfl (mp_to rfl k)) (fun h k => sat_pick2 0 0 rfl rfl alls_in (fun h k => sat_pick 0 rfl (by first | exact fun _ k => k | exact fun _ k => blk_to rfl rfl k | exact fun _ k => vec_to rfl k | exact fun _ k => blk_of rfl rfl k | exact fun _ k => vec_of rfl k | exact fun _ k => blk_of rfl rfl (blk_to rfl rfl k) | exact fun _ k => vec_of rfl (vec_to rfl k) | exact fun _ k => mp_to rfl k | exact fun _ k => mp_of rfl k | exact fun _ k => mp_of rfl (mp_to rfl k)) (fun h k => sat_nil k) k) k) k) k) h k
theorem split_of {ps : List P} (nd : (ps.map (fun p => (p.h, p.c))).Nodup) {h c : Int} (hp : ∃ p ∈ ps, p.h = h ∧ p.c = c) : ∃ p1 p p2, ps = p1 ++ p :: p2 ∧ p.h = h ∧ p.c = c ∧ (∀ q ∈ p1, ¬ (q.h = p.h ∧ q.c = p.c)) ∧ (∀ q ∈ p2, ¬ (q.h = p.h ∧ q.c = p.c)) := by
  obtain ⟨p, hm, h1, h2⟩ := hp
  obtain ⟨p1, p2, rfl⟩ := List.append_of_mem hm
  rw [List.map_append, List.map_cons] at nd
  obtain ⟨n1, n2, n3⟩ := List.nodup_append.1 nd
  refine ⟨p1, p, p2, rfl, h1, h2, fun q hq e => ?_, fun q hq e => ?_⟩
  · exact n3 (q.h, q.c) (List.mem_map.2 ⟨q, hq, rfl⟩) (p.h, p.c) (by simp) (by rw [e.1, e.2])
  · exact (List.nodup_cons.1 n2).1 (List.mem_map.2 ⟨q, hq, by rw [e.1, e.2]⟩)
theorem of_spec (rb mb : Nat) (ps : List P) (zs : List Z) (m : M) (I : Inv ps zs) :
    Does Try.prog 103 #[.pointer (some ⟨rb, 0, none⟩), .agg m.vals.toArray] (fun _ => True) (Bk rb mb ps zs)
      (fun v q => ((v = .pointer none ∧ ∀ x ∈ zs.map (·.1), hit m.host m.ctx m.ticket x = false) ∨ ∃ z ∈ zs, hit m.host m.ctx m.ticket z.1 = true ∧ v = .pointer (some ⟨z.2.1, 0, none⟩)) ∧ q = Bk rb mb ps zs) := by
  by_cases hp : ∃ p ∈ ps, p.h = m.host ∧ p.c = m.ctx
  · obtain ⟨p1, p, p2, rfl, e1, e2, n1, n2⟩ := split_of I.nd hp
    have hpm : p ∈ p1 ++ p :: p2 := by simp
    obtain ⟨b0, o0, hat⟩ := I.at_ p hpm
    refine Does.ofJ Try.func103 Try.call103 rfl [.ptr 0 0, .agg m.svs] (nmK rb mb p) 3 (hpK p1 p p2 zs) rfl rfl bk_open (fun f hR => ?_)
    intro b1
    generalize hn : (ids zs p.h p.c).length = n
    have hn1 : n ≤ 10000 := by
      rw [← hn]; unfold ids; rw [List.length_map]
      have := List.length_filter_le (fun z : Z => placed p.h p.c z.1) zs
      have := I.few
      omega
    refine DrawOb.mk [] (.run [0, 1, 2, 3, 4, 5, 6, 7, 8, 9, 10] .nil) (by kernel_rfl) ?_
    refine Need.mk keys_law ?_
    refine LkOb.hit _ (.sl 2 0 n p.cap) (show findL [m.host, m.ctx] _ = some (P.key zs p).2 from by rw [← e1, ← e2]; exact find_split n1) ?_ ?_
    · show some (Value.slice (locAddr 0 p.pl) n p.cap) = some (Value.slice (locAddr 0 p.pl) (ids zs p.h p.c).length p.cap)
      rw [hn]
    refine RegOb.join Unit (fun _ => ⟨31, [(3, .ptr 3 0), (5, .sl 2 0 n p.cap), (25, .bool (decide (m.ticket < 0) || decide (m.ticket ≥ n)))], (3, .at b1 0) :: nmK rb mb p, 4, .blk 3 141 m.svs :: hpK p1 p p2 zs⟩) ?_ (fun _ => ?_)
    · refine Br.mk (fun h => ?_) (fun h => ?_)
      · refine ⟨(), Le.of rfl ⟨⟨_, rfl, rfl⟩, ⟨_, rfl, rfl⟩, ⟨_, rfl, (congrArg (fun x => some (Value.bool x)) (by rw [h]; rfl))⟩, trivial⟩ (fun h k => k)⟩
      · exact ⟨(), Le.of rfl ⟨⟨_, rfl, rfl⟩, ⟨_, rfl, rfl⟩, ⟨_, rfl, (congrArg (fun x => some (Value.bool x)) (by rw [h]; rfl))⟩, trivial⟩ (fun h k => k)⟩
    refine CondOb.split (fun g => ?_) (fun g => ?_)
    · refine FinOb.mk _ (Bk rb mb (p1 ++ p :: p2) zs) rfl (fun h k => bk_shut h ((fun h k => sat_pick 1 rfl (fun _ k => blk_to rfl rfl k) (fun h k => sat_pick 1 rfl (fun _ k => mp_to rfl k) (fun h k => sat_pick 1 rfl (fun _ k => vec_to (l := p.pl) rfl k) (fun h k => sat_pick 1 rfl (by first | exact fun _ k => k | exact fun _ k => blk_to rfl rfl k | exact fun _ k => vec_to rfl k | exact fun _ k => blk_of rfl rfl k | exact fun _ k => vec_of rfl k | exact fun _ k => blk_of rfl rfl (blk_to rfl rfl k) | exact fun _ k => vec_of rfl (vec_to rfl k) | exact fun _ k => mp_to rfl k | exact fun _ k => mp_of rfl k | exact fun _ k => mp_of rfl (mp_to rfl k)) (fun h k => sat_pick 1 rfl (by first | exact fun _ k => k | exact fun _ k => blk_to rfl rfl k | exact fun _ k => vec_to rfl k | exact fun _ k => blk_of rfl rfl k | exact fun _ k => vec_of rfl k | exact fun _ k => blk_of rfl rfl (blk_to rfl rfl k) | exact fun _ k => vec_of rfl (vec_to rfl k) | exact fun _ k => mp_to rfl k | exact fun _ k => mp_of rfl k | exact fun _ k => mp_of rfl (mp_to rfl k)) (fun h k => sat_nil k) k) k) k) k) k) h k)) ⟨.inl ⟨rfl, ?_⟩, rfl⟩
      rw [← e1, ← e2]
      refine no_hit I.wf ?_
      rw [hn]
      simpa using g
    have g9 : 0 ≤ m.ticket ∧ m.ticket < n := by simp at g; omega
    obtain ⟨z, hz⟩ : ∃ z, (zs.filter (fun z => placed p.h p.c z.1))[m.ticket.toNat]? = some z := by
      have hl : (zs.filter (fun z => placed p.h p.c z.1)).length = n := by rw [← hn]; unfold ids; rw [List.length_map]
      exact ⟨_, List.getElem?_eq_getElem (by omega)⟩
    obtain ⟨hzm, hzh⟩ := place_ticket I.wf hz
    have et : ((m.ticket.toNat : Nat) : Int) = m.ticket := by omega
    rw [et] at hzh
    have hid : (ids zs p.h p.c)[m.ticket.toNat]? = some z.2.1 := by unfold ids; rw [List.getElem?_map, hz]; rfl
    have hcell : (PLy.flat (ids zs p.h p.c))[0 + m.ticket.toNat * 1]? = some (.pointer (some ⟨z.2.1, 0, none⟩)) := by
      have := PLy.flat_at hid (j := 0) (v := .pointer (some ⟨z.2.1, 0, none⟩)) rfl
      rw [← this]; congr 1; simp [PLy]
    rw [nmK, hat]
    refine Need.mk g9 ?_
    refine RdOb.mk (.raw (.pointer (some ⟨z.2.1, 0, none⟩))) _ rfl hcell ?_
    refine FinOb.mk _ (Bk rb mb (p1 ++ p :: p2) zs) rfl (fun h k => bk_shut h ((fun h k => sat_pick 1 rfl (fun _ k => blk_to rfl rfl k) (fun h k => sat_pick 1 rfl (fun _ k => mp_to rfl k) (fun h k => sat_pick 1 rfl (fun _ k => ?_) (fun h k => sat_pick 1 rfl (by first | exact fun _ k => k | exact fun _ k => blk_to rfl rfl k | exact fun _ k => vec_to rfl k | exact fun _ k => blk_of rfl rfl k | exact fun _ k => vec_of rfl k | exact fun _ k => blk_of rfl rfl (blk_to rfl rfl k) | exact fun _ k => vec_of rfl (vec_to rfl k) | exact fun _ k => mp_to rfl k | exact fun _ k => mp_of rfl k | exact fun _ k => mp_of rfl (mp_to rfl k)) (fun h k => sat_pick 1 rfl (by first | exact fun _ k => k | exact fun _ k => blk_to rfl rfl k | exact fun _ k => vec_to rfl k | exact fun _ k => blk_of rfl rfl k | exact fun _ k => vec_of rfl k | exact fun _ k => blk_of rfl rfl (blk_to rfl rfl k) | exact fun _ k => vec_of rfl (vec_to rfl k) | exact fun _ k => mp_to rfl k | exact fun _ k => mp_of rfl k | exact fun _ k => mp_of rfl (mp_to rfl k)) (fun h k => sat_nil k) k) k) k) k) k) h k)) ⟨.inr ⟨z, hzm, by rw [← e1, ← e2]; exact hzh, rfl⟩, rfl⟩
    unfold P.vec
    rw [hat]
    exact vec_to (l := .at b0 o0) rfl k
  · have hp : ∀ p ∈ ps, ¬ (p.h = m.host ∧ p.c = m.ctx) := fun p hm e => hp ⟨p, hm, e⟩
    have hno : ∀ x ∈ zs.map (·.1), hit m.host m.ctx m.ticket x = false := fun x hx => by
      cases hh : hit m.host m.ctx m.ticket x with
      | false => rfl
      | true =>
        obtain ⟨z, hz, rfl⟩ := List.mem_map.1 hx
        obtain ⟨q, hq, e1, e2⟩ := I.cover z hz
        obtain ⟨r1, r2, _⟩ := hit_iff.1 hh
        exact absurd ⟨by rw [e1, r1], by rw [e2, r2]⟩ (hp q hq)
    refine Does.ofJ Try.func103 Try.call103 rfl [.ptr 0 0, .agg m.svs] [(0, .at rb 0), (1, .at mb 0)] 2 [.blk 0 145 [.map 1], .mp 1 K2 (ps.map (P.key zs)), .asn (Alls (ps.map (P.vec zs))), .asn (Blks (zs.map zblk))] rfl rfl (fun h k => sat_pick 0 rfl (fun _ k => blk_of rfl rfl k) (fun h k => sat_pick 0 rfl (fun _ k => mp_of rfl k) (fun h k => sat_pick 0 rfl (by first | exact fun _ k => k | exact fun _ k => blk_to rfl rfl k | exact fun _ k => vec_to rfl k | exact fun _ k => blk_of rfl rfl k | exact fun _ k => vec_of rfl k | exact fun _ k => blk_of rfl rfl (blk_to rfl rfl k) | exact fun _ k => vec_of rfl (vec_to rfl k) | exact fun _ k => mp_to rfl k | exact fun _ k => mp_of rfl k | exact fun _ k => mp_of rfl (mp_to rfl k)) (fun h k => sat_pick 0 rfl (by first | exact fun _ k => k | exact fun _ k => blk_to rfl rfl k | exact fun _ k => vec_to rfl k | exact fun _ k => blk_of rfl rfl k | exact fun _ k => vec_of rfl k | exact fun _ k => blk_of rfl rfl (blk_to rfl rfl k) | exact fun _ k => vec_of rfl (vec_to rfl k) | exact fun _ k => mp_to rfl k | exact fun _ k => mp_of rfl k | exact fun _ k => mp_of rfl (mp_to rfl k)) (fun h k => sat_nil k) k) k) k) k) (fun f hR => ?_)
    intro b1
    refine DrawOb.mk [] (.run [0, 1, 2, 3, 4, 5, 6, 7, 8, 9, 10] .nil) (by kernel_rfl) ?_
    refine Need.mk keys_law ?_
    refine LkOb.miss (find_none hp) ?_
    refine RegOb.go ?_
    refine Br.mk (fun h => ?_) (fun h => ?_)
    · exact FinOb.mk _ (Bk rb mb ps zs) rfl (fun h k => sat_pick 1 rfl (fun _ k => blk_to rfl rfl k) (fun h k => sat_pick 1 rfl (fun _ k => mp_to rfl k) (fun h k => sat_pick 1 rfl (by first | exact fun _ k => k | exact fun _ k => blk_to rfl rfl k | exact fun _ k => vec_to rfl k | exact fun _ k => blk_of rfl rfl k | exact fun _ k => vec_of rfl k | exact fun _ k => blk_of rfl rfl (blk_to rfl rfl k) | exact fun _ k => vec_of rfl (vec_to rfl k) | exact fun _ k => mp_to rfl k | exact fun _ k => mp_of rfl k | exact fun _ k => mp_of rfl (mp_to rfl k)) (fun h k => sat_pick 1 rfl (by first | exact fun _ k => k | exact fun _ k => blk_to rfl rfl k | exact fun _ k => vec_to rfl k | exact fun _ k => blk_of rfl rfl k | exact fun _ k => vec_of rfl k | exact fun _ k => blk_of rfl rfl (blk_to rfl rfl k) | exact fun _ k => vec_of rfl (vec_to rfl k) | exact fun _ k => mp_to rfl k | exact fun _ k => mp_of rfl k | exact fun _ k => mp_of rfl (mp_to rfl k)) (fun h k => sat_nil k) k) k) k) k) ⟨.inl ⟨rfl, hno⟩, rfl⟩
    refine CondOb.split (fun g => ?_) (fun g => absurd g (by simp at h ⊢; omega))
    exact FinOb.mk _ (Bk rb mb ps zs) rfl (fun h k => sat_pick 1 rfl (fun _ k => blk_to rfl rfl k) (fun h k => sat_pick 1 rfl (fun _ k => mp_to rfl k) (fun h k => sat_pick 1 rfl (by first | exact fun _ k => k | exact fun _ k => blk_to rfl rfl k | exact fun _ k => vec_to rfl k | exact fun _ k => blk_of rfl rfl k | exact fun _ k => vec_of rfl k | exact fun _ k => blk_of rfl rfl (blk_to rfl rfl k) | exact fun _ k => vec_of rfl (vec_to rfl k) | exact fun _ k => mp_to rfl k | exact fun _ k => mp_of rfl k | exact fun _ k => mp_of rfl (mp_to rfl k)) (fun h k => sat_pick 1 rfl (by first | exact fun _ k => k | exact fun _ k => blk_to rfl rfl k | exact fun _ k => vec_to rfl k | exact fun _ k => blk_of rfl rfl k | exact fun _ k => vec_of rfl k | exact fun _ k => blk_of rfl rfl (blk_to rfl rfl k) | exact fun _ k => vec_of rfl (vec_to rfl k) | exact fun _ k => mp_to rfl k | exact fun _ k => mp_of rfl k | exact fun _ k => mp_of rfl (mp_to rfl k)) (fun h k => sat_nil k) k) k) k) k) ⟨.inl ⟨rfl, hno⟩, rfl⟩
end Go.Proofs.Ytlgdagjbphafcaa.Au
