/- audit: an entry is taken: the walk. Conditions: none. -/
import Derived.Test.YtlgdagjbphafcaaAuK
namespace Go.Proofs.Ytlgdagjbphafcaa.Au
open Go Go.Proofs Sx
set_option maxRecDepth 100000
set_option linter.unusedVariables false
set_option linter.unusedSimpArgs false
set_option maxHeartbeats 4000000

theorem ptook_spec (rb mb : Nat) (ps : List P) (zs : List Z) (m : M) (I : Inv ps zs) (hm : m.Ok) (few : zs.length < 10000) :
    Does Try.prog 102 #[.pointer (some ⟨rb, 0, none⟩), .agg m.vals.toArray] (fun _ => True) (Bk rb mb ps zs)
      (fun v q => match took (zs.map (·.1)) m with
        | none => v = .bool false ∧ q = []
        | some l' => v = .bool true ∧ ∃ ps' zs', zs'.map (·.1) = l' ∧ Inv ps' zs' ∧ q = Bk rb mb ps' zs') := by
  by_cases hp : ∃ p ∈ ps, p.h = m.host ∧ p.c = m.ctx
  · obtain ⟨p1, p, p2, rfl, e1, e2, n1, n2⟩ := split_of I.nd hp
    have hpm : p ∈ p1 ++ p :: p2 := by simp
    obtain ⟨b0, o0, hat⟩ := I.at_ p hpm
    refine Does.ofJ Try.func102 Try.call102 rfl [.ptr 0 0, .agg m.svs] (nmK rb mb p) 3 (hpK p1 p p2 zs) rfl rfl bk_open (fun f hR => ?_)
    intro b1 b2
    generalize hn : (ids zs p.h p.c).length = n
    have hn0 : n ≠ 0 := fun h => I.some p hpm (List.length_eq_zero_iff.1 (by omega))
    have hn1 : n ≤ 10000 := by
      rw [← hn]; unfold ids; rw [List.length_map]
      have := List.length_filter_le (fun z : Z => placed p.h p.c z.1) zs
      have := I.few
      omega
    have hcp : n ≤ p.cap := by rw [← hn]; exact I.cap p hpm
    have hcount : count (zs.map (·.1)) m.host m.ctx = n := by rw [← ids_length, ← e1, ← e2, hn]
    refine DrawOb.mk [] (.run [0, 1, 2, 3, 4, 5, 6] .nil) (by kernel_rfl) ?_
    refine Need.mk keys_law ?_
    refine LkOb.hit _ (.sl 2 0 n p.cap) (show findL [m.host, m.ctx] _ = some (P.key zs p).2 from by rw [← e1, ← e2]; exact find_split n1) ?_ ?_
    · show some (Value.slice (locAddr 0 p.pl) n p.cap) = some (Value.slice (locAddr 0 p.pl) (ids zs p.h p.c).length p.cap)
      rw [hn]
    refine RegOb.join Unit (fun _ => ⟨73, [(0, .ptr 0 0), (3, .ptr 3 0), (5, .ptr 4 0), (6, .sl 2 0 n p.cap), (33, .bool (m.ticket != n))], (4, .at b2 0) :: (3, .at b1 0) :: nmK rb mb p, 5, .blk 4 196 [.int .i64 m.host, .int .i64 m.ctx] :: .blk 3 141 m.svs :: hpK p1 p p2 zs⟩) ?_ (fun _ => ?_)
    · refine Br.mk (fun h => ?_) (fun h => ?_)
      · exact ⟨(), Le.of rfl ⟨⟨_, rfl, rfl⟩, ⟨_, rfl, rfl⟩, ⟨_, rfl, rfl⟩, ⟨_, rfl, rfl⟩, ⟨_, rfl, (congrArg (fun x => some (Value.bool x)) (by rw [h]))⟩, trivial⟩ (fun h k => k)⟩
      refine Br.mk (fun h2 => ?_) (fun h2 => ?_)
      · exact ⟨(), Le.of rfl ⟨⟨_, rfl, rfl⟩, ⟨_, rfl, rfl⟩, ⟨_, rfl, rfl⟩, ⟨_, rfl, rfl⟩, ⟨_, rfl, (congrArg (fun x => some (Value.bool x)) (by rw [h]; simpa using hn0))⟩, trivial⟩ (fun h k => k)⟩
      · exact ⟨(), Le.of rfl ⟨⟨_, rfl, rfl⟩, ⟨_, rfl, rfl⟩, ⟨_, rfl, rfl⟩, ⟨_, rfl, rfl⟩, ⟨_, rfl, (congrArg (fun x => some (Value.bool x)) (by rw [h]))⟩, trivial⟩ (fun h k => k)⟩
    refine CondOb.split (fun g => ?_) (fun g => ?_)
    · have g : ¬ m.ticket = (n : Int) := by simpa using g
      have e : took (zs.map (·.1)) m = none := by unfold took; rw [hcount, if_neg g]
      rw [e]
      exact FinOb.mk _ [] rfl (fun h k => trivial) ⟨rfl, rfl⟩
    have g : m.ticket = (n : Int) := by simpa using g
    intro nb
    obtain ⟨z0, hz0⟩ : ∃ z, (zs.filter (fun z => placed p.h p.c z.1))[n - 1]? = some z := by
      have hl : (zs.filter (fun z => placed p.h p.c z.1)).length = n := by rw [← hn]; unfold ids; rw [List.length_map]
      exact ⟨_, List.getElem?_eq_getElem (by omega)⟩
    obtain ⟨hzm, hzh⟩ := place_ticket I.wf hz0
    have hzb : sblk z0.2.1 z0.1 z0.2.2 ∈ zs.map zblk := List.mem_map.2 ⟨z0, hzm, rfl⟩
    have hzx : z0.1 ∈ zs.map (·.1) := List.mem_map.2 ⟨z0, hzm, rfl⟩
    have hqz := I.wf.qs z0.1 hzx
    obtain ⟨iz, hiz, eiz⟩ := List.getElem_of_mem hzx
    have hlook : look (zs.map (·.1)) m.host m.ctx (m.ticket - 1) = some z0.1 := by
      refine look_of I.wf.uq (i := iz) (by rw [List.getElem?_eq_getElem hiz, eiz]) ?_
      rw [← e1, ← e2, g]
      rw [show ((n : Int) - 1) = ((n - 1 : Nat) : Int) by omega]
      exact hzh
    have ew : IntKind.i64.wrap ((n : Int) - 1) = ((n - 1 : Nat) : Int) := by rw [w64 (by omega) (by omega)]; omega
    have hid : (ids zs p.h p.c)[n - 1]? = some z0.2.1 := by unfold ids; rw [List.getElem?_map, hz0]; rfl
    have hcell : (PLy.flat (ids zs p.h p.c))[0 + (IntKind.i64.wrap ((n : Int) - 1)).toNat * 1]? = some (.pointer (some ⟨z0.2.1, 0, none⟩)) := by
      have := PLy.flat_at hid (j := 0) (v := .pointer (some ⟨z0.2.1, 0, none⟩)) rfl
      rw [ew, ← this]; congr 1; simp [PLy]
    have hnd : 0 ≤ IntKind.i64.wrap ((n : Int) - 1) ∧ IntKind.i64.wrap ((n : Int) - 1) < n := by rw [ew]; omega
    have eb : (bitsOf .u8 (· &&& ·) z0.1.q.fl 3 != 0) = decide (0 < z0.1.q.fl % 4) := by
      have h0 := hqz.fl0
      rw [hqz.b3, Bool.eq_iff_iff]
      simp only [bne_iff_ne, decide_eq_true_eq, ne_eq]
      omega
    obtain ⟨tied, htd⟩ : ∃ t, t = (decide (0 < m.n) && decide (0 < z0.1.q.fl % 4)) := ⟨_, rfl⟩
    have etk : took (zs.map (·.1)) m = some (zs.map (·.1) ++ [X.new m tied]) := by
      unfold took
      rw [hcount, if_pos g, hlook, htd]
      by_cases h : 0 < m.n
      · rw [if_pos h]; simp [h]
      · rw [if_neg h]; simp [h]
    rw [etk]
    simp only [nmK, hpK, hat]
    refine RegOb.join Unit (fun _ => ⟨73, [(0, .ptr 0 0), (5, .ptr 4 0), (6, .sl 2 0 n p.cap), (7, .ptr 5 0), (54, .bool tied)], [(5, .at nb 0), (4, .at b2 0), (3, .at b1 0), (0, .at rb 0), (1, .at mb 0), (2, .at b0 o0)], 6, [.blk 5 199 (ssvs (X.new m false) none), .blk 4 196 [.int .i64 m.host, .int .i64 m.ctx], .blk 3 141 m.svs,
        .blk 0 145 [.map 1], .mp 1 K2 ((p1 ++ p :: p2).map (P.key zs)), .vec 2 182 1 p.cap (PLy.flat (ids zs p.h p.c)), .asn (Alls (p1.map (P.vec zs) ++ p2.map (P.vec zs))), .asn (Blks (zs.map zblk))]⟩) ?_ (fun _ => ?_)
    · refine Br.mk (fun h1 => ?_) (fun h1 => ?_)
      rotate_left
      · exact ⟨(), Le.of rfl ⟨⟨_, rfl, rfl⟩, ⟨_, rfl, rfl⟩, ⟨_, rfl, rfl⟩, ⟨_, rfl, rfl⟩, ⟨_, rfl, (congrArg (fun x => some (Value.bool x)) (by rw [htd, show decide (0 < m.n) = false from h1]; rfl))⟩, trivial⟩ (fun h k => sat_pick 0 rfl (by first | exact fun _ k => k | exact fun _ k => blk_to rfl rfl k | exact fun _ k => vec_to rfl k | exact fun _ k => blk_of rfl rfl k | exact fun _ k => vec_of rfl k | exact fun _ k => blk_of rfl rfl (blk_to rfl rfl k) | exact fun _ k => vec_of rfl (vec_to rfl k) | exact fun _ k => mp_to rfl k | exact fun _ k => mp_of rfl k | exact fun _ k => mp_of rfl (mp_to rfl k)) (fun h k => sat_pick 0 rfl (by first | exact fun _ k => k | exact fun _ k => blk_to rfl rfl k | exact fun _ k => vec_to rfl k | exact fun _ k => blk_of rfl rfl k | exact fun _ k => vec_of rfl k | exact fun _ k => blk_of rfl rfl (blk_to rfl rfl k) | exact fun _ k => vec_of rfl (vec_to rfl k) | exact fun _ k => mp_to rfl k | exact fun _ k => mp_of rfl k | exact fun _ k => mp_of rfl (mp_to rfl k)) (fun h k => sat_pick 0 rfl (by first | exact fun _ k => k | exact fun _ k => blk_to rfl rfl k | exact fun _ k => vec_to rfl k | exact fun _ k => blk_of rfl rfl k | exact fun _ k => vec_of rfl k | exact fun _ k => blk_of rfl rfl (blk_to rfl rfl k) | exact fun _ k => vec_of rfl (vec_to rfl k) | exact fun _ k => mp_to rfl k | exact fun _ k => mp_of rfl k | exact fun _ k => mp_of rfl (mp_to rfl k)) (fun h k => sat_pick 0 rfl (by first | exact fun _ k => k | exact fun _ k => blk_to rfl rfl k | exact fun _ k => vec_to rfl k | exact fun _ k => blk_of rfl rfl k | exact fun _ k => vec_of rfl k | exact fun _ k => blk_of rfl rfl (blk_to rfl rfl k) | exact fun _ k => vec_of rfl (vec_to rfl k) | exact fun _ k => mp_to rfl k | exact fun _ k => mp_of rfl k | exact fun _ k => mp_of rfl (mp_to rfl k)) (fun h k => sat_pick 0 rfl (by first | exact fun _ k => k | exact fun _ k => blk_to rfl rfl k | exact fun _ k => vec_to rfl k | exact fun _ k => blk_of rfl rfl k | exact fun _ k => vec_of rfl k | exact fun _ k => blk_of rfl rfl (blk_to rfl rfl k) | exact fun _ k => vec_of rfl (vec_to rfl k) | exact fun _ k => mp_to rfl k | exact fun _ k => mp_of rfl k | exact fun _ k => mp_of rfl (mp_to rfl k)) (fun h k => sat_pick 0 rfl (by first | exact fun _ k => k | exact fun _ k => blk_to rfl rfl k | exact fun _ k => vec_to rfl k | exact fun _ k => blk_of rfl rfl k | exact fun _ k => vec_of rfl k | exact fun _ k => blk_of rfl rfl (blk_to rfl rfl k) | exact fun _ k => vec_of rfl (vec_to rfl k) | exact fun _ k => mp_to rfl k | exact fun _ k => mp_of rfl k | exact fun _ k => mp_of rfl (mp_to rfl k)) (fun h k => sat_pick 0 rfl (by first | exact fun _ k => k | exact fun _ k => blk_to rfl rfl k | exact fun _ k => vec_to rfl k | exact fun _ k => blk_of rfl rfl k | exact fun _ k => vec_of rfl k | exact fun _ k => blk_of rfl rfl (blk_to rfl rfl k) | exact fun _ k => vec_of rfl (vec_to rfl k) | exact fun _ k => mp_to rfl k | exact fun _ k => mp_of rfl k | exact fun _ k => mp_of rfl (mp_to rfl k)) (fun h k => sat_pick 0 rfl (by first | exact fun _ k => k | exact fun _ k => blk_to rfl rfl k | exact fun _ k => vec_to rfl k | exact fun _ k => blk_of rfl rfl k | exact fun _ k => vec_of rfl k | exact fun _ k => blk_of rfl rfl (blk_to rfl rfl k) | exact fun _ k => vec_of rfl (vec_to rfl k) | exact fun _ k => mp_to rfl k | exact fun _ k => mp_of rfl k | exact fun _ k => mp_of rfl (mp_to rfl k)) (fun h k => sat_nil k) k) k) k) k) k) k) k) k)⟩
      refine Need.mk hnd ?_
      refine RdOb.mk (.raw (.pointer (some ⟨z0.2.1, 0, none⟩))) _ rfl hcell ?_
      refine RdRaw.told (.int .u8 z0.1.q.fl) _ rfl (told_mem 7 rfl hzb rfl) ?_
      exact ⟨(), Le.of rfl ⟨⟨_, rfl, rfl⟩, ⟨_, rfl, rfl⟩, ⟨_, rfl, rfl⟩, ⟨_, rfl, rfl⟩, ⟨_, rfl, (congrArg (fun x => some (Value.bool x)) (eb.trans (by rw [htd, show decide (0 < m.n) = true from h1]; rfl)))⟩, trivial⟩ (fun h k => sat_pick 0 rfl (by first | exact fun _ k => k | exact fun _ k => blk_to rfl rfl k | exact fun _ k => vec_to rfl k | exact fun _ k => blk_of rfl rfl k | exact fun _ k => vec_of rfl k | exact fun _ k => blk_of rfl rfl (blk_to rfl rfl k) | exact fun _ k => vec_of rfl (vec_to rfl k) | exact fun _ k => mp_to rfl k | exact fun _ k => mp_of rfl k | exact fun _ k => mp_of rfl (mp_to rfl k)) (fun h k => sat_pick 0 rfl (by first | exact fun _ k => k | exact fun _ k => blk_to rfl rfl k | exact fun _ k => vec_to rfl k | exact fun _ k => blk_of rfl rfl k | exact fun _ k => vec_of rfl k | exact fun _ k => blk_of rfl rfl (blk_to rfl rfl k) | exact fun _ k => vec_of rfl (vec_to rfl k) | exact fun _ k => mp_to rfl k | exact fun _ k => mp_of rfl k | exact fun _ k => mp_of rfl (mp_to rfl k)) (fun h k => sat_pick 0 rfl (by first | exact fun _ k => k | exact fun _ k => blk_to rfl rfl k | exact fun _ k => vec_to rfl k | exact fun _ k => blk_of rfl rfl k | exact fun _ k => vec_of rfl k | exact fun _ k => blk_of rfl rfl (blk_to rfl rfl k) | exact fun _ k => vec_of rfl (vec_to rfl k) | exact fun _ k => mp_to rfl k | exact fun _ k => mp_of rfl k | exact fun _ k => mp_of rfl (mp_to rfl k)) (fun h k => sat_pick 0 rfl (by first | exact fun _ k => k | exact fun _ k => blk_to rfl rfl k | exact fun _ k => vec_to rfl k | exact fun _ k => blk_of rfl rfl k | exact fun _ k => vec_of rfl k | exact fun _ k => blk_of rfl rfl (blk_to rfl rfl k) | exact fun _ k => vec_of rfl (vec_to rfl k) | exact fun _ k => mp_to rfl k | exact fun _ k => mp_of rfl k | exact fun _ k => mp_of rfl (mp_to rfl k)) (fun h k => sat_pick 0 rfl (by first | exact fun _ k => k | exact fun _ k => blk_to rfl rfl k | exact fun _ k => vec_to rfl k | exact fun _ k => blk_of rfl rfl k | exact fun _ k => vec_of rfl k | exact fun _ k => blk_of rfl rfl (blk_to rfl rfl k) | exact fun _ k => vec_of rfl (vec_to rfl k) | exact fun _ k => mp_to rfl k | exact fun _ k => mp_of rfl k | exact fun _ k => mp_of rfl (mp_to rfl k)) (fun h k => sat_pick 0 rfl (by first | exact fun _ k => k | exact fun _ k => blk_to rfl rfl k | exact fun _ k => vec_to rfl k | exact fun _ k => blk_of rfl rfl k | exact fun _ k => vec_of rfl k | exact fun _ k => blk_of rfl rfl (blk_to rfl rfl k) | exact fun _ k => vec_of rfl (vec_to rfl k) | exact fun _ k => mp_to rfl k | exact fun _ k => mp_of rfl k | exact fun _ k => mp_of rfl (mp_to rfl k)) (fun h k => sat_pick 0 rfl (by first | exact fun _ k => k | exact fun _ k => blk_to rfl rfl k | exact fun _ k => vec_to rfl k | exact fun _ k => blk_of rfl rfl k | exact fun _ k => vec_of rfl k | exact fun _ k => blk_of rfl rfl (blk_to rfl rfl k) | exact fun _ k => vec_of rfl (vec_to rfl k) | exact fun _ k => mp_to rfl k | exact fun _ k => mp_of rfl k | exact fun _ k => mp_of rfl (mp_to rfl k)) (fun h k => sat_pick 0 rfl (by first | exact fun _ k => k | exact fun _ k => blk_to rfl rfl k | exact fun _ k => vec_to rfl k | exact fun _ k => blk_of rfl rfl k | exact fun _ k => vec_of rfl k | exact fun _ k => blk_of rfl rfl (blk_to rfl rfl k) | exact fun _ k => vec_of rfl (vec_to rfl k) | exact fun _ k => mp_to rfl k | exact fun _ k => mp_of rfl k | exact fun _ k => mp_of rfl (mp_to rfl k)) (fun h k => sat_nil k) k) k) k) k) k) k) k) k)⟩
    refine CondOb.join Unit (fun _ => ⟨73, [(0, .ptr 0 0), (5, .ptr 4 0), (6, .sl 2 0 n p.cap), (7, .ptr 5 0)], [(5, .at nb 0), (4, .at b2 0), (3, .at b1 0), (0, .at rb 0), (1, .at mb 0), (2, .at b0 o0)], 6, [.blk 5 199 (ssvs (X.new m tied) (if tied then some z0.2.1 else none)), .blk 4 196 [.int .i64 m.host, .int .i64 m.ctx], .blk 3 141 m.svs,
        .blk 0 145 [.map 1], .mp 1 K2 ((p1 ++ p :: p2).map (P.key zs)), .vec 2 182 1 p.cap (PLy.flat (ids zs p.h p.c)), .asn (Alls (p1.map (P.vec zs) ++ p2.map (P.vec zs))), .asn (Blks (zs.map zblk))]⟩) (fun g2 => ?_) (fun g2 => ?_) (fun _ => ?_)
    · rw [g2]
      refine Need.mk hnd ?_
      refine RdOb.mk (.raw (.pointer (some ⟨z0.2.1, 0, none⟩))) _ rfl hcell ?_
      exact ⟨(), Le.of rfl ⟨⟨_, rfl, rfl⟩, ⟨_, rfl, rfl⟩, ⟨_, rfl, rfl⟩, ⟨_, rfl, rfl⟩, trivial⟩ (fun h k => sat_pick 0 rfl (by first | exact fun _ k => k | exact fun _ k => blk_to rfl rfl k | exact fun _ k => vec_to rfl k | exact fun _ k => blk_of rfl rfl k | exact fun _ k => vec_of rfl k | exact fun _ k => blk_of rfl rfl (blk_to rfl rfl k) | exact fun _ k => vec_of rfl (vec_to rfl k) | exact fun _ k => mp_to rfl k | exact fun _ k => mp_of rfl k | exact fun _ k => mp_of rfl (mp_to rfl k)) (fun h k => sat_pick 0 rfl (by first | exact fun _ k => k | exact fun _ k => blk_to rfl rfl k | exact fun _ k => vec_to rfl k | exact fun _ k => blk_of rfl rfl k | exact fun _ k => vec_of rfl k | exact fun _ k => blk_of rfl rfl (blk_to rfl rfl k) | exact fun _ k => vec_of rfl (vec_to rfl k) | exact fun _ k => mp_to rfl k | exact fun _ k => mp_of rfl k | exact fun _ k => mp_of rfl (mp_to rfl k)) (fun h k => sat_pick 0 rfl (by first | exact fun _ k => k | exact fun _ k => blk_to rfl rfl k | exact fun _ k => vec_to rfl k | exact fun _ k => blk_of rfl rfl k | exact fun _ k => vec_of rfl k | exact fun _ k => blk_of rfl rfl (blk_to rfl rfl k) | exact fun _ k => vec_of rfl (vec_to rfl k) | exact fun _ k => mp_to rfl k | exact fun _ k => mp_of rfl k | exact fun _ k => mp_of rfl (mp_to rfl k)) (fun h k => sat_pick 0 rfl (by first | exact fun _ k => k | exact fun _ k => blk_to rfl rfl k | exact fun _ k => vec_to rfl k | exact fun _ k => blk_of rfl rfl k | exact fun _ k => vec_of rfl k | exact fun _ k => blk_of rfl rfl (blk_to rfl rfl k) | exact fun _ k => vec_of rfl (vec_to rfl k) | exact fun _ k => mp_to rfl k | exact fun _ k => mp_of rfl k | exact fun _ k => mp_of rfl (mp_to rfl k)) (fun h k => sat_pick 0 rfl (by first | exact fun _ k => k | exact fun _ k => blk_to rfl rfl k | exact fun _ k => vec_to rfl k | exact fun _ k => blk_of rfl rfl k | exact fun _ k => vec_of rfl k | exact fun _ k => blk_of rfl rfl (blk_to rfl rfl k) | exact fun _ k => vec_of rfl (vec_to rfl k) | exact fun _ k => mp_to rfl k | exact fun _ k => mp_of rfl k | exact fun _ k => mp_of rfl (mp_to rfl k)) (fun h k => sat_pick 0 rfl (by first | exact fun _ k => k | exact fun _ k => blk_to rfl rfl k | exact fun _ k => vec_to rfl k | exact fun _ k => blk_of rfl rfl k | exact fun _ k => vec_of rfl k | exact fun _ k => blk_of rfl rfl (blk_to rfl rfl k) | exact fun _ k => vec_of rfl (vec_to rfl k) | exact fun _ k => mp_to rfl k | exact fun _ k => mp_of rfl k | exact fun _ k => mp_of rfl (mp_to rfl k)) (fun h k => sat_pick 0 rfl (by first | exact fun _ k => k | exact fun _ k => blk_to rfl rfl k | exact fun _ k => vec_to rfl k | exact fun _ k => blk_of rfl rfl k | exact fun _ k => vec_of rfl k | exact fun _ k => blk_of rfl rfl (blk_to rfl rfl k) | exact fun _ k => vec_of rfl (vec_to rfl k) | exact fun _ k => mp_to rfl k | exact fun _ k => mp_of rfl k | exact fun _ k => mp_of rfl (mp_to rfl k)) (fun h k => sat_pick 0 rfl (by first | exact fun _ k => k | exact fun _ k => blk_to rfl rfl k | exact fun _ k => vec_to rfl k | exact fun _ k => blk_of rfl rfl k | exact fun _ k => vec_of rfl k | exact fun _ k => blk_of rfl rfl (blk_to rfl rfl k) | exact fun _ k => vec_of rfl (vec_to rfl k) | exact fun _ k => mp_to rfl k | exact fun _ k => mp_of rfl k | exact fun _ k => mp_of rfl (mp_to rfl k)) (fun h k => sat_nil k) k) k) k) k) k) k) k) k)⟩
    · rw [g2]
      exact ⟨(), Le.of rfl ⟨⟨_, rfl, rfl⟩, ⟨_, rfl, rfl⟩, ⟨_, rfl, rfl⟩, ⟨_, rfl, rfl⟩, trivial⟩ (fun h k => sat_pick 0 rfl (by first | exact fun _ k => k | exact fun _ k => blk_to rfl rfl k | exact fun _ k => vec_to rfl k | exact fun _ k => blk_of rfl rfl k | exact fun _ k => vec_of rfl k | exact fun _ k => blk_of rfl rfl (blk_to rfl rfl k) | exact fun _ k => vec_of rfl (vec_to rfl k) | exact fun _ k => mp_to rfl k | exact fun _ k => mp_of rfl k | exact fun _ k => mp_of rfl (mp_to rfl k)) (fun h k => sat_pick 0 rfl (by first | exact fun _ k => k | exact fun _ k => blk_to rfl rfl k | exact fun _ k => vec_to rfl k | exact fun _ k => blk_of rfl rfl k | exact fun _ k => vec_of rfl k | exact fun _ k => blk_of rfl rfl (blk_to rfl rfl k) | exact fun _ k => vec_of rfl (vec_to rfl k) | exact fun _ k => mp_to rfl k | exact fun _ k => mp_of rfl k | exact fun _ k => mp_of rfl (mp_to rfl k)) (fun h k => sat_pick 0 rfl (by first | exact fun _ k => k | exact fun _ k => blk_to rfl rfl k | exact fun _ k => vec_to rfl k | exact fun _ k => blk_of rfl rfl k | exact fun _ k => vec_of rfl k | exact fun _ k => blk_of rfl rfl (blk_to rfl rfl k) | exact fun _ k => vec_of rfl (vec_to rfl k) | exact fun _ k => mp_to rfl k | exact fun _ k => mp_of rfl k | exact fun _ k => mp_of rfl (mp_to rfl k)) (fun h k => sat_pick 0 rfl (by first | exact fun _ k => k | exact fun _ k => blk_to rfl rfl k | exact fun _ k => vec_to rfl k | exact fun _ k => blk_of rfl rfl k | exact fun _ k => vec_of rfl k | exact fun _ k => blk_of rfl rfl (blk_to rfl rfl k) | exact fun _ k => vec_of rfl (vec_to rfl k) | exact fun _ k => mp_to rfl k | exact fun _ k => mp_of rfl k | exact fun _ k => mp_of rfl (mp_to rfl k)) (fun h k => sat_pick 0 rfl (by first | exact fun _ k => k | exact fun _ k => blk_to rfl rfl k | exact fun _ k => vec_to rfl k | exact fun _ k => blk_of rfl rfl k | exact fun _ k => vec_of rfl k | exact fun _ k => blk_of rfl rfl (blk_to rfl rfl k) | exact fun _ k => vec_of rfl (vec_to rfl k) | exact fun _ k => mp_to rfl k | exact fun _ k => mp_of rfl k | exact fun _ k => mp_of rfl (mp_to rfl k)) (fun h k => sat_pick 0 rfl (by first | exact fun _ k => k | exact fun _ k => blk_to rfl rfl k | exact fun _ k => vec_to rfl k | exact fun _ k => blk_of rfl rfl k | exact fun _ k => vec_of rfl k | exact fun _ k => blk_of rfl rfl (blk_to rfl rfl k) | exact fun _ k => vec_of rfl (vec_to rfl k) | exact fun _ k => mp_to rfl k | exact fun _ k => mp_of rfl k | exact fun _ k => mp_of rfl (mp_to rfl k)) (fun h k => sat_pick 0 rfl (by first | exact fun _ k => k | exact fun _ k => blk_to rfl rfl k | exact fun _ k => vec_to rfl k | exact fun _ k => blk_of rfl rfl k | exact fun _ k => vec_of rfl k | exact fun _ k => blk_of rfl rfl (blk_to rfl rfl k) | exact fun _ k => vec_of rfl (vec_to rfl k) | exact fun _ k => mp_to rfl k | exact fun _ k => mp_of rfl k | exact fun _ k => mp_of rfl (mp_to rfl k)) (fun h k => sat_pick 0 rfl (by first | exact fun _ k => k | exact fun _ k => blk_to rfl rfl k | exact fun _ k => vec_to rfl k | exact fun _ k => blk_of rfl rfl k | exact fun _ k => vec_of rfl k | exact fun _ k => blk_of rfl rfl (blk_to rfl rfl k) | exact fun _ k => vec_of rfl (vec_to rfl k) | exact fun _ k => mp_to rfl k | exact fun _ k => mp_of rfl k | exact fun _ k => mp_of rfl (mp_to rfl k)) (fun h k => sat_nil k) k) k) k) k) k) k) k) k)⟩
    refine DrawOb.mk [(7, [0, 1, 2, 3, 4, 5]), (8, [0, 1, 2, 3, 4])] (.run [0, 1, 2, 3, 4, 5, 6, 7, 8, 9] .nil) (by kernel_rfl) ?_
    intro c1
    refine Need.mk rfl (Need.mk rfl ?_)
    refine StOb.mk [.pointer (some ⟨nb, 0, none⟩)] rfl (Need.mk rfl ?_)
    refine Need.mk ⟨by rw [lP, hn]; omega, by omega, hcp⟩ ?_
    refine Need.mk ⟨by omega, by simp only [maxLen]; omega, fun v hv => by simp at hv; subst hv; rfl⟩ ?_
    refine NewSl.pos (by omega) (fun b6 o6 c6 hc6 => ?_)
    refine Need.mk rfl (Need.mk rfl ?_)
    refine Need.mk keys_law ?_
    refine ValOb.mk (.slice (some ⟨b6, o6, none⟩) (n + 1) c6) rfl ?_
    generalize hah : (if tied then some z0.2.1 else none) = ah
    have ha : AhZ zs (X.new m tied, nb, ah) := by
      unfold AhZ
      show if tied = true then _ else _
      by_cases h : tied = true
      · rw [if_pos h]
        refine ⟨z0, hzm, ?_, by rw [← hah, if_pos h]⟩
        show hit m.host m.ctx (m.ticket - 1) z0.1 = true
        rw [← e1, ← e2, g, show ((n : Int) - 1) = ((n - 1 : Nat) : Int) by omega]
        exact hzh
      · rw [if_neg h]
        show ah = none
        rw [← hah, if_neg h]
    have I2 := inv_found (b := b6) (o := o6) (c' := c6) I hm e1 e2 n1 n2 (by rw [hcount]; exact g) (by rw [hn]; omega) ha few
    have hpl : placed p.h p.c (X.new m tied) = true := placed_iff.2 ⟨e1.symm, e2.symm⟩
    have hids : ids (zs ++ [(X.new m tied, nb, ah)]) p.h p.c = ids zs p.h p.c ++ [nb] := ids_same hpl
    have hk1 := keys_other (zs := zs) (z := (X.new m tied, nb, ah)) (ps := p1) (fun q hq => by show ¬ (q.h = m.host ∧ q.c = m.ctx); rw [← e1, ← e2]; exact n1 q hq)
    have hk2 := keys_other (zs := zs) (z := (X.new m tied, nb, ah)) (ps := p2) (fun q hq => by show ¬ (q.h = m.host ∧ q.c = m.ctx); rw [← e1, ← e2]; exact n2 q hq)
    have hput : updL [m.host, m.ctx] (.slice (some ⟨b6, o6, none⟩) (n + 1) c6) ((p1 ++ p :: p2).map (P.key zs)) = (p1 ++ (⟨p.h, p.c, .at b6 o6, c6⟩ : P) :: p2).map (P.key (zs ++ [(X.new m tied, nb, ah)])) := by
      rw [← e1, ← e2, put_split n1, List.map_append, List.map_cons, hk1.1, hk2.1]
      congr 2
      unfold P.key
      show ([p.h, p.c], Value.slice (some ⟨b6, o6, none⟩) (n + 1) c6) = ([p.h, p.c], Value.slice (some ⟨b6, o6, none⟩) (ids (zs ++ [(X.new m tied, nb, ah)]) p.h p.c).length c6)
      rw [hids, List.length_append, hn]; rfl
    rw [hput]
    refine FinOb.mk _ (Bk rb mb (p1 ++ ⟨p.h, p.c, .at b6 o6, c6⟩ :: p2) (zs ++ [(X.new m tied, nb, ah)])) rfl (fun h k => bk_shut h ?_) ⟨rfl, _, _, by simp, I2, rfl⟩
    rw [hk1.2, hk2.2]
    refine (fun h k => sat_pick 6 rfl (fun _ k => blk_to rfl rfl k) (fun h k => sat_pick 0 rfl (fun _ k => mp_to rfl k) (fun h k => sat_pick 0 rfl (fun _ k => ?_) (fun h k => sat_pick 4 rfl (by first | exact fun _ k => k | exact fun _ k => blk_to rfl rfl k | exact fun _ k => vec_to rfl k | exact fun _ k => blk_of rfl rfl k | exact fun _ k => vec_of rfl k | exact fun _ k => blk_of rfl rfl (blk_to rfl rfl k) | exact fun _ k => vec_of rfl (vec_to rfl k) | exact fun _ k => mp_to rfl k | exact fun _ k => mp_of rfl k | exact fun _ k => mp_of rfl (mp_to rfl k)) (fun h k => sat_pick2 1 3 rfl rfl (fun h k => ?_) (fun h k => sat_nil k) k) k) k) k) k) h k
    · have k := vec_to (l := .at b6 o6) rfl k
      rw [List.drop_zero, List.take_of_length_le (by rw [lP, hn]; omega)] at k
      show Vec (.at b6 o6) 182 1 c6 (PLy.flat (ids _ p.h p.c)) _
      rw [hids, PLy.flat_append]
      exact k
    · rw [List.map_append]
      refine blks_push h ((fun h k => sat_pick 0 rfl (fun _ k => ?_) (fun h k => sat_pick 0 rfl (by first | exact fun _ k => k | exact fun _ k => blk_to rfl rfl k | exact fun _ k => vec_to rfl k | exact fun _ k => blk_of rfl rfl k | exact fun _ k => vec_of rfl k | exact fun _ k => blk_of rfl rfl (blk_to rfl rfl k) | exact fun _ k => vec_of rfl (vec_to rfl k) | exact fun _ k => mp_to rfl k | exact fun _ k => mp_of rfl k | exact fun _ k => mp_of rfl (mp_to rfl k)) (fun h k => sat_nil k) k) k) h k)
      have k := blk_to (b := nb) (vs := scells (X.new m tied) ah) rfl (by rw [← hah]; rfl) k
      exact k
  have hp : ∀ p ∈ ps, ¬ (p.h = m.host ∧ p.c = m.ctx) := fun p hm e => hp ⟨p, hm, e⟩
  have h0 : ids zs m.host m.ctx = [] := by
    unfold ids
    rw [List.filter_eq_nil_iff.2 (fun z hz => ?_)]; rfl
    intro hh
    obtain ⟨q, hq, e1, e2⟩ := I.cover z hz
    obtain ⟨r1, r2⟩ := placed_iff.1 hh
    exact hp q hq ⟨by rw [e1, r1], by rw [e2, r2]⟩
  have hcount : count (zs.map (·.1)) m.host m.ctx = 0 := by rw [← ids_length, h0]; rfl
  refine Does.ofJ Try.func102 Try.call102 rfl [.ptr 0 0, .agg m.svs] [(0, .at rb 0), (1, .at mb 0)] 2 [.blk 0 145 [.map 1], .mp 1 K2 (ps.map (P.key zs)), .asn (Alls (ps.map (P.vec zs))), .asn (Blks (zs.map zblk))] rfl rfl (fun h k => sat_pick 0 rfl (fun _ k => blk_of rfl rfl k) (fun h k => sat_pick 0 rfl (fun _ k => mp_of rfl k) (fun h k => sat_pick 0 rfl (by first | exact fun _ k => k | exact fun _ k => blk_to rfl rfl k | exact fun _ k => vec_to rfl k | exact fun _ k => blk_of rfl rfl k | exact fun _ k => vec_of rfl k | exact fun _ k => blk_of rfl rfl (blk_to rfl rfl k) | exact fun _ k => vec_of rfl (vec_to rfl k) | exact fun _ k => mp_to rfl k | exact fun _ k => mp_of rfl k | exact fun _ k => mp_of rfl (mp_to rfl k)) (fun h k => sat_pick 0 rfl (by first | exact fun _ k => k | exact fun _ k => blk_to rfl rfl k | exact fun _ k => vec_to rfl k | exact fun _ k => blk_of rfl rfl k | exact fun _ k => vec_of rfl k | exact fun _ k => blk_of rfl rfl (blk_to rfl rfl k) | exact fun _ k => vec_of rfl (vec_to rfl k) | exact fun _ k => mp_to rfl k | exact fun _ k => mp_of rfl k | exact fun _ k => mp_of rfl (mp_to rfl k)) (fun h k => sat_nil k) k) k) k) k) (fun f hR => ?_)
  intro b1 b2
  refine DrawOb.mk [] (.run [0, 1, 2, 3, 4, 5, 6] .nil) (by kernel_rfl) ?_
  refine Need.mk keys_law ?_
  refine LkOb.miss (find_none hp) ?_
  refine RegOb.go ?_
  refine Br.mk (fun h1 => ?_) (fun h1 => ?_)
  · have h1 : ¬ m.ticket = ((0 : Nat) : Int) := by simpa using h1
    have e : took (zs.map (·.1)) m = none := by unfold took; rw [hcount, if_neg h1]
    rw [e]
    exact FinOb.mk _ [] rfl (fun h k => trivial) ⟨rfl, rfl⟩
  have h1 : m.ticket = 0 := by simpa using h1
  refine Br.mk (fun h2 => ?_) (fun h2 => ?_)
  · have h2 : 0 < m.n := by simpa using h2
    have e : took (zs.map (·.1)) m = none := by
      unfold took
      rw [hcount, if_pos (by rw [h1]; rfl), if_pos h2, look_none (no_hit I.wf (.inl (by omega)))]
    rw [e]
    refine CondOb.split (fun _ => ?_) (fun h => absurd h (by decide))
    exact FinOb.mk _ [] rfl (fun h k => trivial) ⟨rfl, rfl⟩
  have h2 : ¬ 0 < m.n := by simpa using h2
  have etk : took (zs.map (·.1)) m = some (zs.map (·.1) ++ [X.new m false]) := by unfold took; rw [hcount, if_pos (by rw [h1]; rfl), if_neg h2]
  rw [etk]
  intro nb
  refine RegOb.go ?_
  refine Br.mk (fun h => absurd h (by simpa using h2)) (fun _ => ?_)
  refine DrawOb.mk [(7, [0, 1, 2, 3, 4, 5]), (8, [0, 1, 2, 3, 4])] (.run [0, 1, 2, 3, 4, 5, 6, 7, 8, 9] .nil) (by kernel_rfl) ?_
  intro c1
  refine Need.mk rfl (Need.mk rfl ?_)
  refine StOb.mk [.pointer (some ⟨nb, 0, none⟩)] rfl (Need.mk rfl ?_)
  refine Need.mk ⟨by omega, by simp only [maxLen]; omega, fun v hv => by simp at hv; subst hv; rfl⟩ ?_
  refine NewSl.pos (by omega) (fun b6 o6 c6 hc6 => ?_)
  refine Need.mk rfl (Need.mk rfl ?_)
  refine Need.mk keys_law ?_
  refine ValOb.mk (.slice (some ⟨b6, o6, none⟩) 1 c6) rfl ?_
  have I2 := inv_new (nb := nb) (b := b6) (o := o6) (c' := c6) I hm hp h0 h1 (by omega) few
  have hpl : placed m.host m.ctx (X.new m false) = true := placed_iff.2 ⟨rfl, rfl⟩
  have hids : ids (zs ++ [(X.new m false, nb, none)]) m.host m.ctx = [nb] := by rw [ids_same hpl, h0]; rfl
  have hk := keys_other (zs := zs) (z := (X.new m false, nb, none)) (ps := ps) hp
  have hput : updL [m.host, m.ctx] (.slice (some ⟨b6, o6, none⟩) 1 c6) (ps.map (P.key zs)) = (ps ++ [(⟨m.host, m.ctx, .at b6 o6, c6⟩ : P)]).map (P.key (zs ++ [(X.new m false, nb, none)])) := by
    rw [put_none hp, List.map_append, hk.1]
    congr 1
    unfold P.key
    show _ = [([m.host, m.ctx], Value.slice (some ⟨b6, o6, none⟩) (ids (zs ++ [(X.new m false, nb, none)]) m.host m.ctx).length c6)]
    rw [hids]; rfl
  rw [hput]
  refine FinOb.mk _ (Bk rb mb (ps ++ [⟨m.host, m.ctx, .at b6 o6, c6⟩]) (zs ++ [(X.new m false, nb, none)])) rfl (fun h k => bk_shut (p1 := ps) (p2 := []) h ?_) ⟨rfl, _, _, by simp, I2, rfl⟩
  rw [hk.2]
  refine (fun h k => sat_pick 6 rfl (fun _ k => blk_to rfl rfl k) (fun h k => sat_pick 0 rfl (fun _ k => mp_to rfl k) (fun h k => sat_pick 0 rfl (fun _ k => ?_) (fun h k => sat_pick 4 rfl (fun _ k => ?_) (fun h k => sat_pick2 1 3 rfl rfl (fun h k => ?_) (fun h k => sat_nil k) k) k) k) k) k) h k
  · have k := vec_to (l := .at b6 o6) rfl k
    show Vec (.at b6 o6) 182 1 c6 (PLy.flat (ids _ m.host m.ctx)) _
    rw [hids]
    exact k
  · rw [List.map_nil, List.append_nil]; exact k
  · rw [List.map_append]
    refine blks_push h ((fun h k => sat_pick 0 rfl (fun _ k => ?_) (fun h k => sat_pick 0 rfl (by first | exact fun _ k => k | exact fun _ k => blk_to rfl rfl k | exact fun _ k => vec_to rfl k | exact fun _ k => blk_of rfl rfl k | exact fun _ k => vec_of rfl k | exact fun _ k => blk_of rfl rfl (blk_to rfl rfl k) | exact fun _ k => vec_of rfl (vec_to rfl k) | exact fun _ k => mp_to rfl k | exact fun _ k => mp_of rfl k | exact fun _ k => mp_of rfl (mp_to rfl k)) (fun h k => sat_nil k) k) k) h k)
    exact blk_to (b := nb) (vs := scells (X.new m false) none) rfl rfl k
end Go.Proofs.Ytlgdagjbphafcaa.Au
