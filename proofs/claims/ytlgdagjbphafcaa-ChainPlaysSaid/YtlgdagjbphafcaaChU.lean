/- The reference of chain, owned. Conditions: none. -/
import Derived.Test.YtlgdagjbphafcaaChT
namespace Go.Proofs.Ytlgdagjbphafcaa.Ch
open Go Go.Proofs Sx
set_option maxRecDepth 100000
set_option linter.unusedVariables false
set_option maxHeartbeats 2000000

def Own (x : RB) (pl : Plc) (c : Nat) (pr : Plc) (d : Nat) : List Asn := [Vec pl 179 5 c (O.flat x.l), Vec pr 3 1 d (I.flat x.ready)]
theorem own_reads {f f' b : HP} {x : RB} {pl pr : Plc} {c d : Nat} (s : Split f' b f) (k : sat (Own x pl c pr d) b) : Reads f' (locAddr 0 pl) (O.flat x.l) ∧ Reads f' (locAddr 0 pr) (I.flat x.ready) :=
  ⟨asn_reads (nm := []) (es := [.asn (Vec pl 179 5 c (O.flat x.l)), .asn (Vec pr 3 1 d (I.flat x.ready))]) 0 s k rfl, asn_reads (nm := []) (es := [.asn (Vec pl 179 5 c (O.flat x.l)), .asn (Vec pr 3 1 d (I.flat x.ready))]) 1 s k rfl⟩
theorem AInv.few {B : BA} (inv : AInv B) : B.ready.length ≤ B.es.length := by
  have := len_sub inv.rnd (m := B.es.map EA.id) (fun a ha => by
    obtain ⟨e, he, h1, _⟩ := inv.rdy a ha
    exact List.mem_map.2 ⟨e, he, h1⟩)
  simpa using this
theorem add_own (x : RB) (B : BA) (pl : Plc) (c : Nat) (pr : Plc) (d : Nat) (id fl : Int) (inv : AInv B) (rl : Rl x B) (hf : ∀ e ∈ B.es, 0 ≤ e.flags) (hl : B.es.length ≤ 1000000) (h0 : 0 ≤ fl) (h1 : fl ≤ 255) (hc : x.l.length ≤ c) :
    Does Try.prog 69 #[.agg (x.vals (locAddr 0 pl) c (locAddr 0 pr) d).toArray, .int .i64 id, .int .u8 fl] (fun _ => True) (Own x pl c pr d)
      (fun v q => ∃ y pl' c' pr' d', y.l.length ≤ c' ∧ ((id ∈ B.es.map EA.id ∧ Rl y B ∧ v = .tuple #[.agg (y.vals (locAddr 0 pl') c' (locAddr 0 pr') d').toArray, .int .i64 140]) ∨
        (id ∉ B.es.map EA.id ∧ Rl y (addA B id fl) ∧ v = .tuple #[.agg (y.vals (locAddr 0 pl') c' (locAddr 0 pr') d').toArray, .int .i64 0])) ∧ q = Own y pl' c' pr' d') := by
  have hfew := inv.few
  have spec := radd_spec x (locAddr 0 pl) c (locAddr 0 pr) d id fl (by rw [rl.es.len]; exact hl) (by rw [rl.rdy]; omega) h0 h1
  refine (frameR (Own x pl c pr d) spec (fun f f' b s k => own_reads s k)).post ?_
  rintro v q ⟨q', (⟨hi, rfl, rfl⟩ | ⟨hi, ht, b, o, c', rfl, hc', rfl⟩ | ⟨hi, ht, b, o, c', b2, o2, d', rfl, hc', rfl⟩), rfl⟩
  · rw [rl.es.ids] at hi
    exact ⟨_, ⟨x, pl, c, pr, d, hc, .inl ⟨hi, rl, rfl⟩, rfl⟩, fun h k => k⟩
  · rw [rl.es.ids] at hi
    refine ⟨_, ⟨radd x id fl, .at b o, c', pr, d, hc', .inr ⟨hi, rl.add inv hf id fl, rfl⟩, rfl⟩, fun h k => ?_⟩
    have e : (radd x id fl).ready = x.ready := by simp [radd, ht]
    simp only [Own, e]
    exact (fun h k => sat_pick 0 rfl (by first | exact fun _ k => k | exact fun _ k => blk_to rfl rfl k | exact fun _ k => vec_to rfl k | exact fun _ k => blk_of rfl rfl k | exact fun _ k => vec_of rfl k | exact fun _ k => blk_of rfl rfl (blk_to rfl rfl k) | exact fun _ k => vec_of rfl (vec_to rfl k) | exact fun _ k => mp_to rfl k | exact fun _ k => mp_of rfl k | exact fun _ k => mp_of rfl (mp_to rfl k)) (fun h k => sat_pick 1 rfl (by first | exact fun _ k => k | exact fun _ k => blk_to rfl rfl k | exact fun _ k => vec_to rfl k | exact fun _ k => blk_of rfl rfl k | exact fun _ k => vec_of rfl k | exact fun _ k => blk_of rfl rfl (blk_to rfl rfl k) | exact fun _ k => vec_of rfl (vec_to rfl k) | exact fun _ k => mp_to rfl k | exact fun _ k => mp_of rfl k | exact fun _ k => mp_of rfl (mp_to rfl k)) (fun h k => sat_nil k) k) k) h k
  · rw [rl.es.ids] at hi
    refine ⟨_, ⟨radd x id fl, .at b o, c', .at b2 o2, d', hc', .inr ⟨hi, rl.add inv hf id fl, rfl⟩, rfl⟩, fun h k => ?_⟩
    exact (fun h k => sat_pick 0 rfl (by first | exact fun _ k => k | exact fun _ k => blk_to rfl rfl k | exact fun _ k => vec_to rfl k | exact fun _ k => blk_of rfl rfl k | exact fun _ k => vec_of rfl k | exact fun _ k => blk_of rfl rfl (blk_to rfl rfl k) | exact fun _ k => vec_of rfl (vec_to rfl k) | exact fun _ k => mp_to rfl k | exact fun _ k => mp_of rfl k | exact fun _ k => mp_of rfl (mp_to rfl k)) (fun h k => sat_pick 0 rfl (by first | exact fun _ k => k | exact fun _ k => blk_to rfl rfl k | exact fun _ k => vec_to rfl k | exact fun _ k => blk_of rfl rfl k | exact fun _ k => vec_of rfl k | exact fun _ k => blk_of rfl rfl (blk_to rfl rfl k) | exact fun _ k => vec_of rfl (vec_to rfl k) | exact fun _ k => mp_to rfl k | exact fun _ k => mp_of rfl k | exact fun _ k => mp_of rfl (mp_to rfl k)) (fun h k => sat_nil k) k) k) h k
theorem tell_own (x : RB) (B : BA) (pl : Plc) (c : Nat) (pr : Plc) (d : Nat) (inv : AInv B) (rl : Rl x B) (hl : B.es.length ≤ 1000000) :
    Does Try.prog 70 #[.agg (x.vals (locAddr 0 pl) c (locAddr 0 pr) d).toArray] (fun _ => True) (Own x pl c pr d)
      (fun v q => ∃ y pl' c', Rl y (readyA B) ∧ y.l.length ≤ c' ∧ y.ready = [] ∧ v = .tuple #[.agg (y.vals (locAddr 0 pl') c' none 0).toArray, .slice (locAddr 0 pr) B.ready.length d] ∧ q = [Vec pl' 179 5 c' (O.flat y.l), Vec pr 3 1 d (I.flat B.ready)]) := by
  have hfew := inv.few
  have spec := rtell_spec x (locAddr 0 pl) c (locAddr 0 pr) d (by rw [rl.es.len]; exact hl) (by rw [rl.rdy]; omega) (by rw [rl.es.ids]; exact inv.ids) (fun n hn => by
    rw [rl.rdy] at hn
    obtain ⟨e, h1, h2, _⟩ := inv.rdy n hn
    rw [rl.es.ids]
    exact List.mem_map.2 ⟨e, h1, h2⟩)
  refine (frameR (Own x pl c pr d) spec (fun f f' b s k => own_reads s k)).post ?_
  rintro v q ⟨q', ⟨p, c', rfl, hc', rfl⟩, rfl⟩
  refine ⟨_, ⟨rtell x, p, c', rl.tell, hc', rfl, by rw [← rl.rdy], rfl⟩, fun h k => ?_⟩
  rw [← rl.rdy]
  exact (fun h k => sat_pick 0 rfl (by first | exact fun _ k => k | exact fun _ k => blk_to rfl rfl k | exact fun _ k => vec_to rfl k | exact fun _ k => blk_of rfl rfl k | exact fun _ k => vec_of rfl k | exact fun _ k => blk_of rfl rfl (blk_to rfl rfl k) | exact fun _ k => vec_of rfl (vec_to rfl k) | exact fun _ k => mp_to rfl k | exact fun _ k => mp_of rfl k | exact fun _ k => mp_of rfl (mp_to rfl k)) (fun h k => sat_pick 1 rfl (by first | exact fun _ k => k | exact fun _ k => blk_to rfl rfl k | exact fun _ k => vec_to rfl k | exact fun _ k => blk_of rfl rfl k | exact fun _ k => vec_of rfl k | exact fun _ k => blk_of rfl rfl (blk_to rfl rfl k) | exact fun _ k => vec_of rfl (vec_to rfl k) | exact fun _ k => mp_to rfl k | exact fun _ k => mp_of rfl k | exact fun _ k => mp_of rfl (mp_to rfl k)) (fun h k => sat_nil k) k) k) h k
theorem ends_last {B B' : BA} {id r : Int} {ok : Bool} {g : List Int} (h : EndsA B id ok g r B') : B'.last = B.last := by cases h <;> rfl
theorem done_own (x : RB) (B B' : BA) (pl : Plc) (c : Nat) (pr : Plc) (d : Nat) (id : Int) (ok : Bool) (g : List Int) (r : Int) (inv : AInv B) (hE : EndsA B id ok g r B') (rl : Rl x B) (hl : B.es.length ≤ 1000000) (hc : x.l.length ≤ c) :
    Does Try.prog 71 #[.agg (x.vals (locAddr 0 pl) c (locAddr 0 pr) d).toArray, .int .i64 id, .bool ok] (fun _ => True) (Own x pl c pr d)
      (fun v q => ∃ y pl' c' pr' d' pg cg, Rl y B' ∧ y.l.length ≤ c' ∧ v = .tuple #[.agg (y.vals (locAddr 0 pl') c' (locAddr 0 pr') d').toArray, .slice (locAddr 0 pg) g.length cg, .int .i64 r] ∧ q = Own y pl' c' pr' d' ++ [Vec pg 3 1 cg (I.flat g)]) := by
  have hfew := inv.few
  have spec := rdone_spec x B B' (locAddr 0 pl) c (locAddr 0 pr) d id ok g r inv hE rl.es rl.rdy (by rw [rl.es.len]; exact hl) (by rw [rl.rdy]; omega) hc
  refine (frameR (Own x pl c pr d) spec (fun f f' b s k => own_reads s k)).post ?_
  rintro v q ⟨q', ⟨y, h1, h2, h3, h4, hq⟩, rfl⟩
  have rly : Rl y B' := ⟨h1, h2, by rw [h3, h4, rl.last, ends_last hE]⟩
  rcases hq with ⟨rfl, rfl, rfl, rfl⟩ | ⟨p, c', rfl, hyr, rfl, hc', rfl⟩ | ⟨p, c', p2, d', rfl, rfl, hc', rfl⟩ | ⟨p, c', p3, cg, rfl, hyr, hc', rfl⟩
  · exact ⟨_, ⟨y, pl, c, pr, d, .nil, 0, rly, hc, rfl, rfl⟩, (fun h k => sat_pick 0 rfl (by first | exact fun _ k => k | exact fun _ k => blk_to rfl rfl k | exact fun _ k => vec_to rfl k | exact fun _ k => blk_of rfl rfl k | exact fun _ k => vec_of rfl k | exact fun _ k => blk_of rfl rfl (blk_to rfl rfl k) | exact fun _ k => vec_of rfl (vec_to rfl k) | exact fun _ k => mp_to rfl k | exact fun _ k => mp_of rfl k | exact fun _ k => mp_of rfl (mp_to rfl k)) (fun h k => sat_pick 0 rfl (by first | exact fun _ k => k | exact fun _ k => blk_to rfl rfl k | exact fun _ k => vec_to rfl k | exact fun _ k => blk_of rfl rfl k | exact fun _ k => vec_of rfl k | exact fun _ k => blk_of rfl rfl (blk_to rfl rfl k) | exact fun _ k => vec_of rfl (vec_to rfl k) | exact fun _ k => mp_to rfl k | exact fun _ k => mp_of rfl k | exact fun _ k => mp_of rfl (mp_to rfl k)) (fun h k => sat_add vec_emp ((fun h k => sat_nil k) h k)) k) k)⟩
  · refine ⟨_, ⟨y, p, c', pr, d, .nil, 0, rly, hc', rfl, rfl⟩, ?_⟩
    simp only [Own, hyr]
    exact (fun h k => sat_pick 0 rfl (by first | exact fun _ k => k | exact fun _ k => blk_to rfl rfl k | exact fun _ k => vec_to rfl k | exact fun _ k => blk_of rfl rfl k | exact fun _ k => vec_of rfl k | exact fun _ k => blk_of rfl rfl (blk_to rfl rfl k) | exact fun _ k => vec_of rfl (vec_to rfl k) | exact fun _ k => mp_to rfl k | exact fun _ k => mp_of rfl k | exact fun _ k => mp_of rfl (mp_to rfl k)) (fun h k => sat_pick 1 rfl (by first | exact fun _ k => k | exact fun _ k => blk_to rfl rfl k | exact fun _ k => vec_to rfl k | exact fun _ k => blk_of rfl rfl k | exact fun _ k => vec_of rfl k | exact fun _ k => blk_of rfl rfl (blk_to rfl rfl k) | exact fun _ k => vec_of rfl (vec_to rfl k) | exact fun _ k => mp_to rfl k | exact fun _ k => mp_of rfl k | exact fun _ k => mp_of rfl (mp_to rfl k)) (fun h k => sat_add vec_emp ((fun h k => sat_nil k) h k)) k) k)
  · exact ⟨_, ⟨y, p, c', p2, d', .nil, 0, rly, hc', rfl, rfl⟩, (fun h k => sat_pick 0 rfl (by first | exact fun _ k => k | exact fun _ k => blk_to rfl rfl k | exact fun _ k => vec_to rfl k | exact fun _ k => blk_of rfl rfl k | exact fun _ k => vec_of rfl k | exact fun _ k => blk_of rfl rfl (blk_to rfl rfl k) | exact fun _ k => vec_of rfl (vec_to rfl k) | exact fun _ k => mp_to rfl k | exact fun _ k => mp_of rfl k | exact fun _ k => mp_of rfl (mp_to rfl k)) (fun h k => sat_pick 0 rfl (by first | exact fun _ k => k | exact fun _ k => blk_to rfl rfl k | exact fun _ k => vec_to rfl k | exact fun _ k => blk_of rfl rfl k | exact fun _ k => vec_of rfl k | exact fun _ k => blk_of rfl rfl (blk_to rfl rfl k) | exact fun _ k => vec_of rfl (vec_to rfl k) | exact fun _ k => mp_to rfl k | exact fun _ k => mp_of rfl k | exact fun _ k => mp_of rfl (mp_to rfl k)) (fun h k => sat_add vec_emp ((fun h k => sat_nil k) h k)) k) k)⟩
  · refine ⟨_, ⟨y, p, c', pr, d, p3, cg, rly, hc', rfl, rfl⟩, ?_⟩
    simp only [Own, hyr]
    exact (fun h k => sat_pick 0 rfl (by first | exact fun _ k => k | exact fun _ k => blk_to rfl rfl k | exact fun _ k => vec_to rfl k | exact fun _ k => blk_of rfl rfl k | exact fun _ k => vec_of rfl k | exact fun _ k => blk_of rfl rfl (blk_to rfl rfl k) | exact fun _ k => vec_of rfl (vec_to rfl k) | exact fun _ k => mp_to rfl k | exact fun _ k => mp_of rfl k | exact fun _ k => mp_of rfl (mp_to rfl k)) (fun h k => sat_pick 2 rfl (by first | exact fun _ k => k | exact fun _ k => blk_to rfl rfl k | exact fun _ k => vec_to rfl k | exact fun _ k => blk_of rfl rfl k | exact fun _ k => vec_of rfl k | exact fun _ k => blk_of rfl rfl (blk_to rfl rfl k) | exact fun _ k => vec_of rfl (vec_to rfl k) | exact fun _ k => mp_to rfl k | exact fun _ k => mp_of rfl k | exact fun _ k => mp_of rfl (mp_to rfl k)) (fun h k => sat_pick 0 rfl (by first | exact fun _ k => k | exact fun _ k => blk_to rfl rfl k | exact fun _ k => vec_to rfl k | exact fun _ k => blk_of rfl rfl k | exact fun _ k => vec_of rfl k | exact fun _ k => blk_of rfl rfl (blk_to rfl rfl k) | exact fun _ k => vec_of rfl (vec_to rfl k) | exact fun _ k => mp_to rfl k | exact fun _ k => mp_of rfl k | exact fun _ k => mp_of rfl (mp_to rfl k)) (fun h k => sat_nil k) k) k) k)
end Go.Proofs.Ytlgdagjbphafcaa.Ch
