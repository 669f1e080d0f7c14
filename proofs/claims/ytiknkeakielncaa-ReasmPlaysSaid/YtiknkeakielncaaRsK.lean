/- reasm: the table, told of what waits alone. Conditions: none. -/
import Derived.Test.YtiknkeakielncaaRsJ
namespace Go.Proofs.Ytiknkeakielncaa.Rs
open Go Go.Proofs Sx
set_option maxRecDepth 100000
set_option linter.unusedVariables false
set_option linter.unusedSimpArgs false
set_option maxHeartbeats 4000000

theorem Does.wrap {P : Program} {g : FuncId} {vals : Array Value} {R : HP → Prop} {ι : Type} {pre : ι → List Asn} {Q : ι → Value → List Asn → Prop} {A : List Asn} {Q' : Value → List Asn → Prop} (he : Enters P g)
    (hA : ∀ h, sat A h → ∃ i, sat (pre i) h) (hd : ∀ i, Does P g vals R (pre i) (Q i)) (hq : ∀ i v p h, Q i v p → sat p h → ∃ p', Q' v p' ∧ sat p' h) : Does P g vals R A Q' :=
  ⟨he, fun f w hR ⟨x, s, k⟩ => by
    obtain ⟨i, k⟩ := hA x k
    refine ((hd i).run f w hR ⟨x, s, k⟩).mono ?_
    rintro _ _ ⟨v, post, h1, ⟨y, s2, k2⟩, h3, h4⟩
    obtain ⟨p', a, b⟩ := hq i v post y h3 k2
    exact ⟨v, p', h1, ⟨y, s2, b⟩, a, h4⟩⟩
structure Told (b : Nat) (most life n : Int) (M : List Mp) (z : Tb × List Kp) : Prop where
  hb : z.1.b = b
  hm : z.1.most = most
  hl : z.1.life = life
  h0 : 0 ≤ z.1.next
  hn : z.1.next ≤ n
  ok : TbOK z.1 z.2
  hM : z.2.map Kp.m = M
/-- A table in which M waits; it was asked for at most n packets. -/
def TA (b : Nat) (most life n : Int) (M : List Mp) : Asn := fun h => ∃ z, Told b most life n M z ∧ sat (TbL z.1 z.2) h
theorem ta_out {b : Nat} {most life n : Int} {M : List Mp} {Cs : List Asn} {h : HP} (k : sat (TA b most life n M :: Cs) h) : ∃ z : { z : Tb × List Kp // Told b most life n M z }, sat (TbL z.1.1 z.1.2 ++ Cs) h := by
  obtain ⟨x, y, t, ⟨z, hz, k⟩, hy⟩ := k
  exact ⟨⟨z, hz⟩, sat_join t k hy⟩
theorem ta_out1 {b : Nat} {most life n : Int} {M : List Mp} {h : HP} (k : sat [TA b most life n M] h) : ∃ z : { z : Tb × List Kp // Told b most life n M z }, sat (TbL z.1.1 z.1.2) h := by
  obtain ⟨z, k⟩ := ta_out k
  rw [List.append_nil] at k
  exact ⟨z, k⟩
theorem ta_in {b : Nat} {most life n : Int} {M : List Mp} {z : Tb × List Kp} {Cs : List Asn} {h : HP} (hz : Told b most life n M z) (k : sat (TbL z.1 z.2 ++ Cs) h) : sat (TA b most life n M :: Cs) h := by
  obtain ⟨x, y, t, hx, hy⟩ := sat_append k
  exact ⟨x, y, t, ⟨z, hz, hx⟩, hy⟩
theorem tnew_spec (most life : Int) : Does Try.prog 22 #[.int .i64 most, .int .i64 life] (fun _ => True) []
    (fun v q => (newOK most life = false ∧ v = .tuple #[.pointer none, .int .i64 1] ∧ q = []) ∨ (newOK most life = true ∧ ∃ b, v = .tuple #[pp b, .int .i64 0] ∧ q = [TA b most life 0 []])) := by
  refine (new_spec most life).opens ?_
  rintro v q h (⟨h1, rfl, rfl⟩ | ⟨h1, b, mb, rfl, rfl⟩) k
  · exact ⟨_, .inl ⟨h1, rfl, rfl⟩, k⟩
  · refine ⟨_, .inr ⟨h1, b, rfl, rfl⟩, ta_in (z := (⟨b, mb, most, life, 0⟩, [])) ⟨rfl, rfl, rfl, Int.le_refl _, Int.le_refl _, ⟨by simp, .nil, by simp, .nil, by simp⟩, rfl⟩ (by rw [List.append_nil]; exact k)⟩
theorem tadd_spec (b : Nat) (most life n : Int) (M : List Mp) (now : Int) (i : Ip) (hf : i.Fits) (hm : most ≤ 64) (hl : 0 ≤ life ∧ life ≤ 65535) (hn : n ≤ 1000000000) :
    Does Try.prog 24 #[pp b, .int .i64 now, .agg i.vals.toArray] i.Sees [TA b most life n M]
      (fun v q => ∃ M' r dn e own, v = .tuple #[.agg r.vals.toArray, .bool dn, .int .i64 e] ∧ AddP most life now i.p M M' r.p dn e ∧ OwnR r dn own ∧ q = TA b most life (n + 1) M' :: own) := by
  refine Does.wrap (ι := { z : Tb × List Kp // Told b most life n M z }) (pre := fun z => TbL z.1.1 z.1.2) (Q := fun z => AddQ z.1.1 z.1.2 now i.p) Try.call24 (fun h k => ta_out1 k) (fun z => ?_) ?_
  · obtain ⟨⟨t, L⟩, hz⟩ := z
    have h1 := hz.hb
    simp only at h1 ⊢
    rw [← h1]
    exact add_spec t L hz.ok now i hf (by have := hz.hm; simp only at this; omega) (by have := hz.hl; simp only at this; omega) ⟨hz.h0, by have := hz.hn; simp only at this; omega⟩
  · rintro ⟨⟨t, L⟩, hz⟩ v p h ⟨t', L', r, dn, e, own, rfl, q1, q2, q3, q4, q5, q6, q7, q8, rfl⟩ k
    have a1 := hz.hb; have a2 := hz.hm; have a3 := hz.hl; have a4 := hz.h0; have a5 := hz.hn; have a6 := hz.hM
    simp only at a1 a2 a3 a4 a5 a6 q1 q2 q3 q4 q5 q7
    rw [a2, a3, a6] at q7
    exact ⟨_, ⟨L'.map Kp.m, r, dn, e, own, rfl, q7, q8, rfl⟩, ta_in (z := (t', L')) ⟨q1.trans a1, q2.trans a2, q3.trans a3, by simp only; omega, by simp only; omega, q6, rfl⟩ k⟩
theorem tlen_spec (b : Nat) (most life n : Int) (M : List Mp) : Does Try.prog 26 #[pp b] (fun _ => True) [TA b most life n M] (fun v q => v = .int .i64 M.length ∧ q = [TA b most life n M]) := by
  refine Does.wrap (ι := { z : Tb × List Kp // Told b most life n M z }) (pre := fun z => TbL z.1.1 z.1.2) (Q := fun z v q => v = .int .i64 z.1.2.length ∧ q = TbL z.1.1 z.1.2) Try.call26 (fun h k => ta_out1 k) (fun z => ?_) ?_
  · have h1 := z.2.hb
    have := len_spec z.1.1 z.1.2 z.2.ok
    rw [h1] at this
    exact this
  · rintro z v p h ⟨rfl, rfl⟩ k
    exact ⟨_, ⟨by rw [show z.1.2.length = M.length from (List.length_map (f := Kp.m)).symm.trans (congrArg List.length z.2.hM)], rfl⟩, ta_in z.2 (by rw [List.append_nil]; exact k)⟩
def nextM (l : List Mp) : Int × Bool := l.foldl (fun a x => if !a.2 || decide (x.till < a.1) then (x.till, true) else a) (0, false)
theorem next_m (l : List Kp) : nextS l = nextM (l.map Kp.m) := by
  unfold nextS nextM
  rw [List.foldl_map]
  rfl
theorem tnext_spec (b : Nat) (most life n : Int) (M : List Mp) : Does Try.prog 50 #[pp b] (fun _ => True) [TA b most life n M] (fun v q => v = .tuple #[.int .i64 (nextM M).1, .bool (nextM M).2] ∧ q = [TA b most life n M]) := by
  refine Does.wrap (ι := { z : Tb × List Kp // Told b most life n M z }) (pre := fun z => TbL z.1.1 z.1.2) (Q := fun z v q => v = .tuple #[.int .i64 (nextS z.1.2).1, .bool (nextS z.1.2).2] ∧ q = TbL z.1.1 z.1.2) Try.call50 (fun h k => ta_out1 k) (fun z => ?_) ?_
  · have h1 := z.2.hb
    have := next_spec z.1.1 z.1.2 z.2.ok
    rw [h1] at this
    exact this
  · rintro z v p h ⟨rfl, rfl⟩ k
    exact ⟨_, ⟨by rw [show nextS z.1.2 = nextM M from (next_m _).trans (congrArg nextM z.2.hM)], rfl⟩, ta_in z.2 (by rw [List.append_nil]; exact k)⟩
def heldT (ts : List T) : Int := (ts.map fun s => (s.2.length : Int)).sum
def heldM (M : List Mp) : Int := (M.map fun x => heldT x.ts).sum
theorem held_m (l : List Kp) : heldS l = heldM (l.map Kp.m) := by
  unfold heldS heldM
  rw [List.map_map]
  congr 1
  refine List.map_congr_left fun x _ => ?_
  unfold heldP heldT Kp.m Pk.ts
  simp only [Function.comp_apply, List.map_map]
  rfl
theorem theld_spec (b : Nat) (most life n : Int) (M : List Mp) : Does Try.prog 52 #[pp b] (fun _ => True) [TA b most life n M] (fun v q => v = .int .i64 (heldM M) ∧ q = [TA b most life n M]) := by
  refine Does.wrap (ι := { z : Tb × List Kp // Told b most life n M z }) (pre := fun z => TbL z.1.1 z.1.2) (Q := fun z v q => v = .int .i64 (heldS z.1.2) ∧ q = TbL z.1.1 z.1.2) Try.call52 (fun h k => ta_out1 k) (fun z => ?_) ?_
  · have h1 := z.2.hb
    have := held_spec z.1.1 z.1.2 z.2.ok (fun x hx => ⟨by have := ll_len (z.2.ok.ok x hx); omega, fun s hs => by
      have := (z.2.ok.ok x hx).lo s hs
      have e : s.stop = s.at_ + s.bs.length := rfl
      omega⟩)
    rw [h1] at this
    exact this
  · rintro z v p h ⟨rfl, rfl⟩ k
    exact ⟨_, ⟨by rw [show heldS z.1.2 = heldM M from (held_m _).trans (congrArg heldM z.2.hM)], rfl⟩, ta_in z.2 (by rw [List.append_nil]; exact k)⟩
def lateM (now : Int) (M : List Mp) : List Mp := M.filter (fun x => decide (x.till ≤ now))
def keepM (now : Int) (M : List Mp) : List Mp := M.filter (fun x => decide (now < x.till))
theorem texpire_spec (b : Nat) (most life n : Int) (M : List Mp) (now : Int) : Does Try.prog 46 #[pp b, .int .i64 now] (fun _ => True) [TA b most life n M]
    (fun v q => ∃ Y pl c, v = .slice (locAddr 0 pl) Y.length c ∧ Y.length ≤ c ∧ Y.map Fst.i = (lateM now M).filterMap Mp.fi ∧ q = [TA b most life n (keepM now M), Vec pl 40 11 c (IL.flat (Y.map Fst.ip)), Fs Y]) := by
  refine Does.wrap (ι := { z : Tb × List Kp // Told b most life n M z }) (pre := fun z => TbL z.1.1 z.1.2) (Q := fun z v q => ∃ pl c, v = .slice (locAddr 0 pl) (firsts (lateL now z.1.2)).length c ∧ (firsts (lateL now z.1.2)).length ≤ c ∧ q = TbL z.1.1 (keepL now z.1.2) ++ [Vec pl 40 11 c (IL.flat ((firsts (lateL now z.1.2)).map Fst.ip)), Fs (firsts (lateL now z.1.2))]) Try.call46 (fun h k => ta_out1 k) (fun z => ?_) ?_
  · have h1 := z.2.hb
    have := expire_spec z.1.1 z.1.2 z.2.ok now
    rw [h1] at this
    exact this
  · rintro ⟨⟨t, L⟩, hz⟩ v p h ⟨pl, c, rfl, hc, rfl⟩ k
    have a1 := hz.hb; have a2 := hz.hm; have a3 := hz.hl; have a4 := hz.h0; have a5 := hz.hn; have a6 := hz.hM; have a7 := hz.ok
    simp only at a1 a2 a3 a4 a5 a6 a7
    have hsub : (keepL now L).Sublist L := List.filter_sublist
    refine ⟨_, ⟨firsts (lateL now L), pl, c, rfl, hc, ?_, rfl⟩, ta_in (z := (t, keepL now L)) ⟨a1, a2, a3, a4, a5, ⟨fun x hx => a7.ok x (hsub.subset hx), a7.num.sublist hsub, fun x hx => a7.next x (hsub.subset hx), a7.keys.sublist hsub, Nat.le_trans hsub.length_le a7.few⟩, ?_⟩ k⟩
    · rw [← a6]
      unfold firsts lateL lateM
      rw [List.filter_map, List.filterMap_map, List.map_filterMap]
      rfl
    · rw [← a6]
      unfold keepL keepM
      rw [List.filter_map]
      rfl
end Go.Proofs.Ytiknkeakielncaa.Rs
