/- The reference of chain: Done. Conditions: none. -/
import Derived.Test.YtlgdagjbphafcaaChS
namespace Go.Proofs.Ytlgdagjbphafcaa.Ch
open Go Go.Proofs Sx
set_option maxRecDepth 100000
set_option linter.unusedVariables false
set_option maxHeartbeats 4000000

def DoneQ (x : RB) (A : Option Addr) (c : Nat) (D : Option Addr) (d : Nat) (B' : BA) (g : List Int) (r : Int) (v : Value) (q : List Asn) : Prop :=
  ∃ y : RB, Kp y.l B'.es ∧ y.ready = B'.ready ∧ y.last = x.last ∧ y.has = x.has ∧
    ((v = .tuple #[.agg (x.vals A c D d).toArray, .slice none 0 0, .int .i64 r] ∧ y = x ∧ g = [] ∧ q = []) ∨
     (∃ p c', v = .tuple #[.agg (y.vals (locAddr 0 p) c' D d).toArray, .slice none 0 0, .int .i64 r] ∧ y.ready = x.ready ∧ g = [] ∧ y.l.length ≤ c' ∧ q = [Vec p 179 5 c' (O.flat y.l)]) ∨
     (∃ p c' p2 d', v = .tuple #[.agg (y.vals (locAddr 0 p) c' (locAddr 0 p2) d').toArray, .slice none 0 0, .int .i64 r] ∧ g = [] ∧ y.l.length ≤ c' ∧ q = [Vec p 179 5 c' (O.flat y.l), Vec p2 3 1 d' (I.flat y.ready)]) ∨
     (∃ p c' p3 cg, v = .tuple #[.agg (y.vals (locAddr 0 p) c' D d).toArray, .slice (locAddr 0 p3) g.length cg, .int .i64 r] ∧ y.ready = x.ready ∧ y.l.length ≤ c' ∧ q = [Vec p 179 5 c' (O.flat y.l), Vec p3 3 1 cg (I.flat g)]))
theorem Kp.set {L : List RO} {es : List EA} (h : Kp L es) {j : Nat} {e' : RO} {n : EA} (hn : es[j]? = some n) (f : EA → EA) (hk : e'.key = (f n).key) : Kp (L.set j e') (es.modify j f) := by
  unfold Kp at *
  refine List.ext_getElem? fun i => ?_
  rw [List.getElem?_map, List.getElem?_map, List.getElem?_set, List.getElem?_modify]
  have hi : L[i]?.map RO.key = es[i]?.map EA.key := by rw [← List.getElem?_map, h, List.getElem?_map]
  have hl : L.length = es.length := by have := congrArg List.length h; simpa using this
  have hj := (List.getElem?_eq_some_iff.1 hn).1
  by_cases e : j = i
  · subst e
    rw [if_pos rfl, if_pos (by omega), hn]
    simp [hk]
  · rw [if_neg e]
    simp only [if_neg e]
    rw [hi]; cases es[i]? <;> rfl
theorem getD_at2 {α : Type} {l : List α} {k : Nat} (d : α) (h : k < l.length) : l[k]? = some (l.getD k d) := by
  rw [List.getD_eq_getElem?_getD, List.getElem?_eq_getElem h]; rfl
theorem O_cell {l : List RO} {i : Nat} {e : RO} (h : l[i]? = some e) (j : Nat) {v : Value} (hv : (O.cells e)[j]? = some v) : (O.flat l)[i * 5 + j]? = some v := O.flat_at h hv
theorem rdone_spec (x : RB) (B B' : BA) (A : Option Addr) (c : Nat) (D : Option Addr) (d : Nat) (id : Int) (ok : Bool) (g : List Int) (r : Int) (inv : AInv B) (hE : EndsA B id ok g r B') (hk : Kp x.l B.es) (hrd : x.ready = B.ready)
    (hl : x.l.length ≤ 1000000) (hr : x.ready.length ≤ 1000000) (hc : x.l.length ≤ c) :
    Does Try.prog 71 #[.agg (x.vals A c D d).toArray, .int .i64 id, .bool ok] (fun f => Reads f A (O.flat x.l) ∧ Reads f D (I.flat x.ready)) [] (DoneQ x A c D d B' g r) := by
  refine Does.of Try.func71 Try.call71 rfl [.agg (x.svs A c D d), .int .i64 id, .bool ok] [] 0 [] rfl rfl (fun h k => k) (fun f hR => ?_)
  obtain ⟨hL, hD⟩ := hR
  intro b1 b2
  cases hE with
  | no h0 =>
    refine useR (.int .i64 (plc (fun e => e.id == id) x.l)) (rplace_spec x.l A c id (by omega)) rfl (fun f' b' hs _ => hL.frame hs) rfl ?_
    cases hi : x.l.findIdx? (fun e => e.id == id) with
    | none =>
      rw [plc_none hi]
      refine Br.mk (fun _ => ?_) (fun h => absurd h (by decide))
      exact FinOb.mk [.agg (x.vals A c D d).toArray, .slice none 0 0, .int .i64 6] [] rfl (fun h k => trivial) ⟨x, hk, hrd, rfl, rfl, .inl ⟨rfl, rfl, rfl, rfl⟩⟩
    | some i =>
      obtain ⟨h2, e', h3, h4⟩ := plc_some hi
      have hlt := (List.getElem?_eq_some_iff.1 h3).1
      obtain ⟨a, a1, a2⟩ := hk.at h3
      have htl : e'.told = false := by rw [key_told a2]; exact h0 a (List.mem_of_getElem? a1) (by rw [← key_id a2]; simpa using h4)
      obtain ⟨ba, o, hAe, hf⟩ := hL.lay (by decide) h3
      rw [h2]
      refine Br.mk (fun h => absurd h (by simp)) (fun _ => ?_)
      refine Need.mk ⟨Int.natCast_nonneg i, by simpa using hlt⟩ (RawAt.mk ba o hAe ?_)
      refine RdRaw.mk (.bool e'.told) _ rfl (hf 4 _ rfl) ?_
      refine CondOb.split (fun _ => ?_) (fun h => absurd h (by rw [htl]; decide))
      exact FinOb.mk [.agg (x.vals A c D d).toArray, .slice none 0 0, .int .i64 6] [] rfl (fun h k => trivial) ⟨x, hk, hrd, rfl, rfl, .inl ⟨rfl, rfl, rfl, rfl⟩⟩
  | last e he hid ht hb =>
    obtain ⟨i, hbi⟩ := mem_at he
    obtain ⟨e', hi', hkey⟩ := hk.at' hbi
    have hlt := (List.getElem?_eq_some_iff.1 hi').1
    have hixb := ixA_at inv.ids hbi
    have hix : x.l.findIdx? (fun e => e.id == id) = some i := by rw [hk.place, ← hid]; exact hixb
    obtain ⟨h2, _⟩ := plc_some hix
    have htl : e'.told = true := by rw [key_told hkey]; exact ht
    have hfl := key_flags hkey
    obtain ⟨ba, o, hAe, hf⟩ := hL.lay (by decide) hi'
    have wspec := rwithout_spec x.l A c i hl hc hlt
    refine useR (.int .i64 i) (by rw [← h2]; exact rplace_spec x.l A c id (by omega)) rfl (fun f' b' hs _ => hL.frame hs) rfl ?_
    refine Br.mk (fun h => absurd h (by simp)) (fun _ => ?_)
    refine Need.mk ⟨Int.natCast_nonneg i, by simpa using hlt⟩ (RawAt.mk ba o hAe ?_)
    refine RdRaw.mk (.bool e'.told) _ rfl (hf 4 _ rfl) ?_
    refine CondOb.split (fun h => absurd h (by rw [htl]; decide)) (fun _ => ?_)
    refine Need.mk ⟨Int.natCast_nonneg i, by simpa using hlt⟩ (RawAt.mk ba o hAe ?_)
    refine RdRaw.mk (.int .i64 e'.flags) _ rfl (hf 1 _ rfl) ?_
    have hbn := behind_no inv (fun a ha => ha) he hb
    rw [hid, ← hk.behind] at hbn
    refine useR (.int .i64 (-1)) (by rw [← plc_none hbn]; exact rbehind_spec x.l A c id (by omega)) rfl (fun f' b' hs _ => hL.frame hs) rfl ?_
    refine CondOb.split (fun h => absurd h (by decide)) (fun _ => ?_)
    refine call_ix wspec rfl [] (fun h k => sat_pick 0 rfl (by first | exact fun _ k => k | exact fun _ k => blk_to rfl rfl k | exact fun _ k => vec_to rfl k | exact fun _ k => blk_of rfl rfl k | exact fun _ k => vec_of rfl k | exact fun _ k => blk_of rfl rfl (blk_to rfl rfl k) | exact fun _ k => vec_of rfl (vec_to rfl k) | exact fun _ k => mp_to rfl k | exact fun _ k => mp_of rfl k | exact fun _ k => mp_of rfl (mp_to rfl k)) (fun h k => sat_pick 0 rfl (by first | exact fun _ k => k | exact fun _ k => blk_to rfl rfl k | exact fun _ k => vec_to rfl k | exact fun _ k => blk_of rfl rfl k | exact fun _ k => vec_of rfl k | exact fun _ k => blk_of rfl rfl (blk_to rfl rfl k) | exact fun _ k => vec_of rfl (vec_to rfl k) | exact fun _ k => mp_to rfl k | exact fun _ k => mp_of rfl k | exact fun _ k => mp_of rfl (mp_to rfl k)) (fun h k => sat_nil k) k) k) (fun f' b' hs _ => hL.frame hs) ?_
    rintro v post ⟨p, c', rfl, hc', hpat, rfl⟩
    refine ⟨.sl 2 0 (x.l.eraseIdx i).length c', [(2, p), (1, .at b2 0), (0, .at b1 0)], 3, [.vec 2 179 5 c' (O.flat (x.l.eraseIdx i))], NmExt.push rfl, rfl, (fun h k => sat_pick 0 rfl (by first | exact fun _ k => k | exact fun _ k => blk_to rfl rfl k | exact fun _ k => vec_to rfl k | exact fun _ k => blk_of rfl rfl k | exact fun _ k => vec_of rfl k | exact fun _ k => blk_of rfl rfl (blk_to rfl rfl k) | exact fun _ k => vec_of rfl (vec_to rfl k) | exact fun _ k => mp_to rfl k | exact fun _ k => mp_of rfl k | exact fun _ k => mp_of rfl (mp_to rfl k)) (fun h k => sat_nil k) k), ?_⟩
    have hke : Kp (x.l.eraseIdx i) (lessA id B.es) := by
      have := hk.erase i
      rw [eraseA inv.ids hbi, hid] at this
      exact this
    refine CondOb.split (fun _ => ?_) (fun h => absurd h (by decide))
    refine FinOb.mk [.agg #[.slice (locAddr 0 p) (x.l.eraseIdx i).length c', .slice D x.ready.length d, .int .i64 x.last, .bool x.has], .slice none 0 0, .int .i64 0] [Vec p 179 5 c' (O.flat (x.l.eraseIdx i))] rfl ?_ ⟨{ x with l := x.l.eraseIdx i }, hke, hrd, rfl, rfl, .inr (.inl ⟨p, c', rfl, rfl, rfl, hc', rfl⟩)⟩
    exact (fun h k => sat_pick 2 rfl (fun _ k => vec_to (l := p) rfl k) (fun h k => sat_nil k) k)
  | next e m he hid ht hb hok =>
    obtain ⟨i, hbi⟩ := mem_at he
    obtain ⟨e', hi', hkey⟩ := hk.at' hbi
    have hlt := (List.getElem?_eq_some_iff.1 hi').1
    have hixb := ixA_at inv.ids hbi
    have hix : x.l.findIdx? (fun e => e.id == id) = some i := by rw [hk.place, ← hid]; exact hixb
    obtain ⟨h2, _⟩ := plc_some hix
    have htl : e'.told = true := by rw [key_told hkey]; exact ht
    have hfl := key_flags hkey
    obtain ⟨ba, o, hAe, hf⟩ := hL.lay (by decide) hi'
    have wspec := rwithout_spec x.l A c i hl hc hlt
    refine useR (.int .i64 i) (by rw [← h2]; exact rplace_spec x.l A c id (by omega)) rfl (fun f' b' hs _ => hL.frame hs) rfl ?_
    refine Br.mk (fun h => absurd h (by simp)) (fun _ => ?_)
    refine Need.mk ⟨Int.natCast_nonneg i, by simpa using hlt⟩ (RawAt.mk ba o hAe ?_)
    refine RdRaw.mk (.bool e'.told) _ rfl (hf 4 _ rfl) ?_
    refine CondOb.split (fun h => absurd h (by rw [htl]; decide)) (fun _ => ?_)
    refine Need.mk ⟨Int.natCast_nonneg i, by simpa using hlt⟩ (RawAt.mk ba o hAe ?_)
    refine RdRaw.mk (.int .i64 e'.flags) _ rfl (hf 1 _ rfl) ?_
    obtain ⟨n, n1, n2, n3⟩ := inv.fwd e he m hb
    obtain ⟨j, n', j1, j2, j3⟩ := behind_one inv (fun a ha => ha) he hb ⟨n, n1, n2⟩
    rw [hid, ← hk.behind] at j1
    obtain ⟨h5, en, h6, _⟩ := plc_some j1
    obtain ⟨_, hn1, hn2⟩ := hk.at' j2
    rw [h6] at hn1
    obtain rfl := Option.some.inj hn1
    have hlt2 := (List.getElem?_eq_some_iff.1 h6).1
    obtain ⟨bn, on, hAn, hfn⟩ := hL.lay (by decide) h6
    have hnid : en.id = m := by rw [key_id hn2]; exact j3
    refine useR (.int .i64 j) (by rw [← h5]; exact rbehind_spec x.l A c id (by omega)) rfl (fun f' b' hs _ => hL.frame hs) rfl ?_
    refine CondOb.split (fun _ => ?_) (fun h => absurd h (by simp))
    refine Need.mk ⟨Int.natCast_nonneg j, by simpa using hlt2⟩ (RawAt.mk bn on hAn ?_)
    refine RdRaw.mk (.int .i64 m) _ rfl (by rw [← hnid]; exact hfn 0 _ rfl) ?_
    refine call_ix wspec rfl [] (fun h k => sat_pick 0 rfl (by first | exact fun _ k => k | exact fun _ k => blk_to rfl rfl k | exact fun _ k => vec_to rfl k | exact fun _ k => blk_of rfl rfl k | exact fun _ k => vec_of rfl k | exact fun _ k => blk_of rfl rfl (blk_to rfl rfl k) | exact fun _ k => vec_of rfl (vec_to rfl k) | exact fun _ k => mp_to rfl k | exact fun _ k => mp_of rfl k | exact fun _ k => mp_of rfl (mp_to rfl k)) (fun h k => sat_pick 0 rfl (by first | exact fun _ k => k | exact fun _ k => blk_to rfl rfl k | exact fun _ k => vec_to rfl k | exact fun _ k => blk_of rfl rfl k | exact fun _ k => vec_of rfl k | exact fun _ k => blk_of rfl rfl (blk_to rfl rfl k) | exact fun _ k => vec_of rfl (vec_to rfl k) | exact fun _ k => mp_to rfl k | exact fun _ k => mp_of rfl k | exact fun _ k => mp_of rfl (mp_to rfl k)) (fun h k => sat_nil k) k) k) (fun f' b' hs _ => hL.frame hs) ?_
    rintro v post ⟨p, c', rfl, hc', hpat, rfl⟩
    refine ⟨.sl 2 0 (x.l.eraseIdx i).length c', [(2, p), (1, .at b2 0), (0, .at b1 0)], 3, [.vec 2 179 5 c' (O.flat (x.l.eraseIdx i))], NmExt.push rfl, rfl, (fun h k => sat_pick 0 rfl (by first | exact fun _ k => k | exact fun _ k => blk_to rfl rfl k | exact fun _ k => vec_to rfl k | exact fun _ k => blk_of rfl rfl k | exact fun _ k => vec_of rfl k | exact fun _ k => blk_of rfl rfl (blk_to rfl rfl k) | exact fun _ k => vec_of rfl (vec_to rfl k) | exact fun _ k => mp_to rfl k | exact fun _ k => mp_of rfl k | exact fun _ k => mp_of rfl (mp_to rfl k)) (fun h k => sat_nil k) k), ?_⟩
    have hke : Kp (x.l.eraseIdx i) (lessA id B.es) := by
      have := hk.erase i
      rw [eraseA inv.ids hbi, hid] at this
      exact this
    refine CondOb.split (fun h => absurd h (by simp)) (fun _ => ?_)
    have hmid : m ≠ id := fun h => inv.self e he (by rw [hb, hid, h])
    obtain ⟨j3, hj3⟩ := mem_at (show n ∈ lessA id B.es from mem_lessA.2 ⟨n1, by rw [n2]; exact hmid⟩)
    have hx3 := ixA_at (less_nodup inv.ids id) hj3
    rw [n2, ← hke.place] at hx3
    obtain ⟨h8, e3, g8, _⟩ := plc_some hx3
    have hlt3 := (List.getElem?_eq_some_iff.1 g8).1
    have hel : (x.l.eraseIdx i).length ≤ x.l.length := by rw [List.length_eraseIdx]; split <;> omega
    have hkf : Kp ((x.l.eraseIdx i).set j3 { e3 with tied := false }) (freeA m (lessA id B.es)) := by
      obtain ⟨e3', q1, q2⟩ := hke.at' hj3
      rw [g8] at q1
      obtain rfl := Option.some.inj q1
      have := hke.set (e' := { e3 with tied := false }) hj3 (fun n => { n with ahead := none }) (by
        have h1 := key_id q2; have h2 := key_flags q2; have h3 := key_told q2
        simp only [RO.key, EA.key, h1, h2, h3]; rfl)
      rw [modifyA (less_nodup inv.ids id) hj3, n2] at this
      exact this
    refine Br.mk (fun go => ?_) (fun go => ?_)
    · intro b3
      refine Need.mk (by rw [lO]; omega) ?_
      refine StOb.mk [] rfl (Need.mk (by simp) (Need.mk ⟨by omega, by simp only [maxLen]; omega, fun v hv => O.flat_one' _ v (List.drop_subset _ _ (List.take_subset _ _ hv))⟩ ?_))
      refine NewSl.sure (fun p2 c2 hp2 hc2 => ?_)
      have e7 : List.take (0 * 5) (List.drop 0 []) ++ List.take ((x.l.eraseIdx i).length * 5) (List.drop 0 (O.flat (x.l.eraseIdx i))) = O.flat (x.l.eraseIdx i) := by
        rw [Nat.zero_mul, List.take_zero, List.nil_append, List.drop_zero, List.take_of_length_le (by rw [lO]; exact Nat.le_refl _)]
      have spec := rplace_spec (x.l.eraseIdx i) (locAddr 0 p2) c2 m (by omega)
      rw [h8, ← Nat.zero_add (x.l.eraseIdx i).length] at spec
      refine DrawOb.mk [(5, [0, 1])] (.run [0, 1, 2, 3, 4, 5, 6, 7, 8] .nil) (by kernel_rfl) ?_
      refine useR (.int .i64 j3) spec rfl (fun f' b' hs hk => (Eq.mp (congrArg (fun ys => Reads f' (locAddr 0 p2) ys) e7) (vec_reads 1 hs hk rfl (l := p2) rfl))) rfl ?_
      obtain ⟨bp, op, rfl⟩ := hp2 (by omega)
      refine Need.mk rfl ?_
      refine Need.mk ⟨Int.natCast_nonneg j3, by omega⟩ ?_
      rw [e7]
      refine StOb.mk [.bool false] rfl (Need.mk (by rw [lO]; simp; omega) ?_)
      intro b7
      refine SrcF.mk (I.flat x.ready) (by rw [lI]; simp) hD ?_
      refine StOb.mk [] rfl (Need.mk (by simp) (Need.mk ⟨by omega, by simp only [maxLen]; omega, (I).flat_one' _⟩ ?_))
      refine NewSl.any (fun l8 c8 hc8 => ?_)
      intro b9
      refine StOb.mk [.int .i64 m] rfl (Need.mk rfl ?_)
      refine Need.mk ⟨by simp [lI], by omega, by omega⟩ ?_
      refine Need.mk ⟨by omega, by simp only [maxLen]; omega, fun v hv => by simp at hv; subst hv; rfl⟩ ?_
      refine NewSl.pos (by omega) (fun b10 o10 c10 hc10 => ?_)
      refine FinOb.mk [.agg #[.slice (some ⟨bp, op, none⟩) (0 + (x.l.eraseIdx i).length) c2, .slice (some ⟨b10, o10, none⟩) (0 + x.ready.length + 1) c10, .int .i64 x.last, .bool x.has], .slice none 0 0, .int .i64 0] [Vec (.at bp op) 179 5 c2 (O.flat ((x.l.eraseIdx i).set j3 { e3 with tied := false })), Vec (.at b10 o10) 3 1 c10 (I.flat (x.ready ++ [m]))] rfl (fun h k => sat_pick 4 rfl (fun _ k => ?_) (fun h k => sat_pick 2 rfl (fun _ k => ?_) (fun h k => sat_nil k) k) k)
        ⟨⟨(x.l.eraseIdx i).set j3 { e3 with tied := false }, x.ready ++ [m], x.last, x.has⟩, hkf, by simp only [hrd], rfl, rfl, .inr (.inr (.inl ⟨.at bp op, c2, .at b10 o10, c10, by simp [RB.vals, ret1, locAddr], rfl, by simpa using hc2, rfl⟩))⟩
      · have k := vec_to (l := .at bp op) rfl k
        have h9 := flat_part O (a' := { e3 with tied := false }) g8 2 (vs := [.bool false]) (by show _ ≤ 5; simp) rfl
        rw [← h9]
        have e8 : j3 * O.sz + 2 = 0 + (j3 : Int).toNat * 5 + 2 := by show j3 * 5 + 2 = 0 + j3 * 5 + 2; omega
        rw [e8]
        exact k
      · have k := vec_to (l := .at b10 o10) rfl k
        have e5 : List.take ((0 + x.ready.length) * 1) (List.drop 0 (List.take (0 * 1) (List.drop 0 []) ++ I.flat x.ready)) ++ [.int .i64 m] = I.flat (x.ready ++ [m]) := by
          rw [Nat.zero_add, Nat.zero_mul, List.take_zero, List.nil_append, List.drop_zero, List.take_of_length_le (by rw [lI]; omega), (I).flat_append]; rfl
        rw [e5] at k
        exact k
    · refine CondOb.split (fun _ => ?_) (fun h => ?_)
      · intro b3
        refine Need.mk (by rw [lO]; omega) ?_
        refine StOb.mk [] rfl (Need.mk (by simp) (Need.mk ⟨by omega, by simp only [maxLen]; omega, fun v hv => O.flat_one' _ v (List.drop_subset _ _ (List.take_subset _ _ hv))⟩ ?_))
        refine NewSl.sure (fun p2 c2 hp2 hc2 => ?_)
        have e7 : List.take (0 * 5) (List.drop 0 []) ++ List.take ((x.l.eraseIdx i).length * 5) (List.drop 0 (O.flat (x.l.eraseIdx i))) = O.flat (x.l.eraseIdx i) := by
          rw [Nat.zero_mul, List.take_zero, List.nil_append, List.drop_zero, List.take_of_length_le (by rw [lO]; exact Nat.le_refl _)]
        have spec := rplace_spec (x.l.eraseIdx i) (locAddr 0 p2) c2 m (by omega)
        rw [h8, ← Nat.zero_add (x.l.eraseIdx i).length] at spec
        refine DrawOb.mk [(5, [0, 1])] (.run [0, 1, 2, 3, 4, 5, 6, 7, 8] .nil) (by kernel_rfl) ?_
        refine useR (.int .i64 j3) spec rfl (fun f' b' hs hk => (Eq.mp (congrArg (fun ys => Reads f' (locAddr 0 p2) ys) e7) (vec_reads 1 hs hk rfl (l := p2) rfl))) rfl ?_
        obtain ⟨bp, op, rfl⟩ := hp2 (by omega)
        refine Need.mk rfl ?_
        refine Need.mk ⟨Int.natCast_nonneg j3, by omega⟩ ?_
        rw [e7]
        refine StOb.mk [.bool false] rfl (Need.mk (by rw [lO]; simp; omega) ?_)
        intro b7
        refine SrcF.mk (I.flat x.ready) (by rw [lI]; simp) hD ?_
        refine StOb.mk [] rfl (Need.mk (by simp) (Need.mk ⟨by omega, by simp only [maxLen]; omega, (I).flat_one' _⟩ ?_))
        refine NewSl.any (fun l8 c8 hc8 => ?_)
        intro b9
        refine StOb.mk [.int .i64 m] rfl (Need.mk rfl ?_)
        refine Need.mk ⟨by simp [lI], by omega, by omega⟩ ?_
        refine Need.mk ⟨by omega, by simp only [maxLen]; omega, fun v hv => by simp at hv; subst hv; rfl⟩ ?_
        refine NewSl.pos (by omega) (fun b10 o10 c10 hc10 => ?_)
        refine FinOb.mk [.agg #[.slice (some ⟨bp, op, none⟩) (0 + (x.l.eraseIdx i).length) c2, .slice (some ⟨b10, o10, none⟩) (0 + x.ready.length + 1) c10, .int .i64 x.last, .bool x.has], .slice none 0 0, .int .i64 0] [Vec (.at bp op) 179 5 c2 (O.flat ((x.l.eraseIdx i).set j3 { e3 with tied := false })), Vec (.at b10 o10) 3 1 c10 (I.flat (x.ready ++ [m]))] rfl (fun h k => sat_pick 4 rfl (fun _ k => ?_) (fun h k => sat_pick 2 rfl (fun _ k => ?_) (fun h k => sat_nil k) k) k)
          ⟨⟨(x.l.eraseIdx i).set j3 { e3 with tied := false }, x.ready ++ [m], x.last, x.has⟩, hkf, by simp only [hrd], rfl, rfl, .inr (.inr (.inl ⟨.at bp op, c2, .at b10 o10, c10, by simp [RB.vals, ret1, locAddr], rfl, by simpa using hc2, rfl⟩))⟩
        · have k := vec_to (l := .at bp op) rfl k
          have h9 := flat_part O (a' := { e3 with tied := false }) g8 2 (vs := [.bool false]) (by show _ ≤ 5; simp) rfl
          rw [← h9]
          have e8 : j3 * O.sz + 2 = 0 + (j3 : Int).toNat * 5 + 2 := by show j3 * 5 + 2 = 0 + j3 * 5 + 2; omega
          rw [e8]
          exact k
        · have k := vec_to (l := .at b10 o10) rfl k
          have e5 : List.take ((0 + x.ready.length) * 1) (List.drop 0 (List.take (0 * 1) (List.drop 0 []) ++ I.flat x.ready)) ++ [.int .i64 m] = I.flat (x.ready ++ [m]) := by
            rw [Nat.zero_add, Nat.zero_mul, List.take_zero, List.nil_append, List.drop_zero, List.take_of_length_le (by rw [lI]; omega), (I).flat_append]; rfl
          rw [e5] at k
          exact k
      · exfalso
        rcases hok with hok | hok
        · rw [hok] at go; cases go
        · rw [hfl] at h; simp at h; omega
  | gone e m ks he hid ht hb hok hfl2 hlk hnd =>
    obtain ⟨i, hbi⟩ := mem_at he
    obtain ⟨e', hi', hkey⟩ := hk.at' hbi
    have hlt := (List.getElem?_eq_some_iff.1 hi').1
    have hixb := ixA_at inv.ids hbi
    have hix : x.l.findIdx? (fun e => e.id == id) = some i := by rw [hk.place, ← hid]; exact hixb
    obtain ⟨h2, _⟩ := plc_some hix
    have htl : e'.told = true := by rw [key_told hkey]; exact ht
    have hfl := key_flags hkey
    obtain ⟨ba, o, hAe, hf⟩ := hL.lay (by decide) hi'
    have wspec := rwithout_spec x.l A c i hl hc hlt
    refine useR (.int .i64 i) (by rw [← h2]; exact rplace_spec x.l A c id (by omega)) rfl (fun f' b' hs _ => hL.frame hs) rfl ?_
    refine Br.mk (fun h => absurd h (by simp)) (fun _ => ?_)
    refine Need.mk ⟨Int.natCast_nonneg i, by simpa using hlt⟩ (RawAt.mk ba o hAe ?_)
    refine RdRaw.mk (.bool e'.told) _ rfl (hf 4 _ rfl) ?_
    refine CondOb.split (fun h => absurd h (by rw [htl]; decide)) (fun _ => ?_)
    refine Need.mk ⟨Int.natCast_nonneg i, by simpa using hlt⟩ (RawAt.mk ba o hAe ?_)
    refine RdRaw.mk (.int .i64 e'.flags) _ rfl (hf 1 _ rfl) ?_
    obtain ⟨n, n1, n2, n3⟩ := inv.fwd e he m hb
    obtain ⟨j, n', j1, j2, j3⟩ := behind_one inv (fun a ha => ha) he hb ⟨n, n1, n2⟩
    rw [hid, ← hk.behind] at j1
    obtain ⟨h5, en, h6, _⟩ := plc_some j1
    obtain ⟨_, hn1, hn2⟩ := hk.at' j2
    rw [h6] at hn1
    obtain rfl := Option.some.inj hn1
    have hlt2 := (List.getElem?_eq_some_iff.1 h6).1
    obtain ⟨bn, on, hAn, hfn⟩ := hL.lay (by decide) h6
    have hnid : en.id = m := by rw [key_id hn2]; exact j3
    refine useR (.int .i64 j) (by rw [← h5]; exact rbehind_spec x.l A c id (by omega)) rfl (fun f' b' hs _ => hL.frame hs) rfl ?_
    refine CondOb.split (fun _ => ?_) (fun h => absurd h (by simp))
    refine Need.mk ⟨Int.natCast_nonneg j, by simpa using hlt2⟩ (RawAt.mk bn on hAn ?_)
    refine RdRaw.mk (.int .i64 m) _ rfl (by rw [← hnid]; exact hfn 0 _ rfl) ?_
    refine call_ix wspec rfl [] (fun h k => sat_pick 0 rfl (by first | exact fun _ k => k | exact fun _ k => blk_to rfl rfl k | exact fun _ k => vec_to rfl k | exact fun _ k => blk_of rfl rfl k | exact fun _ k => vec_of rfl k | exact fun _ k => blk_of rfl rfl (blk_to rfl rfl k) | exact fun _ k => vec_of rfl (vec_to rfl k) | exact fun _ k => mp_to rfl k | exact fun _ k => mp_of rfl k | exact fun _ k => mp_of rfl (mp_to rfl k)) (fun h k => sat_pick 0 rfl (by first | exact fun _ k => k | exact fun _ k => blk_to rfl rfl k | exact fun _ k => vec_to rfl k | exact fun _ k => blk_of rfl rfl k | exact fun _ k => vec_of rfl k | exact fun _ k => blk_of rfl rfl (blk_to rfl rfl k) | exact fun _ k => vec_of rfl (vec_to rfl k) | exact fun _ k => mp_to rfl k | exact fun _ k => mp_of rfl k | exact fun _ k => mp_of rfl (mp_to rfl k)) (fun h k => sat_nil k) k) k) (fun f' b' hs _ => hL.frame hs) ?_
    rintro v post ⟨p, c', rfl, hc', hpat, rfl⟩
    refine ⟨.sl 2 0 (x.l.eraseIdx i).length c', [(2, p), (1, .at b2 0), (0, .at b1 0)], 3, [.vec 2 179 5 c' (O.flat (x.l.eraseIdx i))], NmExt.push rfl, rfl, (fun h k => sat_pick 0 rfl (by first | exact fun _ k => k | exact fun _ k => blk_to rfl rfl k | exact fun _ k => vec_to rfl k | exact fun _ k => blk_of rfl rfl k | exact fun _ k => vec_of rfl k | exact fun _ k => blk_of rfl rfl (blk_to rfl rfl k) | exact fun _ k => vec_of rfl (vec_to rfl k) | exact fun _ k => mp_to rfl k | exact fun _ k => mp_of rfl k | exact fun _ k => mp_of rfl (mp_to rfl k)) (fun h k => sat_nil k) k), ?_⟩
    have hke : Kp (x.l.eraseIdx i) (lessA id B.es) := by
      have := hk.erase i
      rw [eraseA inv.ids hbi, hid] at this
      exact this
    refine CondOb.split (fun h => absurd h (by simp)) (fun _ => ?_)
    have hel : (x.l.eraseIdx i).length ≤ x.l.length := by rw [List.length_eraseIdx]; split <;> omega
    have hk0 : g[0]? = some m := by cases hlk; rfl
    have hgl : g.length ≤ x.l.length := by
      have := len_sub hnd (m := B.es.map EA.id) (fun a ha => by
        obtain ⟨e, he, h⟩ := hlk.mem a ha
        exact List.mem_map.2 ⟨e, (mem_lessA.1 he).1, h⟩)
      rw [hk.len]; simpa using this
    have hg0 : 0 < g.length := by cases hlk; simp
    refine Br.mk (fun go => absurd go (by rw [hok]; decide)) (fun go => ?_)
    refine CondOb.split (fun h => absurd h (by rw [hfl]; simp; omega)) (fun _ => ?_)
    refine LoopOb.mk { z : Nat × List RO × Plc × Nat × Plc × Nat // z.1 < g.length ∧ Kp z.2.1 (notA (g.take z.1) (lessA id B.es)) ∧ z.2.1.length ≤ z.2.2.2.1 ∧ (0 < z.2.1.length → ∃ b o, z.2.2.1 = .at b o) ∧ z.1 ≤ z.2.2.2.2.2 ∧ z.2.1.length ≤ x.l.length }
      (fun z => ⟨113, [(3, .ptr 0 0), (6, .ptr 1 0), (7, .nils), (8, .int .i64 0), (12, .int .i64 (g.getD z.1.1 0)), (13, .sl 3 0 z.1.1 z.1.2.2.2.2.2)], [(3, z.1.2.2.2.2.1), (2, z.1.2.2.1), (1, .at b2 0), (0, .at b1 0)], 4,
        [.blk 0 116 [.sl 2 0 z.1.2.1.length z.1.2.2.2.1, .raw (.slice D x.ready.length d), .int .i64 x.last, .bool x.has], .blk 1 116 [.nils, .nils, .int .i64 0, .ff], .vec 2 179 5 z.1.2.2.2.1 (O.flat z.1.2.1), .vec 3 3 1 z.1.2.2.2.2.2 (I.flat (g.take z.1.1))]⟩) (fun z => g.length - z.1.1)
      ⟨(0, x.l.eraseIdx i, p, c', .nil, 0), hg0, by rw [List.take_zero, notA_nil]; exact hke, hc', hpat, Nat.le_refl _, hel⟩ ?_ ?_
    · have e12 : m = g.getD 0 0 := by rw [List.getD_eq_getElem?_getD, hk0]; rfl
      exact Le.of rfl ⟨⟨_, rfl, rfl⟩, ⟨_, rfl, rfl⟩, ⟨_, rfl, rfl⟩, ⟨_, rfl, rfl⟩, ⟨_, rfl, congrArg (fun z => some (Value.int .i64 z)) e12⟩, ⟨_, rfl, rfl⟩, trivial⟩ (fun h k => sat_pick 0 rfl (by first | exact fun _ k => k | exact fun _ k => blk_to rfl rfl k | exact fun _ k => vec_to rfl k | exact fun _ k => blk_of rfl rfl k | exact fun _ k => vec_of rfl k | exact fun _ k => blk_of rfl rfl (blk_to rfl rfl k) | exact fun _ k => vec_of rfl (vec_to rfl k) | exact fun _ k => mp_to rfl k | exact fun _ k => mp_of rfl k | exact fun _ k => mp_of rfl (mp_to rfl k)) (fun h k => sat_pick 1 rfl (by first | exact fun _ k => k | exact fun _ k => blk_to rfl rfl k | exact fun _ k => vec_to rfl k | exact fun _ k => blk_of rfl rfl k | exact fun _ k => vec_of rfl k | exact fun _ k => blk_of rfl rfl (blk_to rfl rfl k) | exact fun _ k => vec_of rfl (vec_to rfl k) | exact fun _ k => mp_to rfl k | exact fun _ k => mp_of rfl k | exact fun _ k => mp_of rfl (mp_to rfl k)) (fun h k => sat_pick 0 rfl (by first | exact fun _ k => k | exact fun _ k => blk_to rfl rfl k | exact fun _ k => vec_to rfl k | exact fun _ k => blk_of rfl rfl k | exact fun _ k => vec_of rfl k | exact fun _ k => blk_of rfl rfl (blk_to rfl rfl k) | exact fun _ k => vec_of rfl (vec_to rfl k) | exact fun _ k => mp_to rfl k | exact fun _ k => mp_of rfl k | exact fun _ k => mp_of rfl (mp_to rfl k)) (fun h k => sat_add (vec_of rfl vec_emp) ((fun h k => sat_nil k) h k)) k) k) k)
    rintro ⟨⟨j, L, pL, cL, pg, cg⟩, hj, hkL, hcL, hpL, hjg, hLx⟩
    simp only at hj hkL hcL hpL hjg hLx
    have hgj := getD_at2 (k := j) 0 hj
    obtain ⟨ej, he1, he2, he3⟩ := chain_get hlk j _ hgj
    have hgj' := hgj
    generalize g.getD j 0 = q at *
    have hqn : q ∉ g.take j := fun h => by
      obtain ⟨i, hi, e1⟩ := List.getElem_of_mem h
      simp at hi
      have h1 : g[i]? = some q := by rw [← e1, List.getElem_take, List.getElem?_eq_getElem (by omega)]
      have := (List.getElem?_inj (by omega) hnd).1 (h1.trans hgj.symm)
      omega
    have hejm : ej ∈ notA (g.take j) (lessA id B.es) := mem_notA.2 ⟨he1, by rw [he2]; exact hqn⟩
    have hejB := (mem_lessA.1 he1).1
    have hsub : ∀ a ∈ notA (g.take j) (lessA id B.es), a ∈ B.es := fun a ha => (mem_lessA.1 (mem_notA.1 ha).1).1
    have hndj : ((notA (g.take j) (lessA id B.es)).map EA.id).Nodup := ((List.filter_sublist).map _).nodup (less_nodup inv.ids id)
    obtain ⟨ij, hij⟩ := mem_at hejm
    have hxj := ixA_at hndj hij
    rw [he2, ← hkL.place] at hxj
    obtain ⟨hp1, eL, hp2, _⟩ := plc_some hxj
    have hltL := (List.getElem?_eq_some_iff.1 hp2).1
    obtain ⟨bL, oL, rfl⟩ := hpL (by omega)
    have wspec2 := rwithout_spec L (locAddr 0 (.at bL oL)) cL ij (by omega) hcL hltL
    have bspec := rbehind_spec L (locAddr 0 (.at bL oL)) cL q (by omega)
    have pspec := rplace_spec L (locAddr 0 (.at bL oL)) cL q (by omega)
    rw [hp1] at pspec
    have hstep : g.take (j + 1) = g.take j ++ [q] := by rw [List.take_add_one, hgj]; rfl
    have hkN : Kp (L.eraseIdx ij) (notA (g.take (j + 1)) (lessA id B.es)) := by
      rw [notA_step hgj]
      have := hkL.erase ij
      rw [eraseA hndj hij, he2] at this
      exact this
    have hLe : (L.eraseIdx ij).length ≤ L.length := by rw [List.length_eraseIdx]; split <;> omega
    intro b9
    refine StOb.mk [.int .i64 q] rfl (Need.mk rfl ?_)
    refine Need.mk ⟨by rw [lI]; simp; omega, by simp only; omega, hjg⟩ ?_
    refine Need.mk ⟨by simp only; omega, by simp only [maxLen]; omega, fun v hv => by simp at hv; subst hv; rfl⟩ ?_
    refine NewSl.pos (by omega) (fun b10 o10 c10 hc10 => ?_)
    cases hnx : g[j + 1]? with
    | none =>
      have hbn := behind_no inv hsub hejB (by rw [he3, hnx])
      rw [he2, ← hkL.behind] at hbn
      rw [plc_none hbn] at bspec
      refine useR (.int .i64 (-1)) bspec rfl (fun f' b' hs hk => vec_reads 4 hs hk rfl (l := .at bL oL) rfl) rfl ?_
      refine CondOb.split (fun h => absurd h (by decide)) (fun _ => ?_)
      refine DrawOb.mk [(5, [0, 1])] (.run [0, 1, 2, 3, 4, 5, 6, 7, 8] .nil) (by kernel_rfl) ?_
      refine useR (.int .i64 ij) pspec rfl (fun f' b' hs hk => vec_reads 4 hs hk rfl (l := .at bL oL) rfl) rfl ?_
      refine Need.mk rfl ?_
      refine call_ix wspec2 rfl [] (fun h k => sat_pick 0 rfl (by first | exact fun _ k => k | exact fun _ k => blk_to rfl rfl k | exact fun _ k => vec_to rfl k | exact fun _ k => blk_of rfl rfl k | exact fun _ k => vec_of rfl k | exact fun _ k => blk_of rfl rfl (blk_to rfl rfl k) | exact fun _ k => vec_of rfl (vec_to rfl k) | exact fun _ k => mp_to rfl k | exact fun _ k => mp_of rfl k | exact fun _ k => mp_of rfl (mp_to rfl k)) (fun h k => sat_pick 0 rfl (by first | exact fun _ k => k | exact fun _ k => blk_to rfl rfl k | exact fun _ k => vec_to rfl k | exact fun _ k => blk_of rfl rfl k | exact fun _ k => vec_of rfl k | exact fun _ k => blk_of rfl rfl (blk_to rfl rfl k) | exact fun _ k => vec_of rfl (vec_to rfl k) | exact fun _ k => mp_to rfl k | exact fun _ k => mp_of rfl k | exact fun _ k => mp_of rfl (mp_to rfl k)) (fun h k => sat_pick 0 rfl (by first | exact fun _ k => k | exact fun _ k => blk_to rfl rfl k | exact fun _ k => vec_to rfl k | exact fun _ k => blk_of rfl rfl k | exact fun _ k => vec_of rfl k | exact fun _ k => blk_of rfl rfl (blk_to rfl rfl k) | exact fun _ k => vec_of rfl (vec_to rfl k) | exact fun _ k => mp_to rfl k | exact fun _ k => mp_of rfl k | exact fun _ k => mp_of rfl (mp_to rfl k)) (fun h k => sat_pick 0 rfl (by first | exact fun _ k => k | exact fun _ k => blk_to rfl rfl k | exact fun _ k => vec_to rfl k | exact fun _ k => blk_of rfl rfl k | exact fun _ k => vec_of rfl k | exact fun _ k => blk_of rfl rfl (blk_to rfl rfl k) | exact fun _ k => vec_of rfl (vec_to rfl k) | exact fun _ k => mp_to rfl k | exact fun _ k => mp_of rfl k | exact fun _ k => mp_of rfl (mp_to rfl k)) (fun h k => sat_pick 0 rfl (by first | exact fun _ k => k | exact fun _ k => blk_to rfl rfl k | exact fun _ k => vec_to rfl k | exact fun _ k => blk_of rfl rfl k | exact fun _ k => vec_of rfl k | exact fun _ k => blk_of rfl rfl (blk_to rfl rfl k) | exact fun _ k => vec_of rfl (vec_to rfl k) | exact fun _ k => mp_to rfl k | exact fun _ k => mp_of rfl k | exact fun _ k => mp_of rfl (mp_to rfl k)) (fun h k => sat_nil k) k) k) k) k) k) (fun f' b' hs hk => vec_reads 4 hs hk rfl (l := .at bL oL) rfl) ?_
      rintro v post ⟨pW, cW, rfl, hcW, hpW, rfl⟩
      refine ⟨.sl 6 0 (L.eraseIdx ij).length cW, [(6, pW), (5, .at b10 o10), (4, .at b9 0), (3, pg), (2, .at bL oL), (1, .at b2 0), (0, .at b1 0)], 7, [.vec 6 179 5 cW (O.flat (L.eraseIdx ij))], NmExt.push rfl, rfl, (fun h k => sat_pick 0 rfl (by first | exact fun _ k => k | exact fun _ k => blk_to rfl rfl k | exact fun _ k => vec_to rfl k | exact fun _ k => blk_of rfl rfl k | exact fun _ k => vec_of rfl k | exact fun _ k => blk_of rfl rfl (blk_to rfl rfl k) | exact fun _ k => vec_of rfl (vec_to rfl k) | exact fun _ k => mp_to rfl k | exact fun _ k => mp_of rfl k | exact fun _ k => mp_of rfl (mp_to rfl k)) (fun h k => sat_nil k) k), ?_⟩
      refine CondOb.split (fun _ => ?_) (fun h => absurd h (by decide))
      have hjl : j + 1 = g.length := by rw [List.getElem?_eq_none_iff] at hnx; omega
      have htk : g.take (j + 1) = g := List.take_of_length_le (by omega)
      rw [htk] at hkN
      refine FinOb.mk [.agg #[.slice (locAddr 0 pW) (L.eraseIdx ij).length cW, .slice D x.ready.length d, .int .i64 x.last, .bool x.has], .slice (some ⟨b10, o10, none⟩) (j + 1) c10, .int .i64 0] [Vec pW 179 5 cW (O.flat (L.eraseIdx ij)), Vec (.at b10 o10) 3 1 c10 (I.flat g)] rfl (fun h k => sat_pick 2 rfl (fun _ k => vec_to (l := pW) rfl k) (fun h k => sat_pick 2 rfl (fun _ k => ?_) (fun h k => sat_nil k) k) k)
        ⟨{ x with l := L.eraseIdx ij }, hkN, hrd, rfl, rfl, .inr (.inr (.inr ⟨pW, cW, .at b10 o10, c10, by rw [← hjl]; rfl, rfl, hcW, rfl⟩))⟩
      have k := vec_to (l := .at b10 o10) rfl k
      rw [List.drop_zero, List.take_of_length_le (by rw [lI]; simp; omega)] at k
      have e : I.flat (g.take j) ++ [.int .i64 q] = I.flat g := by
        have h9 := congrArg (I).flat (hstep.symm.trans htk)
        rw [(I).flat_append] at h9
        exact h9
      rw [e] at k
      exact k
    | some q2 =>
      obtain ⟨e2, m1, m2, _⟩ := chain_get hlk (j + 1) q2 hnx
      have hq2 : q2 ∉ g.take j := fun h => by
        obtain ⟨i, hi, e1⟩ := List.getElem_of_mem h
        simp at hi
        have h1 : g[i]? = some q2 := by rw [← e1, List.getElem_take, List.getElem?_eq_getElem (by omega)]
        have := (List.getElem?_inj (by omega) hnd).1 (h1.trans hnx.symm)
        omega
      obtain ⟨jb, nb, k1, k2, k3⟩ := behind_one inv hsub hejB (by rw [he3, hnx]) ⟨e2, mem_notA.2 ⟨m1, by rw [m2]; exact hq2⟩, m2⟩
      rw [he2, ← hkL.behind] at k1
      obtain ⟨k4, eb, k5, _⟩ := plc_some k1
      obtain ⟨eb', k6, k7⟩ := hkL.at' k2
      rw [k5] at k6
      obtain rfl := Option.some.inj k6
      have hltb := (List.getElem?_eq_some_iff.1 k5).1
      have hebid : eb.id = q2 := by rw [key_id k7]; exact k3
      rw [k4] at bspec
      have hj2 := (List.getElem?_eq_some_iff.1 hnx).1
      refine useR (.int .i64 jb) bspec rfl (fun f' b' hs hk => vec_reads 4 hs hk rfl (l := .at bL oL) rfl) rfl ?_
      refine CondOb.split (fun _ => ?_) (fun h => absurd h (by simp))
      refine Need.mk ⟨Int.natCast_nonneg jb, Int.ofNat_lt.2 hltb⟩ ?_
      refine RdOb.mk (.int .i64 q2) _ rfl (by have := O_cell k5 0 (v := .int .i64 q2) (by rw [← hebid]; rfl); simpa using this) ?_
      refine DrawOb.mk [(5, [0, 1])] (.run [0, 1, 2, 3, 4, 5, 6, 7, 8] .nil) (by kernel_rfl) ?_
      refine useR (.int .i64 ij) pspec rfl (fun f' b' hs hk => vec_reads 4 hs hk rfl (l := .at bL oL) rfl) rfl ?_
      refine Need.mk rfl ?_
      refine call_ix wspec2 rfl [] (fun h k => sat_pick 0 rfl (by first | exact fun _ k => k | exact fun _ k => blk_to rfl rfl k | exact fun _ k => vec_to rfl k | exact fun _ k => blk_of rfl rfl k | exact fun _ k => vec_of rfl k | exact fun _ k => blk_of rfl rfl (blk_to rfl rfl k) | exact fun _ k => vec_of rfl (vec_to rfl k) | exact fun _ k => mp_to rfl k | exact fun _ k => mp_of rfl k | exact fun _ k => mp_of rfl (mp_to rfl k)) (fun h k => sat_pick 0 rfl (by first | exact fun _ k => k | exact fun _ k => blk_to rfl rfl k | exact fun _ k => vec_to rfl k | exact fun _ k => blk_of rfl rfl k | exact fun _ k => vec_of rfl k | exact fun _ k => blk_of rfl rfl (blk_to rfl rfl k) | exact fun _ k => vec_of rfl (vec_to rfl k) | exact fun _ k => mp_to rfl k | exact fun _ k => mp_of rfl k | exact fun _ k => mp_of rfl (mp_to rfl k)) (fun h k => sat_pick 0 rfl (by first | exact fun _ k => k | exact fun _ k => blk_to rfl rfl k | exact fun _ k => vec_to rfl k | exact fun _ k => blk_of rfl rfl k | exact fun _ k => vec_of rfl k | exact fun _ k => blk_of rfl rfl (blk_to rfl rfl k) | exact fun _ k => vec_of rfl (vec_to rfl k) | exact fun _ k => mp_to rfl k | exact fun _ k => mp_of rfl k | exact fun _ k => mp_of rfl (mp_to rfl k)) (fun h k => sat_pick 0 rfl (by first | exact fun _ k => k | exact fun _ k => blk_to rfl rfl k | exact fun _ k => vec_to rfl k | exact fun _ k => blk_of rfl rfl k | exact fun _ k => vec_of rfl k | exact fun _ k => blk_of rfl rfl (blk_to rfl rfl k) | exact fun _ k => vec_of rfl (vec_to rfl k) | exact fun _ k => mp_to rfl k | exact fun _ k => mp_of rfl k | exact fun _ k => mp_of rfl (mp_to rfl k)) (fun h k => sat_pick 0 rfl (by first | exact fun _ k => k | exact fun _ k => blk_to rfl rfl k | exact fun _ k => vec_to rfl k | exact fun _ k => blk_of rfl rfl k | exact fun _ k => vec_of rfl k | exact fun _ k => blk_of rfl rfl (blk_to rfl rfl k) | exact fun _ k => vec_of rfl (vec_to rfl k) | exact fun _ k => mp_to rfl k | exact fun _ k => mp_of rfl k | exact fun _ k => mp_of rfl (mp_to rfl k)) (fun h k => sat_nil k) k) k) k) k) k) (fun f' b' hs hk => vec_reads 4 hs hk rfl (l := .at bL oL) rfl) ?_
      rintro v post ⟨pW, cW, rfl, hcW, hpW, rfl⟩
      refine ⟨.sl 6 0 (L.eraseIdx ij).length cW, [(6, pW), (5, .at b10 o10), (4, .at b9 0), (3, pg), (2, .at bL oL), (1, .at b2 0), (0, .at b1 0)], 7, [.vec 6 179 5 cW (O.flat (L.eraseIdx ij))], NmExt.push rfl, rfl, (fun h k => sat_pick 0 rfl (by first | exact fun _ k => k | exact fun _ k => blk_to rfl rfl k | exact fun _ k => vec_to rfl k | exact fun _ k => blk_of rfl rfl k | exact fun _ k => vec_of rfl k | exact fun _ k => blk_of rfl rfl (blk_to rfl rfl k) | exact fun _ k => vec_of rfl (vec_to rfl k) | exact fun _ k => mp_to rfl k | exact fun _ k => mp_of rfl k | exact fun _ k => mp_of rfl (mp_to rfl k)) (fun h k => sat_nil k) k), ?_⟩
      refine CondOb.split (fun h => absurd h (by simp)) (fun _ => ?_)
      have e12 : q2 = g.getD (j + 1) 0 := by rw [List.getD_eq_getElem?_getD, hnx]; rfl
      refine ⟨⟨(j + 1, L.eraseIdx ij, pW, cW, .at b10 o10, c10), hj2, hkN, hcW, hpW, by simp only; omega, by simp only; omega⟩, ?_, Le.of rfl ⟨⟨_, rfl, rfl⟩, ⟨_, rfl, rfl⟩, ⟨_, rfl, rfl⟩, ⟨_, rfl, rfl⟩, ⟨_, rfl, congrArg (fun z => some (Value.int .i64 z)) e12⟩, ⟨_, rfl, rfl⟩, trivial⟩ (fun h k => sat_pick 0 rfl (by first | exact fun _ k => k | exact fun _ k => blk_to rfl rfl k | exact fun _ k => vec_to rfl k | exact fun _ k => blk_of rfl rfl k | exact fun _ k => vec_of rfl k | exact fun _ k => blk_of rfl rfl (blk_to rfl rfl k) | exact fun _ k => vec_of rfl (vec_to rfl k) | exact fun _ k => mp_to rfl k | exact fun _ k => mp_of rfl k | exact fun _ k => mp_of rfl (mp_to rfl k)) (fun h k => sat_pick 3 rfl (by first | exact fun _ k => k | exact fun _ k => blk_to rfl rfl k | exact fun _ k => vec_to rfl k | exact fun _ k => blk_of rfl rfl k | exact fun _ k => vec_of rfl k | exact fun _ k => blk_of rfl rfl (blk_to rfl rfl k) | exact fun _ k => vec_of rfl (vec_to rfl k) | exact fun _ k => mp_to rfl k | exact fun _ k => mp_of rfl k | exact fun _ k => mp_of rfl (mp_to rfl k)) (fun h k => sat_pick 0 rfl (by first | exact fun _ k => k | exact fun _ k => blk_to rfl rfl k | exact fun _ k => vec_to rfl k | exact fun _ k => blk_of rfl rfl k | exact fun _ k => vec_of rfl k | exact fun _ k => blk_of rfl rfl (blk_to rfl rfl k) | exact fun _ k => vec_of rfl (vec_to rfl k) | exact fun _ k => mp_to rfl k | exact fun _ k => mp_of rfl k | exact fun _ k => mp_of rfl (mp_to rfl k)) (fun h k => sat_pick 0 rfl (fun _ k => ?_) (fun h k => sat_nil k) k) k) k) k)⟩
      · show g.length - (j + 1) < g.length - j
        omega
      · have k := vec_to (l := .at b10 o10) rfl k
        refine vec_of rfl ?_
        rw [List.drop_zero, List.take_of_length_le (by rw [lI]; simp; omega)] at k
        have e : I.flat (g.take j) ++ [.int .i64 q] = I.flat (g.take (j + 1)) := by
          rw [hstep, (I).flat_append]
          congr 1
        rw [e] at k
        exact k
end Go.Proofs.Ytlgdagjbphafcaa.Ch
