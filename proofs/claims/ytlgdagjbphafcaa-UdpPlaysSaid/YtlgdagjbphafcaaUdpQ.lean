/- A box and its reference answer alike: the walk of the law. Conditions: none. -/
import Derived.Test.YtlgdagjbphafcaaUdpP
import Derived.Test.YtlgdagjbphafcaaE16
namespace Go.Proofs.Ytlgdagjbphafcaa.Udp
open Go Go.Proofs Sx
set_option maxRecDepth 100000
set_option linter.unusedVariables false

/-- What the law's list of calls reads. -/
structure LR (f : HP) (A : Option Addr) (L : List Act) : Prop where
  calls : Calls' f A L
  ok : ∀ a ∈ L, QOk f a.q
structure Ip (f : HP) (L : List Act) where
  i : Nat
  x : B
  l : Plc
  cap : Nat
  qs : List Q
  lr : Plc
  cr : Nat
  hi : i ≤ L.length
  inv : Inv x
  room : x.ms.length ≤ cap
  rroom : qs.length ≤ cr
  sim : Sim x.ms qs
  small : ∀ q ∈ qs, q.xs.length ≤ 20000 ∧ QOk f q
  at_ : qs ≠ [] → ∃ b o, lr = .at b o
  lost : x.lost ≤ i * 1000
def SP (A : Option Addr) (cap : Nat) (L : List Act) (b c : Nat) {f : HP} (z : Ip f L) : St :=
  ⟨211, [(2, .raw (.slice A L.length cap)), (7, .ptr 0 0), (9, .ptr 1 0), (10, .int .i64 z.i)], [(0, .at b 0), (1, .at c 0), (2, z.lr)], 3,
    (Box b z.x z.l z.cap).map .asn ++ [.blk 1 77 [.int .i64 z.x.most, .int .i64 z.x.room, .int .u32 z.x.a, .int .u16 z.x.p, .sl 2 0 z.qs.length z.cr, .int .i64 z.x.lost, .int .i64 z.x.told], .vec 2 37 3 z.cr (qflat z.qs)]⟩
structure Jp (f : HP) (L : List Act) (i : Nat) where
  e : Int
  x : B
  l : Plc
  cap : Nat
  qs : List Q
  lr : Plc
  cr : Nat
  inv : Inv x
  room : x.ms.length ≤ cap
  rroom : qs.length ≤ cr
  sim : Sim x.ms qs
  small : ∀ q ∈ qs, q.xs.length ≤ 20000 ∧ QOk f q
  at_ : qs ≠ [] → ∃ b o, lr = .at b o
  lost : x.lost ≤ (i + 1) * 1000
def SJ (A : Option Addr) (cap : Nat) (L : List Act) (b c i : Nat) {f : HP} (z : Jp f L i) : St :=
  ⟨211, [(2, .raw (.slice A L.length cap)), (7, .ptr 0 0), (9, .ptr 1 0), (10, .int .i64 i), (12, .int .i64 z.e), (13, .int .i64 z.e)], [(0, .at b 0), (1, .at c 0), (2, z.lr)], 3,
    (Box b z.x z.l z.cap).map .asn ++ [.blk 1 77 [.int .i64 z.x.most, .int .i64 z.x.room, .int .u32 z.x.a, .int .u16 z.x.p, .sl 2 0 z.qs.length z.cr, .int .i64 z.x.lost, .int .i64 z.x.told], .vec 2 37 3 z.cr (qflat z.qs)]⟩
theorem vec_sure {l : Plc} {t : TypeId} {sz cap : Nat} {xs : List Value} {h : HP} (k : Vec l t sz cap xs h) : xs ≠ [] → ∃ b o, l = .at b o := fun hx => by
  obtain ⟨_, ⟨_, h2, _⟩ | ⟨b', o', _, _, h1, _⟩⟩ := k
  · exact absurd h2 hx
  · exact ⟨b', o', h1⟩
theorem vec_sures {l : Plc} {t : TypeId} {sz cap : Nat} {xs : List Value} {As : List Asn} {h : HP} (k : sat (Vec l t sz cap xs :: As) h) : xs ≠ [] → ∃ b o, l = .at b o := by
  obtain ⟨x, y, _, hx, _⟩ := k
  exact vec_sure hx
theorem qflat_ne {qs : List Q} (h : qs ≠ []) : qflat qs ≠ [] := by
  cases qs with
  | nil => exact absurd rfl h
  | cons q qs => simp [qflat, Q.cells]
theorem len_sum {m : M} : ∀ {ms : List M}, m ∈ ms → m.xs.length ≤ sum ms
  | q :: ms, h => by
    have e : sum (q :: ms) = q.xs.length + sum ms := by simp [sum]
    rcases List.mem_cons.1 h with rfl | h
    · omega
    · have := len_sum h; omega
theorem bytesV_take (s : ByteArray) (k : Nat) : ∃ s1 : ByteArray, bytesV s1 = (bytesV s).take k := ⟨⟨(s.data.toList.take k).toArray⟩, by simp [bytesV, List.map_take]⟩
theorem qshift {bl ol cr : Nat} {q : Q} {qs : List Q} (hc : (q :: qs).length ≤ cr) : ∃ lr', (if cr = 1 then locAddr 0 (.at bl ol) else (locAddr 0 (.at bl ol)).map (·.add 3)) = locAddr 0 lr' ∧ (∃ b o, lr' = .at b o) ∧
    ∀ h, Vec (.at bl ol) 37 3 cr (qflat (q :: qs)) h → Vec lr' 37 3 (cr - 1) (qflat qs) h := by
  by_cases e : cr = 1
  · subst e
    have : qs = [] := by simp only [List.length_cons] at hc; exact List.length_eq_zero_iff.1 (by omega)
    subst this
    exact ⟨.at bl ol, by simp, ⟨_, _, rfl⟩, fun h k => vec_none k⟩
  · exact ⟨.at bl (ol + 3), by simp only [if_neg e]; rfl, ⟨_, _, rfl⟩, fun h k => vec_shift (ys := q.cells) 1 k rfl⟩
theorem plays_spec (most room : Int) (A : Option Addr) (cap : Nat) (L : List Act) (hL : ∀ a ∈ L, a.q.xs.length ≤ 4611686018427387904) :
    Does Try.prog 9 #[.int .i64 most, .int .i64 room, .slice A L.length cap] (fun f => LR f A L) [] (fun v q => v = .bool true ∧ q = []) := by
  refine Does.of Try.func9 Try.call9 rfl [.int .i64 most, .int .i64 room, .raw (.slice A L.length cap)] [] 0 [] rfl rfl (fun h k => k) (fun f hR => ?_)
  refine call_asn (pre := []) [] [] (much_spec A cap L hL) rfl rfl (fun f' b hs _ => fun i a hi => ?_) ?_
  · obtain ⟨b, o, h1, h2⟩ := hR.calls i a hi
    exact ⟨b, o, h1, fun j v hv => frame_cell hs (h2 j v hv)⟩
  rintro v post ⟨much, rfl, rfl, hsmall⟩
  refine ⟨.bool much, _, 0, NmExt.refl _, rfl, [], fun h k => k, ?_⟩
  refine CondOb.split (fun g => ?_) (fun g => ?_)
  · refine useP .tt live_spec rfl rfl ?_
    exact FinOb.mk _ [] rfl (fun h k => trivial) ⟨rfl, rfl⟩
  obtain ⟨h100, hs20⟩ := hsmall g
  refine call_asn (pre := []) [] [] (new_spec most room) rfl rfl (fun _ _ _ _ => trivial) ?_
  rintro v post (⟨hbad, rfl, rfl⟩ | ⟨hok, b, rfl, rfl⟩)
  · refine ⟨.tuple [.nilp, .int .i64 1], _, 0, NmExt.refl _, rfl, [], fun h k => k, ?_⟩
    refine Br.mk (fun g0 => ?_) (fun g0 => ?_)
    · refine useP (.int .i64 1) (code_spec 1) rfl rfl ?_
      refine Br.mk (fun _ => ?_) (fun h => absurd h (by decide))
      refine useP .tt live_spec rfl rfl ?_
      exact FinOb.mk _ [] rfl (fun h k => trivial) ⟨rfl, rfl⟩
    refine Br.mk (fun g1 => ?_) (fun g1 => ?_)
    · refine useP (.int .i64 1) (code_spec 1) rfl rfl ?_
      refine Br.mk (fun _ => ?_) (fun h => absurd h (by decide))
      refine useP .tt live_spec rfl rfl ?_
      exact FinOb.mk _ [] rfl (fun h k => trivial) ⟨rfl, rfl⟩
    refine Br.mk (fun g2 => ?_) (fun g2 => ?_)
    · refine useP (.int .i64 1) (code_spec 1) rfl rfl ?_
      refine Br.mk (fun _ => ?_) (fun h => absurd h (by decide))
      refine useP .tt live_spec rfl rfl ?_
      exact FinOb.mk _ [] rfl (fun h k => trivial) ⟨rfl, rfl⟩
    refine CondOb.split (fun g3 => ?_) (fun g3 => ?_)
    · refine useP (.int .i64 1) (code_spec 1) rfl rfl ?_
      refine Br.mk (fun _ => ?_) (fun h => absurd h (by decide))
      refine useP .tt live_spec rfl rfl ?_
      exact FinOb.mk _ [] rfl (fun h k => trivial) ⟨rfl, rfl⟩
    exfalso; simp at g0 g1 g2 g3; omega
  refine ⟨.tuple [.ptr 0 0, .int .i64 0], [(0, .at b 0)], 1, NmExt.push rfl, rfl, _, fun h k => sat_asns k, ?_⟩
  refine Br.mk (fun g1 => absurd g1 (by simp; omega)) (fun _ => ?_)
  refine Br.mk (fun g1 => absurd g1 (by simp; omega)) (fun _ => ?_)
  refine Br.mk (fun g1 => absurd g1 (by simp; omega)) (fun _ => ?_)
  refine CondOb.split (fun g1 => absurd g1 (by simp; omega)) (fun _ => ?_)
  refine useP (.int .i64 0) (code_spec 0) rfl rfl ?_
  refine Br.mk (fun h => absurd h (by decide)) (fun _ => ?_)
  intro c
  have x0 : Inv ⟨most, room, 0, 0, 0, 0, 0, []⟩ := ⟨by simp only; omega, by simp only; omega, by simp only; omega, by simp only; omega, by simp only [List.length_nil]; omega, by simp [sum], by simp only; omega, by simp, by simp, by simp⟩
  refine LoopOb.mk (Ip f L) (SP A cap L b c) (fun z => L.length - z.i) ⟨0, _, .nil, 0, [], .nil, 0, by omega, x0, Nat.le_refl _, Nat.le_refl _, rfl, by simp, by simp, by simp⟩ ?_ ?_
  · exact Le.of rfl ⟨⟨_, rfl, rfl⟩, ⟨_, rfl, rfl⟩, ⟨_, rfl, rfl⟩, ⟨_, rfl, rfl⟩, trivial⟩ (fun h k => sat_pick 1 rfl (by first | exact fun _ k => k | exact fun _ k => blk_to rfl rfl k | exact fun _ k => vec_to rfl k | exact fun _ k => blk_of rfl rfl k | exact fun _ k => vec_of rfl k | exact fun _ k => blk_of rfl rfl (blk_to rfl rfl k) | exact fun _ k => vec_of rfl (vec_to rfl k)) (fun h k => sat_pick 1 rfl (by first | exact fun _ k => k | exact fun _ k => blk_to rfl rfl k | exact fun _ k => vec_to rfl k | exact fun _ k => blk_of rfl rfl k | exact fun _ k => vec_of rfl k | exact fun _ k => blk_of rfl rfl (blk_to rfl rfl k) | exact fun _ k => vec_of rfl (vec_to rfl k)) (fun h k => sat_pick 1 rfl (by first | exact fun _ k => k | exact fun _ k => blk_to rfl rfl k | exact fun _ k => vec_to rfl k | exact fun _ k => blk_of rfl rfl k | exact fun _ k => vec_of rfl k | exact fun _ k => blk_of rfl rfl (blk_to rfl rfl k) | exact fun _ k => vec_of rfl (vec_to rfl k)) (fun h k => sat_pick 0 rfl (by first | exact fun _ k => k | exact fun _ k => blk_to rfl rfl k | exact fun _ k => vec_to rfl k | exact fun _ k => blk_of rfl rfl k | exact fun _ k => vec_of rfl k | exact fun _ k => blk_of rfl rfl (blk_to rfl rfl k) | exact fun _ k => vec_of rfl (vec_to rfl k)) (fun h k => sat_add (vec_of rfl vec_emp) ((fun h k => sat_nil k) h k)) k) k) k) k)
  rintro ⟨i, x, l, cp, qs, lr, cr, hi, inv, hroom, hrroom, sim, small, at_, lost⟩
  refine CondOb.split (fun g2 => ?_) (fun g2 => ?_)
  rotate_left
  · refine useP .tt live_spec rfl rfl ?_
    exact FinOb.mk _ [] rfl (fun h k => trivial) ⟨rfl, rfl⟩
  simp only [decide_eq_true_eq] at g2
  replace g2 : (i : Int) < L.length := g2
  have hq := List.getElem?_eq_getElem (show i < L.length by omega)
  have hq20 := hs20 _ (List.getElem_mem (show i < L.length by omega))
  have hqok := hR.ok _ (List.getElem_mem (show i < L.length by omega))
  generalize L[i]'(by omega) = a at *
  obtain ⟨ba, o, rfl, hf⟩ := hR.calls i a hq
  refine Need.mk ⟨Int.natCast_nonneg i, g2⟩ (RawAt.mk ba o rfl ?_)
  refine RdF.mk [.int .i64 a.d, .int .i64 a.n, .int .u32 a.q.a, .int .u16 a.q.p, .raw (.slice a.q.A a.q.xs.length a.q.c)] _ rfl rfl (fun j v hj => ?_) ?_
  · have := hf j v hj; simpa using this
  intro d
  have hb9 : ∀ m ∈ x.ms, m.xs.length ≤ 1000000000 := fun m hm => by
    have := len_sum hm
    have := inv.held; have := inv.fits; have := inv.r2; omega
  have hq9 : ∀ q ∈ (refOf x qs).l, q.xs.length ≤ 1000000000 := fun q hq => by have := (small q hq).1; omega
  have hlen := sim.len
  have hm64 : (x.ms.length : Int) ≤ 64 := by have := inv.len; have := inv.m2; omega
  have hq64 : (refOf x qs).l.length ≤ 1000 := by show qs.length ≤ 1000; omega
  have hl0 := inv.l1
  have hl1 : x.lost ≤ 100000 := by omega
  have hl9 : (refOf x qs).lost ≤ 1000000000 := by show x.lost ≤ _; omega
  refine CondOb.join (Jp f L i) (SJ (some ⟨ba, o, none⟩) cap L b c i) (fun hd => ?_) (fun hd => ?_) (fun z => ?_)
  · refine call_asn [_] [_, _] (put_spec b x l cp a.q.a a.q.p a.q.A a.q.c a.q.xs inv hroom (by omega)) rfl rfl (fun f' b' hs hk => (hqok.frame hs).toBytes) ?_
    rintro v post ⟨l', cap', l2, c2, ⟨hc2, _⟩, rfl, hcap', rfl⟩
    refine ⟨.int .i64 _, _, 4, NmExt.refl _, rfl, _, fun h k => sat_asns k, ?_⟩
    refine useP (.int .i64 _) (code_spec _) rfl rfl ?_
    have inv' := inv_put (m := ⟨a.q.a, a.q.p, l2, c2, a.q.xs⟩) inv hc2 (by omega)
    have spec := rput_spec (refOf x qs) (locAddr 0 lr) cr a.q hq64 hq9 (by omega) hl0 hl9
    rcases sim_put (m := ⟨a.q.a, a.q.p, l2, c2, a.q.xs⟩) (q := a.q) inv sim rfl with ⟨e1, e2⟩ | ⟨e1, e2⟩ | ⟨e1, e2, e3⟩
    · rw [e1] at hcap' inv' ⊢
      rw [e2] at spec
      refine call_asn (pre := []) [] [_, _, _, _, _, _] spec rfl rfl (fun f' b' hs hk => vec_reads 5 hs hk rfl rfl) ?_
      rintro v post (⟨_, rfl, rfl⟩ | ⟨h0, _⟩)
      rotate_left
      · exact absurd h0 (by simp)
      refine ⟨.tuple [.agg (RB.svs (refOf x qs) (locAddr 0 lr) cr), .int .i64 6], _, 4, NmExt.refl _, rfl, _, fun h k => sat_asns k, ?_⟩
      exact ⟨⟨6, x, l', cap', qs, lr, cr, inv', hcap', hrroom, sim, small, at_, by omega⟩, Le.of rfl ⟨⟨_, rfl, rfl⟩, ⟨_, rfl, rfl⟩, ⟨_, rfl, rfl⟩, ⟨_, rfl, rfl⟩, ⟨_, rfl, rfl⟩, ⟨_, rfl, rfl⟩, trivial⟩ (fun h k => sat_pick 1 rfl (by first | exact fun _ k => k | exact fun _ k => blk_to rfl rfl k | exact fun _ k => vec_to rfl k | exact fun _ k => blk_of rfl rfl k | exact fun _ k => vec_of rfl k | exact fun _ k => blk_of rfl rfl (blk_to rfl rfl k) | exact fun _ k => vec_of rfl (vec_to rfl k)) (fun h k => sat_pick 1 rfl (by first | exact fun _ k => k | exact fun _ k => blk_to rfl rfl k | exact fun _ k => vec_to rfl k | exact fun _ k => blk_of rfl rfl k | exact fun _ k => vec_of rfl k | exact fun _ k => blk_of rfl rfl (blk_to rfl rfl k) | exact fun _ k => vec_of rfl (vec_to rfl k)) (fun h k => sat_pick 1 rfl (by first | exact fun _ k => k | exact fun _ k => blk_to rfl rfl k | exact fun _ k => vec_to rfl k | exact fun _ k => blk_of rfl rfl k | exact fun _ k => vec_of rfl k | exact fun _ k => blk_of rfl rfl (blk_to rfl rfl k) | exact fun _ k => vec_of rfl (vec_to rfl k)) (fun h k => sat_pick 0 rfl (by first | exact fun _ k => k | exact fun _ k => blk_to rfl rfl k | exact fun _ k => vec_to rfl k | exact fun _ k => blk_of rfl rfl k | exact fun _ k => vec_of rfl k | exact fun _ k => blk_of rfl rfl (blk_to rfl rfl k) | exact fun _ k => vec_of rfl (vec_to rfl k)) (fun h k => sat_pick 1 rfl (by first | exact fun _ k => k | exact fun _ k => blk_to rfl rfl k | exact fun _ k => vec_to rfl k | exact fun _ k => blk_of rfl rfl k | exact fun _ k => vec_of rfl k | exact fun _ k => blk_of rfl rfl (blk_to rfl rfl k) | exact fun _ k => vec_of rfl (vec_to rfl k)) (fun h k => sat_nil k) k) k) k) k) k)⟩
    · rw [e1] at hcap' inv' ⊢
      rw [e2] at spec
      refine call_asn (pre := []) [] [_, _, _, _, _, _] spec rfl rfl (fun f' b' hs hk => vec_reads 5 hs hk rfl rfl) ?_
      rintro v post (⟨_, rfl, rfl⟩ | ⟨h0, _⟩)
      rotate_left
      · exact absurd h0 (by simp)
      refine ⟨.tuple [.agg (RB.svs (refOf { x with lost := x.lost + 1 } qs) (locAddr 0 lr) cr), .int .i64 5], _, 4, NmExt.refl _, rfl, _, fun h k => sat_asns k, ?_⟩
      exact ⟨⟨5, { x with lost := x.lost + 1 }, l', cap', qs, lr, cr, inv', hcap', hrroom, sim, small, at_, by simp only; omega⟩, Le.of rfl ⟨⟨_, rfl, rfl⟩, ⟨_, rfl, rfl⟩, ⟨_, rfl, rfl⟩, ⟨_, rfl, rfl⟩, ⟨_, rfl, rfl⟩, ⟨_, rfl, rfl⟩, trivial⟩ (fun h k => sat_pick 1 rfl (by first | exact fun _ k => k | exact fun _ k => blk_to rfl rfl k | exact fun _ k => vec_to rfl k | exact fun _ k => blk_of rfl rfl k | exact fun _ k => vec_of rfl k | exact fun _ k => blk_of rfl rfl (blk_to rfl rfl k) | exact fun _ k => vec_of rfl (vec_to rfl k)) (fun h k => sat_pick 1 rfl (by first | exact fun _ k => k | exact fun _ k => blk_to rfl rfl k | exact fun _ k => vec_to rfl k | exact fun _ k => blk_of rfl rfl k | exact fun _ k => vec_of rfl k | exact fun _ k => blk_of rfl rfl (blk_to rfl rfl k) | exact fun _ k => vec_of rfl (vec_to rfl k)) (fun h k => sat_pick 1 rfl (by first | exact fun _ k => k | exact fun _ k => blk_to rfl rfl k | exact fun _ k => vec_to rfl k | exact fun _ k => blk_of rfl rfl k | exact fun _ k => vec_of rfl k | exact fun _ k => blk_of rfl rfl (blk_to rfl rfl k) | exact fun _ k => vec_of rfl (vec_to rfl k)) (fun h k => sat_pick 0 rfl (by first | exact fun _ k => k | exact fun _ k => blk_to rfl rfl k | exact fun _ k => vec_to rfl k | exact fun _ k => blk_of rfl rfl k | exact fun _ k => vec_of rfl k | exact fun _ k => blk_of rfl rfl (blk_to rfl rfl k) | exact fun _ k => vec_of rfl (vec_to rfl k)) (fun h k => sat_pick 1 rfl (by first | exact fun _ k => k | exact fun _ k => blk_to rfl rfl k | exact fun _ k => vec_to rfl k | exact fun _ k => blk_of rfl rfl k | exact fun _ k => vec_of rfl k | exact fun _ k => blk_of rfl rfl (blk_to rfl rfl k) | exact fun _ k => vec_of rfl (vec_to rfl k)) (fun h k => sat_nil k) k) k) k) k) k)⟩
    · rw [e1] at hcap' inv' ⊢
      rw [e2] at spec
      refine call_asn (pre := []) [] [_, _, _, _, _, _] spec rfl rfl (fun f' b' hs hk => vec_reads 5 hs hk rfl rfl) ?_
      rintro v post (⟨h0, _⟩ | ⟨_, b2, o2, c3, rfl, hc3, rfl⟩)
      · exact absurd rfl h0
      refine ⟨.tuple [.agg (RB.svs (refOf { x with held := x.held + a.q.xs.length, ms := x.ms ++ [⟨a.q.a, a.q.p, l2, c2, a.q.xs⟩] } (qs ++ [a.q])) (locAddr 0 (.at b2 o2)) c3), .int .i64 0], _, 4, NmExt.refl _, rfl, _, fun h k => sat_asns k, ?_⟩
      refine ⟨⟨0, _, l', cap', qs ++ [a.q], .at b2 o2, c3, inv', hcap', hc3, e3, fun q hq => ?_, fun _ => ⟨_, _, rfl⟩, by simp only; omega⟩, Le.of rfl ⟨⟨_, rfl, rfl⟩, ⟨_, rfl, rfl⟩, ⟨_, rfl, rfl⟩, ⟨_, rfl, rfl⟩, ⟨_, rfl, rfl⟩, ⟨_, rfl, rfl⟩, trivial⟩ (fun h k => sat_pick 2 rfl (by first | exact fun _ k => k | exact fun _ k => blk_to rfl rfl k | exact fun _ k => vec_to rfl k | exact fun _ k => blk_of rfl rfl k | exact fun _ k => vec_of rfl k | exact fun _ k => blk_of rfl rfl (blk_to rfl rfl k) | exact fun _ k => vec_of rfl (vec_to rfl k)) (fun h k => sat_pick 2 rfl (by first | exact fun _ k => k | exact fun _ k => blk_to rfl rfl k | exact fun _ k => vec_to rfl k | exact fun _ k => blk_of rfl rfl k | exact fun _ k => vec_of rfl k | exact fun _ k => blk_of rfl rfl (blk_to rfl rfl k) | exact fun _ k => vec_of rfl (vec_to rfl k)) (fun h k => sat_pick 2 rfl (by first | exact fun _ k => k | exact fun _ k => blk_to rfl rfl k | exact fun _ k => vec_to rfl k | exact fun _ k => blk_of rfl rfl k | exact fun _ k => vec_of rfl k | exact fun _ k => blk_of rfl rfl (blk_to rfl rfl k) | exact fun _ k => vec_of rfl (vec_to rfl k)) (fun h k => sat_pick 0 rfl (by first | exact fun _ k => k | exact fun _ k => blk_to rfl rfl k | exact fun _ k => vec_to rfl k | exact fun _ k => blk_of rfl rfl k | exact fun _ k => vec_of rfl k | exact fun _ k => blk_of rfl rfl (blk_to rfl rfl k) | exact fun _ k => vec_of rfl (vec_to rfl k)) (fun h k => sat_pick 0 rfl (by first | exact fun _ k => k | exact fun _ k => blk_to rfl rfl k | exact fun _ k => vec_to rfl k | exact fun _ k => blk_of rfl rfl k | exact fun _ k => vec_of rfl k | exact fun _ k => blk_of rfl rfl (blk_to rfl rfl k) | exact fun _ k => vec_of rfl (vec_to rfl k)) (fun h k => sat_nil k) k) k) k) k) k)⟩
      rcases List.mem_append.1 hq with hq | hq
      · exact small q hq
      · simp at hq; subst hq; exact ⟨hq20, hqok⟩
  · refine CondOb.split (fun h1 => ?_) (fun h1 => ?_)
    · refine call_asn [_] [_, _] (take_spec b x l cp a.n inv hroom) rfl rfl (fun _ _ _ _ => trivial) ?_
      have rspec := rtake_spec (refOf x qs) (locAddr 0 lr) cr a.n (fun q hq => (small q hq).2.cap)
      rintro v post (⟨ht, rfl, rfl⟩ | ⟨ht, hms, rfl, rfl⟩ | ⟨ht, hms, hn, rfl, rfl⟩ | ⟨ht, hn, m, rest, l', cap', hms, hr, rfl, rfl⟩)
      · refine ⟨.tuple [.agg [.int .u32 0, .int .u16 0, .nils], .int .i64 0, .int .i64 x.told], _, 4, NmExt.refl _, rfl, _, fun h k => sat_asns k, ?_⟩
        intro d2
        refine call_asn (pre := []) [] [_, _, _, _, _, _, _] rspec rfl rfl (fun f' b' hs hk => vec_reads 6 hs hk rfl rfl) ?_
        rintro v post ⟨⟨h2, rfl⟩ | ⟨h2, _⟩ | ⟨h2, _⟩ | ⟨h2, _⟩, rfl⟩
        · refine ⟨.tuple [.agg (RB.svs (refOf { x with told := 0 } qs) (locAddr 0 lr) cr), .agg [.int .u32 0, .int .u16 0, .nils], .int .i64 0, .int .i64 x.told], _, 5, NmExt.refl _, rfl, _, fun h k => sat_asns k, ?_⟩
          intro d3 d4
          refine useP (.int .i64 x.told) (code_spec x.told) rfl rfl ?_
          refine Br.mk (fun h => absurd h (by simp)) (fun _ => ?_)
          refine useP .tt same_zero rfl rfl ?_
          exact ⟨⟨x.told, { x with told := 0 }, l, cp, qs, lr, cr, inv_told inv 0, hroom, hrroom, sim, small, at_, by simp only; omega⟩, Le.of rfl ⟨⟨_, rfl, rfl⟩, ⟨_, rfl, rfl⟩, ⟨_, rfl, rfl⟩, ⟨_, rfl, rfl⟩, ⟨_, rfl, rfl⟩, ⟨_, rfl, rfl⟩, trivial⟩ (fun h k => sat_pick 4 rfl (by first | exact fun _ k => k | exact fun _ k => blk_to rfl rfl k | exact fun _ k => vec_to rfl k | exact fun _ k => blk_of rfl rfl k | exact fun _ k => vec_of rfl k | exact fun _ k => blk_of rfl rfl (blk_to rfl rfl k) | exact fun _ k => vec_of rfl (vec_to rfl k)) (fun h k => sat_pick 4 rfl (by first | exact fun _ k => k | exact fun _ k => blk_to rfl rfl k | exact fun _ k => vec_to rfl k | exact fun _ k => blk_of rfl rfl k | exact fun _ k => vec_of rfl k | exact fun _ k => blk_of rfl rfl (blk_to rfl rfl k) | exact fun _ k => vec_of rfl (vec_to rfl k)) (fun h k => sat_pick 4 rfl (by first | exact fun _ k => k | exact fun _ k => blk_to rfl rfl k | exact fun _ k => vec_to rfl k | exact fun _ k => blk_of rfl rfl k | exact fun _ k => vec_of rfl k | exact fun _ k => blk_of rfl rfl (blk_to rfl rfl k) | exact fun _ k => vec_of rfl (vec_to rfl k)) (fun h k => sat_pick 0 rfl (by first | exact fun _ k => k | exact fun _ k => blk_to rfl rfl k | exact fun _ k => vec_to rfl k | exact fun _ k => blk_of rfl rfl k | exact fun _ k => vec_of rfl k | exact fun _ k => blk_of rfl rfl (blk_to rfl rfl k) | exact fun _ k => vec_of rfl (vec_to rfl k)) (fun h k => sat_pick 4 rfl (by first | exact fun _ k => k | exact fun _ k => blk_to rfl rfl k | exact fun _ k => vec_to rfl k | exact fun _ k => blk_of rfl rfl k | exact fun _ k => vec_of rfl k | exact fun _ k => blk_of rfl rfl (blk_to rfl rfl k) | exact fun _ k => vec_of rfl (vec_to rfl k)) (fun h k => sat_nil k) k) k) k) k) k)⟩
        · exact absurd h2 ht
        · exact absurd h2 ht
        · exact absurd h2 ht
      · have hqs : qs = [] := by rw [hms] at hlen; exact List.length_eq_zero_iff.1 hlen.symm
        refine ⟨.tuple [.agg [.int .u32 0, .int .u16 0, .nils], .int .i64 0, .int .i64 6], _, 4, NmExt.refl _, rfl, _, fun h k => sat_asns k, ?_⟩
        intro d2
        refine call_asn (pre := []) [] [_, _, _, _, _, _, _] rspec rfl rfl (fun f' b' hs hk => vec_reads 6 hs hk rfl rfl) ?_
        rintro v post ⟨⟨h2, _⟩ | ⟨h2, _, rfl⟩ | ⟨_, h2, _⟩ | ⟨_, _, _, _, h2, _⟩, rfl⟩
        · exact absurd ht h2
        · refine ⟨.tuple [.agg (RB.svs (refOf x qs) (locAddr 0 lr) cr), .agg [.int .u32 0, .int .u16 0, .nils], .int .i64 0, .int .i64 6], _, 5, NmExt.refl _, rfl, _, fun h k => sat_asns k, ?_⟩
          intro d3 d4
          refine useP (.int .i64 6) (code_spec 6) rfl rfl ?_
          refine Br.mk (fun h => absurd h (by simp)) (fun _ => ?_)
          refine useP .tt same_zero rfl rfl ?_
          exact ⟨⟨6, x, l, cp, qs, lr, cr, inv, hroom, hrroom, sim, small, at_, by omega⟩, Le.of rfl ⟨⟨_, rfl, rfl⟩, ⟨_, rfl, rfl⟩, ⟨_, rfl, rfl⟩, ⟨_, rfl, rfl⟩, ⟨_, rfl, rfl⟩, ⟨_, rfl, rfl⟩, trivial⟩ (fun h k => sat_pick 4 rfl (by first | exact fun _ k => k | exact fun _ k => blk_to rfl rfl k | exact fun _ k => vec_to rfl k | exact fun _ k => blk_of rfl rfl k | exact fun _ k => vec_of rfl k | exact fun _ k => blk_of rfl rfl (blk_to rfl rfl k) | exact fun _ k => vec_of rfl (vec_to rfl k)) (fun h k => sat_pick 4 rfl (by first | exact fun _ k => k | exact fun _ k => blk_to rfl rfl k | exact fun _ k => vec_to rfl k | exact fun _ k => blk_of rfl rfl k | exact fun _ k => vec_of rfl k | exact fun _ k => blk_of rfl rfl (blk_to rfl rfl k) | exact fun _ k => vec_of rfl (vec_to rfl k)) (fun h k => sat_pick 4 rfl (by first | exact fun _ k => k | exact fun _ k => blk_to rfl rfl k | exact fun _ k => vec_to rfl k | exact fun _ k => blk_of rfl rfl k | exact fun _ k => vec_of rfl k | exact fun _ k => blk_of rfl rfl (blk_to rfl rfl k) | exact fun _ k => vec_of rfl (vec_to rfl k)) (fun h k => sat_pick 0 rfl (by first | exact fun _ k => k | exact fun _ k => blk_to rfl rfl k | exact fun _ k => vec_to rfl k | exact fun _ k => blk_of rfl rfl k | exact fun _ k => vec_of rfl k | exact fun _ k => blk_of rfl rfl (blk_to rfl rfl k) | exact fun _ k => vec_of rfl (vec_to rfl k)) (fun h k => sat_pick 4 rfl (by first | exact fun _ k => k | exact fun _ k => blk_to rfl rfl k | exact fun _ k => vec_to rfl k | exact fun _ k => blk_of rfl rfl k | exact fun _ k => vec_of rfl k | exact fun _ k => blk_of rfl rfl (blk_to rfl rfl k) | exact fun _ k => vec_of rfl (vec_to rfl k)) (fun h k => sat_nil k) k) k) k) k) k)⟩
        · exact absurd hqs h2
        · rw [show (refOf x qs).l = qs from rfl, hqs] at h2; cases h2
      · have hqs : qs ≠ [] := fun e => hms (by rw [e] at hlen; exact List.length_eq_zero_iff.1 hlen)
        refine ⟨.tuple [.agg [.int .u32 0, .int .u16 0, .nils], .int .i64 0, .int .i64 1], _, 4, NmExt.refl _, rfl, _, fun h k => sat_asns k, ?_⟩
        intro d2
        refine call_asn (pre := []) [] [_, _, _, _, _, _, _] rspec rfl rfl (fun f' b' hs hk => vec_reads 6 hs hk rfl rfl) ?_
        rintro v post ⟨⟨h2, _⟩ | ⟨_, h2, _⟩ | ⟨_, _, _, rfl⟩ | ⟨_, h2, _⟩, rfl⟩
        · exact absurd ht h2
        · exact absurd h2 hqs
        · refine ⟨.tuple [.agg (RB.svs (refOf x qs) (locAddr 0 lr) cr), .agg [.int .u32 0, .int .u16 0, .nils], .int .i64 0, .int .i64 1], _, 5, NmExt.refl _, rfl, _, fun h k => sat_asns k, ?_⟩
          intro d3 d4
          refine useP (.int .i64 1) (code_spec 1) rfl rfl ?_
          refine Br.mk (fun h => absurd h (by simp)) (fun _ => ?_)
          refine useP .tt same_zero rfl rfl ?_
          exact ⟨⟨1, x, l, cp, qs, lr, cr, inv, hroom, hrroom, sim, small, at_, by omega⟩, Le.of rfl ⟨⟨_, rfl, rfl⟩, ⟨_, rfl, rfl⟩, ⟨_, rfl, rfl⟩, ⟨_, rfl, rfl⟩, ⟨_, rfl, rfl⟩, ⟨_, rfl, rfl⟩, trivial⟩ (fun h k => sat_pick 4 rfl (by first | exact fun _ k => k | exact fun _ k => blk_to rfl rfl k | exact fun _ k => vec_to rfl k | exact fun _ k => blk_of rfl rfl k | exact fun _ k => vec_of rfl k | exact fun _ k => blk_of rfl rfl (blk_to rfl rfl k) | exact fun _ k => vec_of rfl (vec_to rfl k)) (fun h k => sat_pick 4 rfl (by first | exact fun _ k => k | exact fun _ k => blk_to rfl rfl k | exact fun _ k => vec_to rfl k | exact fun _ k => blk_of rfl rfl k | exact fun _ k => vec_of rfl k | exact fun _ k => blk_of rfl rfl (blk_to rfl rfl k) | exact fun _ k => vec_of rfl (vec_to rfl k)) (fun h k => sat_pick 4 rfl (by first | exact fun _ k => k | exact fun _ k => blk_to rfl rfl k | exact fun _ k => vec_to rfl k | exact fun _ k => blk_of rfl rfl k | exact fun _ k => vec_of rfl k | exact fun _ k => blk_of rfl rfl (blk_to rfl rfl k) | exact fun _ k => vec_of rfl (vec_to rfl k)) (fun h k => sat_pick 0 rfl (by first | exact fun _ k => k | exact fun _ k => blk_to rfl rfl k | exact fun _ k => vec_to rfl k | exact fun _ k => blk_of rfl rfl k | exact fun _ k => vec_of rfl k | exact fun _ k => blk_of rfl rfl (blk_to rfl rfl k) | exact fun _ k => vec_of rfl (vec_to rfl k)) (fun h k => sat_pick 4 rfl (by first | exact fun _ k => k | exact fun _ k => blk_to rfl rfl k | exact fun _ k => vec_to rfl k | exact fun _ k => blk_of rfl rfl k | exact fun _ k => vec_of rfl k | exact fun _ k => blk_of rfl rfl (blk_to rfl rfl k) | exact fun _ k => vec_of rfl (vec_to rfl k)) (fun h k => sat_nil k) k) k) k) k) k)⟩
        · omega
      · obtain ⟨q, qrest, hqs⟩ : ∃ q qrest, qs = q :: qrest := by
          cases qs with
          | nil => rw [hms] at hlen; simp at hlen
          | cons q qrest => exact ⟨_, _, rfl⟩
        subst hqs
        have hk : m.key = q.key ∧ Sim rest qrest := by
          rw [hms] at sim
          simpa [Sim] using sim
        obtain ⟨hk1, hk2⟩ := hk
        simp only [M.key, Q.key, Prod.mk.injEq] at hk1
        obtain ⟨ka, kp, kx⟩ := hk1
        obtain ⟨hq1, hq2⟩ := small q (by simp)
        obtain ⟨s, hs⟩ := hq2.bytes
        obtain ⟨bl, ol, rfl⟩ := at_ (by simp)
        generalize hk : (if (m.xs.length : Int) < a.n then (m.xs.length : Int) else a.n).toNat = k
        obtain ⟨s1, hs1⟩ := bytesV_take s k
        have hkl : (bytesV s1).length = k := by
          rw [hs1, ← hs, ← kx, List.length_take]; split at hk <;> omega
        have sspec := same_spec q.a q.p q.a q.p (locAddr 0 m.l) q.A m.cap q.c s1 s1
        rw [hkl] at sspec
        simp only [BEq.rfl, Bool.and_self] at sspec
        obtain ⟨lr', hA1, hA2, hA3⟩ := qshift (bl := bl) (ol := ol) hrroom
        refine ⟨.tuple [.agg [.int .u32 q.a, .int .u16 q.p, .raw (.slice (locAddr 0 m.l) k m.cap)], .int .i64 m.xs.length, .int .i64 0], _, 4, NmExt.refl _, by rw [ka, kp]; rfl, _, fun h k => sat_asns k, ?_⟩
        intro d2
        refine call_asn (pre := []) [] [_, _, _, _, _, _, _, _] rspec rfl rfl (fun f' b' hs hk => vec_reads 7 hs hk rfl rfl) ?_
        rintro v post ⟨⟨h2, _⟩ | ⟨_, h2, _⟩ | ⟨_, _, h2, _⟩ | ⟨_, _, q', rest', h2, rfl⟩, rfl⟩
        · exact absurd ht h2
        · cases h2
        · omega
        simp only [refOf, List.cons.injEq] at h2
        obtain ⟨rfl, rfl⟩ := h2
        rw [← kx, hk, hA1]
        refine ⟨.tuple [.agg (RB.svs (refOf x qrest) (locAddr 0 lr') (cr - 1)), .agg [.int .u32 q.a, .int .u16 q.p, .raw (.slice q.A k q.c)], .int .i64 m.xs.length, .int .i64 0], _, 5, NmExt.refl _, rfl, _, fun h k => sat_asns k, ?_⟩
        intro d3 d4
        refine useP (.int .i64 0) (code_spec 0) rfl rfl ?_
        refine Br.mk (fun h => absurd h (by simp)) (fun _ => ?_)
        refine useR .tt sspec rfl (fun f' b' hs' hk' => ⟨?_, ?_⟩) rfl ?_
        · have r := asn_reads (l := m.l) (t := 5) (sz := 1) (cap := m.cap) (xs := m.xs) 7 hs' hk' rfl
          rw [kx, hs] at r
          rw [hs1]
          exact Sx.Reads.take r k
        · rw [hs1, ← hs]
          exact Sx.Reads.take (hq2.reads.frame hs') k
        exact ⟨⟨0, _, l', cap', qrest, lr', cr - 1, inv_take inv hms, hr, by simp only [List.length_cons] at hrroom; omega, hk2, fun q' hq' => small q' (List.mem_cons_of_mem _ hq'), fun _ => hA2, by simp only; omega⟩, Le.of rfl ⟨⟨_, rfl, rfl⟩, ⟨_, rfl, rfl⟩, ⟨_, rfl, rfl⟩, ⟨_, rfl, rfl⟩, ⟨_, rfl, rfl⟩, ⟨_, rfl, rfl⟩, trivial⟩ (fun h k => sat_pick 4 rfl (by first | exact fun _ k => k | exact fun _ k => blk_to rfl rfl k | exact fun _ k => vec_to rfl k | exact fun _ k => blk_of rfl rfl k | exact fun _ k => vec_of rfl k | exact fun _ k => blk_of rfl rfl (blk_to rfl rfl k) | exact fun _ k => vec_of rfl (vec_to rfl k)) (fun h k => sat_pick 4 rfl (by first | exact fun _ k => k | exact fun _ k => blk_to rfl rfl k | exact fun _ k => vec_to rfl k | exact fun _ k => blk_of rfl rfl k | exact fun _ k => vec_of rfl k | exact fun _ k => blk_of rfl rfl (blk_to rfl rfl k) | exact fun _ k => vec_of rfl (vec_to rfl k)) (fun h k => sat_pick 4 rfl (by first | exact fun _ k => k | exact fun _ k => blk_to rfl rfl k | exact fun _ k => vec_to rfl k | exact fun _ k => blk_of rfl rfl k | exact fun _ k => vec_of rfl k | exact fun _ k => blk_of rfl rfl (blk_to rfl rfl k) | exact fun _ k => vec_of rfl (vec_to rfl k)) (fun h k => sat_pick 0 rfl (by first | exact fun _ k => k | exact fun _ k => blk_to rfl rfl k | exact fun _ k => vec_to rfl k | exact fun _ k => blk_of rfl rfl k | exact fun _ k => vec_of rfl k | exact fun _ k => blk_of rfl rfl (blk_to rfl rfl k) | exact fun _ k => vec_of rfl (vec_to rfl k)) (fun h k => sat_pick 5 rfl (fun _ k => vec_of rfl (hA3 _ (vec_to rfl k))) (fun h k => sat_nil k) k) k) k) k) k)⟩
    refine CondOb.split (fun h2 => ?_) (fun h2 => ?_)
    · refine call_asn [_] [_, _] (meet_spec b x l cp a.q.a a.q.p inv hroom hb9) rfl rfl (fun _ _ _ _ => trivial) ?_
      have rspec := (rmeet_spec (refOf x qs) (locAddr 0 lr) cr a.q.a a.q.p hq64 hl0 hl9).sure (Q' := fun v p => (a.q.p = 0 ∧ a.q.a ≠ 0 ∧ v = .tuple #[.agg ((refOf x qs).vals (locAddr 0 lr) cr).toArray, .int .i64 8] ∧ p = []) ∨
        (¬ (a.q.p = 0 ∧ a.q.a ≠ 0) ∧ ∃ l c', v = .tuple #[.agg ((met (refOf x qs) a.q.a a.q.p).vals (locAddr 0 l) c').toArray, .int .i64 0] ∧ (met (refOf x qs) a.q.a a.q.p).l.length ≤ c' ∧ ((met (refOf x qs) a.q.a a.q.p).l ≠ [] → ∃ b o, l = .at b o) ∧ p = [Vec l 37 3 c' (qflat (met (refOf x qs) a.q.a a.q.p).l)])) (by
          rintro v p h (hq | ⟨h1, l, c', h2, h3, rfl⟩) hs
          · exact .inl hq
          · exact .inr ⟨h1, l, c', h2, h3, fun hne => vec_sures hs (qflat_ne hne), rfl⟩)
      obtain ⟨e1, e2⟩ := sim_meet (a := a.q.a) (p := a.q.p) sim
      rw [e1] at rspec
      rintro v post (⟨g1, g2, rfl, rfl⟩ | ⟨g1, rfl, rfl⟩)
      · refine ⟨.int .i64 8, _, 4, NmExt.refl _, rfl, _, fun h k => sat_asns k, ?_⟩
        refine useP (.int .i64 8) (code_spec 8) rfl rfl ?_
        refine call_asn (pre := []) [] [_, _, _, _, _, _] rspec rfl rfl (fun f' b' hs hk => vec_reads 5 hs hk rfl rfl) ?_
        rintro v post (⟨_, _, rfl, rfl⟩ | ⟨g3, _⟩)
        · refine ⟨.tuple [.agg (RB.svs (refOf x qs) (locAddr 0 lr) cr), .int .i64 8], _, 4, NmExt.refl _, rfl, _, fun h k => sat_asns k, ?_⟩
          exact ⟨⟨8, x, l, cp, qs, lr, cr, inv, hroom, hrroom, sim, small, at_, by omega⟩, Le.of rfl ⟨⟨_, rfl, rfl⟩, ⟨_, rfl, rfl⟩, ⟨_, rfl, rfl⟩, ⟨_, rfl, rfl⟩, ⟨_, rfl, rfl⟩, ⟨_, rfl, rfl⟩, trivial⟩ (fun h k => sat_pick 1 rfl (by first | exact fun _ k => k | exact fun _ k => blk_to rfl rfl k | exact fun _ k => vec_to rfl k | exact fun _ k => blk_of rfl rfl k | exact fun _ k => vec_of rfl k | exact fun _ k => blk_of rfl rfl (blk_to rfl rfl k) | exact fun _ k => vec_of rfl (vec_to rfl k)) (fun h k => sat_pick 1 rfl (by first | exact fun _ k => k | exact fun _ k => blk_to rfl rfl k | exact fun _ k => vec_to rfl k | exact fun _ k => blk_of rfl rfl k | exact fun _ k => vec_of rfl k | exact fun _ k => blk_of rfl rfl (blk_to rfl rfl k) | exact fun _ k => vec_of rfl (vec_to rfl k)) (fun h k => sat_pick 1 rfl (by first | exact fun _ k => k | exact fun _ k => blk_to rfl rfl k | exact fun _ k => vec_to rfl k | exact fun _ k => blk_of rfl rfl k | exact fun _ k => vec_of rfl k | exact fun _ k => blk_of rfl rfl (blk_to rfl rfl k) | exact fun _ k => vec_of rfl (vec_to rfl k)) (fun h k => sat_pick 0 rfl (by first | exact fun _ k => k | exact fun _ k => blk_to rfl rfl k | exact fun _ k => vec_to rfl k | exact fun _ k => blk_of rfl rfl k | exact fun _ k => vec_of rfl k | exact fun _ k => blk_of rfl rfl (blk_to rfl rfl k) | exact fun _ k => vec_of rfl (vec_to rfl k)) (fun h k => sat_pick 1 rfl (by first | exact fun _ k => k | exact fun _ k => blk_to rfl rfl k | exact fun _ k => vec_to rfl k | exact fun _ k => blk_of rfl rfl k | exact fun _ k => vec_of rfl k | exact fun _ k => blk_of rfl rfl (blk_to rfl rfl k) | exact fun _ k => vec_of rfl (vec_to rfl k)) (fun h k => sat_nil k) k) k) k) k) k)⟩
        · exact absurd ⟨g1, g2⟩ g3
      · refine ⟨.int .i64 0, _, 4, NmExt.refl _, rfl, _, fun h k => sat_asns k, ?_⟩
        refine useP (.int .i64 0) (code_spec 0) rfl rfl ?_
        refine call_asn (pre := []) [] [_, _, _, _, _, _] rspec rfl rfl (fun f' b' hs hk => vec_reads 5 hs hk rfl rfl) ?_
        rintro v post (⟨g3, g4, _⟩ | ⟨_, l3, c3, rfl, hc3, hn3, rfl⟩)
        · exact absurd ⟨g3, g4⟩ g1
        refine ⟨.tuple [.agg (RB.svs (refOf (meet x a.q.a a.q.p) (kept (refOf { x with a := a.q.a, p := a.q.p } qs) qs)) (locAddr 0 l3) c3), .int .i64 0], _, 4, NmExt.refl _, rfl, _, fun h k => sat_asns k, ?_⟩
        have hsl : (stay { x with a := a.q.a, p := a.q.p } x.ms).length ≤ x.ms.length := List.length_filter_le _ _
        exact ⟨⟨0, _, l, cp, _, l3, c3, inv_meet inv (by omega), by simp only [meet]; omega, hc3, e2, fun q hq => small q (List.mem_filter.1 hq).1, hn3, by simp only [meet]; omega⟩, Le.of rfl ⟨⟨_, rfl, rfl⟩, ⟨_, rfl, rfl⟩, ⟨_, rfl, rfl⟩, ⟨_, rfl, rfl⟩, ⟨_, rfl, rfl⟩, ⟨_, rfl, rfl⟩, trivial⟩ (fun h k => sat_pick 2 rfl (by first | exact fun _ k => k | exact fun _ k => blk_to rfl rfl k | exact fun _ k => vec_to rfl k | exact fun _ k => blk_of rfl rfl k | exact fun _ k => vec_of rfl k | exact fun _ k => blk_of rfl rfl (blk_to rfl rfl k) | exact fun _ k => vec_of rfl (vec_to rfl k)) (fun h k => sat_pick 2 rfl (by first | exact fun _ k => k | exact fun _ k => blk_to rfl rfl k | exact fun _ k => vec_to rfl k | exact fun _ k => blk_of rfl rfl k | exact fun _ k => vec_of rfl k | exact fun _ k => blk_of rfl rfl (blk_to rfl rfl k) | exact fun _ k => vec_of rfl (vec_to rfl k)) (fun h k => sat_pick 2 rfl (by first | exact fun _ k => k | exact fun _ k => blk_to rfl rfl k | exact fun _ k => vec_to rfl k | exact fun _ k => blk_of rfl rfl k | exact fun _ k => vec_of rfl k | exact fun _ k => blk_of rfl rfl (blk_to rfl rfl k) | exact fun _ k => vec_of rfl (vec_to rfl k)) (fun h k => sat_pick 0 rfl (by first | exact fun _ k => k | exact fun _ k => blk_to rfl rfl k | exact fun _ k => vec_to rfl k | exact fun _ k => blk_of rfl rfl k | exact fun _ k => vec_of rfl k | exact fun _ k => blk_of rfl rfl (blk_to rfl rfl k) | exact fun _ k => vec_of rfl (vec_to rfl k)) (fun h k => sat_pick 0 rfl (by first | exact fun _ k => k | exact fun _ k => blk_to rfl rfl k | exact fun _ k => vec_to rfl k | exact fun _ k => blk_of rfl rfl k | exact fun _ k => vec_of rfl k | exact fun _ k => blk_of rfl rfl (blk_to rfl rfl k) | exact fun _ k => vec_of rfl (vec_to rfl k)) (fun h k => sat_nil k) k) k) k) k) k)⟩
    refine CondOb.split (fun h3 => ?_) (fun h3 => ?_)
    · refine call_asn [_] [_, _, _, _] (tell_box b x l cp a.n) rfl rfl (fun _ _ _ _ => trivial) ?_
      rintro v post ⟨rfl, rfl⟩
      refine ⟨.tuple [], _, 4, NmExt.refl _, rfl, _, fun h k => sat_asns k, ?_⟩
      refine CondOb.split (fun h4 => ?_) (fun h4 => ?_)
      · have h4 : x.told = 0 := by simpa using h4
        rw [if_pos h4]
        exact ⟨⟨0, { x with told := a.n }, l, cp, qs, lr, cr, inv_told inv _, hroom, hrroom, sim, small, at_, by simp only; omega⟩, Le.of rfl ⟨⟨_, rfl, rfl⟩, ⟨_, rfl, rfl⟩, ⟨_, rfl, rfl⟩, ⟨_, rfl, rfl⟩, ⟨_, rfl, rfl⟩, ⟨_, rfl, rfl⟩, trivial⟩ (fun h k => sat_pick 1 rfl (by first | exact fun _ k => k | exact fun _ k => blk_to rfl rfl k | exact fun _ k => vec_to rfl k | exact fun _ k => blk_of rfl rfl k | exact fun _ k => vec_of rfl k | exact fun _ k => blk_of rfl rfl (blk_to rfl rfl k) | exact fun _ k => vec_of rfl (vec_to rfl k)) (fun h k => sat_pick 2 rfl (by first | exact fun _ k => k | exact fun _ k => blk_to rfl rfl k | exact fun _ k => vec_to rfl k | exact fun _ k => blk_of rfl rfl k | exact fun _ k => vec_of rfl k | exact fun _ k => blk_of rfl rfl (blk_to rfl rfl k) | exact fun _ k => vec_of rfl (vec_to rfl k)) (fun h k => sat_pick 2 rfl (by first | exact fun _ k => k | exact fun _ k => blk_to rfl rfl k | exact fun _ k => vec_to rfl k | exact fun _ k => blk_of rfl rfl k | exact fun _ k => vec_of rfl k | exact fun _ k => blk_of rfl rfl (blk_to rfl rfl k) | exact fun _ k => vec_of rfl (vec_to rfl k)) (fun h k => sat_pick 0 rfl (by first | exact fun _ k => k | exact fun _ k => blk_to rfl rfl k | exact fun _ k => vec_to rfl k | exact fun _ k => blk_of rfl rfl k | exact fun _ k => vec_of rfl k | exact fun _ k => blk_of rfl rfl (blk_to rfl rfl k) | exact fun _ k => vec_of rfl (vec_to rfl k)) (fun h k => sat_pick 1 rfl (by first | exact fun _ k => k | exact fun _ k => blk_to rfl rfl k | exact fun _ k => vec_to rfl k | exact fun _ k => blk_of rfl rfl k | exact fun _ k => vec_of rfl k | exact fun _ k => blk_of rfl rfl (blk_to rfl rfl k) | exact fun _ k => vec_of rfl (vec_to rfl k)) (fun h k => sat_nil k) k) k) k) k) k)⟩
      · have h4 : ¬ x.told = 0 := by simpa using h4
        rw [if_neg h4]
        exact ⟨⟨0, x, l, cp, qs, lr, cr, inv, hroom, hrroom, sim, small, at_, by omega⟩, Le.of rfl ⟨⟨_, rfl, rfl⟩, ⟨_, rfl, rfl⟩, ⟨_, rfl, rfl⟩, ⟨_, rfl, rfl⟩, ⟨_, rfl, rfl⟩, ⟨_, rfl, rfl⟩, trivial⟩ (fun h k => sat_pick 0 rfl (by first | exact fun _ k => k | exact fun _ k => blk_to rfl rfl k | exact fun _ k => vec_to rfl k | exact fun _ k => blk_of rfl rfl k | exact fun _ k => vec_of rfl k | exact fun _ k => blk_of rfl rfl (blk_to rfl rfl k) | exact fun _ k => vec_of rfl (vec_to rfl k)) (fun h k => sat_pick 1 rfl (by first | exact fun _ k => k | exact fun _ k => blk_to rfl rfl k | exact fun _ k => vec_to rfl k | exact fun _ k => blk_of rfl rfl k | exact fun _ k => vec_of rfl k | exact fun _ k => blk_of rfl rfl (blk_to rfl rfl k) | exact fun _ k => vec_of rfl (vec_to rfl k)) (fun h k => sat_pick 1 rfl (by first | exact fun _ k => k | exact fun _ k => blk_to rfl rfl k | exact fun _ k => vec_to rfl k | exact fun _ k => blk_of rfl rfl k | exact fun _ k => vec_of rfl k | exact fun _ k => blk_of rfl rfl (blk_to rfl rfl k) | exact fun _ k => vec_of rfl (vec_to rfl k)) (fun h k => sat_pick 1 rfl (by first | exact fun _ k => k | exact fun _ k => blk_to rfl rfl k | exact fun _ k => vec_to rfl k | exact fun _ k => blk_of rfl rfl k | exact fun _ k => vec_of rfl k | exact fun _ k => blk_of rfl rfl (blk_to rfl rfl k) | exact fun _ k => vec_of rfl (vec_to rfl k)) (fun h k => sat_pick 1 rfl (by first | exact fun _ k => k | exact fun _ k => blk_to rfl rfl k | exact fun _ k => vec_to rfl k | exact fun _ k => blk_of rfl rfl k | exact fun _ k => vec_of rfl k | exact fun _ k => blk_of rfl rfl (blk_to rfl rfl k) | exact fun _ k => vec_of rfl (vec_to rfl k)) (fun h k => sat_nil k) k) k) k) k) k)⟩
    · exact ⟨⟨0, x, l, cp, qs, lr, cr, inv, hroom, hrroom, sim, small, at_, by omega⟩, Le.of rfl ⟨⟨_, rfl, rfl⟩, ⟨_, rfl, rfl⟩, ⟨_, rfl, rfl⟩, ⟨_, rfl, rfl⟩, ⟨_, rfl, rfl⟩, ⟨_, rfl, rfl⟩, trivial⟩ (fun h k => sat_pick 1 rfl (by first | exact fun _ k => k | exact fun _ k => blk_to rfl rfl k | exact fun _ k => vec_to rfl k | exact fun _ k => blk_of rfl rfl k | exact fun _ k => vec_of rfl k | exact fun _ k => blk_of rfl rfl (blk_to rfl rfl k) | exact fun _ k => vec_of rfl (vec_to rfl k)) (fun h k => sat_pick 1 rfl (by first | exact fun _ k => k | exact fun _ k => blk_to rfl rfl k | exact fun _ k => vec_to rfl k | exact fun _ k => blk_of rfl rfl k | exact fun _ k => vec_of rfl k | exact fun _ k => blk_of rfl rfl (blk_to rfl rfl k) | exact fun _ k => vec_of rfl (vec_to rfl k)) (fun h k => sat_pick 1 rfl (by first | exact fun _ k => k | exact fun _ k => blk_to rfl rfl k | exact fun _ k => vec_to rfl k | exact fun _ k => blk_of rfl rfl k | exact fun _ k => vec_of rfl k | exact fun _ k => blk_of rfl rfl (blk_to rfl rfl k) | exact fun _ k => vec_of rfl (vec_to rfl k)) (fun h k => sat_pick 1 rfl (by first | exact fun _ k => k | exact fun _ k => blk_to rfl rfl k | exact fun _ k => vec_to rfl k | exact fun _ k => blk_of rfl rfl k | exact fun _ k => vec_of rfl k | exact fun _ k => blk_of rfl rfl (blk_to rfl rfl k) | exact fun _ k => vec_of rfl (vec_to rfl k)) (fun h k => sat_pick 1 rfl (by first | exact fun _ k => k | exact fun _ k => blk_to rfl rfl k | exact fun _ k => vec_to rfl k | exact fun _ k => blk_of rfl rfl k | exact fun _ k => vec_of rfl k | exact fun _ k => blk_of rfl rfl (blk_to rfl rfl k) | exact fun _ k => vec_of rfl (vec_to rfl k)) (fun h k => sat_nil k) k) k) k) k) k)⟩
  · obtain ⟨e, x, l, cp, qs, lr, cr, inv, hroom, hrroom, sim, small, at_, lost⟩ := z
    have hlen := sim.len
    have hsum := sim.sum
    refine useA [] [_, _, _, _] (.tuple [.agg [.int .u32 x.a, .int .u16 x.p], .bool (!(x.a == 0 && x.p == 0))]) (peer_box b x l cp) rfl rfl rfl ?_
    intro d
    refine DrawOb.mk [(5, [6, 7, 8]), (13, [14]), (20, [21, 22]), (41, [42, 43, 44, 45])] (.run [0, 1, 2, 3, 4, 6, 7, 8, 5, 9, 10, 11, 12, 14, 13, 15, 16, 17, 18, 19, 21, 22, 20, 23, 24, 25, 26, 27, 28, 29, 30, 31, 32, 33, 34, 35, 36, 37, 38, 39, 40, 42, 43, 44, 45, 41, 46, 47, 48, 49, 50, 51, 52] .nil) (by kernel_rfl) ?_
    refine Br.mk (fun h => absurd h (by simp)) (fun _ => ?_)
    refine useA [_] [_, _, _, _] (.int .i64 x.ms.length) (len_spec b x l cp) rfl rfl rfl ?_
    refine Need.mk rfl ?_
    refine Br.mk (fun h => absurd h (by rw [hlen]; simp)) (fun _ => ?_)
    refine useA [_] [_, _, _, _] (.int .i64 x.held) (held_box b x l cp) rfl rfl rfl ?_
    refine Need.mk rfl ?_
    have hq9 : ∀ q ∈ (refOf x qs).l, q.xs.length ≤ 1000000000 := fun q hq => by have := (small q hq).1; omega
    have hq64 : (refOf x qs).l.length ≤ 1000 := by have := inv.len; have := inv.m2; show qs.length ≤ 1000; omega
    refine useR (.int .i64 _) (held_spec (refOf x qs) (locAddr 0 lr) cr hq64 hq9) rfl (fun f' b' hs hk => vec_reads 5 hs hk rfl rfl) rfl ?_
    have eh : x.held = ((qsum (refOf x qs).l : Nat) : Int) := by rw [inv.held, hsum]; rfl
    refine Br.mk (fun h => absurd h (by rw [eh]; simp)) (fun _ => ?_)
    refine useA [_] [_, _, _, _] (.int .i64 x.lost) (lost_spec b x l cp) rfl rfl rfl ?_
    refine Need.mk rfl ?_
    refine Br.mk (fun h => absurd h (by simp)) (fun _ => ?_)
    refine BinOb.eqs 3 (by kernel_rfl) ?_ rfl rfl
    refine Br.mk (fun h => absurd h (by simp)) (fun _ => ?_)
    refine BinOb.eqs 3 (by kernel_rfl) ?_ rfl rfl
    refine Br.mk (fun h => absurd h (by simp)) (fun _ => ?_)
    refine useA [_] [_, _, _, _] (.bool (decide ((x.ms.length : Int) > 0) || (x.told != 0))) (ready_box b x l cp) rfl rfl rfl ?_
    refine Need.mk rfl ?_
    have ei : IntKind.i64.wrap ((i : Int) + 1) = ((i + 1 : Nat) : Int) := by rw [w64 (by omega) (by omega)]; omega
    refine Br.mk (fun h5 => ?_) (fun h5 => ?_)
    · refine CondOb.split (fun h6 => ?_) (fun h6 => ?_)
      · exfalso
        rw [hlen] at h6
        replace h5 : decide ((qs.length : Int) > 0) = true := h5
        rw [h5] at h6
        simp at h6
      · refine ⟨⟨i + 1, x, l, cp, qs, lr, cr, by omega, inv, hroom, hrroom, sim, small, at_, by omega⟩, ?_, Le.of rfl ⟨⟨_, rfl, rfl⟩, ⟨_, rfl, rfl⟩, ⟨_, rfl, rfl⟩, ⟨_, rfl, congrArg (fun z => some (Value.int .i64 z)) ei⟩, trivial⟩ (fun h k => sat_pick 1 rfl (by first | exact fun _ k => k | exact fun _ k => blk_to rfl rfl k | exact fun _ k => vec_to rfl k | exact fun _ k => blk_of rfl rfl k | exact fun _ k => vec_of rfl k | exact fun _ k => blk_of rfl rfl (blk_to rfl rfl k) | exact fun _ k => vec_of rfl (vec_to rfl k)) (fun h k => sat_pick 1 rfl (by first | exact fun _ k => k | exact fun _ k => blk_to rfl rfl k | exact fun _ k => vec_to rfl k | exact fun _ k => blk_of rfl rfl k | exact fun _ k => vec_of rfl k | exact fun _ k => blk_of rfl rfl (blk_to rfl rfl k) | exact fun _ k => vec_of rfl (vec_to rfl k)) (fun h k => sat_pick 1 rfl (by first | exact fun _ k => k | exact fun _ k => blk_to rfl rfl k | exact fun _ k => vec_to rfl k | exact fun _ k => blk_of rfl rfl k | exact fun _ k => vec_of rfl k | exact fun _ k => blk_of rfl rfl (blk_to rfl rfl k) | exact fun _ k => vec_of rfl (vec_to rfl k)) (fun h k => sat_pick 1 rfl (by first | exact fun _ k => k | exact fun _ k => blk_to rfl rfl k | exact fun _ k => vec_to rfl k | exact fun _ k => blk_of rfl rfl k | exact fun _ k => vec_of rfl k | exact fun _ k => blk_of rfl rfl (blk_to rfl rfl k) | exact fun _ k => vec_of rfl (vec_to rfl k)) (fun h k => sat_pick 1 rfl (by first | exact fun _ k => k | exact fun _ k => blk_to rfl rfl k | exact fun _ k => vec_to rfl k | exact fun _ k => blk_of rfl rfl k | exact fun _ k => vec_of rfl k | exact fun _ k => blk_of rfl rfl (blk_to rfl rfl k) | exact fun _ k => vec_of rfl (vec_to rfl k)) (fun h k => sat_nil k) k) k) k) k) k)⟩
        show L.length - (i + 1) < L.length - i
        omega
    · refine CondOb.split (fun h6 => ?_) (fun h6 => ?_)
      · exfalso
        rw [hlen] at h6
        replace h5 : decide ((qs.length : Int) > 0) = false := h5
        rw [h5] at h6
        simp at h6
      · refine ⟨⟨i + 1, x, l, cp, qs, lr, cr, by omega, inv, hroom, hrroom, sim, small, at_, by omega⟩, ?_, Le.of rfl ⟨⟨_, rfl, rfl⟩, ⟨_, rfl, rfl⟩, ⟨_, rfl, rfl⟩, ⟨_, rfl, congrArg (fun z => some (Value.int .i64 z)) ei⟩, trivial⟩ (fun h k => sat_pick 1 rfl (by first | exact fun _ k => k | exact fun _ k => blk_to rfl rfl k | exact fun _ k => vec_to rfl k | exact fun _ k => blk_of rfl rfl k | exact fun _ k => vec_of rfl k | exact fun _ k => blk_of rfl rfl (blk_to rfl rfl k) | exact fun _ k => vec_of rfl (vec_to rfl k)) (fun h k => sat_pick 1 rfl (by first | exact fun _ k => k | exact fun _ k => blk_to rfl rfl k | exact fun _ k => vec_to rfl k | exact fun _ k => blk_of rfl rfl k | exact fun _ k => vec_of rfl k | exact fun _ k => blk_of rfl rfl (blk_to rfl rfl k) | exact fun _ k => vec_of rfl (vec_to rfl k)) (fun h k => sat_pick 1 rfl (by first | exact fun _ k => k | exact fun _ k => blk_to rfl rfl k | exact fun _ k => vec_to rfl k | exact fun _ k => blk_of rfl rfl k | exact fun _ k => vec_of rfl k | exact fun _ k => blk_of rfl rfl (blk_to rfl rfl k) | exact fun _ k => vec_of rfl (vec_to rfl k)) (fun h k => sat_pick 1 rfl (by first | exact fun _ k => k | exact fun _ k => blk_to rfl rfl k | exact fun _ k => vec_to rfl k | exact fun _ k => blk_of rfl rfl k | exact fun _ k => vec_of rfl k | exact fun _ k => blk_of rfl rfl (blk_to rfl rfl k) | exact fun _ k => vec_of rfl (vec_to rfl k)) (fun h k => sat_pick 1 rfl (by first | exact fun _ k => k | exact fun _ k => blk_to rfl rfl k | exact fun _ k => vec_to rfl k | exact fun _ k => blk_of rfl rfl k | exact fun _ k => vec_of rfl k | exact fun _ k => blk_of rfl rfl (blk_to rfl rfl k) | exact fun _ k => vec_of rfl (vec_to rfl k)) (fun h k => sat_nil k) k) k) k) k) k)⟩
        show L.length - (i + 1) < L.length - i
        omega
end Go.Proofs.Ytlgdagjbphafcaa.Udp
