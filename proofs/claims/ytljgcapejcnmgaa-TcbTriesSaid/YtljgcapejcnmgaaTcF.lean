/- tcb: hello, Open, close, and others. Conditions: none. -/
import Derived.Test.YtljgcapejcnmgaaTcE
namespace Go.Proofs.Ytljgcapejcnmgaa.Tc
open Go Go.Proofs Sx
set_option maxRecDepth 100000
set_option linter.unusedVariables false
set_option linter.unusedSimpArgs false
set_option maxHeartbeats 4000000

theorem sat_rd {As : List Asn} {h : HP} (k : sat As h) (n : Nat) {b : Nat} {x : X} (e : As[n]? = some (CA b x)) (i : Nat) (v : Value) (e2 : x.vals[i]? = some v) : fcell h b i = some v := sat_cell n e (ca_at i v e2) k
theorem Fr.toldP {f f' p : HP} {nm : List (Nat × Plc)} {es : List Ent} (s : Split f' p f) (k : sat (es.map (entDen nm)) p) (n : Nat) {b : Nat} {x : X} (hA : es[n]? = some (.asn (CA b x))) (m : Nat) {A : Asn} (e : x.rest[m]? = some A) : Fr A f' := (Fr.told n hA s k).part m e
theorem ca_st {b : Nat} {x x' : X} {off : Nat} {vs : List Value} {h : HP} (k : CA b x h) (hl : off + vs.length ≤ 52) (hv : putV x.vals off vs = x'.vals) (hr : x'.rest = x.rest) :
    ∃ c t, h b = some (.cells c t (0, 0)) ∧ off + vs.length ≤ c.size ∧ CA b x' (upd h b (.cells (putV c.toList off vs).toArray t (0, 0))) := ca_set hl hv hr h k
theorem flat_part {α : Type} (e : Lay α) {l : List α} {i : Nat} {a a' : α} (h : l[i]? = some a) (j : Nat) {vs : List Value} (hj : j + vs.length ≤ e.sz) (hv : putV (e.cells a) j vs = e.cells a') : putV (e.flat l) (i * e.sz + j) vs = e.flat (l.set i a') := by
  have hi := (List.getElem?_eq_some_iff.1 h).1
  have e1 : e.flat l = e.flat (l.take i) ++ (e.cells a ++ e.flat (l.drop (i + 1))) := by rw [← e.flat_drop h, ← e.flat_split]
  have hlen : i * e.sz = (e.flat (l.take i)).length := by rw [e.flat_length]; simp [Nat.min_eq_left (Nat.le_of_lt hi)]
  rw [e1, hlen, putV_pre, putV_post _ _ _ _ (by rw [e.len]; exact hj), hv, List.set_eq_take_append_cons_drop, if_pos hi, e.flat_append, e.flat_cons]
/-- The last one that goes out is turned. -/
theorem ca_last {b : Nat} {x : X} {s s' : Sg} {q o co oo : Nat} {vs : List Value} (j : Nat) (e : oo = o + x.out.length * 9 + j) (hl : j + vs.length ≤ 9) (hone : ∀ v ∈ vs, v.oneCell' = true) (hv : putV s.vals j vs = s'.vals) (h : HP) (k : CA b (x.put s (.at q o) co) h) :
    ∃ c t, h q = some (.cells c t (0, 0)) ∧ oo + vs.length ≤ c.size ∧ CA b (x.put s' (.at q o) co) (upd h q (.cells (putV c.toList oo vs).toArray t (0, 0))) := by
  subst e
  have hg : (x.out ++ [s])[x.out.length]? = some s := by simp
  have hf : putV (SL.flat (x.out ++ [s])) (x.out.length * 9 + j) vs = SL.flat (x.out ++ [s']) := by
    have := flat_part SL (a' := s') hg j (vs := vs) hl hv
    rw [show SL.sz = 9 from rfl] at this
    rw [this]; simp
  have hlen : (x.out ++ [s]).length = (x.out ++ [s']).length := by simp
  have k2 : sat (pt b (.cells (x.put s (.at q o) co).vals.toArray 63 (0, 0)) :: (x.put s (.at q o) co).rest) h := k
  have := sat_updE (A := Vec (.at q o) 49 9 co (SL.flat (x.out ++ [s]))) (A' := Vec (.at q o) 49 9 co (SL.flat (x.out ++ [s']))) (b := q) (o := o + x.out.length * 9 + j) (vs := vs) (fun y ky => by
    obtain ⟨c, h1, h2, h3⟩ := vec_upd (x.out.length * 9 + j) (vs := vs) (by rw [lS, List.length_append, List.length_singleton]; omega) hone y ky
    refine ⟨c, _, h1, by omega, ?_⟩
    rw [hf] at h3
    rw [Nat.add_assoc]; exact h3) 1 (As := pt b (.cells (x.put s (.at q o) co).vals.toArray 63 (0, 0)) :: (x.put s (.at q o) co).rest) rfl k2
  obtain ⟨c, t, h1, h2, h3⟩ := this
  refine ⟨c, t, h1, h2, ?_⟩
  have ev : (x.put s (.at q o) co).vals = (x.put s' (.at q o) co).vals := by simp only [X.vals, X.put, hlen]
  rw [ev] at h3
  exact h3
theorem ack_spec (b : Nat) (x : X) (hsi : 0 ≤ x.si) (ho : x.out.length ≤ x.co) (hl : x.out.length ≤ 1000000) :
    Does Try.prog 37 #[pp b] (fun _ => True) [CA b x] (fun v p => ∃ q o co, v = .tuple #[] ∧ x.out.length + 1 ≤ co ∧ p = [CA b (x.put (x.seg 16 x.top none 0 0) (.at q o) co)]) := by
  refine Does.ofJ Try.func37 Try.call37 rfl [.raw (pp b)] [] 0 [.asn (CA b x)] rfl rfl (fun h k => k) (fun f hR => ?_)
  refine RdRaw.told (.int .u32 x.top) _ rfl (fun h k => sat_rd k 0 rfl 21 _ rfl) ?_
  refine call_ix (put_spec b x 16 x.top none 0 0 hsi ho hl) rfl [0] (fun h k => sat_pick 0 rfl (by first | exact fun _ k => k | exact fun _ k => blk_to rfl rfl k | exact fun _ k => vec_to rfl k | exact fun _ k => blk_of rfl rfl k | exact fun _ k => vec_of rfl k | exact fun _ k => blk_of rfl rfl (blk_to rfl rfl k) | exact fun _ k => vec_of rfl (vec_to rfl k) | exact fun _ k => mp_to rfl k | exact fun _ k => mp_of rfl k | exact fun _ k => mp_of rfl (mp_to rfl k)) (fun h k => sat_nil k) k) (fun _ _ _ _ => trivial) ?_
  rintro v post ⟨q, o, co, rfl, hco, rfl⟩
  refine ⟨.tuple [], _, 0, [.asn (CA b (x.put (x.seg 16 x.top none 0 0) (.at q o) co))], NmExt.refl _, rfl, (fun h k => sat_pick 0 rfl (by first | exact fun _ k => k | exact fun _ k => blk_to rfl rfl k | exact fun _ k => vec_to rfl k | exact fun _ k => blk_of rfl rfl k | exact fun _ k => vec_of rfl k | exact fun _ k => blk_of rfl rfl (blk_to rfl rfl k) | exact fun _ k => vec_of rfl (vec_to rfl k) | exact fun _ k => mp_to rfl k | exact fun _ k => mp_of rfl k | exact fun _ k => mp_of rfl (mp_to rfl k)) (fun h k => sat_nil k) k), ?_⟩
  exact FinOb.mk [] [CA b (x.put (x.seg 16 x.top none 0 0) (.at q o) co)] rfl (fun h k => sat_pick 0 rfl (by first | exact fun _ k => k | exact fun _ k => blk_to rfl rfl k | exact fun _ k => vec_to rfl k | exact fun _ k => blk_of rfl rfl k | exact fun _ k => vec_of rfl k | exact fun _ k => blk_of rfl rfl (blk_to rfl rfl k) | exact fun _ k => vec_of rfl (vec_to rfl k) | exact fun _ k => mp_to rfl k | exact fun _ k => mp_of rfl k | exact fun _ k => mp_of rfl (mp_to rfl k)) (fun h k => sat_nil k) k) ⟨q, o, co, rfl, hco, rfl⟩
def X.close (x : X) (e : Int) : X := { x with state := 0, fault := e, again := ⟨x.again.at_, false⟩, probe := ⟨x.probe.at_, false⟩, wait := ⟨x.wait.at_, false⟩, user := ⟨x.user.at_, false⟩ }
theorem close_spec (b : Nat) (x : X) (e : Int) : Does Try.prog 23 #[pp b, .int .i64 e] (fun _ => True) [CA b x] (fun v p => v = .tuple #[] ∧ p = [CA b (x.close e)]) := by
  refine Does.ofJ Try.func23 Try.call23 rfl [.raw (pp b), .int .i64 e] [] 0 [.asn (CA b x)] rfl rfl (fun h k => k) (fun f hR => ?_)
  refine StRaw.on 0 (CA b { x with state := 0 }) [.int .i64 0] rfl rfl (fun h k => ca_st k (Nat.le_of_ble_eq_true rfl) rfl rfl) ?_
  refine StRaw.on 0 (CA b { x with state := 0, fault := e }) [.int .i64 e] rfl rfl (fun h k => ca_st k (Nat.le_of_ble_eq_true rfl) rfl rfl) ?_
  refine StRaw.on 0 (CA b { x with state := 0, fault := e, again := ⟨x.again.at_, false⟩ }) [.bool false] rfl rfl (fun h k => ca_st k (Nat.le_of_ble_eq_true rfl) rfl rfl) ?_
  refine StRaw.on 0 (CA b { x with state := 0, fault := e, again := ⟨x.again.at_, false⟩, probe := ⟨x.probe.at_, false⟩ }) [.bool false] rfl rfl (fun h k => ca_st k (Nat.le_of_ble_eq_true rfl) rfl rfl) ?_
  refine StRaw.on 0 (CA b { x with state := 0, fault := e, again := ⟨x.again.at_, false⟩, probe := ⟨x.probe.at_, false⟩, wait := ⟨x.wait.at_, false⟩ }) [.bool false] rfl rfl (fun h k => ca_st k (Nat.le_of_ble_eq_true rfl) rfl rfl) ?_
  refine StRaw.on 0 (CA b (x.close e)) [.bool false] rfl rfl (fun h k => ca_st k (Nat.le_of_ble_eq_true rfl) rfl rfl) ?_
  exact FinOb.mk [] [CA b (x.close e)] rfl (fun h k => sat_pick 0 rfl (by first | exact fun _ k => k | exact fun _ k => blk_to rfl rfl k | exact fun _ k => vec_to rfl k | exact fun _ k => blk_of rfl rfl k | exact fun _ k => vec_of rfl k | exact fun _ k => blk_of rfl rfl (blk_to rfl rfl k) | exact fun _ k => vec_of rfl (vec_to rfl k) | exact fun _ k => mp_to rfl k | exact fun _ k => mp_of rfl k | exact fun _ k => mp_of rfl (mp_to rfl k)) (fun h k => sat_nil k) k) ⟨rfl, rfl⟩
def X.at (x : X) (n : Int) : X := if n ≤ 1099511627776 then { x with now := mx x.now n } else x
theorem at_spec (b : Nat) (x : X) (n : Int) : Does Try.prog 21 #[pp b, .int .i64 n] (fun _ => True) [CA b x] (fun v p => v = .tuple #[] ∧ p = [CA b (x.at n)]) := by
  refine Does.ofJ Try.func21 Try.call21 rfl [.raw (pp b), .int .i64 n] [] 0 [.asn (CA b x)] rfl rfl (fun h k => k) (fun f hR => ?_)
  refine CondOb.split (fun g => ?_) (fun g => ?_)
  · have g := of_decide_eq_true g
    refine RdRaw.told (.int .i64 x.now) _ rfl (fun h k => sat_rd k 0 rfl 14 _ rfl) ?_
    refine StRaw.on 0 (CA b { x with now := mx x.now n }) [.int .i64 (mx x.now n)] rfl rfl (fun h k => ca_st k (Nat.le_of_ble_eq_true rfl) rfl rfl) ?_
    exact FinOb.mk [] [CA b (x.at n)] rfl (fun h k => sat_pick 0 rfl (fun h k => by unfold X.at; rw [if_pos g]; exact k) (fun h k => sat_nil k) k) ⟨rfl, rfl⟩
  · have g := of_decide_eq_false g
    exact FinOb.mk [] [CA b (x.at n)] rfl (fun h k => sat_pick 0 rfl (fun h k => by unfold X.at; rw [if_neg g]; exact k) (fun h k => sat_nil k) k) ⟨rfl, rfl⟩
theorem start_spec (b : Nat) (x x' : X) (off : Nat) (t : Int) (hl : off + 2 ≤ 52) (hv : putV x.vals off [.int .i64 t, .bool true] = x'.vals) (hr : x'.rest = x.rest) :
    Does Try.prog 17 #[.pointer (some ⟨b, off, none⟩), .int .i64 t] (fun _ => True) [CA b x] (fun v p => v = .tuple #[] ∧ p = [CA b x']) := by
  refine Does.ofJ Try.func17 Try.call17 rfl [.raw (.pointer (some ⟨b, off, none⟩)), .int .i64 t] [] 0 [.asn (CA b x)] rfl rfl (fun h k => k) (fun f hR => ?_)
  refine StRaw.on 0 (CA b x') [.int .i64 t, .bool true] rfl rfl (fun h k => ca_st k hl hv hr) ?_
  exact FinOb.mk [] [CA b x'] rfl (fun h k => sat_pick 0 rfl (by first | exact fun _ k => k | exact fun _ k => blk_to rfl rfl k | exact fun _ k => vec_to rfl k | exact fun _ k => blk_of rfl rfl k | exact fun _ k => vec_of rfl k | exact fun _ k => blk_of rfl rfl (blk_to rfl rfl k) | exact fun _ k => vec_of rfl (vec_to rfl k) | exact fun _ k => mp_to rfl k | exact fun _ k => mp_of rfl k | exact fun _ k => mp_of rfl (mp_to rfl k)) (fun h k => sat_nil k) k) ⟨rfl, rfl⟩
/-! ### hello, Open -/
def X.hseg (x : X) (scaled : Bool) : Sg := { x.seg (if x.state = 2 then 18 else 2) x.iss none 0 0 with win := x.win 0, mss := x.cfg.mss, scale := if scaled then scl x.cfg.rcv + 1 else 0 }
def X.hello2 (x : X) (s : Sg) (q o co : Nat) : X := { x.put s (.at q o) co with nxt := addQ x.iss 1, top := maxQ x.top (addQ x.iss 1), again := ⟨IntKind.i64.wrap (x.now + x.rto.now), true⟩ }
def X.hello (x : X) (scaled : Bool) (q o co : Nat) : X := x.hello2 (x.hseg scaled) q o co
theorem hello_spec (b : Nat) (x : X) (scaled : Bool) (hsi : 0 ≤ x.si) (ho : x.out.length ≤ x.co) (hl : x.out.length ≤ 1000000) (hr0 : 0 ≤ x.cfg.rcv) (hr1 : x.cfg.rcv ≤ 1048576) :
    Does Try.prog 18 #[pp b, .bool scaled] (fun _ => True) [CA b x] (fun v p => ∃ q o co, v = .tuple #[] ∧ x.out.length + 1 ≤ co ∧ p = [CA b (x.hello scaled q o co)]) := by
  refine Does.ofJ Try.func18 Try.call18 rfl [.raw (pp b), .bool scaled] [] 0 [.asn (CA b x)] rfl rfl (fun h k => k) (fun f hR => ?_)
  refine RdRaw.told (.int .i64 x.state) _ rfl (fun h k => sat_rd k 0 rfl 13 _ rfl) ?_
  refine CondOb.join Unit (fun _ => ⟨85, [(0, .raw (pp b)), (1, .bool scaled), (4, .int .u8 (if x.state = 2 then 18 else 2))], [], 0, [.asn (CA b x)]⟩) (fun g => ?_) (fun g => ?_) (fun _ => ?_)
  · have g : x.state = 2 := by simpa using g
    exact ⟨(), Le.of rfl ⟨⟨_, rfl, rfl⟩, ⟨_, rfl, rfl⟩, ⟨_, rfl, (by rw [if_pos g]; rfl)⟩, trivial⟩ (fun h k => sat_pick 0 rfl (by first | exact fun _ k => k | exact fun _ k => blk_to rfl rfl k | exact fun _ k => vec_to rfl k | exact fun _ k => blk_of rfl rfl k | exact fun _ k => vec_of rfl k | exact fun _ k => blk_of rfl rfl (blk_to rfl rfl k) | exact fun _ k => vec_of rfl (vec_to rfl k) | exact fun _ k => mp_to rfl k | exact fun _ k => mp_of rfl k | exact fun _ k => mp_of rfl (mp_to rfl k)) (fun h k => sat_nil k) k)⟩
  · have g : ¬ x.state = 2 := by simpa using g
    exact ⟨(), Le.of rfl ⟨⟨_, rfl, rfl⟩, ⟨_, rfl, rfl⟩, ⟨_, rfl, (by rw [if_neg g])⟩, trivial⟩ (fun h k => sat_pick 0 rfl (by first | exact fun _ k => k | exact fun _ k => blk_to rfl rfl k | exact fun _ k => vec_to rfl k | exact fun _ k => blk_of rfl rfl k | exact fun _ k => vec_of rfl k | exact fun _ k => blk_of rfl rfl (blk_to rfl rfl k) | exact fun _ k => vec_of rfl (vec_to rfl k) | exact fun _ k => mp_to rfl k | exact fun _ k => mp_of rfl k | exact fun _ k => mp_of rfl (mp_to rfl k)) (fun h k => sat_nil k) k)⟩
  refine RdRaw.told (.int .u32 x.iss) _ rfl (fun h k => sat_rd k 0 rfl 18 _ rfl) ?_
  refine call_ix (put_spec b x (if x.state = 2 then 18 else 2) x.iss none 0 0 hsi ho hl) rfl [0] (fun h k => sat_pick 0 rfl (by first | exact fun _ k => k | exact fun _ k => blk_to rfl rfl k | exact fun _ k => vec_to rfl k | exact fun _ k => blk_of rfl rfl k | exact fun _ k => vec_of rfl k | exact fun _ k => blk_of rfl rfl (blk_to rfl rfl k) | exact fun _ k => vec_of rfl (vec_to rfl k) | exact fun _ k => mp_to rfl k | exact fun _ k => mp_of rfl k | exact fun _ k => mp_of rfl (mp_to rfl k)) (fun h k => sat_nil k) k) (fun _ _ _ _ => trivial) ?_
  rintro v post ⟨q, o, co, rfl, hco, rfl⟩
  generalize hs : x.seg (if x.state = 2 then 18 else 2) x.iss none 0 0 = s
  refine ⟨.tuple [], _, 0, [.asn (CA b (x.put s (.at q o) co))], NmExt.refl _, rfl, (fun h k => sat_pick 0 rfl (by first | exact fun _ k => k | exact fun _ k => blk_to rfl rfl k | exact fun _ k => vec_to rfl k | exact fun _ k => blk_of rfl rfl k | exact fun _ k => vec_of rfl k | exact fun _ k => blk_of rfl rfl (blk_to rfl rfl k) | exact fun _ k => vec_of rfl (vec_to rfl k) | exact fun _ k => mp_to rfl k | exact fun _ k => mp_of rfl k | exact fun _ k => mp_of rfl (mp_to rfl k)) (fun h k => sat_nil k) k), ?_⟩
  refine DrawOb.mk [] (.run [0, 1, 2, 3, 4, 5, 6, 7, 8, 9, 10, 11] .nil) (by kernel_rfl) ?_
  have eL : (x.out ++ [s]).length = x.out.length + 1 := by simp
  have eW : IntKind.i64.wrap (((x.out ++ [s]).length : Int) - 1) = x.out.length := by rw [w64 (by omega) (by omega)]; omega
  have eI : ∀ j, o + (IntKind.i64.wrap (((x.out ++ [s]).length : Int) - 1)).toNat * 9 + j = o + x.out.length * 9 + j := fun j => by rw [eW, Int.toNat_natCast]
  refine RdRaw.told (.raw (.slice (some ⟨q, o, none⟩) (x.out ++ [s]).length co)) _ rfl (fun h k => sat_rd k 0 rfl 17 _ rfl) ?_
  refine RdRaw.told (.raw (.slice (some ⟨q, o, none⟩) (x.out ++ [s]).length co)) _ rfl (fun h k => sat_rd k 0 rfl 17 _ rfl) ?_
  refine Need.mk ⟨by rw [eW]; omega, by rw [eW]; omega⟩ (RawAt.mk q o rfl ?_)
  refine useR (.int .u16 (x.win 0)) (win_spec b (x.put s (.at q o) co) 0 (by decide)) rfl (fun f' b' hs kb => Fr.told 0 rfl hs kb) rfl ?_
  refine StRaw.on 0 (CA b (x.put { s with win := x.win 0 } (.at q o) co : X)) [.int .u16 (x.win 0)] rfl rfl (fun h k => ca_last 5 (by rw [eI]) (Nat.le_of_ble_eq_true rfl) (fun v hv => by simp at hv; subst hv; rfl) rfl h k) ?_
  refine RdRaw.told (.int .i64 x.cfg.mss) _ rfl (fun h k => sat_rd k 0 rfl 0 _ rfl) ?_
  refine StRaw.on 0 (CA b (x.put { s with win := x.win 0, mss := x.cfg.mss } (.at q o) co : X)) [.int .i64 x.cfg.mss] rfl rfl (fun h k => ca_last 6 (by rw [eI]) (Nat.le_of_ble_eq_true rfl) (fun v hv => by simp at hv; subst hv; rfl) rfl h k) ?_
  refine CondOb.join Unit (fun _ => ⟨85, [(0, .raw (pp b))], [], 0, [.asn (CA b (x.put (x.hseg scaled) (.at q o) co))]⟩) (fun g => ?_) (fun g => ?_) (fun _ => ?_)
  · have g : scaled = true := g
    subst g
    refine useR (.int .i64 (scl x.cfg.rcv)) (scale_spec b (x.put { s with win := x.win 0, mss := x.cfg.mss } (.at q o) co) hr0 hr1) rfl (fun f' b' hs kb => Fr.told 0 rfl hs kb) rfl ?_
    have h5 := scl_le x.cfg.rcv
    have eS : IntKind.i64.wrap ((scl x.cfg.rcv : Int) + 1) = scl x.cfg.rcv + 1 := w64 (by omega) (by omega)
    refine StRaw.on 0 (CA b (x.put { s with win := x.win 0, mss := x.cfg.mss, scale := scl x.cfg.rcv + 1 } (.at q o) co)) [.int .i64 (scl x.cfg.rcv + 1)] (show denL _ [.int .i64 (IntKind.i64.wrap ((scl x.cfg.rcv : Int) + 1))] = _ from by rw [eS]; rfl) rfl (fun h k => ca_last 7 (by rw [eI]) (Nat.le_of_ble_eq_true rfl) (fun v hv => by simp at hv; subst hv; rfl) rfl h k) ?_
    exact ⟨(), Le.of rfl ⟨⟨_, rfl, rfl⟩, trivial⟩ (fun h k => sat_pick 0 rfl (fun h k => by subst hs; exact k) (fun h k => sat_nil k) k)⟩
  · have g : scaled = false := g
    subst g
    exact ⟨(), Le.of rfl ⟨⟨_, rfl, rfl⟩, trivial⟩ (fun h k => sat_pick 0 rfl (fun h k => by subst hs; exact k) (fun h k => sat_nil k) k)⟩
  generalize hs2 : x.hseg scaled = s2
  refine RdRaw.told (.int .u32 x.iss) _ rfl (fun h k => sat_rd k 0 rfl 18 _ rfl) ?_
  refine useP (.int .u32 (addQ x.iss 1)) (add_spec x.iss 1) rfl rfl ?_
  refine StRaw.on 0 (CA b { x.put s2 (.at q o) co with nxt := addQ x.iss 1 }) [.int .u32 (addQ x.iss 1)] rfl rfl (fun h k => ca_st k (Nat.le_of_ble_eq_true rfl) rfl rfl) ?_
  refine DrawOb.mk [(9, [0])] (.run [0, 1, 2, 3, 4, 5, 6, 7, 8, 9, 10, 11, 12] .nil) (by kernel_rfl) ?_
  refine RdRaw.told (.int .u32 x.top) _ rfl (fun h k => sat_rd k 0 rfl 21 _ rfl) ?_
  refine RdRaw.told (.int .u32 (addQ x.iss 1)) _ rfl (fun h k => sat_rd k 0 rfl 20 _ rfl) ?_
  refine useP (.int .u32 (maxQ x.top (addQ x.iss 1))) (max_spec _ _) rfl rfl ?_
  refine StRaw.on 0 (CA b { x.put s2 (.at q o) co with nxt := addQ x.iss 1, top := maxQ x.top (addQ x.iss 1) }) [.int .u32 (maxQ x.top (addQ x.iss 1))] rfl rfl (fun h k => ca_st k (Nat.le_of_ble_eq_true rfl) rfl rfl) ?_
  refine DrawOb.mk [(11, [0, 1, 2, 3, 4, 5, 6])] (.run [0, 1, 2, 3, 4, 5, 6, 7, 8, 9, 10, 11, 12, 13] .nil) (by kernel_rfl) ?_
  refine RdRaw.told (.int .i64 x.now) _ rfl (fun h k => sat_rd k 0 rfl 14 _ rfl) ?_
  refine RdRaw.told (.raw (pp x.br)) _ rfl (fun h k => sat_rd k 0 rfl 32 _ rfl) ?_
  refine useR (.int .i64 x.rto.now) (rnow_spec x.br x.rto) rfl (fun f' b' hs kb => Fr.toldP hs kb 0 rfl 5 rfl) rfl ?_
  refine RdRaw.told (.int .i64 x.now) _ rfl (fun h k => sat_rd k 0 rfl 14 _ rfl) ?_
  refine Need.mk rfl ?_
  refine call_ix (start_spec b { x.put s2 (.at q o) co with nxt := addQ x.iss 1, top := maxQ x.top (addQ x.iss 1) } (x.hello2 s2 q o co) 44 (IntKind.i64.wrap (x.now + x.rto.now)) (Nat.le_of_ble_eq_true rfl) rfl rfl) rfl [0] (fun h k => sat_pick 0 rfl (by first | exact fun _ k => k | exact fun _ k => blk_to rfl rfl k | exact fun _ k => vec_to rfl k | exact fun _ k => blk_of rfl rfl k | exact fun _ k => vec_of rfl k | exact fun _ k => blk_of rfl rfl (blk_to rfl rfl k) | exact fun _ k => vec_of rfl (vec_to rfl k) | exact fun _ k => mp_to rfl k | exact fun _ k => mp_of rfl k | exact fun _ k => mp_of rfl (mp_to rfl k)) (fun h k => sat_nil k) k) (fun _ _ _ _ => trivial) ?_
  rintro v post ⟨rfl, rfl⟩
  refine ⟨.tuple [], _, 0, [.asn (CA b (x.hello2 s2 q o co))], NmExt.refl _, rfl, (fun h k => sat_pick 0 rfl (by first | exact fun _ k => k | exact fun _ k => blk_to rfl rfl k | exact fun _ k => vec_to rfl k | exact fun _ k => blk_of rfl rfl k | exact fun _ k => vec_of rfl k | exact fun _ k => blk_of rfl rfl (blk_to rfl rfl k) | exact fun _ k => vec_of rfl (vec_to rfl k) | exact fun _ k => mp_to rfl k | exact fun _ k => mp_of rfl k | exact fun _ k => mp_of rfl (mp_to rfl k)) (fun h k => sat_nil k) k), ?_⟩
  exact FinOb.mk [] [CA b (x.hello2 s2 q o co)] rfl (fun h k => sat_pick 0 rfl (by first | exact fun _ k => k | exact fun _ k => blk_to rfl rfl k | exact fun _ k => vec_to rfl k | exact fun _ k => blk_of rfl rfl k | exact fun _ k => vec_of rfl k | exact fun _ k => blk_of rfl rfl (blk_to rfl rfl k) | exact fun _ k => vec_of rfl (vec_to rfl k) | exact fun _ k => mp_to rfl k | exact fun _ k => mp_of rfl k | exact fun _ k => mp_of rfl (mp_to rfl k)) (fun h k => sat_nil k) k) ⟨q, o, co, rfl, hco, by rw [← hs2]; rfl⟩
/-- A connection that has sent its SYN. -/
def X.opened (c : Cf) (q : Qd) (iss now : Int) (bs bi be bc br qb o co : Nat) : X :=
  ({ X.made c q iss now bs bi be bc br with state := 1, user := ⟨IntKind.i64.wrap (now + c.user), true⟩ } : X).hello true qb o co
theorem open_ok (c : Cf) (q : Qd) (iss now : Int) (hc : c.Ok) (h0 : 0 ≤ now) (h1 : now ≤ 1099511627776) :
    Does Try.prog 4 #[.agg c.vals.toArray, .agg q.vals.toArray, .int .u32 iss, .int .i64 now] (fun _ => True) []
      (fun v p => ∃ b bs bi be bc br qb o co, v = .tuple #[pp b, .int .i64 0] ∧ 1 ≤ co ∧ p = [CA b (X.opened c q iss now bs bi be bc br qb o co)]) := by
  refine Does.ofJ Try.func4 Try.call4 rfl [.agg c.svs, .agg q.svs, .int .u32 iss, .int .i64 now] [] 0 [] rfl rfl (fun h k => k) (fun f hR => ?_)
  intro b1 b2
  refine call_ix (made_ok c q iss now hc h0 h1) rfl [] (fun h k => k) (fun _ _ _ _ => trivial) ?_
  rintro v post ⟨b, bs, bi, be, bc, br, rfl, rfl⟩
  refine ⟨.tuple [.raw (pp b), .int .i64 0], _, 2, [.asn (CA b (X.made c q iss now bs bi be bc br))], NmExt.refl _, rfl, (fun h k => sat_pick 0 rfl (by first | exact fun _ k => k | exact fun _ k => blk_to rfl rfl k | exact fun _ k => vec_to rfl k | exact fun _ k => blk_of rfl rfl k | exact fun _ k => vec_of rfl k | exact fun _ k => blk_of rfl rfl (blk_to rfl rfl k) | exact fun _ k => vec_of rfl (vec_to rfl k) | exact fun _ k => mp_to rfl k | exact fun _ k => mp_of rfl k | exact fun _ k => mp_of rfl (mp_to rfl k)) (fun h k => sat_nil k) k), ?_⟩
  refine CondOb.split (fun g => absurd g (by decide)) (fun _ => ?_)
  refine StRaw.on 0 (CA b { X.made c q iss now bs bi be bc br with state := 1 }) [.int .i64 1] rfl rfl (fun h k => ca_st k (Nat.le_of_ble_eq_true rfl) rfl rfl) ?_
  refine DrawOb.mk [] (.run [0, 1, 2, 3, 4, 5, 6, 7] .nil) (by kernel_rfl) ?_
  refine call_ix (start_spec b { X.made c q iss now bs bi be bc br with state := 1 } { X.made c q iss now bs bi be bc br with state := 1, user := ⟨IntKind.i64.wrap (now + c.user), true⟩ } 50 (IntKind.i64.wrap (now + c.user)) (Nat.le_of_ble_eq_true rfl) rfl rfl) rfl [0] (fun h k => sat_pick 0 rfl (by first | exact fun _ k => k | exact fun _ k => blk_to rfl rfl k | exact fun _ k => vec_to rfl k | exact fun _ k => blk_of rfl rfl k | exact fun _ k => vec_of rfl k | exact fun _ k => blk_of rfl rfl (blk_to rfl rfl k) | exact fun _ k => vec_of rfl (vec_to rfl k) | exact fun _ k => mp_to rfl k | exact fun _ k => mp_of rfl k | exact fun _ k => mp_of rfl (mp_to rfl k)) (fun h k => sat_pick 0 rfl (by first | exact fun _ k => k | exact fun _ k => blk_to rfl rfl k | exact fun _ k => vec_to rfl k | exact fun _ k => blk_of rfl rfl k | exact fun _ k => vec_of rfl k | exact fun _ k => blk_of rfl rfl (blk_to rfl rfl k) | exact fun _ k => vec_of rfl (vec_to rfl k) | exact fun _ k => mp_to rfl k | exact fun _ k => mp_of rfl k | exact fun _ k => mp_of rfl (mp_to rfl k)) (fun h k => sat_pick 0 rfl (by first | exact fun _ k => k | exact fun _ k => blk_to rfl rfl k | exact fun _ k => vec_to rfl k | exact fun _ k => blk_of rfl rfl k | exact fun _ k => vec_of rfl k | exact fun _ k => blk_of rfl rfl (blk_to rfl rfl k) | exact fun _ k => vec_of rfl (vec_to rfl k) | exact fun _ k => mp_to rfl k | exact fun _ k => mp_of rfl k | exact fun _ k => mp_of rfl (mp_to rfl k)) (fun h k => sat_nil k) k) k) k) (fun _ _ _ _ => trivial) ?_
  rintro v post ⟨rfl, rfl⟩
  refine ⟨.tuple [], _, 2, [.asn (CA b { X.made c q iss now bs bi be bc br with state := 1, user := ⟨IntKind.i64.wrap (now + c.user), true⟩ })], NmExt.refl _, rfl, (fun h k => sat_pick 0 rfl (by first | exact fun _ k => k | exact fun _ k => blk_to rfl rfl k | exact fun _ k => vec_to rfl k | exact fun _ k => blk_of rfl rfl k | exact fun _ k => vec_of rfl k | exact fun _ k => blk_of rfl rfl (blk_to rfl rfl k) | exact fun _ k => vec_of rfl (vec_to rfl k) | exact fun _ k => mp_to rfl k | exact fun _ k => mp_of rfl k | exact fun _ k => mp_of rfl (mp_to rfl k)) (fun h k => sat_nil k) k), ?_⟩
  have hr := hc.2.2.1
  refine call_ix (hello_spec b { X.made c q iss now bs bi be bc br with state := 1, user := ⟨IntKind.i64.wrap (now + c.user), true⟩ } true (Int.le_refl 0) (Nat.le_refl 0) (Nat.zero_le _) (by show 0 ≤ c.rcv; omega) hr.2) rfl [0] (fun h k => sat_pick 0 rfl (by first | exact fun _ k => k | exact fun _ k => blk_to rfl rfl k | exact fun _ k => vec_to rfl k | exact fun _ k => blk_of rfl rfl k | exact fun _ k => vec_of rfl k | exact fun _ k => blk_of rfl rfl (blk_to rfl rfl k) | exact fun _ k => vec_of rfl (vec_to rfl k) | exact fun _ k => mp_to rfl k | exact fun _ k => mp_of rfl k | exact fun _ k => mp_of rfl (mp_to rfl k)) (fun h k => sat_pick 0 rfl (by first | exact fun _ k => k | exact fun _ k => blk_to rfl rfl k | exact fun _ k => vec_to rfl k | exact fun _ k => blk_of rfl rfl k | exact fun _ k => vec_of rfl k | exact fun _ k => blk_of rfl rfl (blk_to rfl rfl k) | exact fun _ k => vec_of rfl (vec_to rfl k) | exact fun _ k => mp_to rfl k | exact fun _ k => mp_of rfl k | exact fun _ k => mp_of rfl (mp_to rfl k)) (fun h k => sat_pick 0 rfl (by first | exact fun _ k => k | exact fun _ k => blk_to rfl rfl k | exact fun _ k => vec_to rfl k | exact fun _ k => blk_of rfl rfl k | exact fun _ k => vec_of rfl k | exact fun _ k => blk_of rfl rfl (blk_to rfl rfl k) | exact fun _ k => vec_of rfl (vec_to rfl k) | exact fun _ k => mp_to rfl k | exact fun _ k => mp_of rfl k | exact fun _ k => mp_of rfl (mp_to rfl k)) (fun h k => sat_nil k) k) k) k) (fun _ _ _ _ => trivial) ?_
  rintro v post ⟨qb, o, co, rfl, hco, rfl⟩
  refine ⟨.tuple [], _, 2, [.asn (CA b (X.opened c q iss now bs bi be bc br qb o co))], NmExt.refl _, rfl, (fun h k => sat_pick 0 rfl (by first | exact fun _ k => k | exact fun _ k => blk_to rfl rfl k | exact fun _ k => vec_to rfl k | exact fun _ k => blk_of rfl rfl k | exact fun _ k => vec_of rfl k | exact fun _ k => blk_of rfl rfl (blk_to rfl rfl k) | exact fun _ k => vec_of rfl (vec_to rfl k) | exact fun _ k => mp_to rfl k | exact fun _ k => mp_of rfl k | exact fun _ k => mp_of rfl (mp_to rfl k)) (fun h k => sat_nil k) k), ?_⟩
  exact FinOb.mk [pp b, .int .i64 0] [CA b (X.opened c q iss now bs bi be bc br qb o co)] rfl (fun h k => sat_pick 0 rfl (by first | exact fun _ k => k | exact fun _ k => blk_to rfl rfl k | exact fun _ k => vec_to rfl k | exact fun _ k => blk_of rfl rfl k | exact fun _ k => vec_of rfl k | exact fun _ k => blk_of rfl rfl (blk_to rfl rfl k) | exact fun _ k => vec_of rfl (vec_to rfl k) | exact fun _ k => mp_to rfl k | exact fun _ k => mp_of rfl k | exact fun _ k => mp_of rfl (mp_to rfl k)) (fun h k => sat_nil k) k) ⟨b, bs, bi, be, bc, br, qb, o, co, rfl, hco, rfl⟩
theorem open_bad (c : Cf) (q : Qd) (iss now : Int) (hc : ¬ (c.Ok ∧ 0 ≤ now ∧ now ≤ 1099511627776)) :
    Does Try.prog 4 #[.agg c.vals.toArray, .agg q.vals.toArray, .int .u32 iss, .int .i64 now] (fun _ => True) [] (fun v p => v = .tuple #[.pointer none, .int .i64 1] ∧ p = []) := by
  refine Does.ofJ Try.func4 Try.call4 rfl [.agg c.svs, .agg q.svs, .int .u32 iss, .int .i64 now] [] 0 [] rfl rfl (fun h k => k) (fun f hR => ?_)
  intro b1 b2
  refine useP (.tuple [.nilp, .int .i64 1]) (made_bad c q iss now hc) rfl rfl ?_
  refine CondOb.split (fun _ => ?_) (fun g => absurd g (by decide))
  exact FinOb.mk [.pointer none, .int .i64 1] [] rfl (fun h k => trivial) ⟨rfl, rfl⟩
end Go.Proofs.Ytljgcapejcnmgaa.Tc
