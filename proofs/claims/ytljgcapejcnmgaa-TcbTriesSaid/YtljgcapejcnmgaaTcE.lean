/- tcb: made, Open; what goes out. Conditions: none. -/
import Derived.Test.YtljgcapejcnmgaaTcD
namespace Go.Proofs.Ytljgcapejcnmgaa.Tc
open Go Go.Proofs Sx
set_option maxRecDepth 100000
set_option linter.unusedVariables false
set_option linter.unusedSimpArgs false
set_option maxHeartbeats 4000000

def X.made (c : Cf) (q : Qd) (iss now : Int) (bs bi be bc br : Nat) : X :=
  { cfg := c, quad := q, state := 0, now := now, fault := 0, left := false, po := .nil, co := 0, out := [], iss := iss, una := iss, nxt := iss, top := iss, bs := bs, snd := Ho.new c.snd, shut := false, peer := 0, wl1 := 0, wl2 := 0,
    mss := mn c.mss 536, so := 0, si := 0, scaled := false, bc := bc, cong := Co.new (mn c.mss 536), br := br, rto := Ro.new c.least c.most c.first, timed := false, tseq := 0, tat := 0, tries := 0, irs := 0, rcv := 0, bi := bi, inn := Ho.new c.rcv,
    be := be, early := Pa.new c.rcv, fin := false, finAt := 0, ended := false, again := ⟨0, false⟩, probe := ⟨0, false⟩, wait := ⟨0, false⟩, user := ⟨0, false⟩ }
theorem ca_make {b : Nat} {x : X} {h : HP} (e1 : x.po = .nil) (e2 : x.co = 0) (e3 : x.out = []) (k : sat [pt b (.cells x.vals.toArray 63 (0, 0)), hoA x.bs x.snd, hoA x.bi x.inn, paA x.be x.early, coA x.bc x.cong, roA x.br x.rto] h) : sat [CA b x] h := by
  refine ⟨h, HP.emp, .emp_right h, ?_, trivial⟩
  obtain ⟨u, v, t, hu, hv⟩ := k
  refine ⟨u, v, t, hu, ?_⟩
  unfold X.rest
  rw [e1, e2, e3]
  exact sat_add vec_emp hv
theorem mss_ok {c : Cf} (h : c.Ok) : 1 ≤ mn c.mss 536 ∧ mn c.mss 536 ≤ 65535 := by
  have h1 := h.1
  unfold mn; split <;> omega
theorem made_ok (c : Cf) (q : Qd) (iss now : Int) (hc : c.Ok) (h0 : 0 ≤ now) (h1 : now ≤ 1099511627776) :
    Does Try.prog 16 #[.agg c.vals.toArray, .agg q.vals.toArray, .int .u32 iss, .int .i64 now] (fun _ => True) []
      (fun v p => ∃ b bs bi be bc br, v = .tuple #[pp b, .int .i64 0] ∧ p = [CA b (X.made c q iss now bs bi be bc br)]) := by
  refine Does.ofJ Try.func16 Try.call16 rfl [.agg c.svs, .agg q.svs, .int .u32 iss, .int .i64 now] [] 0 [] rfl rfl (fun h k => k) (fun f hR => ?_)
  intro b1 b2
  have hck := check_spec c
  rw [if_pos hc] at hck
  refine useP (.int .i64 0) hck rfl rfl ?_
  refine CondOb.split (fun g => absurd g (by decide)) (fun _ => ?_)
  refine RegOb.go ?_
  refine Br.mk (fun g => absurd (of_decide_eq_true g) (by omega)) (fun _ => ?_)
  refine CondOb.split (fun g => absurd (of_decide_eq_true g) (by omega)) (fun _ => ?_)
  intro b
  refine call_ix (hnew_ok c.snd hc.2.1.1 hc.2.1.2) rfl [] (fun h k => k) (fun _ _ _ _ => trivial) ?_
  rintro v post ⟨bs, rfl, rfl⟩
  refine ⟨.tuple [.raw (pp bs), .int .i64 0], _, 3, [.asn (hoA bs (Ho.new c.snd))], NmExt.refl _, rfl, (fun h k => sat_pick 0 rfl (by first | exact fun _ k => k | exact fun _ k => blk_to rfl rfl k | exact fun _ k => vec_to rfl k | exact fun _ k => blk_of rfl rfl k | exact fun _ k => vec_of rfl k | exact fun _ k => blk_of rfl rfl (blk_to rfl rfl k) | exact fun _ k => vec_of rfl (vec_to rfl k) | exact fun _ k => mp_to rfl k | exact fun _ k => mp_of rfl k | exact fun _ k => mp_of rfl (mp_to rfl k)) (fun h k => sat_nil k) k), ?_⟩
  refine call_ix (hnew_ok c.rcv hc.2.2.1.1 hc.2.2.1.2) rfl [] (fun h k => k) (fun _ _ _ _ => trivial) ?_
  rintro v post ⟨bi, rfl, rfl⟩
  refine ⟨.tuple [.raw (pp bi), .int .i64 0], _, 3, [.asn (hoA bi (Ho.new c.rcv))], NmExt.refl _, rfl, (fun h k => sat_pick 0 rfl (by first | exact fun _ k => k | exact fun _ k => blk_to rfl rfl k | exact fun _ k => vec_to rfl k | exact fun _ k => blk_of rfl rfl k | exact fun _ k => vec_of rfl k | exact fun _ k => blk_of rfl rfl (blk_to rfl rfl k) | exact fun _ k => vec_of rfl (vec_to rfl k) | exact fun _ k => mp_to rfl k | exact fun _ k => mp_of rfl k | exact fun _ k => mp_of rfl (mp_to rfl k)) (fun h k => sat_nil k) k), ?_⟩
  refine call_ix (pnew_ok c.rcv hc.2.2.1.1 hc.2.2.1.2) rfl [] (fun h k => k) (fun _ _ _ _ => trivial) ?_
  rintro v post ⟨be, rfl, rfl⟩
  refine ⟨.tuple [.raw (pp be), .int .i64 0], _, 3, [.asn (paA be (Pa.new c.rcv))], NmExt.refl _, rfl, (fun h k => sat_pick 0 rfl (by first | exact fun _ k => k | exact fun _ k => blk_to rfl rfl k | exact fun _ k => vec_to rfl k | exact fun _ k => blk_of rfl rfl k | exact fun _ k => vec_of rfl k | exact fun _ k => blk_of rfl rfl (blk_to rfl rfl k) | exact fun _ k => vec_of rfl (vec_to rfl k) | exact fun _ k => mp_to rfl k | exact fun _ k => mp_of rfl k | exact fun _ k => mp_of rfl (mp_to rfl k)) (fun h k => sat_nil k) k), ?_⟩
  refine call_ix (tnew_ok c.least c.most c.first hc.2.2.2.1) rfl [] (fun h k => k) (fun _ _ _ _ => trivial) ?_
  rintro v post ⟨br, rfl, rfl⟩
  refine ⟨.tuple [.raw (pp br), .int .i64 0], _, 3, [.asn (roA br (Ro.new c.least c.most c.first))], NmExt.refl _, rfl, (fun h k => sat_pick 0 rfl (by first | exact fun _ k => k | exact fun _ k => blk_to rfl rfl k | exact fun _ k => vec_to rfl k | exact fun _ k => blk_of rfl rfl k | exact fun _ k => vec_of rfl k | exact fun _ k => blk_of rfl rfl (blk_to rfl rfl k) | exact fun _ k => vec_of rfl (vec_to rfl k) | exact fun _ k => mp_to rfl k | exact fun _ k => mp_of rfl k | exact fun _ k => mp_of rfl (mp_to rfl k)) (fun h k => sat_nil k) k), ?_⟩
  refine call_ix (cnew_ok (mn c.mss 536) (mss_ok hc).1 (mss_ok hc).2) rfl [] (fun h k => k) (fun _ _ _ _ => trivial) ?_
  rintro v post ⟨bc, rfl, rfl⟩
  refine ⟨.tuple [.raw (pp bc), .int .i64 0], _, 3, [.asn (coA bc (Co.new (mn c.mss 536)))], NmExt.refl _, rfl, (fun h k => sat_pick 0 rfl (by first | exact fun _ k => k | exact fun _ k => blk_to rfl rfl k | exact fun _ k => vec_to rfl k | exact fun _ k => blk_of rfl rfl k | exact fun _ k => vec_of rfl k | exact fun _ k => blk_of rfl rfl (blk_to rfl rfl k) | exact fun _ k => vec_of rfl (vec_to rfl k) | exact fun _ k => mp_to rfl k | exact fun _ k => mp_of rfl k | exact fun _ k => mp_of rfl (mp_to rfl k)) (fun h k => sat_nil k) k), ?_⟩
  refine FinOb.mk [pp b, .int .i64 0] [CA b (X.made c q iss now bs bi be bc br)] rfl (fun h k => ca_make rfl rfl rfl ((fun h k => sat_pick 0 rfl (fun h k => blk_to rfl rfl k) (fun h k => sat_pick 4 rfl (by first | exact fun _ k => k | exact fun _ k => blk_to rfl rfl k | exact fun _ k => vec_to rfl k | exact fun _ k => blk_of rfl rfl k | exact fun _ k => vec_of rfl k | exact fun _ k => blk_of rfl rfl (blk_to rfl rfl k) | exact fun _ k => vec_of rfl (vec_to rfl k) | exact fun _ k => mp_to rfl k | exact fun _ k => mp_of rfl k | exact fun _ k => mp_of rfl (mp_to rfl k)) (fun h k => sat_pick 3 rfl (by first | exact fun _ k => k | exact fun _ k => blk_to rfl rfl k | exact fun _ k => vec_to rfl k | exact fun _ k => blk_of rfl rfl k | exact fun _ k => vec_of rfl k | exact fun _ k => blk_of rfl rfl (blk_to rfl rfl k) | exact fun _ k => vec_of rfl (vec_to rfl k) | exact fun _ k => mp_to rfl k | exact fun _ k => mp_of rfl k | exact fun _ k => mp_of rfl (mp_to rfl k)) (fun h k => sat_pick 2 rfl (by first | exact fun _ k => k | exact fun _ k => blk_to rfl rfl k | exact fun _ k => vec_to rfl k | exact fun _ k => blk_of rfl rfl k | exact fun _ k => vec_of rfl k | exact fun _ k => blk_of rfl rfl (blk_to rfl rfl k) | exact fun _ k => vec_of rfl (vec_to rfl k) | exact fun _ k => mp_to rfl k | exact fun _ k => mp_of rfl k | exact fun _ k => mp_of rfl (mp_to rfl k)) (fun h k => sat_pick 0 rfl (by first | exact fun _ k => k | exact fun _ k => blk_to rfl rfl k | exact fun _ k => vec_to rfl k | exact fun _ k => blk_of rfl rfl k | exact fun _ k => vec_of rfl k | exact fun _ k => blk_of rfl rfl (blk_to rfl rfl k) | exact fun _ k => vec_of rfl (vec_to rfl k) | exact fun _ k => mp_to rfl k | exact fun _ k => mp_of rfl k | exact fun _ k => mp_of rfl (mp_to rfl k)) (fun h k => sat_pick 0 rfl (by first | exact fun _ k => k | exact fun _ k => blk_to rfl rfl k | exact fun _ k => vec_to rfl k | exact fun _ k => blk_of rfl rfl k | exact fun _ k => vec_of rfl k | exact fun _ k => blk_of rfl rfl (blk_to rfl rfl k) | exact fun _ k => vec_of rfl (vec_to rfl k) | exact fun _ k => mp_to rfl k | exact fun _ k => mp_of rfl k | exact fun _ k => mp_of rfl (mp_to rfl k)) (fun h k => sat_nil k) k) k) k) k) k) k) h k)) ⟨b, bs, bi, be, bc, br, rfl, rfl⟩
theorem made_bad (c : Cf) (q : Qd) (iss now : Int) (hc : ¬ (c.Ok ∧ 0 ≤ now ∧ now ≤ 1099511627776)) :
    Does Try.prog 16 #[.agg c.vals.toArray, .agg q.vals.toArray, .int .u32 iss, .int .i64 now] (fun _ => True) [] (fun v p => v = .tuple #[.pointer none, .int .i64 1] ∧ p = []) := by
  refine Does.ofJ Try.func16 Try.call16 rfl [.agg c.svs, .agg q.svs, .int .u32 iss, .int .i64 now] [] 0 [] rfl rfl (fun h k => k) (fun f hR => ?_)
  intro b1 b2
  have hck := check_spec c
  by_cases hcc : c.Ok
  · rw [if_pos hcc] at hck
    refine useP (.int .i64 0) hck rfl rfl ?_
    refine CondOb.split (fun g => absurd g (by decide)) (fun _ => ?_)
    refine RegOb.go ?_
    refine Br.mk (fun g => ?_) (fun g => ?_)
    · exact FinOb.mk [.pointer none, .int .i64 1] [] rfl (fun h k => trivial) ⟨rfl, rfl⟩
    · have g := of_decide_eq_false g
      refine CondOb.split (fun _ => ?_) (fun g2 => ?_)
      · exact FinOb.mk [.pointer none, .int .i64 1] [] rfl (fun h k => trivial) ⟨rfl, rfl⟩
      · have g2 := of_decide_eq_false g2
        exact absurd ⟨hcc, by omega, by omega⟩ hc
  · rw [if_neg hcc] at hck
    refine useP (.int .i64 1) hck rfl rfl ?_
    refine CondOb.split (fun _ => ?_) (fun g => absurd g (by decide))
    exact FinOb.mk [.pointer none, .int .i64 1] [] rfl (fun h k => trivial) ⟨rfl, rfl⟩
/-! ### What goes out -/
def shr (x k : Int) : Int := x.fdiv (2 ^ (min k.toNat IntKind.i64.bits))
def X.room (x : X) : Int := IntKind.i64.wrap (x.inn.room - x.inn.n)
def X.win (x : X) (k : Int) : Int := IntKind.u16.wrap (mn (shr x.room k) 65535)
theorem win_spec (b : Nat) (x : X) (k : Int) (hk : 0 ≤ k) : Does Try.prog 44 #[pp b, .int .i64 k] (Fr (CA b x)) [] (fun v p => v = .int .u16 (x.win k) ∧ p = []) := by
  refine Does.ofJ Try.func44 Try.call44 rfl [.raw (pp b), .int .i64 k] [] 0 [] rfl rfl (fun h k => k) (fun f hR => ?_)
  refine RdRaw.mk (.raw (pp x.bi)) _ rfl (hR.own 39 _ rfl) ?_
  refine useR (.int .i64 x.room) (room_spec x.bi x.inn) rfl (fun f' b' hs kb => (hR.part 2 rfl).mono hs) rfl ?_
  refine Need.mk hk ?_
  exact FinOb.mk [.int .u16 (x.win k)] [] rfl (fun h k => trivial) ⟨rfl, rfl⟩
/-- The least shift. -/
def scl (r : Int) : Nat := if r ≤ 65535 then 0 else if r ≤ 131071 then 1 else if r ≤ 262143 then 2 else if r ≤ 524287 then 3 else if r ≤ 1048575 then 4 else 5
theorem scl_le (r : Int) : scl r ≤ 5 := by unfold scl; (repeat' split) <;> omega
theorem scl_lt {r : Int} (h0 : 0 ≤ r) (h1 : r ≤ 1048576) {k : Nat} (hk : k ≤ 5) : shr r k > 65535 ↔ k < scl r := by
  unfold shr scl
  rw [Int.fdiv_eq_ediv_of_nonneg _ (by exact Int.le_of_lt (Int.pow_pos (by decide)))]
  match k, hk with
  | 0, _ => simp [IntKind.bits]; (repeat' split) <;> omega
  | 1, _ => simp [IntKind.bits]; (repeat' split) <;> omega
  | 2, _ => simp [IntKind.bits]; (repeat' split) <;> omega
  | 3, _ => simp [IntKind.bits]; (repeat' split) <;> omega
  | 4, _ => simp [IntKind.bits]; (repeat' split) <;> omega
  | 5, _ => simp [IntKind.bits]; (repeat' split) <;> omega
theorem scale_spec (b : Nat) (x : X) (h0 : 0 ≤ x.cfg.rcv) (h1 : x.cfg.rcv ≤ 1048576) : Does Try.prog 45 #[pp b] (Fr (CA b x)) [] (fun v p => v = .int .i64 (scl x.cfg.rcv) ∧ p = []) := by
  refine Does.ofJ Try.func45 Try.call45 rfl [.raw (pp b)] [] 0 [] rfl rfl (fun h k => k) (fun f hR => ?_)
  refine LoopOb.mk { k : Nat // k ≤ scl x.cfg.rcv } (fun z => ⟨15, [(0, .raw (pp b)), (3, .int .i64 z.1)], [], 0, []⟩) (fun z => 5 - z.1) ⟨0, Nat.zero_le _⟩ ?_ ?_
  · exact Le.of rfl ⟨⟨_, rfl, rfl⟩, ⟨_, rfl, rfl⟩, trivial⟩ (fun h k => k)
  rintro ⟨k, hk⟩
  have h5 := scl_le x.cfg.rcv
  have ek : IntKind.i64.wrap ((k : Int) + 1) = ((k + 1 : Nat) : Int) := by rw [w64 (by omega) (by omega)]; omega
  refine RdRaw.mk (.int .i64 x.cfg.rcv) _ rfl (hR.own 2 _ rfl) ?_
  refine Need.mk (Int.natCast_nonneg k) ?_
  have hlt := scl_lt h0 h1 (k := k) (by omega)
  refine CondOb.split (fun g => ?_) (fun g => ?_)
  · have g := hlt.1 (of_decide_eq_true g)
    exact ⟨⟨k + 1, g⟩, by show 5 - (k + 1) < 5 - k; omega, Le.of rfl ⟨⟨_, rfl, rfl⟩, ⟨_, rfl, congrArg (fun z => some (Value.int .i64 z)) ek⟩, trivial⟩ (fun h k => k)⟩
  · have g : ¬ k < scl x.cfg.rcv := fun q => of_decide_eq_false g (hlt.2 q)
    obtain rfl : k = scl x.cfg.rcv := by omega
    exact FinOb.mk [.int .i64 (scl x.cfg.rcv)] [] rfl (fun h k => trivial) ⟨rfl, rfl⟩
/-- A connection's cells, by names: itself n, what goes out m. -/
def X.svs (x : X) (m : Nat) : List SV := [.int .i64 x.cfg.mss, .int .i64 x.cfg.snd, .int .i64 x.cfg.rcv, .int .i64 x.cfg.least, .int .i64 x.cfg.most, .int .i64 x.cfg.first, .int .i64 x.cfg.tries, .int .i64 x.cfg.msl, .int .i64 x.cfg.user,
  .int .u32 x.quad.la, .int .u16 x.quad.lp, .int .u32 x.quad.ra, .int .u16 x.quad.rp,
  .int .i64 x.state, .int .i64 x.now, .int .i64 x.fault, .bool x.left, .sl m 0 x.out.length x.co,
  .int .u32 x.iss, .int .u32 x.una, .int .u32 x.nxt, .int .u32 x.top, .raw (pp x.bs), .bool x.shut, .int .i64 x.peer, .int .u32 x.wl1, .int .u32 x.wl2, .int .i64 x.mss, .int .i64 x.so, .int .i64 x.si, .bool x.scaled, .raw (pp x.bc), .raw (pp x.br),
  .bool x.timed, .int .u32 x.tseq, .int .i64 x.tat, .int .i64 x.tries, .int .u32 x.irs, .int .u32 x.rcv, .raw (pp x.bi), .raw (pp x.be), .bool x.fin, .int .u32 x.finAt, .bool x.ended,
  .int .i64 x.again.at_, .bool x.again.set, .int .i64 x.probe.at_, .bool x.probe.set, .int .i64 x.wait.at_, .bool x.wait.set, .int .i64 x.user.at_, .bool x.user.set]
theorem vec_cast {l : Plc} {t : TypeId} {sz cap : Nat} {xs ys : List Value} {h : HP} (e : xs = ys) (k : Vec l t sz cap xs h) : Vec l t sz cap ys h := e ▸ k
/-- The parts beside itself and what goes out. -/
def X.parts (x : X) : List Asn := [hoA x.bs x.snd, hoA x.bi x.inn, paA x.be x.early, coA x.bc x.cong, roA x.br x.rto]
def CP (x : X) : Asn := fun h => sat x.parts h
theorem ca_open {b : Nat} {x : X} {h : HP} (k : sat [CA b x] h) : sat [pt b (.cells x.vals.toArray 63 (0, 0)), Vec x.po 49 9 x.co (SL.flat x.out), CP x] h := by
  obtain ⟨u, v, t, ⟨a, c, t2, ha, d, e, t3, hd, he⟩, _⟩ := k
  have hu : sat [pt b (.cells x.vals.toArray 63 (0, 0)), Vec x.po 49 9 x.co (SL.flat x.out), CP x] u := ⟨a, c, t2, ha, d, e, t3, hd, e, HP.emp, .emp_right e, he, trivial⟩
  exact sat_more t.comm hu
theorem ca_close {b : Nat} {x : X} {h : HP} (k : sat [pt b (.cells x.vals.toArray 63 (0, 0)), Vec x.po 49 9 x.co (SL.flat x.out), CP x] h) : sat [CA b x] h := by
  obtain ⟨a, c, t2, ha, d, e, t3, hd, u, v, t4, hu, _⟩ := k
  exact ⟨h, HP.emp, .emp_right h, ⟨a, c, t2, ha, d, e, t3, hd, sat_more t4.comm hu⟩, trivial⟩
theorem Fr.of {A : Asn} {As : List Asn} {f f' b : HP} (g : ∀ h, sat As h → sat [A] h) (s : Split f' b f) (k : sat As b) : Fr A f' := fun c i v q => by
  obtain ⟨u, w, t, hu, _⟩ := g b k
  exact fcell_sub (fun _ _ e => s.get (t.get e)) (q u hu)
theorem ca_names {b n m : Nat} {x : X} {nm : List (Nat × Plc)} {h : HP} (hn : getN nm n = some (.at b 0)) (hm : getN nm m = some x.po) (hd : denL nm (x.svs m) = some x.vals) (k : sat [CA b x] h) :
    sat ([Ent.blk n 63 (x.svs m), .vec m 49 9 x.co (SL.flat x.out), .asn (CP x)].map (entDen nm)) h := by
  obtain ⟨a, c, t, ha, d, e, t2, hd2, r⟩ := ca_open k
  exact ⟨a, c, t, blk_of hn hd ha, d, e, t2, vec_of hm hd2, r⟩
def X.seg (x : X) (flags at_ : Int) (A : Option Addr) (len cap : Nat) : Sg := ⟨x.quad.lp, x.quad.rp, at_, if bit flags 16 then x.rcv else 0, flags, if bit flags 4 then 0 else x.win x.si, 0, 0, A, len, cap⟩
def X.put (x : X) (s : Sg) (po : Plc) (co : Nat) : X := { x with out := x.out ++ [s], po := po, co := co }
theorem put_spec (b : Nat) (x : X) (flags at_ : Int) (A : Option Addr) (len cap : Nat) (hsi : 0 ≤ x.si) (ho : x.out.length ≤ x.co) (hl : x.out.length ≤ 1000000) :
    Does Try.prog 26 #[pp b, .int .u8 flags, .int .u32 at_, .slice A len cap] (fun _ => True) [CA b x] (fun v p => ∃ q o co, v = .tuple #[] ∧ x.out.length + 1 ≤ co ∧ p = [CA b (x.put (x.seg flags at_ A len cap) (.at q o) co)]) := by
  refine Does.ofJ Try.func26 Try.call26 rfl [.ptr 0 0, .int .u8 flags, .int .u32 at_, .raw (.slice A len cap)] [(1, x.po), (0, .at b 0)] 2 [.blk 0 63 (x.svs 1), .vec 1 49 9 x.co (SL.flat x.out), .asn (CP x)] rfl rfl (fun h k => ca_names rfl rfl rfl k) (fun f hR => ?_)
  refine DrawOb.mk [(16, [0, 1, 2, 3, 4, 5, 6, 7, 8, 9, 10, 11, 12, 13, 14, 15])] (.run [0, 1, 2, 3, 4, 5, 6, 7, 8, 9, 10, 11, 12, 13, 14, 15, 16, 17] .nil) (by kernel_rfl) ?_
  intro b8
  refine Need.mk rfl (Need.mk rfl ?_)
  refine CondOb.join Unit (fun _ => ⟨53, [(0, .ptr 0 0), (1, .int .u8 flags), (8, .ptr 2 0)], [(2, .at b8 0), (1, x.po), (0, .at b 0)], 3, [.blk 2 49 [.int .u16 x.quad.lp, .int .u16 x.quad.rp, .int .u32 at_, .int .u32 0, .int .u8 flags, .int .u16 (if bit flags 4 then 0 else x.win x.si), .int .i64 0, .int .i64 0, .raw (.slice A len cap)], .blk 0 63 (x.svs 1), .vec 1 49 9 x.co (SL.flat x.out), .asn (CP x)]⟩) (fun g => ?_) (fun g => ?_) (fun _ => ?_)
  · have g : bit flags 4 = false := by unfold bit; rw [bne, g]; rfl
    refine useR (.int .u16 (x.win x.si)) (win_spec b x x.si hsi) rfl (fun f' b' hs kb => Fr.of (fun h k => ca_close ((fun h k => sat_pick 1 rfl (fun h k => blk_to rfl rfl k) (fun h k => sat_pick 1 rfl (fun h k => vec_to rfl k) (fun h k => sat_pick 1 rfl (by first | exact fun _ k => k | exact fun _ k => blk_to rfl rfl k | exact fun _ k => vec_to rfl k | exact fun _ k => blk_of rfl rfl k | exact fun _ k => vec_of rfl k | exact fun _ k => blk_of rfl rfl (blk_to rfl rfl k) | exact fun _ k => vec_of rfl (vec_to rfl k) | exact fun _ k => mp_to rfl k | exact fun _ k => mp_of rfl k | exact fun _ k => mp_of rfl (mp_to rfl k)) (fun h k => sat_nil k) k) k) k) h k)) hs kb) rfl ?_
    exact ⟨(), Le.of rfl ⟨⟨_, rfl, rfl⟩, ⟨_, rfl, rfl⟩, ⟨_, rfl, rfl⟩, trivial⟩ (fun h k => sat_pick 0 rfl (fun h k => blk_of rfl (by rw [g]; rfl) (blk_to rfl rfl k)) (fun h k => sat_pick 0 rfl (by first | exact fun _ k => k | exact fun _ k => blk_to rfl rfl k | exact fun _ k => vec_to rfl k | exact fun _ k => blk_of rfl rfl k | exact fun _ k => vec_of rfl k | exact fun _ k => blk_of rfl rfl (blk_to rfl rfl k) | exact fun _ k => vec_of rfl (vec_to rfl k) | exact fun _ k => mp_to rfl k | exact fun _ k => mp_of rfl k | exact fun _ k => mp_of rfl (mp_to rfl k)) (fun h k => sat_pick 0 rfl (by first | exact fun _ k => k | exact fun _ k => blk_to rfl rfl k | exact fun _ k => vec_to rfl k | exact fun _ k => blk_of rfl rfl k | exact fun _ k => vec_of rfl k | exact fun _ k => blk_of rfl rfl (blk_to rfl rfl k) | exact fun _ k => vec_of rfl (vec_to rfl k) | exact fun _ k => mp_to rfl k | exact fun _ k => mp_of rfl k | exact fun _ k => mp_of rfl (mp_to rfl k)) (fun h k => sat_pick 0 rfl (by first | exact fun _ k => k | exact fun _ k => blk_to rfl rfl k | exact fun _ k => vec_to rfl k | exact fun _ k => blk_of rfl rfl k | exact fun _ k => vec_of rfl k | exact fun _ k => blk_of rfl rfl (blk_to rfl rfl k) | exact fun _ k => vec_of rfl (vec_to rfl k) | exact fun _ k => mp_to rfl k | exact fun _ k => mp_of rfl k | exact fun _ k => mp_of rfl (mp_to rfl k)) (fun h k => sat_nil k) k) k) k) k)⟩
  · have g : bit flags 4 = true := by unfold bit; rw [bne, g]; rfl
    exact ⟨(), Le.of rfl ⟨⟨_, rfl, rfl⟩, ⟨_, rfl, rfl⟩, ⟨_, rfl, rfl⟩, trivial⟩ (fun h k => sat_pick 0 rfl (fun h k => blk_of rfl (by rw [g]; rfl) (blk_to rfl rfl k)) (fun h k => sat_pick 0 rfl (by first | exact fun _ k => k | exact fun _ k => blk_to rfl rfl k | exact fun _ k => vec_to rfl k | exact fun _ k => blk_of rfl rfl k | exact fun _ k => vec_of rfl k | exact fun _ k => blk_of rfl rfl (blk_to rfl rfl k) | exact fun _ k => vec_of rfl (vec_to rfl k) | exact fun _ k => mp_to rfl k | exact fun _ k => mp_of rfl k | exact fun _ k => mp_of rfl (mp_to rfl k)) (fun h k => sat_pick 0 rfl (by first | exact fun _ k => k | exact fun _ k => blk_to rfl rfl k | exact fun _ k => vec_to rfl k | exact fun _ k => blk_of rfl rfl k | exact fun _ k => vec_of rfl k | exact fun _ k => blk_of rfl rfl (blk_to rfl rfl k) | exact fun _ k => vec_of rfl (vec_to rfl k) | exact fun _ k => mp_to rfl k | exact fun _ k => mp_of rfl k | exact fun _ k => mp_of rfl (mp_to rfl k)) (fun h k => sat_pick 0 rfl (by first | exact fun _ k => k | exact fun _ k => blk_to rfl rfl k | exact fun _ k => vec_to rfl k | exact fun _ k => blk_of rfl rfl k | exact fun _ k => vec_of rfl k | exact fun _ k => blk_of rfl rfl (blk_to rfl rfl k) | exact fun _ k => vec_of rfl (vec_to rfl k) | exact fun _ k => mp_to rfl k | exact fun _ k => mp_of rfl k | exact fun _ k => mp_of rfl (mp_to rfl k)) (fun h k => sat_nil k) k) k) k) k)⟩
  refine CondOb.join Unit (fun _ => ⟨53, [(0, .ptr 0 0), (8, .ptr 2 0)], [(2, .at b8 0), (1, x.po), (0, .at b 0)], 3, [.blk 2 49 [.int .u16 x.quad.lp, .int .u16 x.quad.rp, .int .u32 at_, .int .u32 (if bit flags 16 then x.rcv else 0), .int .u8 flags, .int .u16 (if bit flags 4 then 0 else x.win x.si), .int .i64 0, .int .i64 0, .raw (.slice A len cap)], .blk 0 63 (x.svs 1), .vec 1 49 9 x.co (SL.flat x.out), .asn (CP x)]⟩) (fun g => ?_) (fun g => ?_) (fun _ => ?_)
  · have g : bit flags 16 = true := g
    exact ⟨(), Le.of rfl ⟨⟨_, rfl, rfl⟩, ⟨_, rfl, rfl⟩, trivial⟩ (fun h k => sat_pick 0 rfl (fun h k => blk_of rfl (by rw [g]; rfl) (blk_to rfl rfl k)) (fun h k => sat_pick 0 rfl (by first | exact fun _ k => k | exact fun _ k => blk_to rfl rfl k | exact fun _ k => vec_to rfl k | exact fun _ k => blk_of rfl rfl k | exact fun _ k => vec_of rfl k | exact fun _ k => blk_of rfl rfl (blk_to rfl rfl k) | exact fun _ k => vec_of rfl (vec_to rfl k) | exact fun _ k => mp_to rfl k | exact fun _ k => mp_of rfl k | exact fun _ k => mp_of rfl (mp_to rfl k)) (fun h k => sat_pick 0 rfl (by first | exact fun _ k => k | exact fun _ k => blk_to rfl rfl k | exact fun _ k => vec_to rfl k | exact fun _ k => blk_of rfl rfl k | exact fun _ k => vec_of rfl k | exact fun _ k => blk_of rfl rfl (blk_to rfl rfl k) | exact fun _ k => vec_of rfl (vec_to rfl k) | exact fun _ k => mp_to rfl k | exact fun _ k => mp_of rfl k | exact fun _ k => mp_of rfl (mp_to rfl k)) (fun h k => sat_pick 0 rfl (by first | exact fun _ k => k | exact fun _ k => blk_to rfl rfl k | exact fun _ k => vec_to rfl k | exact fun _ k => blk_of rfl rfl k | exact fun _ k => vec_of rfl k | exact fun _ k => blk_of rfl rfl (blk_to rfl rfl k) | exact fun _ k => vec_of rfl (vec_to rfl k) | exact fun _ k => mp_to rfl k | exact fun _ k => mp_of rfl k | exact fun _ k => mp_of rfl (mp_to rfl k)) (fun h k => sat_nil k) k) k) k) k)⟩
  · have g : bit flags 16 = false := g
    exact ⟨(), Le.of rfl ⟨⟨_, rfl, rfl⟩, ⟨_, rfl, rfl⟩, trivial⟩ (fun h k => sat_pick 0 rfl (fun h k => blk_of rfl (by rw [g]; rfl) (blk_to rfl rfl k)) (fun h k => sat_pick 0 rfl (by first | exact fun _ k => k | exact fun _ k => blk_to rfl rfl k | exact fun _ k => vec_to rfl k | exact fun _ k => blk_of rfl rfl k | exact fun _ k => vec_of rfl k | exact fun _ k => blk_of rfl rfl (blk_to rfl rfl k) | exact fun _ k => vec_of rfl (vec_to rfl k) | exact fun _ k => mp_to rfl k | exact fun _ k => mp_of rfl k | exact fun _ k => mp_of rfl (mp_to rfl k)) (fun h k => sat_pick 0 rfl (by first | exact fun _ k => k | exact fun _ k => blk_to rfl rfl k | exact fun _ k => vec_to rfl k | exact fun _ k => blk_of rfl rfl k | exact fun _ k => vec_of rfl k | exact fun _ k => blk_of rfl rfl (blk_to rfl rfl k) | exact fun _ k => vec_of rfl (vec_to rfl k) | exact fun _ k => mp_to rfl k | exact fun _ k => mp_of rfl k | exact fun _ k => mp_of rfl (mp_to rfl k)) (fun h k => sat_pick 0 rfl (by first | exact fun _ k => k | exact fun _ k => blk_to rfl rfl k | exact fun _ k => vec_to rfl k | exact fun _ k => blk_of rfl rfl k | exact fun _ k => vec_of rfl k | exact fun _ k => blk_of rfl rfl (blk_to rfl rfl k) | exact fun _ k => vec_of rfl (vec_to rfl k) | exact fun _ k => mp_to rfl k | exact fun _ k => mp_of rfl k | exact fun _ k => mp_of rfl (mp_to rfl k)) (fun h k => sat_nil k) k) k) k) k)⟩
  refine DrawOb.mk [(6, [0, 1, 2, 3, 4]), (7, [0])] (.run [0, 1, 2, 3, 4, 5, 6, 7, 8, 9, 10] .nil) (by kernel_rfl) ?_
  intro b3
  refine Need.mk rfl ?_
  refine StOb.mk (SL.cells (x.seg flags at_ A len cap)) rfl (Need.mk rfl ?_)
  refine Need.mk ⟨by rw [lS]; omega, by omega, ho⟩ ?_
  refine Need.mk ⟨by omega, by simp only [maxLen]; omega, SL.one _⟩ ?_
  refine NewSl.pos (Nat.succ_pos _) (fun q o co hco => ?_)
  have eF : List.take (x.out.length * 9) (List.drop 0 (SL.flat x.out)) ++ SL.cells (x.seg flags at_ A len cap) = SL.flat (x.out ++ [x.seg flags at_ A len cap]) := by
    rw [List.drop_zero, List.take_of_length_le (by rw [lS]; exact Nat.le_refl _), SL.flat_append, SL.flat_one]
  have eL : (x.out ++ [x.seg flags at_ A len cap]).length = x.out.length + 1 := by simp
  exact FinOb.mk [] [CA b (x.put (x.seg flags at_ A len cap) (.at q o) co)] rfl (fun h k => ca_close ((fun h k => sat_pick 0 rfl (fun h k => blk_to rfl (show denL _ _ = some (x.put (x.seg flags at_ A len cap) (.at q o) co).vals from by simp only [X.vals, X.put, eL]; rfl) k) (fun h k => sat_pick 0 rfl (fun h k => vec_cast eF (vec_to rfl k)) (fun h k => sat_pick 2 rfl (by first | exact fun _ k => k | exact fun _ k => blk_to rfl rfl k | exact fun _ k => vec_to rfl k | exact fun _ k => blk_of rfl rfl k | exact fun _ k => vec_of rfl k | exact fun _ k => blk_of rfl rfl (blk_to rfl rfl k) | exact fun _ k => vec_of rfl (vec_to rfl k) | exact fun _ k => mp_to rfl k | exact fun _ k => mp_of rfl k | exact fun _ k => mp_of rfl (mp_to rfl k)) (fun h k => sat_nil k) k) k) k) h k)) ⟨q, o, co, rfl, hco, rfl⟩
end Go.Proofs.Ytljgcapejcnmgaa.Tc
