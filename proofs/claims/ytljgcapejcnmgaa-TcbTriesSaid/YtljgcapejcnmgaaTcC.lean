/- tcb: a connection as data; how it lies; reads and stores. Conditions: none. -/
import Derived.Test.YtljgcapejcnmgaaTcB
namespace Go.Proofs.Ytljgcapejcnmgaa.Tc
open Go Go.Proofs Sx
set_option maxRecDepth 100000
set_option linter.unusedVariables false
set_option linter.unusedSimpArgs false
set_option maxHeartbeats 4000000

structure Cf where
  mss : Int
  snd : Int
  rcv : Int
  least : Int
  most : Int
  first : Int
  tries : Int
  msl : Int
  user : Int
def Cf.vals (c : Cf) : List Value := [.int .i64 c.mss, .int .i64 c.snd, .int .i64 c.rcv, .int .i64 c.least, .int .i64 c.most, .int .i64 c.first, .int .i64 c.tries, .int .i64 c.msl, .int .i64 c.user]
def Cf.svs (c : Cf) : List SV := [.int .i64 c.mss, .int .i64 c.snd, .int .i64 c.rcv, .int .i64 c.least, .int .i64 c.most, .int .i64 c.first, .int .i64 c.tries, .int .i64 c.msl, .int .i64 c.user]
structure Qd where
  la : Int
  lp : Int
  ra : Int
  rp : Int
def Qd.vals (q : Qd) : List Value := [.int .u32 q.la, .int .u16 q.lp, .int .u32 q.ra, .int .u16 q.rp]
def Qd.svs (q : Qd) : List SV := [.int .u32 q.la, .int .u16 q.lp, .int .u32 q.ra, .int .u16 q.rp]
/-- A hose, and its ring. -/
structure Ho where
  room : Int
  rp : Plc
  rl : Nat
  rc : Nat
  ring : List Value
  first : Int
  n : Int
  in_ : Int
  out : Int
def Ho.vals (h : Ho) : List Value := [.int .i64 h.room, .slice (locAddr 0 h.rp) h.rl h.rc, .int .i64 h.first, .int .i64 h.n, .int .i64 h.in_, .int .i64 h.out]
def hoA (b : Nat) (h : Ho) : Asn := fun w => sat [pt b (.cells h.vals.toArray 93 (0, 0)), Vec h.rp 5 1 h.rc h.ring] w
def Ho.new (n : Int) : Ho := ⟨n, .nil, 0, 0, [], 0, 0, 0, 0⟩
structure Ro where
  least : Int
  most : Int
  mean : Int
  off : Int
  known : Bool
  now : Int
  backs : Int
def Ro.vals (r : Ro) : List Value := [.int .i64 r.least, .int .i64 r.most, .int .i64 r.mean, .int .i64 r.off, .bool r.known, .int .i64 r.now, .int .i64 r.backs]
def Ro.svs (r : Ro) : List SV := [.int .i64 r.least, .int .i64 r.most, .int .i64 r.mean, .int .i64 r.off, .bool r.known, .int .i64 r.now, .int .i64 r.backs]
def roA (b : Nat) (r : Ro) : Asn := pt b (.cells r.vals.toArray 91 (0, 0))
structure Co where
  mss : Int
  window : Int
  limit : Int
  dups : Int
  fast : Bool
def Co.vals (r : Co) : List Value := [.int .i64 r.mss, .int .i64 r.window, .int .i64 r.limit, .int .i64 r.dups, .bool r.fast]
def Co.svs (r : Co) : List SV := [.int .i64 r.mss, .int .i64 r.window, .int .i64 r.limit, .int .i64 r.dups, .bool r.fast]
def coA (b : Nat) (r : Co) : Asn := pt b (.cells r.vals.toArray 103 (0, 0))
/-- Bytes from a place on, and where they lie. -/
structure Sp where
  at_ : Int
  pl : Plc
  cap : Nat
  bs : List Value
def Sp.vals (s : Sp) : List Value := [.int .i64 s.at_, .slice (locAddr 0 s.pl) s.bs.length s.cap]
def spL : Lay Sp where
  cells := Sp.vals
  sz := 2
  len _ := rfl
  one e v hv := by
    simp only [Sp.vals, List.mem_cons, List.not_mem_nil, or_false] at hv
    rcases hv with rfl | rfl <;> rfl
structure Pa where
  room : Int
  l : List Sp
  lp : Plc
  lc : Nat
  moved : Int
def Pa.vals (r : Pa) : List Value := [.int .i64 r.room, .slice (locAddr 0 r.lp) r.l.length r.lc, .int .i64 r.moved]
def paA (b : Nat) (r : Pa) : Asn := fun w => sat [pt b (.cells r.vals.toArray 101 (0, 0)), Vec r.lp 122 2 r.lc (spL.flat r.l), Alls (r.l.map fun s => Vec s.pl 5 1 s.cap s.bs)] w
def Pa.new (n : Int) : Pa := ⟨n, [], .nil, 0, 0⟩
def SL : Lay Sg where
  cells := Sg.vals
  sz := 9
  len _ := rfl
  one e v hv := by
    simp only [Sg.vals, List.mem_cons, List.not_mem_nil, or_false] at hv
    rcases hv with rfl | rfl | rfl | rfl | rfl | rfl | rfl | rfl | rfl <;> rfl
theorem lS (l : List Sg) : (SL.flat l).length = l.length * 9 := by rw [SL.flat_length]; rfl
/-- An alarm. -/
structure Al where
  at_ : Int
  set : Bool
/-- A connection. -/
structure X where
  cfg : Cf
  quad : Qd
  state : Int
  now : Int
  fault : Int
  left : Bool
  po : Plc
  co : Nat
  out : List Sg
  iss : Int
  una : Int
  nxt : Int
  top : Int
  bs : Nat
  snd : Ho
  shut : Bool
  peer : Int
  wl1 : Int
  wl2 : Int
  mss : Int
  so : Int
  si : Int
  scaled : Bool
  bc : Nat
  cong : Co
  br : Nat
  rto : Ro
  timed : Bool
  tseq : Int
  tat : Int
  tries : Int
  irs : Int
  rcv : Int
  bi : Nat
  inn : Ho
  be : Nat
  early : Pa
  fin : Bool
  finAt : Int
  ended : Bool
  again : Al
  probe : Al
  wait : Al
  user : Al
def pp (b : Nat) : Value := .pointer (some ⟨b, 0, none⟩)
def X.vals (x : X) : List Value := [.int .i64 x.cfg.mss, .int .i64 x.cfg.snd, .int .i64 x.cfg.rcv, .int .i64 x.cfg.least, .int .i64 x.cfg.most, .int .i64 x.cfg.first, .int .i64 x.cfg.tries, .int .i64 x.cfg.msl, .int .i64 x.cfg.user,
  .int .u32 x.quad.la, .int .u16 x.quad.lp, .int .u32 x.quad.ra, .int .u16 x.quad.rp,
  .int .i64 x.state, .int .i64 x.now, .int .i64 x.fault, .bool x.left, .slice (locAddr 0 x.po) x.out.length x.co,
  .int .u32 x.iss, .int .u32 x.una, .int .u32 x.nxt, .int .u32 x.top, pp x.bs, .bool x.shut, .int .i64 x.peer, .int .u32 x.wl1, .int .u32 x.wl2, .int .i64 x.mss, .int .i64 x.so, .int .i64 x.si, .bool x.scaled, pp x.bc, pp x.br,
  .bool x.timed, .int .u32 x.tseq, .int .i64 x.tat, .int .i64 x.tries, .int .u32 x.irs, .int .u32 x.rcv, pp x.bi, pp x.be, .bool x.fin, .int .u32 x.finAt, .bool x.ended,
  .int .i64 x.again.at_, .bool x.again.set, .int .i64 x.probe.at_, .bool x.probe.set, .int .i64 x.wait.at_, .bool x.wait.set, .int .i64 x.user.at_, .bool x.user.set]
def X.rest (x : X) : List Asn := [Vec x.po 49 9 x.co (SL.flat x.out), hoA x.bs x.snd, hoA x.bi x.inn, paA x.be x.early, coA x.bc x.cong, roA x.br x.rto]
def CA (b : Nat) (x : X) : Asn := fun h => sat (pt b (.cells x.vals.toArray 63 (0, 0)) :: x.rest) h
theorem ca_at {b : Nat} {x : X} (i : Nat) (v : Value) (e : x.vals[i]? = some v) (h : HP) (k : CA b x h) : fcell h b i = some v :=
  sat_cell 0 rfl (fun y ky => fcell_of (pt_get y ky) (by simpa using e)) k
/-- A cell of another part. -/
theorem ca_in {b c : Nat} {x : X} (n : Nat) {A : Asn} (e : x.rest[n]? = some A) (i : Nat) (v : Value) (g : ∀ h, A h → fcell h c i = some v) (h : HP) (k : CA b x h) : fcell h c i = some v :=
  sat_cell (n + 1) (by simpa using e) g k
theorem ho_at {b : Nat} {x : Ho} (i : Nat) (v : Value) (e : x.vals[i]? = some v) (h : HP) (k : hoA b x h) : fcell h b i = some v :=
  sat_cell 0 rfl (fun y ky => fcell_of (pt_get y ky) (by simpa using e)) k
theorem ro_at {b : Nat} {x : Ro} (i : Nat) (v : Value) (e : x.vals[i]? = some v) (h : HP) (k : roA b x h) : fcell h b i = some v :=
  fcell_of (pt_get h k) (by simpa using e)
theorem co_at {b : Nat} {x : Co} (i : Nat) (v : Value) (e : x.vals[i]? = some v) (h : HP) (k : coA b x h) : fcell h b i = some v :=
  fcell_of (pt_get h k) (by simpa using e)
/-- A connection's own cells are turned. -/
theorem ca_set {b : Nat} {x x' : X} {off : Nat} {vs : List Value} (hl : off + vs.length ≤ 52) (hv : putV x.vals off vs = x'.vals) (hr : x'.rest = x.rest) (h : HP) (k : CA b x h) :
    ∃ c t, h b = some (.cells c t (0, 0)) ∧ off + vs.length ≤ c.size ∧ CA b x' (upd h b (.cells (putV c.toList off vs).toArray t (0, 0))) := by
  obtain ⟨p, q, t, hp, hq⟩ := k
  refine ⟨x.vals.toArray, _, t.get (pt_get p hp), by simpa [X.vals] using hl, ?_⟩
  refine ⟨_, q, t.updL (pt_get p hp), ?_, by rw [hr]; exact hq⟩
  have := (pt_upd (.cells x'.vals.toArray 63 (0, 0)) p hp).2
  simpa [hv] using this
/-- What is told is in the frame of another one. -/
theorem told_fr {f f' b : HP} {nm : List (Nat × Plc)} {es : List Ent} (n : Nat) {A : Asn} (hA : es[n]? = some (.asn A)) (s : Split f' b f) (k : sat (es.map (entDen nm)) b) {c i : Nat} {v : Value} (g : ∀ h, A h → fcell h c i = some v) : fcell f' c i = some v := by
  have h1 : fcell b c i = some v := sat_cell n (by rw [List.getElem?_map, hA]; rfl) g k
  exact fcell_sub (fun _ _ => s.get) h1
end Go.Proofs.Ytljgcapejcnmgaa.Tc
