/- reasm: packets as they lie; check, copied, Len. Conditions: none. -/
import Derived.Test.YtiknkeakielncaaRsD
namespace Go.Proofs.Ytiknkeakielncaa.Rs
open Go Go.Proofs Sx
set_option maxRecDepth 100000
set_option linter.unusedVariables false
set_option linter.unusedSimpArgs false
set_option maxHeartbeats 4000000

/-- A packet's head. -/
structure Hd where
  tos : Int
  ident : Int
  whole : Bool
  more : Bool
  off : Int
  ttl : Int
  proto : Int
  src : Int
  dst : Int
/-- A packet, told by itself. -/
structure Pl where
  h : Hd
  opts : List UInt8
  data : List UInt8
/-- .. and where its bytes lie. -/
structure Ip where
  p : Pl
  ao : Option Addr
  co : Nat
  ad : Option Addr
  cd : Nat
def Hd.vals (h : Hd) : List Value := [.int .u8 h.tos, .int .u16 h.ident, .bool h.whole, .bool h.more, .int .i64 h.off, .int .u8 h.ttl, .int .u8 h.proto, .int .u32 h.src, .int .u32 h.dst]
def Ip.vals (i : Ip) : List Value := [.int .u8 i.p.h.tos, .int .u16 i.p.h.ident, .bool i.p.h.whole, .bool i.p.h.more, .int .i64 i.p.h.off, .int .u8 i.p.h.ttl, .int .u8 i.p.h.proto, .int .u32 i.p.h.src, .int .u32 i.p.h.dst, .slice i.ao i.p.opts.length i.co, .slice i.ad i.p.data.length i.cd]
def Ip.svs (i : Ip) : List SV := [.int .u8 i.p.h.tos, .int .u16 i.p.h.ident, .bool i.p.h.whole, .bool i.p.h.more, .int .i64 i.p.h.off, .int .u8 i.p.h.ttl, .int .u8 i.p.h.proto, .int .u32 i.p.h.src, .int .u32 i.p.h.dst, .raw (.slice i.ao i.p.opts.length i.co), .raw (.slice i.ad i.p.data.length i.cd)]
structure Ip.Sees (i : Ip) (f : HP) : Prop where
  o : Reads f i.ao (U.flat i.p.opts)
  d : Reads f i.ad (U.flat i.p.data)
structure Ip.Fits (i : Ip) : Prop where
  o : i.p.opts.length ≤ i.co
  d : i.p.data.length ≤ i.cd
  lo : i.p.opts.length ≤ 1000000
  ld : i.p.data.length ≤ 1000000
theorem bool_eq {a b : Bool} (h : a = true ↔ b = true) : some (Value.bool a) = some (Value.bool b) := by
  cases a <;> cases b <;> simp_all
/-- What is wrong with a piece by itself. -/
def checkE (now : Int) (h : Hd) (n : Nat) : Int :=
  if now < 0 ∨ now > 1099511627776 ∨ h.off < 0 ∨ h.off > 8191 then 8
  else if h.off = 0 ∧ h.more = false then 0
  else if n = 0 ∨ h.more = true ∧ n % 8 ≠ 0 then 3
  else if (n : Int) > 65515 - 8 * h.off then 9 else 0
theorem check_spec (now : Int) (i : Ip) (hf : i.Fits) : Does Try.prog 75 #[.int .i64 now, .agg i.vals.toArray] (fun _ => True) [] (fun v q => v = .int .i64 (checkE now i.p.h i.p.data.length) ∧ q = []) := by
  refine Does.ofJ Try.func75 Try.call75 rfl [.int .i64 now, .agg i.svs] [] 0 [] rfl rfl (fun h k => k) (fun f hR => ?_)
  intro b
  have hl := hf.ld
  refine RegOb.join Unit (fun _ => ⟨56, [(5, .bool (decide (now < 0 ∨ now > 1099511627776 ∨ i.p.h.off < 0 ∨ i.p.h.off > 8191))), (3, .ptr 0 0), (4, .int .i64 0)], [(0, .at b 0)], 1, [.blk 0 40 i.svs]⟩) ?_ (fun _ => ?_)
  · refine Br.mk (fun h1 => ?_) (fun h1 => ?_)
    · exact ⟨(), Le.of rfl ⟨⟨_, rfl, (bool_eq (by simp at h1 ⊢; simp [h1]))⟩, ⟨_, rfl, rfl⟩, ⟨_, rfl, rfl⟩, trivial⟩ (fun h k => k)⟩
    refine Br.mk (fun h2 => ?_) (fun h2 => ?_)
    · exact ⟨(), Le.of rfl ⟨⟨_, rfl, (bool_eq (by simp at h2 ⊢; simp [h2]))⟩, ⟨_, rfl, rfl⟩, ⟨_, rfl, rfl⟩, trivial⟩ (fun h k => k)⟩
    refine Br.mk (fun h3 => ?_) (fun h3 => ?_)
    · exact ⟨(), Le.of rfl ⟨⟨_, rfl, (bool_eq (by simp at h3 ⊢; simp [h3]))⟩, ⟨_, rfl, rfl⟩, ⟨_, rfl, rfl⟩, trivial⟩ (fun h k => k)⟩
    · exact ⟨(), Le.of rfl ⟨⟨_, rfl, (bool_eq (by simp at h1 h2 h3 ⊢; omega))⟩, ⟨_, rfl, rfl⟩, ⟨_, rfl, rfl⟩, trivial⟩ (fun h k => k)⟩
  refine CondOb.split (fun g => ?_) (fun g => ?_)
  · have g : now < 0 ∨ now > 1099511627776 ∨ i.p.h.off < 0 ∨ i.p.h.off > 8191 := by simpa using g
    exact FinOb.mk _ [] rfl (fun h k => trivial) ⟨by simp [ret1, checkE, g], rfl⟩
  have g : ¬ (now < 0 ∨ now > 1099511627776 ∨ i.p.h.off < 0 ∨ i.p.h.off > 8191) := of_decide_eq_false g
  refine RegOb.join Unit (fun _ => ⟨56, [(22, .bool (decide (i.p.h.off = 0 ∧ i.p.h.more = false))), (3, .ptr 0 0), (4, .int .i64 0)], [(0, .at b 0)], 1, [.blk 0 40 i.svs]⟩) ?_ (fun _ => ?_)
  · refine Br.mk (fun h1 => ?_) (fun h1 => ?_)
    · exact ⟨(), Le.of rfl ⟨⟨_, rfl, (bool_eq (by simp at h1 ⊢; simp [h1]))⟩, ⟨_, rfl, rfl⟩, ⟨_, rfl, rfl⟩, trivial⟩ (fun h k => k)⟩
    · exact ⟨(), Le.of rfl ⟨⟨_, rfl, (bool_eq (by simp at h1 ⊢; simp [h1]))⟩, ⟨_, rfl, rfl⟩, ⟨_, rfl, rfl⟩, trivial⟩ (fun h k => k)⟩
  refine CondOb.split (fun g2 => ?_) (fun g2 => ?_)
  · have g2 : i.p.h.off = 0 ∧ i.p.h.more = false := of_decide_eq_true g2
    exact FinOb.mk _ [] rfl (fun h k => trivial) ⟨by simp only [ret1, checkE]; rw [if_neg g, if_pos g2], rfl⟩
  have g2 : ¬ (i.p.h.off = 0 ∧ i.p.h.more = false) := of_decide_eq_false g2
  refine RegOb.join Unit (fun _ => ⟨56, [(31, .bool (decide (i.p.data.length = 0 ∨ i.p.h.more = true ∧ i.p.data.length % 8 ≠ 0))), (3, .ptr 0 0), (4, .int .i64 0)], [(0, .at b 0)], 1, [.blk 0 40 i.svs]⟩) ?_ (fun _ => ?_)
  · refine Br.mk (fun h1 => ?_) (fun h1 => ?_)
    · exact ⟨(), Le.of rfl ⟨⟨_, rfl, (bool_eq (by simp at h1 ⊢; simp [h1]))⟩, ⟨_, rfl, rfl⟩, ⟨_, rfl, rfl⟩, trivial⟩ (fun h k => k)⟩
    refine Br.mk (fun h2 => ?_) (fun h2 => ?_)
    · refine Need.mk (by decide) ?_
      exact ⟨(), Le.of rfl ⟨⟨_, rfl, (bool_eq (by
        rw [show ((i.p.data.length : Int).tmod 8) = ((i.p.data.length % 8 : Nat) : Int) from rfl]
        simp at h1 h2 ⊢
        simp [h1, h2]
        omega))⟩, ⟨_, rfl, rfl⟩, ⟨_, rfl, rfl⟩, trivial⟩ (fun h k => k)⟩
    · exact ⟨(), Le.of rfl ⟨⟨_, rfl, (bool_eq (by simp at h1 h2 ⊢; simp [h1, h2]))⟩, ⟨_, rfl, rfl⟩, ⟨_, rfl, rfl⟩, trivial⟩ (fun h k => k)⟩
  refine CondOb.split (fun g3 => ?_) (fun g3 => ?_)
  · have g3 := of_decide_eq_true g3
    exact FinOb.mk _ [] rfl (fun h k => trivial) ⟨by simp only [ret1, checkE]; rw [if_neg g, if_neg g2, if_pos g3], rfl⟩
  have g3 := of_decide_eq_false g3
  have e1 : IntKind.i64.wrap (8 * i.p.h.off) = 8 * i.p.h.off := w64 (by omega) (by omega)
  have e2 : IntKind.i64.wrap (65515 - IntKind.i64.wrap (8 * i.p.h.off)) = 65515 - 8 * i.p.h.off := by rw [e1]; exact w64 (by omega) (by omega)
  refine CondOb.split (fun g4 => ?_) (fun g4 => ?_)
  · have g4 : (i.p.data.length : Int) > IntKind.i64.wrap (65515 - IntKind.i64.wrap (8 * i.p.h.off)) := of_decide_eq_true g4
    rw [e2] at g4
    exact FinOb.mk _ [] rfl (fun h k => trivial) ⟨by simp only [ret1, checkE]; rw [if_neg g, if_neg g2, if_neg g3, if_pos g4], rfl⟩
  · have g4 : ¬ (i.p.data.length : Int) > IntKind.i64.wrap (65515 - IntKind.i64.wrap (8 * i.p.h.off)) := of_decide_eq_false g4
    rw [e2] at g4
    exact FinOb.mk _ [] rfl (fun h k => trivial) ⟨by simp only [ret1, checkE]; rw [if_neg g, if_neg g2, if_neg g3, if_neg g4], rfl⟩
/-- A copy of bytes. -/
theorem cloneU_spec (A : Option Addr) (cap : Nat) (l : List UInt8) (hl : l.length ≤ 1000000) :
    Does Try.prog 103 #[.slice A l.length cap] (fun f => Reads f A (U.flat l)) [] (fun v q => ∃ p c, v = .slice (locAddr 0 p) l.length c ∧ l.length ≤ c ∧ q = [Vec p 5 1 c (U.flat l)]) := by
  refine Does.ofJ Try.func103 Try.call103 rfl [.raw (.slice A l.length cap)] [] 0 [] rfl rfl (fun h k => k) (fun f hR => ?_)
  have hlU := lU l
  cases A with
  | none =>
    have h0 : l = [] := by
      cases l with
      | nil => rfl
      | cons v ys => obtain ⟨_, _, h, _⟩ := hR.lay (by decide) (i := 0) rfl; cases h
    subst h0
    exact FinOb.mk [.slice none 0 0] [Vec .nil 5 1 0 []] rfl (fun h k => ⟨HP.emp, h, .emp_left h, vec_emp, trivial⟩) ⟨.nil, 0, rfl, Nat.le_refl _, rfl⟩
  | some ad =>
    intro b
    refine SrcF.mk (U.flat l) (by rw [hlU, Nat.mul_one]) hR ?_
    refine StOb.mk [] rfl (Need.mk (by simp) (Need.mk ⟨by omega, by simp only [maxLen]; omega, U.flat_one' l⟩ ?_))
    refine NewSl.any (fun p cap' hc => ?_)
    exact FinOb.mk [.slice (locAddr 0 p) (0 + l.length) cap'] [Vec p 5 1 cap' (U.flat l)] rfl (fun h k => sat_cons (fun h => vec_to rfl) (fun h k => (trivial : sat [] h)) k) ⟨p, cap', by simp [ret1], by omega, rfl⟩
/-- A packet in new memory. -/
def Ip.own (p : Pl) (po pd : Plc) (co cd : Nat) : Ip := ⟨p, locAddr 0 po, co, locAddr 0 pd, cd⟩
theorem copied_spec (i : Ip) (hf : i.Fits) : Does Try.prog 76 #[.agg i.vals.toArray] i.Sees []
    (fun v q => ∃ po pd co cd, v = .agg (Ip.own i.p po pd co cd).vals.toArray ∧ i.p.opts.length ≤ co ∧ i.p.data.length ≤ cd ∧ q = [Vec po 5 1 co (U.flat i.p.opts), Vec pd 5 1 cd (U.flat i.p.data)]) := by
  refine Does.ofJ Try.func76 Try.call76 rfl [.agg i.svs] [] 0 [] rfl rfl (fun h k => k) (fun f hR => ?_)
  intro b1 b2
  refine DrawOb.mk [(2, [3, 4]), (5, [6])] (.run [0, 1, 3, 4, 2, 6, 5, 7, 8, 9] .nil) (by kernel_rfl) ?_
  refine call_ix (cloneU_spec i.ao i.co i.p.opts hf.lo) rfl [] (fun h k => k) (fun f' b' hs kb => rd_sub (fun r q hq => hs.get_right hq) hR.o) ?_
  rintro v post ⟨po, co, rfl, hco, rfl⟩
  refine ⟨.sl 2 0 i.p.opts.length co, (2, po) :: _, 3, [.vec 2 5 1 co (U.flat i.p.opts)], NmExt.push rfl, rfl, (fun h k => sat_pick 0 rfl (fun _ k => vec_of rfl k) (fun h k => sat_nil k) k), ?_⟩
  refine Need.mk rfl ?_
  refine call_ix (cloneU_spec i.ad i.cd i.p.data hf.ld) rfl [] (fun h k => k) (fun f' b' hs kb => rd_sub (fun r q hq => hs.get_right hq) hR.d) ?_
  rintro v post ⟨pd, cd, rfl, hcd, rfl⟩
  refine ⟨.sl 3 0 i.p.data.length cd, (3, pd) :: _, 4, [.vec 3 5 1 cd (U.flat i.p.data)], NmExt.push rfl, rfl, (fun h k => sat_pick 0 rfl (fun _ k => vec_of rfl k) (fun h k => sat_nil k) k), ?_⟩
  exact FinOb.mk [.agg (Ip.own i.p po pd co cd).vals.toArray] [Vec po 5 1 co (U.flat i.p.opts), Vec pd 5 1 cd (U.flat i.p.data)] rfl (fun h k => sat_pick 3 rfl (fun _ k => vec_to rfl k) (fun h k => sat_pick 2 rfl (fun _ k => vec_to rfl k) (fun h k => sat_nil k) k) k) ⟨po, pd, co, cd, rfl, hco, hcd, rfl⟩
end Go.Proofs.Ytiknkeakielncaa.Rs
