/- audit: the reference takes a completion. Conditions: none. -/
import Derived.Test.YtlgdagjbphafcaaAuC
namespace Go.Proofs.Ytlgdagjbphafcaa.Au
open Go Go.Proofs Sx
set_option maxRecDepth 100000
set_option linter.unusedVariables false
set_option linter.unusedSimpArgs false
set_option maxHeartbeats 4000000

/-- Does the one ahead stand open? -/
def waits (l : List X) (x : X) : Bool := x.tied && match look l x.host x.ctx (x.ticket - 1) with
  | none => false
  | some a => !a.ended
def badG (m : M) (y : X) : Bool := y.gone && (m.c.res != -290 && (y.q.op != 11 || m.c.res != -294))
def badK (m : M) (y : X) : Bool := !y.gone && (!okQ y.q && m.c.res != -260)
def chk (m : M) (y : X) : Option X := if badG m y then none else if badK m y then none else some y
def badM (l : List X) (m : M) (x : X) : Bool := (x.q.op != 5 && x.q.op != 7) || (x.q.fl / 4 % 2 == 0) || !began l x || decide (m.c.res < 0)
def doneX (l : List X) (m : M) (x : X) : Option X :=
  if (x.ended || m.c.user != x.q.user) then none else if waits l x then none else
  if m.c.fl % 2 = 1 then (if badM l m x then none else chk m { x with more := IntKind.i64.wrap (x.more + 1) })
  else chk m { x with ended := true, res := m.c.res, gone := !began l x }
theorem AheadR.no_wait {l : List X} (hu : Uq l) {x : X} (h : AheadR l x (-1)) : waits l x = false := by
  unfold waits
  rcases ht : x.tied with _ | _
  · rfl
  · unfold AheadR at h
    rw [if_pos ht] at h
    rcases h with ⟨_, h2⟩ | ⟨i, a, h1, _⟩
    · rw [look_none h2]; rfl
    · omega
structure M.Ok (m : M) : Prop where
  q : m.q.Ok
  cf0 : 0 ≤ m.c.fl
  cf1 : m.c.fl ≤ 255
def DS (A : Option Addr) (cp : Nat) (l : List X) (i b1 b2 : Nat) (m : M) (x : X) (e : List (Nat × SV)) : St :=
  ⟨135, (0, .raw (.slice A l.length cp)) :: (2, .int .i64 i) :: (4, .ptr 0 0) :: (8, .ptr 1 0) :: e, [(1, .at b2 0), (0, .at b1 0)], 2, [.blk 1 189 x.svs, .blk 0 141 m.svs]⟩
theorem rdone_spec (A : Option Addr) (cp : Nat) (l : List X) (m : M) (i : Nat) (x : X) (hx : l[i]? = some x) (hl : l.length ≤ 100000) (hu : Uq l) (hq : ∀ x ∈ l, x.q.Ok) (hm : m.Ok) (ht : 0 ≤ x.ticket) (ht2 : x.ticket ≤ 100000) :
    Does Try.prog 108 #[.slice A l.length cp, .agg m.vals.toArray, .int .i64 i] (fun f => Reads f A (XL.flat l)) [] (fun v p => match doneX l m x with
      | none => v = .tuple #[.slice A l.length cp, .bool false] ∧ p = []
      | some y => ∃ b9 o9 c : Nat, v = .tuple #[.slice (some ⟨b9, o9, none⟩) l.length c, .bool true] ∧ l.length ≤ c ∧ p = [Vec (.at b9 o9) 189 20 c (XL.flat (l.set i y))]) := by
  refine Does.ofJ Try.func108 Try.call108 rfl [.raw (.slice A l.length cp), .agg m.svs, .int .i64 i] [] 0 [] rfl rfl (fun h k => k) (fun f hR => ?_)
  have hi := (List.getElem?_eq_some_iff.1 hx).1
  have hqx := hq x (List.mem_of_getElem? hx)
  have hn : 0 ≤ (i : Int) ∧ (i : Int) < l.length := by omega
  obtain ⟨b, o, hA, hc⟩ := hR.lay (by decide) hx
  intro b1
  refine Need.mk hn (RawAt.mk b o hA ?_)
  refine RdF.mk x.svs x.vals rfl rfl (fun j v hj => hc j v hj) ?_
  intro b2
  refine RegOb.join Unit (fun _ => DS A cp l i b1 b2 m x [(24, .bool (x.ended || m.c.user != x.q.user))]) ?_ (fun _ => ?_)
  · refine Br.mk (fun h1 => ?_) (fun h1 => ?_)
    · exact ⟨(), Le.of rfl ⟨⟨_, rfl, rfl⟩, ⟨_, rfl, rfl⟩, ⟨_, rfl, rfl⟩, ⟨_, rfl, rfl⟩, ⟨_, rfl, (congrArg (fun x => some (Value.bool x)) (by rw [h1]; rfl))⟩, trivial⟩ (fun h k => k)⟩
    · exact ⟨(), Le.of rfl ⟨⟨_, rfl, rfl⟩, ⟨_, rfl, rfl⟩, ⟨_, rfl, rfl⟩, ⟨_, rfl, rfl⟩, ⟨_, rfl, (congrArg (fun x => some (Value.bool x)) (by rw [h1]; rfl))⟩, trivial⟩ (fun h k => k)⟩
  refine CondOb.split (fun g1 => ?_) (fun g1 => ?_)
  · have e : doneX l m x = none := by unfold doneX; rw [if_pos g1]
    rw [e]
    exact FinOb.mk _ [] rfl (fun h k => trivial) ⟨rfl, rfl⟩
  refine call_ix (ahead_spec A cp l x (by omega) ht (by omega)) rfl [] (fun h k => k) (fun f' b' hs _ => hR.frame hs) ?_
  rintro v post ⟨r, rfl, hr, rfl⟩
  refine ⟨.int .i64 r, _, 2, [], NmExt.refl _, rfl, fun h k => trivial, ?_⟩
  refine RegOb.join Unit (fun _ => DS A cp l i b1 b2 m x [(38, .bool (waits l x))]) ?_ (fun _ => ?_)
  · rcases hr.began hu with ⟨rfl, _⟩ | ⟨j, a, rfl, ha, htd, hlk, _⟩
    · refine Br.mk (fun h => absurd h (by decide)) (fun _ => ?_)
      exact ⟨(), Le.of rfl ⟨⟨_, rfl, rfl⟩, ⟨_, rfl, rfl⟩, ⟨_, rfl, rfl⟩, ⟨_, rfl, rfl⟩, ⟨_, rfl, (congrArg (fun x => some (Value.bool x)) (AheadR.no_wait hu hr).symm)⟩, trivial⟩ (fun h k => k)⟩
    refine Br.mk (fun _ => ?_) (fun h => absurd h (by simp))
    have hj := (List.getElem?_eq_some_iff.1 ha).1
    obtain ⟨ba, oa, hAa, hca⟩ := hR.lay (by decide) ha
    refine Need.mk (by omega) (RawAt.mk ba oa hAa ?_)
    refine RdRaw.mk (.bool a.ended) _ rfl (hca 17 _ rfl) ?_
    exact ⟨(), Le.of rfl ⟨⟨_, rfl, rfl⟩, ⟨_, rfl, rfl⟩, ⟨_, rfl, rfl⟩, ⟨_, rfl, rfl⟩, ⟨_, rfl, (congrArg (fun x => some (Value.bool x)) (by unfold waits; rw [htd, hlk]; rfl))⟩, trivial⟩ (fun h k => k)⟩
  refine CondOb.split (fun g2 => ?_) (fun g2 => ?_)
  · have e : doneX l m x = none := by unfold doneX; rw [if_neg (by rw [g1]; decide), if_pos g2]
    rw [e]
    exact FinOb.mk _ [] rfl (fun h k => trivial) ⟨rfl, rfl⟩
  have efl : m.c.fl.tmod 2 = m.c.fl % 2 := Int.tmod_eq_emod_of_nonneg hm.cf0
  refine Need.mk (by decide) ?_
  generalize hd : doneX l m x = D
  refine CondOb.join { y : X // D = chk m y ∧ y.q = x.q } (fun y => DS A cp l i b1 b2 m y.1 []) (fun g3 => ?_) (fun g3 => ?_) ?_
  · have g3 : m.c.fl % 2 = 1 := by rw [efl] at g3; simpa using g3
    have e0 : D = (if badM l m x then none else chk m { x with more := IntKind.i64.wrap (x.more + 1) }) := by rw [← hd]; unfold doneX; rw [if_neg (by rw [g1]; decide), if_neg (by rw [g2]; decide), if_pos g3]
    have e4 : (IntKind.u8.wrap (x.q.fl.tdiv 4)).tmod 2 = x.q.fl / 4 % 2 := by
      have h1 := hqx.fl0
      have h2 := hqx.fl1
      rw [Int.tdiv_eq_ediv_of_nonneg h1, w8 (by omega) (by omega), Int.tmod_eq_emod_of_nonneg (by omega)]
    refine RegOb.join Unit (fun _ => DS A cp l i b1 b2 m x [(74, .bool (badM l m x))]) ?_ (fun _ => ?_)
    · refine Br.mk (fun h1 => ?_) (fun h1 => ?_)
      · refine Br.mk (fun h2 => ?_) (fun h2 => ?_)
        · refine ⟨(), Le.of rfl ⟨⟨_, rfl, rfl⟩, ⟨_, rfl, rfl⟩, ⟨_, rfl, rfl⟩, ⟨_, rfl, rfl⟩, ⟨_, rfl, (congrArg (fun x => some (Value.bool x)) ?_)⟩, trivial⟩ (fun h k => k)⟩
          simp_all [badM]
        refine Need.mk (by decide) ?_
        refine Need.mk (by decide) ?_
        refine Br.mk (fun h3 => ?_) (fun h3 => ?_)
        · refine ⟨(), Le.of rfl ⟨⟨_, rfl, rfl⟩, ⟨_, rfl, rfl⟩, ⟨_, rfl, rfl⟩, ⟨_, rfl, rfl⟩, ⟨_, rfl, (congrArg (fun x => some (Value.bool x)) ?_)⟩, trivial⟩ (fun h k => k)⟩
          simp_all [badM]
        refine useR (.bool (began l x)) (began_spec A cp l x (by omega) ht (by omega) hu hq) rfl (fun f' b' hs _ => hR.frame hs) rfl ?_
        refine Br.mk (fun h4 => ?_) (fun h4 => ?_)
        · refine ⟨(), Le.of rfl ⟨⟨_, rfl, rfl⟩, ⟨_, rfl, rfl⟩, ⟨_, rfl, rfl⟩, ⟨_, rfl, rfl⟩, ⟨_, rfl, (congrArg (fun x => some (Value.bool x)) ?_)⟩, trivial⟩ (fun h k => k)⟩
          simp_all [badM]
        refine ⟨(), Le.of rfl ⟨⟨_, rfl, rfl⟩, ⟨_, rfl, rfl⟩, ⟨_, rfl, rfl⟩, ⟨_, rfl, rfl⟩, ⟨_, rfl, (congrArg (fun x => some (Value.bool x)) ?_)⟩, trivial⟩ (fun h k => k)⟩
        simp_all [badM]
      · refine Need.mk (by decide) ?_
        refine Need.mk (by decide) ?_
        refine Br.mk (fun h3 => ?_) (fun h3 => ?_)
        · refine ⟨(), Le.of rfl ⟨⟨_, rfl, rfl⟩, ⟨_, rfl, rfl⟩, ⟨_, rfl, rfl⟩, ⟨_, rfl, rfl⟩, ⟨_, rfl, (congrArg (fun x => some (Value.bool x)) ?_)⟩, trivial⟩ (fun h k => k)⟩
          simp_all [badM]
        refine useR (.bool (began l x)) (began_spec A cp l x (by omega) ht (by omega) hu hq) rfl (fun f' b' hs _ => hR.frame hs) rfl ?_
        refine Br.mk (fun h4 => ?_) (fun h4 => ?_)
        · refine ⟨(), Le.of rfl ⟨⟨_, rfl, rfl⟩, ⟨_, rfl, rfl⟩, ⟨_, rfl, rfl⟩, ⟨_, rfl, rfl⟩, ⟨_, rfl, (congrArg (fun x => some (Value.bool x)) ?_)⟩, trivial⟩ (fun h k => k)⟩
          simp_all [badM]
        refine ⟨(), Le.of rfl ⟨⟨_, rfl, rfl⟩, ⟨_, rfl, rfl⟩, ⟨_, rfl, rfl⟩, ⟨_, rfl, rfl⟩, ⟨_, rfl, (congrArg (fun x => some (Value.bool x)) ?_)⟩, trivial⟩ (fun h k => k)⟩
        simp_all [badM]
    refine CondOb.split (fun g4 => ?_) (fun g4 => ?_)
    · rw [if_pos g4] at e0
      rw [e0]
      exact FinOb.mk _ [] rfl (fun h k => trivial) ⟨rfl, rfl⟩
    rw [if_neg (by rw [g4]; decide)] at e0
    exact ⟨⟨_, e0, rfl⟩, Le.of rfl ⟨⟨_, rfl, rfl⟩, ⟨_, rfl, rfl⟩, ⟨_, rfl, rfl⟩, ⟨_, rfl, rfl⟩, trivial⟩ (fun h k => k)⟩
  · have g3 : ¬ m.c.fl % 2 = 1 := by rw [efl] at g3; simpa using g3
    have e0 : D = chk m { x with ended := true, res := m.c.res, gone := !began l x } := by rw [← hd]; unfold doneX; rw [if_neg (by rw [g1]; decide), if_neg (by rw [g2]; decide), if_neg g3]
    refine DrawOb.mk [(4, [0, 1, 2])] (.run [0, 1, 2, 3, 4, 5, 6] .nil) (by kernel_rfl) ?_
    refine Need.mk rfl ?_
    refine useR (.bool (began l x)) (began_spec A cp l { x with ended := true, res := m.c.res } (by omega) ht (by show x.ticket ≤ _; omega) hu hq) rfl (fun f' b' hs _ => hR.frame hs) rfl ?_
    exact ⟨⟨_, e0, rfl⟩, Le.of rfl ⟨⟨_, rfl, rfl⟩, ⟨_, rfl, rfl⟩, ⟨_, rfl, rfl⟩, ⟨_, rfl, rfl⟩, trivial⟩ (fun h k => sat_pick 0 rfl (by first | exact fun _ k => k | exact fun _ k => blk_to rfl rfl k | exact fun _ k => vec_to rfl k | exact fun _ k => blk_of rfl rfl k | exact fun _ k => vec_of rfl k | exact fun _ k => blk_of rfl rfl (blk_to rfl rfl k) | exact fun _ k => vec_of rfl (vec_to rfl k) | exact fun _ k => mp_to rfl k | exact fun _ k => mp_of rfl k | exact fun _ k => mp_of rfl (mp_to rfl k)) (fun h k => sat_pick 0 rfl (by first | exact fun _ k => k | exact fun _ k => blk_to rfl rfl k | exact fun _ k => vec_to rfl k | exact fun _ k => blk_of rfl rfl k | exact fun _ k => vec_of rfl k | exact fun _ k => blk_of rfl rfl (blk_to rfl rfl k) | exact fun _ k => vec_of rfl (vec_to rfl k) | exact fun _ k => mp_to rfl k | exact fun _ k => mp_of rfl k | exact fun _ k => mp_of rfl (mp_to rfl k)) (fun h k => sat_nil k) k) k)⟩
  rintro ⟨y, he, hyq⟩
  subst he
  have hqy : y.q.Ok := by rw [hyq]; exact hqx
  refine RegOb.join Unit (fun _ => DS A cp l i b1 b2 m y [(109, .bool (badG m y))]) ?_ (fun _ => ?_)
  · repeat' refine Br.mk (fun h => ?_) (fun h => ?_)
    all_goals refine ⟨(), Le.of rfl ⟨⟨_, rfl, rfl⟩, ⟨_, rfl, rfl⟩, ⟨_, rfl, rfl⟩, ⟨_, rfl, rfl⟩, ⟨_, rfl, (congrArg (fun x => some (Value.bool x)) ?_)⟩, trivial⟩ (fun h k => k)⟩
    all_goals simp_all [badG]
  refine CondOb.split (fun g5 => ?_) (fun g5 => ?_)
  · have e : chk m y = none := by unfold chk; rw [if_pos g5]
    rw [e]
    exact FinOb.mk _ [] rfl (fun h k => trivial) ⟨rfl, rfl⟩
  refine RegOb.join Unit (fun _ => DS A cp l i b1 b2 m y [(125, .bool (badK m y))]) ?_ (fun _ => ?_)
  · refine Br.mk (fun h1 => ?_) (fun h1 => ?_)
    rotate_left
    · refine ⟨(), Le.of rfl ⟨⟨_, rfl, rfl⟩, ⟨_, rfl, rfl⟩, ⟨_, rfl, rfl⟩, ⟨_, rfl, rfl⟩, ⟨_, rfl, (congrArg (fun x => some (Value.bool x)) ?_)⟩, trivial⟩ (fun h k => k)⟩
      simp_all [badK]
    refine useP (.int .i64 (if okQ y.q then 0 else 260)) (rcheck_spec y.q hqy) rfl rfl ?_
    refine Br.mk (fun h2 => ?_) (fun h2 => ?_)
    · refine ⟨(), Le.of rfl ⟨⟨_, rfl, rfl⟩, ⟨_, rfl, rfl⟩, ⟨_, rfl, rfl⟩, ⟨_, rfl, rfl⟩, ⟨_, rfl, (congrArg (fun x => some (Value.bool x)) ?_)⟩, trivial⟩ (fun h k => k)⟩
      cases hk : okQ y.q <;> simp_all [badK]
    · refine ⟨(), Le.of rfl ⟨⟨_, rfl, rfl⟩, ⟨_, rfl, rfl⟩, ⟨_, rfl, rfl⟩, ⟨_, rfl, rfl⟩, ⟨_, rfl, (congrArg (fun x => some (Value.bool x)) ?_)⟩, trivial⟩ (fun h k => k)⟩
      cases hk : okQ y.q <;> simp_all [badK]
  refine CondOb.split (fun g6 => ?_) (fun g6 => ?_)
  · have e : chk m y = none := by unfold chk; rw [if_neg (by rw [g5]; decide), if_pos g6]
    rw [e]
    exact FinOb.mk _ [] rfl (fun h k => trivial) ⟨rfl, rfl⟩
  have e : chk m y = some y := by unfold chk; rw [if_neg (by rw [g5]; decide), if_neg (by rw [g6]; decide)]
  rw [e]
  intro c1
  refine SrcF.mk (XL.flat l) (lX _) hR ?_
  refine StOb.mk [] rfl (Need.mk (by simp) (Need.mk ⟨by omega, by simp only [maxLen]; omega, XL.flat_one' _⟩ ?_))
  refine NewSl.pos (by omega) (fun b6 o6 c6 hc6 => ?_)
  have e9 : (i : Int).toNat = i := by omega
  refine Need.mk (by omega) ?_
  refine StOb.mk y.vals rfl (Need.mk (by simp [lX, X.vals]; omega) ?_)
  refine FinOb.mk [.slice (some ⟨b6, o6, none⟩) (0 + l.length) c6, .bool true] [Vec (.at b6 o6) 189 20 c6 (XL.flat (l.set i y))] rfl (fun h k => sat_pick 0 rfl (fun _ k9 => ?_) (fun h k => sat_nil k) k) ⟨b6, o6, c6, by simp [ret1], by omega, rfl⟩
  have kk := vec_to (l := .at b6 o6) rfl k9
  have e7 : putV (List.take (0 * 20) (List.drop 0 []) ++ XL.flat l) (0 + (i : Int).toNat * 20) y.vals = XL.flat (l.set i y) := by
    rw [Nat.zero_mul, List.take_zero, List.nil_append, Nat.zero_add, e9]
    exact XL.flat_set hi
  rw [e7] at kk
  exact kk
end Go.Proofs.Ytlgdagjbphafcaa.Au
