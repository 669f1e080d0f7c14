/- tcb: TcbTries. Conditions: none. -/
import Derived.Test.YtljgcapejcnmgaaTcO
namespace Go.Proofs.Ytljgcapejcnmgaa.Tc
open Go Go.Proofs Sx
set_option maxRecDepth 100000
set_option linter.unusedVariables false
set_option linter.unusedSimpArgs false
set_option maxHeartbeats 4000000

/-- A connection that waits for an answer to its SYN, after so many tries. -/
structure Wait (c : Cf) (now : Int) (k : Nat) (x : X) : Prop where
  cfg : x.cfg = c
  st : x.state = 1
  fa : x.fault = 0
  out : x.out = []
  iss : x.iss = 7
  ag : x.again = ⟨tt c now (k + 1), true⟩
  us : x.user = ⟨now + c.user, true⟩
  wa : x.wait.set = false
  pr : x.probe.set = false
  rt : x.rto.now = wt c k
  rm : x.rto.most = c.most
  tr : x.tries = k
  si : 0 ≤ x.si
  inn : x.inn.n = 0
  en : x.ended = false
  n1 : x.now < tt c now (k + 1)
  n2 : x.now < now + c.user
theorem Wait.next {c : Cf} {now : Int} {k : Nat} {x : X} (h : Wait c now k x) : x.next = (if tt c now (k + 1) < now + c.user then tt c now (k + 1) else now + c.user, true) := by
  unfold X.next Al.step
  rw [h.us, h.ag, h.wa, h.pr]
  by_cases g : tt c now (k + 1) < now + c.user <;> simp [g]
theorem at_now {x : X} {m : Int} (h : m ≤ 1099511627776) (h2 : x.now ≤ m) : x.at m = { x with now := m } := by
  unfold X.at; rw [if_pos h]
  have : mx x.now m = m := by unfold mx; split <;> omega
  rw [this]
theorem Wait.later {c : Cf} {now : Int} {k : Nat} {x : X} (h : Wait c now k x) {m : Int} (h0 : m ≤ 1099511627776) (h1 : m < tt c now (k + 1)) (h2 : m < now + c.user) :
    Wait c now k (x.at m) ∧ (x.at m).user.due (x.at m).now = false ∧ (x.at m).wait.due (x.at m).now = false ∧ (x.at m).again.due (x.at m).now = false ∧ (x.at m).probe.due (x.at m).now = false := by
  have e : x.at m = { x with now := mx x.now m } := by unfold X.at; rw [if_pos h0]
  have hm : mx x.now m < tt c now (k + 1) ∧ mx x.now m < now + c.user := by have := h.n1; have := h.n2; unfold mx; split <;> omega
  rw [e]
  refine ⟨⟨h.cfg, h.st, h.fa, h.out, h.iss, h.ag, h.us, h.wa, h.pr, h.rt, h.rm, h.tr, h.si, h.inn, h.en, hm.1, hm.2⟩, ?_, ?_, ?_, ?_⟩
  · show x.user.due (mx x.now m) = false
    rw [h.us]; unfold Al.due; simp; omega
  · show x.wait.due (mx x.now m) = false
    unfold Al.due; rw [h.wa]; rfl
  · show x.again.due (mx x.now m) = false
    rw [h.ag]; unfold Al.due; simp; omega
  · show x.probe.due (mx x.now m) = false
    unfold Al.due; rw [h.pr]; rfl
theorem Wait.outed {c : Cf} {now : Int} {k : Nat} {x : X} (h : Wait c now k x) : Wait c now k x.outed := ⟨h.cfg, h.st, h.fa, rfl, h.iss, h.ag, h.us, h.wa, h.pr, h.rt, h.rm, h.tr, h.si, h.inn, h.en, h.n1, h.n2⟩
/-- One more try goes out. -/
def X.again_ (x : X) (m : Int) (q o co : Nat) : X := ({ x with now := m } : X).backed.hello true q o co
theorem Wait.try_ {c : Cf} {now : Int} {k : Nat} {x : X} (hc : c.Ok) (hnow : now ≤ 1099511627776) (h0 : 0 ≤ now) (h : Wait c now k x) (hk : (k : Int) ≤ 31) (h2 : tt c now (k + 1) < now + c.user) (q o co : Nat) :
    Wait c now (k + 1) (x.again_ (tt c now (k + 1)) q o co).outed ∧ (∃ g : Sg, (x.again_ (tt c now (k + 1)) q o co).out = [g] ∧ g.flags = 2 ∧ g.seq = 7) := by
  have hw := wt_ok hc k
  have hw1 := wt_ok hc (k + 1)
  have ht := tt_le hc now (k + 1)
  have e1 : mn (IntKind.i64.wrap (2 * wt c k)) c.most = wt c (k + 1) := by rw [w64 (by omega) (by omega)]; rfl
  refine ⟨⟨h.cfg, h.st, h.fa, rfl, h.iss, ?_, h.us, h.wa, h.pr, ?_, h.rm, ?_, h.si, h.inn, h.en, ?_, ?_⟩, ?_⟩
  · show Al.mk (IntKind.i64.wrap (tt c now (k + 1) + mn (IntKind.i64.wrap (2 * x.rto.now)) x.rto.most)) true = _
    rw [h.rt, h.rm, e1, w64 (by omega) (by omega)]; rfl
  · show mn (IntKind.i64.wrap (2 * x.rto.now)) x.rto.most = _
    rw [h.rt, h.rm, e1]
  · show IntKind.i64.wrap (x.tries + 1) = _
    rw [h.tr, w64 (by omega) (by omega)]; omega
  · show tt c now (k + 1) < tt c now (k + 1) + wt c (k + 1)
    omega
  · show tt c now (k + 1) < now + c.user
    exact h2
  · refine ⟨_, by show x.out ++ _ = _; rw [h.out]; rfl, ?_, h.iss⟩
    show (if x.state = 2 then (18 : Int) else 2) = 2
    rw [h.st]; rfl
/-- A connection that has ended. -/
structure Ended (x : X) : Prop where
  st : x.state = 0
  us : x.user.set = false
  wa : x.wait.set = false
  ag : x.again.set = false
  pr : x.probe.set = false
  inn : x.inn.n = 0
  en : x.ended = false
theorem Ended.at {x : X} (h : Ended x) (m : Int) : Ended (x.at m) := by unfold X.at; split <;> exact ⟨h.st, h.us, h.wa, h.ag, h.pr, h.inn, h.en⟩
theorem Ended.took {x : X} (h : Ended x) : Ended x.took := ⟨h.st, h.us, h.wa, h.ag, h.pr, h.inn, h.en⟩
theorem Ended.next {x : X} (h : Ended x) : x.next = (0, false) := by unfold X.next Al.step; rw [h.us, h.wa, h.ag, h.pr]; rfl
theorem at_fault (x : X) (m : Int) : (x.at m).fault = x.fault := by unfold X.at; split <;> rfl
theorem tick_done (b : Nat) (c : Cf) (now : Int) (n : Nat) (e : Int) (x : X) (hc : c.Ok) (h0 : 0 ≤ now) (hnow : now ≤ 1099507433472) (h : Wait c now n x) (ht : TrR c now n e) :
    Does Try.prog 11 #[pp b, .int .i64 e] (fun _ => True) [CA b x] (fun v p => ∃ z, v = .tuple #[] ∧ Ended z ∧ z.fault = 222 ∧ p = [CA b z]) := by
  have hu := hc.2.2.2.2.2.2.2
  have htr := hc.2.2.2.2.2.1
  have hn1 := h.n1
  have hn2 := h.n2
  rcases ht.last with ⟨g, rfl⟩ | ⟨g, hk, rfl⟩
  · have ea : x.at (now + c.user) = { x with now := now + c.user } := at_now (by omega) (by omega)
    refine (tick_user b x (now + c.user) (by rw [ea]; show x.user.due (now + c.user) = true; rw [h.us]; unfold Al.due; simp)).mono ?_
    rintro v p ⟨rfl, rfl⟩
    exact ⟨_, rfl, by rw [ea]; exact ⟨rfl, rfl, rfl, rfl, rfl, h.inn, h.en⟩, rfl, rfl⟩
  · have ea : x.at (tt c now (n + 1)) = { x with now := tt c now (n + 1) } := at_now (by omega) (by omega)
    have hfew := ht.few
    refine (tick_end b x (tt c now (n + 1)) (by rw [ea]; show x.user.due (tt c now (n + 1)) = false; rw [h.us]; unfold Al.due; simp; omega) (by rw [ea]; show x.wait.due _ = false; unfold Al.due; rw [h.wa]; rfl)
      (by rw [ea]; show x.again.due (tt c now (n + 1)) = true; rw [h.ag]; unfold Al.due; simp) (by rw [ea]; show IntKind.i64.wrap (x.tries + 1) > x.cfg.tries; rw [h.tr, h.cfg, w64 (by omega) (by omega)]; omega)).mono ?_
    rintro v p ⟨rfl, rfl⟩
    exact ⟨_, rfl, by rw [ea]; exact ⟨rfl, rfl, rfl, rfl, rfl, h.inn, h.en⟩, rfl, rfl⟩
end Go.Proofs.Ytljgcapejcnmgaa.Tc
