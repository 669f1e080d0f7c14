/- tcb: TcbOpening. Conditions: none. -/
import Derived.Test.YtljgcapejcnmgaaGreatTcJ
namespace Go.Proofs.YtljgcapejcnmgaaGreat.Tc
open Go Go.Proofs Sx
set_option maxRecDepth 100000
set_option linter.unusedVariables false
set_option linter.unusedSimpArgs false
set_option maxHeartbeats 4000000

theorem maxQ_next {i : Int} (h0 : 0 ≤ i) (h1 : i ≤ 4294967295) : maxQ i (addQ i 1) = addQ i 1 := by
  have : lessQ i (addQ i 1) = true := by
    unfold lessQ diffQ addQ
    simp only [IntKind.wrap_i64, IntKind.wrap_i32, IntKind.wrap_u32]
    apply decide_eq_true
    omega
  unfold maxQ; rw [this]; rfl
theorem wrong_eq {x : X} {s : Sg} (ht : x.top = addQ x.iss 1) (h0 : 0 ≤ x.iss) (h1 : x.iss ≤ 4294967295) (h2 : 0 ≤ s.ack) (h3 : s.ack ≤ 4294967295) : x.wrong s = !(s.ack == addQ x.iss 1) := by
  unfold X.wrong
  rw [ht]
  have e : (s.ack == addQ x.iss 1) = decide (s.ack = addQ x.iss 1) := by rw [Bool.eq_iff_iff]; simp
  rw [e, ← Bool.decide_or, ← decide_not]
  apply decide_eq_decide.2
  unfold diffQ addQ
  simp only [IntKind.wrap_i64, IntKind.wrap_i32, IntKind.wrap_u32]
  omega
structure Opens (iss : Int) (s : Sg) (q o : Nat) (y : X) : Prop where
  st : y.state = (roQ iss s).1
  fa : y.fault = (roQ iss s).2.1
  no : (roQ iss s).2.2.1 = 0 → y.out = []
  yes : (roQ iss s).2.2.1 ≠ 0 → y.po = .at q o ∧ ∃ g : Sg, y.out = [g] ∧ g.flags = (roQ iss s).2.2.1 ∧ g.seq = (roQ iss s).2.2.2 ∧ g.len = 0 ∧ ((roQ iss s).2.2.1 = 4 ∨ g.ack = addQ s.seq 1 ∧ y.irs = s.seq)
  fl : (roQ iss s).2.2.1 = 0 ∨ (roQ iss s).2.2.1 = 4 ∨ (roQ iss s).2.2.1 = 16 ∨ (roQ iss s).2.2.1 = 18
theorem watch_out (x : X) (a : Bool) : (x.watch a).out = x.out ∧ (x.watch a).state = x.state ∧ (x.watch a).fault = x.fault ∧ (x.watch a).irs = x.irs ∧ (x.watch a).rcv = x.rcv ∧ (x.watch a).top = x.top := by
  unfold X.watch; split <;> (try split) <;> exact ⟨rfl, rfl, rfl, rfl, rfl, rfl⟩
theorem b16 : bit 16 16 = true := by decide
theorem b18 : bit 18 16 = true := by decide
theorem hseg_ack (x : X) (b : Bool) (h : x.state = 2) : (x.hseg b).ack = x.rcv := by unfold X.hseg X.seg; simp only [h, if_true, b18]
theorem opens {x : X} {s : Sg} {bc q o co : Nat} (hs : x.state = 1) (hf : x.fault = 0) (ho : x.out = []) (ht : x.top = addQ x.iss 1) (h0 : 0 ≤ x.iss) (h1 : x.iss ≤ 4294967295) (h2 : 0 ≤ s.ack) (h3 : s.ack ≤ 4294967295) : Opens x.iss s q o (x.opening s bc q o co) := by
  have hw := wrong_eq ht h0 h1 h2 h3
  cases g1 : (bit s.flags 16 && x.wrong s) with
  | true =>
    have g1' := g1
    rw [hw] at g1'
    cases g2 : bit s.flags 4 with
    | true =>
      have e : x.opening s bc q o co = x := by unfold X.opening; rw [g1, g2]; rfl
      have r : roQ x.iss s = (1, 0, 0, 0) := by unfold roQ; rw [g1', g2]; rfl
      rw [e]
      exact ⟨by rw [r]; exact hs, by rw [r]; exact hf, fun _ => ho, fun h => absurd (by rw [r]) h, by rw [r]; exact .inl rfl⟩
    | false =>
      have e : x.opening s bc q o co = x.put (x.seg 4 s.ack none 0 0) (.at q o) co := by unfold X.opening; rw [g1, g2]; rfl
      have r : roQ x.iss s = (1, 0, 4, s.ack) := by unfold roQ; rw [g1', g2]; rfl
      rw [e]
      exact ⟨by rw [r]; exact hs, by rw [r]; exact hf, fun h => absurd h (by rw [r]; simp), fun _ => ⟨rfl, _, by show x.out ++ _ = _; rw [ho]; rfl, by rw [r]; rfl, by rw [r]; rfl, rfl, by rw [r]; exact .inl rfl⟩, by rw [r]; exact .inr (.inl rfl)⟩
  | false =>
    have g1' := g1
    rw [hw] at g1'
    cases g2 : bit s.flags 4 with
    | true =>
      cases g3 : bit s.flags 16 with
      | true =>
        have e : x.opening s bc q o co = x.close 220 := by unfold X.opening; rw [g1, g2, g3]; rfl
        have r : roQ x.iss s = (0, 220, 0, 0) := by unfold roQ; rw [g1', g2, g3]; rfl
        rw [e]
        exact ⟨by rw [r]; rfl, by rw [r]; rfl, fun _ => ho, fun h => absurd (by rw [r]) h, by rw [r]; exact .inl rfl⟩
      | false =>
        have e : x.opening s bc q o co = x := by unfold X.opening; rw [g1, g2, g3]; rfl
        have r : roQ x.iss s = (1, 0, 0, 0) := by unfold roQ; rw [g1', g2, g3]; rfl
        rw [e]
        exact ⟨by rw [r]; exact hs, by rw [r]; exact hf, fun _ => ho, fun h => absurd (by rw [r]) h, by rw [r]; exact .inl rfl⟩
    | false =>
      cases g3 : bit s.flags 2 with
      | false =>
        have e : x.opening s bc q o co = x := by unfold X.opening; rw [g1, g2, g3]; rfl
        have r : roQ x.iss s = (1, 0, 0, 0) := by unfold roQ; rw [g1', g2, g3]; rfl
        rw [e]
        exact ⟨by rw [r]; exact hs, by rw [r]; exact hf, fun _ => ho, fun h => absurd (by rw [r]) h, by rw [r]; exact .inl rfl⟩
      | true =>
        cases g4 : bit s.flags 16 with
        | true =>
          have e : x.opening s bc q o co = (x.synack s bc).put ((x.synack s bc).seg 16 (x.synack s bc).top none 0 0) (.at q o) co := by unfold X.opening; rw [g1, g2, g3, g4]; rfl
          have r : roQ x.iss s = (3, 0, 16, addQ x.iss 1) := by unfold roQ; rw [g1', g2, g3, g4]; rfl
          obtain ⟨w1, w2, w3, w4, w5, w6⟩ := watch_out ({ x.greet s bc with una := s.ack, state := 3, again := ⟨x.again.at_, false⟩, timed := false, tries := 0 } : X) true
          rw [e]
          have q1 : (x.synack s bc).out = [] := w1.trans ho
          have q2 : (x.synack s bc).state = 3 := w2
          have q3 : (x.synack s bc).fault = 0 := w3.trans hf
          have q4 : (x.synack s bc).irs = s.seq := w4
          have q5 : (x.synack s bc).rcv = addQ s.seq 1 := w5
          have q6 : (x.synack s bc).top = addQ x.iss 1 := w6.trans ht
          exact ⟨by rw [r]; exact q2, by rw [r]; exact q3, fun h => absurd h (by rw [r]; simp), fun _ => ⟨rfl, _, by show (x.synack s bc).out ++ _ = _; rw [q1]; rfl, by rw [r]; rfl, by rw [r]; exact q6, rfl, .inr ⟨by show (if bit 16 16 then (x.synack s bc).rcv else 0) = _; rw [b16]; exact q5, q4⟩⟩, by rw [r]; exact .inr (.inr (.inl rfl))⟩
        | false =>
          have e : x.opening s bc q o co = ({ x.greet s bc with state := 2 } : X).hello (x.greet s bc).scaled q o co := by unfold X.opening; rw [g1, g2, g3, g4]; rfl
          have r : roQ x.iss s = (2, 0, 18, x.iss) := by unfold roQ; rw [g1', g2, g3, g4]; rfl
          rw [e]
          exact ⟨by rw [r]; rfl, by rw [r]; exact hf, fun h => absurd h (by rw [r]; simp), fun _ => ⟨rfl, _, by show x.out ++ _ = _; rw [ho]; rfl, by rw [r]; rfl, by rw [r]; rfl, rfl, .inr ⟨(hseg_ack _ _ rfl).trans rfl, rfl⟩⟩, by rw [r]; exact .inr (.inr (.inr rfl))⟩
end Go.Proofs.YtljgcapejcnmgaaGreat.Tc
