/- script: the reference's check of an entry, walked. Conditions: none. -/
import Derived.Test.YtlgdagjbphafcaaScJ
namespace Go.Proofs.Ytlgdagjbphafcaa.Sc
open Go Go.Proofs Sx
set_option maxRecDepth 100000
set_option linter.unusedVariables false
set_option linter.unusedSimpArgs false
set_option maxHeartbeats 40000000

theorem not_bit {b : Bool} {P : Prop} (h : b = true → P) (n : ¬ P) : b = false := by
  cases b with
  | false => rfl
  | true => exact absurd (h rfl) n
theorem check_spec (q : Sq) (ok : QOk q) (D : Option Addr) (d : Nat) :
    Does Try.prog 68 #[.agg (q.vals D d).toArray] (fun _ => True) [] (fun v p => v = .int .i64 0 ∧ p = []) := by
  refine Does.of Try.func68 Try.call68 rfl [.agg (q.svs D d)] [] 0 [] rfl rfl (fun h k => k) (fun f hR => ?_)
  have o0 := ok.op0
  have o1 := ok.op1
  have f0 := ok.f0
  have f1 := ok.f1
  have eF : IntKind.i64.wrap q.fl = q.fl := w64 (by omega) (by omega)
  intro b1
  refine Need.mk (by decide) ?_
  refine Need.mk (by decide) ?_
  refine Need.mk (by decide) ?_
  refine Need.mk (by decide) ?_
  refine Need.mk (by decide) ?_
  refine Need.mk (by decide) ?_
  refine Need.mk (by decide) ?_
  refine Need.mk (by decide) ?_
  refine Need.mk (by decide) ?_
  refine Br.mk (fun h => absurd h (by simp; omega)) (fun _ => ?_)
  refine Br.mk (fun h => absurd h (by rw [eF]; simp; omega)) (fun _ => ?_)
  refine Br.mk (fun hl => ?_) (fun hl => ?_)
  · refine CondOb.split (fun h => absurd h (by have := ok.lh hl; unfold bitAt at this; rw [this]; decide)) (fun _ => ?_)
    refine Br.mk (fun hm => ?_) (fun hm => ?_)
    · have h57 := ok.mu hm
      refine Br.mk (fun h5 => ?_) (fun h5 => ?_)
      · have h5 : q.op ≠ 5 := by simpa using h5
        refine Br.mk (fun h => absurd h (by simp [h57.resolve_left h5])) (fun _ => ?_)
        refine Br.mk (fun hs => ?_) (fun hs => ?_)
        · have h7 := ok.se hs
          refine Br.mk (fun h => absurd h (by simp [h7])) (fun _ => ?_)
          refine Br.mk (fun h => ?_) (fun h => ?_)
          · have h12 := ok.bf h
            refine CondOb.split (fun h => absurd h (by simp [h12])) (fun _ => ?_)
            refine Br.mk (fun h7 => ?_) (fun h7 => ?_)
            · have h7 : q.op = 7 := by simpa using h7
              have hln := ok.ln h7
              refine Br.mk (fun h => absurd h (by simp; omega)) (fun _ => ?_)
              refine Br.mk (fun h => absurd h (by simp; omega)) (fun _ => ?_)
              refine Br.mk (fun h => absurd h (by simp; omega)) (fun _ => ?_)
              refine Br.mk (fun h6 => ?_) (fun h6 => ?_)
              · have h6 : q.op = 6 := by simpa using h6
                refine Br.mk (fun h => absurd h (by have := ok.d6 h6; simp; omega)) (fun _ => ?_)
                refine Br.mk (fun h => absurd h (by simp [h6])) (fun _ => ?_)
                refine Br.mk (fun h10 => ?_) (fun h10 => ?_)
                · refine CondOb.split (fun h => absurd h (by simp; exact ok.au)) (fun _ => ?_)
                  exact FinOb.mk [.int .i64 0] [] rfl (fun h k => trivial) ⟨rfl, rfl⟩
                · refine Br.mk (fun h11 => ?_) (fun h11 => ?_)
                  · refine CondOb.split (fun h => absurd h (by simp; exact ok.au)) (fun _ => ?_)
                    exact FinOb.mk [.int .i64 0] [] rfl (fun h k => trivial) ⟨rfl, rfl⟩
                  · exact FinOb.mk [.int .i64 0] [] rfl (fun h k => trivial) ⟨rfl, rfl⟩
              · have h6 : q.op ≠ 6 := by simpa using h6
                refine Br.mk (fun _ => ?_) (fun h => absurd h (by simp [h6]))
                refine CondOb.split (fun h => absurd h (by rw [ok.d0 h6]; decide)) (fun _ => ?_)
                refine Br.mk (fun h10 => ?_) (fun h10 => ?_)
                · refine CondOb.split (fun h => absurd h (by simp; exact ok.au)) (fun _ => ?_)
                  exact FinOb.mk [.int .i64 0] [] rfl (fun h k => trivial) ⟨rfl, rfl⟩
                · refine Br.mk (fun h11 => ?_) (fun h11 => ?_)
                  · refine CondOb.split (fun h => absurd h (by simp; exact ok.au)) (fun _ => ?_)
                    exact FinOb.mk [.int .i64 0] [] rfl (fun h k => trivial) ⟨rfl, rfl⟩
                  · exact FinOb.mk [.int .i64 0] [] rfl (fun h k => trivial) ⟨rfl, rfl⟩
            · refine Br.mk (fun h6 => ?_) (fun h6 => ?_)
              · have h6 : q.op = 6 := by simpa using h6
                refine Br.mk (fun h => absurd h (by have := ok.d6 h6; simp; omega)) (fun _ => ?_)
                refine Br.mk (fun h => absurd h (by simp [h6])) (fun _ => ?_)
                refine Br.mk (fun h10 => ?_) (fun h10 => ?_)
                · refine CondOb.split (fun h => absurd h (by simp; exact ok.au)) (fun _ => ?_)
                  exact FinOb.mk [.int .i64 0] [] rfl (fun h k => trivial) ⟨rfl, rfl⟩
                · refine Br.mk (fun h11 => ?_) (fun h11 => ?_)
                  · refine CondOb.split (fun h => absurd h (by simp; exact ok.au)) (fun _ => ?_)
                    exact FinOb.mk [.int .i64 0] [] rfl (fun h k => trivial) ⟨rfl, rfl⟩
                  · exact FinOb.mk [.int .i64 0] [] rfl (fun h k => trivial) ⟨rfl, rfl⟩
              · have h6 : q.op ≠ 6 := by simpa using h6
                refine Br.mk (fun _ => ?_) (fun h => absurd h (by simp [h6]))
                refine CondOb.split (fun h => absurd h (by rw [ok.d0 h6]; decide)) (fun _ => ?_)
                refine Br.mk (fun h10 => ?_) (fun h10 => ?_)
                · refine CondOb.split (fun h => absurd h (by simp; exact ok.au)) (fun _ => ?_)
                  exact FinOb.mk [.int .i64 0] [] rfl (fun h k => trivial) ⟨rfl, rfl⟩
                · refine Br.mk (fun h11 => ?_) (fun h11 => ?_)
                  · refine CondOb.split (fun h => absurd h (by simp; exact ok.au)) (fun _ => ?_)
                    exact FinOb.mk [.int .i64 0] [] rfl (fun h k => trivial) ⟨rfl, rfl⟩
                  · exact FinOb.mk [.int .i64 0] [] rfl (fun h k => trivial) ⟨rfl, rfl⟩
          · refine Br.mk (fun h7 => ?_) (fun h7 => ?_)
            · have h7 : q.op = 7 := by simpa using h7
              have hln := ok.ln h7
              refine Br.mk (fun h => absurd h (by simp; omega)) (fun _ => ?_)
              refine Br.mk (fun h => absurd h (by simp; omega)) (fun _ => ?_)
              refine Br.mk (fun h => absurd h (by simp; omega)) (fun _ => ?_)
              refine Br.mk (fun h6 => ?_) (fun h6 => ?_)
              · have h6 : q.op = 6 := by simpa using h6
                refine Br.mk (fun h => absurd h (by have := ok.d6 h6; simp; omega)) (fun _ => ?_)
                refine Br.mk (fun h => absurd h (by simp [h6])) (fun _ => ?_)
                refine Br.mk (fun h10 => ?_) (fun h10 => ?_)
                · refine CondOb.split (fun h => absurd h (by simp; exact ok.au)) (fun _ => ?_)
                  exact FinOb.mk [.int .i64 0] [] rfl (fun h k => trivial) ⟨rfl, rfl⟩
                · refine Br.mk (fun h11 => ?_) (fun h11 => ?_)
                  · refine CondOb.split (fun h => absurd h (by simp; exact ok.au)) (fun _ => ?_)
                    exact FinOb.mk [.int .i64 0] [] rfl (fun h k => trivial) ⟨rfl, rfl⟩
                  · exact FinOb.mk [.int .i64 0] [] rfl (fun h k => trivial) ⟨rfl, rfl⟩
              · have h6 : q.op ≠ 6 := by simpa using h6
                refine Br.mk (fun _ => ?_) (fun h => absurd h (by simp [h6]))
                refine CondOb.split (fun h => absurd h (by rw [ok.d0 h6]; decide)) (fun _ => ?_)
                refine Br.mk (fun h10 => ?_) (fun h10 => ?_)
                · refine CondOb.split (fun h => absurd h (by simp; exact ok.au)) (fun _ => ?_)
                  exact FinOb.mk [.int .i64 0] [] rfl (fun h k => trivial) ⟨rfl, rfl⟩
                · refine Br.mk (fun h11 => ?_) (fun h11 => ?_)
                  · refine CondOb.split (fun h => absurd h (by simp; exact ok.au)) (fun _ => ?_)
                    exact FinOb.mk [.int .i64 0] [] rfl (fun h k => trivial) ⟨rfl, rfl⟩
                  · exact FinOb.mk [.int .i64 0] [] rfl (fun h k => trivial) ⟨rfl, rfl⟩
            · refine Br.mk (fun h6 => ?_) (fun h6 => ?_)
              · have h6 : q.op = 6 := by simpa using h6
                refine Br.mk (fun h => absurd h (by have := ok.d6 h6; simp; omega)) (fun _ => ?_)
                refine Br.mk (fun h => absurd h (by simp [h6])) (fun _ => ?_)
                refine Br.mk (fun h10 => ?_) (fun h10 => ?_)
                · refine CondOb.split (fun h => absurd h (by simp; exact ok.au)) (fun _ => ?_)
                  exact FinOb.mk [.int .i64 0] [] rfl (fun h k => trivial) ⟨rfl, rfl⟩
                · refine Br.mk (fun h11 => ?_) (fun h11 => ?_)
                  · refine CondOb.split (fun h => absurd h (by simp; exact ok.au)) (fun _ => ?_)
                    exact FinOb.mk [.int .i64 0] [] rfl (fun h k => trivial) ⟨rfl, rfl⟩
                  · exact FinOb.mk [.int .i64 0] [] rfl (fun h k => trivial) ⟨rfl, rfl⟩
              · have h6 : q.op ≠ 6 := by simpa using h6
                refine Br.mk (fun _ => ?_) (fun h => absurd h (by simp [h6]))
                refine CondOb.split (fun h => absurd h (by rw [ok.d0 h6]; decide)) (fun _ => ?_)
                refine Br.mk (fun h10 => ?_) (fun h10 => ?_)
                · refine CondOb.split (fun h => absurd h (by simp; exact ok.au)) (fun _ => ?_)
                  exact FinOb.mk [.int .i64 0] [] rfl (fun h k => trivial) ⟨rfl, rfl⟩
                · refine Br.mk (fun h11 => ?_) (fun h11 => ?_)
                  · refine CondOb.split (fun h => absurd h (by simp; exact ok.au)) (fun _ => ?_)
                    exact FinOb.mk [.int .i64 0] [] rfl (fun h k => trivial) ⟨rfl, rfl⟩
                  · exact FinOb.mk [.int .i64 0] [] rfl (fun h k => trivial) ⟨rfl, rfl⟩
        · refine Br.mk (fun h => ?_) (fun h => ?_)
          · have h12 := ok.bf h
            refine CondOb.split (fun h => absurd h (by simp [h12])) (fun _ => ?_)
            refine Br.mk (fun h7 => ?_) (fun h7 => ?_)
            · have h7 : q.op = 7 := by simpa using h7
              have hln := ok.ln h7
              refine Br.mk (fun h => absurd h (by simp; omega)) (fun _ => ?_)
              refine Br.mk (fun h => absurd h (by simp; omega)) (fun _ => ?_)
              refine Br.mk (fun h => absurd h (by simp; omega)) (fun _ => ?_)
              refine Br.mk (fun h6 => ?_) (fun h6 => ?_)
              · have h6 : q.op = 6 := by simpa using h6
                refine Br.mk (fun h => absurd h (by have := ok.d6 h6; simp; omega)) (fun _ => ?_)
                refine Br.mk (fun h => absurd h (by simp [h6])) (fun _ => ?_)
                refine Br.mk (fun h10 => ?_) (fun h10 => ?_)
                · refine CondOb.split (fun h => absurd h (by simp; exact ok.au)) (fun _ => ?_)
                  exact FinOb.mk [.int .i64 0] [] rfl (fun h k => trivial) ⟨rfl, rfl⟩
                · refine Br.mk (fun h11 => ?_) (fun h11 => ?_)
                  · refine CondOb.split (fun h => absurd h (by simp; exact ok.au)) (fun _ => ?_)
                    exact FinOb.mk [.int .i64 0] [] rfl (fun h k => trivial) ⟨rfl, rfl⟩
                  · exact FinOb.mk [.int .i64 0] [] rfl (fun h k => trivial) ⟨rfl, rfl⟩
              · have h6 : q.op ≠ 6 := by simpa using h6
                refine Br.mk (fun _ => ?_) (fun h => absurd h (by simp [h6]))
                refine CondOb.split (fun h => absurd h (by rw [ok.d0 h6]; decide)) (fun _ => ?_)
                refine Br.mk (fun h10 => ?_) (fun h10 => ?_)
                · refine CondOb.split (fun h => absurd h (by simp; exact ok.au)) (fun _ => ?_)
                  exact FinOb.mk [.int .i64 0] [] rfl (fun h k => trivial) ⟨rfl, rfl⟩
                · refine Br.mk (fun h11 => ?_) (fun h11 => ?_)
                  · refine CondOb.split (fun h => absurd h (by simp; exact ok.au)) (fun _ => ?_)
                    exact FinOb.mk [.int .i64 0] [] rfl (fun h k => trivial) ⟨rfl, rfl⟩
                  · exact FinOb.mk [.int .i64 0] [] rfl (fun h k => trivial) ⟨rfl, rfl⟩
            · refine Br.mk (fun h6 => ?_) (fun h6 => ?_)
              · have h6 : q.op = 6 := by simpa using h6
                refine Br.mk (fun h => absurd h (by have := ok.d6 h6; simp; omega)) (fun _ => ?_)
                refine Br.mk (fun h => absurd h (by simp [h6])) (fun _ => ?_)
                refine Br.mk (fun h10 => ?_) (fun h10 => ?_)
                · refine CondOb.split (fun h => absurd h (by simp; exact ok.au)) (fun _ => ?_)
                  exact FinOb.mk [.int .i64 0] [] rfl (fun h k => trivial) ⟨rfl, rfl⟩
                · refine Br.mk (fun h11 => ?_) (fun h11 => ?_)
                  · refine CondOb.split (fun h => absurd h (by simp; exact ok.au)) (fun _ => ?_)
                    exact FinOb.mk [.int .i64 0] [] rfl (fun h k => trivial) ⟨rfl, rfl⟩
                  · exact FinOb.mk [.int .i64 0] [] rfl (fun h k => trivial) ⟨rfl, rfl⟩
              · have h6 : q.op ≠ 6 := by simpa using h6
                refine Br.mk (fun _ => ?_) (fun h => absurd h (by simp [h6]))
                refine CondOb.split (fun h => absurd h (by rw [ok.d0 h6]; decide)) (fun _ => ?_)
                refine Br.mk (fun h10 => ?_) (fun h10 => ?_)
                · refine CondOb.split (fun h => absurd h (by simp; exact ok.au)) (fun _ => ?_)
                  exact FinOb.mk [.int .i64 0] [] rfl (fun h k => trivial) ⟨rfl, rfl⟩
                · refine Br.mk (fun h11 => ?_) (fun h11 => ?_)
                  · refine CondOb.split (fun h => absurd h (by simp; exact ok.au)) (fun _ => ?_)
                    exact FinOb.mk [.int .i64 0] [] rfl (fun h k => trivial) ⟨rfl, rfl⟩
                  · exact FinOb.mk [.int .i64 0] [] rfl (fun h k => trivial) ⟨rfl, rfl⟩
          · refine Br.mk (fun h7 => ?_) (fun h7 => ?_)
            · have h7 : q.op = 7 := by simpa using h7
              have hln := ok.ln h7
              refine Br.mk (fun h => absurd h (by simp; omega)) (fun _ => ?_)
              refine Br.mk (fun h => absurd h (by simp; omega)) (fun _ => ?_)
              refine Br.mk (fun h => absurd h (by simp; omega)) (fun _ => ?_)
              refine Br.mk (fun h6 => ?_) (fun h6 => ?_)
              · have h6 : q.op = 6 := by simpa using h6
                refine Br.mk (fun h => absurd h (by have := ok.d6 h6; simp; omega)) (fun _ => ?_)
                refine Br.mk (fun h => absurd h (by simp [h6])) (fun _ => ?_)
                refine Br.mk (fun h10 => ?_) (fun h10 => ?_)
                · refine CondOb.split (fun h => absurd h (by simp; exact ok.au)) (fun _ => ?_)
                  exact FinOb.mk [.int .i64 0] [] rfl (fun h k => trivial) ⟨rfl, rfl⟩
                · refine Br.mk (fun h11 => ?_) (fun h11 => ?_)
                  · refine CondOb.split (fun h => absurd h (by simp; exact ok.au)) (fun _ => ?_)
                    exact FinOb.mk [.int .i64 0] [] rfl (fun h k => trivial) ⟨rfl, rfl⟩
                  · exact FinOb.mk [.int .i64 0] [] rfl (fun h k => trivial) ⟨rfl, rfl⟩
              · have h6 : q.op ≠ 6 := by simpa using h6
                refine Br.mk (fun _ => ?_) (fun h => absurd h (by simp [h6]))
                refine CondOb.split (fun h => absurd h (by rw [ok.d0 h6]; decide)) (fun _ => ?_)
                refine Br.mk (fun h10 => ?_) (fun h10 => ?_)
                · refine CondOb.split (fun h => absurd h (by simp; exact ok.au)) (fun _ => ?_)
                  exact FinOb.mk [.int .i64 0] [] rfl (fun h k => trivial) ⟨rfl, rfl⟩
                · refine Br.mk (fun h11 => ?_) (fun h11 => ?_)
                  · refine CondOb.split (fun h => absurd h (by simp; exact ok.au)) (fun _ => ?_)
                    exact FinOb.mk [.int .i64 0] [] rfl (fun h k => trivial) ⟨rfl, rfl⟩
                  · exact FinOb.mk [.int .i64 0] [] rfl (fun h k => trivial) ⟨rfl, rfl⟩
            · refine Br.mk (fun h6 => ?_) (fun h6 => ?_)
              · have h6 : q.op = 6 := by simpa using h6
                refine Br.mk (fun h => absurd h (by have := ok.d6 h6; simp; omega)) (fun _ => ?_)
                refine Br.mk (fun h => absurd h (by simp [h6])) (fun _ => ?_)
                refine Br.mk (fun h10 => ?_) (fun h10 => ?_)
                · refine CondOb.split (fun h => absurd h (by simp; exact ok.au)) (fun _ => ?_)
                  exact FinOb.mk [.int .i64 0] [] rfl (fun h k => trivial) ⟨rfl, rfl⟩
                · refine Br.mk (fun h11 => ?_) (fun h11 => ?_)
                  · refine CondOb.split (fun h => absurd h (by simp; exact ok.au)) (fun _ => ?_)
                    exact FinOb.mk [.int .i64 0] [] rfl (fun h k => trivial) ⟨rfl, rfl⟩
                  · exact FinOb.mk [.int .i64 0] [] rfl (fun h k => trivial) ⟨rfl, rfl⟩
              · have h6 : q.op ≠ 6 := by simpa using h6
                refine Br.mk (fun _ => ?_) (fun h => absurd h (by simp [h6]))
                refine CondOb.split (fun h => absurd h (by rw [ok.d0 h6]; decide)) (fun _ => ?_)
                refine Br.mk (fun h10 => ?_) (fun h10 => ?_)
                · refine CondOb.split (fun h => absurd h (by simp; exact ok.au)) (fun _ => ?_)
                  exact FinOb.mk [.int .i64 0] [] rfl (fun h k => trivial) ⟨rfl, rfl⟩
                · refine Br.mk (fun h11 => ?_) (fun h11 => ?_)
                  · refine CondOb.split (fun h => absurd h (by simp; exact ok.au)) (fun _ => ?_)
                    exact FinOb.mk [.int .i64 0] [] rfl (fun h k => trivial) ⟨rfl, rfl⟩
                  · exact FinOb.mk [.int .i64 0] [] rfl (fun h k => trivial) ⟨rfl, rfl⟩
      · refine Br.mk (fun hs => ?_) (fun hs => ?_)
        · have h7 := ok.se hs
          refine Br.mk (fun h => absurd h (by simp [h7])) (fun _ => ?_)
          refine Br.mk (fun h => ?_) (fun h => ?_)
          · have h12 := ok.bf h
            refine CondOb.split (fun h => absurd h (by simp [h12])) (fun _ => ?_)
            refine Br.mk (fun h7 => ?_) (fun h7 => ?_)
            · have h7 : q.op = 7 := by simpa using h7
              have hln := ok.ln h7
              refine Br.mk (fun h => absurd h (by simp; omega)) (fun _ => ?_)
              refine Br.mk (fun h => absurd h (by simp; omega)) (fun _ => ?_)
              refine Br.mk (fun h => absurd h (by simp; omega)) (fun _ => ?_)
              refine Br.mk (fun h6 => ?_) (fun h6 => ?_)
              · have h6 : q.op = 6 := by simpa using h6
                refine Br.mk (fun h => absurd h (by have := ok.d6 h6; simp; omega)) (fun _ => ?_)
                refine Br.mk (fun h => absurd h (by simp [h6])) (fun _ => ?_)
                refine Br.mk (fun h10 => ?_) (fun h10 => ?_)
                · refine CondOb.split (fun h => absurd h (by simp; exact ok.au)) (fun _ => ?_)
                  exact FinOb.mk [.int .i64 0] [] rfl (fun h k => trivial) ⟨rfl, rfl⟩
                · refine Br.mk (fun h11 => ?_) (fun h11 => ?_)
                  · refine CondOb.split (fun h => absurd h (by simp; exact ok.au)) (fun _ => ?_)
                    exact FinOb.mk [.int .i64 0] [] rfl (fun h k => trivial) ⟨rfl, rfl⟩
                  · exact FinOb.mk [.int .i64 0] [] rfl (fun h k => trivial) ⟨rfl, rfl⟩
              · have h6 : q.op ≠ 6 := by simpa using h6
                refine Br.mk (fun _ => ?_) (fun h => absurd h (by simp [h6]))
                refine CondOb.split (fun h => absurd h (by rw [ok.d0 h6]; decide)) (fun _ => ?_)
                refine Br.mk (fun h10 => ?_) (fun h10 => ?_)
                · refine CondOb.split (fun h => absurd h (by simp; exact ok.au)) (fun _ => ?_)
                  exact FinOb.mk [.int .i64 0] [] rfl (fun h k => trivial) ⟨rfl, rfl⟩
                · refine Br.mk (fun h11 => ?_) (fun h11 => ?_)
                  · refine CondOb.split (fun h => absurd h (by simp; exact ok.au)) (fun _ => ?_)
                    exact FinOb.mk [.int .i64 0] [] rfl (fun h k => trivial) ⟨rfl, rfl⟩
                  · exact FinOb.mk [.int .i64 0] [] rfl (fun h k => trivial) ⟨rfl, rfl⟩
            · refine Br.mk (fun h6 => ?_) (fun h6 => ?_)
              · have h6 : q.op = 6 := by simpa using h6
                refine Br.mk (fun h => absurd h (by have := ok.d6 h6; simp; omega)) (fun _ => ?_)
                refine Br.mk (fun h => absurd h (by simp [h6])) (fun _ => ?_)
                refine Br.mk (fun h10 => ?_) (fun h10 => ?_)
                · refine CondOb.split (fun h => absurd h (by simp; exact ok.au)) (fun _ => ?_)
                  exact FinOb.mk [.int .i64 0] [] rfl (fun h k => trivial) ⟨rfl, rfl⟩
                · refine Br.mk (fun h11 => ?_) (fun h11 => ?_)
                  · refine CondOb.split (fun h => absurd h (by simp; exact ok.au)) (fun _ => ?_)
                    exact FinOb.mk [.int .i64 0] [] rfl (fun h k => trivial) ⟨rfl, rfl⟩
                  · exact FinOb.mk [.int .i64 0] [] rfl (fun h k => trivial) ⟨rfl, rfl⟩
              · have h6 : q.op ≠ 6 := by simpa using h6
                refine Br.mk (fun _ => ?_) (fun h => absurd h (by simp [h6]))
                refine CondOb.split (fun h => absurd h (by rw [ok.d0 h6]; decide)) (fun _ => ?_)
                refine Br.mk (fun h10 => ?_) (fun h10 => ?_)
                · refine CondOb.split (fun h => absurd h (by simp; exact ok.au)) (fun _ => ?_)
                  exact FinOb.mk [.int .i64 0] [] rfl (fun h k => trivial) ⟨rfl, rfl⟩
                · refine Br.mk (fun h11 => ?_) (fun h11 => ?_)
                  · refine CondOb.split (fun h => absurd h (by simp; exact ok.au)) (fun _ => ?_)
                    exact FinOb.mk [.int .i64 0] [] rfl (fun h k => trivial) ⟨rfl, rfl⟩
                  · exact FinOb.mk [.int .i64 0] [] rfl (fun h k => trivial) ⟨rfl, rfl⟩
          · refine Br.mk (fun h7 => ?_) (fun h7 => ?_)
            · have h7 : q.op = 7 := by simpa using h7
              have hln := ok.ln h7
              refine Br.mk (fun h => absurd h (by simp; omega)) (fun _ => ?_)
              refine Br.mk (fun h => absurd h (by simp; omega)) (fun _ => ?_)
              refine Br.mk (fun h => absurd h (by simp; omega)) (fun _ => ?_)
              refine Br.mk (fun h6 => ?_) (fun h6 => ?_)
              · have h6 : q.op = 6 := by simpa using h6
                refine Br.mk (fun h => absurd h (by have := ok.d6 h6; simp; omega)) (fun _ => ?_)
                refine Br.mk (fun h => absurd h (by simp [h6])) (fun _ => ?_)
                refine Br.mk (fun h10 => ?_) (fun h10 => ?_)
                · refine CondOb.split (fun h => absurd h (by simp; exact ok.au)) (fun _ => ?_)
                  exact FinOb.mk [.int .i64 0] [] rfl (fun h k => trivial) ⟨rfl, rfl⟩
                · refine Br.mk (fun h11 => ?_) (fun h11 => ?_)
                  · refine CondOb.split (fun h => absurd h (by simp; exact ok.au)) (fun _ => ?_)
                    exact FinOb.mk [.int .i64 0] [] rfl (fun h k => trivial) ⟨rfl, rfl⟩
                  · exact FinOb.mk [.int .i64 0] [] rfl (fun h k => trivial) ⟨rfl, rfl⟩
              · have h6 : q.op ≠ 6 := by simpa using h6
                refine Br.mk (fun _ => ?_) (fun h => absurd h (by simp [h6]))
                refine CondOb.split (fun h => absurd h (by rw [ok.d0 h6]; decide)) (fun _ => ?_)
                refine Br.mk (fun h10 => ?_) (fun h10 => ?_)
                · refine CondOb.split (fun h => absurd h (by simp; exact ok.au)) (fun _ => ?_)
                  exact FinOb.mk [.int .i64 0] [] rfl (fun h k => trivial) ⟨rfl, rfl⟩
                · refine Br.mk (fun h11 => ?_) (fun h11 => ?_)
                  · refine CondOb.split (fun h => absurd h (by simp; exact ok.au)) (fun _ => ?_)
                    exact FinOb.mk [.int .i64 0] [] rfl (fun h k => trivial) ⟨rfl, rfl⟩
                  · exact FinOb.mk [.int .i64 0] [] rfl (fun h k => trivial) ⟨rfl, rfl⟩
            · refine Br.mk (fun h6 => ?_) (fun h6 => ?_)
              · have h6 : q.op = 6 := by simpa using h6
                refine Br.mk (fun h => absurd h (by have := ok.d6 h6; simp; omega)) (fun _ => ?_)
                refine Br.mk (fun h => absurd h (by simp [h6])) (fun _ => ?_)
                refine Br.mk (fun h10 => ?_) (fun h10 => ?_)
                · refine CondOb.split (fun h => absurd h (by simp; exact ok.au)) (fun _ => ?_)
                  exact FinOb.mk [.int .i64 0] [] rfl (fun h k => trivial) ⟨rfl, rfl⟩
                · refine Br.mk (fun h11 => ?_) (fun h11 => ?_)
                  · refine CondOb.split (fun h => absurd h (by simp; exact ok.au)) (fun _ => ?_)
                    exact FinOb.mk [.int .i64 0] [] rfl (fun h k => trivial) ⟨rfl, rfl⟩
                  · exact FinOb.mk [.int .i64 0] [] rfl (fun h k => trivial) ⟨rfl, rfl⟩
              · have h6 : q.op ≠ 6 := by simpa using h6
                refine Br.mk (fun _ => ?_) (fun h => absurd h (by simp [h6]))
                refine CondOb.split (fun h => absurd h (by rw [ok.d0 h6]; decide)) (fun _ => ?_)
                refine Br.mk (fun h10 => ?_) (fun h10 => ?_)
                · refine CondOb.split (fun h => absurd h (by simp; exact ok.au)) (fun _ => ?_)
                  exact FinOb.mk [.int .i64 0] [] rfl (fun h k => trivial) ⟨rfl, rfl⟩
                · refine Br.mk (fun h11 => ?_) (fun h11 => ?_)
                  · refine CondOb.split (fun h => absurd h (by simp; exact ok.au)) (fun _ => ?_)
                    exact FinOb.mk [.int .i64 0] [] rfl (fun h k => trivial) ⟨rfl, rfl⟩
                  · exact FinOb.mk [.int .i64 0] [] rfl (fun h k => trivial) ⟨rfl, rfl⟩
        · refine Br.mk (fun h => ?_) (fun h => ?_)
          · have h12 := ok.bf h
            refine CondOb.split (fun h => absurd h (by simp [h12])) (fun _ => ?_)
            refine Br.mk (fun h7 => ?_) (fun h7 => ?_)
            · have h7 : q.op = 7 := by simpa using h7
              have hln := ok.ln h7
              refine Br.mk (fun h => absurd h (by simp; omega)) (fun _ => ?_)
              refine Br.mk (fun h => absurd h (by simp; omega)) (fun _ => ?_)
              refine Br.mk (fun h => absurd h (by simp; omega)) (fun _ => ?_)
              refine Br.mk (fun h6 => ?_) (fun h6 => ?_)
              · have h6 : q.op = 6 := by simpa using h6
                refine Br.mk (fun h => absurd h (by have := ok.d6 h6; simp; omega)) (fun _ => ?_)
                refine Br.mk (fun h => absurd h (by simp [h6])) (fun _ => ?_)
                refine Br.mk (fun h10 => ?_) (fun h10 => ?_)
                · refine CondOb.split (fun h => absurd h (by simp; exact ok.au)) (fun _ => ?_)
                  exact FinOb.mk [.int .i64 0] [] rfl (fun h k => trivial) ⟨rfl, rfl⟩
                · refine Br.mk (fun h11 => ?_) (fun h11 => ?_)
                  · refine CondOb.split (fun h => absurd h (by simp; exact ok.au)) (fun _ => ?_)
                    exact FinOb.mk [.int .i64 0] [] rfl (fun h k => trivial) ⟨rfl, rfl⟩
                  · exact FinOb.mk [.int .i64 0] [] rfl (fun h k => trivial) ⟨rfl, rfl⟩
              · have h6 : q.op ≠ 6 := by simpa using h6
                refine Br.mk (fun _ => ?_) (fun h => absurd h (by simp [h6]))
                refine CondOb.split (fun h => absurd h (by rw [ok.d0 h6]; decide)) (fun _ => ?_)
                refine Br.mk (fun h10 => ?_) (fun h10 => ?_)
                · refine CondOb.split (fun h => absurd h (by simp; exact ok.au)) (fun _ => ?_)
                  exact FinOb.mk [.int .i64 0] [] rfl (fun h k => trivial) ⟨rfl, rfl⟩
                · refine Br.mk (fun h11 => ?_) (fun h11 => ?_)
                  · refine CondOb.split (fun h => absurd h (by simp; exact ok.au)) (fun _ => ?_)
                    exact FinOb.mk [.int .i64 0] [] rfl (fun h k => trivial) ⟨rfl, rfl⟩
                  · exact FinOb.mk [.int .i64 0] [] rfl (fun h k => trivial) ⟨rfl, rfl⟩
            · refine Br.mk (fun h6 => ?_) (fun h6 => ?_)
              · have h6 : q.op = 6 := by simpa using h6
                refine Br.mk (fun h => absurd h (by have := ok.d6 h6; simp; omega)) (fun _ => ?_)
                refine Br.mk (fun h => absurd h (by simp [h6])) (fun _ => ?_)
                refine Br.mk (fun h10 => ?_) (fun h10 => ?_)
                · refine CondOb.split (fun h => absurd h (by simp; exact ok.au)) (fun _ => ?_)
                  exact FinOb.mk [.int .i64 0] [] rfl (fun h k => trivial) ⟨rfl, rfl⟩
                · refine Br.mk (fun h11 => ?_) (fun h11 => ?_)
                  · refine CondOb.split (fun h => absurd h (by simp; exact ok.au)) (fun _ => ?_)
                    exact FinOb.mk [.int .i64 0] [] rfl (fun h k => trivial) ⟨rfl, rfl⟩
                  · exact FinOb.mk [.int .i64 0] [] rfl (fun h k => trivial) ⟨rfl, rfl⟩
              · have h6 : q.op ≠ 6 := by simpa using h6
                refine Br.mk (fun _ => ?_) (fun h => absurd h (by simp [h6]))
                refine CondOb.split (fun h => absurd h (by rw [ok.d0 h6]; decide)) (fun _ => ?_)
                refine Br.mk (fun h10 => ?_) (fun h10 => ?_)
                · refine CondOb.split (fun h => absurd h (by simp; exact ok.au)) (fun _ => ?_)
                  exact FinOb.mk [.int .i64 0] [] rfl (fun h k => trivial) ⟨rfl, rfl⟩
                · refine Br.mk (fun h11 => ?_) (fun h11 => ?_)
                  · refine CondOb.split (fun h => absurd h (by simp; exact ok.au)) (fun _ => ?_)
                    exact FinOb.mk [.int .i64 0] [] rfl (fun h k => trivial) ⟨rfl, rfl⟩
                  · exact FinOb.mk [.int .i64 0] [] rfl (fun h k => trivial) ⟨rfl, rfl⟩
          · refine Br.mk (fun h7 => ?_) (fun h7 => ?_)
            · have h7 : q.op = 7 := by simpa using h7
              have hln := ok.ln h7
              refine Br.mk (fun h => absurd h (by simp; omega)) (fun _ => ?_)
              refine Br.mk (fun h => absurd h (by simp; omega)) (fun _ => ?_)
              refine Br.mk (fun h => absurd h (by simp; omega)) (fun _ => ?_)
              refine Br.mk (fun h6 => ?_) (fun h6 => ?_)
              · have h6 : q.op = 6 := by simpa using h6
                refine Br.mk (fun h => absurd h (by have := ok.d6 h6; simp; omega)) (fun _ => ?_)
                refine Br.mk (fun h => absurd h (by simp [h6])) (fun _ => ?_)
                refine Br.mk (fun h10 => ?_) (fun h10 => ?_)
                · refine CondOb.split (fun h => absurd h (by simp; exact ok.au)) (fun _ => ?_)
                  exact FinOb.mk [.int .i64 0] [] rfl (fun h k => trivial) ⟨rfl, rfl⟩
                · refine Br.mk (fun h11 => ?_) (fun h11 => ?_)
                  · refine CondOb.split (fun h => absurd h (by simp; exact ok.au)) (fun _ => ?_)
                    exact FinOb.mk [.int .i64 0] [] rfl (fun h k => trivial) ⟨rfl, rfl⟩
                  · exact FinOb.mk [.int .i64 0] [] rfl (fun h k => trivial) ⟨rfl, rfl⟩
              · have h6 : q.op ≠ 6 := by simpa using h6
                refine Br.mk (fun _ => ?_) (fun h => absurd h (by simp [h6]))
                refine CondOb.split (fun h => absurd h (by rw [ok.d0 h6]; decide)) (fun _ => ?_)
                refine Br.mk (fun h10 => ?_) (fun h10 => ?_)
                · refine CondOb.split (fun h => absurd h (by simp; exact ok.au)) (fun _ => ?_)
                  exact FinOb.mk [.int .i64 0] [] rfl (fun h k => trivial) ⟨rfl, rfl⟩
                · refine Br.mk (fun h11 => ?_) (fun h11 => ?_)
                  · refine CondOb.split (fun h => absurd h (by simp; exact ok.au)) (fun _ => ?_)
                    exact FinOb.mk [.int .i64 0] [] rfl (fun h k => trivial) ⟨rfl, rfl⟩
                  · exact FinOb.mk [.int .i64 0] [] rfl (fun h k => trivial) ⟨rfl, rfl⟩
            · refine Br.mk (fun h6 => ?_) (fun h6 => ?_)
              · have h6 : q.op = 6 := by simpa using h6
                refine Br.mk (fun h => absurd h (by have := ok.d6 h6; simp; omega)) (fun _ => ?_)
                refine Br.mk (fun h => absurd h (by simp [h6])) (fun _ => ?_)
                refine Br.mk (fun h10 => ?_) (fun h10 => ?_)
                · refine CondOb.split (fun h => absurd h (by simp; exact ok.au)) (fun _ => ?_)
                  exact FinOb.mk [.int .i64 0] [] rfl (fun h k => trivial) ⟨rfl, rfl⟩
                · refine Br.mk (fun h11 => ?_) (fun h11 => ?_)
                  · refine CondOb.split (fun h => absurd h (by simp; exact ok.au)) (fun _ => ?_)
                    exact FinOb.mk [.int .i64 0] [] rfl (fun h k => trivial) ⟨rfl, rfl⟩
                  · exact FinOb.mk [.int .i64 0] [] rfl (fun h k => trivial) ⟨rfl, rfl⟩
              · have h6 : q.op ≠ 6 := by simpa using h6
                refine Br.mk (fun _ => ?_) (fun h => absurd h (by simp [h6]))
                refine CondOb.split (fun h => absurd h (by rw [ok.d0 h6]; decide)) (fun _ => ?_)
                refine Br.mk (fun h10 => ?_) (fun h10 => ?_)
                · refine CondOb.split (fun h => absurd h (by simp; exact ok.au)) (fun _ => ?_)
                  exact FinOb.mk [.int .i64 0] [] rfl (fun h k => trivial) ⟨rfl, rfl⟩
                · refine Br.mk (fun h11 => ?_) (fun h11 => ?_)
                  · refine CondOb.split (fun h => absurd h (by simp; exact ok.au)) (fun _ => ?_)
                    exact FinOb.mk [.int .i64 0] [] rfl (fun h k => trivial) ⟨rfl, rfl⟩
                  · exact FinOb.mk [.int .i64 0] [] rfl (fun h k => trivial) ⟨rfl, rfl⟩
    · refine Br.mk (fun hs => ?_) (fun hs => ?_)
      · have h7 := ok.se hs
        refine Br.mk (fun h => absurd h (by simp [h7])) (fun _ => ?_)
        refine Br.mk (fun h => ?_) (fun h => ?_)
        · have h12 := ok.bf h
          refine CondOb.split (fun h => absurd h (by simp [h12])) (fun _ => ?_)
          refine Br.mk (fun h7 => ?_) (fun h7 => ?_)
          · have h7 : q.op = 7 := by simpa using h7
            have hln := ok.ln h7
            refine Br.mk (fun h => absurd h (by simp; omega)) (fun _ => ?_)
            refine Br.mk (fun h => absurd h (by simp; omega)) (fun _ => ?_)
            refine Br.mk (fun h => absurd h (by simp; omega)) (fun _ => ?_)
            refine Br.mk (fun h6 => ?_) (fun h6 => ?_)
            · have h6 : q.op = 6 := by simpa using h6
              refine Br.mk (fun h => absurd h (by have := ok.d6 h6; simp; omega)) (fun _ => ?_)
              refine Br.mk (fun h => absurd h (by simp [h6])) (fun _ => ?_)
              refine Br.mk (fun h10 => ?_) (fun h10 => ?_)
              · refine CondOb.split (fun h => absurd h (by simp; exact ok.au)) (fun _ => ?_)
                exact FinOb.mk [.int .i64 0] [] rfl (fun h k => trivial) ⟨rfl, rfl⟩
              · refine Br.mk (fun h11 => ?_) (fun h11 => ?_)
                · refine CondOb.split (fun h => absurd h (by simp; exact ok.au)) (fun _ => ?_)
                  exact FinOb.mk [.int .i64 0] [] rfl (fun h k => trivial) ⟨rfl, rfl⟩
                · exact FinOb.mk [.int .i64 0] [] rfl (fun h k => trivial) ⟨rfl, rfl⟩
            · have h6 : q.op ≠ 6 := by simpa using h6
              refine Br.mk (fun _ => ?_) (fun h => absurd h (by simp [h6]))
              refine CondOb.split (fun h => absurd h (by rw [ok.d0 h6]; decide)) (fun _ => ?_)
              refine Br.mk (fun h10 => ?_) (fun h10 => ?_)
              · refine CondOb.split (fun h => absurd h (by simp; exact ok.au)) (fun _ => ?_)
                exact FinOb.mk [.int .i64 0] [] rfl (fun h k => trivial) ⟨rfl, rfl⟩
              · refine Br.mk (fun h11 => ?_) (fun h11 => ?_)
                · refine CondOb.split (fun h => absurd h (by simp; exact ok.au)) (fun _ => ?_)
                  exact FinOb.mk [.int .i64 0] [] rfl (fun h k => trivial) ⟨rfl, rfl⟩
                · exact FinOb.mk [.int .i64 0] [] rfl (fun h k => trivial) ⟨rfl, rfl⟩
          · refine Br.mk (fun h6 => ?_) (fun h6 => ?_)
            · have h6 : q.op = 6 := by simpa using h6
              refine Br.mk (fun h => absurd h (by have := ok.d6 h6; simp; omega)) (fun _ => ?_)
              refine Br.mk (fun h => absurd h (by simp [h6])) (fun _ => ?_)
              refine Br.mk (fun h10 => ?_) (fun h10 => ?_)
              · refine CondOb.split (fun h => absurd h (by simp; exact ok.au)) (fun _ => ?_)
                exact FinOb.mk [.int .i64 0] [] rfl (fun h k => trivial) ⟨rfl, rfl⟩
              · refine Br.mk (fun h11 => ?_) (fun h11 => ?_)
                · refine CondOb.split (fun h => absurd h (by simp; exact ok.au)) (fun _ => ?_)
                  exact FinOb.mk [.int .i64 0] [] rfl (fun h k => trivial) ⟨rfl, rfl⟩
                · exact FinOb.mk [.int .i64 0] [] rfl (fun h k => trivial) ⟨rfl, rfl⟩
            · have h6 : q.op ≠ 6 := by simpa using h6
              refine Br.mk (fun _ => ?_) (fun h => absurd h (by simp [h6]))
              refine CondOb.split (fun h => absurd h (by rw [ok.d0 h6]; decide)) (fun _ => ?_)
              refine Br.mk (fun h10 => ?_) (fun h10 => ?_)
              · refine CondOb.split (fun h => absurd h (by simp; exact ok.au)) (fun _ => ?_)
                exact FinOb.mk [.int .i64 0] [] rfl (fun h k => trivial) ⟨rfl, rfl⟩
              · refine Br.mk (fun h11 => ?_) (fun h11 => ?_)
                · refine CondOb.split (fun h => absurd h (by simp; exact ok.au)) (fun _ => ?_)
                  exact FinOb.mk [.int .i64 0] [] rfl (fun h k => trivial) ⟨rfl, rfl⟩
                · exact FinOb.mk [.int .i64 0] [] rfl (fun h k => trivial) ⟨rfl, rfl⟩
        · refine Br.mk (fun h7 => ?_) (fun h7 => ?_)
          · have h7 : q.op = 7 := by simpa using h7
            have hln := ok.ln h7
            refine Br.mk (fun h => absurd h (by simp; omega)) (fun _ => ?_)
            refine Br.mk (fun h => absurd h (by simp; omega)) (fun _ => ?_)
            refine Br.mk (fun h => absurd h (by simp; omega)) (fun _ => ?_)
            refine Br.mk (fun h6 => ?_) (fun h6 => ?_)
            · have h6 : q.op = 6 := by simpa using h6
              refine Br.mk (fun h => absurd h (by have := ok.d6 h6; simp; omega)) (fun _ => ?_)
              refine Br.mk (fun h => absurd h (by simp [h6])) (fun _ => ?_)
              refine Br.mk (fun h10 => ?_) (fun h10 => ?_)
              · refine CondOb.split (fun h => absurd h (by simp; exact ok.au)) (fun _ => ?_)
                exact FinOb.mk [.int .i64 0] [] rfl (fun h k => trivial) ⟨rfl, rfl⟩
              · refine Br.mk (fun h11 => ?_) (fun h11 => ?_)
                · refine CondOb.split (fun h => absurd h (by simp; exact ok.au)) (fun _ => ?_)
                  exact FinOb.mk [.int .i64 0] [] rfl (fun h k => trivial) ⟨rfl, rfl⟩
                · exact FinOb.mk [.int .i64 0] [] rfl (fun h k => trivial) ⟨rfl, rfl⟩
            · have h6 : q.op ≠ 6 := by simpa using h6
              refine Br.mk (fun _ => ?_) (fun h => absurd h (by simp [h6]))
              refine CondOb.split (fun h => absurd h (by rw [ok.d0 h6]; decide)) (fun _ => ?_)
              refine Br.mk (fun h10 => ?_) (fun h10 => ?_)
              · refine CondOb.split (fun h => absurd h (by simp; exact ok.au)) (fun _ => ?_)
                exact FinOb.mk [.int .i64 0] [] rfl (fun h k => trivial) ⟨rfl, rfl⟩
              · refine Br.mk (fun h11 => ?_) (fun h11 => ?_)
                · refine CondOb.split (fun h => absurd h (by simp; exact ok.au)) (fun _ => ?_)
                  exact FinOb.mk [.int .i64 0] [] rfl (fun h k => trivial) ⟨rfl, rfl⟩
                · exact FinOb.mk [.int .i64 0] [] rfl (fun h k => trivial) ⟨rfl, rfl⟩
          · refine Br.mk (fun h6 => ?_) (fun h6 => ?_)
            · have h6 : q.op = 6 := by simpa using h6
              refine Br.mk (fun h => absurd h (by have := ok.d6 h6; simp; omega)) (fun _ => ?_)
              refine Br.mk (fun h => absurd h (by simp [h6])) (fun _ => ?_)
              refine Br.mk (fun h10 => ?_) (fun h10 => ?_)
              · refine CondOb.split (fun h => absurd h (by simp; exact ok.au)) (fun _ => ?_)
                exact FinOb.mk [.int .i64 0] [] rfl (fun h k => trivial) ⟨rfl, rfl⟩
              · refine Br.mk (fun h11 => ?_) (fun h11 => ?_)
                · refine CondOb.split (fun h => absurd h (by simp; exact ok.au)) (fun _ => ?_)
                  exact FinOb.mk [.int .i64 0] [] rfl (fun h k => trivial) ⟨rfl, rfl⟩
                · exact FinOb.mk [.int .i64 0] [] rfl (fun h k => trivial) ⟨rfl, rfl⟩
            · have h6 : q.op ≠ 6 := by simpa using h6
              refine Br.mk (fun _ => ?_) (fun h => absurd h (by simp [h6]))
              refine CondOb.split (fun h => absurd h (by rw [ok.d0 h6]; decide)) (fun _ => ?_)
              refine Br.mk (fun h10 => ?_) (fun h10 => ?_)
              · refine CondOb.split (fun h => absurd h (by simp; exact ok.au)) (fun _ => ?_)
                exact FinOb.mk [.int .i64 0] [] rfl (fun h k => trivial) ⟨rfl, rfl⟩
              · refine Br.mk (fun h11 => ?_) (fun h11 => ?_)
                · refine CondOb.split (fun h => absurd h (by simp; exact ok.au)) (fun _ => ?_)
                  exact FinOb.mk [.int .i64 0] [] rfl (fun h k => trivial) ⟨rfl, rfl⟩
                · exact FinOb.mk [.int .i64 0] [] rfl (fun h k => trivial) ⟨rfl, rfl⟩
      · refine Br.mk (fun h => ?_) (fun h => ?_)
        · have h12 := ok.bf h
          refine CondOb.split (fun h => absurd h (by simp [h12])) (fun _ => ?_)
          refine Br.mk (fun h7 => ?_) (fun h7 => ?_)
          · have h7 : q.op = 7 := by simpa using h7
            have hln := ok.ln h7
            refine Br.mk (fun h => absurd h (by simp; omega)) (fun _ => ?_)
            refine Br.mk (fun h => absurd h (by simp; omega)) (fun _ => ?_)
            refine Br.mk (fun h => absurd h (by simp; omega)) (fun _ => ?_)
            refine Br.mk (fun h6 => ?_) (fun h6 => ?_)
            · have h6 : q.op = 6 := by simpa using h6
              refine Br.mk (fun h => absurd h (by have := ok.d6 h6; simp; omega)) (fun _ => ?_)
              refine Br.mk (fun h => absurd h (by simp [h6])) (fun _ => ?_)
              refine Br.mk (fun h10 => ?_) (fun h10 => ?_)
              · refine CondOb.split (fun h => absurd h (by simp; exact ok.au)) (fun _ => ?_)
                exact FinOb.mk [.int .i64 0] [] rfl (fun h k => trivial) ⟨rfl, rfl⟩
              · refine Br.mk (fun h11 => ?_) (fun h11 => ?_)
                · refine CondOb.split (fun h => absurd h (by simp; exact ok.au)) (fun _ => ?_)
                  exact FinOb.mk [.int .i64 0] [] rfl (fun h k => trivial) ⟨rfl, rfl⟩
                · exact FinOb.mk [.int .i64 0] [] rfl (fun h k => trivial) ⟨rfl, rfl⟩
            · have h6 : q.op ≠ 6 := by simpa using h6
              refine Br.mk (fun _ => ?_) (fun h => absurd h (by simp [h6]))
              refine CondOb.split (fun h => absurd h (by rw [ok.d0 h6]; decide)) (fun _ => ?_)
              refine Br.mk (fun h10 => ?_) (fun h10 => ?_)
              · refine CondOb.split (fun h => absurd h (by simp; exact ok.au)) (fun _ => ?_)
                exact FinOb.mk [.int .i64 0] [] rfl (fun h k => trivial) ⟨rfl, rfl⟩
              · refine Br.mk (fun h11 => ?_) (fun h11 => ?_)
                · refine CondOb.split (fun h => absurd h (by simp; exact ok.au)) (fun _ => ?_)
                  exact FinOb.mk [.int .i64 0] [] rfl (fun h k => trivial) ⟨rfl, rfl⟩
                · exact FinOb.mk [.int .i64 0] [] rfl (fun h k => trivial) ⟨rfl, rfl⟩
          · refine Br.mk (fun h6 => ?_) (fun h6 => ?_)
            · have h6 : q.op = 6 := by simpa using h6
              refine Br.mk (fun h => absurd h (by have := ok.d6 h6; simp; omega)) (fun _ => ?_)
              refine Br.mk (fun h => absurd h (by simp [h6])) (fun _ => ?_)
              refine Br.mk (fun h10 => ?_) (fun h10 => ?_)
              · refine CondOb.split (fun h => absurd h (by simp; exact ok.au)) (fun _ => ?_)
                exact FinOb.mk [.int .i64 0] [] rfl (fun h k => trivial) ⟨rfl, rfl⟩
              · refine Br.mk (fun h11 => ?_) (fun h11 => ?_)
                · refine CondOb.split (fun h => absurd h (by simp; exact ok.au)) (fun _ => ?_)
                  exact FinOb.mk [.int .i64 0] [] rfl (fun h k => trivial) ⟨rfl, rfl⟩
                · exact FinOb.mk [.int .i64 0] [] rfl (fun h k => trivial) ⟨rfl, rfl⟩
            · have h6 : q.op ≠ 6 := by simpa using h6
              refine Br.mk (fun _ => ?_) (fun h => absurd h (by simp [h6]))
              refine CondOb.split (fun h => absurd h (by rw [ok.d0 h6]; decide)) (fun _ => ?_)
              refine Br.mk (fun h10 => ?_) (fun h10 => ?_)
              · refine CondOb.split (fun h => absurd h (by simp; exact ok.au)) (fun _ => ?_)
                exact FinOb.mk [.int .i64 0] [] rfl (fun h k => trivial) ⟨rfl, rfl⟩
              · refine Br.mk (fun h11 => ?_) (fun h11 => ?_)
                · refine CondOb.split (fun h => absurd h (by simp; exact ok.au)) (fun _ => ?_)
                  exact FinOb.mk [.int .i64 0] [] rfl (fun h k => trivial) ⟨rfl, rfl⟩
                · exact FinOb.mk [.int .i64 0] [] rfl (fun h k => trivial) ⟨rfl, rfl⟩
        · refine Br.mk (fun h7 => ?_) (fun h7 => ?_)
          · have h7 : q.op = 7 := by simpa using h7
            have hln := ok.ln h7
            refine Br.mk (fun h => absurd h (by simp; omega)) (fun _ => ?_)
            refine Br.mk (fun h => absurd h (by simp; omega)) (fun _ => ?_)
            refine Br.mk (fun h => absurd h (by simp; omega)) (fun _ => ?_)
            refine Br.mk (fun h6 => ?_) (fun h6 => ?_)
            · have h6 : q.op = 6 := by simpa using h6
              refine Br.mk (fun h => absurd h (by have := ok.d6 h6; simp; omega)) (fun _ => ?_)
              refine Br.mk (fun h => absurd h (by simp [h6])) (fun _ => ?_)
              refine Br.mk (fun h10 => ?_) (fun h10 => ?_)
              · refine CondOb.split (fun h => absurd h (by simp; exact ok.au)) (fun _ => ?_)
                exact FinOb.mk [.int .i64 0] [] rfl (fun h k => trivial) ⟨rfl, rfl⟩
              · refine Br.mk (fun h11 => ?_) (fun h11 => ?_)
                · refine CondOb.split (fun h => absurd h (by simp; exact ok.au)) (fun _ => ?_)
                  exact FinOb.mk [.int .i64 0] [] rfl (fun h k => trivial) ⟨rfl, rfl⟩
                · exact FinOb.mk [.int .i64 0] [] rfl (fun h k => trivial) ⟨rfl, rfl⟩
            · have h6 : q.op ≠ 6 := by simpa using h6
              refine Br.mk (fun _ => ?_) (fun h => absurd h (by simp [h6]))
              refine CondOb.split (fun h => absurd h (by rw [ok.d0 h6]; decide)) (fun _ => ?_)
              refine Br.mk (fun h10 => ?_) (fun h10 => ?_)
              · refine CondOb.split (fun h => absurd h (by simp; exact ok.au)) (fun _ => ?_)
                exact FinOb.mk [.int .i64 0] [] rfl (fun h k => trivial) ⟨rfl, rfl⟩
              · refine Br.mk (fun h11 => ?_) (fun h11 => ?_)
                · refine CondOb.split (fun h => absurd h (by simp; exact ok.au)) (fun _ => ?_)
                  exact FinOb.mk [.int .i64 0] [] rfl (fun h k => trivial) ⟨rfl, rfl⟩
                · exact FinOb.mk [.int .i64 0] [] rfl (fun h k => trivial) ⟨rfl, rfl⟩
          · refine Br.mk (fun h6 => ?_) (fun h6 => ?_)
            · have h6 : q.op = 6 := by simpa using h6
              refine Br.mk (fun h => absurd h (by have := ok.d6 h6; simp; omega)) (fun _ => ?_)
              refine Br.mk (fun h => absurd h (by simp [h6])) (fun _ => ?_)
              refine Br.mk (fun h10 => ?_) (fun h10 => ?_)
              · refine CondOb.split (fun h => absurd h (by simp; exact ok.au)) (fun _ => ?_)
                exact FinOb.mk [.int .i64 0] [] rfl (fun h k => trivial) ⟨rfl, rfl⟩
              · refine Br.mk (fun h11 => ?_) (fun h11 => ?_)
                · refine CondOb.split (fun h => absurd h (by simp; exact ok.au)) (fun _ => ?_)
                  exact FinOb.mk [.int .i64 0] [] rfl (fun h k => trivial) ⟨rfl, rfl⟩
                · exact FinOb.mk [.int .i64 0] [] rfl (fun h k => trivial) ⟨rfl, rfl⟩
            · have h6 : q.op ≠ 6 := by simpa using h6
              refine Br.mk (fun _ => ?_) (fun h => absurd h (by simp [h6]))
              refine CondOb.split (fun h => absurd h (by rw [ok.d0 h6]; decide)) (fun _ => ?_)
              refine Br.mk (fun h10 => ?_) (fun h10 => ?_)
              · refine CondOb.split (fun h => absurd h (by simp; exact ok.au)) (fun _ => ?_)
                exact FinOb.mk [.int .i64 0] [] rfl (fun h k => trivial) ⟨rfl, rfl⟩
              · refine Br.mk (fun h11 => ?_) (fun h11 => ?_)
                · refine CondOb.split (fun h => absurd h (by simp; exact ok.au)) (fun _ => ?_)
                  exact FinOb.mk [.int .i64 0] [] rfl (fun h k => trivial) ⟨rfl, rfl⟩
                · exact FinOb.mk [.int .i64 0] [] rfl (fun h k => trivial) ⟨rfl, rfl⟩
  · refine Br.mk (fun hm => ?_) (fun hm => ?_)
    · have h57 := ok.mu hm
      refine Br.mk (fun h5 => ?_) (fun h5 => ?_)
      · have h5 : q.op ≠ 5 := by simpa using h5
        refine Br.mk (fun h => absurd h (by simp [h57.resolve_left h5])) (fun _ => ?_)
        refine Br.mk (fun hs => ?_) (fun hs => ?_)
        · have h7 := ok.se hs
          refine Br.mk (fun h => absurd h (by simp [h7])) (fun _ => ?_)
          refine Br.mk (fun h => ?_) (fun h => ?_)
          · have h12 := ok.bf h
            refine CondOb.split (fun h => absurd h (by simp [h12])) (fun _ => ?_)
            refine Br.mk (fun h7 => ?_) (fun h7 => ?_)
            · have h7 : q.op = 7 := by simpa using h7
              have hln := ok.ln h7
              refine Br.mk (fun h => absurd h (by simp; omega)) (fun _ => ?_)
              refine Br.mk (fun h => absurd h (by simp; omega)) (fun _ => ?_)
              refine Br.mk (fun h => absurd h (by simp; omega)) (fun _ => ?_)
              refine Br.mk (fun h6 => ?_) (fun h6 => ?_)
              · have h6 : q.op = 6 := by simpa using h6
                refine Br.mk (fun h => absurd h (by have := ok.d6 h6; simp; omega)) (fun _ => ?_)
                refine Br.mk (fun h => absurd h (by simp [h6])) (fun _ => ?_)
                refine Br.mk (fun h10 => ?_) (fun h10 => ?_)
                · refine CondOb.split (fun h => absurd h (by simp; exact ok.au)) (fun _ => ?_)
                  exact FinOb.mk [.int .i64 0] [] rfl (fun h k => trivial) ⟨rfl, rfl⟩
                · refine Br.mk (fun h11 => ?_) (fun h11 => ?_)
                  · refine CondOb.split (fun h => absurd h (by simp; exact ok.au)) (fun _ => ?_)
                    exact FinOb.mk [.int .i64 0] [] rfl (fun h k => trivial) ⟨rfl, rfl⟩
                  · exact FinOb.mk [.int .i64 0] [] rfl (fun h k => trivial) ⟨rfl, rfl⟩
              · have h6 : q.op ≠ 6 := by simpa using h6
                refine Br.mk (fun _ => ?_) (fun h => absurd h (by simp [h6]))
                refine CondOb.split (fun h => absurd h (by rw [ok.d0 h6]; decide)) (fun _ => ?_)
                refine Br.mk (fun h10 => ?_) (fun h10 => ?_)
                · refine CondOb.split (fun h => absurd h (by simp; exact ok.au)) (fun _ => ?_)
                  exact FinOb.mk [.int .i64 0] [] rfl (fun h k => trivial) ⟨rfl, rfl⟩
                · refine Br.mk (fun h11 => ?_) (fun h11 => ?_)
                  · refine CondOb.split (fun h => absurd h (by simp; exact ok.au)) (fun _ => ?_)
                    exact FinOb.mk [.int .i64 0] [] rfl (fun h k => trivial) ⟨rfl, rfl⟩
                  · exact FinOb.mk [.int .i64 0] [] rfl (fun h k => trivial) ⟨rfl, rfl⟩
            · refine Br.mk (fun h6 => ?_) (fun h6 => ?_)
              · have h6 : q.op = 6 := by simpa using h6
                refine Br.mk (fun h => absurd h (by have := ok.d6 h6; simp; omega)) (fun _ => ?_)
                refine Br.mk (fun h => absurd h (by simp [h6])) (fun _ => ?_)
                refine Br.mk (fun h10 => ?_) (fun h10 => ?_)
                · refine CondOb.split (fun h => absurd h (by simp; exact ok.au)) (fun _ => ?_)
                  exact FinOb.mk [.int .i64 0] [] rfl (fun h k => trivial) ⟨rfl, rfl⟩
                · refine Br.mk (fun h11 => ?_) (fun h11 => ?_)
                  · refine CondOb.split (fun h => absurd h (by simp; exact ok.au)) (fun _ => ?_)
                    exact FinOb.mk [.int .i64 0] [] rfl (fun h k => trivial) ⟨rfl, rfl⟩
                  · exact FinOb.mk [.int .i64 0] [] rfl (fun h k => trivial) ⟨rfl, rfl⟩
              · have h6 : q.op ≠ 6 := by simpa using h6
                refine Br.mk (fun _ => ?_) (fun h => absurd h (by simp [h6]))
                refine CondOb.split (fun h => absurd h (by rw [ok.d0 h6]; decide)) (fun _ => ?_)
                refine Br.mk (fun h10 => ?_) (fun h10 => ?_)
                · refine CondOb.split (fun h => absurd h (by simp; exact ok.au)) (fun _ => ?_)
                  exact FinOb.mk [.int .i64 0] [] rfl (fun h k => trivial) ⟨rfl, rfl⟩
                · refine Br.mk (fun h11 => ?_) (fun h11 => ?_)
                  · refine CondOb.split (fun h => absurd h (by simp; exact ok.au)) (fun _ => ?_)
                    exact FinOb.mk [.int .i64 0] [] rfl (fun h k => trivial) ⟨rfl, rfl⟩
                  · exact FinOb.mk [.int .i64 0] [] rfl (fun h k => trivial) ⟨rfl, rfl⟩
          · refine Br.mk (fun h7 => ?_) (fun h7 => ?_)
            · have h7 : q.op = 7 := by simpa using h7
              have hln := ok.ln h7
              refine Br.mk (fun h => absurd h (by simp; omega)) (fun _ => ?_)
              refine Br.mk (fun h => absurd h (by simp; omega)) (fun _ => ?_)
              refine Br.mk (fun h => absurd h (by simp; omega)) (fun _ => ?_)
              refine Br.mk (fun h6 => ?_) (fun h6 => ?_)
              · have h6 : q.op = 6 := by simpa using h6
                refine Br.mk (fun h => absurd h (by have := ok.d6 h6; simp; omega)) (fun _ => ?_)
                refine Br.mk (fun h => absurd h (by simp [h6])) (fun _ => ?_)
                refine Br.mk (fun h10 => ?_) (fun h10 => ?_)
                · refine CondOb.split (fun h => absurd h (by simp; exact ok.au)) (fun _ => ?_)
                  exact FinOb.mk [.int .i64 0] [] rfl (fun h k => trivial) ⟨rfl, rfl⟩
                · refine Br.mk (fun h11 => ?_) (fun h11 => ?_)
                  · refine CondOb.split (fun h => absurd h (by simp; exact ok.au)) (fun _ => ?_)
                    exact FinOb.mk [.int .i64 0] [] rfl (fun h k => trivial) ⟨rfl, rfl⟩
                  · exact FinOb.mk [.int .i64 0] [] rfl (fun h k => trivial) ⟨rfl, rfl⟩
              · have h6 : q.op ≠ 6 := by simpa using h6
                refine Br.mk (fun _ => ?_) (fun h => absurd h (by simp [h6]))
                refine CondOb.split (fun h => absurd h (by rw [ok.d0 h6]; decide)) (fun _ => ?_)
                refine Br.mk (fun h10 => ?_) (fun h10 => ?_)
                · refine CondOb.split (fun h => absurd h (by simp; exact ok.au)) (fun _ => ?_)
                  exact FinOb.mk [.int .i64 0] [] rfl (fun h k => trivial) ⟨rfl, rfl⟩
                · refine Br.mk (fun h11 => ?_) (fun h11 => ?_)
                  · refine CondOb.split (fun h => absurd h (by simp; exact ok.au)) (fun _ => ?_)
                    exact FinOb.mk [.int .i64 0] [] rfl (fun h k => trivial) ⟨rfl, rfl⟩
                  · exact FinOb.mk [.int .i64 0] [] rfl (fun h k => trivial) ⟨rfl, rfl⟩
            · refine Br.mk (fun h6 => ?_) (fun h6 => ?_)
              · have h6 : q.op = 6 := by simpa using h6
                refine Br.mk (fun h => absurd h (by have := ok.d6 h6; simp; omega)) (fun _ => ?_)
                refine Br.mk (fun h => absurd h (by simp [h6])) (fun _ => ?_)
                refine Br.mk (fun h10 => ?_) (fun h10 => ?_)
                · refine CondOb.split (fun h => absurd h (by simp; exact ok.au)) (fun _ => ?_)
                  exact FinOb.mk [.int .i64 0] [] rfl (fun h k => trivial) ⟨rfl, rfl⟩
                · refine Br.mk (fun h11 => ?_) (fun h11 => ?_)
                  · refine CondOb.split (fun h => absurd h (by simp; exact ok.au)) (fun _ => ?_)
                    exact FinOb.mk [.int .i64 0] [] rfl (fun h k => trivial) ⟨rfl, rfl⟩
                  · exact FinOb.mk [.int .i64 0] [] rfl (fun h k => trivial) ⟨rfl, rfl⟩
              · have h6 : q.op ≠ 6 := by simpa using h6
                refine Br.mk (fun _ => ?_) (fun h => absurd h (by simp [h6]))
                refine CondOb.split (fun h => absurd h (by rw [ok.d0 h6]; decide)) (fun _ => ?_)
                refine Br.mk (fun h10 => ?_) (fun h10 => ?_)
                · refine CondOb.split (fun h => absurd h (by simp; exact ok.au)) (fun _ => ?_)
                  exact FinOb.mk [.int .i64 0] [] rfl (fun h k => trivial) ⟨rfl, rfl⟩
                · refine Br.mk (fun h11 => ?_) (fun h11 => ?_)
                  · refine CondOb.split (fun h => absurd h (by simp; exact ok.au)) (fun _ => ?_)
                    exact FinOb.mk [.int .i64 0] [] rfl (fun h k => trivial) ⟨rfl, rfl⟩
                  · exact FinOb.mk [.int .i64 0] [] rfl (fun h k => trivial) ⟨rfl, rfl⟩
        · refine Br.mk (fun h => ?_) (fun h => ?_)
          · have h12 := ok.bf h
            refine CondOb.split (fun h => absurd h (by simp [h12])) (fun _ => ?_)
            refine Br.mk (fun h7 => ?_) (fun h7 => ?_)
            · have h7 : q.op = 7 := by simpa using h7
              have hln := ok.ln h7
              refine Br.mk (fun h => absurd h (by simp; omega)) (fun _ => ?_)
              refine Br.mk (fun h => absurd h (by simp; omega)) (fun _ => ?_)
              refine Br.mk (fun h => absurd h (by simp; omega)) (fun _ => ?_)
              refine Br.mk (fun h6 => ?_) (fun h6 => ?_)
              · have h6 : q.op = 6 := by simpa using h6
                refine Br.mk (fun h => absurd h (by have := ok.d6 h6; simp; omega)) (fun _ => ?_)
                refine Br.mk (fun h => absurd h (by simp [h6])) (fun _ => ?_)
                refine Br.mk (fun h10 => ?_) (fun h10 => ?_)
                · refine CondOb.split (fun h => absurd h (by simp; exact ok.au)) (fun _ => ?_)
                  exact FinOb.mk [.int .i64 0] [] rfl (fun h k => trivial) ⟨rfl, rfl⟩
                · refine Br.mk (fun h11 => ?_) (fun h11 => ?_)
                  · refine CondOb.split (fun h => absurd h (by simp; exact ok.au)) (fun _ => ?_)
                    exact FinOb.mk [.int .i64 0] [] rfl (fun h k => trivial) ⟨rfl, rfl⟩
                  · exact FinOb.mk [.int .i64 0] [] rfl (fun h k => trivial) ⟨rfl, rfl⟩
              · have h6 : q.op ≠ 6 := by simpa using h6
                refine Br.mk (fun _ => ?_) (fun h => absurd h (by simp [h6]))
                refine CondOb.split (fun h => absurd h (by rw [ok.d0 h6]; decide)) (fun _ => ?_)
                refine Br.mk (fun h10 => ?_) (fun h10 => ?_)
                · refine CondOb.split (fun h => absurd h (by simp; exact ok.au)) (fun _ => ?_)
                  exact FinOb.mk [.int .i64 0] [] rfl (fun h k => trivial) ⟨rfl, rfl⟩
                · refine Br.mk (fun h11 => ?_) (fun h11 => ?_)
                  · refine CondOb.split (fun h => absurd h (by simp; exact ok.au)) (fun _ => ?_)
                    exact FinOb.mk [.int .i64 0] [] rfl (fun h k => trivial) ⟨rfl, rfl⟩
                  · exact FinOb.mk [.int .i64 0] [] rfl (fun h k => trivial) ⟨rfl, rfl⟩
            · refine Br.mk (fun h6 => ?_) (fun h6 => ?_)
              · have h6 : q.op = 6 := by simpa using h6
                refine Br.mk (fun h => absurd h (by have := ok.d6 h6; simp; omega)) (fun _ => ?_)
                refine Br.mk (fun h => absurd h (by simp [h6])) (fun _ => ?_)
                refine Br.mk (fun h10 => ?_) (fun h10 => ?_)
                · refine CondOb.split (fun h => absurd h (by simp; exact ok.au)) (fun _ => ?_)
                  exact FinOb.mk [.int .i64 0] [] rfl (fun h k => trivial) ⟨rfl, rfl⟩
                · refine Br.mk (fun h11 => ?_) (fun h11 => ?_)
                  · refine CondOb.split (fun h => absurd h (by simp; exact ok.au)) (fun _ => ?_)
                    exact FinOb.mk [.int .i64 0] [] rfl (fun h k => trivial) ⟨rfl, rfl⟩
                  · exact FinOb.mk [.int .i64 0] [] rfl (fun h k => trivial) ⟨rfl, rfl⟩
              · have h6 : q.op ≠ 6 := by simpa using h6
                refine Br.mk (fun _ => ?_) (fun h => absurd h (by simp [h6]))
                refine CondOb.split (fun h => absurd h (by rw [ok.d0 h6]; decide)) (fun _ => ?_)
                refine Br.mk (fun h10 => ?_) (fun h10 => ?_)
                · refine CondOb.split (fun h => absurd h (by simp; exact ok.au)) (fun _ => ?_)
                  exact FinOb.mk [.int .i64 0] [] rfl (fun h k => trivial) ⟨rfl, rfl⟩
                · refine Br.mk (fun h11 => ?_) (fun h11 => ?_)
                  · refine CondOb.split (fun h => absurd h (by simp; exact ok.au)) (fun _ => ?_)
                    exact FinOb.mk [.int .i64 0] [] rfl (fun h k => trivial) ⟨rfl, rfl⟩
                  · exact FinOb.mk [.int .i64 0] [] rfl (fun h k => trivial) ⟨rfl, rfl⟩
          · refine Br.mk (fun h7 => ?_) (fun h7 => ?_)
            · have h7 : q.op = 7 := by simpa using h7
              have hln := ok.ln h7
              refine Br.mk (fun h => absurd h (by simp; omega)) (fun _ => ?_)
              refine Br.mk (fun h => absurd h (by simp; omega)) (fun _ => ?_)
              refine Br.mk (fun h => absurd h (by simp; omega)) (fun _ => ?_)
              refine Br.mk (fun h6 => ?_) (fun h6 => ?_)
              · have h6 : q.op = 6 := by simpa using h6
                refine Br.mk (fun h => absurd h (by have := ok.d6 h6; simp; omega)) (fun _ => ?_)
                refine Br.mk (fun h => absurd h (by simp [h6])) (fun _ => ?_)
                refine Br.mk (fun h10 => ?_) (fun h10 => ?_)
                · refine CondOb.split (fun h => absurd h (by simp; exact ok.au)) (fun _ => ?_)
                  exact FinOb.mk [.int .i64 0] [] rfl (fun h k => trivial) ⟨rfl, rfl⟩
                · refine Br.mk (fun h11 => ?_) (fun h11 => ?_)
                  · refine CondOb.split (fun h => absurd h (by simp; exact ok.au)) (fun _ => ?_)
                    exact FinOb.mk [.int .i64 0] [] rfl (fun h k => trivial) ⟨rfl, rfl⟩
                  · exact FinOb.mk [.int .i64 0] [] rfl (fun h k => trivial) ⟨rfl, rfl⟩
              · have h6 : q.op ≠ 6 := by simpa using h6
                refine Br.mk (fun _ => ?_) (fun h => absurd h (by simp [h6]))
                refine CondOb.split (fun h => absurd h (by rw [ok.d0 h6]; decide)) (fun _ => ?_)
                refine Br.mk (fun h10 => ?_) (fun h10 => ?_)
                · refine CondOb.split (fun h => absurd h (by simp; exact ok.au)) (fun _ => ?_)
                  exact FinOb.mk [.int .i64 0] [] rfl (fun h k => trivial) ⟨rfl, rfl⟩
                · refine Br.mk (fun h11 => ?_) (fun h11 => ?_)
                  · refine CondOb.split (fun h => absurd h (by simp; exact ok.au)) (fun _ => ?_)
                    exact FinOb.mk [.int .i64 0] [] rfl (fun h k => trivial) ⟨rfl, rfl⟩
                  · exact FinOb.mk [.int .i64 0] [] rfl (fun h k => trivial) ⟨rfl, rfl⟩
            · refine Br.mk (fun h6 => ?_) (fun h6 => ?_)
              · have h6 : q.op = 6 := by simpa using h6
                refine Br.mk (fun h => absurd h (by have := ok.d6 h6; simp; omega)) (fun _ => ?_)
                refine Br.mk (fun h => absurd h (by simp [h6])) (fun _ => ?_)
                refine Br.mk (fun h10 => ?_) (fun h10 => ?_)
                · refine CondOb.split (fun h => absurd h (by simp; exact ok.au)) (fun _ => ?_)
                  exact FinOb.mk [.int .i64 0] [] rfl (fun h k => trivial) ⟨rfl, rfl⟩
                · refine Br.mk (fun h11 => ?_) (fun h11 => ?_)
                  · refine CondOb.split (fun h => absurd h (by simp; exact ok.au)) (fun _ => ?_)
                    exact FinOb.mk [.int .i64 0] [] rfl (fun h k => trivial) ⟨rfl, rfl⟩
                  · exact FinOb.mk [.int .i64 0] [] rfl (fun h k => trivial) ⟨rfl, rfl⟩
              · have h6 : q.op ≠ 6 := by simpa using h6
                refine Br.mk (fun _ => ?_) (fun h => absurd h (by simp [h6]))
                refine CondOb.split (fun h => absurd h (by rw [ok.d0 h6]; decide)) (fun _ => ?_)
                refine Br.mk (fun h10 => ?_) (fun h10 => ?_)
                · refine CondOb.split (fun h => absurd h (by simp; exact ok.au)) (fun _ => ?_)
                  exact FinOb.mk [.int .i64 0] [] rfl (fun h k => trivial) ⟨rfl, rfl⟩
                · refine Br.mk (fun h11 => ?_) (fun h11 => ?_)
                  · refine CondOb.split (fun h => absurd h (by simp; exact ok.au)) (fun _ => ?_)
                    exact FinOb.mk [.int .i64 0] [] rfl (fun h k => trivial) ⟨rfl, rfl⟩
                  · exact FinOb.mk [.int .i64 0] [] rfl (fun h k => trivial) ⟨rfl, rfl⟩
      · refine Br.mk (fun hs => ?_) (fun hs => ?_)
        · have h7 := ok.se hs
          refine Br.mk (fun h => absurd h (by simp [h7])) (fun _ => ?_)
          refine Br.mk (fun h => ?_) (fun h => ?_)
          · have h12 := ok.bf h
            refine CondOb.split (fun h => absurd h (by simp [h12])) (fun _ => ?_)
            refine Br.mk (fun h7 => ?_) (fun h7 => ?_)
            · have h7 : q.op = 7 := by simpa using h7
              have hln := ok.ln h7
              refine Br.mk (fun h => absurd h (by simp; omega)) (fun _ => ?_)
              refine Br.mk (fun h => absurd h (by simp; omega)) (fun _ => ?_)
              refine Br.mk (fun h => absurd h (by simp; omega)) (fun _ => ?_)
              refine Br.mk (fun h6 => ?_) (fun h6 => ?_)
              · have h6 : q.op = 6 := by simpa using h6
                refine Br.mk (fun h => absurd h (by have := ok.d6 h6; simp; omega)) (fun _ => ?_)
                refine Br.mk (fun h => absurd h (by simp [h6])) (fun _ => ?_)
                refine Br.mk (fun h10 => ?_) (fun h10 => ?_)
                · refine CondOb.split (fun h => absurd h (by simp; exact ok.au)) (fun _ => ?_)
                  exact FinOb.mk [.int .i64 0] [] rfl (fun h k => trivial) ⟨rfl, rfl⟩
                · refine Br.mk (fun h11 => ?_) (fun h11 => ?_)
                  · refine CondOb.split (fun h => absurd h (by simp; exact ok.au)) (fun _ => ?_)
                    exact FinOb.mk [.int .i64 0] [] rfl (fun h k => trivial) ⟨rfl, rfl⟩
                  · exact FinOb.mk [.int .i64 0] [] rfl (fun h k => trivial) ⟨rfl, rfl⟩
              · have h6 : q.op ≠ 6 := by simpa using h6
                refine Br.mk (fun _ => ?_) (fun h => absurd h (by simp [h6]))
                refine CondOb.split (fun h => absurd h (by rw [ok.d0 h6]; decide)) (fun _ => ?_)
                refine Br.mk (fun h10 => ?_) (fun h10 => ?_)
                · refine CondOb.split (fun h => absurd h (by simp; exact ok.au)) (fun _ => ?_)
                  exact FinOb.mk [.int .i64 0] [] rfl (fun h k => trivial) ⟨rfl, rfl⟩
                · refine Br.mk (fun h11 => ?_) (fun h11 => ?_)
                  · refine CondOb.split (fun h => absurd h (by simp; exact ok.au)) (fun _ => ?_)
                    exact FinOb.mk [.int .i64 0] [] rfl (fun h k => trivial) ⟨rfl, rfl⟩
                  · exact FinOb.mk [.int .i64 0] [] rfl (fun h k => trivial) ⟨rfl, rfl⟩
            · refine Br.mk (fun h6 => ?_) (fun h6 => ?_)
              · have h6 : q.op = 6 := by simpa using h6
                refine Br.mk (fun h => absurd h (by have := ok.d6 h6; simp; omega)) (fun _ => ?_)
                refine Br.mk (fun h => absurd h (by simp [h6])) (fun _ => ?_)
                refine Br.mk (fun h10 => ?_) (fun h10 => ?_)
                · refine CondOb.split (fun h => absurd h (by simp; exact ok.au)) (fun _ => ?_)
                  exact FinOb.mk [.int .i64 0] [] rfl (fun h k => trivial) ⟨rfl, rfl⟩
                · refine Br.mk (fun h11 => ?_) (fun h11 => ?_)
                  · refine CondOb.split (fun h => absurd h (by simp; exact ok.au)) (fun _ => ?_)
                    exact FinOb.mk [.int .i64 0] [] rfl (fun h k => trivial) ⟨rfl, rfl⟩
                  · exact FinOb.mk [.int .i64 0] [] rfl (fun h k => trivial) ⟨rfl, rfl⟩
              · have h6 : q.op ≠ 6 := by simpa using h6
                refine Br.mk (fun _ => ?_) (fun h => absurd h (by simp [h6]))
                refine CondOb.split (fun h => absurd h (by rw [ok.d0 h6]; decide)) (fun _ => ?_)
                refine Br.mk (fun h10 => ?_) (fun h10 => ?_)
                · refine CondOb.split (fun h => absurd h (by simp; exact ok.au)) (fun _ => ?_)
                  exact FinOb.mk [.int .i64 0] [] rfl (fun h k => trivial) ⟨rfl, rfl⟩
                · refine Br.mk (fun h11 => ?_) (fun h11 => ?_)
                  · refine CondOb.split (fun h => absurd h (by simp; exact ok.au)) (fun _ => ?_)
                    exact FinOb.mk [.int .i64 0] [] rfl (fun h k => trivial) ⟨rfl, rfl⟩
                  · exact FinOb.mk [.int .i64 0] [] rfl (fun h k => trivial) ⟨rfl, rfl⟩
          · refine Br.mk (fun h7 => ?_) (fun h7 => ?_)
            · have h7 : q.op = 7 := by simpa using h7
              have hln := ok.ln h7
              refine Br.mk (fun h => absurd h (by simp; omega)) (fun _ => ?_)
              refine Br.mk (fun h => absurd h (by simp; omega)) (fun _ => ?_)
              refine Br.mk (fun h => absurd h (by simp; omega)) (fun _ => ?_)
              refine Br.mk (fun h6 => ?_) (fun h6 => ?_)
              · have h6 : q.op = 6 := by simpa using h6
                refine Br.mk (fun h => absurd h (by have := ok.d6 h6; simp; omega)) (fun _ => ?_)
                refine Br.mk (fun h => absurd h (by simp [h6])) (fun _ => ?_)
                refine Br.mk (fun h10 => ?_) (fun h10 => ?_)
                · refine CondOb.split (fun h => absurd h (by simp; exact ok.au)) (fun _ => ?_)
                  exact FinOb.mk [.int .i64 0] [] rfl (fun h k => trivial) ⟨rfl, rfl⟩
                · refine Br.mk (fun h11 => ?_) (fun h11 => ?_)
                  · refine CondOb.split (fun h => absurd h (by simp; exact ok.au)) (fun _ => ?_)
                    exact FinOb.mk [.int .i64 0] [] rfl (fun h k => trivial) ⟨rfl, rfl⟩
                  · exact FinOb.mk [.int .i64 0] [] rfl (fun h k => trivial) ⟨rfl, rfl⟩
              · have h6 : q.op ≠ 6 := by simpa using h6
                refine Br.mk (fun _ => ?_) (fun h => absurd h (by simp [h6]))
                refine CondOb.split (fun h => absurd h (by rw [ok.d0 h6]; decide)) (fun _ => ?_)
                refine Br.mk (fun h10 => ?_) (fun h10 => ?_)
                · refine CondOb.split (fun h => absurd h (by simp; exact ok.au)) (fun _ => ?_)
                  exact FinOb.mk [.int .i64 0] [] rfl (fun h k => trivial) ⟨rfl, rfl⟩
                · refine Br.mk (fun h11 => ?_) (fun h11 => ?_)
                  · refine CondOb.split (fun h => absurd h (by simp; exact ok.au)) (fun _ => ?_)
                    exact FinOb.mk [.int .i64 0] [] rfl (fun h k => trivial) ⟨rfl, rfl⟩
                  · exact FinOb.mk [.int .i64 0] [] rfl (fun h k => trivial) ⟨rfl, rfl⟩
            · refine Br.mk (fun h6 => ?_) (fun h6 => ?_)
              · have h6 : q.op = 6 := by simpa using h6
                refine Br.mk (fun h => absurd h (by have := ok.d6 h6; simp; omega)) (fun _ => ?_)
                refine Br.mk (fun h => absurd h (by simp [h6])) (fun _ => ?_)
                refine Br.mk (fun h10 => ?_) (fun h10 => ?_)
                · refine CondOb.split (fun h => absurd h (by simp; exact ok.au)) (fun _ => ?_)
                  exact FinOb.mk [.int .i64 0] [] rfl (fun h k => trivial) ⟨rfl, rfl⟩
                · refine Br.mk (fun h11 => ?_) (fun h11 => ?_)
                  · refine CondOb.split (fun h => absurd h (by simp; exact ok.au)) (fun _ => ?_)
                    exact FinOb.mk [.int .i64 0] [] rfl (fun h k => trivial) ⟨rfl, rfl⟩
                  · exact FinOb.mk [.int .i64 0] [] rfl (fun h k => trivial) ⟨rfl, rfl⟩
              · have h6 : q.op ≠ 6 := by simpa using h6
                refine Br.mk (fun _ => ?_) (fun h => absurd h (by simp [h6]))
                refine CondOb.split (fun h => absurd h (by rw [ok.d0 h6]; decide)) (fun _ => ?_)
                refine Br.mk (fun h10 => ?_) (fun h10 => ?_)
                · refine CondOb.split (fun h => absurd h (by simp; exact ok.au)) (fun _ => ?_)
                  exact FinOb.mk [.int .i64 0] [] rfl (fun h k => trivial) ⟨rfl, rfl⟩
                · refine Br.mk (fun h11 => ?_) (fun h11 => ?_)
                  · refine CondOb.split (fun h => absurd h (by simp; exact ok.au)) (fun _ => ?_)
                    exact FinOb.mk [.int .i64 0] [] rfl (fun h k => trivial) ⟨rfl, rfl⟩
                  · exact FinOb.mk [.int .i64 0] [] rfl (fun h k => trivial) ⟨rfl, rfl⟩
        · refine Br.mk (fun h => ?_) (fun h => ?_)
          · have h12 := ok.bf h
            refine CondOb.split (fun h => absurd h (by simp [h12])) (fun _ => ?_)
            refine Br.mk (fun h7 => ?_) (fun h7 => ?_)
            · have h7 : q.op = 7 := by simpa using h7
              have hln := ok.ln h7
              refine Br.mk (fun h => absurd h (by simp; omega)) (fun _ => ?_)
              refine Br.mk (fun h => absurd h (by simp; omega)) (fun _ => ?_)
              refine Br.mk (fun h => absurd h (by simp; omega)) (fun _ => ?_)
              refine Br.mk (fun h6 => ?_) (fun h6 => ?_)
              · have h6 : q.op = 6 := by simpa using h6
                refine Br.mk (fun h => absurd h (by have := ok.d6 h6; simp; omega)) (fun _ => ?_)
                refine Br.mk (fun h => absurd h (by simp [h6])) (fun _ => ?_)
                refine Br.mk (fun h10 => ?_) (fun h10 => ?_)
                · refine CondOb.split (fun h => absurd h (by simp; exact ok.au)) (fun _ => ?_)
                  exact FinOb.mk [.int .i64 0] [] rfl (fun h k => trivial) ⟨rfl, rfl⟩
                · refine Br.mk (fun h11 => ?_) (fun h11 => ?_)
                  · refine CondOb.split (fun h => absurd h (by simp; exact ok.au)) (fun _ => ?_)
                    exact FinOb.mk [.int .i64 0] [] rfl (fun h k => trivial) ⟨rfl, rfl⟩
                  · exact FinOb.mk [.int .i64 0] [] rfl (fun h k => trivial) ⟨rfl, rfl⟩
              · have h6 : q.op ≠ 6 := by simpa using h6
                refine Br.mk (fun _ => ?_) (fun h => absurd h (by simp [h6]))
                refine CondOb.split (fun h => absurd h (by rw [ok.d0 h6]; decide)) (fun _ => ?_)
                refine Br.mk (fun h10 => ?_) (fun h10 => ?_)
                · refine CondOb.split (fun h => absurd h (by simp; exact ok.au)) (fun _ => ?_)
                  exact FinOb.mk [.int .i64 0] [] rfl (fun h k => trivial) ⟨rfl, rfl⟩
                · refine Br.mk (fun h11 => ?_) (fun h11 => ?_)
                  · refine CondOb.split (fun h => absurd h (by simp; exact ok.au)) (fun _ => ?_)
                    exact FinOb.mk [.int .i64 0] [] rfl (fun h k => trivial) ⟨rfl, rfl⟩
                  · exact FinOb.mk [.int .i64 0] [] rfl (fun h k => trivial) ⟨rfl, rfl⟩
            · refine Br.mk (fun h6 => ?_) (fun h6 => ?_)
              · have h6 : q.op = 6 := by simpa using h6
                refine Br.mk (fun h => absurd h (by have := ok.d6 h6; simp; omega)) (fun _ => ?_)
                refine Br.mk (fun h => absurd h (by simp [h6])) (fun _ => ?_)
                refine Br.mk (fun h10 => ?_) (fun h10 => ?_)
                · refine CondOb.split (fun h => absurd h (by simp; exact ok.au)) (fun _ => ?_)
                  exact FinOb.mk [.int .i64 0] [] rfl (fun h k => trivial) ⟨rfl, rfl⟩
                · refine Br.mk (fun h11 => ?_) (fun h11 => ?_)
                  · refine CondOb.split (fun h => absurd h (by simp; exact ok.au)) (fun _ => ?_)
                    exact FinOb.mk [.int .i64 0] [] rfl (fun h k => trivial) ⟨rfl, rfl⟩
                  · exact FinOb.mk [.int .i64 0] [] rfl (fun h k => trivial) ⟨rfl, rfl⟩
              · have h6 : q.op ≠ 6 := by simpa using h6
                refine Br.mk (fun _ => ?_) (fun h => absurd h (by simp [h6]))
                refine CondOb.split (fun h => absurd h (by rw [ok.d0 h6]; decide)) (fun _ => ?_)
                refine Br.mk (fun h10 => ?_) (fun h10 => ?_)
                · refine CondOb.split (fun h => absurd h (by simp; exact ok.au)) (fun _ => ?_)
                  exact FinOb.mk [.int .i64 0] [] rfl (fun h k => trivial) ⟨rfl, rfl⟩
                · refine Br.mk (fun h11 => ?_) (fun h11 => ?_)
                  · refine CondOb.split (fun h => absurd h (by simp; exact ok.au)) (fun _ => ?_)
                    exact FinOb.mk [.int .i64 0] [] rfl (fun h k => trivial) ⟨rfl, rfl⟩
                  · exact FinOb.mk [.int .i64 0] [] rfl (fun h k => trivial) ⟨rfl, rfl⟩
          · refine Br.mk (fun h7 => ?_) (fun h7 => ?_)
            · have h7 : q.op = 7 := by simpa using h7
              have hln := ok.ln h7
              refine Br.mk (fun h => absurd h (by simp; omega)) (fun _ => ?_)
              refine Br.mk (fun h => absurd h (by simp; omega)) (fun _ => ?_)
              refine Br.mk (fun h => absurd h (by simp; omega)) (fun _ => ?_)
              refine Br.mk (fun h6 => ?_) (fun h6 => ?_)
              · have h6 : q.op = 6 := by simpa using h6
                refine Br.mk (fun h => absurd h (by have := ok.d6 h6; simp; omega)) (fun _ => ?_)
                refine Br.mk (fun h => absurd h (by simp [h6])) (fun _ => ?_)
                refine Br.mk (fun h10 => ?_) (fun h10 => ?_)
                · refine CondOb.split (fun h => absurd h (by simp; exact ok.au)) (fun _ => ?_)
                  exact FinOb.mk [.int .i64 0] [] rfl (fun h k => trivial) ⟨rfl, rfl⟩
                · refine Br.mk (fun h11 => ?_) (fun h11 => ?_)
                  · refine CondOb.split (fun h => absurd h (by simp; exact ok.au)) (fun _ => ?_)
                    exact FinOb.mk [.int .i64 0] [] rfl (fun h k => trivial) ⟨rfl, rfl⟩
                  · exact FinOb.mk [.int .i64 0] [] rfl (fun h k => trivial) ⟨rfl, rfl⟩
              · have h6 : q.op ≠ 6 := by simpa using h6
                refine Br.mk (fun _ => ?_) (fun h => absurd h (by simp [h6]))
                refine CondOb.split (fun h => absurd h (by rw [ok.d0 h6]; decide)) (fun _ => ?_)
                refine Br.mk (fun h10 => ?_) (fun h10 => ?_)
                · refine CondOb.split (fun h => absurd h (by simp; exact ok.au)) (fun _ => ?_)
                  exact FinOb.mk [.int .i64 0] [] rfl (fun h k => trivial) ⟨rfl, rfl⟩
                · refine Br.mk (fun h11 => ?_) (fun h11 => ?_)
                  · refine CondOb.split (fun h => absurd h (by simp; exact ok.au)) (fun _ => ?_)
                    exact FinOb.mk [.int .i64 0] [] rfl (fun h k => trivial) ⟨rfl, rfl⟩
                  · exact FinOb.mk [.int .i64 0] [] rfl (fun h k => trivial) ⟨rfl, rfl⟩
            · refine Br.mk (fun h6 => ?_) (fun h6 => ?_)
              · have h6 : q.op = 6 := by simpa using h6
                refine Br.mk (fun h => absurd h (by have := ok.d6 h6; simp; omega)) (fun _ => ?_)
                refine Br.mk (fun h => absurd h (by simp [h6])) (fun _ => ?_)
                refine Br.mk (fun h10 => ?_) (fun h10 => ?_)
                · refine CondOb.split (fun h => absurd h (by simp; exact ok.au)) (fun _ => ?_)
                  exact FinOb.mk [.int .i64 0] [] rfl (fun h k => trivial) ⟨rfl, rfl⟩
                · refine Br.mk (fun h11 => ?_) (fun h11 => ?_)
                  · refine CondOb.split (fun h => absurd h (by simp; exact ok.au)) (fun _ => ?_)
                    exact FinOb.mk [.int .i64 0] [] rfl (fun h k => trivial) ⟨rfl, rfl⟩
                  · exact FinOb.mk [.int .i64 0] [] rfl (fun h k => trivial) ⟨rfl, rfl⟩
              · have h6 : q.op ≠ 6 := by simpa using h6
                refine Br.mk (fun _ => ?_) (fun h => absurd h (by simp [h6]))
                refine CondOb.split (fun h => absurd h (by rw [ok.d0 h6]; decide)) (fun _ => ?_)
                refine Br.mk (fun h10 => ?_) (fun h10 => ?_)
                · refine CondOb.split (fun h => absurd h (by simp; exact ok.au)) (fun _ => ?_)
                  exact FinOb.mk [.int .i64 0] [] rfl (fun h k => trivial) ⟨rfl, rfl⟩
                · refine Br.mk (fun h11 => ?_) (fun h11 => ?_)
                  · refine CondOb.split (fun h => absurd h (by simp; exact ok.au)) (fun _ => ?_)
                    exact FinOb.mk [.int .i64 0] [] rfl (fun h k => trivial) ⟨rfl, rfl⟩
                  · exact FinOb.mk [.int .i64 0] [] rfl (fun h k => trivial) ⟨rfl, rfl⟩
    · refine Br.mk (fun hs => ?_) (fun hs => ?_)
      · have h7 := ok.se hs
        refine Br.mk (fun h => absurd h (by simp [h7])) (fun _ => ?_)
        refine Br.mk (fun h => ?_) (fun h => ?_)
        · have h12 := ok.bf h
          refine CondOb.split (fun h => absurd h (by simp [h12])) (fun _ => ?_)
          refine Br.mk (fun h7 => ?_) (fun h7 => ?_)
          · have h7 : q.op = 7 := by simpa using h7
            have hln := ok.ln h7
            refine Br.mk (fun h => absurd h (by simp; omega)) (fun _ => ?_)
            refine Br.mk (fun h => absurd h (by simp; omega)) (fun _ => ?_)
            refine Br.mk (fun h => absurd h (by simp; omega)) (fun _ => ?_)
            refine Br.mk (fun h6 => ?_) (fun h6 => ?_)
            · have h6 : q.op = 6 := by simpa using h6
              refine Br.mk (fun h => absurd h (by have := ok.d6 h6; simp; omega)) (fun _ => ?_)
              refine Br.mk (fun h => absurd h (by simp [h6])) (fun _ => ?_)
              refine Br.mk (fun h10 => ?_) (fun h10 => ?_)
              · refine CondOb.split (fun h => absurd h (by simp; exact ok.au)) (fun _ => ?_)
                exact FinOb.mk [.int .i64 0] [] rfl (fun h k => trivial) ⟨rfl, rfl⟩
              · refine Br.mk (fun h11 => ?_) (fun h11 => ?_)
                · refine CondOb.split (fun h => absurd h (by simp; exact ok.au)) (fun _ => ?_)
                  exact FinOb.mk [.int .i64 0] [] rfl (fun h k => trivial) ⟨rfl, rfl⟩
                · exact FinOb.mk [.int .i64 0] [] rfl (fun h k => trivial) ⟨rfl, rfl⟩
            · have h6 : q.op ≠ 6 := by simpa using h6
              refine Br.mk (fun _ => ?_) (fun h => absurd h (by simp [h6]))
              refine CondOb.split (fun h => absurd h (by rw [ok.d0 h6]; decide)) (fun _ => ?_)
              refine Br.mk (fun h10 => ?_) (fun h10 => ?_)
              · refine CondOb.split (fun h => absurd h (by simp; exact ok.au)) (fun _ => ?_)
                exact FinOb.mk [.int .i64 0] [] rfl (fun h k => trivial) ⟨rfl, rfl⟩
              · refine Br.mk (fun h11 => ?_) (fun h11 => ?_)
                · refine CondOb.split (fun h => absurd h (by simp; exact ok.au)) (fun _ => ?_)
                  exact FinOb.mk [.int .i64 0] [] rfl (fun h k => trivial) ⟨rfl, rfl⟩
                · exact FinOb.mk [.int .i64 0] [] rfl (fun h k => trivial) ⟨rfl, rfl⟩
          · refine Br.mk (fun h6 => ?_) (fun h6 => ?_)
            · have h6 : q.op = 6 := by simpa using h6
              refine Br.mk (fun h => absurd h (by have := ok.d6 h6; simp; omega)) (fun _ => ?_)
              refine Br.mk (fun h => absurd h (by simp [h6])) (fun _ => ?_)
              refine Br.mk (fun h10 => ?_) (fun h10 => ?_)
              · refine CondOb.split (fun h => absurd h (by simp; exact ok.au)) (fun _ => ?_)
                exact FinOb.mk [.int .i64 0] [] rfl (fun h k => trivial) ⟨rfl, rfl⟩
              · refine Br.mk (fun h11 => ?_) (fun h11 => ?_)
                · refine CondOb.split (fun h => absurd h (by simp; exact ok.au)) (fun _ => ?_)
                  exact FinOb.mk [.int .i64 0] [] rfl (fun h k => trivial) ⟨rfl, rfl⟩
                · exact FinOb.mk [.int .i64 0] [] rfl (fun h k => trivial) ⟨rfl, rfl⟩
            · have h6 : q.op ≠ 6 := by simpa using h6
              refine Br.mk (fun _ => ?_) (fun h => absurd h (by simp [h6]))
              refine CondOb.split (fun h => absurd h (by rw [ok.d0 h6]; decide)) (fun _ => ?_)
              refine Br.mk (fun h10 => ?_) (fun h10 => ?_)
              · refine CondOb.split (fun h => absurd h (by simp; exact ok.au)) (fun _ => ?_)
                exact FinOb.mk [.int .i64 0] [] rfl (fun h k => trivial) ⟨rfl, rfl⟩
              · refine Br.mk (fun h11 => ?_) (fun h11 => ?_)
                · refine CondOb.split (fun h => absurd h (by simp; exact ok.au)) (fun _ => ?_)
                  exact FinOb.mk [.int .i64 0] [] rfl (fun h k => trivial) ⟨rfl, rfl⟩
                · exact FinOb.mk [.int .i64 0] [] rfl (fun h k => trivial) ⟨rfl, rfl⟩
        · refine Br.mk (fun h7 => ?_) (fun h7 => ?_)
          · have h7 : q.op = 7 := by simpa using h7
            have hln := ok.ln h7
            refine Br.mk (fun h => absurd h (by simp; omega)) (fun _ => ?_)
            refine Br.mk (fun h => absurd h (by simp; omega)) (fun _ => ?_)
            refine Br.mk (fun h => absurd h (by simp; omega)) (fun _ => ?_)
            refine Br.mk (fun h6 => ?_) (fun h6 => ?_)
            · have h6 : q.op = 6 := by simpa using h6
              refine Br.mk (fun h => absurd h (by have := ok.d6 h6; simp; omega)) (fun _ => ?_)
              refine Br.mk (fun h => absurd h (by simp [h6])) (fun _ => ?_)
              refine Br.mk (fun h10 => ?_) (fun h10 => ?_)
              · refine CondOb.split (fun h => absurd h (by simp; exact ok.au)) (fun _ => ?_)
                exact FinOb.mk [.int .i64 0] [] rfl (fun h k => trivial) ⟨rfl, rfl⟩
              · refine Br.mk (fun h11 => ?_) (fun h11 => ?_)
                · refine CondOb.split (fun h => absurd h (by simp; exact ok.au)) (fun _ => ?_)
                  exact FinOb.mk [.int .i64 0] [] rfl (fun h k => trivial) ⟨rfl, rfl⟩
                · exact FinOb.mk [.int .i64 0] [] rfl (fun h k => trivial) ⟨rfl, rfl⟩
            · have h6 : q.op ≠ 6 := by simpa using h6
              refine Br.mk (fun _ => ?_) (fun h => absurd h (by simp [h6]))
              refine CondOb.split (fun h => absurd h (by rw [ok.d0 h6]; decide)) (fun _ => ?_)
              refine Br.mk (fun h10 => ?_) (fun h10 => ?_)
              · refine CondOb.split (fun h => absurd h (by simp; exact ok.au)) (fun _ => ?_)
                exact FinOb.mk [.int .i64 0] [] rfl (fun h k => trivial) ⟨rfl, rfl⟩
              · refine Br.mk (fun h11 => ?_) (fun h11 => ?_)
                · refine CondOb.split (fun h => absurd h (by simp; exact ok.au)) (fun _ => ?_)
                  exact FinOb.mk [.int .i64 0] [] rfl (fun h k => trivial) ⟨rfl, rfl⟩
                · exact FinOb.mk [.int .i64 0] [] rfl (fun h k => trivial) ⟨rfl, rfl⟩
          · refine Br.mk (fun h6 => ?_) (fun h6 => ?_)
            · have h6 : q.op = 6 := by simpa using h6
              refine Br.mk (fun h => absurd h (by have := ok.d6 h6; simp; omega)) (fun _ => ?_)
              refine Br.mk (fun h => absurd h (by simp [h6])) (fun _ => ?_)
              refine Br.mk (fun h10 => ?_) (fun h10 => ?_)
              · refine CondOb.split (fun h => absurd h (by simp; exact ok.au)) (fun _ => ?_)
                exact FinOb.mk [.int .i64 0] [] rfl (fun h k => trivial) ⟨rfl, rfl⟩
              · refine Br.mk (fun h11 => ?_) (fun h11 => ?_)
                · refine CondOb.split (fun h => absurd h (by simp; exact ok.au)) (fun _ => ?_)
                  exact FinOb.mk [.int .i64 0] [] rfl (fun h k => trivial) ⟨rfl, rfl⟩
                · exact FinOb.mk [.int .i64 0] [] rfl (fun h k => trivial) ⟨rfl, rfl⟩
            · have h6 : q.op ≠ 6 := by simpa using h6
              refine Br.mk (fun _ => ?_) (fun h => absurd h (by simp [h6]))
              refine CondOb.split (fun h => absurd h (by rw [ok.d0 h6]; decide)) (fun _ => ?_)
              refine Br.mk (fun h10 => ?_) (fun h10 => ?_)
              · refine CondOb.split (fun h => absurd h (by simp; exact ok.au)) (fun _ => ?_)
                exact FinOb.mk [.int .i64 0] [] rfl (fun h k => trivial) ⟨rfl, rfl⟩
              · refine Br.mk (fun h11 => ?_) (fun h11 => ?_)
                · refine CondOb.split (fun h => absurd h (by simp; exact ok.au)) (fun _ => ?_)
                  exact FinOb.mk [.int .i64 0] [] rfl (fun h k => trivial) ⟨rfl, rfl⟩
                · exact FinOb.mk [.int .i64 0] [] rfl (fun h k => trivial) ⟨rfl, rfl⟩
      · refine Br.mk (fun h => ?_) (fun h => ?_)
        · have h12 := ok.bf h
          refine CondOb.split (fun h => absurd h (by simp [h12])) (fun _ => ?_)
          refine Br.mk (fun h7 => ?_) (fun h7 => ?_)
          · have h7 : q.op = 7 := by simpa using h7
            have hln := ok.ln h7
            refine Br.mk (fun h => absurd h (by simp; omega)) (fun _ => ?_)
            refine Br.mk (fun h => absurd h (by simp; omega)) (fun _ => ?_)
            refine Br.mk (fun h => absurd h (by simp; omega)) (fun _ => ?_)
            refine Br.mk (fun h6 => ?_) (fun h6 => ?_)
            · have h6 : q.op = 6 := by simpa using h6
              refine Br.mk (fun h => absurd h (by have := ok.d6 h6; simp; omega)) (fun _ => ?_)
              refine Br.mk (fun h => absurd h (by simp [h6])) (fun _ => ?_)
              refine Br.mk (fun h10 => ?_) (fun h10 => ?_)
              · refine CondOb.split (fun h => absurd h (by simp; exact ok.au)) (fun _ => ?_)
                exact FinOb.mk [.int .i64 0] [] rfl (fun h k => trivial) ⟨rfl, rfl⟩
              · refine Br.mk (fun h11 => ?_) (fun h11 => ?_)
                · refine CondOb.split (fun h => absurd h (by simp; exact ok.au)) (fun _ => ?_)
                  exact FinOb.mk [.int .i64 0] [] rfl (fun h k => trivial) ⟨rfl, rfl⟩
                · exact FinOb.mk [.int .i64 0] [] rfl (fun h k => trivial) ⟨rfl, rfl⟩
            · have h6 : q.op ≠ 6 := by simpa using h6
              refine Br.mk (fun _ => ?_) (fun h => absurd h (by simp [h6]))
              refine CondOb.split (fun h => absurd h (by rw [ok.d0 h6]; decide)) (fun _ => ?_)
              refine Br.mk (fun h10 => ?_) (fun h10 => ?_)
              · refine CondOb.split (fun h => absurd h (by simp; exact ok.au)) (fun _ => ?_)
                exact FinOb.mk [.int .i64 0] [] rfl (fun h k => trivial) ⟨rfl, rfl⟩
              · refine Br.mk (fun h11 => ?_) (fun h11 => ?_)
                · refine CondOb.split (fun h => absurd h (by simp; exact ok.au)) (fun _ => ?_)
                  exact FinOb.mk [.int .i64 0] [] rfl (fun h k => trivial) ⟨rfl, rfl⟩
                · exact FinOb.mk [.int .i64 0] [] rfl (fun h k => trivial) ⟨rfl, rfl⟩
          · refine Br.mk (fun h6 => ?_) (fun h6 => ?_)
            · have h6 : q.op = 6 := by simpa using h6
              refine Br.mk (fun h => absurd h (by have := ok.d6 h6; simp; omega)) (fun _ => ?_)
              refine Br.mk (fun h => absurd h (by simp [h6])) (fun _ => ?_)
              refine Br.mk (fun h10 => ?_) (fun h10 => ?_)
              · refine CondOb.split (fun h => absurd h (by simp; exact ok.au)) (fun _ => ?_)
                exact FinOb.mk [.int .i64 0] [] rfl (fun h k => trivial) ⟨rfl, rfl⟩
              · refine Br.mk (fun h11 => ?_) (fun h11 => ?_)
                · refine CondOb.split (fun h => absurd h (by simp; exact ok.au)) (fun _ => ?_)
                  exact FinOb.mk [.int .i64 0] [] rfl (fun h k => trivial) ⟨rfl, rfl⟩
                · exact FinOb.mk [.int .i64 0] [] rfl (fun h k => trivial) ⟨rfl, rfl⟩
            · have h6 : q.op ≠ 6 := by simpa using h6
              refine Br.mk (fun _ => ?_) (fun h => absurd h (by simp [h6]))
              refine CondOb.split (fun h => absurd h (by rw [ok.d0 h6]; decide)) (fun _ => ?_)
              refine Br.mk (fun h10 => ?_) (fun h10 => ?_)
              · refine CondOb.split (fun h => absurd h (by simp; exact ok.au)) (fun _ => ?_)
                exact FinOb.mk [.int .i64 0] [] rfl (fun h k => trivial) ⟨rfl, rfl⟩
              · refine Br.mk (fun h11 => ?_) (fun h11 => ?_)
                · refine CondOb.split (fun h => absurd h (by simp; exact ok.au)) (fun _ => ?_)
                  exact FinOb.mk [.int .i64 0] [] rfl (fun h k => trivial) ⟨rfl, rfl⟩
                · exact FinOb.mk [.int .i64 0] [] rfl (fun h k => trivial) ⟨rfl, rfl⟩
        · refine Br.mk (fun h7 => ?_) (fun h7 => ?_)
          · have h7 : q.op = 7 := by simpa using h7
            have hln := ok.ln h7
            refine Br.mk (fun h => absurd h (by simp; omega)) (fun _ => ?_)
            refine Br.mk (fun h => absurd h (by simp; omega)) (fun _ => ?_)
            refine Br.mk (fun h => absurd h (by simp; omega)) (fun _ => ?_)
            refine Br.mk (fun h6 => ?_) (fun h6 => ?_)
            · have h6 : q.op = 6 := by simpa using h6
              refine Br.mk (fun h => absurd h (by have := ok.d6 h6; simp; omega)) (fun _ => ?_)
              refine Br.mk (fun h => absurd h (by simp [h6])) (fun _ => ?_)
              refine Br.mk (fun h10 => ?_) (fun h10 => ?_)
              · refine CondOb.split (fun h => absurd h (by simp; exact ok.au)) (fun _ => ?_)
                exact FinOb.mk [.int .i64 0] [] rfl (fun h k => trivial) ⟨rfl, rfl⟩
              · refine Br.mk (fun h11 => ?_) (fun h11 => ?_)
                · refine CondOb.split (fun h => absurd h (by simp; exact ok.au)) (fun _ => ?_)
                  exact FinOb.mk [.int .i64 0] [] rfl (fun h k => trivial) ⟨rfl, rfl⟩
                · exact FinOb.mk [.int .i64 0] [] rfl (fun h k => trivial) ⟨rfl, rfl⟩
            · have h6 : q.op ≠ 6 := by simpa using h6
              refine Br.mk (fun _ => ?_) (fun h => absurd h (by simp [h6]))
              refine CondOb.split (fun h => absurd h (by rw [ok.d0 h6]; decide)) (fun _ => ?_)
              refine Br.mk (fun h10 => ?_) (fun h10 => ?_)
              · refine CondOb.split (fun h => absurd h (by simp; exact ok.au)) (fun _ => ?_)
                exact FinOb.mk [.int .i64 0] [] rfl (fun h k => trivial) ⟨rfl, rfl⟩
              · refine Br.mk (fun h11 => ?_) (fun h11 => ?_)
                · refine CondOb.split (fun h => absurd h (by simp; exact ok.au)) (fun _ => ?_)
                  exact FinOb.mk [.int .i64 0] [] rfl (fun h k => trivial) ⟨rfl, rfl⟩
                · exact FinOb.mk [.int .i64 0] [] rfl (fun h k => trivial) ⟨rfl, rfl⟩
          · refine Br.mk (fun h6 => ?_) (fun h6 => ?_)
            · have h6 : q.op = 6 := by simpa using h6
              refine Br.mk (fun h => absurd h (by have := ok.d6 h6; simp; omega)) (fun _ => ?_)
              refine Br.mk (fun h => absurd h (by simp [h6])) (fun _ => ?_)
              refine Br.mk (fun h10 => ?_) (fun h10 => ?_)
              · refine CondOb.split (fun h => absurd h (by simp; exact ok.au)) (fun _ => ?_)
                exact FinOb.mk [.int .i64 0] [] rfl (fun h k => trivial) ⟨rfl, rfl⟩
              · refine Br.mk (fun h11 => ?_) (fun h11 => ?_)
                · refine CondOb.split (fun h => absurd h (by simp; exact ok.au)) (fun _ => ?_)
                  exact FinOb.mk [.int .i64 0] [] rfl (fun h k => trivial) ⟨rfl, rfl⟩
                · exact FinOb.mk [.int .i64 0] [] rfl (fun h k => trivial) ⟨rfl, rfl⟩
            · have h6 : q.op ≠ 6 := by simpa using h6
              refine Br.mk (fun _ => ?_) (fun h => absurd h (by simp [h6]))
              refine CondOb.split (fun h => absurd h (by rw [ok.d0 h6]; decide)) (fun _ => ?_)
              refine Br.mk (fun h10 => ?_) (fun h10 => ?_)
              · refine CondOb.split (fun h => absurd h (by simp; exact ok.au)) (fun _ => ?_)
                exact FinOb.mk [.int .i64 0] [] rfl (fun h k => trivial) ⟨rfl, rfl⟩
              · refine Br.mk (fun h11 => ?_) (fun h11 => ?_)
                · refine CondOb.split (fun h => absurd h (by simp; exact ok.au)) (fun _ => ?_)
                  exact FinOb.mk [.int .i64 0] [] rfl (fun h k => trivial) ⟨rfl, rfl⟩
                · exact FinOb.mk [.int .i64 0] [] rfl (fun h k => trivial) ⟨rfl, rfl⟩
end Go.Proofs.Ytlgdagjbphafcaa.Sc
