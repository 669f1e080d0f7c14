/- A region that draws its order: a plan of one order serves every order. Conditions: none. -/
import Derived.Test.YtiknkeakielncaaE10
namespace Sx
open Go

/-- Some cells of the memory: block, place, what they hold. -/
abbrev Cells := Nat × Nat × List Value
def LiesC (w : World) (c : Cells) : Prop := Lies w c.1 c.2.1 c.2.2
/-- Does operation j keep what operation i has read? (a plan's word) -/
abbrev Keep := Nat → Nat → Bool

section
variable {ro : Option Nat} {P : Program} {ops : Array Oper} {Q : Act → World → Prop} {kp : Keep}

def noExit : Exit → Act → World → Prop := fun _ _ _ => False
/-- Operation j, and it keeps the cells of 'g' that it must keep. -/
def opG (ro : Option Nat) (P : Program) (ops : Array Oper) (kp : Keep) (g : List (Nat × Cells)) (j : Nat) (K : Act → World → Prop) (a : Act) (w : World) : Prop :=
  match ops[j]? with
  | none => K a w
  | some o => if Region.wanted o (yielded ops a.tmps) then wpR ro P o a w (fun a' w' => (∀ e ∈ g, kp j e.1 = true → LiesC w e.2 → LiesC w' e.2) ∧ K a' w') noExit else K (a.put o.dst undef) w
def anyG (ro : Option Nat) (P : Program) (ops : Array Oper) (kp : Keep) (Q : Act → World → Prop) (g : List (Nat × Cells)) : Nat → Array Bool → Act → World → Prop
  | 0, listed, a, w => Region.ready .any ops listed = [] ∧ Q a w
  | n + 1, listed, a, w => (Region.ready .any ops listed = [] → Q a w) ∧ ∀ j ∈ Region.ready .any ops listed, opG ro P ops kp g j (anyG ro P ops kp Q g n (listed.setIfInBounds j true)) a w
theorem opG_mono {g g' : List (Nat × Cells)} {j : Nat} {K K' : Act → World → Prop} {a : Act} {w : World} (hg : ∀ e ∈ g', e ∈ g) (hk : ∀ a w, K a w → K' a w) (h : opG ro P ops kp g j K a w) : opG ro P ops kp g' j K' a w := by
  unfold opG at *
  split
  · rename_i e; rw [e] at h; exact hk _ _ h
  · rename_i o e
    rw [e] at h
    simp only at h
    split
    · rename_i hw; rw [if_pos hw] at h
      exact wp_weak h fun a' w' ⟨h1, h2⟩ => ⟨fun e he => h1 e (hg e he), hk _ _ h2⟩
    · rename_i hw; rw [if_neg hw] at h
      exact hk _ _ h
theorem anyG_mono {g g' : List (Nat × Cells)} (hg : ∀ e ∈ g', e ∈ g) : ∀ (n : Nat) (listed : Array Bool) (a : Act) (w : World), anyG ro P ops kp Q g n listed a w → anyG ro P ops kp Q g' n listed a w
  | 0, _, _, _, h => h
  | n + 1, _, _, _, h => ⟨h.1, fun j hj => opG_mono hg (fun a w => anyG_mono hg n _ a w) (h.2 j hj)⟩
theorem anyG_any {Q' : Exit → Act → World → Prop} (hq : ∀ a w, Q a w → Q' .normal a w) : ∀ (n : Nat) (g : List (Nat × Cells)) (listed : Array Bool) (a : Act) (w : World), anyG ro P ops kp Q g n listed a w → wpAnyIn (Fc ro) 0 P .any ops Q' n listed a w
  | 0, g, _, _, _, h => ⟨h.1, hq _ _ h.2⟩
  | n + 1, g, listed, a, w, h => ⟨fun e => hq _ _ (h.1 e), fun j hj => by
      have := h.2 j hj
      unfold opG at this
      unfold wpOpIn
      split
      · rename_i e; rw [e] at this; exact anyG_any hq n g _ _ _ this
      · rename_i o e
        rw [e] at this
        simp only at this
        split
        · rename_i hw
          rw [if_pos hw] at this
          refine wpR_in ⟨this.1, ?_⟩
          have this := this.2
          generalize (execOp a.eval o).run P w = x at *
          cases x with
          | ok m w' =>
            cases m <;> simp only [Oper.uponIn] at this ⊢ <;> first
              | exact anyG_any hq n g _ _ _ this.2
              | exact this.elim
              | (refine ⟨this.1, CallsIn.mono this.2 ?_⟩; rintro e w'' hh; cases e <;> first | exact anyG_any hq n g _ _ _ hh.2 | exact hh.elim | (obtain ⟨_, _, hh⟩ := hh; exact hh.elim))
              | (refine ⟨this.1, RowsIn.mono this.2 ?_⟩; intro v w'' hh; exact anyG_any hq n g _ _ _ hh.2)
              | (refine ⟨this.1, RoundIn.mono this.2 ?_⟩; rintro e w'' hh; cases e <;> first | exact anyG_any hq n g _ _ _ hh.2 | exact hh.elim | (obtain ⟨_, _, hh⟩ := hh; exact hh.elim))
          | halt x w' => cases x <;> simp only [Oper.uponIn] at this ⊢ <;> exact this.elim
        · rename_i hw; rw [if_neg hw] at this; exact ⟨fun _ _ => trivial, anyG_any hq n g _ _ _ this⟩⟩

/-- In state 'a', wherever these cells lie, the operation yields 'v' and leaves the world. -/
def YieldsM (P : Program) (ops : Array Oper) (o : Oper) (v : Value) (cs : List Cells) (a : Act) : Prop :=
  (Region.wanted o (yielded ops a.tmps) = true ∧ (∀ c, o.op ≠ .defer c) ∧ ∀ w, (∀ c ∈ cs, LiesC w c) → (execOp a.eval o).run P w = .ok (.value v) w) ∨ (Region.wanted o (yielded ops a.tmps) = false ∧ v = undef)
theorem YieldsM.of_same {o : Oper} {v : Value} {cs : List Cells} {a a' : Act} (h : YieldsM P ops o v cs a) (he : execOp a'.eval o = execOp a.eval o) (hw : Region.wanted o (yielded ops a'.tmps) = Region.wanted o (yielded ops a.tmps)) : YieldsM P ops o v cs a' := by
  unfold YieldsM at *; rw [he, hw]; exact h
theorem YieldsM.of_tmps {o : Oper} {v : Value} {cs : List Cells} {a a' : Act} (h : YieldsM P ops o v cs a) (e : a'.tmps = a.tmps) : YieldsM P ops o v cs a' :=
  h.of_same (by rw [show a'.eval = a.eval from by funext x; cases x <;> simp [Act.eval, e]]) (by rw [e])
theorem YieldsM.opG {o : Oper} {v : Value} {cs : List Cells} {a : Act} {w : World} {i : Nat} {g : List (Nat × Cells)} {K : Act → World → Prop} (h : YieldsM P ops o v cs a) (hi : ops[i]? = some o) (hl : ∀ c ∈ cs, LiesC w c) (k : K (a.put o.dst v) w) : Sx.opG ro P ops kp g i K a w := by
  unfold Sx.opG
  rw [hi]
  simp only
  rcases h with ⟨hw, hd, hr⟩ | ⟨hw, rfl⟩
  · rw [if_pos hw]
    exact wp_value hd (hr w hl) ⟨fun _ _ _ h => h, k⟩
  · rw [if_neg (by rw [hw]; simp)]; exact k

/-- Another operation, apart from this one: the one's value may lie there already, or not yet. -/
theorem opG_put {g : List (Nat × Cells)} {i j : Nat} {oi oj : Oper} {v : Value} {cs : List Cells} (hj : ops[j]? = some oj) (hap : oi.apart ops oj = true) (hsi : ∀ c b, oi.op ≠ .select c b) (hsj : ∀ c b, oj.op ≠ .select c b)
    (hk : kp j i = true) {K : Act → World → Prop} {a : Act} {w : World} (hy : YieldsM P ops oi v cs a) (hl : ∀ c ∈ cs, LiesC w c) (h : opG ro P ops kp (cs.map (fun c => (i, c)) ++ g) j K (a.put oi.dst v) w) :
    opG ro P ops kp g j (fun a' w' => YieldsM P ops oi v cs a' ∧ (∀ c ∈ cs, LiesC w' c) ∧ K (a'.put oi.dst v) w') a w := by
  obtain ⟨h1, h2, h3⟩ := Oper.apart_spec hap
  have keep : ∀ u, YieldsM P ops oi v cs (a.put oj.dst u) := fun u => hy.of_same (execOp_put oi hsi a oj.dst u h3) (wanted_put oi a oj.dst u h3)
  have swap : ∀ u, (a.put oi.dst v).put oj.dst u = (a.put oj.dst u).put oi.dst v := fun u => Act.put_comm a v u h2
  have hcs : ∀ w', (∀ e ∈ cs.map (fun c => (i, c)) ++ g, kp j e.1 = true → LiesC w e.2 → LiesC w' e.2) → ∀ c ∈ cs, LiesC w' c := fun w' hp c hc => hp (i, c) (List.mem_append_left _ (List.mem_map.2 ⟨c, hc, rfl⟩)) hk (hl c hc)
  unfold opG at *
  rw [hj] at h ⊢
  simp only at h ⊢
  rw [wanted_put oj a oi.dst v h1] at h
  split
  · rename_i hw
    rw [if_pos hw] at h
    refine ⟨h.1, ?_⟩
    have h := h.2
    rw [execOp_put oj hsj a oi.dst v h1] at h
    generalize (execOp a.eval oj).run P w = x at *
    cases x with
    | ok m w' =>
      cases m <;> simp only [Oper.uponIn] at h ⊢
      case value u => exact ⟨fun e he => h.1 e (List.mem_append_right _ he), keep u, hcs _ h.1, by rw [← swap u]; exact h.2⟩
      case skip => exact ⟨fun e he => h.1 e (List.mem_append_right _ he), keep undef, hcs _ h.1, by rw [← swap undef]; exact h.2⟩
      case defer d =>
        refine ⟨fun e he => h.1 e (List.mem_append_right _ he), ?_, hcs _ h.1, ?_⟩
        · exact (keep undef).of_tmps (by cases oj.dst <;> rfl)
        · have := h.2
          rw [Act.put_defers] at this
          have e : (({ a with defers := d :: a.defers } : Act).put oi.dst v).put oj.dst undef = (({ a with defers := d :: a.defers } : Act).put oj.dst undef).put oi.dst v := Act.put_comm _ v undef h2
          rw [← e]; exact this
      case enter f args =>
        refine ⟨h.1, CallsIn.mono h.2 ?_⟩
        rintro e w'' hh
        cases e with
        | returned u => exact ⟨fun e he => hh.1 e (List.mem_append_right _ he), keep u, hcs _ hh.1, by rw [← swap u]; exact hh.2⟩
        | panicked c => exact hh
        | outgrown => exact hh
      case round l f tmps assign body =>
        refine ⟨h.1, RoundIn.mono h.2 ?_⟩
        rintro e w'' hh
        cases e with
        | returned u => exact ⟨fun e he => hh.1 e (List.mem_append_right _ he), keep u, hcs _ hh.1, by rw [← swap u]; exact hh.2⟩
        | panicked c => exact hh
        | outgrown => exact hh
      case row r args =>
        refine ⟨h.1, RowsIn.mono h.2 ?_⟩
        rintro u w'' hh
        exact ⟨fun e he => hh.1 e (List.mem_append_right _ he), keep u, hcs _ hh.1, by rw [← swap u]; exact hh.2⟩
      all_goals exact h.elim
    | halt x w' => cases x <;> simp only [Oper.uponIn] at h ⊢ <;> exact h.elim
  · rename_i hw
    rw [if_neg hw] at h
    exact ⟨keep undef, hl, by rw [← swap undef]; exact h⟩

/-- What a set of blocked operations is: the one, and what waits for a blocked one. -/
structure Blocked (ops : Array Oper) (listed : Array Bool) (i : Nat) (B : Nat → Bool) : Prop where
  self : B i = true
  waits : ∀ j, B j = true → j = i ∨ ∃ o, ops[j]? = some o ∧ ∃ e ∈ o.after, Region.binds .any e = true ∧ B e.on = true
  un : ∀ j, B j = true → j < listed.size ∧ listed.getD j true = false
theorem Blocked.ready {listed : Array Bool} {i j : Nat} {B : Nat → Bool} (h : Blocked ops listed i B) (hr : j ∈ Region.ready .any ops listed) (hji : j ≠ i) : B j = false := by
  cases e : B j with
  | false => rfl
  | true =>
    rcases h.waits j e with rfl | ⟨o, ho, d, hd, hb, hB⟩
    · exact absurd rfl hji
    · obtain ⟨_, o', ho', hall⟩ := mem_ready.1 hr
      rw [ho] at ho'; simp only [Option.some.injEq] at ho'; subst ho'
      have h1 := hall d hd hb
      obtain ⟨h2, h3⟩ := h.un _ hB
      simp only [Array.getD, h2, dite_true] at h1 h3
      rw [h1] at h3; cases h3
theorem Blocked.set {listed : Array Bool} {i j : Nat} {B : Nat → Bool} (h : Blocked ops listed i B) (hj : B j = false) : Blocked ops (listed.setIfInBounds j true) i B :=
  ⟨h.self, h.waits, fun k hk => by
    obtain ⟨h1, h2⟩ := h.un k hk
    refine ⟨by simpa using h1, ?_⟩
    have : j ≠ k := fun e => by subst e; rw [hj] at hk; cases hk
    rw [getD_set_ne true this]; exact h2⟩

theorem anyG_first {i : Nat} {oi : Oper} {v : Value} {cs : List Cells} {B : Nat → Bool} (hi : ops[i]? = some oi) (hsel : ∀ (j : Nat) (o : Oper) c b, ops[j]? = some o → o.op ≠ .select c b) :
    ∀ (n : Nat) (g : List (Nat × Cells)) (listed : Array Bool) (a : Act) (w : World),
      (∀ j oj, ops[j]? = some oj → B j = false → listed.getD j true = false → oi.apart ops oj = true ∧ kp j i = true) → Blocked ops listed i B →
      i ∈ Region.ready .any ops listed → YieldsM P ops oi v cs a → (∀ c ∈ cs, LiesC w c) →
      anyG ro P ops kp Q (cs.map (fun c => (i, c)) ++ g) n (listed.setIfInBounds i true) (a.put oi.dst v) w → anyG ro P ops kp Q g (n + 1) listed a w := by
  intro n
  induction n with
  | zero =>
    intro g listed a w hfree hB hr hy hl H
    refine ⟨fun h => (by rw [h] at hr; cases hr), fun j hj => ?_⟩
    by_cases hji : j = i
    · subst hji
      exact hy.opG hi hl (anyG_mono (fun e he => List.mem_append_right _ he) _ _ _ _ H)
    · have := ready_mono hj hji
      rw [H.1] at this
      cases this
  | succ n ih =>
    intro g listed a w hfree hB hr hy hl H
    refine ⟨fun h => (by rw [h] at hr; cases hr), fun j hj => ?_⟩
    by_cases hji : j = i
    · subst hji
      exact hy.opG hi hl (anyG_mono (fun e he => List.mem_append_right _ he) _ _ _ _ H)
    · have h1 := H.2 j (ready_mono hj hji)
      have hBj := hB.ready hj hji
      obtain ⟨hjun, oj, hoj, _⟩ := mem_ready.1 hj
      obtain ⟨hap, hk⟩ := hfree j oj hoj hBj hjun
      have h2 := opG_put hoj hap (fun c b => hsel i oi c b hi) (fun c b => hsel j oj c b hoj) hk hy hl h1
      refine opG_mono (fun _ h => h) (fun a' w' h3 => ih g (listed.setIfInBounds j true) a' w' ?_ (hB.set hBj) (ready_mono hr (Ne.symm hji)) h3.1 h3.2.1 ?_) h2
      · intro k ok hk' hBk hun
        refine hfree k ok hk' hBk ?_
        by_cases hjk : j = k
        · subst hjk; exact hjun
        · rw [getD_set_ne true hjk] at hun; exact hun
      · rw [Array.setIfInBounds_comm _ _ hji]
        exact h3.2.2
end
end Sx
