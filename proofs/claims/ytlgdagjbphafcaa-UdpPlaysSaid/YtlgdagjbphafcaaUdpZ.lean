/- What Meet of a box does. Conditions: none. -/
import Derived.Test.YtlgdagjbphafcaaUdpY
namespace Go.Proofs.Ytlgdagjbphafcaa.Udp
open Go Go.Proofs Sx
set_option maxRecDepth 100000
set_option linter.unusedVariables false

theorem own_stay (x : B) : ∀ {ms : List M} {h : HP}, Own ms h → Own (stay x ms) h
  | [], _, k => k
  | m :: ms, h, k => by
    unfold stay
    rw [List.filter_cons]
    split
    · exact sat_cons (fun h k => k) (fun h k => own_stay x k) k
    · exact own_stay x (sat_tail k)
theorem perm5 {α : Type} (v w x y z : α) : [v, w, x, y, z].Perm [x, v, y, w, z] := by
  refine (List.Perm.cons v (.swap x w [y, z])).trans ?_
  refine (List.Perm.swap x v [w, y, z]).trans ?_
  exact .cons x (.cons v (.swap y w [z]))
theorem del_nil (b c : Nat) (x : B) (lb : Plc) (capb cp : Nat) (h1 : 0 ≤ x.held) (h2 : x.held ≤ 100000000) :
    Does Try.prog 89 #[.slice none 0 cp, .func (.func 90) #[] #[.pointer (some ⟨c, 0, none⟩)]] (fun _ => True) [CapA c b, BoxA b x lb capb]
      (fun v q => v = .slice none 0 cp ∧ q = [CapA c b, BoxA b x lb capb]) := by
  refine Does.of Try.func89 Try.call89 rfl [.raw (.slice none 0 cp), .fn (.func 90) [] [.ptr 2 0]] [(2, .at c 0)] 3 [.asn (CapA c b), .asn (BoxA b x lb capb)] rfl rfl (fun h k => k) (fun f hR => ?_)
  refine call_asn [] [] (ix_spec b c x lb capb none cp [] (by simp) (by simp) (by omega) (by omega)) rfl rfl (fun f' b' hs hk => by intro i v hv; simp [flat] at hv) ?_
  rintro v post (⟨hall, rfl, rfl⟩ | ⟨i, m, hm, _⟩)
  · refine ⟨.int .i64 (-1), _, 3, NmExt.refl _, rfl, _, fun h k => sat_asns k, ?_⟩
    refine CondOb.split (fun _ => ?_) (fun h => absurd h (by decide))
    exact FinOb.mk [.slice none 0 cp] [CapA c b, BoxA b x lb capb] rfl (fun h k => k) ⟨rfl, rfl⟩
  · simp at hm
theorem frameOf {P : Program} {g : FuncId} {vals : Array Value} {pre : List Asn} {Q : Value → List Asn → Prop} (more : List Asn) (h : Does P g vals (fun _ => True) pre Q) : Does P g vals (fun _ => True) (pre ++ more) (fun v q => ∃ q', Q v q' ∧ q = q' ++ more) :=
  ⟨h.enters, fun f w _ hat => by
    obtain ⟨g', hat', b, hb1, hb2⟩ := hat.frame
    refine (h.run g' w trivial hat').mono ?_
    rintro e w' ⟨v, post, he, hp, hq, hs⟩
    exact ⟨v, _, he, hp.unframe hb1 hb2, ⟨post, hq, rfl⟩, hs⟩⟩
theorem del_any (b c : Nat) (x : B) (lb : Plc) (capb : Nat) (l : Plc) (cp : Nat) (ms : List M) (hn : ¬ (l = .nil ∧ ms ≠ [])) (hc : ms.length ≤ cp) (hl : ms.length ≤ 1000) (h0 : ∀ m ∈ ms, m.xs.length ≤ 1000000000) (h1 : 0 ≤ x.held) (h2 : x.held ≤ 100000000) :
    Does Try.prog 89 #[.slice (locAddr 0 l) ms.length cp, .func (.func 90) #[] #[.pointer (some ⟨c, 0, none⟩)]] (fun _ => True) [CapA c b, BoxA b x lb capb, Vec l 37 3 cp (flat ms)]
      (fun v q => v = .slice (locAddr 0 l) (stay x ms).length cp ∧ q = [CapA c b, BoxA b { x with held := x.held - drops x ms } lb capb, Vec l 37 3 cp (flat (stay x ms))]) := by
  cases l with
  | «at» bl ol => exact del_spec b c x lb capb bl ol cp ms hc hl h0 h1 h2
  | nil =>
    have : ms = [] := by
      cases ms with
      | nil => rfl
      | cons => exact absurd ⟨rfl, by simp⟩ hn
    subst this
    refine (frameOf [Vec .nil 37 3 cp (flat [])] (del_nil b c x lb capb cp h1 h2)).mono ?_
    rintro v q ⟨q', ⟨rfl, rfl⟩, rfl⟩
    exact ⟨rfl, by simp [drops, stay]⟩
/-- Who stays behind a meeting. -/
def meet (x : B) (a p : Int) : B :=
  { x with a := a, p := p, ms := stay { x with a := a, p := p } x.ms, held := x.held - drops { x with a := a, p := p } x.ms, lost := x.lost + (x.ms.length - (stay { x with a := a, p := p } x.ms).length) }
theorem meet_spec (b : Nat) (x : B) (l : Plc) (cap : Nat) (a p : Int) (hx : Inv x) (hc : x.ms.length ≤ cap) (hb : ∀ m ∈ x.ms, m.xs.length ≤ 1000000000) :
    Does Try.prog 53 #[.pointer (some ⟨b, 0, none⟩), .agg #[.int .u32 a, .int .u16 p]] (fun _ => True) (Box b x l cap)
      (fun v q => (p = 0 ∧ a ≠ 0 ∧ v = .int .i64 8 ∧ q = Box b x l cap) ∨ (¬ (p = 0 ∧ a ≠ 0) ∧ v = .int .i64 0 ∧ q = Box b (meet x a p) l cap)) := by
  obtain ⟨i1, i2, i3, i4, i5, i6, i7, ic, i8, i9⟩ := hx
  obtain ⟨most, room, xa, xp, held, lost, told, ms⟩ := x
  simp only at *
  by_cases hnil : l = .nil ∧ ms ≠ []
  · refine nope Try.call53 fun h k => ?_
    obtain ⟨_, y, _, _, z, _, _, hv, _⟩ := k
    rcases hv.2 with ⟨_, h2, _⟩ | ⟨b', o', _, _, h1, _⟩
    · have := flat_length ms
      rw [h2] at this
      cases ms with
      | nil => exact hnil.2 rfl
      | cons => simp at this
    · rw [hnil.1] at h1; cases h1
  refine Does.of Try.func53 Try.call53 rfl [.ptr 0 0, .agg [.int .u32 a, .int .u16 p]] [(0, .at b 0), (1, l)] 2 [.blk 0 131 (boxS ⟨most, room, xa, xp, held, lost, told, ms⟩ cap), .vec 1 37 3 cap (flat ms), .asn (Own ms)] rfl rfl
    (fun h => sat_cons (fun h => blk_of rfl rfl) (fun h => sat_cons (fun h => vec_of rfl) (fun h k => k))) (fun f hR => ?_)
  intro b2 b3
  refine Br.mk (fun g1 => ?_) (fun g1 => ?_)
  · refine CondOb.split (fun g2 => ?_) (fun g2 => ?_)
    · refine FinOb.mk [.int .i64 8] (Box b ⟨most, room, xa, xp, held, lost, told, ms⟩ l cap) rfl (fun h k => sat_cons (fun h => blk_to rfl rfl) (fun h k => sat_cons (fun h => vec_to rfl) (fun h k => k) k) (sat_tail (sat_tail k))) (.inl ⟨by simpa using g1, by simpa using g2, rfl, rfl⟩)
    have g : ¬ (p = 0 ∧ a ≠ 0) := by simp at g2; simp [g2]
    refine DrawOb.mk [(6, [0])] (.run [0, 1, 2, 3, 4, 5, 6, 7, 8, 9] .nil) (by kernel_rfl) ?_
    have hlen : ms.length ≤ 64 := by omega
    refine CallOb.mk _ _ rfl _ _ _ (del_any b b2 ⟨most, room, a, p, held, lost, told, ms⟩ l cap l cap ms hnil hc (by omega) hb (by simp only; omega) (by simp only; omega)) [.blk 3 35 [.int .u32 a, .int .u16 p], .asn (Own ms)] (fun h k => ?_) (fun _ _ _ _ => trivial) ?_
    · have k := sat_perm (perm5 _ _ _ _ _) k
      exact sat_cons (fun h k => blk_to rfl rfl k) (fun h k => sat_cons (fun h k => blk_to rfl rfl k) (fun h k => sat_cons (fun h k => vec_to rfl k) (fun h k => k) k) k) k
    rintro v post ⟨rfl, rfl⟩
    refine ⟨.sl 1 0 (stay ⟨most, room, a, p, held, lost, told, ms⟩ ms).length cap, ⟨_, _, _, 4, [.blk 2 26 [.ptr 0 0], .blk 0 131 [.int .i64 most, .int .i64 room, .int .u32 a, .int .u16 p, .sl 1 0 ms.length cap, .int .i64 (held - drops ⟨most, room, a, p, held, lost, told, ms⟩ ms), .int .i64 lost, .int .i64 told], .vec 1 37 3 cap (flat (stay ⟨most, room, a, p, held, lost, told, ms⟩ ms)), .blk 3 35 [.int .u32 a, .int .u16 p], .asn (Own ms)]⟩, ?_, rfl, rfl, NmExt.refl _, rfl, fun h k => ?_⟩
    rotate_left
    · exact sat_cons (fun h k => blk_of rfl rfl k) (fun h k => sat_cons (fun h k => blk_of rfl rfl k) (fun h k => sat_cons (fun h k => vec_of rfl k) (fun h k => k) k) k) k
    refine Need.mk rfl ?_
    refine DrawOb.mk [] (.run [0, 1, 2, 3, 4, 5, 6, 7, 8, 9, 10, 11, 12, 13, 14] .nil) (by kernel_rfl) ?_
    have hsl := List.length_filter_le (fun m : M => lets ⟨most, room, a, p, held, lost, told, ms⟩ m.a m.p) ms
    have e1 : IntKind.i64.wrap (lost + IntKind.i64.wrap ((ms.length : Int) - (stay ⟨most, room, a, p, held, lost, told, ms⟩ ms).length)) = lost + (ms.length - (stay ⟨most, room, a, p, held, lost, told, ms⟩ ms).length) := by
      rw [w64 (x := (ms.length : Int) - _) (by simp only [stay]; omega) (by simp only [stay]; omega)]
      exact w64 (by simp only [stay]; omega) (by simp only [stay]; omega)
    refine FinOb.mk [.int .i64 0] (Box b { meet ⟨most, room, xa, xp, held, lost, told, ms⟩ a p with lost := IntKind.i64.wrap (lost + IntKind.i64.wrap ((ms.length : Int) - (stay ⟨most, room, a, p, held, lost, told, ms⟩ ms).length)) } l cap) rfl (fun h k => ?_) (.inr ⟨g, rfl, by rw [e1]; rfl⟩)
    exact sat_cons (fun h k => blk_to rfl rfl k) (fun h k => sat_cons (fun h k => vec_to rfl k) (fun h k => sat_cons (fun h k => own_stay _ k) (fun h k => sat_nil k) (sat_tail k)) (sat_tail k)) k
  · have g : ¬ (p = 0 ∧ a ≠ 0) := by simp at g1; simp [g1]
    refine DrawOb.mk [(6, [0])] (.run [0, 1, 2, 3, 4, 5, 6, 7, 8, 9] .nil) (by kernel_rfl) ?_
    have hlen : ms.length ≤ 64 := by omega
    refine CallOb.mk _ _ rfl _ _ _ (del_any b b2 ⟨most, room, a, p, held, lost, told, ms⟩ l cap l cap ms hnil hc (by omega) hb (by simp only; omega) (by simp only; omega)) [.blk 3 35 [.int .u32 a, .int .u16 p], .asn (Own ms)] (fun h k => ?_) (fun _ _ _ _ => trivial) ?_
    · have k := sat_perm (perm5 _ _ _ _ _) k
      exact sat_cons (fun h k => blk_to rfl rfl k) (fun h k => sat_cons (fun h k => blk_to rfl rfl k) (fun h k => sat_cons (fun h k => vec_to rfl k) (fun h k => k) k) k) k
    rintro v post ⟨rfl, rfl⟩
    refine ⟨.sl 1 0 (stay ⟨most, room, a, p, held, lost, told, ms⟩ ms).length cap, ⟨_, _, _, 4, [.blk 2 26 [.ptr 0 0], .blk 0 131 [.int .i64 most, .int .i64 room, .int .u32 a, .int .u16 p, .sl 1 0 ms.length cap, .int .i64 (held - drops ⟨most, room, a, p, held, lost, told, ms⟩ ms), .int .i64 lost, .int .i64 told], .vec 1 37 3 cap (flat (stay ⟨most, room, a, p, held, lost, told, ms⟩ ms)), .blk 3 35 [.int .u32 a, .int .u16 p], .asn (Own ms)]⟩, ?_, rfl, rfl, NmExt.refl _, rfl, fun h k => ?_⟩
    rotate_left
    · exact sat_cons (fun h k => blk_of rfl rfl k) (fun h k => sat_cons (fun h k => blk_of rfl rfl k) (fun h k => sat_cons (fun h k => vec_of rfl k) (fun h k => k) k) k) k
    refine Need.mk rfl ?_
    refine DrawOb.mk [] (.run [0, 1, 2, 3, 4, 5, 6, 7, 8, 9, 10, 11, 12, 13, 14] .nil) (by kernel_rfl) ?_
    have hsl := List.length_filter_le (fun m : M => lets ⟨most, room, a, p, held, lost, told, ms⟩ m.a m.p) ms
    have e1 : IntKind.i64.wrap (lost + IntKind.i64.wrap ((ms.length : Int) - (stay ⟨most, room, a, p, held, lost, told, ms⟩ ms).length)) = lost + (ms.length - (stay ⟨most, room, a, p, held, lost, told, ms⟩ ms).length) := by
      rw [w64 (x := (ms.length : Int) - _) (by simp only [stay]; omega) (by simp only [stay]; omega)]
      exact w64 (by simp only [stay]; omega) (by simp only [stay]; omega)
    refine FinOb.mk [.int .i64 0] (Box b { meet ⟨most, room, xa, xp, held, lost, told, ms⟩ a p with lost := IntKind.i64.wrap (lost + IntKind.i64.wrap ((ms.length : Int) - (stay ⟨most, room, a, p, held, lost, told, ms⟩ ms).length)) } l cap) rfl (fun h k => ?_) (.inr ⟨g, rfl, by rw [e1]; rfl⟩)
    exact sat_cons (fun h k => blk_to rfl rfl k) (fun h k => sat_cons (fun h k => vec_to rfl k) (fun h k => sat_cons (fun h k => own_stay _ k) (fun h k => sat_nil k) (sat_tail k)) (sat_tail k)) k
end Go.Proofs.Ytlgdagjbphafcaa.Udp
