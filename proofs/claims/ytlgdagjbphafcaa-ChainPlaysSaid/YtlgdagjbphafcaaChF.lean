/- The page's example of chain; nil books. Conditions: none. -/
import Derived.Test.YtlgdagjbphafcaaChE
namespace Go.Proofs.Ytlgdagjbphafcaa.Ch
open Go Go.Proofs Sx
set_option maxRecDepth 100000
set_option linter.unusedVariables false

theorem tied_nil : Tied ⟨[], [], none⟩ := ⟨fun i e h => by simp at h⟩
/-- The book of the example, step by step. -/
def b1 : BA := addA ⟨[], [], none⟩ 1 1
def b2 : BA := addA b1 2 2
def b3 : BA := addA b2 3 0
def b4 : BA := readyA b3
def b5 : BA := (doneA b4 1 true).1
def b6 : BA := readyA b5
def b7 : BA := (doneA b6 2 false).1
def tiedB (B : BA) : Bool := (List.range B.es.length).all fun i => match B.es[i]? with
  | some e => match e.behind with
    | some k => decide (k ∈ (B.es.eraseIdx i).map EA.id)
    | none => true
  | none => true
theorem tied_of {B : BA} (h : tiedB B = true) : Tied B := ⟨fun i e he k hk => by
  have hi := (List.getElem?_eq_some_iff.1 he).1
  have := List.all_eq_true.1 h i (by simpa using hi)
  simp only [he, hk, decide_eq_true_eq] at this
  exact this⟩
theorem live_spec : Does Try.prog 47 #[] (fun _ => True) [] (fun v p => v = .bool true ∧ p = []) := by
  refine Does.of Try.func47 Try.call47 rfl [] [] 0 [] rfl rfl (fun h k => k) (fun f hR => ?_)
  refine call_asn (pre := []) [] [] newA_spec rfl rfl (fun _ _ _ _ => trivial) ?_
  rintro v post ⟨bb, mb, rfl, rfl⟩
  refine ⟨.ptr 0 0, [(0, .at bb 0)], 1, NmExt.push rfl, rfl, _, fun h k => sat_asns k, ?_⟩
  refine call_asn [] [] (addA_spec bb mb ⟨[], [], none⟩ 1 1 (by decide) (by decide) (by decide) (by decide)) rfl rfl (fun _ _ _ _ => trivial) ?_
  rintro v post (⟨h, _⟩ | ⟨_, rfl, rfl⟩)
  · exact absurd h (by decide)
  refine ⟨.int .i64 0, _, 1, NmExt.refl _, rfl, _, fun h k => sat_asns k, ?_⟩
  refine call_asn [] [] (addA_spec bb mb b1 2 2 (by decide) (by decide) (by decide) (by decide)) rfl rfl (fun _ _ _ _ => trivial) ?_
  rintro v post (⟨h, _⟩ | ⟨_, rfl, rfl⟩)
  · exact absurd h (by decide)
  refine ⟨.int .i64 0, _, 1, NmExt.refl _, rfl, _, fun h k => sat_asns k, ?_⟩
  refine call_asn [] [] (addA_spec bb mb b2 3 0 (by decide) (by decide) (by decide) (by decide)) rfl rfl (fun _ _ _ _ => trivial) ?_
  rintro v post (⟨h, _⟩ | ⟨_, rfl, rfl⟩)
  · exact absurd h (by decide)
  refine ⟨.int .i64 0, _, 1, NmExt.refl _, rfl, _, fun h k => sat_asns k, ?_⟩
  refine call_asn [] [] (readyA_spec bb mb b3 (by decide)) rfl rfl (fun _ _ _ _ => trivial) ?_
  rintro v post ⟨p1, c1, rfl, rfl⟩
  refine ⟨.raw (.slice (locAddr 0 p1) 1 c1), _, 1, NmExt.refl _, rfl, _, fun h k => sat_asns k, ?_⟩
  refine call_asn [] [_] (doneA_spec bb mb b4 1 true (by decide) (tied_of (by decide)) (fun e _ _ => .inr (.inl rfl))) rfl rfl (fun _ _ _ _ => trivial) ?_
  rintro v post ⟨rfl, rfl⟩
  refine ⟨.tuple [.nils, .int .i64 0], _, 1, NmExt.refl _, rfl, _, fun h k => sat_asns k, ?_⟩
  refine call_asn [] [_] (readyA_spec bb mb b5 (by decide)) rfl rfl (fun _ _ _ _ => trivial) ?_
  rintro v post ⟨p2, c2, rfl, rfl⟩
  refine ⟨.raw (.slice (locAddr 0 p2) 1 c2), _, 1, NmExt.refl _, rfl, _, fun h k => sat_asns k, ?_⟩
  refine call_asn [] [_, _] (doneA_spec bb mb b6 2 false (by decide) (tied_of (by decide)) (fun e he _ => by
    have : getA b6 2 = some ⟨2, 2, none, some 3, true⟩ := by decide
    rw [this] at he; simp at he; subst he; exact .inr (.inr (by decide)))) rfl rfl (fun _ _ _ _ => trivial) ?_
  rintro v post ⟨rfl, rfl⟩
  refine ⟨.tuple [.nils, .int .i64 0], _, 1, NmExt.refl _, rfl, _, fun h k => sat_asns k, ?_⟩
  refine useP (.int .i64 0) (code_spec 0) rfl rfl ?_
  refine useP (.int .i64 0) (code_spec 0) rfl rfl ?_
  refine useP (.int .i64 0) (code_spec 0) rfl rfl ?_
  refine useP (.int .i64 0) (code_spec 0) rfl rfl ?_
  refine useP (.int .i64 0) (code_spec 0) rfl rfl ?_
  refine Br.mk (fun _ => ?_) (fun h => absurd h (by decide))
  intro s1
  refine useR .tt (same_spec (locAddr 0 p1) (locAddr 0 (.at s1 0)) c1 1 [1] [1] (by simp)) rfl (fun f' b hs hk => ⟨asn_reads 3 hs hk rfl, blk_reads 0 hs hk rfl (c := s1) rfl rfl⟩) rfl ?_
  intro s2
  refine useR .tt (same_spec (locAddr 0 p2) (locAddr 0 (.at s2 0)) c2 1 [2] [2] (by simp)) rfl (fun f' b hs hk => ⟨asn_reads 3 hs hk rfl, blk_reads 0 hs hk rfl (c := s2) rfl rfl⟩) rfl ?_
  refine call_asn [_, _] [_, _] (readyA_spec bb mb b7 (by decide)) rfl rfl (fun _ _ _ _ => trivial) ?_
  rintro v post ⟨p3, c3, rfl, rfl⟩
  refine ⟨.raw (.slice (locAddr 0 p3) 1 c3), _, 3, NmExt.refl _, rfl, _, fun h k => sat_asns k, ?_⟩
  intro s3
  refine useR .tt (same_spec (locAddr 0 p3) (locAddr 0 (.at s3 0)) c3 1 [3] [3] (by simp)) rfl (fun f' b hs hk => ⟨asn_reads 2 hs hk rfl, blk_reads 0 hs hk rfl (c := s3) rfl rfl⟩) rfl ?_
  exact FinOb.mk _ [] rfl (fun h k => trivial) ⟨rfl, rfl⟩
/-! ### Nil books -/
theorem end_nil : Does Try.prog 48 #[.pointer none] (fun _ => True) [] (fun v p => v = .tuple #[] ∧ p = []) := by
  refine Does.of Try.func48 Try.call48 rfl [.nilp] [] 0 [] rfl rfl (fun h k => k) (fun f hR => ?_)
  exact FinOb.mk [] [] rfl (fun h k => trivial) ⟨rfl, rfl⟩
theorem done_nil (id : Int) (ok : Bool) : Does Try.prog 44 #[.pointer none, .int .i64 id, .bool ok] (fun _ => True) [] (fun v p => v = .tuple #[.slice none 0 0, .int .i64 7] ∧ p = []) := by
  refine Does.of Try.func44 Try.call44 rfl [.nilp, .int .i64 id, .bool ok] [] 0 [] rfl rfl (fun h k => k) (fun f hR => ?_)
  intro b b2
  exact FinOb.mk [.slice none 0 0, .int .i64 7] [] rfl (fun h k => trivial) ⟨rfl, rfl⟩
theorem ahead_nil (id : Int) : Does Try.prog 72 #[.pointer none, .int .i64 id] (fun _ => True) [] (fun v p => v = .tuple #[.int .i64 0, .bool false] ∧ p = []) := by
  refine Does.of Try.func72 Try.call72 rfl [.nilp, .int .i64 id] [] 0 [] rfl rfl (fun h k => k) (fun f hR => ?_)
  exact FinOb.mk [.int .i64 0, .bool false] [] rfl (fun h k => trivial) ⟨rfl, rfl⟩
theorem behind_nil (id : Int) : Does Try.prog 74 #[.pointer none, .int .i64 id] (fun _ => True) [] (fun v p => v = .tuple #[.int .i64 0, .bool false] ∧ p = []) := by
  refine Does.of Try.func74 Try.call74 rfl [.nilp, .int .i64 id] [] 0 [] rfl rfl (fun h k => k) (fun f hR => ?_)
  exact FinOb.mk [.int .i64 0, .bool false] [] rfl (fun h k => trivial) ⟨rfl, rfl⟩
theorem ready_nil : Does Try.prog 43 #[.pointer none] (fun _ => True) [] (fun v p => v = .slice none 0 0 ∧ p = []) := by
  refine Does.of Try.func43 Try.call43 rfl [.nilp] [] 0 [] rfl rfl (fun h k => k) (fun f hR => ?_)
  exact FinOb.mk _ [] rfl (fun h k => trivial) ⟨rfl, rfl⟩
theorem open_nil : Does Try.prog 46 #[.pointer none] (fun _ => True) [] (fun v p => v = .slice none 0 0 ∧ p = []) := by
  refine Does.of Try.func46 Try.call46 rfl [.nilp] [] 0 [] rfl rfl (fun h k => k) (fun f hR => ?_)
  exact FinOb.mk _ [] rfl (fun h k => trivial) ⟨rfl, rfl⟩
theorem add_nil (id fl : Int) : Does Try.prog 42 #[.pointer none, .int .i64 id, .int .u8 fl] (fun _ => True) [] (fun v p => v = .int .i64 7 ∧ p = []) := by
  refine Does.of Try.func42 Try.call42 rfl [.nilp, .int .i64 id, .int .u8 fl] [] 0 [] rfl rfl (fun h k => k) (fun f hR => ?_)
  exact FinOb.mk _ [] rfl (fun h k => trivial) ⟨rfl, rfl⟩
theorem nils_spec (d id fl : Int) (ok : Bool) : Does Try.prog 14 #[.agg #[.int .i64 d, .int .i64 id, .int .u8 fl, .bool ok]] (fun _ => True) [] (fun v p => v = .bool true ∧ p = []) := by
  refine Does.of Try.func14 Try.call14 rfl [.agg [.int .i64 d, .int .i64 id, .int .u8 fl, .bool ok]] [] 0 [] rfl rfl (fun h k => k) (fun f hR => ?_)
  intro b
  refine useP (.tuple []) end_nil rfl rfl ?_
  refine useP (.tuple [.nils, .int .i64 7]) (done_nil id ok) rfl rfl ?_
  refine useP (.tuple [.int .i64 0, .ff]) (ahead_nil id) rfl rfl ?_
  refine useP (.tuple [.int .i64 0, .ff]) (behind_nil id) rfl rfl ?_
  refine useP .nils ready_nil rfl rfl ?_
  refine useP .nils open_nil rfl rfl ?_
  refine Br.mk (fun _ => ?_) (fun h => absurd h (by decide))
  refine useP (.int .i64 7) (code_spec 7) rfl rfl ?_
  refine Br.mk (fun _ => ?_) (fun h => absurd h (by decide))
  refine useP (.int .i64 7) (add_nil id fl) rfl rfl ?_
  refine useP (.int .i64 7) (code_spec 7) rfl rfl ?_
  refine Br.mk (fun _ => ?_) (fun h => absurd h (by decide))
  refine useP .tt live_spec rfl rfl ?_
  exact FinOb.mk _ [] rfl (fun h k => trivial) ⟨rfl, rfl⟩
theorem c3 : Try.prog.cellsOf 3 = 1 := by kernel_rfl
theorem c4 : Try.prog.cellsOf 4 = 1 := by kernel_rfl
theorem c5 : Try.prog.cellsOf 5 = 1 := by kernel_rfl
theorem c118 : Try.prog.cellsOf 118 = 4 := by kernel_rfl
/-- What a call reads. -/
theorem act_reads {f : HP} {cs : List Value} {n : Nat} (h : RdS Try.prog f (n + 2) 118 cs) : ∃ d id fl ok, cs = [.int .i64 d, .int .i64 id, .int .u8 fl, .bool ok] ∧ 0 ≤ fl ∧ fl ≤ 255 := by
  have hl := RdS.cells Try.underlying118 h
  rw [c118] at hl
  match cs, hl with
  | [x1, x2, x3, x4], _ =>
  obtain ⟨d, h1, _⟩ := RdS.int Try.underlying3 (RdS.field Try.underlying118 h 0 rfl (ds := [x1]) (by simp only [c3]; rfl))
  obtain ⟨k, h2, _⟩ := RdS.int Try.underlying3 (RdS.field Try.underlying118 h 1 rfl (ds := [x2]) (by simp only [c3]; rfl))
  obtain ⟨fl, h3, w⟩ := RdS.int Try.underlying5 (RdS.field Try.underlying118 h 2 rfl (ds := [x3]) (by simp only [c5]; rfl))
  obtain ⟨ok, h4⟩ := RdS.bool Try.underlying4 (RdS.field Try.underlying118 h 3 rfl (ds := [x4]) (by simp only [c4]; rfl))
  simp only [List.cons.injEq, and_true] at h1 h2 h3 h4
  subst h1; subst h2; subst h3; subst h4
  have : 0 ≤ fl ∧ fl ≤ 255 := by simp [Lit.wf] at w; exact w
  exact ⟨_, _, _, _, rfl, this.1, this.2⟩
theorem nils_law (cs : Array Value) : Does Try.prog 14 #[.agg cs] (fun f => RdS Try.prog f 4 118 cs.toList) [] (fun v p => v = .bool true ∧ p = []) := by
  refine Does.ofR Try.call14 (fun f h => ?_)
  obtain ⟨d, id, fl, ok, e, _⟩ := act_reads (n := 2) h
  have : cs = #[.int .i64 d, .int .i64 id, .int .u8 fl, .bool ok] := by rw [← Array.toArray_toList (xs := cs), e]
  subst this
  exact ⟨(nils_spec d id fl ok).enters, fun f w _ hat => (nils_spec d id fl ok).run f w trivial hat⟩
end Go.Proofs.Ytlgdagjbphafcaa.Ch
