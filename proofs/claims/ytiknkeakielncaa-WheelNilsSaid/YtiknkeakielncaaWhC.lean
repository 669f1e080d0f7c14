/- wheel: New, Now, Len, Due, jump. Conditions: none. -/
import Derived.Test.YtiknkeakielncaaWhB
namespace Go.Proofs.Ytiknkeakielncaa.Wh
open Go Go.Proofs Sx
set_option maxRecDepth 100000
set_option linter.unusedVariables false
set_option linter.unusedSimpArgs false
set_option maxHeartbeats 4000000

def sp0 : Sp := ⟨.nil, 0, []⟩
def W0 (now : Int) (mb : Nat) : W := ⟨now, 0, sp0, List.replicate 448 sp0, mb, []⟩
theorem alls_rep {A : Asn} (h : A HP.emp) : ∀ n, sat (List.replicate n A) HP.emp
  | 0 => trivial
  | n + 1 => by rw [List.replicate_succ]; exact sat_add h (alls_rep h n)
theorem vs_rep (n : Nat) : Vs (List.replicate n sp0) HP.emp := by
  unfold Vs Alls
  rw [List.map_replicate]
  exact alls_rep vec_emp n
theorem new_bad (x : Int) (h : x < 0 ∨ 1099511627776 < x) : Does Try.prog 16 #[.int .i64 x] (fun _ => True) [] (fun v p => v = .tuple #[.pointer none, .int .i64 8] ∧ p = []) := by
  refine Does.ofJ Try.func16 Try.call16 rfl [.int .i64 x] [] 0 [] rfl rfl (fun h k => k) (fun f hR => ?_)
  refine RegOb.go ?_
  refine Br.mk (fun g => ?_) (fun g => ?_)
  · exact FinOb.mk [.pointer none, .int .i64 8] [] rfl (fun h k => trivial) ⟨rfl, rfl⟩
  refine CondOb.split (fun g2 => ?_) (fun g2 => ?_)
  · exact FinOb.mk [.pointer none, .int .i64 8] [] rfl (fun h k => trivial) ⟨rfl, rfl⟩
  · have g := of_decide_eq_false g
    have g2 := of_decide_eq_false g2
    omega
theorem new_spec (x : Int) (h0 : 0 ≤ x) (h1 : x ≤ 1099511627776) : Does Try.prog 16 #[.int .i64 x] (fun _ => True) [] (fun v p => ∃ b mb, v = .tuple #[.pointer (some ⟨b, 0, none⟩), .int .i64 0] ∧ p = Wl b (W0 x mb)) := by
  refine Does.ofJ Try.func16 Try.call16 rfl [.int .i64 x] [] 0 [] rfl rfl (fun h k => k) (fun f hR => ?_)
  refine RegOb.go ?_
  refine Br.mk (fun g => absurd (of_decide_eq_true g) (by omega)) (fun g => ?_)
  refine CondOb.split (fun g2 => absurd (of_decide_eq_true g2) (by omega)) (fun g2 => ?_)
  intro mb
  intro b
  refine FinOb.mk [.pointer (some ⟨b, 0, none⟩), .int .i64 0] (Wl b (W0 x mb)) rfl (fun h k => ?_) ⟨b, mb, rfl, rfl⟩
  have k1 : sat [pt b (.cells (W0 x mb).cells.toArray 124 (0, 0)), MapA mb KI []] h := (fun h k => sat_pick 0 rfl (fun _ k => blk_to (vs := (W0 x mb).cells) rfl rfl k) (fun h k => sat_pick 0 rfl (fun _ k => mp_to rfl k) (fun h k => sat_nil k) k) k) h k
  exact sat_cons (fun _ k => k) (fun h k => sat_add (vs_rep 448) (sat_add vec_emp k)) k1
theorem now_spec (b : Nat) (w : W) : Does Try.prog 44 #[.pointer (some ⟨b, 0, none⟩)] (fun _ => True) [Hd b w] (fun v p => v = .int .i64 w.now ∧ p = [Hd b w]) := by
  refine Does.ofJ Try.func44 Try.call44 rfl [.raw (.pointer (some ⟨b, 0, none⟩))] [] 0 [.asn (Hd b w)] rfl rfl (fun h k => sat_pick 0 rfl (by first | exact fun _ k => k | exact fun _ k => blk_to rfl rfl k | exact fun _ k => vec_to rfl k | exact fun _ k => blk_of rfl rfl k | exact fun _ k => vec_of rfl k | exact fun _ k => blk_of rfl rfl (blk_to rfl rfl k) | exact fun _ k => vec_of rfl (vec_to rfl k) | exact fun _ k => mp_to rfl k | exact fun _ k => mp_of rfl k | exact fun _ k => mp_of rfl (mp_to rfl k)) (fun h k => sat_nil k) k) (fun f hR => ?_)
  refine RdRaw.told (.int .i64 w.now) _ rfl (fun h k => sat_cell 0 rfl (fun x kx => hd_cell (j := 0) rfl x kx) k) ?_
  exact FinOb.mk [.int .i64 w.now] [Hd b w] rfl (fun h k => sat_pick 0 rfl (by first | exact fun _ k => k | exact fun _ k => blk_to rfl rfl k | exact fun _ k => vec_to rfl k | exact fun _ k => blk_of rfl rfl k | exact fun _ k => vec_of rfl k | exact fun _ k => blk_of rfl rfl (blk_to rfl rfl k) | exact fun _ k => vec_of rfl (vec_to rfl k) | exact fun _ k => mp_to rfl k | exact fun _ k => mp_of rfl k | exact fun _ k => mp_of rfl (mp_to rfl k)) (fun h k => sat_nil k) k) ⟨rfl, rfl⟩
theorem jump_spec (b : Nat) (w : W) (x : Int) (hl : w.S.length = 448) : Does Try.prog 67 #[.pointer (some ⟨b, 0, none⟩), .int .i64 x] (fun _ => True) [Hd b w] (fun v p => v = .tuple #[] ∧ p = [Hd b { w with now := x }]) := by
  refine Does.ofJ Try.func67 Try.call67 rfl [.raw (.pointer (some ⟨b, 0, none⟩)), .int .i64 x] [] 0 [.asn (Hd b w)] rfl rfl (fun h k => sat_pick 0 rfl (by first | exact fun _ k => k | exact fun _ k => blk_to rfl rfl k | exact fun _ k => vec_to rfl k | exact fun _ k => blk_of rfl rfl k | exact fun _ k => vec_of rfl k | exact fun _ k => blk_of rfl rfl (blk_to rfl rfl k) | exact fun _ k => vec_of rfl (vec_to rfl k) | exact fun _ k => mp_to rfl k | exact fun _ k => mp_of rfl k | exact fun _ k => mp_of rfl (mp_to rfl k)) (fun h k => sat_nil k) k) (fun f hR => ?_)
  refine StRaw.on 0 (Hd b { w with now := x }) [.int .i64 x] rfl rfl (fun y ky => hd_store (w' := { w with now := x }) (v := .int .i64 x) (j := 0) hl (by omega) rfl y ky) ?_
  exact FinOb.mk [] [Hd b { w with now := x }] rfl (fun h k => sat_pick 0 rfl (by first | exact fun _ k => k | exact fun _ k => blk_to rfl rfl k | exact fun _ k => vec_to rfl k | exact fun _ k => blk_of rfl rfl k | exact fun _ k => vec_of rfl k | exact fun _ k => blk_of rfl rfl (blk_to rfl rfl k) | exact fun _ k => vec_of rfl (vec_to rfl k) | exact fun _ k => mp_to rfl k | exact fun _ k => mp_of rfl k | exact fun _ k => mp_of rfl (mp_to rfl k)) (fun h k => sat_nil k) k) ⟨rfl, rfl⟩
theorem known_read {b : Nat} {w : W} (hl : w.S.length = 448) (h : HP) (k : Hd b w h) : fcell h b (0 + 451) = some (.map (some w.mb)) := hd_cell (j := 451) (known_cell hl) h k
theorem len_spec (b : Nat) (w : W) (hl : w.S.length = 448) : Does Try.prog 28 #[.pointer (some ⟨b, 0, none⟩)] (fun _ => True) [Hd b w, MapA w.mb KI (w.K.map T.ent)] (fun v p => v = .int .i64 w.K.length ∧ p = [Hd b w, MapA w.mb KI (w.K.map T.ent)]) := by
  refine Does.ofJ Try.func28 Try.call28 rfl [.raw (.pointer (some ⟨b, 0, none⟩))] [(0, .at w.mb 0)] 1 [.asn (Hd b w), .mp 0 KI (w.K.map T.ent)] rfl rfl (fun h k => sat_pick 0 rfl (by first | exact fun _ k => k | exact fun _ k => blk_to rfl rfl k | exact fun _ k => vec_to rfl k | exact fun _ k => blk_of rfl rfl k | exact fun _ k => vec_of rfl k | exact fun _ k => blk_of rfl rfl (blk_to rfl rfl k) | exact fun _ k => vec_of rfl (vec_to rfl k) | exact fun _ k => mp_to rfl k | exact fun _ k => mp_of rfl k | exact fun _ k => mp_of rfl (mp_to rfl k)) (fun h k => sat_pick 0 rfl (fun _ k => mp_of rfl k) (fun h k => sat_nil k) k) k) (fun f hR => ?_)
  refine RdRaw.told (.map 0) _ rfl (fun h k => sat_cell 0 rfl (fun x kx => known_read hl x kx) k) ?_
  exact FinOb.mk [.int .i64 w.K.length] [Hd b w, MapA w.mb KI (w.K.map T.ent)] (by rw [List.length_map]; rfl) (fun h k => sat_pick 0 rfl (by first | exact fun _ k => k | exact fun _ k => blk_to rfl rfl k | exact fun _ k => vec_to rfl k | exact fun _ k => blk_of rfl rfl k | exact fun _ k => vec_of rfl k | exact fun _ k => blk_of rfl rfl (blk_to rfl rfl k) | exact fun _ k => vec_of rfl (vec_to rfl k) | exact fun _ k => mp_to rfl k | exact fun _ k => mp_of rfl k | exact fun _ k => mp_of rfl (mp_to rfl k)) (fun h k => sat_pick 0 rfl (fun _ k => mp_to rfl k) (fun h k => sat_nil k) k) k) ⟨rfl, rfl⟩
theorem find_ent (id : Int) : ∀ K : List T, findL [id] (K.map T.ent) = (K.find? (fun t => id == t.id)).map fun t => .agg t.vals.toArray
  | [] => rfl
  | t :: K => by
    show findL [id] (([t.id], _) :: _) = _
    unfold findL
    rw [List.find?_cons]
    by_cases e : id = t.id
    · subst e; simp
    · rw [if_neg (by simpa using e), show (id == t.id) = false by simpa using e]
      exact find_ent id K
def T0 : T := ⟨0, 0, 0⟩
theorem due_spec (b : Nat) (w : W) (id : Int) (hl : w.S.length = 448) : Does Try.prog 42 #[.pointer (some ⟨b, 0, none⟩), .int .i64 id] (fun _ => True) [Hd b w, MapA w.mb KI (w.K.map T.ent)]
    (fun v p => v = .tuple #[.int .i64 (((w.K.find? (fun t => id == t.id)).getD T0).at_), .bool (w.K.find? (fun t => id == t.id)).isSome] ∧ p = [Hd b w, MapA w.mb KI (w.K.map T.ent)]) := by
  refine Does.ofJ Try.func42 Try.call42 rfl [.raw (.pointer (some ⟨b, 0, none⟩)), .int .i64 id] [(0, .at w.mb 0)] 1 [.asn (Hd b w), .mp 0 KI (w.K.map T.ent)] rfl rfl (fun h k => sat_pick 0 rfl (by first | exact fun _ k => k | exact fun _ k => blk_to rfl rfl k | exact fun _ k => vec_to rfl k | exact fun _ k => blk_of rfl rfl k | exact fun _ k => vec_of rfl k | exact fun _ k => blk_of rfl rfl (blk_to rfl rfl k) | exact fun _ k => vec_of rfl (vec_to rfl k) | exact fun _ k => mp_to rfl k | exact fun _ k => mp_of rfl k | exact fun _ k => mp_of rfl (mp_to rfl k)) (fun h k => sat_pick 0 rfl (fun _ k => mp_of rfl k) (fun h k => sat_nil k) k) k) (fun f hR => ?_)
  refine RdRaw.told (.map 0) _ rfl (fun h k => sat_cell 0 rfl (fun x kx => known_read hl x kx) k) ?_
  have hf := find_ent id w.K
  cases e : w.K.find? (fun t => id == t.id) with
  | none =>
    rw [e] at hf
    refine LkOb.miss hf ?_
    intro b6
    exact FinOb.mk [.int .i64 0, .bool false] [Hd b w, MapA w.mb KI (w.K.map T.ent)] rfl (fun h k => sat_pick 1 rfl (by first | exact fun _ k => k | exact fun _ k => blk_to rfl rfl k | exact fun _ k => vec_to rfl k | exact fun _ k => blk_of rfl rfl k | exact fun _ k => vec_of rfl k | exact fun _ k => blk_of rfl rfl (blk_to rfl rfl k) | exact fun _ k => vec_of rfl (vec_to rfl k) | exact fun _ k => mp_to rfl k | exact fun _ k => mp_of rfl k | exact fun _ k => mp_of rfl (mp_to rfl k)) (fun h k => sat_pick 1 rfl (fun _ k => mp_to rfl k) (fun h k => sat_nil k) k) k) ⟨rfl, rfl⟩
  | some t =>
    rw [e] at hf
    refine LkOb.hit _ (.agg t.svs) hf rfl ?_
    intro b6
    exact FinOb.mk [.int .i64 t.at_, .bool true] [Hd b w, MapA w.mb KI (w.K.map T.ent)] rfl (fun h k => sat_pick 1 rfl (by first | exact fun _ k => k | exact fun _ k => blk_to rfl rfl k | exact fun _ k => vec_to rfl k | exact fun _ k => blk_of rfl rfl k | exact fun _ k => vec_of rfl k | exact fun _ k => blk_of rfl rfl (blk_to rfl rfl k) | exact fun _ k => vec_of rfl (vec_to rfl k) | exact fun _ k => mp_to rfl k | exact fun _ k => mp_of rfl k | exact fun _ k => mp_of rfl (mp_to rfl k)) (fun h k => sat_pick 1 rfl (fun _ k => mp_to rfl k) (fun h k => sat_nil k) k) k) ⟨rfl, rfl⟩
/-! ### Nil wheels -/
theorem now_nil : Does Try.prog 44 #[.pointer none] (fun _ => True) [] (fun v p => v = .int .i64 0 ∧ p = []) := by
  refine Does.ofJ Try.func44 Try.call44 rfl [.raw (.pointer none)] [] 0 [] rfl rfl (fun h k => k) (fun f hR => ?_)
  exact FinOb.mk [.int .i64 0] [] rfl (fun h k => trivial) ⟨rfl, rfl⟩
theorem len_nil : Does Try.prog 28 #[.pointer none] (fun _ => True) [] (fun v p => v = .int .i64 0 ∧ p = []) := by
  refine Does.ofJ Try.func28 Try.call28 rfl [.raw (.pointer none)] [] 0 [] rfl rfl (fun h k => k) (fun f hR => ?_)
  exact FinOb.mk [.int .i64 0] [] rfl (fun h k => trivial) ⟨rfl, rfl⟩
theorem due_nil (id : Int) : Does Try.prog 42 #[.pointer none, .int .i64 id] (fun _ => True) [] (fun v p => v = .tuple #[.int .i64 0, .bool false] ∧ p = []) := by
  refine Does.ofJ Try.func42 Try.call42 rfl [.raw (.pointer none), .int .i64 id] [] 0 [] rfl rfl (fun h k => k) (fun f hR => ?_)
  exact FinOb.mk [.int .i64 0, .bool false] [] rfl (fun h k => trivial) ⟨rfl, rfl⟩
theorem next_nil : Does Try.prog 40 #[.pointer none] (fun _ => True) [] (fun v p => v = .tuple #[.int .i64 0, .bool false] ∧ p = []) := by
  refine Does.ofJ Try.func40 Try.call40 rfl [.raw (.pointer none)] [] 0 [] rfl rfl (fun h k => k) (fun f hR => ?_)
  exact FinOb.mk [.int .i64 0, .bool false] [] rfl (fun h k => trivial) ⟨rfl, rfl⟩
theorem stop_nil (id : Int) : Does Try.prog 37 #[.pointer none, .int .i64 id] (fun _ => True) [] (fun v p => v = .bool false ∧ p = []) := by
  refine Does.ofJ Try.func37 Try.call37 rfl [.raw (.pointer none), .int .i64 id] [] 0 [] rfl rfl (fun h k => k) (fun f hR => ?_)
  intro b3
  exact FinOb.mk [.bool false] [] rfl (fun h k => trivial) ⟨rfl, rfl⟩
theorem set_nil (id x : Int) : Does Try.prog 18 #[.pointer none, .int .i64 id, .int .i64 x] (fun _ => True) [] (fun v p => v = .int .i64 7 ∧ p = []) := by
  refine Does.ofJ Try.func18 Try.call18 rfl [.raw (.pointer none), .int .i64 id, .int .i64 x] [] 0 [] rfl rfl (fun h k => k) (fun f hR => ?_)
  exact FinOb.mk [.int .i64 7] [] rfl (fun h k => trivial) ⟨rfl, rfl⟩
theorem tick_nil (x : Int) : Does Try.prog 19 #[.pointer none, .int .i64 x] (fun _ => True) [] (fun v p => v = .tuple #[.slice none 0 0, .int .i64 7] ∧ p = []) := by
  refine Does.ofJ Try.func19 Try.call19 rfl [.raw (.pointer none), .int .i64 x] [] 0 [] rfl rfl (fun h k => k) (fun f hR => ?_)
  exact FinOb.mk [.slice none 0 0, .int .i64 7] [] rfl (fun h k => trivial) ⟨rfl, rfl⟩
end Go.Proofs.Ytiknkeakielncaa.Wh
