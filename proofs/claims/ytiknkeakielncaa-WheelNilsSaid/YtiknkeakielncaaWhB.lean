/- wheel: how it lies; the wheel of a tick; New, Now, Len, Due, jump. Conditions: none. -/
import Derived.Test.YtiknkeakielncaaWhA
namespace Go.Proofs.Ytiknkeakielncaa.Wh
open Go Go.Proofs Sx
set_option maxRecDepth 100000
set_option linter.unusedVariables false
set_option linter.unusedSimpArgs false
set_option maxHeartbeats 4000000

/-- Timers in a slice. -/
structure Sp where
  pl : Plc
  cap : Nat
  l : List T
def Sp.val (s : Sp) : Value := .slice (locAddr 0 s.pl) s.l.length s.cap
def Sp.vec (s : Sp) : Asn := Vec s.pl 126 3 s.cap (TL.flat s.l)
/-- A wheel. -/
structure W where
  now : Int
  no : Int
  late : Sp
  S : List Sp
  mb : Nat
  K : List T
def T.ent (t : T) : List Int × Value := ([t.id], .agg t.vals.toArray)
def W.cells (w : W) : List Value := .int .i64 w.now :: .int .i64 w.no :: w.late.val :: (w.S.map Sp.val ++ [.map (some w.mb)])
def Hd (b : Nat) (w : W) : Asn := pt b (.cells w.cells.toArray 124 (0, 0))
def Vs (S : List Sp) : Asn := Alls (S.map Sp.vec)
abbrev KI : KS := .one .i64
/-- All of a wheel. -/
def Wl (b : Nat) (w : W) : List Asn := [Hd b w, Vs w.S, w.late.vec, MapA w.mb KI (w.K.map T.ent)]
theorem hd_cell {b : Nat} {w : W} {j : Nat} {v : Value} (h : w.cells[j]? = some v) (x : HP) (k : Hd b w x) : fcell x b j = some v :=
  fcell_of (pt_get x k) (by rw [List.getElem?_toArray]; exact h)
theorem hd_store {b : Nat} {w w' : W} {j : Nat} {v : Value} (hl : w.S.length = 448) (hj : j < 452) (h : w'.cells = putV w.cells j [v]) (x : HP) (k : Hd b w x) :
    ∃ c t, x b = some (.cells c t (0, 0)) ∧ j + [v].length ≤ c.size ∧ Hd b w' (upd x b (.cells (putV c.toList j [v]).toArray t (0, 0))) := by
  refine ⟨_, _, pt_get x k, ?_, ?_⟩
  · rw [List.size_toArray]
    simp [W.cells, hl]
    omega
  · have := (pt_upd (.cells (putV w.cells j [v]).toArray 124 (0, 0)) x k).2
    unfold Hd
    rw [h]; exact this
theorem spoke_cell {w : W} {i : Nat} {s : Sp} (h : w.S[i]? = some s) : w.cells[3 + i]? = some s.val := by
  have hi := (List.getElem?_eq_some_iff.1 h).1
  show (Value.int .i64 w.now :: .int .i64 w.no :: w.late.val :: (w.S.map Sp.val ++ [.map (some w.mb)]))[3 + i]? = _
  rw [show 3 + i = i + 1 + 1 + 1 by omega, List.getElem?_cons_succ, List.getElem?_cons_succ, List.getElem?_cons_succ, List.getElem?_append_left (by simpa using hi), List.getElem?_map, h]
  rfl
theorem known_cell {w : W} (hl : w.S.length = 448) : w.cells[451]? = some (.map (some w.mb)) := by
  show (Value.int .i64 w.now :: .int .i64 w.no :: w.late.val :: (w.S.map Sp.val ++ [.map (some w.mb)]))[448 + 1 + 1 + 1]? = _
  rw [List.getElem?_cons_succ, List.getElem?_cons_succ, List.getElem?_cons_succ, List.getElem?_append_right (by simp [hl])]
  simp [hl]
theorem wheel_spec (b : Nat) (w : W) (x : Int) (n0 : 0 ≤ w.now) (n1 : w.now ≤ Big) (x0 : 0 ≤ x) (x1 : x ≤ Big) :
    Does Try.prog 88 #[.pointer (some ⟨b, 0, none⟩), .int .i64 x] (fun _ => True) [Hd b w] (fun v p => v = .int .i64 (hi w.now x) ∧ p = [Hd b w]) := by
  refine Does.ofJ Try.func88 Try.call88 rfl [.raw (.pointer (some ⟨b, 0, none⟩)), .int .i64 x] [] 0 [.asn (Hd b w)] rfl rfl (fun h k => sat_pick 0 rfl (by first | exact fun _ k => k | exact fun _ k => blk_to rfl rfl k | exact fun _ k => vec_to rfl k | exact fun _ k => blk_of rfl rfl k | exact fun _ k => vec_of rfl k | exact fun _ k => blk_of rfl rfl (blk_to rfl rfl k) | exact fun _ k => vec_of rfl (vec_to rfl k) | exact fun _ k => mp_to rfl k | exact fun _ k => mp_of rfl k | exact fun _ k => mp_of rfl (mp_to rfl k)) (fun h k => sat_nil k) k) (fun f hR => ?_)
  refine LoopOb.mk { i : Nat // i ≤ 7 } (fun z => ⟨23, [(0, .raw (.pointer (some ⟨b, 0, none⟩))), (1, .int .i64 x), (5, .int .i64 (hw w.now x z.1)), (7, .int .i64 z.1)], [], 0, [.asn (Hd b w)]⟩) (fun z => 7 - z.1) ⟨0, by omega⟩ ?_ ?_
  · exact Le.of rfl ⟨⟨_, rfl, rfl⟩, ⟨_, rfl, rfl⟩, ⟨_, rfl, rfl⟩, ⟨_, rfl, rfl⟩, trivial⟩ (fun h k => sat_pick 0 rfl (by first | exact fun _ k => k | exact fun _ k => blk_to rfl rfl k | exact fun _ k => vec_to rfl k | exact fun _ k => blk_of rfl rfl k | exact fun _ k => vec_of rfl k | exact fun _ k => blk_of rfl rfl (blk_to rfl rfl k) | exact fun _ k => vec_of rfl (vec_to rfl k) | exact fun _ k => mp_to rfl k | exact fun _ k => mp_of rfl k | exact fun _ k => mp_of rfl (mp_to rfl k)) (fun h k => sat_nil k) k)
  rintro ⟨i, hi7⟩
  refine CondOb.split (fun g => ?_) (fun g => ?_)
  rotate_left
  · have g : i = 7 := by
      have g := of_decide_eq_false g
      have : ¬ (i : Int) < 7 := g
      omega
    subst g
    exact FinOb.mk _ [Hd b w] rfl (fun h k => sat_pick 0 rfl (by first | exact fun _ k => k | exact fun _ k => blk_to rfl rfl k | exact fun _ k => vec_to rfl k | exact fun _ k => blk_of rfl rfl k | exact fun _ k => vec_of rfl k | exact fun _ k => blk_of rfl rfl (blk_to rfl rfl k) | exact fun _ k => vec_of rfl (vec_to rfl k) | exact fun _ k => mp_to rfl k | exact fun _ k => mp_of rfl k | exact fun _ k => mp_of rfl (mp_to rfl k)) (fun h k => sat_nil k) k) ⟨rfl, rfl⟩
  have g : i < 7 := by
    have g := of_decide_eq_true g
    have : (i : Int) < 7 := g
    omega
  have ei : IntKind.i64.wrap ((i : Int) + 1) = ((i + 1 : Nat) : Int) := by rw [w64 (by omega) (by omega)]; omega
  refine DrawOb.mk [(2, [3, 4, 5, 6, 7])] (.run [0, 1, 3, 4, 5, 6, 7, 2, 8, 9] .nil) (by kernel_rfl) ?_
  refine RdRaw.told (.int .i64 w.now) _ rfl (fun h k => sat_cell 0 rfl (fun x kx => hd_cell (j := 0) rfl x kx) k) ?_
  refine useP (.int .i64 (dig x i)) (spoke_spec x i x0 x1 (by omega)) rfl rfl ?_
  refine RdRaw.told (.int .i64 w.now) _ rfl (fun h k => sat_cell 0 rfl (fun x kx => hd_cell (j := 0) rfl x kx) k) ?_
  refine Need.mk rfl ?_
  refine useP (.int .i64 (dig w.now i)) (spoke_spec w.now i n0 n1 (by omega)) rfl rfl ?_
  refine CondOb.split (fun h => ?_) (fun h => ?_)
  · have h : dig x i ≠ dig w.now i := by simpa using h
    refine ⟨⟨i + 1, by omega⟩, by show 7 - (i + 1) < 7 - i; omega, Le.of rfl ⟨⟨_, rfl, rfl⟩, ⟨_, rfl, rfl⟩, ⟨_, rfl, (congrArg (fun z : Nat => some (Value.int .i64 z)) (by show i = hw w.now x (i + 1); unfold hw; rw [if_pos h]))⟩, ⟨_, rfl, congrArg (fun z => some (Value.int .i64 z)) ei⟩, trivial⟩ (fun h k => sat_pick 0 rfl (by first | exact fun _ k => k | exact fun _ k => blk_to rfl rfl k | exact fun _ k => vec_to rfl k | exact fun _ k => blk_of rfl rfl k | exact fun _ k => vec_of rfl k | exact fun _ k => blk_of rfl rfl (blk_to rfl rfl k) | exact fun _ k => vec_of rfl (vec_to rfl k) | exact fun _ k => mp_to rfl k | exact fun _ k => mp_of rfl k | exact fun _ k => mp_of rfl (mp_to rfl k)) (fun h k => sat_nil k) k)⟩
  · have h : ¬ dig x i ≠ dig w.now i := by simpa using h
    refine ⟨⟨i + 1, by omega⟩, by show 7 - (i + 1) < 7 - i; omega, Le.of rfl ⟨⟨_, rfl, rfl⟩, ⟨_, rfl, rfl⟩, ⟨_, rfl, (congrArg (fun z : Nat => some (Value.int .i64 z)) (by show hw w.now x i = hw w.now x (i + 1); conv => rhs; unfold hw; rw [if_neg h]))⟩, ⟨_, rfl, congrArg (fun z => some (Value.int .i64 z)) ei⟩, trivial⟩ (fun h k => sat_pick 0 rfl (by first | exact fun _ k => k | exact fun _ k => blk_to rfl rfl k | exact fun _ k => vec_to rfl k | exact fun _ k => blk_of rfl rfl k | exact fun _ k => vec_of rfl k | exact fun _ k => blk_of rfl rfl (blk_to rfl rfl k) | exact fun _ k => vec_of rfl (vec_to rfl k) | exact fun _ k => mp_to rfl k | exact fun _ k => mp_of rfl k | exact fun _ k => mp_of rfl (mp_to rfl k)) (fun h k => sat_nil k) k)⟩
end Go.Proofs.Ytiknkeakielncaa.Wh
