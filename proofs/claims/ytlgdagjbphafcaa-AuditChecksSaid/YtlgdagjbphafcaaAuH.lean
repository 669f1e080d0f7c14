/- audit: the program's entries: ends, done. Conditions: none. -/
import Derived.Test.YtlgdagjbphafcaaAuG
namespace Go.Proofs.Ytlgdagjbphafcaa.Au
open Go Go.Proofs Sx
set_option maxRecDepth 100000
set_option linter.unusedVariables false
set_option linter.unusedSimpArgs false
set_option maxHeartbeats 4000000

def sblk (b : Nat) (x : X) (ah : Option Nat) : Blk := (b, .cells (scells x ah).toArray 199 (0, 0))
/-- What holds of the one ahead, among blocks. -/
def AhB (bl : List Blk) (r w : Bool) : Option Nat → Prop
  | none => r = true ∧ w = false
  | some ba => ∃ (a : X) (aa : Option Nat), a.q.Ok ∧ sblk ba a aa ∈ bl ∧ okA a = r ∧ (!a.ended) = w
theorem rb_told {f f' g : HP} {nm : List (Nat × Plc)} {es : List Ent} {bl : List Blk} {b : Nat} {x : X} {ah : Option Nat} (n : Nat) (s : Split f' g f) (k : sat (es.map (entDen nm)) g) (hn : es[n]? = some (.asn (Blks bl))) (hb : sblk b x ah ∈ bl) : RB f' b (scells x ah) := fun j v hj =>
  blks_frame n s k hn hb (by simpa using hj)
theorem ah_told {f f' g : HP} {nm : List (Nat × Plc)} {es : List Ent} {bl : List Blk} {r w : Bool} {ah : Option Nat} (n : Nat) (s : Split f' g f) (k : sat (es.map (entDen nm)) g) (hn : es[n]? = some (.asn (Blks bl))) (h : AhB bl r w ah) : AhR f' r ah := by
  cases ah with
  | none => exact h.1
  | some ba => obtain ⟨a, aa, h1, h2, h3, _⟩ := h; exact ⟨a, aa, h1, rb_told n s k hn h2, h3⟩
def endsP (c : C) (y : X) : Bool := if y.gone then c.res == -290 || (y.q.op == 11 && c.res == -294) else okQ y.q || c.res == -260
def endX (x : X) (c : C) (r : Bool) : X := { x with ended := true, res := c.res, gone := !r }
theorem pends_spec (bl : List Blk) (i b : Nat) (x : X) (ah : Option Nat) (c : C) (r w : Bool) (hq : x.q.Ok) (hi : bl[i]? = some (sblk b x ah)) (hah : AhB bl r w ah) :
    Does Try.prog 121 #[.pointer (some ⟨b, 0, none⟩), .agg c.vals.toArray] (fun _ => True) [Blks bl] (fun v p => v = .bool (endsP c (endX x c r)) ∧ p = [Blks (bl.set i (sblk b (endX x c r) ah))]) := by
  refine Does.ofJ Try.func121 Try.call121 rfl [.raw (.pointer (some ⟨b, 0, none⟩)), .agg c.svs] [] 0 [.asn (Blks bl)] rfl rfl (fun h k => sat_pick 0 rfl (by first | exact fun _ k => k | exact fun _ k => blk_to rfl rfl k | exact fun _ k => vec_to rfl k | exact fun _ k => blk_of rfl rfl k | exact fun _ k => vec_of rfl k | exact fun _ k => blk_of rfl rfl (blk_to rfl rfl k) | exact fun _ k => vec_of rfl (vec_to rfl k) | exact fun _ k => mp_to rfl k | exact fun _ k => mp_of rfl k | exact fun _ k => mp_of rfl (mp_to rfl k)) (fun h k => sat_nil k) k) (fun f hR => ?_)
  have hil := (List.getElem?_eq_some_iff.1 hi).1
  have hm := List.mem_of_getElem? hi
  intro b1
  refine DrawOb.mk [(6, [0, 1, 2, 3, 4]), (10, [1, 2, 3, 4, 7]), (13, [2, 7])] (.run [0, 1, 2, 3, 4, 5, 6, 7, 8, 9, 10, 11, 12, 13, 14, 15, 16] .nil) (by kernel_rfl) ?_
  refine useR (.bool r) (pbegan_spec b x ah r) rfl (fun f' b' hs kk => ⟨rb_told 1 hs kk rfl hm, ah_told 1 hs kk rfl hah⟩) rfl ?_
  refine Need.mk rfl ?_
  refine StRaw.at 1 [.bool true] rfl rfl hi (Nat.le_of_ble_eq_true rfl) ?_
  refine Need.mk rfl ?_
  refine StRaw.at 1 [.int .i64 c.res] rfl rfl (List.getElem?_set_self hil) (Nat.le_of_ble_eq_true rfl) ?_
  refine StRaw.at 1 [.bool (!r)] rfl rfl (List.getElem?_set_self (by rw [List.length_set]; exact hil)) (Nat.le_of_ble_eq_true rfl) ?_
  have h3 : (((bl.set i (b, .cells (putV (scells x ah).toArray.toList (0 + 12) [.bool true]).toArray 199 (0, 0))).set i (b, .cells (putV (putV (scells x ah).toArray.toList (0 + 12) [.bool true]).toArray.toList (0 + 14) [.int .i64 c.res]).toArray 199 (0, 0))).set i (b, .cells (putV (putV (putV (scells x ah).toArray.toList (0 + 12) [.bool true]).toArray.toList (0 + 14) [.int .i64 c.res]).toArray.toList (0 + 13) [.bool !r]).toArray 199 (0, 0))) = bl.set i (sblk b (endX x c r) ah) := by
    rw [List.set_set, List.set_set]; rfl
  rw [h3]
  have hi4 : (bl.set i (sblk b (endX x c r) ah))[i]? = some (sblk b (endX x c r) ah) := List.getElem?_set_self hil
  refine RdRaw.told (.bool (!r)) _ rfl (told_at 1 rfl hi4 rfl) ?_
  refine CondOb.split (fun g1 => ?_) (fun g1 => ?_)
  · refine RegOb.go ?_
    refine Br.mk (fun h1 => ?_) (fun h1 => ?_)
    · refine FinOb.mk _ [Blks (bl.set i (sblk b (endX x c r) ah))] rfl (fun h k => sat_pick 1 rfl (by first | exact fun _ k => k | exact fun _ k => blk_to rfl rfl k | exact fun _ k => vec_to rfl k | exact fun _ k => blk_of rfl rfl k | exact fun _ k => vec_of rfl k | exact fun _ k => blk_of rfl rfl (blk_to rfl rfl k) | exact fun _ k => vec_of rfl (vec_to rfl k) | exact fun _ k => mp_to rfl k | exact fun _ k => mp_of rfl k | exact fun _ k => mp_of rfl (mp_to rfl k)) (fun h k => sat_nil k) k) ⟨?_, rfl⟩
      simp_all [ret1, endsP, endX]
    refine RdRaw.told (.int .u8 x.q.op) _ rfl (told_at 1 rfl hi4 rfl) ?_
    refine Br.mk (fun h2 => ?_) (fun h2 => ?_)
    · refine FinOb.mk _ [Blks (bl.set i (sblk b (endX x c r) ah))] rfl (fun h k => sat_pick 1 rfl (by first | exact fun _ k => k | exact fun _ k => blk_to rfl rfl k | exact fun _ k => vec_to rfl k | exact fun _ k => blk_of rfl rfl k | exact fun _ k => vec_of rfl k | exact fun _ k => blk_of rfl rfl (blk_to rfl rfl k) | exact fun _ k => vec_of rfl (vec_to rfl k) | exact fun _ k => mp_to rfl k | exact fun _ k => mp_of rfl k | exact fun _ k => mp_of rfl (mp_to rfl k)) (fun h k => sat_nil k) k) ⟨?_, rfl⟩
      simp_all [ret1, endsP, endX]
    · refine FinOb.mk _ [Blks (bl.set i (sblk b (endX x c r) ah))] rfl (fun h k => sat_pick 1 rfl (by first | exact fun _ k => k | exact fun _ k => blk_to rfl rfl k | exact fun _ k => vec_to rfl k | exact fun _ k => blk_of rfl rfl k | exact fun _ k => vec_of rfl k | exact fun _ k => blk_of rfl rfl (blk_to rfl rfl k) | exact fun _ k => vec_of rfl (vec_to rfl k) | exact fun _ k => mp_to rfl k | exact fun _ k => mp_of rfl k | exact fun _ k => mp_of rfl (mp_to rfl k)) (fun h k => sat_nil k) k) ⟨?_, rfl⟩
      simp_all [ret1, endsP, endX]
  refine RdF.told x.q.svs x.q.vals rfl rfl (fun h kk j v hj => ?_) ?_
  · have e : scells (endX x c r) ah = x.q.vals ++ [ptrB ah, .bool true, .bool (!r), .int .i64 c.res] := rfl
    have hj2 : (scells (endX x c r) ah).toArray[j]? = some v := by
      have hjl := (List.getElem?_eq_some_iff.1 hj).1
      rw [List.getElem?_toArray, e, List.getElem?_append_left hjl]; exact hj
    have h9 := told_at 1 rfl hi4 hj2 h kk
    rw [← h9]; congr 1; simp
  refine useP (.int .i64 (if okQ x.q then 0 else 260)) (check_spec x.q hq) rfl rfl ?_
  cases hk : okQ x.q with
  | false =>
    refine CondOb.split (fun _ => ?_) (fun h => absurd h (by decide))
    refine FinOb.mk _ [Blks (bl.set i (sblk b (endX x c r) ah))] rfl (fun h k => sat_pick 1 rfl (by first | exact fun _ k => k | exact fun _ k => blk_to rfl rfl k | exact fun _ k => vec_to rfl k | exact fun _ k => blk_of rfl rfl k | exact fun _ k => vec_of rfl k | exact fun _ k => blk_of rfl rfl (blk_to rfl rfl k) | exact fun _ k => vec_of rfl (vec_to rfl k) | exact fun _ k => mp_to rfl k | exact fun _ k => mp_of rfl k | exact fun _ k => mp_of rfl (mp_to rfl k)) (fun h k => sat_nil k) k) ⟨?_, rfl⟩
    simp_all [ret1, endsP, endX]
  | true =>
    refine CondOb.split (fun h => absurd h (by decide)) (fun _ => ?_)
    refine FinOb.mk _ [Blks (bl.set i (sblk b (endX x c r) ah))] rfl (fun h k => sat_pick 1 rfl (by first | exact fun _ k => k | exact fun _ k => blk_to rfl rfl k | exact fun _ k => vec_to rfl k | exact fun _ k => blk_of rfl rfl k | exact fun _ k => vec_of rfl k | exact fun _ k => blk_of rfl rfl (blk_to rfl rfl k) | exact fun _ k => vec_of rfl (vec_to rfl k) | exact fun _ k => mp_to rfl k | exact fun _ k => mp_of rfl k | exact fun _ k => mp_of rfl (mp_to rfl k)) (fun h k => sat_nil k) k) ⟨?_, rfl⟩
    simp_all [ret1, endsP, endX]
/-! ### done -/
def doneP (x : X) (c : C) (r w : Bool) : Bool × X :=
  if x.ended || c.user != x.q.user || w then (false, x) else
  if c.fl % 2 = 1 then (moreP x c r && okQ x.q, x) else (endsP c (endX x c r), endX x c r)
theorem pdone_spec (bl : List Blk) (i b : Nat) (x : X) (ah : Option Nat) (c : C) (r w : Bool) (hq : x.q.Ok) (hc0 : 0 ≤ c.fl) (hc1 : c.fl ≤ 255) (hi : bl[i]? = some (sblk b x ah)) (hah : AhB bl r w ah) :
    Does Try.prog 105 #[.pointer (some ⟨b, 0, none⟩), .agg c.vals.toArray] (fun _ => True) [Blks bl] (fun v p => v = .bool (doneP x c r w).1 ∧ p = [Blks (bl.set i (sblk b (doneP x c r w).2 ah))]) := by
  refine Does.ofJ Try.func105 Try.call105 rfl [.raw (.pointer (some ⟨b, 0, none⟩)), .agg c.svs] [] 0 [.asn (Blks bl)] rfl rfl (fun h k => sat_pick 0 rfl (by first | exact fun _ k => k | exact fun _ k => blk_to rfl rfl k | exact fun _ k => vec_to rfl k | exact fun _ k => blk_of rfl rfl k | exact fun _ k => vec_of rfl k | exact fun _ k => blk_of rfl rfl (blk_to rfl rfl k) | exact fun _ k => vec_of rfl (vec_to rfl k) | exact fun _ k => mp_to rfl k | exact fun _ k => mp_of rfl k | exact fun _ k => mp_of rfl (mp_to rfl k)) (fun h k => sat_nil k) k) (fun f hR => ?_)
  have hil := (List.getElem?_eq_some_iff.1 hi).1
  have hm := List.mem_of_getElem? hi
  have hset : bl.set i (sblk b x ah) = bl := by
    obtain ⟨h1, h2⟩ := List.getElem?_eq_some_iff.1 hi
    rw [← h2]; exact List.set_getElem_self h1
  intro b1
  refine RegOb.join Unit (fun _ => ⟨56, [(0, .raw (.pointer (some ⟨b, 0, none⟩))), (3, .ptr 0 0), (5, .bool (x.ended || c.user != x.q.user || w))], [(0, .at b1 0)], 1, [.blk 0 139 c.svs, .asn (Blks bl)]⟩) ?_ (fun _ => ?_)
  · refine DrawOb.mk [] (.run [0, 1, 2, 3, 4, 5, 6, 7, 8, 9, 10, 11, 12, 13, 14, 15, 16, 17, 18, 19, 20, 21, 22, 23, 24, 25, 26, 27, 28, 29, 30, 31] .nil) (by kernel_rfl) ?_
    refine RdRaw.told (.bool x.ended) _ rfl (told_at 1 rfl hi rfl) ?_
    refine Br.mk (fun h1 => ?_) (fun h1 => ?_)
    · exact ⟨(), Le.of rfl ⟨⟨_, rfl, rfl⟩, ⟨_, rfl, rfl⟩, ⟨_, rfl, (congrArg (fun x => some (Value.bool x)) (by simp_all))⟩, trivial⟩ (fun h k => sat_pick 0 rfl (by first | exact fun _ k => k | exact fun _ k => blk_to rfl rfl k | exact fun _ k => vec_to rfl k | exact fun _ k => blk_of rfl rfl k | exact fun _ k => vec_of rfl k | exact fun _ k => blk_of rfl rfl (blk_to rfl rfl k) | exact fun _ k => vec_of rfl (vec_to rfl k) | exact fun _ k => mp_to rfl k | exact fun _ k => mp_of rfl k | exact fun _ k => mp_of rfl (mp_to rfl k)) (fun h k => sat_pick 0 rfl (by first | exact fun _ k => k | exact fun _ k => blk_to rfl rfl k | exact fun _ k => vec_to rfl k | exact fun _ k => blk_of rfl rfl k | exact fun _ k => vec_of rfl k | exact fun _ k => blk_of rfl rfl (blk_to rfl rfl k) | exact fun _ k => vec_of rfl (vec_to rfl k) | exact fun _ k => mp_to rfl k | exact fun _ k => mp_of rfl k | exact fun _ k => mp_of rfl (mp_to rfl k)) (fun h k => sat_nil k) k) k)⟩
    refine RdRaw.told (.int .u64 x.q.user) _ rfl (told_at 1 rfl hi rfl) ?_
    refine Br.mk (fun h2 => ?_) (fun h2 => ?_)
    · exact ⟨(), Le.of rfl ⟨⟨_, rfl, rfl⟩, ⟨_, rfl, rfl⟩, ⟨_, rfl, (congrArg (fun x => some (Value.bool x)) (by simp_all))⟩, trivial⟩ (fun h k => sat_pick 0 rfl (by first | exact fun _ k => k | exact fun _ k => blk_to rfl rfl k | exact fun _ k => vec_to rfl k | exact fun _ k => blk_of rfl rfl k | exact fun _ k => vec_of rfl k | exact fun _ k => blk_of rfl rfl (blk_to rfl rfl k) | exact fun _ k => vec_of rfl (vec_to rfl k) | exact fun _ k => mp_to rfl k | exact fun _ k => mp_of rfl k | exact fun _ k => mp_of rfl (mp_to rfl k)) (fun h k => sat_pick 0 rfl (by first | exact fun _ k => k | exact fun _ k => blk_to rfl rfl k | exact fun _ k => vec_to rfl k | exact fun _ k => blk_of rfl rfl k | exact fun _ k => vec_of rfl k | exact fun _ k => blk_of rfl rfl (blk_to rfl rfl k) | exact fun _ k => vec_of rfl (vec_to rfl k) | exact fun _ k => mp_to rfl k | exact fun _ k => mp_of rfl k | exact fun _ k => mp_of rfl (mp_to rfl k)) (fun h k => sat_nil k) k) k)⟩
    refine RdRaw.told (.raw (ptrB ah)) _ rfl (told_at 1 rfl hi rfl) ?_
    cases ah with
    | none =>
      have hw : w = false := hah.2
      exact ⟨(), Le.of rfl ⟨⟨_, rfl, rfl⟩, ⟨_, rfl, rfl⟩, ⟨_, rfl, (congrArg (fun x => some (Value.bool x)) (by simp_all))⟩, trivial⟩ (fun h k => sat_pick 0 rfl (by first | exact fun _ k => k | exact fun _ k => blk_to rfl rfl k | exact fun _ k => vec_to rfl k | exact fun _ k => blk_of rfl rfl k | exact fun _ k => vec_of rfl k | exact fun _ k => blk_of rfl rfl (blk_to rfl rfl k) | exact fun _ k => vec_of rfl (vec_to rfl k) | exact fun _ k => mp_to rfl k | exact fun _ k => mp_of rfl k | exact fun _ k => mp_of rfl (mp_to rfl k)) (fun h k => sat_pick 0 rfl (by first | exact fun _ k => k | exact fun _ k => blk_to rfl rfl k | exact fun _ k => vec_to rfl k | exact fun _ k => blk_of rfl rfl k | exact fun _ k => vec_of rfl k | exact fun _ k => blk_of rfl rfl (blk_to rfl rfl k) | exact fun _ k => vec_of rfl (vec_to rfl k) | exact fun _ k => mp_to rfl k | exact fun _ k => mp_of rfl k | exact fun _ k => mp_of rfl (mp_to rfl k)) (fun h k => sat_nil k) k) k)⟩
    | some ba =>
      obtain ⟨a, aa, hqa, ham, hr, hw⟩ := hah
      refine RdRaw.told (.raw (ptrB (some ba))) _ rfl (told_at 1 rfl hi rfl) ?_
      refine RdRaw.told (.bool a.ended) _ rfl (told_mem 1 rfl ham rfl) ?_
      exact ⟨(), Le.of rfl ⟨⟨_, rfl, rfl⟩, ⟨_, rfl, rfl⟩, ⟨_, rfl, (congrArg (fun x => some (Value.bool x)) (by simp_all))⟩, trivial⟩ (fun h k => sat_pick 0 rfl (by first | exact fun _ k => k | exact fun _ k => blk_to rfl rfl k | exact fun _ k => vec_to rfl k | exact fun _ k => blk_of rfl rfl k | exact fun _ k => vec_of rfl k | exact fun _ k => blk_of rfl rfl (blk_to rfl rfl k) | exact fun _ k => vec_of rfl (vec_to rfl k) | exact fun _ k => mp_to rfl k | exact fun _ k => mp_of rfl k | exact fun _ k => mp_of rfl (mp_to rfl k)) (fun h k => sat_pick 0 rfl (by first | exact fun _ k => k | exact fun _ k => blk_to rfl rfl k | exact fun _ k => vec_to rfl k | exact fun _ k => blk_of rfl rfl k | exact fun _ k => vec_of rfl k | exact fun _ k => blk_of rfl rfl (blk_to rfl rfl k) | exact fun _ k => vec_of rfl (vec_to rfl k) | exact fun _ k => mp_to rfl k | exact fun _ k => mp_of rfl k | exact fun _ k => mp_of rfl (mp_to rfl k)) (fun h k => sat_nil k) k) k)⟩
  refine CondOb.split (fun g1 => ?_) (fun g1 => ?_)
  · have e : doneP x c r w = (false, x) := by unfold doneP; rw [if_pos g1]
    rw [e]
    exact FinOb.mk _ [Blks bl] rfl (fun h k => sat_pick 1 rfl (by first | exact fun _ k => k | exact fun _ k => blk_to rfl rfl k | exact fun _ k => vec_to rfl k | exact fun _ k => blk_of rfl rfl k | exact fun _ k => vec_of rfl k | exact fun _ k => blk_of rfl rfl (blk_to rfl rfl k) | exact fun _ k => vec_of rfl (vec_to rfl k) | exact fun _ k => mp_to rfl k | exact fun _ k => mp_of rfl k | exact fun _ k => mp_of rfl (mp_to rfl k)) (fun h k => sat_nil k) k) ⟨rfl, by rw [hset]⟩
  have eb : (bitsOf .u8 (· &&& ·) c.fl 1 != 0) = decide (c.fl % 2 = 1) := by
    obtain ⟨n, e, h⟩ := nat_of (k := 256) hc0 (by omega)
    have := bits1 n h
    rw [← e] at this
    rw [this, Bool.eq_iff_iff]
    simp only [bne_iff_ne, decide_eq_true_eq, ne_eq]
    omega
  refine CondOb.split (fun g2 => ?_) (fun g2 => ?_)
  · have g2 : c.fl % 2 = 1 := by
      rw [show (bitsOf .u8 (· &&& ·) c.fl 1 != 0) = decide (c.fl % 2 = 1) from eb] at g2
      simpa using g2
    have e : doneP x c r w = (moreP x c r && okQ x.q, x) := by unfold doneP; rw [if_neg (by rw [g1]; decide), if_pos g2]
    rw [e]
    refine RegOb.go ?_
    refine useR (.bool (moreP x c r)) (pmore_spec b x ah c r hq) rfl (fun f' b' hs kk => ⟨rb_told 1 hs kk rfl hm, ah_told 1 hs kk rfl hah⟩) rfl ?_
    refine Br.mk (fun h1 => ?_) (fun h1 => ?_)
    rotate_left
    · exact FinOb.mk _ [Blks bl] rfl (fun h k => sat_pick 1 rfl (by first | exact fun _ k => k | exact fun _ k => blk_to rfl rfl k | exact fun _ k => vec_to rfl k | exact fun _ k => blk_of rfl rfl k | exact fun _ k => vec_of rfl k | exact fun _ k => blk_of rfl rfl (blk_to rfl rfl k) | exact fun _ k => vec_of rfl (vec_to rfl k) | exact fun _ k => mp_to rfl k | exact fun _ k => mp_of rfl k | exact fun _ k => mp_of rfl (mp_to rfl k)) (fun h k => sat_nil k) k) ⟨by simp_all [ret1], by rw [hset]⟩
    refine RdF.told x.q.svs x.q.vals rfl rfl (fun h kk j v hj => ?_) ?_
    · have e : scells x ah = x.q.vals ++ [ptrB ah, .bool x.ended, .bool x.gone, .int .i64 x.res] := rfl
      have hj2 : (scells x ah).toArray[j]? = some v := by
        have hjl := (List.getElem?_eq_some_iff.1 hj).1
        rw [List.getElem?_toArray, e, List.getElem?_append_left hjl]; exact hj
      have h9 := told_at 1 rfl hi hj2 h kk
      rw [← h9]; congr 1; simp
    refine useP (.int .i64 (if okQ x.q then 0 else 260)) (check_spec x.q hq) rfl rfl ?_
    refine FinOb.mk _ [Blks bl] rfl (fun h k => sat_pick 1 rfl (by first | exact fun _ k => k | exact fun _ k => blk_to rfl rfl k | exact fun _ k => vec_to rfl k | exact fun _ k => blk_of rfl rfl k | exact fun _ k => vec_of rfl k | exact fun _ k => blk_of rfl rfl (blk_to rfl rfl k) | exact fun _ k => vec_of rfl (vec_to rfl k) | exact fun _ k => mp_to rfl k | exact fun _ k => mp_of rfl k | exact fun _ k => mp_of rfl (mp_to rfl k)) (fun h k => sat_nil k) k) ⟨?_, by rw [hset]⟩
    cases hk : okQ x.q <;> simp_all [ret1]
  have g2 : ¬ c.fl % 2 = 1 := by
    rw [show (bitsOf .u8 (· &&& ·) c.fl 1 != 0) = decide (c.fl % 2 = 1) from eb] at g2
    simpa using g2
  have e : doneP x c r w = (endsP c (endX x c r), endX x c r) := by unfold doneP; rw [if_neg (by rw [g1]; decide), if_neg g2]
  rw [e]
  refine call_ix (pends_spec bl i b x ah c r w hq hi hah) rfl [1] (fun h k => sat_pick 1 rfl (by first | exact fun _ k => k | exact fun _ k => blk_to rfl rfl k | exact fun _ k => vec_to rfl k | exact fun _ k => blk_of rfl rfl k | exact fun _ k => vec_of rfl k | exact fun _ k => blk_of rfl rfl (blk_to rfl rfl k) | exact fun _ k => vec_of rfl (vec_to rfl k) | exact fun _ k => mp_to rfl k | exact fun _ k => mp_of rfl k | exact fun _ k => mp_of rfl (mp_to rfl k)) (fun h k => sat_pick 0 rfl (by first | exact fun _ k => k | exact fun _ k => blk_to rfl rfl k | exact fun _ k => vec_to rfl k | exact fun _ k => blk_of rfl rfl k | exact fun _ k => vec_of rfl k | exact fun _ k => blk_of rfl rfl (blk_to rfl rfl k) | exact fun _ k => vec_of rfl (vec_to rfl k) | exact fun _ k => mp_to rfl k | exact fun _ k => mp_of rfl k | exact fun _ k => mp_of rfl (mp_to rfl k)) (fun h k => sat_nil k) k) k) (fun f' b' hs _ => trivial) ?_
  rintro v post ⟨rfl, rfl⟩
  refine ⟨.bool (endsP c (endX x c r)), _, 1, [.asn _], NmExt.refl _, rfl, (fun h k => sat_pick 0 rfl (by first | exact fun _ k => k | exact fun _ k => blk_to rfl rfl k | exact fun _ k => vec_to rfl k | exact fun _ k => blk_of rfl rfl k | exact fun _ k => vec_of rfl k | exact fun _ k => blk_of rfl rfl (blk_to rfl rfl k) | exact fun _ k => vec_of rfl (vec_to rfl k) | exact fun _ k => mp_to rfl k | exact fun _ k => mp_of rfl k | exact fun _ k => mp_of rfl (mp_to rfl k)) (fun h k => sat_nil k) k), ?_⟩
  exact FinOb.mk _ [Blks (bl.set i (sblk b (endX x c r) ah))] rfl (fun h k => sat_pick 0 rfl (by first | exact fun _ k => k | exact fun _ k => blk_to rfl rfl k | exact fun _ k => vec_to rfl k | exact fun _ k => blk_of rfl rfl k | exact fun _ k => vec_of rfl k | exact fun _ k => blk_of rfl rfl (blk_to rfl rfl k) | exact fun _ k => vec_of rfl (vec_to rfl k) | exact fun _ k => mp_to rfl k | exact fun _ k => mp_of rfl k | exact fun _ k => mp_of rfl (mp_to rfl k)) (fun h k => sat_nil k) k) ⟨rfl, rfl⟩
end Go.Proofs.Ytlgdagjbphafcaa.Au
