/- agenda: the pile's methods. Conditions: none. -/
import Derived.Test.YtiknkeakielncaaAgA
namespace Go.Proofs.Ytiknkeakielncaa.Ag
open Go Go.Proofs Sx
set_option maxRecDepth 100000
set_option linter.unusedVariables false
set_option linter.unusedSimpArgs false
set_option maxHeartbeats 4000000

abbrev pp (b : Nat) : Value := .pointer (some ⟨b, 2, none⟩)
theorem hd_sl {b : Nat} {g : Ag} {n : Nat} (h : HP) (k : Hd b g n h) : fcell h b (2 + 0) = some (.slice (locAddr 0 g.pl) n g.cap) := fcell_of (pt_get h k) rfl
theorem plen_spec (b : Nat) (g : Ag) (n : Nat) : Does Try.prog 186 #[pp b] (fun _ => True) [Hd b g n] (fun v p => v = .int .i64 n ∧ p = [Hd b g n]) := by
  refine Does.ofJ Try.func186 Try.call186 rfl [.raw (pp b)] [] 0 [.asn (Hd b g n)] rfl rfl (fun h k => sat_pick 0 rfl (by first | exact fun _ k => k | exact fun _ k => blk_to rfl rfl k | exact fun _ k => vec_to rfl k | exact fun _ k => blk_of rfl rfl k | exact fun _ k => vec_of rfl k | exact fun _ k => blk_of rfl rfl (blk_to rfl rfl k) | exact fun _ k => vec_of rfl (vec_to rfl k) | exact fun _ k => mp_to rfl k | exact fun _ k => mp_of rfl k | exact fun _ k => mp_of rfl (mp_to rfl k)) (fun h k => sat_nil k) k) (fun f hR => ?_)
  refine RdRaw.told (.raw (.slice (locAddr 0 g.pl) n g.cap)) _ rfl (fun h k => sat_cell 0 rfl (fun x kx => hd_sl x kx) k) ?_
  exact FinOb.mk _ [Hd b g n] rfl (fun h k => sat_pick 0 rfl (by first | exact fun _ k => k | exact fun _ k => blk_to rfl rfl k | exact fun _ k => vec_to rfl k | exact fun _ k => blk_of rfl rfl k | exact fun _ k => vec_of rfl k | exact fun _ k => blk_of rfl rfl (blk_to rfl rfl k) | exact fun _ k => vec_of rfl (vec_to rfl k) | exact fun _ k => mp_to rfl k | exact fun _ k => mp_of rfl k | exact fun _ k => mp_of rfl (mp_to rfl k)) (fun h k => sat_nil k) k) ⟨rfl, rfl⟩
theorem hp_at {b : Nat} {g : Ag} {H : List En} {h : HP} (hne : 0 < H.length) (k : sat (Hp b g H) h) : ∃ c o, g.pl = .at c o := by
  obtain ⟨x, _, _, hx, _⟩ := sat_tail k
  exact vec_at (fun e => by
    have := congrArg List.length e
    rw [lP] at this
    have : H.length = 0 := this
    omega) hx
def ltE (x y : En) : Bool := decide (cfE x y < 0)
theorem less_spec (b : Nat) (g : Ag) (H : List En) (i j : Nat) (x y : En) (hi : H[i]? = some x) (hj : H[j]? = some y) :
    Does Try.prog 187 #[pp b, .int .i64 i, .int .i64 j] (fun _ => True) (Hp b g H) (fun v p => v = .bool (ltE x y) ∧ p = Hp b g H) := by
  have hil := (List.getElem?_eq_some_iff.1 hi).1
  have hjl := (List.getElem?_eq_some_iff.1 hj).1
  obtain ⟨most, no, pl, cap, mb⟩ := g
  refine Does.presure (φ := ∃ c o, pl = .at c o) Try.call187 (fun h k => hp_at (by omega) k) (fun hpl => ?_)
  obtain ⟨vb, vo, rfl⟩ := hpl
  refine Does.ofJ Try.func187 Try.call187 rfl [.raw (pp b), .int .i64 i, .int .i64 j] [(0, .at vb vo)] 1 [.asn (Hd b ⟨most, no, .at vb vo, cap, mb⟩ H.length), .vec 0 163 1 cap (PL.flat H), .asn (Es H)] rfl rfl (fun h k => sat_pick 0 rfl (by first | exact fun _ k => k | exact fun _ k => blk_to rfl rfl k | exact fun _ k => vec_to rfl k | exact fun _ k => blk_of rfl rfl k | exact fun _ k => vec_of rfl k | exact fun _ k => blk_of rfl rfl (blk_to rfl rfl k) | exact fun _ k => vec_of rfl (vec_to rfl k) | exact fun _ k => mp_to rfl k | exact fun _ k => mp_of rfl k | exact fun _ k => mp_of rfl (mp_to rfl k)) (fun h k => sat_pick 0 rfl (fun _ k => vec_of rfl k) (fun h k => sat_pick 0 rfl (by first | exact fun _ k => k | exact fun _ k => blk_to rfl rfl k | exact fun _ k => vec_to rfl k | exact fun _ k => blk_of rfl rfl k | exact fun _ k => vec_of rfl k | exact fun _ k => blk_of rfl rfl (blk_to rfl rfl k) | exact fun _ k => vec_of rfl (vec_to rfl k) | exact fun _ k => mp_to rfl k | exact fun _ k => mp_of rfl k | exact fun _ k => mp_of rfl (mp_to rfl k)) (fun h k => sat_nil k) k) k) k) (fun f hR => ?_)
  have hcell : ∀ (i : Nat) (x : En), H[i]? = some x → (PL.flat H)[0 + (i : Int).toNat * 1]? = some x.ptr := fun i x h => by
    rw [Int.toNat_natCast, Nat.zero_add]; exact PL.flat_at h (j := 0) rfl
  refine DrawOb.mk [] (.run [0, 1, 2, 3, 4, 5, 6, 7, 8, 9, 10, 11, 12, 13, 14, 15, 16] .nil) (by kernel_rfl) ?_
  refine RdRaw.told (.sl 0 0 H.length cap) _ rfl (fun h k => sat_cell 0 rfl (fun x kx => hd_sl x kx) k) ?_
  refine Need.mk (show (0 : Int) ≤ (i : Int) ∧ (i : Int) < (H.length : Nat) from ⟨by omega, by omega⟩) ?_
  refine RdOb.mk (.raw x.ptr) _ rfl (hcell i x hi) ?_
  refine RdRaw.told (.sl 0 0 H.length cap) _ rfl (fun h k => sat_cell 0 rfl (fun x kx => hd_sl x kx) k) ?_
  refine Need.mk (show (0 : Int) ≤ (j : Int) ∧ (j : Int) < (H.length : Nat) from ⟨by omega, by omega⟩) ?_
  refine RdOb.mk (.raw y.ptr) _ rfl (hcell j y hj) ?_
  refine useR (.int .i64 (cfE x y)) (against_spec x y) rfl (fun f' b' hs kb => ⟨(Seen.at 2 rfl hi kb).sub hs, (Seen.at 2 rfl hj kb).sub hs⟩) rfl ?_
  exact FinOb.mk _ (Hp b ⟨most, no, .at vb vo, cap, mb⟩ H) rfl (fun h k => sat_pick 0 rfl (by first | exact fun _ k => k | exact fun _ k => blk_to rfl rfl k | exact fun _ k => vec_to rfl k | exact fun _ k => blk_of rfl rfl k | exact fun _ k => vec_of rfl k | exact fun _ k => blk_of rfl rfl (blk_to rfl rfl k) | exact fun _ k => vec_of rfl (vec_to rfl k) | exact fun _ k => mp_to rfl k | exact fun _ k => mp_of rfl k | exact fun _ k => mp_of rfl (mp_to rfl k)) (fun h k => sat_pick 0 rfl (fun _ k => vec_to rfl k) (fun h k => sat_pick 0 rfl (by first | exact fun _ k => k | exact fun _ k => blk_to rfl rfl k | exact fun _ k => vec_to rfl k | exact fun _ k => blk_of rfl rfl k | exact fun _ k => vec_of rfl k | exact fun _ k => blk_of rfl rfl (blk_to rfl rfl k) | exact fun _ k => vec_of rfl (vec_to rfl k) | exact fun _ k => mp_to rfl k | exact fun _ k => mp_of rfl k | exact fun _ k => mp_of rfl (mp_to rfl k)) (fun h k => sat_nil k) k) k) k) ⟨rfl, rfl⟩
/-- A cell of an entry is turned. -/
theorem ens_store {L : List (En × Int)} {q : Nat} {e e' : En} {p p' : Int} {j : Nat} {vs : List Value} (h : L[q]? = some (e, p)) (hb : e'.blk = e.blk) (hj : j + vs.length ≤ 5) (hc : e'.cells p' = putV (e.cells p) j vs) (x : HP) (k : EnsP L x) :
    ∃ c t, x e.blk = some (.cells c t (0, 0)) ∧ j + vs.length ≤ c.size ∧ EnsP (L.set q (e', p')) (upd x e.blk (.cells (putV c.toList j vs).toArray t (0, 0))) := by
  have g1 : (L.map EnA)[q]? = some (pt e.blk (.cells (e.cells p).toArray 166 (0, 0))) := by rw [List.getElem?_map, h]; rfl
  refine ⟨_, _, sat_get k q g1 (fun x kx => pt_get x kx), by rw [List.size_toArray]; exact hj, ?_⟩
  have := sat_upd (pt_upd (.cells (putV (e.cells p) j vs).toArray 166 (0, 0))) q g1 (show sat (L.map EnA) x from k)
  have e4 : (L.set q (e', p')).map EnA = (L.map EnA).set q (pt e.blk (.cells (putV (e.cells p) j vs).toArray 166 (0, 0))) := by
    rw [List.map_set]
    unfold EnA
    rw [hc, hb]
  unfold EnsP Alls
  rw [e4]
  exact this
theorem ens_perm {L M : List (En × Int)} (p : L.Perm M) (h : HP) (k : EnsP L h) : EnsP M h := sat_perm (p.map EnA) k
def swapE (H : List En) (i j : Nat) (x y : En) : List En := (H.set i y).set j x
theorem swap_perm {α : Type} {l : List α} {i j : Nat} {a b : α} (hi : l[i]? = some a) (hj : l[j]? = some b) : ((l.set i b).set j a).Perm l := by
  obtain ⟨hil, rfl⟩ := List.getElem?_eq_some_iff.1 hi
  obtain ⟨hjl, rfl⟩ := List.getElem?_eq_some_iff.1 hj
  exact List.set_set_perm hil hjl
theorem withI_length (H : List En) : (withI H).length = H.length := by simp [withI]
theorem withI_at (H : List En) (k : Nat) : (withI H)[k]? = (H[k]?).map fun e => (e, (k : Int)) := by
  unfold withI
  rw [List.getElem?_map, List.getElem?_zipIdx]
  cases H[k]? <;> simp
theorem withI_swap {H : List En} {i j : Nat} {x y : En} (hi : H[i]? = some x) (hj : H[j]? = some y) :
    (((withI H).set j (y, (i : Int))).set i (x, (j : Int))).Perm (withI (swapE H i j x y)) := by
  have hil := (List.getElem?_eq_some_iff.1 hi).1
  have hjl := (List.getElem?_eq_some_iff.1 hj).1
  have w1 : (withI (swapE H i j x y))[i]? = some (y, (i : Int)) := by
    rw [withI_at]
    unfold swapE
    rw [List.getElem?_set]
    by_cases e : j = i
    · subst e
      rw [hi] at hj; cases hj
      rw [if_pos rfl, if_pos (by simpa using hil)]; rfl
    · rw [if_neg e, List.getElem?_set, if_pos rfl, if_pos hil]; rfl
  have w2 : (withI (swapE H i j x y))[j]? = some (x, (j : Int)) := by
    rw [withI_at]
    unfold swapE
    rw [List.getElem?_set, if_pos rfl, if_pos (by simpa using hjl)]; rfl
  have e : ((withI H).set j (y, (i : Int))).set i (x, (j : Int)) = ((withI (swapE H i j x y)).set i (x, (j : Int))).set j (y, (i : Int)) := by
    apply List.ext_getElem?
    intro k
    have hl1 : (withI H).length = H.length := withI_length H
    have hl2 : (withI (swapE H i j x y)).length = H.length := by rw [withI_length]; unfold swapE; simp
    by_cases k1 : k = i
    · subst k1
      by_cases k2 : j = k
      · subst k2
        rw [hi] at hj; cases hj
        rw [List.getElem?_set, if_pos rfl, List.getElem?_set, if_pos rfl]
        simp [hl1, hl2, hil]
      · rw [List.getElem?_set, if_pos rfl, List.getElem?_set, if_neg k2, List.getElem?_set, if_pos rfl]
        simp [hl1, hl2, hil]
    · by_cases k2 : j = k
      · subst k2
        rw [List.getElem?_set, if_neg (Ne.symm k1), List.getElem?_set, if_pos rfl, List.getElem?_set, if_pos rfl]
        simp [hl1, hl2, hjl]
      · rw [List.getElem?_set, if_neg (Ne.symm k1), List.getElem?_set, if_neg k2, List.getElem?_set, if_neg k2, List.getElem?_set, if_neg (Ne.symm k1), withI_at, withI_at]
        unfold swapE
        rw [List.getElem?_set, if_neg k2, List.getElem?_set, if_neg (Ne.symm k1)]
  rw [e]
  exact swap_perm w1 w2
theorem swap_spec (b : Nat) (g : Ag) (H : List En) (i j : Nat) (x y : En) (hi : H[i]? = some x) (hj : H[j]? = some y) :
    Does Try.prog 190 #[pp b, .int .i64 i, .int .i64 j] (fun _ => True) (Hp b g H) (fun v p => v = .tuple #[] ∧ p = Hp b g (swapE H i j x y)) := by
  have hil := (List.getElem?_eq_some_iff.1 hi).1
  have hjl := (List.getElem?_eq_some_iff.1 hj).1
  obtain ⟨most, no, pl, cap, mb⟩ := g
  refine Does.presure (φ := ∃ c o, pl = .at c o) Try.call190 (fun h k => hp_at (by omega) k) (fun hpl => ?_)
  obtain ⟨vb, vo, rfl⟩ := hpl
  refine Does.ofJ Try.func190 Try.call190 rfl [.raw (pp b), .int .i64 i, .int .i64 j] [(0, .at vb vo)] 1 [.asn (Hd b ⟨most, no, .at vb vo, cap, mb⟩ H.length), .vec 0 163 1 cap (PL.flat H), .asn (Es H)] rfl rfl (fun h k => sat_pick 0 rfl (by first | exact fun _ k => k | exact fun _ k => blk_to rfl rfl k | exact fun _ k => vec_to rfl k | exact fun _ k => blk_of rfl rfl k | exact fun _ k => vec_of rfl k | exact fun _ k => blk_of rfl rfl (blk_to rfl rfl k) | exact fun _ k => vec_of rfl (vec_to rfl k) | exact fun _ k => mp_to rfl k | exact fun _ k => mp_of rfl k | exact fun _ k => mp_of rfl (mp_to rfl k)) (fun h k => sat_pick 0 rfl (fun _ k => vec_of rfl k) (fun h k => sat_pick 0 rfl (by first | exact fun _ k => k | exact fun _ k => blk_to rfl rfl k | exact fun _ k => vec_to rfl k | exact fun _ k => blk_of rfl rfl k | exact fun _ k => vec_of rfl k | exact fun _ k => blk_of rfl rfl (blk_to rfl rfl k) | exact fun _ k => vec_of rfl (vec_to rfl k) | exact fun _ k => mp_to rfl k | exact fun _ k => mp_of rfl k | exact fun _ k => mp_of rfl (mp_to rfl k)) (fun h k => sat_nil k) k) k) k) (fun f hR => ?_)
  have hcell : ∀ (H : List En) (i : Nat) (x : En), H[i]? = some x → (PL.flat H)[0 + (i : Int).toNat * 1]? = some x.ptr := fun H i x h => by
    rw [Int.toNat_natCast, Nat.zero_add]; exact PL.flat_at h (j := 0) rfl
  have n1 : (0 : Int) ≤ (i : Int) ∧ (i : Int) < (H.length : Nat) := by omega
  have n2 : (0 : Int) ≤ (j : Int) ∧ (j : Int) < (H.length : Nat) := by omega
  refine DrawOb.mk [(25, [9])] (.run [0, 1, 2, 3, 4, 5, 6, 7, 8, 9, 10, 11, 12, 13, 14, 15, 16, 17, 18, 19, 20, 21, 22, 23, 24, 25, 26, 27] .nil) (by kernel_rfl) ?_
  refine RdRaw.told (.sl 0 0 H.length cap) _ rfl (fun h k => sat_cell 0 rfl (fun x kx => hd_sl x kx) k) ?_
  refine RdRaw.told (.sl 0 0 H.length cap) _ rfl (fun h k => sat_cell 0 rfl (fun x kx => hd_sl x kx) k) ?_
  refine RdRaw.told (.sl 0 0 H.length cap) _ rfl (fun h k => sat_cell 0 rfl (fun x kx => hd_sl x kx) k) ?_
  refine Need.mk n2 ?_
  refine RdOb.mk (.raw y.ptr) _ rfl (hcell H j y hj) ?_
  refine RdRaw.told (.sl 0 0 H.length cap) _ rfl (fun h k => sat_cell 0 rfl (fun x kx => hd_sl x kx) k) ?_
  refine Need.mk n1 ?_
  refine RdOb.mk (.raw x.ptr) _ rfl (hcell H i x hi) ?_
  refine Need.mk n1 ?_
  refine StOb.mk [y.ptr] rfl (Need.mk (by rw [lP, Int.toNat_natCast]; show 0 + i * 1 + 1 ≤ H.length; omega) ?_)
  refine Need.mk n2 ?_
  have e1 : putV (PL.flat H) (0 + (i : Int).toNat * 1) [y.ptr] = PL.flat (H.set i y) := by
    rw [Int.toNat_natCast, Nat.zero_add]; exact PL.flat_set hil
  have e2 : putV (PL.flat (H.set i y)) (0 + (j : Int).toNat * 1) [x.ptr] = PL.flat (swapE H i j x y) := by
    rw [Int.toNat_natCast, Nat.zero_add]; exact PL.flat_set (by simpa using hjl)
  rw [e1]
  refine StOb.mk [x.ptr] rfl (Need.mk (by rw [lP, Int.toNat_natCast]; simp; omega) ?_)
  rw [e2]
  have hlen : (swapE H i j x y).length = H.length := by unfold swapE; simp
  have a1 : (swapE H i j x y)[i]? = some y := by
    unfold swapE
    rw [List.getElem?_set]
    by_cases e : j = i
    · subst e
      rw [hi] at hj; cases hj
      rw [if_pos rfl, if_pos (by simpa using hil)]
    · rw [if_neg e, List.getElem?_set, if_pos rfl, if_pos hil]
  have a2 : (swapE H i j x y)[j]? = some x := by
    unfold swapE
    rw [List.getElem?_set, if_pos rfl, if_pos (by simpa using hjl)]
  refine DrawOb.mk [(18, [15])] (.run [0, 1, 2, 3, 4, 5, 6, 7, 8, 9, 10, 11, 12, 13, 14, 15, 16, 17, 18, 19, 20, 21] .nil) (by kernel_rfl) ?_
  refine RdRaw.told (.sl 0 0 H.length cap) _ rfl (fun h k => sat_cell 1 rfl (fun x kx => hd_sl x kx) k) ?_
  refine Need.mk n1 ?_
  refine RdOb.mk (.raw y.ptr) _ rfl (hcell _ i y a1) ?_
  refine RdRaw.told (.sl 0 0 H.length cap) _ rfl (fun h k => sat_cell 1 rfl (fun x kx => hd_sl x kx) k) ?_
  refine Need.mk n2 ?_
  refine RdOb.mk (.raw x.ptr) _ rfl (hcell _ j x a2) ?_
  refine StRaw.on 2 (EnsP ((withI H).set j (y, (i : Int)))) [.int .i64 i] rfl rfl (fun q kq => ens_store (j := 4) (withI_get hj) rfl (by show 4 + 1 ≤ 5; omega) rfl q kq) ?_
  refine StRaw.on 2 (EnsP (((withI H).set j (y, (i : Int))).set i (x, (j : Int)))) [.int .i64 j] rfl rfl (fun q kq => ens_store (j := 4) (p := i) (by
    rw [List.getElem?_set]
    by_cases e : j = i
    · subst e
      rw [hi] at hj; cases hj
      rw [if_pos rfl, if_pos (by rw [withI_length]; exact hil)]
    · rw [if_neg e]; exact withI_get hi) rfl (by show 4 + 1 ≤ 5; omega) rfl q kq) ?_
  refine FinOb.mk [] (Hp b ⟨most, no, .at vb vo, cap, mb⟩ (swapE H i j x y)) rfl (fun h k => sat_pick 1 rfl (fun _ k => by rw [hlen]; exact k) (fun h k => sat_pick 0 rfl (fun _ k => vec_to rfl k) (fun h k => sat_pick 0 rfl (fun h k => ens_perm (withI_swap hi hj) h k) (fun h k => sat_nil k) k) k) k) ⟨rfl, rfl⟩
end Go.Proofs.Ytiknkeakielncaa.Ag
