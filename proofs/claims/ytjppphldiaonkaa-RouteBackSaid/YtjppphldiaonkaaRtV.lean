/- route: All. Conditions: none. -/
import Derived.Test.YtjppphldiaonkaaRtU
namespace Go.Proofs.Ytjppphldiaonkaa.Rt
open Go Go.Proofs Sx
set_option maxRecDepth 100000
set_option linter.unusedVariables false
set_option linter.unusedSimpArgs false
set_option maxHeartbeats 4000000

/-- All ways in and below a net, to a depth. -/
def walk (T : List Nd) : Nat → Int → Nat → List R
  | 0, _, _ => []
  | d + 1, x, k => match nodeAt T x k with
    | none => []
    | some m => m.ws ++ (walk T d x (k + 1) ++ walk T d (x + halfOf k) (k + 1))
theorem walk_none {T : List Nd} {x : Int} {k : Nat} (h : nodeAt T x k = none) : ∀ d, walk T d x k = []
  | 0 => rfl
  | d + 1 => by show (match nodeAt T x k with | none => [] | some m => _) = _; rw [h]
def tip (T : List Nd) (x : Int) (k : Nat) : SV := .raw (.pointer ((nodeAt T x k).map fun m => ⟨m.b, 0, none⟩))
/-- The closure's two cells. -/
def C1 (c1 : Nat) (pl : Plc) (len c : Nat) : Asn := pt c1 (.cells #[.slice (locAddr 0 pl) len c] 29 (0, 0))
def C2 (c1 c2 : Nat) : Asn := pt c2 (.cells #[.func (.func 50) #[] #[.pointer (some ⟨c1, 0, none⟩), .pointer (some ⟨c2, 0, none⟩)]] 102 (0, 0))
theorem walk_spec (tb : Nat) (n : Int) (T : List Nd) (hi : TI tb T) (hf : ∀ m ∈ T, m.ws.length ≤ 64) (c1 c2 : Nat) : ∀ (d : Nat) (x : Int) (k : Nat), k + d = 33 → ∀ (pl : Plc) (c : Nat) (l : List R), l.length ≤ c → l.length + (walk T d x k).length ≤ 100000 →
    Does Try.prog 50 #[kidP (keys T) x k, .pointer (some ⟨c1, 0, none⟩), .pointer (some ⟨c2, 0, none⟩)] (fun _ => True) [Bs n T, Vs T, C1 c1 pl l.length c, C2 c1 c2, Vec pl 26 5 c (RL.flat l)]
      (fun v p => ∃ (pl' : Plc) (c' : Nat), v = .tuple #[] ∧ (l ++ walk T d x k).length ≤ c' ∧ p = [Bs n T, Vs T, C1 c1 pl' (l ++ walk T d x k).length c', C2 c1 c2, Vec pl' 26 5 c' (RL.flat (l ++ walk T d x k))]) := by
  intro d
  induction d with
  | zero =>
    intro x k hk pl c l hlc hlen
    have hno : nodeAt T x k = none := by
      cases e : nodeAt T x k with
      | none => rfl
      | some m =>
        obtain ⟨h1, h2, h3⟩ := nodeAt_some e
        have := (hi.net m h1).1
        omega
    rw [kidP_no hno]
    refine Does.ofJ Try.func50 Try.call50 rfl [.raw (.pointer none), .raw (.pointer (some ⟨c1, 0, none⟩)), .raw (.pointer (some ⟨c2, 0, none⟩))] [] 0 [.asn (Bs n T), .asn (Vs T), .asn (C1 c1 pl l.length c), .asn (C2 c1 c2), .asn (Vec pl 26 5 c (RL.flat l))] rfl rfl (fun h k => k) (fun f hR => ?_)
    refine FinOb.mk [] [Bs n T, Vs T, C1 c1 pl l.length c, C2 c1 c2, Vec pl 26 5 c (RL.flat l)] rfl (fun h k => k) ⟨pl, c, rfl, ?_, ?_⟩
    · show (l ++ []).length ≤ c
      rw [List.append_nil]; exact hlc
    · show _ = [Bs n T, Vs T, C1 c1 pl (l ++ []).length c, C2 c1 c2, Vec pl 26 5 c (RL.flat (l ++ []))]
      rw [List.append_nil]
  | succ d ih =>
    intro x k hk pl c l hlc hlen
    cases e : nodeAt T x k with
    | none =>
      rw [kidP_no e, walk_none e]
      refine Does.ofJ Try.func50 Try.call50 rfl [.raw (.pointer none), .raw (.pointer (some ⟨c1, 0, none⟩)), .raw (.pointer (some ⟨c2, 0, none⟩))] [] 0 [.asn (Bs n T), .asn (Vs T), .asn (C1 c1 pl l.length c), .asn (C2 c1 c2), .asn (Vec pl 26 5 c (RL.flat l))] rfl rfl (fun h k => k) (fun f hR => ?_)
      refine FinOb.mk [] [Bs n T, Vs T, C1 c1 pl l.length c, C2 c1 c2, Vec pl 26 5 c (RL.flat l)] rfl (fun h k => k) ⟨pl, c, rfl, ?_, ?_⟩
      · rw [List.append_nil]; exact hlc
      · rw [List.append_nil]
    | some m =>
      obtain ⟨hm, hmx, hmk⟩ := nodeAt_some e
      have hwk : walk T (d + 1) x k = m.ws ++ (walk T d x (k + 1) ++ walk T d (x + halfOf k) (k + 1)) := by show (match nodeAt T x k with | none => [] | some m => _) = _; rw [e]
      rw [hwk] at hlen ⊢
      rw [kidP_at e]
      have hml := hf m hm
      simp only [List.length_append] at hlen
      refine Does.ofJ Try.func50 Try.call50 rfl [.raw (.pointer (some ⟨m.b, 0, none⟩)), .ptr 0 0, .ptr 1 0] [(0, .at c1 0), (1, .at c2 0), (2, pl)] 3 [.asn (Bs n T), .asn (Vs T), .blk 0 29 [.sl 2 0 l.length c], .blk 1 102 [.fn (.func 50) [] [.ptr 0 0, .ptr 1 0]], .vec 2 26 5 c (RL.flat l)] rfl rfl (fun h k => sat_pick 0 rfl (by first | exact fun _ k => k | exact fun _ k => blk_to rfl rfl k | exact fun _ k => vec_to rfl k | exact fun _ k => blk_of rfl rfl k | exact fun _ k => vec_of rfl k | exact fun _ k => blk_of rfl rfl (blk_to rfl rfl k) | exact fun _ k => vec_of rfl (vec_to rfl k) | exact fun _ k => mp_to rfl k | exact fun _ k => mp_of rfl k | exact fun _ k => mp_of rfl (mp_to rfl k)) (fun h k => sat_pick 0 rfl (by first | exact fun _ k => k | exact fun _ k => blk_to rfl rfl k | exact fun _ k => vec_to rfl k | exact fun _ k => blk_of rfl rfl k | exact fun _ k => vec_of rfl k | exact fun _ k => blk_of rfl rfl (blk_to rfl rfl k) | exact fun _ k => vec_of rfl (vec_to rfl k) | exact fun _ k => mp_to rfl k | exact fun _ k => mp_of rfl k | exact fun _ k => mp_of rfl (mp_to rfl k)) (fun h k => sat_pick 0 rfl (fun _ k => blk_of rfl rfl k) (fun h k => sat_pick 0 rfl (fun _ k => blk_of rfl rfl k) (fun h k => sat_pick 0 rfl (fun _ k => vec_of rfl k) (fun h k => sat_nil k) k) k) k) k) k) (fun f hR => ?_)
      refine DrawOb.mk [(5, [0])] (.run [0, 1, 2, 3, 4, 5, 6, 7] .nil) (by kernel_rfl) ?_
      refine RdRaw.told (.raw (.slice (locAddr 0 m.pl) m.ws.length m.cap)) _ rfl (fun h k => sat_cell 0 rfl (fun x kx => bs_cell hm (j := 0) rfl x kx) k) ?_
      refine call_ix (told_spec (locAddr 0 m.pl) m.cap m.ws (by omega)) rfl [] (fun h k => k) (fun f' b' hs kb => vs_reads 1 hs kb rfl hm) ?_
      rintro v post ⟨pl2, c2', rfl, hc2, rfl⟩
      refine ⟨.sl 3 0 m.ws.length c2', [(3, pl2), (0, .at c1 0), (1, .at c2 0), (2, pl)], 4, [.vec 3 26 5 c2' (RL.flat m.ws)], NmExt.push rfl, rfl, (fun h k => sat_pick 0 rfl (fun _ k => vec_of rfl k) (fun h k => sat_nil k) k), ?_⟩
      have hF : (RL.flat l).length = l.length * 5 := lR l
      refine Need.mk rfl ?_
      refine Need.mk (by rw [lR]; omega) ?_
      refine Need.mk ⟨by rw [hF]; omega, by omega, hlc⟩ ?_
      refine Need.mk ⟨by omega, by simp only [maxLen]; omega, fun v hv => RL.flat_one' m.ws v (List.mem_of_mem_drop (List.mem_of_mem_take hv))⟩ ?_
      refine NewSl.any (fun pl6 c6 hc6 => ?_)
      have hfl : List.take (l.length * 5) (List.drop 0 (RL.flat l)) ++ List.take (m.ws.length * 5) (List.drop 0 (RL.flat m.ws)) = RL.flat (l ++ m.ws) := by
        rw [List.drop_zero, List.take_of_length_le (by rw [hF]; exact Nat.le_refl _), List.drop_zero, List.take_of_length_le (by rw [lR]; exact Nat.le_refl _), RL.flat_append]
      have hlen6 : (l ++ m.ws).length = l.length + m.ws.length := List.length_append
      refine DrawOb.mk [] (.run [0, 1, 2, 3, 4, 5, 6] .nil) (by kernel_rfl) ?_
      refine Need.mk (by decide) ?_
      have hk0 : ∀ h, Bs n T h → fcell h m.b (0 + 1 + (0 : Int).toNat * 1) = some (kidP (keys T) x (k + 1)) := fun h kh => bs_cell hm (j := 1) (by rw [← hmx, ← hmk]; rfl) h kh
      have hk1 : ∀ h, Bs n T h → fcell h m.b (0 + 1 + (1 : Int).toNat * 1) = some (kidP (keys T) (x + halfOf k) (k + 1)) := fun h kh => bs_cell hm (j := 2) (by rw [← hmx, ← hmk]; rfl) h kh
      refine RdRaw.told (.raw (kidP (keys T) x (k + 1))) _ rfl (fun h hh => sat_cell 3 rfl hk0 hh) ?_
      refine call_ix (ih x (k + 1) (by omega) pl6 c6 (l ++ m.ws) (by rw [hlen6]; exact hc6) (by rw [hlen6]; omega)) rfl [3, 3, 0, 2, 0] (fun h k => sat_pick 3 rfl (by first | exact fun _ k => k | exact fun _ k => blk_to rfl rfl k | exact fun _ k => vec_to rfl k | exact fun _ k => blk_of rfl rfl k | exact fun _ k => vec_of rfl k | exact fun _ k => blk_of rfl rfl (blk_to rfl rfl k) | exact fun _ k => vec_of rfl (vec_to rfl k) | exact fun _ k => mp_to rfl k | exact fun _ k => mp_of rfl k | exact fun _ k => mp_of rfl (mp_to rfl k)) (fun h k => sat_pick 3 rfl (by first | exact fun _ k => k | exact fun _ k => blk_to rfl rfl k | exact fun _ k => vec_to rfl k | exact fun _ k => blk_of rfl rfl k | exact fun _ k => vec_of rfl k | exact fun _ k => blk_of rfl rfl (blk_to rfl rfl k) | exact fun _ k => vec_of rfl (vec_to rfl k) | exact fun _ k => mp_to rfl k | exact fun _ k => mp_of rfl k | exact fun _ k => mp_of rfl (mp_to rfl k)) (fun h k => sat_pick 0 rfl (fun _ k => ?_) (fun h k => sat_pick 2 rfl (fun _ k => blk_to rfl rfl k) (fun h k => sat_pick 0 rfl (fun _ k => ?_) (fun h k => sat_pick 0 rfl (by first | exact fun _ k => k | exact fun _ k => blk_to rfl rfl k | exact fun _ k => vec_to rfl k | exact fun _ k => blk_of rfl rfl k | exact fun _ k => vec_of rfl k | exact fun _ k => blk_of rfl rfl (blk_to rfl rfl k) | exact fun _ k => vec_of rfl (vec_to rfl k) | exact fun _ k => mp_to rfl k | exact fun _ k => mp_of rfl k | exact fun _ k => mp_of rfl (mp_to rfl k)) (fun h k => sat_nil k) k) k) k) k) k) k) (fun _ _ _ _ => trivial) ?_
      · have k := blk_to (b := c1) (vs := [.slice (locAddr 0 pl6) (l.length + m.ws.length) c6]) rfl rfl k
        unfold C1
        rw [hlen6]; exact k
      · have k := vec_to (l := pl6) rfl k
        rw [hfl] at k; exact k
      rintro v post ⟨pl7, c7, rfl, hc7, rfl⟩
      generalize el1 : l ++ m.ws ++ walk T d x (k + 1) = l1 at *
      have hl1 : l1.length = l.length + m.ws.length + (walk T d x (k + 1)).length := by rw [← el1]; simp; omega
      refine ⟨.tuple [], (5, pl7) :: [(4, pl6), (3, pl2), (0, .at c1 0), (1, .at c2 0), (2, pl)], 6, [.asn (Bs n T), .asn (Vs T), .blk 0 29 [.sl 5 0 l1.length c7], .blk 1 102 [.fn (.func 50) [] [.ptr 0 0, .ptr 1 0]], .vec 5 26 5 c7 (RL.flat l1)], NmExt.push rfl, rfl, (fun h k => sat_pick 0 rfl (by first | exact fun _ k => k | exact fun _ k => blk_to rfl rfl k | exact fun _ k => vec_to rfl k | exact fun _ k => blk_of rfl rfl k | exact fun _ k => vec_of rfl k | exact fun _ k => blk_of rfl rfl (blk_to rfl rfl k) | exact fun _ k => vec_of rfl (vec_to rfl k) | exact fun _ k => mp_to rfl k | exact fun _ k => mp_of rfl k | exact fun _ k => mp_of rfl (mp_to rfl k)) (fun h k => sat_pick 0 rfl (by first | exact fun _ k => k | exact fun _ k => blk_to rfl rfl k | exact fun _ k => vec_to rfl k | exact fun _ k => blk_of rfl rfl k | exact fun _ k => vec_of rfl k | exact fun _ k => blk_of rfl rfl (blk_to rfl rfl k) | exact fun _ k => vec_of rfl (vec_to rfl k) | exact fun _ k => mp_to rfl k | exact fun _ k => mp_of rfl k | exact fun _ k => mp_of rfl (mp_to rfl k)) (fun h k => sat_pick 0 rfl (fun _ k => blk_of rfl rfl k) (fun h k => sat_pick 0 rfl (fun _ k => blk_of rfl rfl k) (fun h k => sat_pick 0 rfl (fun _ k => vec_of rfl k) (fun h k => sat_nil k) k) k) k) k) k), ?_⟩
      refine DrawOb.mk [] (.run [0, 1, 2, 3, 4, 5, 6] .nil) (by kernel_rfl) ?_
      refine Need.mk (by decide) ?_
      refine RdRaw.told (.raw (kidP (keys T) (x + halfOf k) (k + 1))) _ rfl (fun h hh => sat_cell 0 rfl hk1 hh) ?_
      refine call_ix (ih (x + halfOf k) (k + 1) (by omega) pl7 c7 l1 hc7 (by omega)) rfl [0, 0, 0, 0, 0] (fun h k => sat_pick 0 rfl (by first | exact fun _ k => k | exact fun _ k => blk_to rfl rfl k | exact fun _ k => vec_to rfl k | exact fun _ k => blk_of rfl rfl k | exact fun _ k => vec_of rfl k | exact fun _ k => blk_of rfl rfl (blk_to rfl rfl k) | exact fun _ k => vec_of rfl (vec_to rfl k) | exact fun _ k => mp_to rfl k | exact fun _ k => mp_of rfl k | exact fun _ k => mp_of rfl (mp_to rfl k)) (fun h k => sat_pick 0 rfl (by first | exact fun _ k => k | exact fun _ k => blk_to rfl rfl k | exact fun _ k => vec_to rfl k | exact fun _ k => blk_of rfl rfl k | exact fun _ k => vec_of rfl k | exact fun _ k => blk_of rfl rfl (blk_to rfl rfl k) | exact fun _ k => vec_of rfl (vec_to rfl k) | exact fun _ k => mp_to rfl k | exact fun _ k => mp_of rfl k | exact fun _ k => mp_of rfl (mp_to rfl k)) (fun h k => sat_pick 0 rfl (fun _ k => blk_to rfl rfl k) (fun h k => sat_pick 0 rfl (fun _ k => blk_to rfl rfl k) (fun h k => sat_pick 0 rfl (fun _ k => vec_to rfl k) (fun h k => sat_pick 0 rfl (by first | exact fun _ k => k | exact fun _ k => blk_to rfl rfl k | exact fun _ k => vec_to rfl k | exact fun _ k => blk_of rfl rfl k | exact fun _ k => vec_of rfl k | exact fun _ k => blk_of rfl rfl (blk_to rfl rfl k) | exact fun _ k => vec_of rfl (vec_to rfl k) | exact fun _ k => mp_to rfl k | exact fun _ k => mp_of rfl k | exact fun _ k => mp_of rfl (mp_to rfl k)) (fun h k => sat_nil k) k) k) k) k) k) k) (fun _ _ _ _ => trivial) ?_
      rintro v post ⟨pl8, c8, rfl, hc8, rfl⟩
      have el2 : l1 ++ walk T d (x + halfOf k) (k + 1) = l ++ (m.ws ++ (walk T d x (k + 1) ++ walk T d (x + halfOf k) (k + 1))) := by rw [← el1]; simp
      rw [el2] at hc8 ⊢
      refine ⟨.tuple [], [(5, pl7), (4, pl6), (3, pl2), (0, .at c1 0), (1, .at c2 0), (2, pl)], 6, [.asn (Bs n T), .asn (Vs T), .asn (C1 c1 pl8 (l ++ (m.ws ++ (walk T d x (k + 1) ++ walk T d (x + halfOf k) (k + 1)))).length c8), .asn (C2 c1 c2), .asn (Vec pl8 26 5 c8 (RL.flat (l ++ (m.ws ++ (walk T d x (k + 1) ++ walk T d (x + halfOf k) (k + 1))))))], NmExt.refl _, rfl, fun h k => k, ?_⟩
      exact FinOb.mk [] _ rfl (fun h k => sat_pick 0 rfl (by first | exact fun _ k => k | exact fun _ k => blk_to rfl rfl k | exact fun _ k => vec_to rfl k | exact fun _ k => blk_of rfl rfl k | exact fun _ k => vec_of rfl k | exact fun _ k => blk_of rfl rfl (blk_to rfl rfl k) | exact fun _ k => vec_of rfl (vec_to rfl k) | exact fun _ k => mp_to rfl k | exact fun _ k => mp_of rfl k | exact fun _ k => mp_of rfl (mp_to rfl k)) (fun h k => sat_pick 0 rfl (by first | exact fun _ k => k | exact fun _ k => blk_to rfl rfl k | exact fun _ k => vec_to rfl k | exact fun _ k => blk_of rfl rfl k | exact fun _ k => vec_of rfl k | exact fun _ k => blk_of rfl rfl (blk_to rfl rfl k) | exact fun _ k => vec_of rfl (vec_to rfl k) | exact fun _ k => mp_to rfl k | exact fun _ k => mp_of rfl k | exact fun _ k => mp_of rfl (mp_to rfl k)) (fun h k => sat_pick 0 rfl (by first | exact fun _ k => k | exact fun _ k => blk_to rfl rfl k | exact fun _ k => vec_to rfl k | exact fun _ k => blk_of rfl rfl k | exact fun _ k => vec_of rfl k | exact fun _ k => blk_of rfl rfl (blk_to rfl rfl k) | exact fun _ k => vec_of rfl (vec_to rfl k) | exact fun _ k => mp_to rfl k | exact fun _ k => mp_of rfl k | exact fun _ k => mp_of rfl (mp_to rfl k)) (fun h k => sat_pick 0 rfl (by first | exact fun _ k => k | exact fun _ k => blk_to rfl rfl k | exact fun _ k => vec_to rfl k | exact fun _ k => blk_of rfl rfl k | exact fun _ k => vec_of rfl k | exact fun _ k => blk_of rfl rfl (blk_to rfl rfl k) | exact fun _ k => vec_of rfl (vec_to rfl k) | exact fun _ k => mp_to rfl k | exact fun _ k => mp_of rfl k | exact fun _ k => mp_of rfl (mp_to rfl k)) (fun h k => sat_pick 0 rfl (by first | exact fun _ k => k | exact fun _ k => blk_to rfl rfl k | exact fun _ k => vec_to rfl k | exact fun _ k => blk_of rfl rfl k | exact fun _ k => vec_of rfl k | exact fun _ k => blk_of rfl rfl (blk_to rfl rfl k) | exact fun _ k => vec_of rfl (vec_to rfl k) | exact fun _ k => mp_to rfl k | exact fun _ k => mp_of rfl k | exact fun _ k => mp_of rfl (mp_to rfl k)) (fun h k => sat_nil k) k) k) k) k) k) ⟨pl8, c8, rfl, hc8, rfl⟩
theorem all_spec (tb : Nat) (n : Int) (T : List Nd) (hi : TI tb T) (hf : ∀ m ∈ T, m.ws.length ≤ 64) (hw : (walk T 33 0 0).length ≤ 100000) :
    Does Try.prog 17 #[.pointer (some ⟨tb, 0, none⟩)] (fun _ => True) [Bs n T, Vs T]
      (fun v p => ∃ (pl : Plc) (c : Nat), v = .slice (locAddr 0 pl) (walk T 33 0 0).length c ∧ (walk T 33 0 0).length ≤ c ∧ p = [Bs n T, Vs T, Vec pl 26 5 c (RL.flat (walk T 33 0 0))]) := by
  refine Does.ofJ Try.func17 Try.call17 rfl [.raw (.pointer (some ⟨tb, 0, none⟩))] [] 0 [.asn (Bs n T), .asn (Vs T)] rfl rfl (fun h k => sat_pick 0 rfl (by first | exact fun _ k => k | exact fun _ k => blk_to rfl rfl k | exact fun _ k => vec_to rfl k | exact fun _ k => blk_of rfl rfl k | exact fun _ k => vec_of rfl k | exact fun _ k => blk_of rfl rfl (blk_to rfl rfl k) | exact fun _ k => vec_of rfl (vec_to rfl k) | exact fun _ k => mp_to rfl k | exact fun _ k => mp_of rfl k | exact fun _ k => mp_of rfl (mp_to rfl k)) (fun h k => sat_pick 0 rfl (by first | exact fun _ k => k | exact fun _ k => blk_to rfl rfl k | exact fun _ k => vec_to rfl k | exact fun _ k => blk_of rfl rfl k | exact fun _ k => vec_of rfl k | exact fun _ k => blk_of rfl rfl (blk_to rfl rfl k) | exact fun _ k => vec_of rfl (vec_to rfl k) | exact fun _ k => mp_to rfl k | exact fun _ k => mp_of rfl k | exact fun _ k => mp_of rfl (mp_to rfl k)) (fun h k => sat_nil k) k) k) (fun f hR => ?_)
  obtain ⟨r, hr, hrx, hrk, hrb⟩ := hi.at0
  intro b3 b4
  refine DrawOb.mk [] (.run [0, 1, 2, 3, 4] .nil) (by kernel_rfl) ?_
  have hroot : kidP (keys T) 0 0 = .pointer (some ⟨tb, 0, none⟩) := by
    have := nodeAt_self hi.nd hr
    rw [hrx, hrk] at this
    rw [kidP_at this, hrb]
  have hspec := walk_spec tb n T hi hf b3 b4 33 0 0 rfl .nil 0 [] (Nat.le_refl _) (by simpa using hw)
  rw [hroot] at hspec
  refine call_ix hspec rfl [2, 2, 1, 0] (fun h k => sat_pick 2 rfl (by first | exact fun _ k => k | exact fun _ k => blk_to rfl rfl k | exact fun _ k => vec_to rfl k | exact fun _ k => blk_of rfl rfl k | exact fun _ k => vec_of rfl k | exact fun _ k => blk_of rfl rfl (blk_to rfl rfl k) | exact fun _ k => vec_of rfl (vec_to rfl k) | exact fun _ k => mp_to rfl k | exact fun _ k => mp_of rfl k | exact fun _ k => mp_of rfl (mp_to rfl k)) (fun h k => sat_pick 2 rfl (by first | exact fun _ k => k | exact fun _ k => blk_to rfl rfl k | exact fun _ k => vec_to rfl k | exact fun _ k => blk_of rfl rfl k | exact fun _ k => vec_of rfl k | exact fun _ k => blk_of rfl rfl (blk_to rfl rfl k) | exact fun _ k => vec_of rfl (vec_to rfl k) | exact fun _ k => mp_to rfl k | exact fun _ k => mp_of rfl k | exact fun _ k => mp_of rfl (mp_to rfl k)) (fun h k => sat_pick 1 rfl (fun _ k => blk_to rfl rfl k) (fun h k => sat_pick 0 rfl (fun _ k => blk_to rfl rfl k) (fun h k => sat_add vec_emp ((fun h k => sat_nil k) h k)) k) k) k) k) (fun _ _ _ _ => trivial) ?_
  rintro v post ⟨pl8, c8, rfl, hc8, rfl⟩
  rw [List.nil_append] at hc8 ⊢
  refine ⟨.tuple [], (2, pl8) :: [(1, .at b4 0), (0, .at b3 0)], 3, [.asn (Bs n T), .asn (Vs T), .blk 0 29 [.sl 2 0 (walk T 33 0 0).length c8], .asn (C2 b3 b4), .vec 2 26 5 c8 (RL.flat (walk T 33 0 0))], NmExt.push rfl, rfl, (fun h k => sat_pick 0 rfl (by first | exact fun _ k => k | exact fun _ k => blk_to rfl rfl k | exact fun _ k => vec_to rfl k | exact fun _ k => blk_of rfl rfl k | exact fun _ k => vec_of rfl k | exact fun _ k => blk_of rfl rfl (blk_to rfl rfl k) | exact fun _ k => vec_of rfl (vec_to rfl k) | exact fun _ k => mp_to rfl k | exact fun _ k => mp_of rfl k | exact fun _ k => mp_of rfl (mp_to rfl k)) (fun h k => sat_pick 0 rfl (by first | exact fun _ k => k | exact fun _ k => blk_to rfl rfl k | exact fun _ k => vec_to rfl k | exact fun _ k => blk_of rfl rfl k | exact fun _ k => vec_of rfl k | exact fun _ k => blk_of rfl rfl (blk_to rfl rfl k) | exact fun _ k => vec_of rfl (vec_to rfl k) | exact fun _ k => mp_to rfl k | exact fun _ k => mp_of rfl k | exact fun _ k => mp_of rfl (mp_to rfl k)) (fun h k => sat_pick 0 rfl (fun _ k => blk_of rfl rfl k) (fun h k => sat_pick 0 rfl (by first | exact fun _ k => k | exact fun _ k => blk_to rfl rfl k | exact fun _ k => vec_to rfl k | exact fun _ k => blk_of rfl rfl k | exact fun _ k => vec_of rfl k | exact fun _ k => blk_of rfl rfl (blk_to rfl rfl k) | exact fun _ k => vec_of rfl (vec_to rfl k) | exact fun _ k => mp_to rfl k | exact fun _ k => mp_of rfl k | exact fun _ k => mp_of rfl (mp_to rfl k)) (fun h k => sat_pick 0 rfl (fun _ k => vec_of rfl k) (fun h k => sat_nil k) k) k) k) k) k), ?_⟩
  exact FinOb.mk [.slice (locAddr 0 pl8) (walk T 33 0 0).length c8] [Bs n T, Vs T, Vec pl8 26 5 c8 (RL.flat (walk T 33 0 0))] rfl (fun h k => sat_pick 0 rfl (by first | exact fun _ k => k | exact fun _ k => blk_to rfl rfl k | exact fun _ k => vec_to rfl k | exact fun _ k => blk_of rfl rfl k | exact fun _ k => vec_of rfl k | exact fun _ k => blk_of rfl rfl (blk_to rfl rfl k) | exact fun _ k => vec_of rfl (vec_to rfl k) | exact fun _ k => mp_to rfl k | exact fun _ k => mp_of rfl k | exact fun _ k => mp_of rfl (mp_to rfl k)) (fun h k => sat_pick 0 rfl (by first | exact fun _ k => k | exact fun _ k => blk_to rfl rfl k | exact fun _ k => vec_to rfl k | exact fun _ k => blk_of rfl rfl k | exact fun _ k => vec_of rfl k | exact fun _ k => blk_of rfl rfl (blk_to rfl rfl k) | exact fun _ k => vec_of rfl (vec_to rfl k) | exact fun _ k => mp_to rfl k | exact fun _ k => mp_of rfl k | exact fun _ k => mp_of rfl (mp_to rfl k)) (fun h k => sat_pick 2 rfl (fun _ k => vec_to rfl k) (fun h k => sat_nil k) k) k) k) ⟨pl8, c8, rfl, hc8, rfl⟩
end Go.Proofs.Ytjppphldiaonkaa.Rt
