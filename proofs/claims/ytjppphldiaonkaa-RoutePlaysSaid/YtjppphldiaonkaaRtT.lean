/- route: a net's node, made where it must be. Conditions: none. -/
import Derived.Test.YtjppphldiaonkaaRtS
namespace Go.Proofs.Ytjppphldiaonkaa.Rt
open Go Go.Proofs Sx
set_option maxRecDepth 100000
set_option linter.unusedVariables false
set_option linter.unusedSimpArgs false
set_option maxHeartbeats 4000000

theorem nodeAt_more {T U : List Nd} {x : Int} {k : Nat} (h : nodeAt T x k ≠ none) : nodeAt (T ++ U) x k = nodeAt T x k := by
  unfold nodeAt at *
  rw [List.find?_append]
  cases e : T.find? (fun m => m.x == x && m.k == k) with
  | none => exact absurd e h
  | some m => rfl
theorem TI.push {tb : Nat} {T : List Nd} {m : Nd} {a : Int} (b : Nat) (hi : TI tb T) (a0 : 0 ≤ a) (a1 : a ≤ 4294967295) (hm : m ∈ T) (hk : m.k < 32) (hx : m.x = netOf a m.k) (hno : nodeAt T (netOf a ((m.k + 1 : Nat) : Int)) (m.k + 1) = none) : TI tb (T ++ [kidOf a m.k b]) := by
  have hmn : nodeAt T (netOf a m.k) m.k ≠ none := by rw [← hx, nodeAt_self hi.nd hm]; simp
  have hle := netOf_le a (m.k + 1) (by omega) a0
  have cases_ : ∀ {φ : Nd → Prop}, (∀ q ∈ T, φ q) → φ (kidOf a m.k b) → ∀ q ∈ T ++ [kidOf a m.k b], φ q := fun h1 h2 q hq => by
    rcases List.mem_append.1 hq with h | h
    · exact h1 q h
    · simp only [List.mem_singleton] at h
      subst h; exact h2
  refine ⟨?_, ?_, cases_ hi.net ⟨by show m.k + 1 ≤ 32; omega, hle.1, by have := hle.2; show netOf a ((m.k + 1 : Nat) : Int) ≤ _; omega, netOf_netOf a _ _ (Nat.le_refl _) (by omega)⟩, cases_ (fun q hq j hj => ?_) (fun j hj => ?_), cases_ hi.ord (fun i j x y h => by simp [kidOf] at h), cases_ hi.way (fun w hw => by simp [kidOf] at hw), cases_ hi.cap (Nat.le_refl _), cases_ hi.at_ (fun h => absurd rfl h)⟩
  · obtain ⟨r, T', e, h1⟩ := hi.root
    exact ⟨r, T' ++ [kidOf a m.k b], by rw [e]; rfl, h1⟩
  · rw [List.map_append, List.nodup_append]
    refine ⟨hi.nd, by simp, fun x hx y hy => ?_⟩
    obtain ⟨q, hq, rfl⟩ := List.mem_map.1 hx
    simp only [List.map_cons, List.map_nil, List.mem_singleton] at hy
    subst hy
    intro e
    simp only [Prod.mk.injEq] at e
    exact nodeAt_none hno q hq e
  · rw [nodeAt_more (hi.up q hq j hj)]
    exact hi.up q hq j hj
  · have hj : m.k + 1 = j + 1 := hj
    obtain rfl : j = m.k := by omega
    show nodeAt _ (netOf (netOf a ((m.k + 1 : Nat) : Int)) m.k) m.k ≠ none
    rw [netOf_netOf a _ _ (by omega) (by omega), nodeAt_more hmn]
    exact hmn
theorem net_make (tb : Nat) (n : Int) (T : List Nd) (hi : TI tb T) (a : Int) (a0 : 0 ≤ a) (a1 : a ≤ 4294967295) (k : Nat) (hk : k ≤ 32) :
    Does Try.prog 43 #[.pointer (some ⟨tb, 0, none⟩), .int .u32 a, .int .i64 k, .bool true] (fun _ => True) [Bs n T, Vs T]
      (fun v p => ∃ (E : List Nd) (m : Nd), (∀ e ∈ E, e.ws = []) ∧ TI tb (T ++ E) ∧ m ∈ T ++ E ∧ m.x = netOf a k ∧ m.k = k ∧ v = .pointer (some ⟨m.b, 0, none⟩) ∧ p = [Bs n (T ++ E), Vs (T ++ E)]) := by
  refine Does.ofJ Try.func43 Try.call43 rfl [.raw (.pointer (some ⟨tb, 0, none⟩)), .int .u32 a, .int .i64 k, .tt] [] 0 [.asn (Bs n T), .asn (Vs T)] rfl rfl (fun h k => sat_pick 0 rfl (by first | exact fun _ k => k | exact fun _ k => blk_to rfl rfl k | exact fun _ k => vec_to rfl k | exact fun _ k => blk_of rfl rfl k | exact fun _ k => vec_of rfl k | exact fun _ k => blk_of rfl rfl (blk_to rfl rfl k) | exact fun _ k => vec_of rfl (vec_to rfl k) | exact fun _ k => mp_to rfl k | exact fun _ k => mp_of rfl k | exact fun _ k => mp_of rfl (mp_to rfl k)) (fun h k => sat_pick 0 rfl (by first | exact fun _ k => k | exact fun _ k => blk_to rfl rfl k | exact fun _ k => vec_to rfl k | exact fun _ k => blk_of rfl rfl k | exact fun _ k => vec_of rfl k | exact fun _ k => blk_of rfl rfl (blk_to rfl rfl k) | exact fun _ k => vec_of rfl (vec_to rfl k) | exact fun _ k => mp_to rfl k | exact fun _ k => mp_of rfl k | exact fun _ k => mp_of rfl (mp_to rfl k)) (fun h k => sat_nil k) k) k) (fun f hR => ?_)
  obtain ⟨r, hr, hrx, hrk, hrb⟩ := hi.at0
  refine LoopOb.mk { z : List Nd × Nd // z.2 ∈ T ++ z.1 ∧ TI tb (T ++ z.1) ∧ (∀ e ∈ z.1, e.ws = []) ∧ z.2.k ≤ k ∧ z.2.x = netOf a z.2.k } (fun z => ⟨46, [(0, .raw (.pointer (some ⟨tb, 0, none⟩))), (1, .int .u32 a), (2, .int .i64 k), (3, .tt), (9, .raw (.pointer (some ⟨z.1.2.b, 0, none⟩))), (15, .int .i64 k), (16, .int .i64 z.1.2.k)], [], 0, [.asn (Bs n (T ++ z.1.1)), .asn (Vs (T ++ z.1.1))]⟩) (fun z => k - z.1.2.k)
    ⟨([], r), by simpa using hr, by simpa using hi, by simp, by show r.k ≤ k; omega, by show r.x = netOf a r.k; rw [hrx, hrk, netOf_zero a a0 a1]⟩ ?_ ?_
  · refine Le.of rfl ⟨⟨_, rfl, rfl⟩, ⟨_, rfl, rfl⟩, ⟨_, rfl, rfl⟩, ⟨_, rfl, rfl⟩, ⟨_, rfl, ?_⟩, ⟨_, rfl, rfl⟩, ⟨_, rfl, ?_⟩, trivial⟩ ?_
    · show _ = some (Value.pointer (some ⟨r.b, 0, none⟩))
      rw [hrb]; rfl
    · show _ = some (Value.int .i64 r.k)
      rw [hrk]; rfl
    · simp only [List.append_nil]
      exact fun h k => k
  rintro ⟨⟨E, m⟩, hm, hiE, hE, hmk, hmx⟩
  simp only at hm hiE hE hmk hmx
  refine CondOb.split (fun g => ?_) (fun g => ?_)
  · have g : m.k < k := by
      have g := of_decide_eq_true g
      have : (m.k : Int) < k := g
      omega
    refine useP (.int .i64 (a / halfOf m.k % 2)) ((bit_spec a m.k a0 a1 (by omega) (by omega)).mono ?_) rfl rfl ?_
    · rintro v p ⟨rfl, rfl⟩
      refine ⟨?_, rfl⟩
      unfold halfOf
      rw [show (31 - (m.k : Int)).toNat = 31 - m.k by omega]
    obtain ⟨_, hb0, hb1⟩ := bit_two (a / halfOf m.k)
    refine Need.mk ⟨hb0, hb1⟩ ?_
    have ho : ∀ {T : List Nd}, m ∈ T → ∀ h, sat [Bs n T, Vs T] h → fcell h m.b (0 + 1 + (a / halfOf m.k % 2).toNat * 1) = some (kidP (keys T) (netOf a ((m.k + 1 : Nat) : Int)) (m.k + 1)) := fun {T} hm h hh => by
      rw [Nat.zero_add, Nat.mul_one]
      exact sat_cell 0 rfl (fun x kx => bs_cell hm (kid_cell (by omega) hmx) x kx) hh
    cases e : nodeAt (T ++ E) (netOf a ((m.k + 1 : Nat) : Int)) (m.k + 1) with
    | none =>
      have ho1 := ho hm
      rw [kidP_no e] at ho1
      refine RdRaw.told (.raw (.pointer none)) _ rfl ho1 ?_
      intro b
      refine Need.mk ⟨hb0, hb1⟩ ?_
      refine StRaw.mk [.pointer (some ⟨b, 0, none⟩)] rfl [.asn (Bs n (T ++ E ++ [kidOf a m.k b])), .asn (Vs (T ++ E ++ [kidOf a m.k b]))] (fun h hh => ?_) ?_
      · have h3 : sat [pt b (.cells #[.slice none 0 0, .pointer none, .pointer none] 93 (0, 0)), Bs n (T ++ E), Vs (T ++ E)] h := sat_cons (fun _ k => blk_to rfl rfl k) (fun _ k => k) hh
        have := tree_push hiE hm (by omega) hmx e h h3
        rw [Nat.zero_add, Nat.mul_one]
        exact this
      have hi2 := hiE.push b a0 a1 hm (by omega) hmx e
      have ei : IntKind.i64.wrap ((m.k : Int) + 1) = ((m.k + 1 : Nat) : Int) := by rw [w64 (by omega) (by omega)]; omega
      have ho2 := ho (T := T ++ E ++ [kidOf a m.k b]) (List.mem_append_left _ hm)
      have e2 := nodeAt_new (T ++ E) (kidOf a m.k b) e
      have e2 : nodeAt (T ++ E ++ [kidOf a m.k b]) (netOf a ((m.k + 1 : Nat) : Int)) (m.k + 1) = some (kidOf a m.k b) := e2
      rw [kidP_at e2] at ho2
      refine Need.mk ⟨hb0, hb1⟩ ?_
      refine RdRaw.told (.raw (.pointer (some ⟨b, 0, none⟩))) _ rfl ho2 ?_
      refine ⟨⟨(E ++ [kidOf a m.k b], kidOf a m.k b), by simp, by rw [← List.append_assoc]; exact hi2, ?_, by show m.k + 1 ≤ k; omega, rfl⟩, by show k - (m.k + 1) < k - m.k; omega, Le.of rfl ⟨⟨_, rfl, rfl⟩, ⟨_, rfl, rfl⟩, ⟨_, rfl, rfl⟩, ⟨_, rfl, rfl⟩, ⟨_, rfl, rfl⟩, ⟨_, rfl, rfl⟩, ⟨_, rfl, congrArg (fun z => some (Value.int .i64 z)) ei⟩, trivial⟩ ?_⟩
      · intro q hq
        rcases List.mem_append.1 hq with h | h
        · exact hE q h
        · simp only [List.mem_singleton] at h
          subst h; rfl
      · simp only [← List.append_assoc]
        exact fun h k => k
    | some m2 =>
      obtain ⟨h1, h2, h3⟩ := nodeAt_some e
      have ei : IntKind.i64.wrap ((m.k : Int) + 1) = (m2.k : Int) := by rw [h3, w64 (by omega) (by omega)]; omega
      have ho1 := ho hm
      rw [kidP_at e] at ho1
      refine RdRaw.told (.raw (.pointer (some ⟨m2.b, 0, none⟩))) _ rfl ho1 ?_
      refine Need.mk ⟨hb0, hb1⟩ ?_
      refine RdRaw.told (.raw (.pointer (some ⟨m2.b, 0, none⟩))) _ rfl ho1 ?_
      refine ⟨⟨(E, m2), h1, hiE, hE, by show m2.k ≤ k; omega, by show m2.x = netOf a m2.k; rw [h2, h3]⟩, by show k - m2.k < k - m.k; omega, Le.of rfl ⟨⟨_, rfl, rfl⟩, ⟨_, rfl, rfl⟩, ⟨_, rfl, rfl⟩, ⟨_, rfl, rfl⟩, ⟨_, rfl, rfl⟩, ⟨_, rfl, rfl⟩, ⟨_, rfl, congrArg (fun z => some (Value.int .i64 z)) ei⟩, trivial⟩ (fun h k => k)⟩
  · have g : m.k = k := by
      have g := of_decide_eq_false g
      have : ¬ (m.k : Int) < k := g
      omega
    exact FinOb.mk [.pointer (some ⟨m.b, 0, none⟩)] [Bs n (T ++ E), Vs (T ++ E)] rfl (fun h k => sat_pick 0 rfl (by first | exact fun _ k => k | exact fun _ k => blk_to rfl rfl k | exact fun _ k => vec_to rfl k | exact fun _ k => blk_of rfl rfl k | exact fun _ k => vec_of rfl k | exact fun _ k => blk_of rfl rfl (blk_to rfl rfl k) | exact fun _ k => vec_of rfl (vec_to rfl k) | exact fun _ k => mp_to rfl k | exact fun _ k => mp_of rfl k | exact fun _ k => mp_of rfl (mp_to rfl k)) (fun h k => sat_pick 0 rfl (by first | exact fun _ k => k | exact fun _ k => blk_to rfl rfl k | exact fun _ k => vec_to rfl k | exact fun _ k => blk_of rfl rfl k | exact fun _ k => vec_of rfl k | exact fun _ k => blk_of rfl rfl (blk_to rfl rfl k) | exact fun _ k => vec_of rfl (vec_to rfl k) | exact fun _ k => mp_to rfl k | exact fun _ k => mp_of rfl k | exact fun _ k => mp_of rfl (mp_to rfl k)) (fun h k => sat_nil k) k) k) ⟨E, m, hE, hiE, hm, by rw [hmx, g], g, rfl, rfl⟩
end Go.Proofs.Ytjppphldiaonkaa.Rt
