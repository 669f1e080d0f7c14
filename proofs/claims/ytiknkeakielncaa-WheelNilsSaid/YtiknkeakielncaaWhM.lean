/- wheel: Next. Conditions: none. -/
import Derived.Test.YtiknkeakielncaaWhL
namespace Go.Proofs.Ytiknkeakielncaa.Wh
open Go Go.Proofs Sx
set_option maxRecDepth 100000
set_option linter.unusedVariables false
set_option linter.unusedSimpArgs false
set_option maxHeartbeats 4000000

def NextR (K : List T) (n : Int) (ok : Bool) : Prop := (K = [] ∧ n = 0 ∧ ok = false) ∨ (ok = true ∧ (∃ t ∈ K, t.at_ = n) ∧ ∀ t ∈ K, n ≤ t.at_)
structure Seen (K : List T) (done : List Nat) (n : Int) (ok : Bool) : Prop where
  lt : ∀ i ∈ done, i < K.length
  nd : done.Nodup
  no : ok = false → done = [] ∧ n = 0
  yes : ok = true → ∃ (i : Nat) (t : T), i ∈ done ∧ K[i]? = some t ∧ t.at_ = n
  le : ∀ (i : Nat) (t : T), i ∈ done → K[i]? = some t → n ≤ t.at_
theorem pigeon : ∀ (n : Nat) (d : List Nat), d.Nodup → (∀ i ∈ d, i < n) → d.length ≤ n
  | 0, d, _, h => by
    cases d with
    | nil => simp
    | cons a d => exact absurd (h a (by simp)) (by omega)
  | n + 1, d, nd, h => by
    by_cases hm : n ∈ d
    · have h1 := pigeon n (d.erase n) (nd.erase n) (fun i hi => by
        have h2 := h i (List.mem_of_mem_erase hi)
        have h3 : i ≠ n := fun e => by
          subst e
          exact (nd.not_mem_erase) hi
        omega)
      rw [List.length_erase_of_mem hm] at h1
      omega
    · have h1 := pigeon n d nd (fun i hi => by
        have h2 := h i hi
        have h3 : i ≠ n := fun e => hm (e ▸ hi)
        omega)
      omega
theorem Seen.len {K : List T} {done : List Nat} {n : Int} {ok : Bool} (h : Seen K done n ok) : done.length ≤ K.length := by
  exact pigeon K.length done h.nd h.lt
theorem Seen.step {K : List T} {done : List Nat} {n : Int} {ok : Bool} (h : Seen K done n ok) {i : Nat} {t : T} (hi : K[i]? = some t) (hn : i ∉ done) : (!ok || decide (t.at_ < n)) = true → Seen K (done ++ [i]) t.at_ true := fun hq => by
  have hil := (List.getElem?_eq_some_iff.1 hi).1
  refine ⟨fun j hj => ?_, ?_, fun e => (by cases e), fun _ => ⟨i, t, by simp, hi, rfl⟩, fun j u hj hu => ?_⟩
  · rcases List.mem_append.1 hj with hj | hj
    · exact h.lt j hj
    · simp at hj; subst hj; exact hil
  · rw [List.nodup_append]
    exact ⟨h.nd, by simp, fun a ha b hb => by simp at hb; subst hb; exact fun e => hn (e ▸ ha)⟩
  · rcases List.mem_append.1 hj with hj | hj
    · cases ok with
      | false => rw [(h.no rfl).1] at hj; simp at hj
      | true =>
        have := h.le j u hj hu
        simp at hq; omega
    · simp at hj; subst hj; rw [hi] at hu; cases hu; omega
theorem Seen.skip {K : List T} {done : List Nat} {n : Int} {ok : Bool} (h : Seen K done n ok) {i : Nat} {t : T} (hi : K[i]? = some t) (hn : i ∉ done) : (!ok || decide (t.at_ < n)) = false → Seen K (done ++ [i]) n ok := fun hq => by
  have hil := (List.getElem?_eq_some_iff.1 hi).1
  have hok : ok = true ∧ ¬ t.at_ < n := by simpa using hq
  refine ⟨fun j hj => ?_, ?_, fun e => (by rw [hok.1] at e; cases e), fun e => ?_, fun j u hj hu => ?_⟩
  · rcases List.mem_append.1 hj with hj | hj
    · exact h.lt j hj
    · simp at hj; subst hj; exact hil
  · rw [List.nodup_append]
    exact ⟨h.nd, by simp, fun a ha b hb => by simp at hb; subst hb; exact fun e => hn (e ▸ ha)⟩
  · obtain ⟨j, u, h1, h2, h3⟩ := h.yes e
    exact ⟨j, u, List.mem_append_left _ h1, h2, h3⟩
  · rcases List.mem_append.1 hj with hj | hj
    · exact h.le j u hj hu
    · simp at hj; subst hj; rw [hi] at hu; cases hu; omega
theorem next_spec (b : Nat) (w : W) (fw : Fine w) : Does Try.prog 40 #[.pointer (some ⟨b, 0, none⟩)] (fun _ => True) [Hd b w, MapA w.mb KI (w.K.map T.ent)]
    (fun v p => ∃ n ok, v = .tuple #[.int .i64 n, .bool ok] ∧ NextR w.K n ok ∧ p = [Hd b w, MapA w.mb KI (w.K.map T.ent)]) := by
  refine Does.ofJ Try.func40 Try.call40 rfl [.raw (.pointer (some ⟨b, 0, none⟩))] [(0, .at w.mb 0)] 1 [.asn (Hd b w), .mp 0 KI (w.K.map T.ent)] rfl rfl (fun h k => sat_pick 0 rfl (by first | exact fun _ k => k | exact fun _ k => blk_to rfl rfl k | exact fun _ k => vec_to rfl k | exact fun _ k => blk_of rfl rfl k | exact fun _ k => vec_of rfl k | exact fun _ k => blk_of rfl rfl (blk_to rfl rfl k) | exact fun _ k => vec_of rfl (vec_to rfl k) | exact fun _ k => mp_to rfl k | exact fun _ k => mp_of rfl k | exact fun _ k => mp_of rfl (mp_to rfl k)) (fun h k => sat_pick 0 rfl (fun _ k => mp_of rfl k) (fun h k => sat_nil k) k) k) (fun f hR => ?_)
  refine RdRaw.told (.map 0) _ rfl (fun h k => sat_cell 0 rfl (fun x kx => known_read fw.hl x kx) k) ?_
  intro b12
  refine LoopOb.mk { z : List Nat × Int × Bool // Seen w.K z.1 z.2.1 z.2.2 } (fun z => ⟨29, [(2, .int .i64 z.1.2.1), (3, .bool z.1.2.2), (12, .ptr 1 0)], [(1, .at b12 0), (0, .at w.mb 0)], 2, [.asn (Hd b w), .it 0 1 KI (w.K.map T.ent) z.1.1]⟩) (fun z => w.K.length - z.1.1.length) ⟨([], 0, false), ⟨by simp, by simp, fun _ => ⟨rfl, rfl⟩, fun e => (by cases e), fun i t h => (by simp at h)⟩⟩ ?_ ?_
  · exact Le.of rfl ⟨⟨_, rfl, rfl⟩, ⟨_, rfl, rfl⟩, ⟨_, rfl, rfl⟩, trivial⟩ (fun h k => sat_pick 1 rfl (by first | exact fun _ k => k | exact fun _ k => blk_to rfl rfl k | exact fun _ k => vec_to rfl k | exact fun _ k => blk_of rfl rfl k | exact fun _ k => vec_of rfl k | exact fun _ k => blk_of rfl rfl (blk_to rfl rfl k) | exact fun _ k => vec_of rfl (vec_to rfl k) | exact fun _ k => mp_to rfl k | exact fun _ k => mp_of rfl k | exact fun _ k => mp_of rfl (mp_to rfl k)) (fun h k => sat_pick 0 rfl (fun _ k => k) (fun h k => sat_nil k) k) k)
  rintro ⟨⟨done, n, ok⟩, hs⟩
  simp only at hs
  refine NextOb.mk (fun hall => ?_) (fun i key v hl hnd => ?_)
  · refine FinOb.mk [.int .i64 n, .bool ok] [Hd b w, MapA w.mb KI (w.K.map T.ent)] rfl (fun h k => ?_) ⟨n, ok, rfl, ?_, rfl⟩
    · have k1 := it_drop k
      exact sat_swap (sat_head (fun _ k => mp_to rfl k) k1)
    · have hall2 : ∀ i, i < w.K.length → i ∈ done := fun i hi => hall i (by simpa using hi)
      cases ok with
      | false =>
        obtain ⟨h1, h2⟩ := hs.no rfl
        refine .inl ⟨?_, h2, rfl⟩
        cases e : w.K with
        | nil => rfl
        | cons t K =>
          have := hall2 0 (by rw [e]; simp)
          rw [h1] at this; simp at this
      | true =>
        obtain ⟨i, t, h1, h2, h3⟩ := hs.yes rfl
        refine .inr ⟨rfl, ⟨t, List.mem_of_getElem? h2, h3⟩, fun u hu => ?_⟩
        obtain ⟨j, hj, e⟩ := List.getElem_of_mem hu
        exact hs.le j u (hall2 j hj) (by rw [List.getElem?_eq_getElem hj, e])
  · rw [List.getElem?_map] at hl
    cases ht : w.K[i]? with
    | none => rw [ht] at hl; cases hl
    | some t =>
      rw [ht] at hl
      simp only [Option.map_some, Option.some.injEq, T.ent, Prod.mk.injEq] at hl
      obtain ⟨rfl, rfl⟩ := hl
      refine ⟨.int .i64 t.id, .agg t.svs, rfl, rfl, ?_⟩
      refine LastOb.mk i [t.id] (.agg t.vals.toArray) (.int .i64 t.id) (.agg t.svs) (by simp) (by rw [List.getElem?_map, ht]; rfl) rfl rfl ?_
      intro b5
      refine RegOb.join Unit (fun _ => ⟨29, [(24, .bool (!ok || decide (t.at_ < n))), (5, .ptr 2 0), (2, .int .i64 n), (3, .bool ok), (12, .ptr 1 0)], [(2, .at b5 0), (1, .at b12 0), (0, .at w.mb 0)], 3, [.blk 2 126 t.svs, .it 0 1 KI (w.K.map T.ent) (done ++ [i]), .asn (Hd b w)]⟩) ?_ (fun _ => ?_)
      · refine Br.mk (fun h1 => ?_) (fun h1 => ?_)
        · exact ⟨(), Le.of rfl ⟨⟨_, rfl, (congrArg (fun x => some (Value.bool x)) (by simp [h1]))⟩, ⟨_, rfl, rfl⟩, ⟨_, rfl, rfl⟩, ⟨_, rfl, rfl⟩, ⟨_, rfl, rfl⟩, trivial⟩ (fun h k => sat_pick 0 rfl (by first | exact fun _ k => k | exact fun _ k => blk_to rfl rfl k | exact fun _ k => vec_to rfl k | exact fun _ k => blk_of rfl rfl k | exact fun _ k => vec_of rfl k | exact fun _ k => blk_of rfl rfl (blk_to rfl rfl k) | exact fun _ k => vec_of rfl (vec_to rfl k) | exact fun _ k => mp_to rfl k | exact fun _ k => mp_of rfl k | exact fun _ k => mp_of rfl (mp_to rfl k)) (fun h k => sat_pick 0 rfl (fun _ k => k) (fun h k => sat_pick 0 rfl (by first | exact fun _ k => k | exact fun _ k => blk_to rfl rfl k | exact fun _ k => vec_to rfl k | exact fun _ k => blk_of rfl rfl k | exact fun _ k => vec_of rfl k | exact fun _ k => blk_of rfl rfl (blk_to rfl rfl k) | exact fun _ k => vec_of rfl (vec_to rfl k) | exact fun _ k => mp_to rfl k | exact fun _ k => mp_of rfl k | exact fun _ k => mp_of rfl (mp_to rfl k)) (fun h k => sat_nil k) k) k) k)⟩
        · exact ⟨(), Le.of rfl ⟨⟨_, rfl, (congrArg (fun x => some (Value.bool x)) (by simp [h1]))⟩, ⟨_, rfl, rfl⟩, ⟨_, rfl, rfl⟩, ⟨_, rfl, rfl⟩, ⟨_, rfl, rfl⟩, trivial⟩ (fun h k => sat_pick 0 rfl (by first | exact fun _ k => k | exact fun _ k => blk_to rfl rfl k | exact fun _ k => vec_to rfl k | exact fun _ k => blk_of rfl rfl k | exact fun _ k => vec_of rfl k | exact fun _ k => blk_of rfl rfl (blk_to rfl rfl k) | exact fun _ k => vec_of rfl (vec_to rfl k) | exact fun _ k => mp_to rfl k | exact fun _ k => mp_of rfl k | exact fun _ k => mp_of rfl (mp_to rfl k)) (fun h k => sat_pick 0 rfl (fun _ k => k) (fun h k => sat_pick 0 rfl (by first | exact fun _ k => k | exact fun _ k => blk_to rfl rfl k | exact fun _ k => vec_to rfl k | exact fun _ k => blk_of rfl rfl k | exact fun _ k => vec_of rfl k | exact fun _ k => blk_of rfl rfl (blk_to rfl rfl k) | exact fun _ k => vec_of rfl (vec_to rfl k) | exact fun _ k => mp_to rfl k | exact fun _ k => mp_of rfl k | exact fun _ k => mp_of rfl (mp_to rfl k)) (fun h k => sat_nil k) k) k) k)⟩
      have hlt := (List.getElem?_eq_some_iff.1 ht).1
      refine CondOb.split (fun g => ?_) (fun g => ?_)
      · have h2 := hs.step ht hnd g
        have h3 := h2.len
        exact ⟨⟨(done ++ [i], t.at_, true), h2⟩, by show w.K.length - (done ++ [i]).length < w.K.length - done.length; rw [List.length_append, List.length_singleton] at h3 ⊢; omega, Le.of rfl ⟨⟨_, rfl, rfl⟩, ⟨_, rfl, rfl⟩, ⟨_, rfl, rfl⟩, trivial⟩ (fun h k => sat_pick 2 rfl (by first | exact fun _ k => k | exact fun _ k => blk_to rfl rfl k | exact fun _ k => vec_to rfl k | exact fun _ k => blk_of rfl rfl k | exact fun _ k => vec_of rfl k | exact fun _ k => blk_of rfl rfl (blk_to rfl rfl k) | exact fun _ k => vec_of rfl (vec_to rfl k) | exact fun _ k => mp_to rfl k | exact fun _ k => mp_of rfl k | exact fun _ k => mp_of rfl (mp_to rfl k)) (fun h k => sat_pick 1 rfl (fun _ k => k) (fun h k => sat_nil k) k) k)⟩
      · have h2 := hs.skip ht hnd g
        have h3 := h2.len
        exact ⟨⟨(done ++ [i], n, ok), h2⟩, by show w.K.length - (done ++ [i]).length < w.K.length - done.length; rw [List.length_append, List.length_singleton] at h3 ⊢; omega, Le.of rfl ⟨⟨_, rfl, rfl⟩, ⟨_, rfl, rfl⟩, ⟨_, rfl, rfl⟩, trivial⟩ (fun h k => sat_pick 2 rfl (by first | exact fun _ k => k | exact fun _ k => blk_to rfl rfl k | exact fun _ k => vec_to rfl k | exact fun _ k => blk_of rfl rfl k | exact fun _ k => vec_of rfl k | exact fun _ k => blk_of rfl rfl (blk_to rfl rfl k) | exact fun _ k => vec_of rfl (vec_to rfl k) | exact fun _ k => mp_to rfl k | exact fun _ k => mp_of rfl k | exact fun _ k => mp_of rfl (mp_to rfl k)) (fun h k => sat_pick 1 rfl (fun _ k => k) (fun h k => sat_nil k) k) k)⟩
end Go.Proofs.Ytiknkeakielncaa.Wh
