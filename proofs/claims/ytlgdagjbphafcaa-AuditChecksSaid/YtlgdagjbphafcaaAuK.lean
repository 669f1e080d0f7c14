/- audit: an entry is taken. Conditions: none. -/
import Derived.Test.YtlgdagjbphafcaaAuJ
namespace Go.Proofs.Ytlgdagjbphafcaa.Au
open Go Go.Proofs Sx
set_option maxRecDepth 100000
set_option linter.unusedVariables false
set_option linter.unusedSimpArgs false
set_option maxHeartbeats 4000000

def ssvs (x : X) (ah : Option Nat) : List SV := [.int .u8 x.q.op, .int .u8 x.q.fl, .int .i64 x.q.fd, .int .u32 x.q.addr, .int .u16 x.q.port, .int .i64 x.q.len, .int .i64 x.q.group, .int .i64 x.q.count, .int .u64 x.q.aux, .int .u64 x.q.user, .raw (.slice x.q.A x.q.n x.q.c),
  .raw (ptrB ah), .bool x.ended, .bool x.gone, .int .i64 x.res]
theorem ids_same {zs : List Z} {z : Z} {h c : Int} (hz : placed h c z.1 = true) : ids (zs ++ [z]) h c = ids zs h c ++ [z.2.1] := by
  unfold ids
  rw [List.filter_append, List.filter_cons_of_pos (by simpa using hz), List.filter_nil, List.map_append]; rfl
theorem ids_other {zs : List Z} {z : Z} {h c : Int} (hz : placed h c z.1 = false) : ids (zs ++ [z]) h c = ids zs h c := by
  unfold ids
  rw [List.filter_append, List.filter_cons_of_neg (by simp [hz]), List.filter_nil, List.append_nil]
theorem placed_iff {h c : Int} {x : X} : placed h c x = true ↔ x.host = h ∧ x.ctx = c := by simp [placed]
theorem not_placed {h c : Int} {x : X} (hn : ¬ (h = x.host ∧ c = x.ctx)) : placed h c x = false := by
  cases hp : placed h c x with
  | false => rfl
  | true => obtain ⟨h1, h2⟩ := placed_iff.1 hp; exact absurd ⟨h1.symm, h2.symm⟩ hn
theorem keys_other {zs : List Z} {z : Z} {ps : List P} (hn : ∀ q ∈ ps, ¬ (q.h = z.1.host ∧ q.c = z.1.ctx)) : ps.map (P.key (zs ++ [z])) = ps.map (P.key zs) ∧ ps.map (P.vec (zs ++ [z])) = ps.map (P.vec zs) := by
  constructor <;> refine List.map_congr_left fun q hq => ?_
  · unfold P.key; rw [ids_other (not_placed (hn q hq))]
  · unfold P.vec; rw [ids_other (not_placed (hn q hq))]
theorem ahz_push {zs : List Z} {z a : Z} (h : AhZ zs a) : AhZ (zs ++ [z]) a := by
  unfold AhZ at h ⊢
  split
  · rename_i ht
    rw [if_pos ht] at h
    obtain ⟨b, h1, h2⟩ := h
    exact ⟨b, List.mem_append_left _ h1, h2⟩
  · rename_i ht
    rw [if_neg ht] at h
    exact h
theorem inv_found {p1 p2 : List P} {p : P} {zs : List Z} (I : Inv (p1 ++ p :: p2) zs) {m : M} (hm : m.Ok) {tied : Bool} {nb b o c' : Nat} {ah : Option Nat} (e1 : p.h = m.host) (e2 : p.c = m.ctx)
    (n1 : ∀ q ∈ p1, ¬ (q.h = p.h ∧ q.c = p.c)) (n2 : ∀ q ∈ p2, ¬ (q.h = p.h ∧ q.c = p.c)) (ht : m.ticket = count (zs.map (·.1)) m.host m.ctx) (hc : (ids zs p.h p.c).length + 1 ≤ c')
    (ha : AhZ zs (X.new m tied, nb, ah)) (few : zs.length < 10000) : Inv (p1 ++ ⟨p.h, p.c, .at b o, c'⟩ :: p2) (zs ++ [(X.new m tied, nb, ah)]) := by
  have hpl : placed p.h p.c (X.new m tied) = true := placed_iff.2 ⟨e1.symm, e2.symm⟩
  have ho : ∀ q, q ∈ p1 ∨ q ∈ p2 → ids (zs ++ [(X.new m tied, nb, ah)]) q.h q.c = ids zs q.h q.c := fun q hq => by
    refine ids_other (not_placed ?_)
    show ¬ (q.h = m.host ∧ q.c = m.ctx)
    rw [← e1, ← e2]
    rcases hq with h | h
    · exact n1 q h
    · exact n2 q h
  have hs : ids (zs ++ [(X.new m tied, nb, ah)]) p.h p.c = ids zs p.h p.c ++ [nb] := ids_same hpl
  have mem : ∀ q ∈ p1 ++ (⟨p.h, p.c, .at b o, c'⟩ : P) :: p2, q = ⟨p.h, p.c, .at b o, c'⟩ ∨ ((q ∈ p1 ∨ q ∈ p2) ∧ q ∈ p1 ++ p :: p2) := fun q hq => by
    rcases List.mem_append.1 hq with h | h
    · exact .inr ⟨.inl h, List.mem_append_left _ h⟩
    · rcases List.mem_cons.1 h with h | h
      · exact .inl h
      · exact .inr ⟨.inr h, List.mem_append_right _ (List.mem_cons_of_mem _ h)⟩
  refine ⟨?_, fun z hz => ?_, fun q hq => ?_, fun q hq => ?_, fun q hq => ?_, ?_, fun z hz => ?_, by simp; omega, fun z hz => ?_⟩
  · have := I.nd
    simp only [List.map_append, List.map_cons] at this ⊢
    exact this
  · rcases List.mem_append.1 hz with h | h
    · obtain ⟨q, hq, h1, h2⟩ := I.cover z h
      rcases List.mem_append.1 hq with h' | h'
      · exact ⟨q, List.mem_append_left _ h', h1, h2⟩
      · rcases List.mem_cons.1 h' with rfl | h'
        · exact ⟨_, List.mem_append_right _ (List.mem_cons_self ..), h1, h2⟩
        · exact ⟨q, List.mem_append_right _ (List.mem_cons_of_mem _ h'), h1, h2⟩
    · simp only [List.mem_singleton] at h
      subst h
      exact ⟨_, List.mem_append_right _ (List.mem_cons_self ..), e1, e2⟩
  · rcases mem q hq with rfl | ⟨h, h'⟩
    · show (ids _ p.h p.c).length ≤ c'
      rw [hs, List.length_append]; exact hc
    · rw [ho q h]; exact I.cap q h'
  · rcases mem q hq with rfl | ⟨h, h'⟩
    · show ids _ p.h p.c ≠ []
      rw [hs]; simp
    · rw [ho q h]; exact I.some q h'
  · rcases mem q hq with rfl | ⟨h, h'⟩
    · exact ⟨b, o, rfl⟩
    · exact I.at_ q h'
  · rw [List.map_append]
    exact I.wf.push hm ht
  · rcases List.mem_append.1 hz with h | h
    · exact ahz_push (I.ah z h)
    · simp only [List.mem_singleton] at h
      subst h
      exact ahz_push ha
  · rcases List.mem_append.1 hz with h | h
    · exact I.gn z h
    · simp only [List.mem_singleton] at h
      subst h
      exact fun _ => rfl
theorem inv_new {ps : List P} {zs : List Z} (I : Inv ps zs) {m : M} (hm : m.Ok) {nb b o c' : Nat} (hp : ∀ q ∈ ps, ¬ (q.h = m.host ∧ q.c = m.ctx)) (h0 : ids zs m.host m.ctx = []) (ht : m.ticket = 0) (hc : 1 ≤ c') (few : zs.length < 10000) :
    Inv (ps ++ [⟨m.host, m.ctx, .at b o, c'⟩]) (zs ++ [(X.new m false, nb, none)]) := by
  have hpl : placed m.host m.ctx (X.new m false) = true := placed_iff.2 ⟨rfl, rfl⟩
  have ho : ∀ q ∈ ps, ids (zs ++ [(X.new m false, nb, none)]) q.h q.c = ids zs q.h q.c := fun q hq => ids_other (not_placed (hp q hq))
  have hs : ids (zs ++ [(X.new m false, nb, none)]) m.host m.ctx = [nb] := by rw [ids_same hpl, h0]; rfl
  have mem : ∀ q ∈ ps ++ [(⟨m.host, m.ctx, .at b o, c'⟩ : P)], q = ⟨m.host, m.ctx, .at b o, c'⟩ ∨ q ∈ ps := fun q hq => by
    rcases List.mem_append.1 hq with h | h
    · exact .inr h
    · simp only [List.mem_singleton] at h; exact .inl h
  refine ⟨?_, fun z hz => ?_, fun q hq => ?_, fun q hq => ?_, fun q hq => ?_, ?_, fun z hz => ?_, by simp; omega, fun z hz => ?_⟩
  · rw [List.map_append]
    refine List.nodup_append.2 ⟨I.nd, by simp, fun a ha b hb e => ?_⟩
    simp only [List.map_cons, List.map_nil, List.mem_singleton] at hb
    obtain ⟨q, hq, rfl⟩ := List.mem_map.1 ha
    rw [hb] at e
    exact hp q hq ⟨congrArg Prod.fst e, congrArg Prod.snd e⟩
  · rcases List.mem_append.1 hz with h | h
    · obtain ⟨q, hq, h1, h2⟩ := I.cover z h
      exact ⟨q, List.mem_append_left _ hq, h1, h2⟩
    · simp only [List.mem_singleton] at h
      subst h
      exact ⟨_, List.mem_append_right _ (List.mem_singleton_self _), rfl, rfl⟩
  · rcases mem q hq with rfl | h
    · show (ids _ m.host m.ctx).length ≤ c'
      rw [hs]; exact hc
    · rw [ho q h]; exact I.cap q h
  · rcases mem q hq with rfl | h
    · show ids _ m.host m.ctx ≠ []
      rw [hs]; simp
    · rw [ho q h]; exact I.some q h
  · rcases mem q hq with rfl | h
    · exact ⟨b, o, rfl⟩
    · exact I.at_ q h
  · rw [List.map_append]
    refine I.wf.push hm ?_
    rw [← ids_length, h0, ht]; rfl
  · rcases List.mem_append.1 hz with h | h
    · exact ahz_push (I.ah z h)
    · simp only [List.mem_singleton] at h
      subst h
      exact rfl
  · rcases List.mem_append.1 hz with h | h
    · exact I.gn z h
    · simp only [List.mem_singleton] at h
      subst h
      exact fun _ => rfl
end Go.Proofs.Ytlgdagjbphafcaa.Au
