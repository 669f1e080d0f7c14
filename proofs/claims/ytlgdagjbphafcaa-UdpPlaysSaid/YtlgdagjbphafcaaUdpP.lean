/- A box and its reference answer alike: the plain part. Conditions: none. -/
import Derived.Test.YtlgdagjbphafcaaUdpZ
namespace Go.Proofs.Ytlgdagjbphafcaa.Udp
open Go Go.Proofs Sx
set_option maxRecDepth 100000
set_option linter.unusedVariables false

/-- What is common to a datagram of the box and one of the reference. -/
abbrev Key := Int × Int × List Value
def M.key (m : M) : Key := (m.a, m.p, m.xs)
def Q.key (q : Q) : Key := (q.a, q.p, q.xs)
def refOf (x : B) (qs : List Q) : RB := ⟨x.most, x.room, x.a, x.p, x.lost, x.told, qs⟩
def Sim (ms : List M) (qs : List Q) : Prop := ms.map M.key = qs.map Q.key
theorem Sim.len {ms : List M} {qs : List Q} (h : Sim ms qs) : ms.length = qs.length := by
  have := congrArg List.length h; simpa using this
def ksum (l : List Key) : Nat := (l.map (·.2.2.length)).sum
theorem sum_key (ms : List M) : sum ms = ksum (ms.map M.key) := by simp [sum, ksum, M.key, Function.comp_def]
theorem qsum_key (qs : List Q) : qsum qs = ksum (qs.map Q.key) := by simp [qsum, ksum, Q.key, Function.comp_def]
theorem Sim.sum {ms : List M} {qs : List Q} (h : Sim ms qs) : Udp.sum ms = qsum qs := by rw [sum_key, qsum_key, h]
theorem lets_ref (x : B) (qs : List Q) (a p : Int) : rlets (refOf x qs) a p = lets x a p := rfl
theorem sim_stay {x : B} {qs0 : List Q} : ∀ {ms : List M} {qs : List Q}, Sim ms qs → Sim (stay x ms) (kept (refOf x qs0) qs)
  | [], [], _ => rfl
  | m :: ms, q :: qs, h => by
    simp only [Sim, List.map_cons, List.cons.injEq, M.key, Q.key, Prod.mk.injEq] at h
    obtain ⟨⟨h1, h2, h3⟩, h4⟩ := h
    have ih := sim_stay (x := x) (qs0 := qs0) (show Sim ms qs from h4)
    unfold stay kept
    rw [List.filter_cons, List.filter_cons, lets_ref, h1, h2]
    split
    · simp only [Sim, List.map_cons, M.key, Q.key, h1, h2, h3]
      exact congrArg _ ih
    · exact ih
  | [], _ :: _, h => by simp [Sim] at h
  | _ :: _, [], h => by simp [Sim] at h
theorem sum_stay (x : B) (ms : List M) : sum ms = sum (stay x ms) + drops x ms := by
  induction ms with
  | nil => rfl
  | cons m ms ih =>
    have e : sum (m :: ms) = m.xs.length + sum ms := by simp [sum]
    unfold stay drops at *
    rw [e, ih, List.filter_cons, List.filter_cons]
    cases lets x m.a m.p <;> simp [sum] <;> omega
theorem inv_meet {x : B} {a p : Int} (h : Inv x) (hl : x.lost ≤ 900000000) : Inv (meet x a p) := by
  obtain ⟨i1, i2, i3, i4, i5, i6, i7, ic, i8, i9⟩ := h
  have e := sum_stay { x with a := a, p := p } x.ms
  have hsl : (stay { x with a := a, p := p } x.ms).length ≤ x.ms.length := List.length_filter_le _ _
  refine ⟨i1, i2, i3, i4, ?_, ?_, ?_, fun q hq => ic q (List.mem_filter.1 hq).1, ?_, ?_⟩ <;> simp only [meet] <;> omega
theorem inv_told {x : B} (h : Inv x) (n : Int) : Inv { x with told := n } := by
  obtain ⟨i1, i2, i3, i4, i5, i6, i7, ic, i8, i9⟩ := h
  exact ⟨i1, i2, i3, i4, i5, i6, i7, ic, i8, i9⟩
/-- What Put answers, in both. -/
theorem sim_put {x : B} {qs : List Q} {m : M} {q : Q} (hx : Inv x) (h : Sim x.ms qs) (hk : m.key = q.key) :
    (put x m = (x, 6) ∧ rput (refOf x qs) q = (refOf x qs, 6)) ∨ (put x m = ({ x with lost := x.lost + 1 }, 5) ∧ rput (refOf x qs) q = (refOf { x with lost := x.lost + 1 } qs, 5)) ∨
    (put x m = ({ x with held := x.held + m.xs.length, ms := x.ms ++ [m] }, 0) ∧ rput (refOf x qs) q = (refOf { x with held := x.held + m.xs.length, ms := x.ms ++ [m] } (qs ++ [q]), 0) ∧ Sim (x.ms ++ [m]) (qs ++ [q])) := by
  simp only [M.key, Q.key, Prod.mk.injEq] at hk
  obtain ⟨h1, h2, h3⟩ := hk
  have hlen := h.len
  have hsum := h.sum
  have i5 := hx.len; have i6 := hx.held
  unfold put rput
  rw [lets_ref, h1, h2, h3]
  cases hl : lets x q.a q.p with
  | false => exact .inl ⟨rfl, rfl⟩
  | true =>
    right
    simp only [Bool.true_eq_false, if_false]
    by_cases c : (x.ms.length : Int) = x.most ∨ (q.xs.length : Int) > x.room - x.held
    · left
      rw [if_pos c, if_pos (by simp only [refOf]; omega)]
      exact ⟨rfl, rfl⟩
    · right
      rw [if_neg c, if_neg (by simp only [refOf]; omega)]
      refine ⟨rfl, rfl, ?_⟩
      simp only [Sim] at h ⊢
      rw [List.map_append, List.map_append, h]
      simp [M.key, Q.key, h1, h2, h3]
theorem sim_meet {x : B} {qs : List Q} {a p : Int} (h : Sim x.ms qs) : met (refOf x qs) a p = refOf (meet x a p) (kept (refOf { x with a := a, p := p } qs) qs) ∧ Sim (meet x a p).ms (kept (refOf { x with a := a, p := p } qs) qs) := by
  have hs := sim_stay (x := { x with a := a, p := p }) (qs0 := qs) h
  refine ⟨?_, hs⟩
  have h1 := hs.len
  have h2 := h.len
  simp only [met, meet, refOf]
  have e : kept ⟨x.most, x.room, a, p, x.lost, x.told, qs⟩ qs = kept (refOf { x with a := a, p := p } qs) qs := rfl
  rw [e, h1, h2]
/-- What a datagram of a call reads. -/
structure QOk (f : HP) (q : Q) : Prop where
  reads : Reads f q.A q.xs
  bytes : ∃ s : ByteArray, q.xs = bytesV s
  cap : q.xs.length ≤ q.c
theorem QOk.frame {f f' b : HP} (s : Split f' b f) {q : Q} (h : QOk f q) : QOk f' q := ⟨h.reads.frame s, h.bytes, h.cap⟩
theorem QOk.toBytes {f : HP} {q : Q} (h : QOk f q) : Bytes f q.A q.xs := ⟨h.reads, fun v hv => by
  obtain ⟨s, e⟩ := h.bytes
  rw [e] at hv
  simp only [bytesV, List.mem_map] at hv
  obtain ⟨n, _, rfl⟩ := hv
  exact ⟨_, rfl⟩⟩
/-- What is told is in the frame of another one: a slice. -/
theorem asn_reads {f f' b : HP} {nm : List (Nat × Plc)} {es : List Ent} {t : TypeId} {sz cap : Nat} {xs : List Value} {l : Plc} (n : Nat) (s : Split f' b f) (k : sat (es.map (entDen nm)) b) (hA : es[n]? = some (.asn (Vec l t sz cap xs))) :
    Reads f' (locAddr 0 l) xs := by
  obtain ⟨g, hg, hsub⟩ := frame_of (A := Vec l t sz cap xs) n s k (by simp [hA]; rfl)
  obtain ⟨_, hv⟩ := hg
  rcases hv with ⟨_, hx, _⟩ | ⟨b, o, pre, post, rfl, hp, ho, _⟩
  · subst hx; intro i v hv; simp at hv
  · intro i v hv
    refine ⟨b, o, rfl, ?_⟩
    have hb : g b = some (.cells (pre ++ xs ++ post).toArray t (0, 0)) := by rw [hp]; simp [one]
    have hf := hsub _ _ hb
    have hi := (List.getElem?_eq_some_iff.1 hv).1
    unfold fcell
    rw [hf]
    simp only [List.getElem?_toArray, List.append_assoc]
    rw [List.getElem?_append_right (by omega), ho, show o + i - o = i by omega, List.getElem?_append_left hi]
    exact hv
/-- A call that leaves what it looks at. -/
theorem useA {P : Program} {f : HP} {g : FuncId} {args : List SV} {K : SV → St → Prop} {s : St} {A : Asn} {v : Value} {vals : List Value} (pfx sfx : List Ent) (sv : SV)
    (spec : Does P g vals.toArray (fun _ => True) [A] (fun u p => u = v ∧ p = [A])) (hhp : s.hp = pfx ++ .asn A :: sfx) (hv : denL s.nm args = some vals) (hd : den s.nm sv = some v)
    (h : K sv ⟨s.n, s.env, s.nm, s.next, s.hp⟩) : CallOb P f g args K s := by
  refine call_asn pfx sfx spec hhp hv (fun _ _ _ _ => trivial) ?_
  rintro u post ⟨rfl, rfl⟩
  refine ⟨sv, s.nm, s.next, NmExt.refl _, hd, s.hp, fun h k => ?_, h⟩
  rw [hhp]
  simp only [List.map_append, List.map_cons]
  refine sat_perm ?_ k
  simp only [List.map_append]
  exact (List.perm_middle (a := A) (l₁ := pfx.map (entDen s.nm)) (l₂ := sfx.map (entDen s.nm))).symm
end Go.Proofs.Ytlgdagjbphafcaa.Udp
