/- agenda: New, Len, Top, Push. Conditions: none. -/
import Derived.Test.YtiknkeakielncaaAgF
namespace Go.Proofs.Ytiknkeakielncaa.Ag
open Go Go.Proofs Sx
set_option maxRecDepth 100000
set_option linter.unusedVariables false
set_option linter.unusedSimpArgs false
set_option maxHeartbeats 4000000

def En.ent (e : En) : List Int × Value := ([e.id], e.ptr)
abbrev KI : KS := .one .i64
theorem find_ent (id : Int) : ∀ K : List En, findL [id] (K.map En.ent) = (K.find? (fun t => id == t.id)).map fun t => t.ptr
  | [] => rfl
  | t :: K => by
    show findL [id] (([t.id], _) :: _) = _
    unfold findL
    rw [List.find?_cons]
    by_cases e : id = t.id
    · subst e; simp
    · rw [if_neg (by simpa using e), show (id == t.id) = false by simpa using e]
      exact find_ent id K
def delT (id : Int) (K : List En) : List En := K.eraseP (fun t => id == t.id)
theorem del_ent (id : Int) : ∀ K : List En, delL [id] (K.map En.ent) = (delT id K).map En.ent
  | [] => rfl
  | t :: K => by
    show delL [id] (([t.id], _) :: _) = _
    unfold delL delT
    rw [List.eraseP_cons]
    by_cases e : id = t.id
    · subst e; simp
    · rw [if_neg (by simpa using e), show (id == t.id) = false by simpa using e]
      show _ :: delL [id] (K.map En.ent) = _
      rw [del_ent id K]; rfl
theorem upd_ent (id : Int) (t : En) (ht : t.id = id) : ∀ K : List En, K.find? (fun t => id == t.id) = none → updL [id] t.ptr (K.map En.ent) = (K ++ [t]).map En.ent
  | [], _ => by subst ht; rfl
  | q :: K, h => by
    rw [List.find?_cons] at h
    cases e : (id == q.id) with
    | true => rw [e] at h; cases h
    | false =>
      rw [e] at h
      show updL [id] _ (([q.id], _) :: _) = _
      unfold updL
      rw [if_neg (by simpa using e), upd_ent id t ht K h]
      rfl
abbrev ap (b : Nat) : Value := .pointer (some ⟨b, 0, none⟩)
/-- All of an agenda. -/
def Ga (b : Nat) (g : Ag) (H K : List En) : List Asn := Hp b g H ++ [MapA g.mb KI (K.map En.ent)]
def g0 (most : Int) (mb : Nat) : Ag := ⟨most, 0, .nil, 0, mb⟩
theorem new_bad (x : Int) (h : x < 1 ∨ 4096 < x) : Does Try.prog 30 #[.int .i64 x] (fun _ => True) [] (fun v p => v = .tuple #[.pointer none, .int .i64 1] ∧ p = []) := by
  refine Does.ofJ Try.func30 Try.call30 rfl [.int .i64 x] [] 0 [] rfl rfl (fun h k => k) (fun f hR => ?_)
  refine RegOb.go ?_
  refine Br.mk (fun g => ?_) (fun g => ?_)
  · exact FinOb.mk [.pointer none, .int .i64 1] [] rfl (fun h k => trivial) ⟨rfl, rfl⟩
  refine CondOb.split (fun g2 => ?_) (fun g2 => ?_)
  · exact FinOb.mk [.pointer none, .int .i64 1] [] rfl (fun h k => trivial) ⟨rfl, rfl⟩
  · have g := of_decide_eq_false g
    have g2 := of_decide_eq_false g2
    omega
theorem es_nil : Es [] HP.emp := trivial
theorem new_spec (x : Int) (h0 : 1 ≤ x) (h1 : x ≤ 4096) : Does Try.prog 30 #[.int .i64 x] (fun _ => True) [] (fun v p => ∃ b mb, v = .tuple #[ap b, .int .i64 0] ∧ p = Ga b (g0 x mb) [] []) := by
  refine Does.ofJ Try.func30 Try.call30 rfl [.int .i64 x] [] 0 [] rfl rfl (fun h k => k) (fun f hR => ?_)
  refine RegOb.go ?_
  refine Br.mk (fun g => absurd (of_decide_eq_true g) (by omega)) (fun g => ?_)
  refine CondOb.split (fun g2 => absurd (of_decide_eq_true g2) (by omega)) (fun g2 => ?_)
  intro mb
  intro b
  refine FinOb.mk [ap b, .int .i64 0] (Ga b (g0 x mb) [] []) rfl (fun h k => ?_) ⟨b, mb, rfl, rfl⟩
  have k1 : sat [pt b (.cells ([.int .i64 x, .int .i64 0, .slice none 0 0, .map (some mb)] : List Value).toArray 162 (0, 0)), MapA mb KI []] h := (fun h k => sat_pick 0 rfl (fun _ k => blk_to (vs := [.int .i64 x, .int .i64 0, .slice none 0 0, .map (some mb)]) rfl rfl k) (fun h k => sat_pick 0 rfl (fun _ k => mp_to rfl k) (fun h k => sat_nil k) k) k) h k
  exact sat_cons (fun _ k => k) (fun h k => sat_add vec_emp (sat_add es_nil k)) k1
theorem known_read {b : Nat} {g : Ag} {n : Nat} (h : HP) (k : Hd b g n h) : fcell h b (0 + 3) = some (.map (some g.mb)) := fcell_of (pt_get h k) rfl
theorem len_spec (b : Nat) (g : Ag) (n : Nat) (K : List En) : Does Try.prog 35 #[ap b] (fun _ => True) [Hd b g n, MapA g.mb KI (K.map En.ent)] (fun v p => v = .int .i64 K.length ∧ p = [Hd b g n, MapA g.mb KI (K.map En.ent)]) := by
  refine Does.ofJ Try.func35 Try.call35 rfl [.raw (ap b)] [(0, .at g.mb 0)] 1 [.asn (Hd b g n), .mp 0 KI (K.map En.ent)] rfl rfl (fun h k => sat_pick 0 rfl (by first | exact fun _ k => k | exact fun _ k => blk_to rfl rfl k | exact fun _ k => vec_to rfl k | exact fun _ k => blk_of rfl rfl k | exact fun _ k => vec_of rfl k | exact fun _ k => blk_of rfl rfl (blk_to rfl rfl k) | exact fun _ k => vec_of rfl (vec_to rfl k) | exact fun _ k => mp_to rfl k | exact fun _ k => mp_of rfl k | exact fun _ k => mp_of rfl (mp_to rfl k)) (fun h k => sat_pick 0 rfl (fun _ k => mp_of rfl k) (fun h k => sat_nil k) k) k) (fun f hR => ?_)
  refine RdRaw.told (.map 0) _ rfl (fun h k => sat_cell 0 rfl (fun x kx => known_read x kx) k) ?_
  exact FinOb.mk _ [Hd b g n, MapA g.mb KI (K.map En.ent)] rfl (fun h k => sat_pick 0 rfl (by first | exact fun _ k => k | exact fun _ k => blk_to rfl rfl k | exact fun _ k => vec_to rfl k | exact fun _ k => blk_of rfl rfl k | exact fun _ k => vec_of rfl k | exact fun _ k => blk_of rfl rfl (blk_to rfl rfl k) | exact fun _ k => vec_of rfl (vec_to rfl k) | exact fun _ k => mp_to rfl k | exact fun _ k => mp_of rfl k | exact fun _ k => mp_of rfl (mp_to rfl k)) (fun h k => sat_pick 0 rfl (fun _ k => mp_to rfl k) (fun h k => sat_nil k) k) k) ⟨by simp [ret1], rfl⟩
def En.item (e : En) : List Value := [.int .i64 e.id, .int .i64 e.at_, .int .i64 e.rank]
def En.itsv (e : En) : List SV := [.int .i64 e.id, .int .i64 e.at_, .int .i64 e.rank]
def E0 : En := ⟨0, 0, 0, 0, 0⟩
theorem top_none (b : Nat) (g : Ag) : Does Try.prog 62 #[ap b] (fun _ => True) [Hd b g 0] (fun v p => v = .tuple #[.agg E0.item.toArray, .bool false] ∧ p = [Hd b g 0]) := by
  refine Does.ofJ Try.func62 Try.call62 rfl [.raw (ap b)] [] 0 [.asn (Hd b g 0)] rfl rfl (fun h k => sat_pick 0 rfl (by first | exact fun _ k => k | exact fun _ k => blk_to rfl rfl k | exact fun _ k => vec_to rfl k | exact fun _ k => blk_of rfl rfl k | exact fun _ k => vec_of rfl k | exact fun _ k => blk_of rfl rfl (blk_to rfl rfl k) | exact fun _ k => vec_of rfl (vec_to rfl k) | exact fun _ k => mp_to rfl k | exact fun _ k => mp_of rfl k | exact fun _ k => mp_of rfl (mp_to rfl k)) (fun h k => sat_nil k) k) (fun f hR => ?_)
  intro b2
  refine RegOb.go ?_
  refine RdRaw.told (.raw (.slice (locAddr 0 g.pl) 0 g.cap)) _ rfl (fun h k => sat_cell 1 rfl (fun x kx => hd_sl x kx) k) ?_
  refine CondOb.split (fun _ => ?_) (fun h => absurd h (by decide))
  exact FinOb.mk [.agg E0.item.toArray, .bool false] [Hd b g 0] rfl (fun h k => sat_pick 1 rfl (by first | exact fun _ k => k | exact fun _ k => blk_to rfl rfl k | exact fun _ k => vec_to rfl k | exact fun _ k => blk_of rfl rfl k | exact fun _ k => vec_of rfl k | exact fun _ k => blk_of rfl rfl (blk_to rfl rfl k) | exact fun _ k => vec_of rfl (vec_to rfl k) | exact fun _ k => mp_to rfl k | exact fun _ k => mp_of rfl k | exact fun _ k => mp_of rfl (mp_to rfl k)) (fun h k => sat_nil k) k) ⟨rfl, rfl⟩
theorem top_some (b : Nat) (g : Ag) (H : List En) (x : En) (hx : H[0]? = some x) : Does Try.prog 62 #[ap b] (fun _ => True) (Hp b g H) (fun v p => v = .tuple #[.agg x.item.toArray, .bool true] ∧ p = Hp b g H) := by
  have hl := (List.getElem?_eq_some_iff.1 hx).1
  obtain ⟨most, no, pl, cap, mb⟩ := g
  refine Does.presure (φ := ∃ c o, pl = .at c o) Try.call62 (fun h k => hp_at (by omega) k) (fun hpl => ?_)
  obtain ⟨vb, vo, rfl⟩ := hpl
  refine Does.ofJ Try.func62 Try.call62 rfl [.raw (ap b)] [(0, .at vb vo)] 1 [.asn (Hd b ⟨most, no, .at vb vo, cap, mb⟩ H.length), .vec 0 163 1 cap (PL.flat H), .asn (Es H)] rfl rfl (fun h k => sat_pick 0 rfl (by first | exact fun _ k => k | exact fun _ k => blk_to rfl rfl k | exact fun _ k => vec_to rfl k | exact fun _ k => blk_of rfl rfl k | exact fun _ k => vec_of rfl k | exact fun _ k => blk_of rfl rfl (blk_to rfl rfl k) | exact fun _ k => vec_of rfl (vec_to rfl k) | exact fun _ k => mp_to rfl k | exact fun _ k => mp_of rfl k | exact fun _ k => mp_of rfl (mp_to rfl k)) (fun h k => sat_pick 0 rfl (fun _ k => vec_of rfl k) (fun h k => sat_pick 0 rfl (by first | exact fun _ k => k | exact fun _ k => blk_to rfl rfl k | exact fun _ k => vec_to rfl k | exact fun _ k => blk_of rfl rfl k | exact fun _ k => vec_of rfl k | exact fun _ k => blk_of rfl rfl (blk_to rfl rfl k) | exact fun _ k => vec_of rfl (vec_to rfl k) | exact fun _ k => mp_to rfl k | exact fun _ k => mp_of rfl k | exact fun _ k => mp_of rfl (mp_to rfl k)) (fun h k => sat_nil k) k) k) k) (fun f hR => ?_)
  intro b2
  refine RegOb.go ?_
  refine RdRaw.told (.sl 0 0 H.length cap) _ rfl (fun h k => sat_cell 1 rfl (fun x kx => hd_sl x kx) k) ?_
  refine CondOb.split (fun h => ?_) (fun _ => ?_)
  · have h : ((H.length : Int) == 0) = true := h
    simp at h; subst h; simp at hl
  refine RdRaw.told (.sl 0 0 H.length cap) _ rfl (fun h k => sat_cell 1 rfl (fun x kx => hd_sl x kx) k) ?_
  refine Need.mk (show (0 : Int) ≤ 0 ∧ (0 : Int) < (H.length : Nat) from ⟨by omega, by omega⟩) ?_
  refine RdOb.mk (.raw x.ptr) _ rfl (PL.flat_at hx (j := 0) rfl) ?_
  refine RdF.told x.itsv x.item rfl rfl (fun h k i v hv => ?_) ?_
  · have hs := Seen.at 3 rfl hx k
    match i, hv with
    | 0, hv => cases hv; exact hs.c0
    | 1, hv => cases hv; exact hs.c1
    | 2, hv => cases hv; exact hs.c2
    | n + 3, hv => simp [En.item] at hv
  exact FinOb.mk [.agg x.item.toArray, .bool true] (Hp b ⟨most, no, .at vb vo, cap, mb⟩ H) rfl (fun h k => sat_pick 1 rfl (by first | exact fun _ k => k | exact fun _ k => blk_to rfl rfl k | exact fun _ k => vec_to rfl k | exact fun _ k => blk_of rfl rfl k | exact fun _ k => vec_of rfl k | exact fun _ k => blk_of rfl rfl (blk_to rfl rfl k) | exact fun _ k => vec_of rfl (vec_to rfl k) | exact fun _ k => mp_to rfl k | exact fun _ k => mp_of rfl k | exact fun _ k => mp_of rfl (mp_to rfl k)) (fun h k => sat_pick 1 rfl (fun _ k => vec_to rfl k) (fun h k => sat_pick 1 rfl (by first | exact fun _ k => k | exact fun _ k => blk_to rfl rfl k | exact fun _ k => vec_to rfl k | exact fun _ k => blk_of rfl rfl k | exact fun _ k => vec_of rfl k | exact fun _ k => blk_of rfl rfl (blk_to rfl rfl k) | exact fun _ k => vec_of rfl (vec_to rfl k) | exact fun _ k => mp_to rfl k | exact fun _ k => mp_of rfl k | exact fun _ k => mp_of rfl (mp_to rfl k)) (fun h k => sat_nil k) k) k) k) ⟨rfl, rfl⟩
end Go.Proofs.Ytiknkeakielncaa.Ag
