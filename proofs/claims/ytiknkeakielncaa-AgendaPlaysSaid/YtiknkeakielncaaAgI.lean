/- agenda: Move, Drop. Conditions: none. -/
import Derived.Test.YtiknkeakielncaaAgH
namespace Go.Proofs.Ytiknkeakielncaa.Ag
open Go Go.Proofs Sx
set_option maxRecDepth 100000
set_option linter.unusedVariables false
set_option linter.unusedSimpArgs false
set_option maxHeartbeats 4000000

abbrev Ids (L : List En) : Prop := L.Pairwise (fun a b => a.id ≠ b.id)
theorem Ids.inj {L : List En} (h : Ids L) : ∀ {a b : En}, a ∈ L → b ∈ L → a.id = b.id → a = b := fun {a b} ha hb e => by
  induction h with
  | nil => simp at ha
  | cons hx _ ih =>
    rcases List.mem_cons.1 ha with rfl | h1 <;> rcases List.mem_cons.1 hb with rfl | h2
    · rfl
    · exact absurd e (hx _ h2)
    · exact absurd e.symm (hx _ h1)
    · exact ih h1 h2
theorem Ids.perm {L M : List En} (h : Ids L) (p : L.Perm M) : Ids M := (p.pairwise_iff (fun {a b} h => Ne.symm h)).1 h
def mv (id at_ rank : Int) (t : En) : En := if t.id = id then { t with at_ := at_, rank := rank } else t
theorem mv_ent (id at_ rank : Int) (K : List En) : (K.map (mv id at_ rank)).map En.ent = K.map En.ent := by
  rw [List.map_map]
  refine List.map_congr_left fun t _ => ?_
  show En.ent (mv id at_ rank t) = En.ent t
  unfold mv
  split <;> rfl
theorem mv_flat (id at_ rank : Int) (H : List En) : PL.flat (H.map (mv id at_ rank)) = PL.flat H := by
  have e : ∀ l : List En, PL.flat l = l.map En.ptr := fun l => by
    induction l with
    | nil => rfl
    | cons a l ih => rw [PL.flat_cons, ih]; rfl
  rw [e, e, List.map_map]
  refine List.map_congr_left fun t _ => ?_
  show En.ptr (mv id at_ rank t) = t.ptr
  unfold mv
  split <;> rfl
theorem mv_set {H : List En} (h : Ids H) {i : Nat} {e : En} (hi : H[i]? = some e) (at_ rank : Int) : H.set i { e with at_ := at_, rank := rank } = H.map (mv e.id at_ rank) := by
  obtain ⟨hil, he⟩ := List.getElem?_eq_some_iff.1 hi
  apply List.ext_getElem (by simp)
  intro k h1 h2
  rw [List.getElem_set, List.getElem_map]
  unfold mv
  have hk : k < H.length := by simpa using h2
  by_cases q : i = k
  · subst q
    rw [if_pos rfl, he, if_pos rfl]
  · rw [if_neg q, if_neg (fun e2 => ?_)]
    have := (List.pairwise_iff_getElem.1 h)
    rcases Nat.lt_or_gt_of_ne q with g | g
    · exact this i k hil hk g (by rw [he]; exact e2.symm)
    · exact this k i hk hil g (by rw [he]; exact e2)
theorem move_none (b : Nat) (g : Ag) (n : Nat) (K : List En) (id x r : Int) (h : K.find? (fun t => id == t.id) = none) : Does Try.prog 55 #[ap b, .int .i64 id, .int .i64 x, .int .i64 r] (fun _ => True) [Hd b g n, MapA g.mb KI (K.map En.ent)] (fun v p => v = .int .i64 6 ∧ p = [Hd b g n, MapA g.mb KI (K.map En.ent)]) := by
  refine Does.ofJ Try.func55 Try.call55 rfl [.raw (ap b), .int .i64 id, .int .i64 x, .int .i64 r] [(0, .at g.mb 0)] 1 [.asn (Hd b g n), .mp 0 KI (K.map En.ent)] rfl rfl (fun h k => sat_pick 0 rfl (by first | exact fun _ k => k | exact fun _ k => blk_to rfl rfl k | exact fun _ k => vec_to rfl k | exact fun _ k => blk_of rfl rfl k | exact fun _ k => vec_of rfl k | exact fun _ k => blk_of rfl rfl (blk_to rfl rfl k) | exact fun _ k => vec_of rfl (vec_to rfl k) | exact fun _ k => mp_to rfl k | exact fun _ k => mp_of rfl k | exact fun _ k => mp_of rfl (mp_to rfl k)) (fun h k => sat_pick 0 rfl (fun _ k => mp_of rfl k) (fun h k => sat_nil k) k) k) (fun f hR => ?_)
  have hf := find_ent id K
  rw [h] at hf
  refine RdRaw.told (.map 0) _ rfl (fun h k => sat_cell 0 rfl (fun x kx => known_read x kx) k) ?_
  refine LkOb.miss hf ?_
  exact FinOb.mk [.int .i64 6] [Hd b g n, MapA g.mb KI (K.map En.ent)] rfl (fun h k => sat_pick 0 rfl (by first | exact fun _ k => k | exact fun _ k => blk_to rfl rfl k | exact fun _ k => vec_to rfl k | exact fun _ k => blk_of rfl rfl k | exact fun _ k => vec_of rfl k | exact fun _ k => blk_of rfl rfl (blk_to rfl rfl k) | exact fun _ k => vec_of rfl (vec_to rfl k) | exact fun _ k => mp_to rfl k | exact fun _ k => mp_of rfl k | exact fun _ k => mp_of rfl (mp_to rfl k)) (fun h k => sat_pick 0 rfl (fun _ k => mp_to rfl k) (fun h k => sat_nil k) k) k) ⟨rfl, rfl⟩
theorem move_ok (b : Nat) (g : Ag) (H K : List En) (e : En) (x r : Int) (h : K.find? (fun t => e.id == t.id) = some e) (i : Nat) (hi : H[i]? = some e) (hids : Ids H) (hh : Heap H H.length) (hl : H.length ≤ 90000) :
    Does Try.prog 55 #[ap b, .int .i64 e.id, .int .i64 x, .int .i64 r] (fun _ => True) (Ga b g H K) (fun v p => ∃ H', v = .int .i64 0 ∧ H'.Perm (H.map (mv e.id x r)) ∧ Heap H' H'.length ∧ p = Ga b g H' (K.map (mv e.id x r))) := by
  have hil := (List.getElem?_eq_some_iff.1 hi).1
  refine Does.ofJ Try.func55 Try.call55 rfl [.raw (ap b), .int .i64 e.id, .int .i64 x, .int .i64 r] [(0, .at g.mb 0)] 1 [.asn (Hd b g H.length), .asn (HV g H), .asn (Es H), .mp 0 KI (K.map En.ent)] rfl rfl (fun h k => sat_pick 0 rfl (by first | exact fun _ k => k | exact fun _ k => blk_to rfl rfl k | exact fun _ k => vec_to rfl k | exact fun _ k => blk_of rfl rfl k | exact fun _ k => vec_of rfl k | exact fun _ k => blk_of rfl rfl (blk_to rfl rfl k) | exact fun _ k => vec_of rfl (vec_to rfl k) | exact fun _ k => mp_to rfl k | exact fun _ k => mp_of rfl k | exact fun _ k => mp_of rfl (mp_to rfl k)) (fun h k => sat_pick 0 rfl (by first | exact fun _ k => k | exact fun _ k => blk_to rfl rfl k | exact fun _ k => vec_to rfl k | exact fun _ k => blk_of rfl rfl k | exact fun _ k => vec_of rfl k | exact fun _ k => blk_of rfl rfl (blk_to rfl rfl k) | exact fun _ k => vec_of rfl (vec_to rfl k) | exact fun _ k => mp_to rfl k | exact fun _ k => mp_of rfl k | exact fun _ k => mp_of rfl (mp_to rfl k)) (fun h k => sat_pick 0 rfl (by first | exact fun _ k => k | exact fun _ k => blk_to rfl rfl k | exact fun _ k => vec_to rfl k | exact fun _ k => blk_of rfl rfl k | exact fun _ k => vec_of rfl k | exact fun _ k => blk_of rfl rfl (blk_to rfl rfl k) | exact fun _ k => vec_of rfl (vec_to rfl k) | exact fun _ k => mp_to rfl k | exact fun _ k => mp_of rfl k | exact fun _ k => mp_of rfl (mp_to rfl k)) (fun h k => sat_pick 0 rfl (fun _ k => mp_of rfl k) (fun h k => sat_nil k) k) k) k) k) (fun f hR => ?_)
  have hf := find_ent e.id K
  rw [h] at hf
  refine RdRaw.told (.map 0) _ rfl (fun h k => sat_cell 0 rfl (fun x kx => known_read x kx) k) ?_
  refine LkOb.hit e.ptr (.raw e.ptr) hf rfl ?_
  obtain ⟨e1, he1⟩ : ∃ e1 : En, e1 = { e with at_ := x } := ⟨_, rfl⟩
  obtain ⟨e2, he2⟩ : ∃ e2 : En, e2 = { e with at_ := x, rank := r } := ⟨_, rfl⟩
  refine StRaw.on 2 (EnsP ((withI H).set i (e1, (i : Int)))) [.int .i64 x] rfl rfl (fun q kq => ens_store (j := 1) (withI_get hi) (by rw [he1]) (by show 1 + 1 ≤ 5; omega) (by rw [he1]; rfl) q kq) ?_
  refine StRaw.on 2 (EnsP (((withI H).set i (e1, (i : Int))).set i (e2, (i : Int)))) [.int .i64 r] rfl rfl (fun q kq => by
    have hb : e.blk = e1.blk := by rw [he1]
    rw [hb]
    exact ens_store (j := 2) (p := i) (by rw [List.getElem?_set, if_pos rfl, if_pos (by rw [withI_length]; exact hil)]) (by rw [he1, he2]) (by show 2 + 1 ≤ 5; omega) (by rw [he1, he2]; rfl) q kq) ?_
  have hset : ((withI H).set i (e1, (i : Int))).set i (e2, (i : Int)) = withI (H.set i e2) := by
    rw [List.set_set]
    apply List.ext_getElem?
    intro k
    rw [List.getElem?_set, withI_at, withI_at, List.getElem?_set]
    by_cases q : i = k
    · subst q
      rw [if_pos rfl, if_pos rfl, if_pos (by rw [withI_length]; exact hil), if_pos hil]; rfl
    · rw [if_neg q, if_neg q]
  rw [hset]
  have hi2 : (H.set i e2)[i]? = some e2 := by rw [List.getElem?_set, if_pos rfl, if_pos hil]
  refine DrawOb.mk [] (.run [0, 1, 2, 3, 4, 5, 6, 7, 8] .nil) (by kernel_rfl) ?_
  refine RdRaw.told (.int .i64 i) _ rfl (fun h k => sat_cell 2 rfl (fun y ky => by
    have hb : e.blk = e2.blk := by rw [he2]
    rw [hb]
    exact es_cell (H := H.set i e2) hi2 (j := 4) rfl y ky) k) ?_
  have hmv : H.set i e2 = H.map (mv e.id x r) := by rw [he2]; exact mv_set hids hi x r
  have hlen : (H.set i e2).length = H.length := by simp
  refine call_ix (hfix_spec b g (H.set i e2) i (by omega) (by rw [hlen]; exact heap_fix hh e2) (by omega)) rfl [0, 0, 0] (fun h k => sat_pick 0 rfl (fun _ k => by rw [hlen]; exact k) (fun h k => sat_pick 0 rfl (fun _ k => ?_) (fun h k => sat_pick 0 rfl (by first | exact fun _ k => k | exact fun _ k => blk_to rfl rfl k | exact fun _ k => vec_to rfl k | exact fun _ k => blk_of rfl rfl k | exact fun _ k => vec_of rfl k | exact fun _ k => blk_of rfl rfl (blk_to rfl rfl k) | exact fun _ k => vec_of rfl (vec_to rfl k) | exact fun _ k => mp_to rfl k | exact fun _ k => mp_of rfl k | exact fun _ k => mp_of rfl (mp_to rfl k)) (fun h k => sat_pick 0 rfl (by first | exact fun _ k => k | exact fun _ k => blk_to rfl rfl k | exact fun _ k => vec_to rfl k | exact fun _ k => blk_of rfl rfl k | exact fun _ k => vec_of rfl k | exact fun _ k => blk_of rfl rfl (blk_to rfl rfl k) | exact fun _ k => vec_of rfl (vec_to rfl k) | exact fun _ k => mp_to rfl k | exact fun _ k => mp_of rfl k | exact fun _ k => mp_of rfl (mp_to rfl k)) (fun h k => sat_nil k) k) k) k) k) (fun _ _ _ _ => trivial) ?_
  · unfold HV
    rw [hmv, mv_flat]
    exact k
  rintro v post ⟨H', rfl, hperm, hheap, rfl⟩
  refine ⟨.tuple [], _, 1, [.asn (Hd b g H'.length), .asn (HV g H'), .asn (Es H')], NmExt.refl _, rfl, (fun h k => sat_pick 0 rfl (by first | exact fun _ k => k | exact fun _ k => blk_to rfl rfl k | exact fun _ k => vec_to rfl k | exact fun _ k => blk_of rfl rfl k | exact fun _ k => vec_of rfl k | exact fun _ k => blk_of rfl rfl (blk_to rfl rfl k) | exact fun _ k => vec_of rfl (vec_to rfl k) | exact fun _ k => mp_to rfl k | exact fun _ k => mp_of rfl k | exact fun _ k => mp_of rfl (mp_to rfl k)) (fun h k => sat_pick 0 rfl (by first | exact fun _ k => k | exact fun _ k => blk_to rfl rfl k | exact fun _ k => vec_to rfl k | exact fun _ k => blk_of rfl rfl k | exact fun _ k => vec_of rfl k | exact fun _ k => blk_of rfl rfl (blk_to rfl rfl k) | exact fun _ k => vec_of rfl (vec_to rfl k) | exact fun _ k => mp_to rfl k | exact fun _ k => mp_of rfl k | exact fun _ k => mp_of rfl (mp_to rfl k)) (fun h k => sat_pick 0 rfl (by first | exact fun _ k => k | exact fun _ k => blk_to rfl rfl k | exact fun _ k => vec_to rfl k | exact fun _ k => blk_of rfl rfl k | exact fun _ k => vec_of rfl k | exact fun _ k => blk_of rfl rfl (blk_to rfl rfl k) | exact fun _ k => vec_of rfl (vec_to rfl k) | exact fun _ k => mp_to rfl k | exact fun _ k => mp_of rfl k | exact fun _ k => mp_of rfl (mp_to rfl k)) (fun h k => sat_nil k) k) k) k), ?_⟩
  refine FinOb.mk [.int .i64 0] (Ga b g H' (K.map (mv e.id x r))) rfl (fun h k => sat_pick 0 rfl (by first | exact fun _ k => k | exact fun _ k => blk_to rfl rfl k | exact fun _ k => vec_to rfl k | exact fun _ k => blk_of rfl rfl k | exact fun _ k => vec_of rfl k | exact fun _ k => blk_of rfl rfl (blk_to rfl rfl k) | exact fun _ k => vec_of rfl (vec_to rfl k) | exact fun _ k => mp_to rfl k | exact fun _ k => mp_of rfl k | exact fun _ k => mp_of rfl (mp_to rfl k)) (fun h k => sat_pick 0 rfl (by first | exact fun _ k => k | exact fun _ k => blk_to rfl rfl k | exact fun _ k => vec_to rfl k | exact fun _ k => blk_of rfl rfl k | exact fun _ k => vec_of rfl k | exact fun _ k => blk_of rfl rfl (blk_to rfl rfl k) | exact fun _ k => vec_of rfl (vec_to rfl k) | exact fun _ k => mp_to rfl k | exact fun _ k => mp_of rfl k | exact fun _ k => mp_of rfl (mp_to rfl k)) (fun h k => sat_pick 0 rfl (by first | exact fun _ k => k | exact fun _ k => blk_to rfl rfl k | exact fun _ k => vec_to rfl k | exact fun _ k => blk_of rfl rfl k | exact fun _ k => vec_of rfl k | exact fun _ k => blk_of rfl rfl (blk_to rfl rfl k) | exact fun _ k => vec_of rfl (vec_to rfl k) | exact fun _ k => mp_to rfl k | exact fun _ k => mp_of rfl k | exact fun _ k => mp_of rfl (mp_to rfl k)) (fun h k => sat_pick 0 rfl (fun _ k => ?_) (fun h k => sat_nil k) k) k) k) k) ⟨H', rfl, by rw [← hmv]; exact hperm, hheap, rfl⟩
  have k := mp_to (b := g.mb) rfl k
  rw [mv_ent]
  exact k
def delM (id : Int) (K : List En) : List En := delT id K
theorem drop_none (b : Nat) (g : Ag) (n : Nat) (K : List En) (id : Int) (h : K.find? (fun t => id == t.id) = none) : Does Try.prog 57 #[ap b, .int .i64 id] (fun _ => True) [Hd b g n, MapA g.mb KI (K.map En.ent)] (fun v p => v = .bool false ∧ p = [Hd b g n, MapA g.mb KI (K.map En.ent)]) := by
  refine Does.ofJ Try.func57 Try.call57 rfl [.raw (ap b), .int .i64 id] [(0, .at g.mb 0)] 1 [.asn (Hd b g n), .mp 0 KI (K.map En.ent)] rfl rfl (fun h k => sat_pick 0 rfl (by first | exact fun _ k => k | exact fun _ k => blk_to rfl rfl k | exact fun _ k => vec_to rfl k | exact fun _ k => blk_of rfl rfl k | exact fun _ k => vec_of rfl k | exact fun _ k => blk_of rfl rfl (blk_to rfl rfl k) | exact fun _ k => vec_of rfl (vec_to rfl k) | exact fun _ k => mp_to rfl k | exact fun _ k => mp_of rfl k | exact fun _ k => mp_of rfl (mp_to rfl k)) (fun h k => sat_pick 0 rfl (fun _ k => mp_of rfl k) (fun h k => sat_nil k) k) k) (fun f hR => ?_)
  have hf := find_ent id K
  rw [h] at hf
  refine RdRaw.told (.map 0) _ rfl (fun h k => sat_cell 0 rfl (fun x kx => known_read x kx) k) ?_
  refine LkOb.miss hf ?_
  exact FinOb.mk [.bool false] [Hd b g n, MapA g.mb KI (K.map En.ent)] rfl (fun h k => sat_pick 0 rfl (by first | exact fun _ k => k | exact fun _ k => blk_to rfl rfl k | exact fun _ k => vec_to rfl k | exact fun _ k => blk_of rfl rfl k | exact fun _ k => vec_of rfl k | exact fun _ k => blk_of rfl rfl (blk_to rfl rfl k) | exact fun _ k => vec_of rfl (vec_to rfl k) | exact fun _ k => mp_to rfl k | exact fun _ k => mp_of rfl k | exact fun _ k => mp_of rfl (mp_to rfl k)) (fun h k => sat_pick 0 rfl (fun _ k => mp_to rfl k) (fun h k => sat_nil k) k) k) ⟨rfl, rfl⟩
theorem drop_ok (b : Nat) (g : Ag) (H K : List En) (e : En) (h : K.find? (fun t => e.id == t.id) = some e) (i : Nat) (hi : H[i]? = some e) (hh : Heap H H.length) (hl : H.length ≤ 90000) (hc : H.length ≤ g.cap) :
    Does Try.prog 57 #[ap b, .int .i64 e.id] (fun _ => True) (Ga b g H K) (fun v p => ∃ H', v = .bool true ∧ (H' ++ [e]).Perm H ∧ Heap H' H'.length ∧ p = Ga b g H' (delT e.id K)) := by
  have hil := (List.getElem?_eq_some_iff.1 hi).1
  refine Does.ofJ Try.func57 Try.call57 rfl [.raw (ap b), .int .i64 e.id] [(0, .at g.mb 0)] 1 [.asn (Hd b g H.length), .asn (HV g H), .asn (Es H), .mp 0 KI (K.map En.ent)] rfl rfl (fun h k => sat_pick 0 rfl (by first | exact fun _ k => k | exact fun _ k => blk_to rfl rfl k | exact fun _ k => vec_to rfl k | exact fun _ k => blk_of rfl rfl k | exact fun _ k => vec_of rfl k | exact fun _ k => blk_of rfl rfl (blk_to rfl rfl k) | exact fun _ k => vec_of rfl (vec_to rfl k) | exact fun _ k => mp_to rfl k | exact fun _ k => mp_of rfl k | exact fun _ k => mp_of rfl (mp_to rfl k)) (fun h k => sat_pick 0 rfl (by first | exact fun _ k => k | exact fun _ k => blk_to rfl rfl k | exact fun _ k => vec_to rfl k | exact fun _ k => blk_of rfl rfl k | exact fun _ k => vec_of rfl k | exact fun _ k => blk_of rfl rfl (blk_to rfl rfl k) | exact fun _ k => vec_of rfl (vec_to rfl k) | exact fun _ k => mp_to rfl k | exact fun _ k => mp_of rfl k | exact fun _ k => mp_of rfl (mp_to rfl k)) (fun h k => sat_pick 0 rfl (by first | exact fun _ k => k | exact fun _ k => blk_to rfl rfl k | exact fun _ k => vec_to rfl k | exact fun _ k => blk_of rfl rfl k | exact fun _ k => vec_of rfl k | exact fun _ k => blk_of rfl rfl (blk_to rfl rfl k) | exact fun _ k => vec_of rfl (vec_to rfl k) | exact fun _ k => mp_to rfl k | exact fun _ k => mp_of rfl k | exact fun _ k => mp_of rfl (mp_to rfl k)) (fun h k => sat_pick 0 rfl (fun _ k => mp_of rfl k) (fun h k => sat_nil k) k) k) k) k) (fun f hR => ?_)
  have hf := find_ent e.id K
  rw [h] at hf
  refine RdRaw.told (.map 0) _ rfl (fun h k => sat_cell 0 rfl (fun x kx => known_read x kx) k) ?_
  refine LkOb.hit e.ptr (.raw e.ptr) hf rfl ?_
  refine DrawOb.mk [] (.run [0, 1, 2, 3, 4, 5, 6, 7, 8] .nil) (by kernel_rfl) ?_
  refine RdRaw.told (.int .i64 i) _ rfl (fun h k => sat_cell 2 rfl (fun y ky => es_cell hi (j := 4) rfl y ky) k) ?_
  refine call_ix (hremove_spec b g H i e hi hh hl hc) rfl [0, 0, 0] (fun h k => sat_pick 0 rfl (by first | exact fun _ k => k | exact fun _ k => blk_to rfl rfl k | exact fun _ k => vec_to rfl k | exact fun _ k => blk_of rfl rfl k | exact fun _ k => vec_of rfl k | exact fun _ k => blk_of rfl rfl (blk_to rfl rfl k) | exact fun _ k => vec_of rfl (vec_to rfl k) | exact fun _ k => mp_to rfl k | exact fun _ k => mp_of rfl k | exact fun _ k => mp_of rfl (mp_to rfl k)) (fun h k => sat_pick 0 rfl (by first | exact fun _ k => k | exact fun _ k => blk_to rfl rfl k | exact fun _ k => vec_to rfl k | exact fun _ k => blk_of rfl rfl k | exact fun _ k => vec_of rfl k | exact fun _ k => blk_of rfl rfl (blk_to rfl rfl k) | exact fun _ k => vec_of rfl (vec_to rfl k) | exact fun _ k => mp_to rfl k | exact fun _ k => mp_of rfl k | exact fun _ k => mp_of rfl (mp_to rfl k)) (fun h k => sat_pick 0 rfl (by first | exact fun _ k => k | exact fun _ k => blk_to rfl rfl k | exact fun _ k => vec_to rfl k | exact fun _ k => blk_of rfl rfl k | exact fun _ k => vec_of rfl k | exact fun _ k => blk_of rfl rfl (blk_to rfl rfl k) | exact fun _ k => vec_of rfl (vec_to rfl k) | exact fun _ k => mp_to rfl k | exact fun _ k => mp_of rfl k | exact fun _ k => mp_of rfl (mp_to rfl k)) (fun h k => sat_pick 0 rfl (by first | exact fun _ k => k | exact fun _ k => blk_to rfl rfl k | exact fun _ k => vec_to rfl k | exact fun _ k => blk_of rfl rfl k | exact fun _ k => vec_of rfl k | exact fun _ k => blk_of rfl rfl (blk_to rfl rfl k) | exact fun _ k => vec_of rfl (vec_to rfl k) | exact fun _ k => mp_to rfl k | exact fun _ k => mp_of rfl k | exact fun _ k => mp_of rfl (mp_to rfl k)) (fun h k => sat_nil k) k) k) k) k) (fun _ _ _ _ => trivial) ?_
  rintro v post ⟨H', rfl, hperm, hheap, rfl⟩
  refine ⟨.ifc 163 (.raw e.ptr), _, 1, [.asn (Hd b g H'.length), .asn (HV g H'), .asn (Es H')], NmExt.refl _, rfl, (fun h k => sat_pick 0 rfl (by first | exact fun _ k => k | exact fun _ k => blk_to rfl rfl k | exact fun _ k => vec_to rfl k | exact fun _ k => blk_of rfl rfl k | exact fun _ k => vec_of rfl k | exact fun _ k => blk_of rfl rfl (blk_to rfl rfl k) | exact fun _ k => vec_of rfl (vec_to rfl k) | exact fun _ k => mp_to rfl k | exact fun _ k => mp_of rfl k | exact fun _ k => mp_of rfl (mp_to rfl k)) (fun h k => sat_pick 0 rfl (by first | exact fun _ k => k | exact fun _ k => blk_to rfl rfl k | exact fun _ k => vec_to rfl k | exact fun _ k => blk_of rfl rfl k | exact fun _ k => vec_of rfl k | exact fun _ k => blk_of rfl rfl (blk_to rfl rfl k) | exact fun _ k => vec_of rfl (vec_to rfl k) | exact fun _ k => mp_to rfl k | exact fun _ k => mp_of rfl k | exact fun _ k => mp_of rfl (mp_to rfl k)) (fun h k => sat_pick 0 rfl (by first | exact fun _ k => k | exact fun _ k => blk_to rfl rfl k | exact fun _ k => vec_to rfl k | exact fun _ k => blk_of rfl rfl k | exact fun _ k => vec_of rfl k | exact fun _ k => blk_of rfl rfl (blk_to rfl rfl k) | exact fun _ k => vec_of rfl (vec_to rfl k) | exact fun _ k => mp_to rfl k | exact fun _ k => mp_of rfl k | exact fun _ k => mp_of rfl (mp_to rfl k)) (fun h k => sat_nil k) k) k) k), ?_⟩
  refine RdRaw.told (.map 0) _ rfl (fun h k => sat_cell 0 rfl (fun x kx => known_read x kx) k) ?_
  refine FinOb.mk [.bool true] (Ga b g H' (delT e.id K)) rfl (fun h k => sat_pick 1 rfl (by first | exact fun _ k => k | exact fun _ k => blk_to rfl rfl k | exact fun _ k => vec_to rfl k | exact fun _ k => blk_of rfl rfl k | exact fun _ k => vec_of rfl k | exact fun _ k => blk_of rfl rfl (blk_to rfl rfl k) | exact fun _ k => vec_of rfl (vec_to rfl k) | exact fun _ k => mp_to rfl k | exact fun _ k => mp_of rfl k | exact fun _ k => mp_of rfl (mp_to rfl k)) (fun h k => sat_pick 1 rfl (by first | exact fun _ k => k | exact fun _ k => blk_to rfl rfl k | exact fun _ k => vec_to rfl k | exact fun _ k => blk_of rfl rfl k | exact fun _ k => vec_of rfl k | exact fun _ k => blk_of rfl rfl (blk_to rfl rfl k) | exact fun _ k => vec_of rfl (vec_to rfl k) | exact fun _ k => mp_to rfl k | exact fun _ k => mp_of rfl k | exact fun _ k => mp_of rfl (mp_to rfl k)) (fun h k => sat_pick 1 rfl (by first | exact fun _ k => k | exact fun _ k => blk_to rfl rfl k | exact fun _ k => vec_to rfl k | exact fun _ k => blk_of rfl rfl k | exact fun _ k => vec_of rfl k | exact fun _ k => blk_of rfl rfl (blk_to rfl rfl k) | exact fun _ k => vec_of rfl (vec_to rfl k) | exact fun _ k => mp_to rfl k | exact fun _ k => mp_of rfl k | exact fun _ k => mp_of rfl (mp_to rfl k)) (fun h k => sat_pick 0 rfl (fun _ k => ?_) (fun h k => sat_nil k) k) k) k) k) ⟨H', rfl, hperm, hheap, rfl⟩
  have k := mp_to (b := g.mb) rfl k
  rw [del_ent] at k
  exact k
end Go.Proofs.Ytiknkeakielncaa.Ag
