/- reasm: laying one more stretch (the walk). Conditions: none. -/
import Derived.Test.YtiknkeakielncaaRsC
import Derived.Test.YtiknkeakielncaaSoC
namespace Go.Proofs.Ytiknkeakielncaa.Rs
open Go Go.Proofs Sx
set_option maxRecDepth 100000
set_option linter.unusedVariables false
set_option linter.unusedSimpArgs false
set_option maxHeartbeats 4000000

/-- A list, and what it was ahead of that. -/
def Two (pl0 : Plc) (c0 : Nat) (l0 : List Sr) (pl : Plc) (c : Nat) (l : List Sr) : Asn := fun h => (l = l0 ∧ pl = pl0 ∧ c = c0 ∧ Vec pl0 148 2 c0 (SrL.flat l0) h) ∨ sat [Vec pl0 148 2 c0 (SrL.flat l0), Vec pl 148 2 c (SrL.flat l)] h
theorem vec_rd {b o cap sz : Nat} {t : TypeId} {xs : List Value} {h : HP} (k : Vec (.at b o) t sz cap xs h) (i : Nat) (v : Value) (e : xs[i]? = some v) : fcell h b (o + i) = some v := by
  obtain ⟨_, ⟨h1, _⟩ | ⟨b', o', pre, post, h1, hp, ho, _⟩⟩ := k
  · cases h1
  · simp only [Plc.at.injEq] at h1
    obtain ⟨rfl, rfl⟩ := h1
    refine fcell_of (pt_get h hp) ?_
    have hi := (List.getElem?_eq_some_iff.1 e).1
    simp only [List.getElem?_toArray, List.append_assoc]
    rw [List.getElem?_append_right (by omega), ho, show o + i - o = i by omega, List.getElem?_append_left hi]
    exact e
theorem vec_reads' {pl : Plc} {cap sz : Nat} {t : TypeId} {xs : List Value} {h : HP} (k : Vec pl t sz cap xs h) : Reads h (locAddr 0 pl) xs := fun i v e => by
  have hne : xs ≠ [] := by intro e2; rw [e2] at e; simp at e
  obtain ⟨b, o, rfl⟩ := vec_at hne k
  exact ⟨b, o, rfl, vec_rd k i v e⟩
theorem rd_sub {x h : HP} {A : Option Addr} {xs : List Value} (s : ∀ r q, x r = some q → h r = some q) (k : Reads x A xs) : Reads h A xs := fun i v e => by
  obtain ⟨b, o, h1, h2⟩ := k i v e
  exact ⟨b, o, h1, fcell_sub s h2⟩
theorem reads_two {pl0 pl : Plc} {c0 c : Nat} {l0 l : List Sr} {h : HP} (k : Two pl0 c0 l0 pl c l h) : Reads h (locAddr 0 pl0) (SrL.flat l0) ∧ Reads h (locAddr 0 pl) (SrL.flat l) := by
  rcases k with ⟨rfl, rfl, rfl, k⟩ | ⟨a, b, s, ka, b1, b2, s2, kb, _⟩
  · exact ⟨vec_reads' k, vec_reads' k⟩
  · exact ⟨rd_sub (fun r q hq => s.get hq) (vec_reads' ka), rd_sub (fun r q hq => s.get_right (s2.get hq)) (vec_reads' kb)⟩
theorem two_new {pl0 pl pl' : Plc} {c0 c c' : Nat} {l0 l l' : List Sr} (h : HP) (k : sat [Two pl0 c0 l0 pl c l, Vec pl' 148 2 c' (SrL.flat l')] h) : Two pl0 c0 l0 pl' c' l' h := by
  obtain ⟨a, b, s, ka, kb⟩ := k
  rcases ka with ⟨rfl, rfl, rfl, k⟩ | ⟨x, y, t, kx, _⟩
  · exact .inr ⟨a, b, s, k, kb⟩
  · exact .inr (sat_join (As := [_]) s ⟨x, y, t, kx, trivial⟩ kb)
theorem two_end {pl0 pl : Plc} {c0 c : Nat} {l0 l : List Sr} {h : HP} {Cs : List Asn} (k : sat (Two pl0 c0 l0 pl c l :: Cs) h) : sat (Vec pl 148 2 c (SrL.flat l) :: Cs) h := by
  obtain ⟨a, b, s, ka, kb⟩ := k
  rcases ka with ⟨rfl, rfl, rfl, k⟩ | ⟨x, y, t, kx, x2, y2, t2, kx2, _⟩
  · exact ⟨a, b, s, k, kb⟩
  · exact sat_tail (sat_join (As := [_, _]) s ⟨x, y, t, kx, x2, y2, t2, kx2, trivial⟩ kb)
theorem slice_rd {f : HP} {A : Option Addr} {d : List UInt8} {cap n : Nat} (h : Reads f A (U.flat d)) (hc : d.length ≤ cap) : Reads f (if cap = n then A else A.map (·.add (n * 1))) (U.flat (d.drop n)) := by
  by_cases e : cap = n
  · subst e
    rw [List.drop_eq_nil_of_le hc]
    exact Reads.nil _ _
  · rw [if_neg e]
    have hf := U.flat_drops d n
    rw [show U.sz = 1 from rfl, Nat.mul_one] at hf
    rw [← hf]
    intro i v hv
    rw [List.getElem?_drop] at hv
    obtain ⟨b, o, rfl, h2⟩ := h (n + i) v hv
    exact ⟨b, o + n * 1, by simp [Addr.add], by rw [Nat.mul_one, Nat.add_assoc]; exact h2⟩
theorem take_rd {f : HP} {A : Option Addr} {d : List UInt8} {n : Nat} (h : Reads f A (U.flat d)) : Reads f A (U.flat (d.take n)) := by
  have hf := U.flat_take d n
  rw [show U.sz = 1 from rfl, Nat.mul_one] at hf
  rw [← hf]
  exact Reads.take h n
/-- A copy of stretches. -/
theorem cloneS_spec (A : Option Addr) (cap : Nat) (l : List Sr) (hk : l.length ≤ 100000) :
    Does Try.prog 105 #[.slice A l.length cap] (fun f => Reads f A (SrL.flat l)) [] (fun v q => ∃ p cap', v = .slice (locAddr 0 p) l.length cap' ∧ l.length ≤ cap' ∧ q = [Vec p 148 2 cap' (SrL.flat l)]) := by
  refine Does.ofJ Try.func105 Try.call105 rfl [.raw (.slice A l.length cap)] [] 0 [] rfl rfl (fun h k => k) (fun f hR => ?_)
  have hl := lSr l
  cases A with
  | none =>
    have h0 : l = [] := by
      cases l with
      | nil => rfl
      | cons v ys => obtain ⟨_, _, h, _⟩ := hR.lay (by decide) (i := 0) rfl; cases h
    subst h0
    exact FinOb.mk [.slice none 0 0] [Vec .nil 148 2 0 []] rfl (fun h k => ⟨HP.emp, h, .emp_left h, vec_emp, trivial⟩) ⟨.nil, 0, rfl, Nat.le_refl _, rfl⟩
  | some ad =>
    intro b
    refine SrcF.mk (SrL.flat l) (by rw [hl]) hR ?_
    refine StOb.mk [] rfl (Need.mk (by simp) (Need.mk ⟨by omega, by simp only [maxLen]; omega, SrL.flat_one' l⟩ ?_))
    refine NewSl.any (fun p cap' hc => ?_)
    exact FinOb.mk [.slice (locAddr 0 p) (0 + l.length) cap'] [Vec p 148 2 cap' (SrL.flat l)] rfl (fun h k => sat_cons (fun h => vec_to rfl) (fun h k => (trivial : sat [] h)) k) ⟨p, cap', by simp [ret1], by omega, rfl⟩
theorem swoT : Go.Sort.SWO (ltOf (fun x y : Sr => cmpI x.at_ y.at_)) := by
  have e : ltOf (fun x y : Sr => cmpI x.at_ y.at_) = fun x y => decide (x.at_ < y.at_) := by
    funext x y
    unfold ltOf cmpI
    by_cases h : x.at_ < y.at_
    · simp [h]
    · by_cases h2 : y.at_ < x.at_ <;> simp [h, h2]
  rw [e]
  exact ⟨fun x => by simp, fun x y z h1 h2 => by simp at *; omega, fun x y z h1 h2 => by simp at *; omega⟩
theorem ltT (x y : Sr) : ltOf (fun x y : Sr => cmpI x.at_ y.at_) y x = false → x.at_ ≤ y.at_ := by
  unfold ltOf cmpI
  intro h
  by_cases h1 : y.at_ < x.at_
  · simp [h1] at h
  · omega
theorem sortS_spec (pl : Plc) (cap : Nat) (l : List Sr) (n : Nat) (hn : n = l.length) (hl : l.length ≤ 1000000) :
    Does Try.prog 106 #[.slice (locAddr 0 pl) n cap, .func (.func 107) #[] #[]] (fun _ => True) [Vec pl 148 2 cap (SrL.flat l)]
      (fun v p => ∃ l' : List Sr, v = .tuple #[] ∧ l'.Perm l ∧ l'.Pairwise (fun x y => x.at_ ≤ y.at_) ∧ (l' ≠ [] → ∃ b o, pl = .at b o) ∧ p = [Vec pl 148 2 cap (SrL.flat l')]) := by
  subst hn
  haveI : Inhabited Sr := ⟨⟨0, [], 0, 0, 0⟩⟩
  refine (sortK_does So.sortS SrL (by decide) (fun w => rfl) (fun w => rfl) (fun x y => cmpI x.at_ y.at_) swoT 107 #[] (fun _ => True) (fun _ _ _ _ h => h) (fun x y => lay1_spec x y) 148 pl cap l (by omega)).sure ?_
  rintro v p h ⟨l', rfl, h2, h3, rfl⟩ hs
  refine ⟨l', rfl, h2, h3.imp fun {x y} h => ltT x y h, fun hne => ?_, rfl⟩
  obtain ⟨x, _, _, hx, _⟩ := hs
  exact vec_at (fun e => hne (by
    have := congrArg List.length e
    rw [lSr] at this
    exact List.eq_nil_of_length_eq_zero (by simp at this; omega))) hx
theorem sat_sub {As : List Asn} : ∀ {n : Nat} {A : Asn} {h : HP}, As[n]? = some A → sat As h → ∃ x, (∀ r q, x r = some q → h r = some q) ∧ A x := by
  induction As with
  | nil => intro n A h e; simp at e
  | cons B Bs ih =>
    intro n A h e k
    obtain ⟨x, y, t, hx, hy⟩ := k
    cases n with
    | zero =>
      simp at e; subst e
      exact ⟨x, fun r q hq => t.get hq, hx⟩
    | succ n =>
      simp at e
      obtain ⟨z, hz, ka⟩ := ih e hy
      exact ⟨z, fun r q hq => t.get_right (hz r q hq), ka⟩
theorem two_frame {f f' b : HP} {es : List Asn} {pl0 pl : Plc} {c0 c : Nat} {l0 l : List Sr} (n : Nat) (hs : Split f' b f) (kb : sat es b) (e : es[n]? = some (Two pl0 c0 l0 pl c l)) : Reads f' (locAddr 0 pl) (SrL.flat l) := by
  obtain ⟨x, hx, k⟩ := sat_sub e kb
  exact rd_sub (fun r q hq => hs.get (hx r q hq)) (reads_two k).2
/-- What is laid behind i rounds. -/
structure LyZ where
  i : Nat
  A : Option Addr
  cap : Nat
  at_ : Int
  bs : List UInt8
  pl : Plc
  c : Nat
  nw : List Sr
  tl : List Sr
structure LyI (p : Pk) (at0 : Int) (bs0 : List UInt8) (f : HP) (F : T → List T) (n : Nat) (z : LyZ) : Prop where
  rd : Reads f z.A (U.flat z.bs)
  cp : z.bs.length ≤ z.cap
  gp : z.nw.map Sr.t ++ F (z.at_, z.bs) = gaps p.ts (at0, bs0)
  lo : at0 ≤ z.at_
  st : z.at_ + z.bs.length = at0 + bs0.length
  nl : z.nw.length ≤ n
  nc : ∀ s ∈ z.nw, s.bs.length ≤ s.cap
  nn : ∀ s ∈ z.nw, s.bs ≠ []
  pc : z.tl.length ≤ z.c
  tE : z.tl = p.ll ++ z.nw
theorem ds_snoc {l : List Sr} {y : Sr} (h : HP) (k : sat [y.dat, Ds l] h) : Ds (l ++ [y]) h := by
  unfold Ds at *
  rw [List.map_append]
  exact alls_snoc h k
theorem minI {a : Int} {n : Nat} (h0 : 0 ≤ a) (h1 : a ≤ 1000000000) (hn : n ≤ 1000000000) : (if IntKind.i64.wrap a < (n : Int) then IntKind.i64.wrap a else (n : Int)) = ((min n a.toNat : Nat) : Int) := by
  rw [w64 (by omega) (by omega)]
  split <;> omega
theorem minX {a : Int} {n : Nat} (h0 : -1000000000 ≤ a) (h1 : a ≤ 1000000000) (hn : n ≤ 1000000000) : (if (n : Int) < (if 0 > IntKind.i64.wrap a then 0 else IntKind.i64.wrap a) then (n : Int) else (if 0 > IntKind.i64.wrap a then 0 else IntKind.i64.wrap a)) = ((min a.toNat n : Nat) : Int) := by
  rw [w64 (by omega) (by omega)]
  split <;> split at * <;> omega
theorem blk_cast {nm : List (Nat × Plc)} {m : Nat} {t : TypeId} {cs cs' : List SV} {h : HP} (e : cs = cs') (k : entDen nm (.blk m t cs) h) : entDen nm (.blk m t cs') h := e ▸ k
theorem so_of {l m : List T} {s : T} (w : WF l) (p : (l ++ gaps l s).Perm m) (q : m.Pairwise (fun x y => x.1 ≤ y.1)) : So m := by
  have hso := w.so
  have hd : Dis (l ++ gaps l s) := List.pairwise_append.2 ⟨hso.dis, gaps_so.dis, fun a ha b hb => (gaps_off hso w.some b hb a ha).symm⟩
  have he : ∀ x ∈ l ++ gaps l s, x.2 ≠ [] := by
    intro x hx
    rcases List.mem_append.1 hx with hx | hx
    · exact w.some x hx
    · exact (gaps_in x hx).1
  have hdm : Dis m := (p.pairwise_iff (fun h => Or.symm h)).1 hd
  exact dis_so hdm (fun x hx => he x (p.mem_iff.2 hx)) q
theorem pka_make {w : Nat} {p : Pk} {l' tl : List Sr} {pl : Plc} {c n : Nat} {Cs : List Asn} {h : HP} (hp : l'.Perm tl) (hn : n = tl.length)
    (k : sat (pt w (.cells [.slice (locAddr 0 pl) n c, .int .i64 p.last, .pointer (p.fst.map fun b => ⟨b, 0, none⟩), .int .i64 p.till, .int .i64 p.num].toArray 154 (0, 0)) :: Vec pl 148 2 c (SrL.flat l') :: Ds tl :: Cs) h) : sat (PkA w { p with ll := l', pl := pl, cap := c } :: Cs) h := by
  obtain ⟨a, b, s, ka, a2, b2, s2, ka2, a3, b3, s3, ka3, kc⟩ := k
  obtain ⟨t1, t2⟩ := (s.assoc s2), (s.un_left s2)
  have s4 := t1.assoc s3
  refine ⟨_, _, s4, ?_, kc⟩
  refine sat_join (As := [_, _]) (Bs := [_]) (t1.un_left s3) ⟨a, a2, t2, ?_, a2, HP.emp, .emp_right _, ka2, trivial⟩ ⟨a3, HP.emp, .emp_right _, ?_, trivial⟩
  · rw [hn, ← hp.length_eq] at ka; exact ka
  · exact sat_perm (hp.symm.map _) ka3
theorem lay_walk (w : Nat) (p : Pk) (at0 : Int) (bs0 : List UInt8) (A0 : Option Addr) (cap0 : Nat) (h2 : p.ll.length ≤ 40000) (hpc : p.ll.length ≤ p.cap) (h1 : ∀ s ∈ p.ll, 0 ≤ s.at_ ∧ s.stop ≤ 1000000) (hpl : p.ll ≠ [] → ∃ b o, p.pl = .at b o) (hw : WF p.ts) (hcap : ∀ s ∈ p.ll, s.bs.length ≤ s.cap)
    (ha : 0 ≤ at0 ∧ at0 + bs0.length ≤ 1000000) (hb0 : bs0.length ≤ cap0) :
    Does Try.prog 79 #[pp w, .agg #[.int .i64 at0, .slice A0 bs0.length cap0]] (fun f => Reads f A0 (U.flat bs0)) [PkA w p]
      (fun v q => ∃ ll pl cap m, v = .tuple #[] ∧ ll.length ≤ cap ∧ (p.ts ++ gaps p.ts (at0, bs0)).Perm m ∧ m.Pairwise (fun x y => x.1 ≤ y.1) ∧ ll.map Sr.t = melt m ∧ (ll ≠ [] → ∃ b o, pl = .at b o) ∧ (∀ s ∈ ll, s.bs.length ≤ s.cap) ∧ q = [PkA w { p with ll := ll, pl := pl, cap := cap }]) := by
  refine Does.ofJ Try.func79 Try.call79 rfl [.ptr 0 0, .agg [.int .i64 at0, .raw (.slice A0 bs0.length cap0)]] [(0, .at w 0)] 1 [.blk 0 154 [.raw (.slice (locAddr 0 p.pl) p.ll.length p.cap), .int .i64 p.last, .raw (.pointer (p.fst.map fun b => ⟨b, 0, none⟩)), .int .i64 p.till, .int .i64 p.num], .asn (Vec p.pl 148 2 p.cap (SrL.flat p.ll)), .asn (Ds p.ll)] rfl rfl (fun h k => ?_) (fun f hR => ?_)
  · obtain ⟨a, c, t, ha, k2⟩ := pka_open k
    exact ⟨a, c, t, blk_of rfl rfl ha, k2⟩
  intro b3
  refine LoopOb.mk { z : LyZ // z.i ≤ p.ll.length ∧ LyI p at0 bs0 f (gaps (p.ts.drop z.i)) z.i z } (fun z =>
    ⟨111, [(0, .ptr 0 0), (3, .ptr 1 0), (11, .raw (.slice (locAddr 0 p.pl) p.ll.length p.cap)), (12, .int .i64 p.ll.length), (13, .int .i64 z.1.i)], [(0, .at w 0), (1, .at b3 0)], 2, [.blk 0 154 [.raw (.slice (locAddr 0 z.1.pl) z.1.tl.length z.1.c), .int .i64 p.last, .raw (.pointer (p.fst.map fun b => ⟨b, 0, none⟩)), .int .i64 p.till, .int .i64 p.num], .blk 1 148 [.int .i64 z.1.at_, .raw (.slice z.1.A z.1.bs.length z.1.cap)], .asn (Two p.pl p.cap p.ll z.1.pl z.1.c z.1.tl), .asn (Ds z.1.tl)]⟩)
    (fun z => p.ll.length - z.1.i) ⟨⟨0, A0, cap0, at0, bs0, p.pl, p.cap, [], p.ll⟩, Nat.zero_le _, ⟨hR, hb0, by simp, Int.le_refl _, rfl, Nat.le_refl _, by simp, by simp, hpc, by simp⟩⟩ ?_ ?_
  · exact Le.of rfl ⟨⟨_, rfl, rfl⟩, ⟨_, rfl, rfl⟩, ⟨_, rfl, rfl⟩, ⟨_, rfl, rfl⟩, ⟨_, rfl, rfl⟩, trivial⟩ (fun h k => sat_pick 1 rfl (by first | exact fun _ k => k | exact fun _ k => blk_to rfl rfl k | exact fun _ k => vec_to rfl k | exact fun _ k => blk_of rfl rfl k | exact fun _ k => vec_of rfl k | exact fun _ k => blk_of rfl rfl (blk_to rfl rfl k) | exact fun _ k => vec_of rfl (vec_to rfl k) | exact fun _ k => mp_to rfl k | exact fun _ k => mp_of rfl k | exact fun _ k => mp_of rfl (mp_to rfl k)) (fun h k => sat_pick 0 rfl (by first | exact fun _ k => k | exact fun _ k => blk_to rfl rfl k | exact fun _ k => vec_to rfl k | exact fun _ k => blk_of rfl rfl k | exact fun _ k => vec_of rfl k | exact fun _ k => blk_of rfl rfl (blk_to rfl rfl k) | exact fun _ k => vec_of rfl (vec_to rfl k) | exact fun _ k => mp_to rfl k | exact fun _ k => mp_of rfl k | exact fun _ k => mp_of rfl (mp_to rfl k)) (fun h k => sat_pick 0 rfl (fun _ k9 => .inl ⟨rfl, rfl, rfl, k9⟩) (fun h k => sat_pick 0 rfl (by first | exact fun _ k => k | exact fun _ k => blk_to rfl rfl k | exact fun _ k => vec_to rfl k | exact fun _ k => blk_of rfl rfl k | exact fun _ k => vec_of rfl k | exact fun _ k => blk_of rfl rfl (blk_to rfl rfl k) | exact fun _ k => vec_of rfl (vec_to rfl k) | exact fun _ k => mp_to rfl k | exact fun _ k => mp_of rfl k | exact fun _ k => mp_of rfl (mp_to rfl k)) (fun h k => sat_nil k) k) k) k) k)
  rintro ⟨⟨i, A, cap, at_, bs, pl, c, nw, tl⟩, hi, I⟩
  obtain ⟨rd, cp, gp, lo, st, nl, nc, nn, pc, tE⟩ := I
  simp only at hi rd cp gp lo st nl nc nn pc tE
  refine CondOb.split (fun g => ?_) (fun g => ?_)
  rotate_left
  · have e : i = p.ll.length := by
      have g := of_decide_eq_false g
      have : ¬ (i : Int) < p.ll.length := g
      omega
    subst e
    have gp : nw.map Sr.t ++ (if bs = [] then [] else [(at_, bs)]) = gaps p.ts (at0, bs0) := by
      rw [← gp, List.drop_eq_nil_of_le (by simp [Pk.ts])]
      rfl
    refine CondOb.split (fun g2 => ?_) (fun g2 => ?_)
    · refine DrawOb.mk [(5, [0, 6, 7, 8, 9]), (10, [0, 6, 7]), (12, [0]), (13, [0])] (.run [0, 1, 2, 3, 4, 6, 7, 8, 9, 5, 10, 11, 12, 13, 14, 15, 16] .nil) (by kernel_rfl) ?_
      have hb0 : bs ≠ [] := by
        have g2 := of_decide_eq_true g2
        have g2 : (bs.length : Int) > 0 := g2
        intro e; rw [e] at g2; simp at g2
      have hpos := List.length_pos_iff.2 hb0
      rw [if_neg hb0] at gp
      have htn : tl.length ≤ 80000 := by rw [tE, List.length_append]; omega
      refine call_ix (cloneS_spec (locAddr 0 pl) c tl (by omega)) rfl [] (fun h k => k) (fun f' b' hs kb => two_frame 2 hs kb rfl) ?_
      rintro v post ⟨pl1, c1, rfl, hc1, rfl⟩
      refine ⟨.sl 2 0 tl.length c1, (2, pl1) :: _, 3, [.vec 2 148 2 c1 (SrL.flat tl)], NmExt.push rfl, rfl, (fun h k => sat_pick 0 rfl (fun _ k => vec_of rfl k) (fun h k => sat_nil k) k), ?_⟩
      refine Need.mk rfl ?_
      refine Need.mk rfl ?_
      refine call_ix (clone_some A cap bs (by omega) (by omega)) rfl [] (fun h k => k) (fun f' b' hs kb => rd_sub (fun r q hq => hs.get_right hq) rd) ?_
      rintro v post ⟨b6, o6, c6, rfl, hc6, rfl⟩
      refine ⟨.sl 3 0 bs.length c6, (3, .at b6 o6) :: _, 4, [.vec 3 5 1 c6 (U.flat bs)], NmExt.push rfl, rfl, (fun h k => sat_pick 0 rfl (fun _ k => vec_of rfl k) (fun h k => sat_nil k) k), ?_⟩
      refine Need.mk rfl ?_
      intro b7
      have htl : (SrL.flat tl).length = tl.length * 2 := lSr _
      refine StOb.mk (SrL.cells ⟨at_, bs, b6, o6, c6⟩) rfl (Need.mk rfl ?_)
      refine Need.mk ⟨by omega, by omega, hc1⟩ ?_
      refine Need.mk ⟨by omega, by simp only [maxLen]; omega, SrL.one _⟩ ?_
      refine NewSl.pos (by omega) (fun b8 o8 c8 hc8 => ?_)
      have hfl : List.take (tl.length * 2) (List.drop 0 (SrL.flat tl)) ++ SrL.cells ⟨at_, bs, b6, o6, c6⟩ = SrL.flat (tl ++ [⟨at_, bs, b6, o6, c6⟩]) := by
        rw [List.drop_zero, List.take_of_length_le (by omega), SrL.flat_append, SrL.flat_one]
      have etl : (tl ++ [(⟨at_, bs, b6, o6, c6⟩ : Sr)]).length = tl.length + 1 := List.length_append
      refine call_ix (sortS_spec (.at b8 o8) c8 (tl ++ [⟨at_, bs, b6, o6, c6⟩]) (tl.length + 1) etl.symm (by omega)) rfl [1] (fun h k => sat_pick 1 rfl (fun _ k9 => by exact vec_cast hfl (vec_to (l := .at b8 o8) rfl k9)) (fun h k => sat_pick 0 rfl (by first | exact fun _ k => k | exact fun _ k => blk_to rfl rfl k | exact fun _ k => vec_to rfl k | exact fun _ k => blk_of rfl rfl k | exact fun _ k => vec_of rfl k | exact fun _ k => blk_of rfl rfl (blk_to rfl rfl k) | exact fun _ k => vec_of rfl (vec_to rfl k) | exact fun _ k => mp_to rfl k | exact fun _ k => mp_of rfl k | exact fun _ k => mp_of rfl (mp_to rfl k)) (fun h k => sat_pick 0 rfl (by first | exact fun _ k => k | exact fun _ k => blk_to rfl rfl k | exact fun _ k => vec_to rfl k | exact fun _ k => blk_of rfl rfl k | exact fun _ k => vec_of rfl k | exact fun _ k => blk_of rfl rfl (blk_to rfl rfl k) | exact fun _ k => vec_of rfl (vec_to rfl k) | exact fun _ k => mp_to rfl k | exact fun _ k => mp_of rfl k | exact fun _ k => mp_of rfl (mp_to rfl k)) (fun h k => sat_pick 0 rfl (by first | exact fun _ k => k | exact fun _ k => blk_to rfl rfl k | exact fun _ k => vec_to rfl k | exact fun _ k => blk_of rfl rfl k | exact fun _ k => vec_of rfl k | exact fun _ k => blk_of rfl rfl (blk_to rfl rfl k) | exact fun _ k => vec_of rfl (vec_to rfl k) | exact fun _ k => mp_to rfl k | exact fun _ k => mp_of rfl k | exact fun _ k => mp_of rfl (mp_to rfl k)) (fun h k => sat_pick 0 rfl (by first | exact fun _ k => k | exact fun _ k => blk_to rfl rfl k | exact fun _ k => vec_to rfl k | exact fun _ k => blk_of rfl rfl k | exact fun _ k => vec_of rfl k | exact fun _ k => blk_of rfl rfl (blk_to rfl rfl k) | exact fun _ k => vec_of rfl (vec_to rfl k) | exact fun _ k => mp_to rfl k | exact fun _ k => mp_of rfl k | exact fun _ k => mp_of rfl (mp_to rfl k)) (fun h k => sat_pick 0 rfl (by first | exact fun _ k => k | exact fun _ k => blk_to rfl rfl k | exact fun _ k => vec_to rfl k | exact fun _ k => blk_of rfl rfl k | exact fun _ k => vec_of rfl k | exact fun _ k => blk_of rfl rfl (blk_to rfl rfl k) | exact fun _ k => vec_of rfl (vec_to rfl k) | exact fun _ k => mp_to rfl k | exact fun _ k => mp_of rfl k | exact fun _ k => mp_of rfl (mp_to rfl k)) (fun h k => sat_pick 0 rfl (by first | exact fun _ k => k | exact fun _ k => blk_to rfl rfl k | exact fun _ k => vec_to rfl k | exact fun _ k => blk_of rfl rfl k | exact fun _ k => vec_of rfl k | exact fun _ k => blk_of rfl rfl (blk_to rfl rfl k) | exact fun _ k => vec_of rfl (vec_to rfl k) | exact fun _ k => mp_to rfl k | exact fun _ k => mp_of rfl k | exact fun _ k => mp_of rfl (mp_to rfl k)) (fun h k => sat_nil k) k) k) k) k) k) k) k) (fun f' b' hs kb => trivial) ?_
      rintro v post ⟨l', rfl, hp, hq, hpl', rfl⟩
      refine ⟨.tuple [], _, 6, [.asn (Vec (.at b8 o8) 148 2 c8 (SrL.flat l'))], NmExt.refl _, rfl, fun h k => k, ?_⟩
      have tE : tl ++ [(⟨at_, bs, b6, o6, c6⟩ : Sr)] = p.ll ++ (nw ++ [⟨at_, bs, b6, o6, c6⟩]) := by rw [tE, List.append_assoc]
      have nn : ∀ s ∈ nw ++ [(⟨at_, bs, b6, o6, c6⟩ : Sr)], s.bs ≠ [] := by
        intro s hs
        rcases List.mem_append.1 hs with hs | hs
        · exact nn s hs
        · simp only [List.mem_singleton] at hs; subst hs; exact hb0
      have nc : ∀ s ∈ nw ++ [(⟨at_, bs, b6, o6, c6⟩ : Sr)], s.bs.length ≤ s.cap := by
        intro s hs
        rcases List.mem_append.1 hs with hs | hs
        · exact nc s hs
        · simp only [List.mem_singleton] at hs; subst hs; exact hc6
      have hpm : (p.ts ++ gaps p.ts (at0, bs0)).Perm (l'.map Sr.t) := by
        rw [← gp]
        have := (hp.map Sr.t).symm
        (rw [tE, List.map_append, List.map_append] at this; exact this)
      have hallne : ∀ s ∈ tl ++ [(⟨at_, bs, b6, o6, c6⟩ : Sr)], s.bs ≠ [] := by
        intro s hs
        rw [tE] at hs
        rcases List.mem_append.1 hs with hs | hs
        · exact hw.some s.t (List.mem_map.2 ⟨s, hs, rfl⟩)
        · exact nn s hs
      have hallc : ∀ s ∈ tl ++ [(⟨at_, bs, b6, o6, c6⟩ : Sr)], s.bs.length ≤ s.cap := by
        intro s hs
        rw [tE] at hs
        rcases List.mem_append.1 hs with hs | hs
        · exact hcap s hs
        · exact nc s hs
      have hall : ∀ s ∈ l', 0 ≤ s.at_ ∧ s.stop ≤ 1000000 := by
        intro s hs
        have hs2 := hpm.mem_iff.2 (List.mem_map.2 ⟨s, hs, rfl⟩)
        rcases List.mem_append.1 hs2 with hs2 | hs2
        · obtain ⟨s', hs', e⟩ := List.mem_map.1 hs2
          have := h1 s' hs'
          have e1 : s'.at_ = s.at_ := congrArg (·.1) e
          have e2 : s'.bs = s.bs := congrArg (·.2) e
          unfold Sr.stop at *
          rw [← e1, ← e2]; exact this
        · have := gaps_in _ hs2
          have e1 : at0 ≤ s.at_ := this.2.1
          have e2 : s.stop ≤ at0 + bs0.length := this.2.2
          omega
      refine call_ix (melt_walk w { p with ll := l', pl := (.at b8 o8), cap := c8 } (by show l'.length ≤ 100000; rw [hp.length_eq]; omega) ?_ hpl' ?_ ?_ ?_) rfl [0, 0, 1, 3] (fun h k => pka_make hp etl.symm ((fun h k => sat_pick 1 rfl (fun _ k9 => blk_to (b := w) rfl rfl k9) (fun h k => sat_pick 0 rfl (by first | exact fun _ k => k | exact fun _ k => blk_to rfl rfl k | exact fun _ k => vec_to rfl k | exact fun _ k => blk_of rfl rfl k | exact fun _ k => vec_of rfl k | exact fun _ k => blk_of rfl rfl (blk_to rfl rfl k) | exact fun _ k => vec_of rfl (vec_to rfl k) | exact fun _ k => mp_to rfl k | exact fun _ k => mp_of rfl k | exact fun _ k => mp_of rfl (mp_to rfl k)) (fun h k => sat_pick2 1 3 rfl rfl (fun h9 k9 => (by obtain ⟨a9, b9, t9, ka, kb⟩ := k9; exact ds_snoc (y := ⟨at_, bs, b6, o6, c6⟩) h9 ⟨a9, b9, t9, vec_to (l := .at b6 o6) rfl ka, kb⟩)) (fun h k => sat_pick 0 rfl (by first | exact fun _ k => k | exact fun _ k => blk_to rfl rfl k | exact fun _ k => vec_to rfl k | exact fun _ k => blk_of rfl rfl k | exact fun _ k => vec_of rfl k | exact fun _ k => blk_of rfl rfl (blk_to rfl rfl k) | exact fun _ k => vec_of rfl (vec_to rfl k) | exact fun _ k => mp_to rfl k | exact fun _ k => mp_of rfl k | exact fun _ k => mp_of rfl (mp_to rfl k)) (fun h k => sat_pick 0 rfl (by first | exact fun _ k => k | exact fun _ k => blk_to rfl rfl k | exact fun _ k => vec_to rfl k | exact fun _ k => blk_of rfl rfl k | exact fun _ k => vec_of rfl k | exact fun _ k => blk_of rfl rfl (blk_to rfl rfl k) | exact fun _ k => vec_of rfl (vec_to rfl k) | exact fun _ k => mp_to rfl k | exact fun _ k => mp_of rfl k | exact fun _ k => mp_of rfl (mp_to rfl k)) (fun h k => sat_pick 0 rfl (by first | exact fun _ k => k | exact fun _ k => blk_to rfl rfl k | exact fun _ k => vec_to rfl k | exact fun _ k => blk_of rfl rfl k | exact fun _ k => vec_of rfl k | exact fun _ k => blk_of rfl rfl (blk_to rfl rfl k) | exact fun _ k => vec_of rfl (vec_to rfl k) | exact fun _ k => mp_to rfl k | exact fun _ k => mp_of rfl k | exact fun _ k => mp_of rfl (mp_to rfl k)) (fun h k => sat_nil k) k) k) k) k) k) k) h k)) (fun f' b' hs kb => trivial) ?_
      rotate_right
      · rintro v post ⟨ll, pl', cap', rfl, h5, h6, h7, h8, rfl⟩
        refine ⟨.tuple [], _, 6, [.asn (PkA w { p with ll := ll, pl := pl', cap := cap' })], NmExt.refl _, rfl, fun h k => k, ?_⟩
        exact FinOb.mk [] [PkA w { p with ll := ll, pl := pl', cap := cap' }] rfl (fun h k => sat_pick 0 rfl (by first | exact fun _ k => k | exact fun _ k => blk_to rfl rfl k | exact fun _ k => vec_to rfl k | exact fun _ k => blk_of rfl rfl k | exact fun _ k => vec_of rfl k | exact fun _ k => blk_of rfl rfl (blk_to rfl rfl k) | exact fun _ k => vec_of rfl (vec_to rfl k) | exact fun _ k => mp_to rfl k | exact fun _ k => mp_of rfl k | exact fun _ k => mp_of rfl (mp_to rfl k)) (fun h k => sat_nil k) k) ⟨ll, pl', cap', l'.map Sr.t, rfl, h5, hpm, List.pairwise_map.2 hq, h6, h7, h8, rfl⟩
      · exact hall
      · exact fun s hs => hallne s (hp.mem_iff.1 hs)
      · exact so_of hw hpm (List.pairwise_map.2 hq)
      · exact fun s hs => hallc s (hp.mem_iff.1 hs)
    · have hb : bs = [] := by
        have g2 := of_decide_eq_false g2
        have g2 : ¬ (bs.length : Int) > 0 := g2
        exact List.eq_nil_of_length_eq_zero (by omega)
      rw [if_pos hb, List.append_nil] at gp
      have htn : tl.length ≤ 80000 := by rw [tE, List.length_append]; omega
      refine call_ix (sortS_spec pl c tl _ rfl (by omega)) rfl [2] (fun h k => two_end ((fun h k => sat_pick 2 rfl (by first | exact fun _ k => k | exact fun _ k => blk_to rfl rfl k | exact fun _ k => vec_to rfl k | exact fun _ k => blk_of rfl rfl k | exact fun _ k => vec_of rfl k | exact fun _ k => blk_of rfl rfl (blk_to rfl rfl k) | exact fun _ k => vec_of rfl (vec_to rfl k) | exact fun _ k => mp_to rfl k | exact fun _ k => mp_of rfl k | exact fun _ k => mp_of rfl (mp_to rfl k)) (fun h k => sat_pick 0 rfl (by first | exact fun _ k => k | exact fun _ k => blk_to rfl rfl k | exact fun _ k => vec_to rfl k | exact fun _ k => blk_of rfl rfl k | exact fun _ k => vec_of rfl k | exact fun _ k => blk_of rfl rfl (blk_to rfl rfl k) | exact fun _ k => vec_of rfl (vec_to rfl k) | exact fun _ k => mp_to rfl k | exact fun _ k => mp_of rfl k | exact fun _ k => mp_of rfl (mp_to rfl k)) (fun h k => sat_pick 0 rfl (by first | exact fun _ k => k | exact fun _ k => blk_to rfl rfl k | exact fun _ k => vec_to rfl k | exact fun _ k => blk_of rfl rfl k | exact fun _ k => vec_of rfl k | exact fun _ k => blk_of rfl rfl (blk_to rfl rfl k) | exact fun _ k => vec_of rfl (vec_to rfl k) | exact fun _ k => mp_to rfl k | exact fun _ k => mp_of rfl k | exact fun _ k => mp_of rfl (mp_to rfl k)) (fun h k => sat_pick 0 rfl (by first | exact fun _ k => k | exact fun _ k => blk_to rfl rfl k | exact fun _ k => vec_to rfl k | exact fun _ k => blk_of rfl rfl k | exact fun _ k => vec_of rfl k | exact fun _ k => blk_of rfl rfl (blk_to rfl rfl k) | exact fun _ k => vec_of rfl (vec_to rfl k) | exact fun _ k => mp_to rfl k | exact fun _ k => mp_of rfl k | exact fun _ k => mp_of rfl (mp_to rfl k)) (fun h k => sat_nil k) k) k) k) k) h k)) (fun f' b' hs kb => trivial) ?_
      rintro v post ⟨l', rfl, hp, hq, hpl', rfl⟩
      refine ⟨.tuple [], _, 2, [.asn (Vec pl 148 2 c (SrL.flat l'))], NmExt.refl _, rfl, fun h k => k, ?_⟩
      have hpm : (p.ts ++ gaps p.ts (at0, bs0)).Perm (l'.map Sr.t) := by
        rw [← gp]
        have := (hp.map Sr.t).symm
        (rw [tE, List.map_append] at this; exact this)
      have hallne : ∀ s ∈ tl, s.bs ≠ [] := by
        intro s hs
        rw [tE] at hs
        rcases List.mem_append.1 hs with hs | hs
        · exact hw.some s.t (List.mem_map.2 ⟨s, hs, rfl⟩)
        · exact nn s hs
      have hallc : ∀ s ∈ tl, s.bs.length ≤ s.cap := by
        intro s hs
        rw [tE] at hs
        rcases List.mem_append.1 hs with hs | hs
        · exact hcap s hs
        · exact nc s hs
      have hall : ∀ s ∈ l', 0 ≤ s.at_ ∧ s.stop ≤ 1000000 := by
        intro s hs
        have hs2 := hpm.mem_iff.2 (List.mem_map.2 ⟨s, hs, rfl⟩)
        rcases List.mem_append.1 hs2 with hs2 | hs2
        · obtain ⟨s', hs', e⟩ := List.mem_map.1 hs2
          have := h1 s' hs'
          have e1 : s'.at_ = s.at_ := congrArg (·.1) e
          have e2 : s'.bs = s.bs := congrArg (·.2) e
          unfold Sr.stop at *
          rw [← e1, ← e2]; exact this
        · have := gaps_in _ hs2
          have e1 : at0 ≤ s.at_ := this.2.1
          have e2 : s.stop ≤ at0 + bs0.length := this.2.2
          omega
      refine call_ix (melt_walk w { p with ll := l', pl := pl, cap := c } (by show l'.length ≤ 100000; rw [hp.length_eq]; omega) ?_ hpl' ?_ ?_ ?_) rfl [0, 0, 1] (fun h k => pka_make hp rfl ((fun h k => sat_pick 1 rfl (fun _ k9 => blk_to (b := w) rfl rfl k9) (fun h k => sat_pick 0 rfl (by first | exact fun _ k => k | exact fun _ k => blk_to rfl rfl k | exact fun _ k => vec_to rfl k | exact fun _ k => blk_of rfl rfl k | exact fun _ k => vec_of rfl k | exact fun _ k => blk_of rfl rfl (blk_to rfl rfl k) | exact fun _ k => vec_of rfl (vec_to rfl k) | exact fun _ k => mp_to rfl k | exact fun _ k => mp_of rfl k | exact fun _ k => mp_of rfl (mp_to rfl k)) (fun h k => sat_pick 1 rfl (by first | exact fun _ k => k | exact fun _ k => blk_to rfl rfl k | exact fun _ k => vec_to rfl k | exact fun _ k => blk_of rfl rfl k | exact fun _ k => vec_of rfl k | exact fun _ k => blk_of rfl rfl (blk_to rfl rfl k) | exact fun _ k => vec_of rfl (vec_to rfl k) | exact fun _ k => mp_to rfl k | exact fun _ k => mp_of rfl k | exact fun _ k => mp_of rfl (mp_to rfl k)) (fun h k => sat_pick 0 rfl (by first | exact fun _ k => k | exact fun _ k => blk_to rfl rfl k | exact fun _ k => vec_to rfl k | exact fun _ k => blk_of rfl rfl k | exact fun _ k => vec_of rfl k | exact fun _ k => blk_of rfl rfl (blk_to rfl rfl k) | exact fun _ k => vec_of rfl (vec_to rfl k) | exact fun _ k => mp_to rfl k | exact fun _ k => mp_of rfl k | exact fun _ k => mp_of rfl (mp_to rfl k)) (fun h k => sat_nil k) k) k) k) k) h k)) (fun f' b' hs kb => trivial) ?_
      rotate_right
      · rintro v post ⟨ll, pl', cap', rfl, h5, h6, h7, h8, rfl⟩
        refine ⟨.tuple [], _, 2, [.asn (PkA w { p with ll := ll, pl := pl', cap := cap' })], NmExt.refl _, rfl, fun h k => k, ?_⟩
        exact FinOb.mk [] [PkA w { p with ll := ll, pl := pl', cap := cap' }] rfl (fun h k => sat_pick 0 rfl (by first | exact fun _ k => k | exact fun _ k => blk_to rfl rfl k | exact fun _ k => vec_to rfl k | exact fun _ k => blk_of rfl rfl k | exact fun _ k => vec_of rfl k | exact fun _ k => blk_of rfl rfl (blk_to rfl rfl k) | exact fun _ k => vec_of rfl (vec_to rfl k) | exact fun _ k => mp_to rfl k | exact fun _ k => mp_of rfl k | exact fun _ k => mp_of rfl (mp_to rfl k)) (fun h k => sat_nil k) k) ⟨ll, pl', cap', l'.map Sr.t, rfl, h5, hpm, List.pairwise_map.2 hq, h6, h7, h8, rfl⟩
      · exact hall
      · exact fun s hs => hallne s (hp.mem_iff.1 hs)
      · exact so_of hw hpm (List.pairwise_map.2 hq)
      · exact fun s hs => hallc s (hp.mem_iff.1 hs)
  · have gi : i < p.ll.length := by
      have g := of_decide_eq_true g
      have : (i : Int) < p.ll.length := g
      omega
    obtain ⟨pb, po, hpl⟩ := hpl (by intro e; rw [e] at gi; simp at gi)
    have hx := List.getElem?_eq_getElem gi
    generalize p.ll[i] = x at hx
    have ei : IntKind.i64.wrap ((i : Int) + 1) = ((i + 1 : Nat) : Int) := by rw [w64 (by omega) (by omega)]; omega
    refine Need.mk (show (0 : Int) ≤ (i : Int) ∧ (i : Int) < (p.ll.length : Nat) from ⟨by omega, by omega⟩) (RawAt.mk pb (po + 0) (by rw [hpl]; rfl) ?_)
    refine RdF.told x.svs x.vals rfl rfl (fun h k j v hv => sat_cell 2 rfl (fun y ky => ?_) k) ?_
    · obtain ⟨b', i', h', hh⟩ := (reads_two ky).1 (i * 2 + j) v (SrL.flat_at hx hv)
      rw [hpl] at h'
      cases h'
      rw [Int.toNat_natCast, Nat.add_assoc]; exact hh
    intro b5
    refine CondOb.split (fun ge => ?_) (fun ge => ?_)
    · have hb : bs = [] := by
        have ge := of_decide_eq_true ge
        have ge : (bs.length : Int) = 0 := ge
        exact List.eq_nil_of_length_eq_zero (by omega)
      refine CondOb.split (fun g2 => ?_) (fun g2 => ?_)
      · have g2 := of_decide_eq_true g2
        have g2 : (bs.length : Int) > 0 := g2
        rw [hb] at g2; simp at g2
      have gn : ∀ (l : List T) (a : Int), gaps l (a, []) = [] := fun l a => by cases l <;> (unfold gaps; exact if_pos rfl)
      rw [hb, gn, List.append_nil] at gp
      have htn : tl.length ≤ 80000 := by rw [tE, List.length_append]; omega
      refine call_ix (sortS_spec pl c tl _ rfl (by omega)) rfl [3] (fun h k => two_end ((fun h k => sat_pick 3 rfl (by first | exact fun _ k => k | exact fun _ k => blk_to rfl rfl k | exact fun _ k => vec_to rfl k | exact fun _ k => blk_of rfl rfl k | exact fun _ k => vec_of rfl k | exact fun _ k => blk_of rfl rfl (blk_to rfl rfl k) | exact fun _ k => vec_of rfl (vec_to rfl k) | exact fun _ k => mp_to rfl k | exact fun _ k => mp_of rfl k | exact fun _ k => mp_of rfl (mp_to rfl k)) (fun h k => sat_pick 0 rfl (by first | exact fun _ k => k | exact fun _ k => blk_to rfl rfl k | exact fun _ k => vec_to rfl k | exact fun _ k => blk_of rfl rfl k | exact fun _ k => vec_of rfl k | exact fun _ k => blk_of rfl rfl (blk_to rfl rfl k) | exact fun _ k => vec_of rfl (vec_to rfl k) | exact fun _ k => mp_to rfl k | exact fun _ k => mp_of rfl k | exact fun _ k => mp_of rfl (mp_to rfl k)) (fun h k => sat_pick 0 rfl (by first | exact fun _ k => k | exact fun _ k => blk_to rfl rfl k | exact fun _ k => vec_to rfl k | exact fun _ k => blk_of rfl rfl k | exact fun _ k => vec_of rfl k | exact fun _ k => blk_of rfl rfl (blk_to rfl rfl k) | exact fun _ k => vec_of rfl (vec_to rfl k) | exact fun _ k => mp_to rfl k | exact fun _ k => mp_of rfl k | exact fun _ k => mp_of rfl (mp_to rfl k)) (fun h k => sat_pick 0 rfl (by first | exact fun _ k => k | exact fun _ k => blk_to rfl rfl k | exact fun _ k => vec_to rfl k | exact fun _ k => blk_of rfl rfl k | exact fun _ k => vec_of rfl k | exact fun _ k => blk_of rfl rfl (blk_to rfl rfl k) | exact fun _ k => vec_of rfl (vec_to rfl k) | exact fun _ k => mp_to rfl k | exact fun _ k => mp_of rfl k | exact fun _ k => mp_of rfl (mp_to rfl k)) (fun h k => sat_pick 0 rfl (by first | exact fun _ k => k | exact fun _ k => blk_to rfl rfl k | exact fun _ k => vec_to rfl k | exact fun _ k => blk_of rfl rfl k | exact fun _ k => vec_of rfl k | exact fun _ k => blk_of rfl rfl (blk_to rfl rfl k) | exact fun _ k => vec_of rfl (vec_to rfl k) | exact fun _ k => mp_to rfl k | exact fun _ k => mp_of rfl k | exact fun _ k => mp_of rfl (mp_to rfl k)) (fun h k => sat_nil k) k) k) k) k) k) h k)) (fun f' b' hs kb => trivial) ?_
      rintro v post ⟨l', rfl, hp, hq, hpl', rfl⟩
      refine ⟨.tuple [], _, 3, [.asn (Vec pl 148 2 c (SrL.flat l'))], NmExt.refl _, rfl, fun h k => k, ?_⟩
      have hpm : (p.ts ++ gaps p.ts (at0, bs0)).Perm (l'.map Sr.t) := by
        rw [← gp]
        have := (hp.map Sr.t).symm
        (rw [tE, List.map_append] at this; exact this)
      have hallne : ∀ s ∈ tl, s.bs ≠ [] := by
        intro s hs
        rw [tE] at hs
        rcases List.mem_append.1 hs with hs | hs
        · exact hw.some s.t (List.mem_map.2 ⟨s, hs, rfl⟩)
        · exact nn s hs
      have hallc : ∀ s ∈ tl, s.bs.length ≤ s.cap := by
        intro s hs
        rw [tE] at hs
        rcases List.mem_append.1 hs with hs | hs
        · exact hcap s hs
        · exact nc s hs
      have hall : ∀ s ∈ l', 0 ≤ s.at_ ∧ s.stop ≤ 1000000 := by
        intro s hs
        have hs2 := hpm.mem_iff.2 (List.mem_map.2 ⟨s, hs, rfl⟩)
        rcases List.mem_append.1 hs2 with hs2 | hs2
        · obtain ⟨s', hs', e⟩ := List.mem_map.1 hs2
          have := h1 s' hs'
          have e1 : s'.at_ = s.at_ := congrArg (·.1) e
          have e2 : s'.bs = s.bs := congrArg (·.2) e
          unfold Sr.stop at *
          rw [← e1, ← e2]; exact this
        · have := gaps_in _ hs2
          have e1 : at0 ≤ s.at_ := this.2.1
          have e2 : s.stop ≤ at0 + bs0.length := this.2.2
          omega
      refine call_ix (melt_walk w { p with ll := l', pl := pl, cap := c } (by show l'.length ≤ 100000; rw [hp.length_eq]; omega) ?_ hpl' ?_ ?_ ?_) rfl [0, 1, 2] (fun h k => pka_make hp rfl ((fun h k => sat_pick 2 rfl (fun _ k9 => blk_to (b := w) rfl rfl k9) (fun h k => sat_pick 0 rfl (by first | exact fun _ k => k | exact fun _ k => blk_to rfl rfl k | exact fun _ k => vec_to rfl k | exact fun _ k => blk_of rfl rfl k | exact fun _ k => vec_of rfl k | exact fun _ k => blk_of rfl rfl (blk_to rfl rfl k) | exact fun _ k => vec_of rfl (vec_to rfl k) | exact fun _ k => mp_to rfl k | exact fun _ k => mp_of rfl k | exact fun _ k => mp_of rfl (mp_to rfl k)) (fun h k => sat_pick 2 rfl (by first | exact fun _ k => k | exact fun _ k => blk_to rfl rfl k | exact fun _ k => vec_to rfl k | exact fun _ k => blk_of rfl rfl k | exact fun _ k => vec_of rfl k | exact fun _ k => blk_of rfl rfl (blk_to rfl rfl k) | exact fun _ k => vec_of rfl (vec_to rfl k) | exact fun _ k => mp_to rfl k | exact fun _ k => mp_of rfl k | exact fun _ k => mp_of rfl (mp_to rfl k)) (fun h k => sat_pick 0 rfl (by first | exact fun _ k => k | exact fun _ k => blk_to rfl rfl k | exact fun _ k => vec_to rfl k | exact fun _ k => blk_of rfl rfl k | exact fun _ k => vec_of rfl k | exact fun _ k => blk_of rfl rfl (blk_to rfl rfl k) | exact fun _ k => vec_of rfl (vec_to rfl k) | exact fun _ k => mp_to rfl k | exact fun _ k => mp_of rfl k | exact fun _ k => mp_of rfl (mp_to rfl k)) (fun h k => sat_pick 0 rfl (by first | exact fun _ k => k | exact fun _ k => blk_to rfl rfl k | exact fun _ k => vec_to rfl k | exact fun _ k => blk_of rfl rfl k | exact fun _ k => vec_of rfl k | exact fun _ k => blk_of rfl rfl (blk_to rfl rfl k) | exact fun _ k => vec_of rfl (vec_to rfl k) | exact fun _ k => mp_to rfl k | exact fun _ k => mp_of rfl k | exact fun _ k => mp_of rfl (mp_to rfl k)) (fun h k => sat_nil k) k) k) k) k) k) h k)) (fun f' b' hs kb => trivial) ?_
      rotate_right
      · rintro v post ⟨ll, pl', cap', rfl, h5, h6, h7, h8, rfl⟩
        refine ⟨.tuple [], _, 3, [.asn (PkA w { p with ll := ll, pl := pl', cap := cap' })], NmExt.refl _, rfl, fun h k => k, ?_⟩
        exact FinOb.mk [] [PkA w { p with ll := ll, pl := pl', cap := cap' }] rfl (fun h k => sat_pick 0 rfl (by first | exact fun _ k => k | exact fun _ k => blk_to rfl rfl k | exact fun _ k => vec_to rfl k | exact fun _ k => blk_of rfl rfl k | exact fun _ k => vec_of rfl k | exact fun _ k => blk_of rfl rfl (blk_to rfl rfl k) | exact fun _ k => vec_of rfl (vec_to rfl k) | exact fun _ k => mp_to rfl k | exact fun _ k => mp_of rfl k | exact fun _ k => mp_of rfl (mp_to rfl k)) (fun h k => sat_nil k) k) ⟨ll, pl', cap', l'.map Sr.t, rfl, h5, hpm, List.pairwise_map.2 hq, h6, h7, h8, rfl⟩
      · exact hall
      · exact fun s hs => hallne s (hp.mem_iff.1 hs)
      · exact so_of hw hpm (List.pairwise_map.2 hq)
      · exact fun s hs => hallc s (hp.mem_iff.1 hs)
    refine CondOb.join { z : LyZ // LyI p at0 bs0 f (fun s => gaps (p.ts.drop (i + 1)) (s.cut (min (x.stop - s.1).toNat s.2.length))) (i + 1) z } (fun z =>
      ⟨111, [(0, .ptr 0 0), (3, .ptr 1 0), (5, .ptr 2 0), (11, .raw (.slice (locAddr 0 p.pl) p.ll.length p.cap)), (12, .int .i64 p.ll.length), (13, .int .i64 i)], [(0, .at w 0), (1, .at b3 0), (2, .at b5 0)], 3, [.blk 0 154 [.raw (.slice (locAddr 0 z.1.pl) z.1.tl.length z.1.c), .int .i64 p.last, .raw (.pointer (p.fst.map fun b => ⟨b, 0, none⟩)), .int .i64 p.till, .int .i64 p.num], .blk 1 148 [.int .i64 z.1.at_, .raw (.slice z.1.A z.1.bs.length z.1.cap)], .blk 2 148 x.svs, .asn (Two p.pl p.cap p.ll z.1.pl z.1.c z.1.tl), .asn (Ds z.1.tl)]⟩) (fun gl => ?_) (fun gl => ?_) (fun z => ?_)
    · have gl : at_ < x.at_ := by simpa using gl
      refine DrawOb.mk [(5, [0, 6, 7, 8, 9, 10, 11]), (12, [0, 6, 7]), (14, [0]), (15, [0])] (.run [0, 1, 2, 3, 4, 6, 7, 8, 9, 10, 11, 5, 12, 13, 14, 15, 16, 17, 18] .nil) (by kernel_rfl) ?_
      have hpos : 0 < bs.length := by
        have ge := of_decide_eq_false ge
        have : ¬ (bs.length : Int) = 0 := ge
        omega
      have hxb := h1 x (List.mem_of_getElem? hx)
      have hxs : x.stop = x.at_ + x.bs.length := rfl
      have hm := minI (a := x.at_ - at_) (n := bs.length) (by omega) (by omega) (by omega)
      generalize hn : min bs.length (x.at_ - at_).toNat = n at hm
      have hn0 : 0 < n ∧ n ≤ bs.length := by omega
      have htn : tl.length ≤ 80000 := by rw [tE, List.length_append]; omega
      refine Need.mk (show 0 ≤ (if IntKind.i64.wrap (x.at_ - at_) < (bs.length : Int) then IntKind.i64.wrap (x.at_ - at_) else (bs.length : Int)) ∧ (if IntKind.i64.wrap (x.at_ - at_) < (bs.length : Int) then IntKind.i64.wrap (x.at_ - at_) else (bs.length : Int)) ≤ (cap : Nat) from by rw [hm]; omega) ?_
      refine call_ix (cloneS_spec (locAddr 0 pl) c tl (by rw [tE, List.length_append]; omega)) rfl [] (fun h k => k) (fun f' b' hs kb => two_frame 3 hs kb rfl) ?_
      rintro v post ⟨pl1, c1, rfl, hc1, rfl⟩
      refine ⟨.sl 3 0 tl.length c1, (3, pl1) :: _, 4, [.vec 3 148 2 c1 (SrL.flat tl)], NmExt.push rfl, rfl, (fun h k => sat_pick 0 rfl (fun _ k => vec_of rfl k) (fun h k => sat_nil k) k), ?_⟩
      refine Need.mk rfl ?_
      refine Need.mk rfl ?_
      have htk : (bs.take n).length = n := by rw [List.length_take]; omega
      have hm2 := hm.trans (congrArg Int.ofNat htk.symm)
      refine call_ix (clone_some A cap (bs.take n) (by omega) (by omega)) (by exact congrArg (fun k : Int => some [Value.slice A k.toNat cap]) hm2) [] (fun h k => k) (fun f' b' hs kb => rd_sub (fun r q hq => hs.get_right hq) (take_rd rd)) ?_
      rintro v post ⟨b6, o6, c6, rfl, hc6, rfl⟩
      refine ⟨.sl 4 0 (bs.take n).length c6, (4, .at b6 o6) :: _, 5, [.vec 4 5 1 c6 (U.flat (bs.take n))], NmExt.push rfl, rfl, (fun h k => sat_pick 0 rfl (fun _ k => vec_of rfl k) (fun h k => sat_nil k) k), ?_⟩
      refine Need.mk rfl ?_
      intro b7
      have htl : (SrL.flat tl).length = tl.length * 2 := lSr _
      refine StOb.mk (SrL.cells ⟨at_, bs.take n, b6, o6, c6⟩) rfl (Need.mk rfl ?_)
      refine Need.mk ⟨by omega, by omega, hc1⟩ ?_
      refine Need.mk ⟨by omega, by simp only [maxLen]; omega, SrL.one _⟩ ?_
      refine NewSl.pos (by omega) (fun b8 o8 c8 hc8 => ?_)
      refine DrawOb.mk [] (.run [0, 1, 2, 3, 4, 5, 6, 7, 8, 9] .nil) (by kernel_rfl) ?_
      refine Need.mk (show 0 ≤ (if IntKind.i64.wrap (x.at_ - at_) < (bs.length : Int) then IntKind.i64.wrap (x.at_ - at_) else (bs.length : Int)) ∧ (if IntKind.i64.wrap (x.at_ - at_) < (bs.length : Int) then IntKind.i64.wrap (x.at_ - at_) else (bs.length : Int)) ≤ (bs.length : Nat) from by rw [hm]; omega) ?_
      have hdl : (bs.drop n).length = bs.length - n := List.length_drop
      have hfl : List.take (tl.length * 2) (List.drop 0 (SrL.flat tl)) ++ SrL.cells ⟨at_, bs.take n, b6, o6, c6⟩ = SrL.flat (tl ++ [⟨at_, bs.take n, b6, o6, c6⟩]) := by
        rw [List.drop_zero, List.take_of_length_le (by omega), SrL.flat_append, SrL.flat_one]
      have etl : (tl ++ [(⟨at_, bs.take n, b6, o6, c6⟩ : Sr)]).length = tl.length + 1 := List.length_append
      refine ⟨⟨⟨0, if cap = n then A else A.map (·.add (n * 1)), cap - n, at_ + n, bs.drop n, .at b8 o8, c8, nw ++ [⟨at_, bs.take n, b6, o6, c6⟩], tl ++ [⟨at_, bs.take n, b6, o6, c6⟩]⟩, ?_⟩, Le.of rfl ⟨⟨_, rfl, rfl⟩, ⟨_, rfl, rfl⟩, ⟨_, rfl, rfl⟩, ⟨_, rfl, rfl⟩, ⟨_, rfl, rfl⟩, ⟨_, rfl, rfl⟩, trivial⟩ (fun h k => ?_)⟩
      · refine ⟨slice_rd rd cp, ?_, ?_, ?_, ?_, ?_, ?_, ?_, ?_, ?_⟩
        · show (bs.drop n).length ≤ cap - n
          omega
        · show (nw ++ [_]).map Sr.t ++ _ = _
          rw [← gp]
          have hdt : p.ts.drop i = x.t :: p.ts.drop (i + 1) := by
            have : p.ts[i]? = some x.t := by simp [Pk.ts, hx]
            rw [List.drop_eq_getElem_cons (by simp [Pk.ts]; omega)]
            congr 1
            rw [List.getElem?_eq_getElem (by simp [Pk.ts]; omega)] at this
            exact Option.some.inj this
          rw [hdt]
          conv => rhs; unfold gaps
          rw [if_neg (show ¬ (at_, bs).2 = [] from fun e => by simp only at e; rw [e] at hpos; simp at hpos), if_pos (show (at_, bs).1 < x.t.1 from gl)]
          simp only [List.map_append, List.map_cons, List.map_nil, List.append_assoc, List.singleton_append]
          have e1 : min (at_, bs).2.length (x.t.1 - (at_, bs).1).toNat = n := hn
          rw [e1]
          rfl
        · show at0 ≤ at_ + n
          omega
        · show at_ + n + ((bs.drop n).length : Nat) = _
          omega
        · show (nw ++ [_]).length ≤ i + 1
          rw [List.length_append]
          exact Nat.add_le_add_right nl 1
        · intro s hs
          rcases List.mem_append.1 hs with hs | hs
          · exact nc s hs
          · simp only [List.mem_singleton] at hs; subst hs; exact hc6
        · intro s hs
          rcases List.mem_append.1 hs with hs | hs
          · exact nn s hs
          · simp only [List.mem_singleton] at hs; subst hs
            exact List.length_pos_iff.1 (by show 0 < (bs.take n).length; omega)
        · show (tl ++ [_]).length ≤ c8
          omega
        · show tl ++ [_] = p.ll ++ (nw ++ [_])
          rw [tE, List.append_assoc]
      · have eb1 : ∀ e : Int, e = (n : Int) → [SV.int .i64 (IntKind.i64.wrap (at_ + e)), .raw (.slice (if cap = e.toNat then A else A.map (·.add (e.toNat * 1))) (bs.length - e.toNat) (cap - e.toNat))] = [SV.int .i64 (at_ + n), .raw (.slice (if cap = n then A else A.map (·.add (n * 1))) (bs.drop n).length (cap - n))] := by
          rintro _ rfl
          rw [w64 (by omega) (by omega), Int.toNat_natCast, hdl]
        exact (fun h k => sat_pick 1 rfl (fun _ k9 => by exact blk_cast (congrArg (fun q => [SV.raw (.slice (locAddr 0 (.at b8 o8)) q c8), .int .i64 p.last, .raw (.pointer (p.fst.map fun b => ⟨b, 0, none⟩)), .int .i64 p.till, .int .i64 p.num]) etl.symm) (blk_of rfl rfl (blk_to rfl rfl k9))) (fun h k => sat_pick 0 rfl (fun _ k9 => by exact blk_cast (eb1 _ hm) k9) (fun h k => sat_pick 3 rfl (by first | exact fun _ k => k | exact fun _ k => blk_to rfl rfl k | exact fun _ k => vec_to rfl k | exact fun _ k => blk_of rfl rfl k | exact fun _ k => vec_of rfl k | exact fun _ k => blk_of rfl rfl (blk_to rfl rfl k) | exact fun _ k => vec_of rfl (vec_to rfl k) | exact fun _ k => mp_to rfl k | exact fun _ k => mp_of rfl k | exact fun _ k => mp_of rfl (mp_to rfl k)) (fun h k => sat_pick2 3 0 rfl rfl (fun h9 k9 => by
          obtain ⟨a9, b9, t9, ka, b1, b2, t2, kb, kc⟩ := k9
          exact two_new h9 ⟨a9, b9, t9, ka, b1, b2, t2, vec_cast hfl (vec_to (l := .at b8 o8) rfl kb), kc⟩) (fun h k => sat_pick2 1 1 rfl rfl (fun h9 k9 => by
          obtain ⟨a9, b9, t9, ka, kb⟩ := k9
          exact ds_snoc h9 ⟨a9, b9, t9, vec_to (l := .at b6 o6) rfl ka, kb⟩) (fun h k => sat_nil k) k) k) k) k) k) h k
    · have gl : ¬ at_ < x.at_ := by simpa using gl
      refine ⟨⟨⟨0, A, cap, at_, bs, pl, c, nw, tl⟩, ⟨rd, cp, ?_, lo, st, Nat.le_succ_of_le nl, nc, nn, pc, tE⟩⟩, Le.of rfl ⟨⟨_, rfl, rfl⟩, ⟨_, rfl, rfl⟩, ⟨_, rfl, rfl⟩, ⟨_, rfl, rfl⟩, ⟨_, rfl, rfl⟩, ⟨_, rfl, rfl⟩, trivial⟩ (fun h k => sat_pick 1 rfl (by first | exact fun _ k => k | exact fun _ k => blk_to rfl rfl k | exact fun _ k => vec_to rfl k | exact fun _ k => blk_of rfl rfl k | exact fun _ k => vec_of rfl k | exact fun _ k => blk_of rfl rfl (blk_to rfl rfl k) | exact fun _ k => vec_of rfl (vec_to rfl k) | exact fun _ k => mp_to rfl k | exact fun _ k => mp_of rfl k | exact fun _ k => mp_of rfl (mp_to rfl k)) (fun h k => sat_pick 1 rfl (by first | exact fun _ k => k | exact fun _ k => blk_to rfl rfl k | exact fun _ k => vec_to rfl k | exact fun _ k => blk_of rfl rfl k | exact fun _ k => vec_of rfl k | exact fun _ k => blk_of rfl rfl (blk_to rfl rfl k) | exact fun _ k => vec_of rfl (vec_to rfl k) | exact fun _ k => mp_to rfl k | exact fun _ k => mp_of rfl k | exact fun _ k => mp_of rfl (mp_to rfl k)) (fun h k => sat_pick 0 rfl (by first | exact fun _ k => k | exact fun _ k => blk_to rfl rfl k | exact fun _ k => vec_to rfl k | exact fun _ k => blk_of rfl rfl k | exact fun _ k => vec_of rfl k | exact fun _ k => blk_of rfl rfl (blk_to rfl rfl k) | exact fun _ k => vec_of rfl (vec_to rfl k) | exact fun _ k => mp_to rfl k | exact fun _ k => mp_of rfl k | exact fun _ k => mp_of rfl (mp_to rfl k)) (fun h k => sat_pick 0 rfl (by first | exact fun _ k => k | exact fun _ k => blk_to rfl rfl k | exact fun _ k => vec_to rfl k | exact fun _ k => blk_of rfl rfl k | exact fun _ k => vec_of rfl k | exact fun _ k => blk_of rfl rfl (blk_to rfl rfl k) | exact fun _ k => vec_of rfl (vec_to rfl k) | exact fun _ k => mp_to rfl k | exact fun _ k => mp_of rfl k | exact fun _ k => mp_of rfl (mp_to rfl k)) (fun h k => sat_pick 0 rfl (by first | exact fun _ k => k | exact fun _ k => blk_to rfl rfl k | exact fun _ k => vec_to rfl k | exact fun _ k => blk_of rfl rfl k | exact fun _ k => vec_of rfl k | exact fun _ k => blk_of rfl rfl (blk_to rfl rfl k) | exact fun _ k => vec_of rfl (vec_to rfl k) | exact fun _ k => mp_to rfl k | exact fun _ k => mp_of rfl k | exact fun _ k => mp_of rfl (mp_to rfl k)) (fun h k => sat_nil k) k) k) k) k) k)⟩
      rw [← gp]
      have hdt : p.ts.drop i = x.t :: p.ts.drop (i + 1) := by
        have : p.ts[i]? = some x.t := by simp [Pk.ts, hx]
        rw [List.drop_eq_getElem_cons (by simp [Pk.ts]; omega)]
        congr 1
        rw [List.getElem?_eq_getElem (by simp [Pk.ts]; omega)] at this
        exact Option.some.inj this
      rw [hdt]
      conv => rhs; unfold gaps
      rw [if_neg (show ¬ (at_, bs).2 = [] from fun e => by
        have ge := of_decide_eq_false ge
        have ge : ¬ (bs.length : Int) = 0 := ge
        simp only at e; rw [e] at ge; simp at ge), if_neg (show ¬ (at_, bs).1 < x.t.1 from gl)]
      rfl
    · obtain ⟨⟨i0, A, cap, at_, bs, pl, c, nw, tl⟩, I⟩ := z
      obtain ⟨rd, cp, gp, lo, st, nl, nc, nn, pc, tE⟩ := I
      simp only at rd cp gp lo st nl nc nn pc tE
      have hxb := h1 x (List.mem_of_getElem? hx)
      have hxs : x.stop = x.at_ + x.bs.length := rfl
      refine DrawOb.mk [(1, [2, 3, 6, 7, 8])] (.run [0, 2, 3, 6, 7, 8, 1, 4, 5, 9, 10] .nil) (by kernel_rfl) ?_
      refine useP (.int .i64 x.stop) (stop_spec x.at_ (some ⟨x.b, x.o, none⟩) x.bs.length x.cap (by omega) (by omega) (by omega)) rfl rfl ?_
      refine Need.mk rfl ?_
      refine Need.mk rfl ?_
      refine CondOb.split (fun g2 => ?_) (fun g2 => ?_)
      · have hm := minX (a := x.stop - at_) (n := bs.length) (by omega) (by omega) (by omega)
        generalize hn : min (x.stop - at_).toNat bs.length = n at hm
        have hn0 : n ≤ bs.length := by omega
        have gp : nw.map Sr.t ++ gaps (p.ts.drop (i + 1)) (T.cut (at_, bs) n) = gaps p.ts (at0, bs0) := by rw [← hn]; exact gp
        refine DrawOb.mk [] (.run [0, 1, 2, 3, 4, 5, 6, 7, 8, 9] .nil) (by kernel_rfl) ?_
        refine Need.mk (show 0 ≤ (if (bs.length : Int) < (if 0 > IntKind.i64.wrap (x.stop - at_) then 0 else IntKind.i64.wrap (x.stop - at_)) then (bs.length : Int) else (if 0 > IntKind.i64.wrap (x.stop - at_) then 0 else IntKind.i64.wrap (x.stop - at_))) ∧ (if (bs.length : Int) < (if 0 > IntKind.i64.wrap (x.stop - at_) then 0 else IntKind.i64.wrap (x.stop - at_)) then (bs.length : Int) else (if 0 > IntKind.i64.wrap (x.stop - at_) then 0 else IntKind.i64.wrap (x.stop - at_))) ≤ (bs.length : Nat) from by rw [hm]; omega) ?_
        have hdl : (bs.drop n).length = bs.length - n := List.length_drop
        have eb1 : ∀ e : Int, e = (n : Int) → [SV.int .i64 (IntKind.i64.wrap (at_ + e)), .raw (.slice (if cap = e.toNat then A else A.map (·.add (e.toNat * 1))) (bs.length - e.toNat) (cap - e.toNat))] = [SV.int .i64 (at_ + n), .raw (.slice (if cap = n then A else A.map (·.add (n * 1))) (bs.drop n).length (cap - n))] := by
          rintro _ rfl
          rw [w64 (by omega) (by omega), Int.toNat_natCast, hdl]
        refine ⟨⟨⟨i + 1, if cap = n then A else A.map (·.add (n * 1)), cap - n, at_ + n, bs.drop n, pl, c, nw, tl⟩, by show i + 1 ≤ p.ll.length; omega, ⟨slice_rd rd cp, ?_, gp, ?_, ?_, nl, nc, nn, pc, tE⟩⟩, by show p.ll.length - (i + 1) < p.ll.length - i; omega, Le.of rfl ⟨⟨_, rfl, rfl⟩, ⟨_, rfl, rfl⟩, ⟨_, rfl, rfl⟩, ⟨_, rfl, rfl⟩, ⟨_, rfl, congrArg (fun z => some (Value.int .i64 z)) ei⟩, trivial⟩ (fun h k => sat_pick 1 rfl (by first | exact fun _ k => k | exact fun _ k => blk_to rfl rfl k | exact fun _ k => vec_to rfl k | exact fun _ k => blk_of rfl rfl k | exact fun _ k => vec_of rfl k | exact fun _ k => blk_of rfl rfl (blk_to rfl rfl k) | exact fun _ k => vec_of rfl (vec_to rfl k) | exact fun _ k => mp_to rfl k | exact fun _ k => mp_of rfl k | exact fun _ k => mp_of rfl (mp_to rfl k)) (fun h k => sat_pick 0 rfl (fun _ k9 => by exact blk_cast (eb1 _ hm) k9) (fun h k => sat_pick 1 rfl (by first | exact fun _ k => k | exact fun _ k => blk_to rfl rfl k | exact fun _ k => vec_to rfl k | exact fun _ k => blk_of rfl rfl k | exact fun _ k => vec_of rfl k | exact fun _ k => blk_of rfl rfl (blk_to rfl rfl k) | exact fun _ k => vec_of rfl (vec_to rfl k) | exact fun _ k => mp_to rfl k | exact fun _ k => mp_of rfl k | exact fun _ k => mp_of rfl (mp_to rfl k)) (fun h k => sat_pick 1 rfl (by first | exact fun _ k => k | exact fun _ k => blk_to rfl rfl k | exact fun _ k => vec_to rfl k | exact fun _ k => blk_of rfl rfl k | exact fun _ k => vec_of rfl k | exact fun _ k => blk_of rfl rfl (blk_to rfl rfl k) | exact fun _ k => vec_of rfl (vec_to rfl k) | exact fun _ k => mp_to rfl k | exact fun _ k => mp_of rfl k | exact fun _ k => mp_of rfl (mp_to rfl k)) (fun h k => sat_nil k) k) k) k) k)⟩
        · show (bs.drop n).length ≤ cap - n
          omega
        · show at0 ≤ at_ + n
          omega
        · show at_ + n + ((bs.drop n).length : Nat) = _
          omega
      · have hm := minX (a := x.stop - at_) (n := bs.length) (by omega) (by omega) (by omega)
        have g2 := of_decide_eq_false g2
        have g2 : ¬ (if (bs.length : Int) < (if 0 > IntKind.i64.wrap (x.stop - at_) then 0 else IntKind.i64.wrap (x.stop - at_)) then (bs.length : Int) else (if 0 > IntKind.i64.wrap (x.stop - at_) then 0 else IntKind.i64.wrap (x.stop - at_))) > 0 := g2
        rw [hm] at g2
        have hn : min (x.stop - at_).toNat bs.length = 0 := by omega
        have gp : nw.map Sr.t ++ gaps (p.ts.drop (i + 1)) (T.cut (at_, bs) 0) = gaps p.ts (at0, bs0) := by rw [← hn]; exact gp
        have e0 : T.cut (at_, bs) 0 = (at_, bs) := by unfold T.cut; simp
        rw [e0] at gp
        exact ⟨⟨⟨i + 1, A, cap, at_, bs, pl, c, nw, tl⟩, by show i + 1 ≤ p.ll.length; omega, ⟨rd, cp, gp, lo, st, nl, nc, nn, pc, tE⟩⟩, by show p.ll.length - (i + 1) < p.ll.length - i; omega, Le.of rfl ⟨⟨_, rfl, rfl⟩, ⟨_, rfl, rfl⟩, ⟨_, rfl, rfl⟩, ⟨_, rfl, rfl⟩, ⟨_, rfl, congrArg (fun z => some (Value.int .i64 z)) ei⟩, trivial⟩ (fun h k => sat_pick 0 rfl (by first | exact fun _ k => k | exact fun _ k => blk_to rfl rfl k | exact fun _ k => vec_to rfl k | exact fun _ k => blk_of rfl rfl k | exact fun _ k => vec_of rfl k | exact fun _ k => blk_of rfl rfl (blk_to rfl rfl k) | exact fun _ k => vec_of rfl (vec_to rfl k) | exact fun _ k => mp_to rfl k | exact fun _ k => mp_of rfl k | exact fun _ k => mp_of rfl (mp_to rfl k)) (fun h k => sat_pick 0 rfl (by first | exact fun _ k => k | exact fun _ k => blk_to rfl rfl k | exact fun _ k => vec_to rfl k | exact fun _ k => blk_of rfl rfl k | exact fun _ k => vec_of rfl k | exact fun _ k => blk_of rfl rfl (blk_to rfl rfl k) | exact fun _ k => vec_of rfl (vec_to rfl k) | exact fun _ k => mp_to rfl k | exact fun _ k => mp_of rfl k | exact fun _ k => mp_of rfl (mp_to rfl k)) (fun h k => sat_pick 1 rfl (by first | exact fun _ k => k | exact fun _ k => blk_to rfl rfl k | exact fun _ k => vec_to rfl k | exact fun _ k => blk_of rfl rfl k | exact fun _ k => vec_of rfl k | exact fun _ k => blk_of rfl rfl (blk_to rfl rfl k) | exact fun _ k => vec_of rfl (vec_to rfl k) | exact fun _ k => mp_to rfl k | exact fun _ k => mp_of rfl k | exact fun _ k => mp_of rfl (mp_to rfl k)) (fun h k => sat_pick 1 rfl (by first | exact fun _ k => k | exact fun _ k => blk_to rfl rfl k | exact fun _ k => vec_to rfl k | exact fun _ k => blk_of rfl rfl k | exact fun _ k => vec_of rfl k | exact fun _ k => blk_of rfl rfl (blk_to rfl rfl k) | exact fun _ k => vec_of rfl (vec_to rfl k) | exact fun _ k => mp_to rfl k | exact fun _ k => mp_of rfl k | exact fun _ k => mp_of rfl (mp_to rfl k)) (fun h k => sat_nil k) k) k) k) k)⟩
end Go.Proofs.Ytiknkeakielncaa.Rs
