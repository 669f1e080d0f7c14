/- Bodies walked in place; blocks told by their numbers. Conditions: none. -/
import Derived.Test.YtiknkeakielncaaE17
namespace Sx
open Go

/-! ### A call whose body is walked in place -/
def ret1S : List SV → SV
  | [v] => v
  | l => .tuple l
theorem ret1S_den {nm : List (Nat × Plc)} {l : List SV} {vs : List Value} (h : denL nm l = some vs) : den nm (ret1S l) = some (ret1 vs) := by
  match l, h with
  | [], h => simp [denL] at h; subst h; rfl
  | [v], h =>
    simp only [denL] at h
    obtain ⟨a, b, e1, e2, rfl⟩ := consO_some h
    simp only [Option.some.injEq] at e2; subst e2
    exact e1
  | v :: u :: l, h =>
    have h' := h
    simp only [denL] at h
    obtain ⟨a, b, e1, e2, rfl⟩ := consO_some h
    obtain ⟨c, d, e3, e4, rfl⟩ := consO_some e2
    show den nm (.tuple (v :: u :: l)) = some (.tuple (a :: c :: d).toArray)
    simp only [den, h', mapO]
def inlK (P : Program) (f : HP) (res : List ResultVar) (s : St) (K : SV → St → Prop) : Kont := fun e s' => match e with
  | .normal => resD P f res s' fun l => Need (NmExt s.nm s'.nm) (K (ret1S l) ⟨s.n, s.env, s'.nm, s'.next, s'.hp⟩)
  | .ret => resD P f res s' fun l => Need (NmExt s.nm s'.nm) (K (ret1S l) ⟨s.n, s.env, s'.nm, s'.next, s'.hp⟩)
  | .exit _ => False
theorem call_inl {P : Program} {f : HP} {g : FuncId} {args : List SV} {K : SV → St → Prop} {s : St} {fn : Func} {c : Code} (hf : P.funcs[g]? = some fn) (he : Enters P g) (hb : fn.body = some c) (hsz : Nat.ble args.length fn.ntmps = true)
    (h : dec P c false f (inlK P f fn.results.toList s K) ⟨fn.ntmps, envFrom 0 args, s.nm, s.next, s.hp⟩) : CallOb P f g args K s := by
  refine .sem s fun w0 a w vals r hv => ⟨he, (callsIn_Fc (ro := none) (n := 0)).1 (callsIn_of_wp_marks (F := Fc none) hf hb trivial ?_)⟩
  have hsz := Nat.le_of_ble_eq_true hsz
  have hlen := denL_length hv
  have r' := start_rel (w0 := w) (next := s.next) (ntmps := fn.ntmps) hv (by omega) r.heap (.refl w)
  refine wpIn_mono (dec_runs c false _ _ _ _ _ _ _ (fun _ => rfl) h r') ?_
  rintro e a' w' ⟨z, s', rfl, h', r''⟩
  have fin : (resD P f fn.results.toList s' fun l => Need (NmExt s.nm s'.nm) (K (ret1S l) ⟨s.n, s.env, s'.nm, s'.next, s'.hp⟩)) → LeavesInM (Fc none) 0 P fn a'.tmps (fun e w' => ∃ v sv s'', e = .returned v ∧ K sv s'' ∧ den s''.nm sv = some v ∧ Rel f w0 s'' a w' ∧ NmExt s.nm s''.nm) a'.defers .returning w' := by
    intro hres
    refine body_end r'' fun w2 r2 => ?_
    obtain ⟨svs, vs, ⟨hx, hk⟩, hd, hr⟩ := resD_runs r2 hres
    exact ⟨_, results_runs hr, _, _, _, rfl, hk, ret1S_den hd, ⟨r.defers.str r2.str, r.size, r.env.ext hx, r2.heap, r.str.trans r2.str⟩, hx⟩
  cases z with
  | normal => exact fin h'
  | ret => exact fin h'
  | exit n => exact h'.elim

/-! ### Blocks, told by their numbers -/
abbrev Blk := Nat × Obj
def Blks (l : List Blk) : Asn := sat (l.map fun p => pt p.1 p.2)
theorem sat_get {As : List Asn} {h : HP} (k : sat As h) (n : Nat) {A : Asn} (e : As[n]? = some A) {b : Nat} {o : Obj} (g : ∀ h, A h → h b = some o) : h b = some o := by
  obtain ⟨x, y, t, hx, _⟩ := sat_nth n e k
  exact t.get (g x hx)
theorem pt_get {b : Nat} {o : Obj} (h : HP) (k : pt b o h) : h b = some o := by rw [k]; simp [one]
theorem Blks.get {l : List Blk} {h : HP} (k : Blks l h) {i : Nat} {b : Nat} {o : Obj} (e : l[i]? = some (b, o)) : h b = some o :=
  sat_get k i (by rw [List.getElem?_map, e]; rfl) (pt_get (b := b) (o := o))
theorem fcell_of {h : HP} {b o : Nat} {c : Array Value} {t : TypeId} {fr : Nat × Nat} {v : Value} (k : h b = some (.cells c t fr)) (e : c[o]? = some v) : fcell h b o = some v := by
  unfold fcell; rw [k]; exact e
theorem Split.updL {h x y : HP} {b : Nat} {o o' : Obj} (t : Split h x y) (g : x b = some o) : Split (Sx.upd h b o') (Sx.upd x b o') y := fun r => by
  by_cases e : r = b
  · subst e
    exact .inr ⟨t.other g, by simp [Sx.upd]⟩
  · have := t r
    simp only [Sx.upd, if_neg e]
    exact this
theorem sat_upd_head {A A' : Asn} {As : List Asn} {h : HP} {b : Nat} {o o' : Obj} (k : sat (A :: As) h) (g : ∀ h, A h → h b = some o ∧ A' (upd h b o')) : sat (A' :: As) (upd h b o') := by
  obtain ⟨x, y, t, hx, hy⟩ := k
  obtain ⟨g1, g2⟩ := g x hx
  exact ⟨_, y, t.updL g1, g2, hy⟩
/-- A part is turned where it stands. -/
theorem sat_upd {A A' : Asn} {b : Nat} {o o' : Obj} (g : ∀ h, A h → h b = some o ∧ A' (upd h b o')) : ∀ (n : Nat) {As : List Asn} {h : HP}, As[n]? = some A → sat As h → sat (As.set n A') (upd h b o')
  | 0, As, h, e, k => by
    cases As with
    | nil => simp at e
    | cons B As => simp at e; subst e; exact sat_upd_head k g
  | n + 1, As, h, e, k => by
    cases As with
    | nil => simp at e
    | cons B As =>
      obtain ⟨x, y, t, hx, hy⟩ := k
      have e' : As[n]? = some A := by simpa using e
      have hb : y b = some o := by
        obtain ⟨x2, y2, t2, hx2, _⟩ := sat_nth n e' hy
        exact t2.get (g x2 hx2).1
      exact ⟨x, _, (t.comm.updL hb).comm, hx, sat_upd g n e' hy⟩
theorem pt_upd {b : Nat} {o : Obj} (o' : Obj) (h : HP) (k : pt b o h) : h b = some o ∧ pt b o' (upd h b o') := by
  refine ⟨pt_get h k, ?_⟩
  rw [k]
  funext r
  by_cases e : r = b <;> simp [upd, one, e]
theorem Blks.upd {l : List Blk} {i : Nat} {b : Nat} {o o' : Obj} (e : l[i]? = some (b, o)) (h : HP) (k : Blks l h) : h b = some o ∧ Blks (l.set i (b, o')) (Sx.upd h b o') := by
  refine ⟨k.get e, ?_⟩
  have := sat_upd (pt_upd o') i (by rw [List.getElem?_map, e]; rfl) k
  unfold Blks
  rw [List.map_set]
  exact this
theorem Blks.push {l : List Blk} {b : Nat} {o : Obj} {As : List Asn} {h : HP} (k : sat (pt b o :: Blks l :: As) h) : sat (Blks (l ++ [(b, o)]) :: As) h := by
  obtain ⟨x, y, t, hx, x2, y2, t2, h2, hy⟩ := k
  refine ⟨un x x2, y2, t.assoc t2, ?_, hy⟩
  unfold Blks
  rw [List.map_append]
  exact sat_join (t.un_left t2).comm h2 ⟨x, HP.emp, .emp_right x, hx, trivial⟩
theorem Blks.cons {l : List Blk} {b : Nat} {o : Obj} {As : List Asn} {h : HP} (k : sat (pt b o :: Blks l :: As) h) : sat (Blks ((b, o) :: l) :: As) h := by
  obtain ⟨x, y, t, hx, x2, y2, t2, h2, hy⟩ := k
  exact ⟨un x x2, y2, t.assoc t2, ⟨x, x2, t.un_left t2, hx, h2⟩, hy⟩
theorem Blks.nil (h : HP) : Blks [] h := trivial
theorem sat_subset {As : List Asn} : ∀ {Bs : List Asn} {h : HP}, Bs.Sublist As → sat As h → sat Bs h := by
  induction As with
  | nil => intro Bs h s k; cases s; trivial
  | cons A As ih =>
    intro Bs h s k
    cases s with
    | cons _ s => exact ih s (sat_tail k)
    | cons_cons _ s =>
      obtain ⟨x, y, t, hx, hy⟩ := k
      exact ⟨x, y, t, hx, ih s hy⟩
theorem Blks.sub {l l' : List Blk} (s : l'.Sublist l) (h : HP) (k : Blks l h) : Blks l' h := sat_subset (s.map _) k
/-- Two parts become one. -/
theorem sat_pick2 (n m : Nat) {As Bs : List Asn} {A B C : Asn} {h : HP} (e1 : As[n]? = some A) (e2 : (As.eraseIdx n)[m]? = some B) (f : ∀ h, sat [A, B] h → C h) (g : ∀ h, sat ((As.eraseIdx n).eraseIdx m) h → sat Bs h) (k : sat As h) : sat (C :: Bs) h := by
  obtain ⟨x, y, t, hx, hy⟩ := sat_nth n e1 k
  obtain ⟨x2, y2, t2, hx2, hy2⟩ := sat_nth m e2 hy
  exact ⟨un x x2, y2, t.assoc t2, f _ ⟨x, x2, t.un_left t2, hx, ⟨x2, HP.emp, .emp_right x2, hx2, trivial⟩⟩, g _ hy2⟩
theorem blks_push {l : List Blk} {b : Nat} {o : Obj} (h : HP) (k : sat [pt b o, Blks l] h) : Blks (l ++ [(b, o)]) h := by
  obtain ⟨x, y, t, hx, _⟩ := Blks.push k
  exact sat_more t.comm hx
end Sx
