/- The law of the order of what is taken: its walk. Conditions: none. -/
import Derived.Test.YtlgdagjbphafcaaUdpW
namespace Go.Proofs.Ytlgdagjbphafcaa.Udp
open Go Go.Proofs Sx
set_option maxRecDepth 100000
set_option linter.unusedVariables false

theorem useP {P : Program} {f : HP} {g : FuncId} {args : List SV} {K : SV → St → Prop} {s : St} {v : Value} {vals : List Value} (sv : SV)
    (spec : Does P g vals.toArray (fun _ => True) [] (fun u p => u = v ∧ p = [])) (hv : denL s.nm args = some vals) (hd : den s.nm sv = some v)
    (h : K sv ⟨s.n, s.env, s.nm, s.next, s.hp⟩) : CallOb P f g args K s := by
  refine call_pure spec hv (fun _ _ => trivial) ?_
  rintro u post ⟨rfl, rfl⟩
  exact ⟨sv, hd, h⟩
theorem inv_put {x : B} {m : M} (h : Inv x) (hm : m.xs.length ≤ m.cap) (hl : x.lost < 1000000000) : Inv (put x m).1 := by
  obtain ⟨i1, i2, i3, i4, i5, i6, i7, ic, i8, i9⟩ := h
  unfold put
  split
  · exact ⟨i1, i2, i3, i4, i5, i6, i7, ic, i8, i9⟩
  split
  · exact ⟨i1, i2, i3, i4, i5, i6, i7, ic, by simp only; omega, by simp only; omega⟩
  · rename_i h1
    simp only [not_or] at h1
    refine ⟨i1, i2, i3, i4, ?_, ?_, ?_, ?_, i8, i9⟩
    · simp only [List.length_append, List.length_singleton]; omega
    · simp only [sum, List.map_append, List.sum_append, List.map_cons, List.map_nil, List.sum_cons, List.sum_nil] at i6 ⊢; omega
    · simp only; omega
    · intro q hq
      rcases List.mem_append.1 hq with hq | hq
      · exact ic q hq
      · simp at hq; subst hq; exact hm
theorem inv_take {x : B} {m : M} {rest : List M} (h : Inv x) (hm : x.ms = m :: rest) : Inv { x with ms := rest, held := x.held - m.xs.length } := by
  obtain ⟨i1, i2, i3, i4, i5, i6, i7, ic, i8, i9⟩ := h
  rw [hm] at i5 i6 ic
  refine ⟨i1, i2, i3, i4, ?_, ?_, ?_, fun q hq => ic q (List.mem_cons_of_mem _ hq), i8, i9⟩
  · simp only [List.length_cons] at i5 ⊢; omega
  · simp only [sum, List.map_cons, List.sum_cons] at i6 ⊢; omega
  · simp only; omega
theorem live_spec : Does Try.prog 15 #[] (fun _ => True) [] (fun v p => v = .bool true ∧ p = []) := by
  have x0 : Inv ⟨9, 4, 0, 0, 0, 0, 0, []⟩ := ⟨by decide, by decide, by decide, by decide, by decide, by decide, by decide, by simp, by decide, by decide⟩
  refine Does.of Try.func15 Try.call15 rfl [] [] 0 [] rfl rfl (fun h k => k) (fun f hR => ?_)
  refine call_asn (pre := []) [] [] (new_spec 9 4) rfl rfl (fun _ _ _ _ => trivial) ?_
  rintro v post (⟨h, _⟩ | ⟨_, b, rfl, rfl⟩)
  · omega
  refine ⟨.tuple [.ptr 0 0, .int .i64 0], [(0, .at b 0)], 1, NmExt.push rfl, rfl, _, fun h k => sat_asns k, ?_⟩
  refine useP (.int .i64 0) (code_spec 0) rfl rfl ?_
  refine Br.mk (fun h => absurd h (by decide)) (fun _ => ?_)
  intro b1
  refine call_asn [.blk 1 5 [.int .u8 1, .int .u8 2, .int .u8 3]] [] (put_spec b ⟨9, 4, 0, 0, 0, 0, 0, []⟩ .nil 0 0 0 (some ⟨b1, 0, none⟩) 3 [.int .u8 1, .int .u8 2, .int .u8 3] x0 (Nat.le_refl _) (by simp)) rfl rfl
    (fun f' b' hs hk => ⟨blk_reads 0 hs hk rfl (c := b1) rfl rfl, by simp⟩) ?_
  rintro v post ⟨l1, cap1, l2, c2, ⟨hc2, hl2⟩, rfl, hcap1, rfl⟩
  obtain ⟨b2, o2, rfl⟩ := hl2 (by simp)
  have x1 := inv_put (m := ⟨0, 0, .at b2 o2, c2, [.int .u8 1, .int .u8 2, .int .u8 3]⟩) x0 hc2 (by decide)
  have e1 : put ⟨9, 4, 0, 0, 0, 0, 0, []⟩ ⟨0, 0, .at b2 o2, c2, [.int .u8 1, .int .u8 2, .int .u8 3]⟩ = (⟨9, 4, 0, 0, 3, 0, 0, [⟨0, 0, .at b2 o2, c2, [.int .u8 1, .int .u8 2, .int .u8 3]⟩]⟩, 0) := by
    simp [put, lets]
  rw [e1] at hcap1 x1 ⊢
  refine ⟨.int .i64 0, [(1, .at b1 0), (0, .at b 0)], 2, NmExt.refl _, rfl, _, fun h k => sat_asns k, ?_⟩
  intro b3
  refine call_asn [.blk 2 5 [.int .u8 4, .int .u8 5]] [.blk 1 5 [.int .u8 1, .int .u8 2, .int .u8 3]] (put_spec b _ l1 cap1 0 0 (some ⟨b3, 0, none⟩) 2 [.int .u8 4, .int .u8 5] x1 hcap1 (by simp)) rfl rfl
    (fun f' b' hs hk => ⟨blk_reads 0 hs hk rfl (c := b3) rfl rfl, by simp⟩) ?_
  rintro v post ⟨l3, cap3, l4, c4, ⟨hc4, hl4⟩, rfl, hcap3, rfl⟩
  have x2 := inv_put (m := ⟨0, 0, l4, c4, [.int .u8 4, .int .u8 5]⟩) x1 hc4 (by simp)
  have e2 : put ⟨9, 4, 0, 0, 3, 0, 0, [⟨0, 0, .at b2 o2, c2, [.int .u8 1, .int .u8 2, .int .u8 3]⟩]⟩ ⟨0, 0, l4, c4, [.int .u8 4, .int .u8 5]⟩ = (⟨9, 4, 0, 0, 3, 1, 0, [⟨0, 0, .at b2 o2, c2, [.int .u8 1, .int .u8 2, .int .u8 3]⟩]⟩, 5) := by
    simp [put, lets]
  rw [e2] at hcap3 x2 ⊢
  refine ⟨.int .i64 5, [(2, .at b3 0), (1, .at b1 0), (0, .at b 0)], 3, NmExt.refl _, rfl, _, fun h k => sat_asns k, ?_⟩
  refine call_asn [] [.blk 2 5 [.int .u8 4, .int .u8 5], .blk 1 5 [.int .u8 1, .int .u8 2, .int .u8 3]] (take_spec b _ l3 cap3 2 x2 hcap3) rfl rfl (fun _ _ _ _ => trivial) ?_
  rintro v post (⟨h, _⟩ | ⟨_, h, _⟩ | ⟨_, _, h, _⟩ | ⟨_, _, m, rest, l5, cap5, hms, hr, rfl, rfl⟩)
  · exact absurd rfl h
  · cases h
  · omega
  simp only [List.cons.injEq] at hms
  obtain ⟨rfl, rfl⟩ := hms
  refine ⟨.tuple [.agg [.int .u32 0, .int .u16 0, .sl 3 0 2 c2], .int .i64 3, .int .i64 0], [(3, .at b2 o2), (2, .at b3 0), (1, .at b1 0), (0, .at b 0)], 4, NmExt.push rfl, rfl,
    [.asn _, .asn _, .asn _, .vec 3 5 1 c2 [.int .u8 1, .int .u8 2, .int .u8 3]], fun h k => sat_cons (fun h k => k) (fun h k => sat_cons (fun h k => k) (fun h k => sat_cons (fun h k => k) (fun h k => sat_cons (fun h k => vec_of rfl k) (fun h k => sat_nil k) k) k) k) k, ?_⟩
  intro b5
  refine useP (.int .i64 0) (code_spec 0) rfl rfl ?_
  refine useP (.int .i64 0) (code_spec 0) rfl rfl ?_
  refine Br.mk (fun _ => ?_) (fun h => absurd h (by decide))
  refine useP (.int .i64 5) (code_spec 5) rfl rfl ?_
  refine Br.mk (fun _ => ?_) (fun h => absurd h (by decide))
  refine Need.mk (by decide) (StrOb.mk ⟨#[1, 2]⟩ rfl ?_)
  refine Br.mk (fun _ => ?_) (fun h => absurd h (by simp))
  refine Br.mk (fun _ => ?_) (fun h => absurd h (by decide))
  refine call_asn [_] [_, _, _] (lost_spec b ⟨9, 4, 0, 0, 3 - 3, 1, 0, []⟩ l5 cap5) rfl rfl (fun _ _ _ _ => trivial) ?_
  rintro v post ⟨rfl, rfl⟩
  refine ⟨.int .i64 1, _, 5, NmExt.refl _, rfl, _, fun h k => sat_asns k, ?_⟩
  exact FinOb.mk _ [] rfl (fun h k => trivial) ⟨rfl, rfl⟩

/-! ### UdpOrder -/
theorem c5 : Try.prog.cellsOf 5 = 1 := by kernel_rfl
theorem c4 : Try.prog.cellsOf 4 = 1 := by kernel_rfl
theorem u8s {f : HP} {A : Option Addr} {len cap : Nat} (h : Rd Try.prog f 3 23 [.slice A len cap]) : ∀ i, i < len → ∃ b o n, A = some ⟨b, o, none⟩ ∧ fcell f b (o + i * 1) = some (.int .u8 n) ∧ 0 ≤ n ∧ n ≤ 255 := by
  intro i hi
  obtain ⟨b, o, cs, hA, hl, hc, hr⟩ := (Rd.slice Try.underlying23 c5 (by omega) h).2.2.2 i hi
  match cs, hl with
  | [x], _ =>
  obtain ⟨n, h1, h2⟩ := Rd.int Try.underlying5 hr
  simp only [List.cons.injEq, and_true] at h1
  subst h1
  have : 0 ≤ n ∧ n ≤ 255 := by simp [Lit.wf] at h2; exact h2
  exact ⟨b, o, n, hA, hc 0 _ rfl, this⟩
theorem flags {f : HP} {A : Option Addr} {len cap : Nat} (h : Rd Try.prog f 3 24 [.slice A len cap]) : ∀ i, i < len → ∃ b o n, A = some ⟨b, o, none⟩ ∧ fcell f b (o + i * 1) = some (.bool n) := by
  intro i hi
  obtain ⟨b, o, cs, hA, hl, hc, hr⟩ := (Rd.slice Try.underlying24 c4 (by omega) h).2.2.2 i hi
  match cs, hl with
  | [x], _ =>
  obtain ⟨n, h1⟩ := Rd.bool Try.underlying4 hr
  simp only [List.cons.injEq, and_true] at h1
  subst h1
  exact ⟨b, o, n, hA, hc 0 _ rfl⟩
/-- What waits bears these numbers. -/
def Tags : List M → List Nat → Prop
  | [], [] => True
  | m :: ms, j :: js => (m.xs[0]? = some (.int .u8 (j : Int)) ∧ ∃ b o, m.l = .at b o) ∧ Tags ms js
  | _, _ => False
theorem tags_push {m : M} {j : Nat} : ∀ {ms : List M} {js : List Nat}, Tags ms js → (m.xs[0]? = some (.int .u8 (j : Int)) ∧ ∃ b o, m.l = .at b o) → Tags (ms ++ [m]) (js ++ [j])
  | [], [], _, h => ⟨h, trivial⟩
  | _ :: _, _ :: _, h, k => ⟨h.1, tags_push h.2 k⟩
  | [], _ :: _, h, _ => h.elim
  | _ :: _, [], h, _ => h.elim
structure Ix (len : Nat) where
  i : Nat
  next : Nat
  many : Nat
  taken : Nat
  x : B
  l : Plc
  cap : Nat
  js : List Nat
  hi : i ≤ len
  inv : Inv x
  room : x.ms.length ≤ cap
  told : x.told = 0
  open1 : x.a = 0
  open2 : x.p = 0
  tags : Tags x.ms js
  up : js.Pairwise (· < ·)
  lo : ∀ j ∈ js, next ≤ j ∧ j < i
  nx : next ≤ i
  count : x.ms.length + taken = many
  lost : x.lost = (i : Int) - many
  puts : many ≤ i
/-- In the midst of a round. -/
structure Iz (i next taken : Nat) where
  many : Nat
  x : B
  l : Plc
  cap : Nat
  js : List Nat
  inv : Inv x
  room : x.ms.length ≤ cap
  told : x.told = 0
  open1 : x.a = 0
  open2 : x.p = 0
  tags : Tags x.ms js
  up : js.Pairwise (· < ·)
  lo : ∀ j ∈ js, next ≤ j ∧ j ≤ i
  count : x.ms.length + taken = many
  lost : x.lost = (i : Int) + 1 - many
  puts : many ≤ i + 1
def SZ (A A2 : Option Addr) (len cap len2 cap2 b i next taken : Nat) (q : Iz i next taken) : St :=
  ⟨128, [(1, .raw (.slice A len cap)), (2, .raw (.slice A2 len2 cap2)), (7, .ptr 0 0), (9, .int .i64 next), (10, .int .i64 q.many), (11, .int .i64 taken), (12, .int .i64 i)], [(0, .at b 0)], 1, (Box b q.x q.l q.cap).map Ent.asn⟩
def SI (r : Int) (A A2 : Option Addr) (len cap len2 cap2 b : Nat) (q : Ix len) : St :=
  ⟨128, [(1, .raw (.slice A len cap)), (2, .raw (.slice A2 len2 cap2)), (7, .ptr 0 0), (9, .int .i64 q.next), (10, .int .i64 q.many), (11, .int .i64 q.taken), (12, .int .i64 q.i)], [(0, .at b 0)], 1, (Box b q.x q.l q.cap).map Ent.asn⟩
theorem order_spec (r : Int) (A A2 : Option Addr) (len cap len2 cap2 : Nat) (h0 : 0 ≤ r) (h1 : r ≤ 65535) :
    Does Try.prog 3 #[.int .u16 r, .slice A len cap, .slice A2 len2 cap2] (fun f => Rd Try.prog f 3 23 [.slice A len cap] ∧ Rd Try.prog f 3 24 [.slice A2 len2 cap2]) [] (fun v p => v = .bool true ∧ p = []) := by
  have er : IntKind.i64.wrap r = r := w64 (by omega) (by omega)
  have er1 : IntKind.i64.wrap (1 + IntKind.i64.wrap r) = 1 + r := by rw [er]; exact w64 (by omega) (by omega)
  refine Does.of Try.func3 Try.call3 rfl [.int .u16 r, .raw (.slice A len cap), .raw (.slice A2 len2 cap2)] [] 0 [] rfl rfl (fun h k => k) (fun f hR => ?_)
  obtain ⟨hR1, hR2⟩ := hR
  refine CondOb.split (fun g1 => ?_) (fun g1 => ?_)
  · refine useP .tt live_spec rfl rfl ?_
    exact FinOb.mk _ [] rfl (fun h k => trivial) ⟨rfl, rfl⟩
  simp only [decide_eq_false_iff_not, gt_iff_lt, Int.not_lt] at g1
  refine call_asn (pre := []) [] [] (new_spec 20 (IntKind.i64.wrap (1 + IntKind.i64.wrap r))) rfl rfl (fun _ _ _ _ => trivial) ?_
  rw [er1]
  rintro v post (⟨h, _⟩ | ⟨_, b, rfl, rfl⟩)
  · omega
  refine ⟨.tuple [.ptr 0 0, .int .i64 0], [(0, .at b 0)], 1, NmExt.push rfl, rfl, _, fun h k => sat_asns k, ?_⟩
  refine useP (.int .i64 0) (code_spec 0) rfl rfl ?_
  refine Br.mk (fun h => absurd h (by decide)) (fun _ => ?_)
  have x0 : Inv ⟨20, 1 + r, 0, 0, 0, 0, 0, []⟩ := ⟨by simp, by simp, by simp only; omega, by simp only; omega, by simp, by simp [sum], by simp only; omega, by simp, by simp, by simp⟩
  refine LoopOb.mk (Ix len) (SI r A A2 len cap len2 cap2 b) (fun q => len - q.i) ⟨0, 0, 0, 0, _, .nil, 0, [], by omega, x0, Nat.le_refl _, rfl, rfl, rfl, trivial, .nil, by simp, Nat.le_refl _, rfl, rfl, Nat.le_refl _⟩ ?_ ?_
  · exact Le.of rfl ⟨⟨_, rfl, rfl⟩, ⟨_, rfl, rfl⟩, ⟨_, rfl, rfl⟩, ⟨_, rfl, rfl⟩, ⟨_, rfl, rfl⟩, ⟨_, rfl, rfl⟩, ⟨_, rfl, rfl⟩, trivial⟩ (fun h k => k)
  rintro ⟨i, next, many, taken, x, l, cp, js, hi, inv, hroom, told, op1, op2, tags, up, lo, nx, count, lost, puts⟩
  have hi' : (i : Int) ≤ 100 := by omega
  have hm64 : (x.ms.length : Int) ≤ 64 := by have := inv.len; have := inv.m2; omega
  refine CondOb.split (fun g2 => ?_) (fun g2 => ?_)
  case refine_2 =>
    simp only [decide_eq_false_iff_not] at g2
    replace g2 : ¬ (i : Int) < len := g2
    have ei : i = len := by omega
    refine call_asn [] [_, _] (len_spec b x l cp) rfl rfl (fun _ _ _ _ => trivial) ?_
    rintro v post ⟨rfl, rfl⟩
    refine ⟨.int .i64 x.ms.length, _, 1, NmExt.refl _, rfl, _, fun h k => sat_asns k, ?_⟩
    refine Br.mk (fun _ => ?_) (fun h => absurd h ?_)
    rotate_left
    · have : IntKind.i64.wrap ((many : Int) - taken) = x.ms.length := by rw [w64 (by omega) (by omega)]; omega
      simp only [this]; simp
    refine call_asn [] [_, _] (lost_spec b x l cp) rfl rfl (fun _ _ _ _ => trivial) ?_
    rintro v post ⟨rfl, rfl⟩
    refine ⟨.int .i64 x.lost, _, 1, NmExt.refl _, rfl, _, fun h k => sat_asns k, ?_⟩
    refine Br.mk (fun _ => ?_) (fun h => absurd h ?_)
    rotate_left
    · have : IntKind.i64.wrap ((len : Int) - many) = x.lost := by rw [w64 (by omega) (by omega), lost]; omega
      simp only [this]; simp
    refine useP .tt live_spec rfl rfl ?_
    exact FinOb.mk _ [] rfl (fun h k => trivial) ⟨rfl, rfl⟩
  simp only [decide_eq_true_eq] at g2
  replace g2 : (i : Int) < len := g2
  obtain ⟨ba, o, n, rfl, ha, hn0, hn1⟩ := u8s hR1 i (by omega)
  refine Need.mk ⟨Int.natCast_nonneg i, g2⟩ (RawAt.mk ba o rfl ?_)
  refine RdOb.mk (.int .u8 n) _ rfl (by simpa using ha) ?_
  refine Need.mk (by decide) ?_
  have en : IntKind.i64.wrap n = n := w64 (by omega) (by omega)
  have em : 0 ≤ n.tmod 40 ∧ n.tmod 40 < 40 := ⟨Int.tmod_nonneg _ hn0, Int.tmod_lt_of_pos _ (by decide)⟩
  have eN : IntKind.i64.wrap (1 + (IntKind.i64.wrap n).tmod 40) = 1 + n.tmod 40 := by rw [en]; exact w64 (by omega) (by omega)
  have eb : IntKind.u8.wrap (i : Int) = i := by rw [IntKind.wrap_u8]; omega
  refine Need.mk (by rw [eN]; omega) ?_
  intro bd
  obtain ⟨k, hk⟩ : ∃ k : Nat, (IntKind.i64.wrap (1 + (IntKind.i64.wrap n).tmod 40)).toNat = k + 1 := ⟨(n.tmod 40).toNat, by rw [eN]; omega⟩
  have hk40 : k + 1 ≤ 40 := by rw [← hk, eN]; omega
  refine Need.mk (by omega) ?_
  refine StOb.mk [.int .u8 (IntKind.u8.wrap i)] rfl (Need.mk (by rw [flat_len, hk]; show 0 + 1 ≤ (k + 1) * 1; omega) ?_)
  have hys : putV (List.replicate (IntKind.i64.wrap (1 + (IntKind.i64.wrap n).tmod 40)).toNat [Value.int .u8 0]).flatten 0 [.int .u8 (IntKind.u8.wrap i)] = .int .u8 i :: List.replicate k (.int .u8 0) := by
    rw [hk, eb]; simp [putV, List.replicate_succ]
  have spec := put_spec b x l cp 0 0 (some ⟨bd, 0, none⟩) (IntKind.i64.wrap (1 + (IntKind.i64.wrap n).tmod 40)).toNat (.int .u8 i :: List.replicate k (.int .u8 0)) inv hroom (by simp; omega)
  have hlen : (Value.int .u8 (i : Int) :: List.replicate k (.int .u8 0)).length = (IntKind.i64.wrap (1 + (IntKind.i64.wrap n).tmod 40)).toNat := by rw [hk]; simp
  rw [hlen] at spec
  refine call_asn [_] [] spec rfl rfl (fun f' b' hs hk => ⟨?_, fun v hv => ?_⟩) ?_
  · have := vec_reads 0 hs hk rfl (l := .at bd 0) rfl
    rw [← hys]; exact this
  · rcases List.mem_cons.1 hv with rfl | hv
    · exact ⟨_, rfl⟩
    · exact ⟨_, (List.mem_replicate.1 hv).2⟩
  rintro v post ⟨l', cap', l2, c2, ⟨hc2, hl2⟩, rfl, hcap', rfl⟩
  have hl2 := hl2 (by simp)
  refine ⟨.int .i64 _, _, 2, NmExt.refl _, rfl, _, fun h k => sat_asns k, ?_⟩
  refine useP (.int .i64 _) (code_spec _) rfl rfl ?_
  have hlets : lets x 0 0 = true := by simp [lets, op1, op2]
  have hm0 : (⟨0, 0, l2, c2, .int .u8 i :: List.replicate k (.int .u8 0)⟩ : M).xs.length ≤ c2 := by rw [← hlen] at hc2; exact hc2
  have hinv := inv_put (m := ⟨0, 0, l2, c2, .int .u8 i :: List.replicate k (.int .u8 0)⟩) inv hm0 (by rw [lost]; omega)
  generalize hm : (⟨0, 0, l2, c2, .int .u8 i :: List.replicate k (.int .u8 0)⟩ : M) = m at *
  have htag : m.xs[0]? = some (.int .u8 ((i : Nat) : Int)) ∧ ∃ b o, m.l = .at b o := by subst hm; exact ⟨rfl, hl2⟩
  have hma : m.a = 0 ∧ m.p = 0 := by subst hm; exact ⟨rfl, rfl⟩
  have emany : IntKind.i64.wrap ((many : Int) + 1) = ((many + 1 : Nat) : Int) := by rw [w64 (by omega) (by omega)]; omega
  have hput : put x m = ({ x with lost := x.lost + 1 }, 5) ∨ put x m = ({ x with held := x.held + m.xs.length, ms := x.ms ++ [m] }, 0) := by
    unfold put
    rw [hma.1, hma.2, hlets]
    simp only [Bool.true_eq_false, if_false]
    split
    · exact .inl rfl
    · exact .inr rfl
  refine CondOb.join (Iz i next taken) (SZ (some ⟨ba, o, none⟩) A2 len cap len2 cap2 b i next taken) (fun hq => ?_) (fun hq => ?_) (fun z => ?_)
  · rcases hput with e | e
    · rw [e] at hq; exact absurd hq (by simp)
    · rw [e] at hcap' hinv
      refine ⟨⟨many + 1, _, l', cap', js ++ [i], hinv, hcap', told, op1, op2, tags_push tags htag, ?_, ?_, ?_, ?_, by omega⟩, ?_⟩
      · rw [List.pairwise_append]
        exact ⟨up, by simp, fun j hj q hq => by simp at hq; subst hq; exact (lo j hj).2⟩
      · intro j hj
        rcases List.mem_append.1 hj with hj | hj
        · exact ⟨(lo j hj).1, Nat.le_of_lt (lo j hj).2⟩
        · simp at hj; subst hj; exact ⟨nx, Nat.le_refl _⟩
      · simp only [List.length_append, List.length_singleton]; omega
      · simp only; omega
      · refine Le.of rfl ⟨⟨_, rfl, rfl⟩, ⟨_, rfl, rfl⟩, ⟨_, rfl, rfl⟩, ⟨_, rfl, rfl⟩, ⟨_, rfl, congrArg (fun z => some (Value.int .i64 z)) emany⟩, ⟨_, rfl, rfl⟩, ⟨_, rfl, rfl⟩, trivial⟩ (fun h k => ?_)
        rw [e] at k
        exact sat_cons (fun h k => k) (fun h k => sat_cons (fun h k => k) (fun h k => sat_cons (fun h k => k) (fun h k => sat_nil k) k) k) k
  · rcases hput with e | e
    · rw [e] at hcap' hinv
      refine ⟨⟨many, _, l', cap', js, hinv, hcap', told, op1, op2, tags, up, fun j hj => ⟨(lo j hj).1, Nat.le_of_lt (lo j hj).2⟩, count, by simp only; omega, by omega⟩, ?_⟩
      refine Le.of rfl ⟨⟨_, rfl, rfl⟩, ⟨_, rfl, rfl⟩, ⟨_, rfl, rfl⟩, ⟨_, rfl, rfl⟩, ⟨_, rfl, rfl⟩, ⟨_, rfl, rfl⟩, ⟨_, rfl, rfl⟩, trivial⟩ (fun h k => ?_)
      rw [e] at k
      exact sat_cons (fun h k => k) (fun h k => sat_cons (fun h k => k) (fun h k => sat_cons (fun h k => k) (fun h k => sat_nil k) k) k) k
    · rw [e] at hq; exact absurd hq (by simp)
  obtain ⟨many2, x2, l3, cp2, js2, inv2, room2, told2, p1, p2, tags2, up2, lo2, count2, lost2, puts2⟩ := z
  have ei : IntKind.i64.wrap ((i : Int) + 1) = ((i + 1 : Nat) : Int) := by rw [w64 (by omega) (by omega)]; omega
  refine Br.mk (fun g3 => ?_) (fun g3 => ?_)
  rotate_left
  · refine ⟨⟨i + 1, next, many2, taken, x2, l3, cp2, js2, by omega, inv2, room2, told2, p1, p2, tags2, up2, fun j hj => ⟨(lo2 j hj).1, by have := (lo2 j hj).2; omega⟩, by omega, count2, by rw [lost2]; omega, by omega⟩, ?_, ?_⟩
    · show len - (i + 1) < len - i
      omega
    · exact Le.of rfl ⟨⟨_, rfl, rfl⟩, ⟨_, rfl, rfl⟩, ⟨_, rfl, rfl⟩, ⟨_, rfl, rfl⟩, ⟨_, rfl, rfl⟩, ⟨_, rfl, rfl⟩, ⟨_, rfl, congrArg (fun z => some (Value.int .i64 z)) ei⟩, trivial⟩ (fun h k => k)
  simp only [decide_eq_true_eq] at g3
  obtain ⟨bt, ot, tk, rfl, ht⟩ := flags hR2 i (by omega)
  refine Need.mk ⟨Int.natCast_nonneg i, g3⟩ (RawAt.mk bt ot rfl ?_)
  refine RdOb.mk (.bool tk) _ rfl (by simpa using ht) ?_
  refine CondOb.split (fun g4 => ?_) (fun g4 => ?_)
  rotate_left
  · refine ⟨⟨i + 1, next, many2, taken, x2, l3, cp2, js2, by omega, inv2, room2, told2, p1, p2, tags2, up2, fun j hj => ⟨(lo2 j hj).1, by have := (lo2 j hj).2; omega⟩, by omega, count2, by rw [lost2]; omega, by omega⟩, ?_, ?_⟩
    · show len - (i + 1) < len - i
      omega
    · exact Le.of rfl ⟨⟨_, rfl, rfl⟩, ⟨_, rfl, rfl⟩, ⟨_, rfl, rfl⟩, ⟨_, rfl, rfl⟩, ⟨_, rfl, rfl⟩, ⟨_, rfl, rfl⟩, ⟨_, rfl, congrArg (fun z => some (Value.int .i64 z)) ei⟩, trivial⟩ (fun h k => k)
  refine call_asn [] [] (take_spec b x2 l3 cp2 1 inv2 room2) rfl rfl (fun _ _ _ _ => trivial) ?_
  rintro v post (⟨h, _⟩ | ⟨_, hms, rfl, rfl⟩ | ⟨_, _, h, _⟩ | ⟨_, _, m2, rest, l5, cap5, hms, hr, rfl, rfl⟩)
  · exact absurd told2 h
  · refine ⟨.tuple [.agg [.int .u32 0, .int .u16 0, .nils], .int .i64 0, .int .i64 6], _, 1, NmExt.refl _, rfl, _, fun h k => sat_asns k, ?_⟩
    intro b9
    refine useP (.int .i64 _) (code_spec _) rfl rfl ?_
    refine CondOb.split (fun _ => ?_) (fun h => absurd h (by simp))
    refine ⟨⟨i + 1, next, many2, taken, x2, l3, cp2, js2, by omega, inv2, room2, told2, p1, p2, tags2, up2, fun j hj => ⟨(lo2 j hj).1, by have := (lo2 j hj).2; omega⟩, by omega, count2, by rw [lost2]; omega, by omega⟩, ?_, ?_⟩
    · show len - (i + 1) < len - i
      omega
    · exact Le.of rfl ⟨⟨_, rfl, rfl⟩, ⟨_, rfl, rfl⟩, ⟨_, rfl, rfl⟩, ⟨_, rfl, rfl⟩, ⟨_, rfl, rfl⟩, ⟨_, rfl, rfl⟩, ⟨_, rfl, congrArg (fun z => some (Value.int .i64 z)) ei⟩, trivial⟩ (fun h k => sat_tail k)
  · exact absurd h (by decide)
  obtain ⟨j, js3, rfl⟩ : ∃ j js3, js2 = j :: js3 := by
    rw [hms] at tags2
    cases js2 with
    | nil => exact tags2.elim
    | cons j js3 => exact ⟨_, _, rfl⟩
  have tags3 := tags2
  rw [hms] at tags3
  obtain ⟨⟨hx0, b5, o5, hml⟩, tags3⟩ := tags3
  have hlen1 : 1 ≤ m2.xs.length := by
    have := (List.getElem?_eq_some_iff.1 hx0).1
    omega
  have eK : (if (m2.xs.length : Int) < 1 then (m2.xs.length : Int) else 1).toNat = 1 := by rw [if_neg (by omega)]; rfl
  have hj := lo2 j (by simp)
  have ej : IntKind.i64.wrap (j : Int) = j := w64 (by omega) (by omega)
  have ej1 : IntKind.i64.wrap (IntKind.i64.wrap (j : Int) + 1) = ((j + 1 : Nat) : Int) := by rw [ej, w64 (by omega) (by omega)]; omega
  have et : IntKind.i64.wrap ((taken : Int) + 1) = ((taken + 1 : Nat) : Int) := by
    have : x2.ms.length + taken = many2 := count2
    rw [w64 (by omega) (by omega)]; omega
  refine ⟨.tuple [.agg [.int .u32 m2.a, .int .u16 m2.p, .sl 1 0 (if (m2.xs.length : Int) < 1 then (m2.xs.length : Int) else 1).toNat m2.cap], .int .i64 m2.xs.length, .int .i64 0], [(1, .at b5 o5), (0, .at b 0)], 2, NmExt.push rfl, by rw [hml]; rfl,
    [.asn _, .asn _, .asn _, .vec 1 5 1 m2.cap m2.xs], fun h k => sat_cons (fun h k => k) (fun h k => sat_cons (fun h k => k) (fun h k => sat_cons (fun h k => k) (fun h k => sat_cons (fun h k => vec_of rfl (by rw [← hml]; exact k)) (fun h k => sat_nil k) k) k) k) k, ?_⟩
  intro b9
  refine useP (.int .i64 _) (code_spec _) rfl rfl ?_
  refine CondOb.split (fun h => absurd h (by simp)) (fun _ => ?_)
  refine Br.mk (fun h => absurd h (by rw [eK]; simp)) (fun _ => ?_)
  refine Need.mk (by rw [eK]; decide) ?_
  refine RdOb.mk (.int .u8 j) _ rfl hx0 ?_
  refine Br.mk (fun h => absurd h (by rw [ej]; simp; omega)) (fun _ => ?_)
  refine Need.mk (by rw [eK]; decide) ?_
  refine RdOb.mk (.int .u8 j) _ rfl hx0 ?_
  refine CondOb.split (fun h => absurd h (by rw [ej]; simp; omega)) (fun _ => ?_)
  refine Need.mk (by rw [eK]; decide) ?_
  refine RdOb.mk (.int .u8 j) _ rfl hx0 ?_
  have hcount : (m2 :: rest).length + taken = many2 := by rw [← hms]; exact count2
  simp only [List.length_cons] at hcount
  refine ⟨⟨i + 1, j + 1, many2, taken + 1, _, l5, cap5, js3, by omega, inv_take inv2 hms, hr, told2, p1, p2, tags3, (List.pairwise_cons.1 up2).2, fun q hq => ⟨(List.pairwise_cons.1 up2).1 q hq, by have := (lo2 q (by simp [hq])).2; omega⟩, by omega, by simp only; omega, by simp only; rw [lost2]; omega, by omega⟩, ?_, ?_⟩
  · show len - (i + 1) < len - i
    omega
  · exact Le.of rfl ⟨⟨_, rfl, rfl⟩, ⟨_, rfl, rfl⟩, ⟨_, rfl, rfl⟩, ⟨_, rfl, congrArg (fun z => some (Value.int .i64 z)) ej1⟩, ⟨_, rfl, rfl⟩, ⟨_, rfl, congrArg (fun z => some (Value.int .i64 z)) et⟩, ⟨_, rfl, congrArg (fun z => some (Value.int .i64 z)) ei⟩, trivial⟩ (fun h k => by
      have k := sat_tail k
      exact sat_cons (fun h k => k) (fun h k => sat_cons (fun h k => k) (fun h k => sat_cons (fun h k => k) (fun h k => sat_nil k) k) k) k)
theorem order_law (r : Int) (A A2 : Option Addr) (len cap len2 cap2 : Nat) (h : (Lit.int .u16 r).wf = true) :
    Does Try.prog 3 #[.int .u16 r, .slice A len cap, .slice A2 len2 cap2] (fun f => Rd Try.prog f 3 23 [.slice A len cap] ∧ Rd Try.prog f 3 24 [.slice A2 len2 cap2]) [] (fun v p => v = .bool true ∧ p = []) := by
  have h' : 0 ≤ r ∧ r ≤ 65535 := by simp [Lit.wf] at h; exact h
  exact order_spec r A A2 len cap len2 cap2 h'.1 h'.2
end Go.Proofs.Ytlgdagjbphafcaa.Udp
