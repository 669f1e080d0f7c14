/- reasm: the page's example; nil tables. Conditions: none. -/
import Derived.Test.YtiknkeakielncaaRsL
namespace Go.Proofs.Ytiknkeakielncaa.Rs
open Go Go.Proofs Sx
set_option maxRecDepth 100000
set_option linter.unusedVariables false
set_option linter.unusedSimpArgs false
set_option maxHeartbeats 4000000

def zs8 : List UInt8 := List.replicate 8 0
def pB : Pl := ⟨⟨0, 1, false, false, 1, 0, 0, 0, 0⟩, [], zs8⟩
def pA : Pl := ⟨⟨0, 1, false, true, 0, 0, 0, 0, 0⟩, [], zs8⟩
theorem add_B {M' : List Mp} {r : Pl} {dn : Bool} {e : Int} (h : AddP 2 9 0 pB [] M' r dn e) : dn = false ∧ e = 0 ∧ ∃ ts, LaidT [] pB.t ts ∧ M' = [⟨pB.key, ts, 16, none, 9⟩] := by
  have hM1 : ∀ M1, Begun 2 9 0 pB.key [] M1 → M1 = [newM pB.key 9] := by
    rintro M1 (⟨x, hx, _⟩ | ⟨_, _⟩)
    · cases hx
    · rfl
  have one : ∀ (A B : List Mp) (x : Mp) (M1 : List Mp), Begun 2 9 0 pB.key [] M1 → M1 = A ++ x :: B → A = [] ∧ B = [] ∧ x = newM pB.key 9 := by
    intro A B x M1 hb e
    rw [hM1 M1 hb] at e
    cases A with
    | nil => simp at e; exact ⟨rfl, e.2, e.1.symm⟩
    | cons a A => simp at e
  cases h with
  | bad h => exact absurd (by decide) h
  | at_once _ hw => exact absurd hw (by decide)
  | full _ _ _ hm => simp at hm
  | stale _ _ M1 A B x hb e hk hf =>
    obtain ⟨rfl, rfl, rfl⟩ := one A B x _ hb e
    exact absurd hf (by decide)
  | more _ _ M1 A B x hb e hk hf ts hl hr =>
    obtain ⟨rfl, rfl, rfl⟩ := one A B x _ hb e
    exact ⟨rfl, rfl, ts, hl, rfl⟩
  | long _ _ M1 A B x hb e hk hf ts hl q s hq =>
    obtain ⟨rfl, rfl, rfl⟩ := one A B x _ hb e
    cases hq
  | done _ _ M1 A B x hb e hk hf ts hl q s hq =>
    obtain ⟨rfl, rfl, rfl⟩ := one A B x _ hb e
    cases hq
theorem add_A {ts : List T} {M' : List Mp} {r : Pl} {dn : Bool} {e : Int} (hl : LaidT [] pB.t ts) (h : AddP 2 9 0 pA [⟨pB.key, ts, 16, none, 9⟩] M' r dn e) : dn = true ∧ e = 0 ∧ r.data.length = 16 := by
  have hcov : ∀ k, cov ts k = pB.t.get k := fun k => by rw [hl.cov, cov_nil]; rfl
  have hM1 : ∀ M1, Begun 2 9 0 pA.key [⟨pB.key, ts, 16, none, 9⟩] M1 → M1 = [⟨pB.key, ts, 16, none, 9⟩] := by
    rintro M1 (_ | ⟨h, _⟩)
    · rfl
    · exact absurd (show (⟨pB.key, ts, 16, none, 9⟩ : Mp).k = pA.key from rfl) (h _ (by simp))
  have one : ∀ (A B : List Mp) (x : Mp) (M1 : List Mp), Begun 2 9 0 pA.key [⟨pB.key, ts, 16, none, 9⟩] M1 → M1 = A ++ x :: B → A = [] ∧ B = [] ∧ x = ⟨pB.key, ts, 16, none, 9⟩ := by
    intro A B x M1 hb e
    rw [hM1 M1 hb] at e
    cases A with
    | nil => simp at e; exact ⟨rfl, e.2, e.1.symm⟩
    | cons a A => simp at e
  have ready : ∀ ts', LaidT ts pA.t ts' → ∃ s, ts' = [s] ∧ s.1 = 0 ∧ s.stop = 16 := by
    intro ts' h'
    refine (full_one h'.wf (by decide) h'.lo (h'.hi 16 (hl.hi 16 (by simp) (by decide)) (by decide))).1 (fun k h0 h1 => ?_)
    rw [h'.cov, hcov]
    by_cases hk : k < 8
    · obtain ⟨v, hv⟩ := get_is (s := pA.t) (k := k) (by show (0 : Int) ≤ k; exact h0) (by show k < 0 + 8; omega)
      rw [hv]
      cases pB.t.get k <;> simp
    · obtain ⟨v, hv⟩ := get_is (s := pB.t) (k := k) (by show (8 : Int) ≤ k; omega) (by show k < 8 + 8; omega)
      rw [hv]
      simp
  have hrd : ∀ ts', LaidT ts pA.t ts' → readyM (moreM ⟨pB.key, ts, 16, none, 9⟩ pA ts') = true := by
    intro ts' h'
    obtain ⟨s, rfl, h1, h2⟩ := ready ts' h'
    show (decide ((16 : Int) ≥ 0) && (decide (s.1 = 0) && decide (s.stop = 16))) = true
    rw [h1, h2]; rfl
  cases h with
  | bad h => exact absurd (by decide) h
  | at_once _ hw => exact absurd hw (by decide)
  | full _ _ hk _ => exact absurd (show (⟨pB.key, ts, 16, none, 9⟩ : Mp).k = pA.key from rfl) (hk _ (by simp))
  | stale _ _ M1 A B x hb e hk hf =>
    obtain ⟨rfl, rfl, rfl⟩ := one A B x _ hb e
    exact absurd hf (by simp [fitsM, pA, Pl.t, T.stop, zs8])
  | more _ _ M1 A B x hb e hk hf ts' h' hr =>
    obtain ⟨rfl, rfl, rfl⟩ := one A B x _ hb e
    rw [hrd ts' h'] at hr; cases hr
  | long _ _ M1 A B x hb e hk hf ts' h' q s hq hs hr hn =>
    obtain ⟨rfl, rfl, rfl⟩ := one A B x _ hb e
    obtain ⟨s', h1, h2, h3⟩ := ready ts' h'
    rw [hs] at h1
    cases h1
    cases hq
    have : s.stop = s.1 + s.2.length := rfl
    have h4 : pA.opts.length = 0 := rfl
    omega
  | done _ _ M1 A B x hb e hk hf ts' h' q s hq hs hr hn =>
    obtain ⟨rfl, rfl, rfl⟩ := one A B x _ hb e
    obtain ⟨s', h1, h2, h3⟩ := ready ts' h'
    rw [hs] at h1
    cases h1
    have : s.stop = s.1 + s.2.length := rfl
    exact ⟨rfl, rfl, by show s.2.length = 16; omega⟩
theorem sees_frame {f f' b : HP} {es : List Asn} {p : Pl} {pl : Plc} {c : Nat} (n : Nat) (hs : Split f' b f) (kb : sat es b) (e : es[n]? = some (Vec pl 5 1 c (U.flat p.data))) (ho : p.opts = []) : (Ip.mk p none 0 (locAddr 0 pl) c).Sees f' := by
  obtain ⟨x, hx, k⟩ := sat_sub e kb
  exact ⟨by rw [ho]; exact Reads.nil _ _, rd_sub (fun r q hq => hs.get (hx r q hq)) (vec_reads' k)⟩
theorem fits8 {p : Pl} {A : Option Addr} (h1 : p.opts = []) (h2 : p.data = zs8) : (Ip.mk p none 0 A 8).Fits := ⟨by simp [h1], by simp [h2, zs8], by simp [h1], by simp [h2, zs8]⟩
theorem live_spec : Does Try.prog 20 #[] (fun _ => True) [] (fun v q => v = .bool true ∧ q = []) := by
  refine Does.ofJ Try.func20 Try.call20 rfl [] [] 0 [] rfl rfl (fun h k => k) (fun f hR => ?_)
  refine call_ix (tnew_spec 2 9) rfl [] (fun h k => k) (fun f' b' hs kb => trivial) ?_
  rintro v post (⟨h1, _⟩ | ⟨_, b, rfl, rfl⟩)
  · exact absurd h1 (by decide)
  refine ⟨.tuple [.raw (pp b), .int .i64 0], _, 0, [.asn (TA b 2 9 0 [])], NmExt.refl _, rfl, fun h k => k, ?_⟩
  refine RegOb.go ?_
  refine useP (.int .i64 0) (code_spec 0) rfl rfl ?_
  refine Br.mk (fun h => absurd h (by decide)) (fun _ => ?_)
  refine Need.mk (by decide) ?_
  intro b22
  intro b3
  refine Need.mk (by decide) ?_
  intro b24
  intro b4
  have e8 : (List.replicate (8 : Int).toNat [Value.int .u8 0]).flatten = U.flat zs8 := rfl
  refine call_ix (tadd_spec b 2 9 0 [] 0 ⟨pB, none, 0, locAddr 0 (.at b24 0), 8⟩ (fits8 rfl rfl) (by decide) (by decide) (by decide)) rfl [4] (fun h k => sat_pick 4 rfl (by first | exact fun _ k => k | exact fun _ k => blk_to rfl rfl k | exact fun _ k => vec_to rfl k | exact fun _ k => blk_of rfl rfl k | exact fun _ k => vec_of rfl k | exact fun _ k => blk_of rfl rfl (blk_to rfl rfl k) | exact fun _ k => vec_of rfl (vec_to rfl k) | exact fun _ k => mp_to rfl k | exact fun _ k => mp_of rfl k | exact fun _ k => mp_of rfl (mp_to rfl k)) (fun h k => sat_pick 0 rfl (by first | exact fun _ k => k | exact fun _ k => blk_to rfl rfl k | exact fun _ k => vec_to rfl k | exact fun _ k => blk_of rfl rfl k | exact fun _ k => vec_of rfl k | exact fun _ k => blk_of rfl rfl (blk_to rfl rfl k) | exact fun _ k => vec_of rfl (vec_to rfl k) | exact fun _ k => mp_to rfl k | exact fun _ k => mp_of rfl k | exact fun _ k => mp_of rfl (mp_to rfl k)) (fun h k => sat_pick 0 rfl (by first | exact fun _ k => k | exact fun _ k => blk_to rfl rfl k | exact fun _ k => vec_to rfl k | exact fun _ k => blk_of rfl rfl k | exact fun _ k => vec_of rfl k | exact fun _ k => blk_of rfl rfl (blk_to rfl rfl k) | exact fun _ k => vec_of rfl (vec_to rfl k) | exact fun _ k => mp_to rfl k | exact fun _ k => mp_of rfl k | exact fun _ k => mp_of rfl (mp_to rfl k)) (fun h k => sat_pick 0 rfl (by first | exact fun _ k => k | exact fun _ k => blk_to rfl rfl k | exact fun _ k => vec_to rfl k | exact fun _ k => blk_of rfl rfl k | exact fun _ k => vec_of rfl k | exact fun _ k => blk_of rfl rfl (blk_to rfl rfl k) | exact fun _ k => vec_of rfl (vec_to rfl k) | exact fun _ k => mp_to rfl k | exact fun _ k => mp_of rfl k | exact fun _ k => mp_of rfl (mp_to rfl k)) (fun h k => sat_pick 0 rfl (by first | exact fun _ k => k | exact fun _ k => blk_to rfl rfl k | exact fun _ k => vec_to rfl k | exact fun _ k => blk_of rfl rfl k | exact fun _ k => vec_of rfl k | exact fun _ k => blk_of rfl rfl (blk_to rfl rfl k) | exact fun _ k => vec_of rfl (vec_to rfl k) | exact fun _ k => mp_to rfl k | exact fun _ k => mp_of rfl k | exact fun _ k => mp_of rfl (mp_to rfl k)) (fun h k => sat_nil k) k) k) k) k) k) (fun f' b' hs kb => sees_frame 1 (pl := .at b24 0) hs (via (fun h k => k) (fun h k => sat_pick 0 rfl (by first | exact fun _ k => k | exact fun _ k => blk_to rfl rfl k | exact fun _ k => vec_to rfl k | exact fun _ k => blk_of rfl rfl k | exact fun _ k => vec_of rfl k | exact fun _ k => blk_of rfl rfl (blk_to rfl rfl k) | exact fun _ k => vec_of rfl (vec_to rfl k) | exact fun _ k => mp_to rfl k | exact fun _ k => mp_of rfl k | exact fun _ k => mp_of rfl (mp_to rfl k)) (fun h k => sat_pick 0 rfl (fun _ k9 => vec_cast e8 (vec_to (l := .at b24 0) rfl k9)) (fun h k => sat_pick 0 rfl (by first | exact fun _ k => k | exact fun _ k => blk_to rfl rfl k | exact fun _ k => vec_to rfl k | exact fun _ k => blk_of rfl rfl k | exact fun _ k => vec_of rfl k | exact fun _ k => blk_of rfl rfl (blk_to rfl rfl k) | exact fun _ k => vec_of rfl (vec_to rfl k) | exact fun _ k => mp_to rfl k | exact fun _ k => mp_of rfl k | exact fun _ k => mp_of rfl (mp_to rfl k)) (fun h k => sat_pick 0 rfl (by first | exact fun _ k => k | exact fun _ k => blk_to rfl rfl k | exact fun _ k => vec_to rfl k | exact fun _ k => blk_of rfl rfl k | exact fun _ k => vec_of rfl k | exact fun _ k => blk_of rfl rfl (blk_to rfl rfl k) | exact fun _ k => vec_of rfl (vec_to rfl k) | exact fun _ k => mp_to rfl k | exact fun _ k => mp_of rfl k | exact fun _ k => mp_of rfl (mp_to rfl k)) (fun h k => sat_nil k) k) k) k) k) _ kb) rfl rfl) ?_
  rintro v post ⟨M1, r1, dn1, e1, own1, rfl, ha1, ho1, rfl⟩
  obtain ⟨rfl, rfl, ts, hl, rfl⟩ := add_B ha1
  obtain ⟨_, rfl, rfl⟩ : false = false ∧ r1 = zeroI ∧ own1 = [] := by
    rcases ho1 with h | ⟨h, _⟩
    · exact h
    · cases h
  refine ⟨.tuple [.agg zeroI.svs, .bool false, .int .i64 0], _, 4, [.asn (TA b 2 9 1 [⟨pB.key, ts, 16, none, 9⟩])], NmExt.refl _, rfl, fun h k => k, ?_⟩
  intro b5
  refine call_ix (tadd_spec b 2 9 1 [⟨pB.key, ts, 16, none, 9⟩] 0 ⟨pA, none, 0, locAddr 0 (.at b22 0), 8⟩ (fits8 rfl rfl) (by decide) (by decide) (by decide)) rfl [1] (fun h k => sat_pick 1 rfl (by first | exact fun _ k => k | exact fun _ k => blk_to rfl rfl k | exact fun _ k => vec_to rfl k | exact fun _ k => blk_of rfl rfl k | exact fun _ k => vec_of rfl k | exact fun _ k => blk_of rfl rfl (blk_to rfl rfl k) | exact fun _ k => vec_of rfl (vec_to rfl k) | exact fun _ k => mp_to rfl k | exact fun _ k => mp_of rfl k | exact fun _ k => mp_of rfl (mp_to rfl k)) (fun h k => sat_pick 0 rfl (by first | exact fun _ k => k | exact fun _ k => blk_to rfl rfl k | exact fun _ k => vec_to rfl k | exact fun _ k => blk_of rfl rfl k | exact fun _ k => vec_of rfl k | exact fun _ k => blk_of rfl rfl (blk_to rfl rfl k) | exact fun _ k => vec_of rfl (vec_to rfl k) | exact fun _ k => mp_to rfl k | exact fun _ k => mp_of rfl k | exact fun _ k => mp_of rfl (mp_to rfl k)) (fun h k => sat_pick 0 rfl (by first | exact fun _ k => k | exact fun _ k => blk_to rfl rfl k | exact fun _ k => vec_to rfl k | exact fun _ k => blk_of rfl rfl k | exact fun _ k => vec_of rfl k | exact fun _ k => blk_of rfl rfl (blk_to rfl rfl k) | exact fun _ k => vec_of rfl (vec_to rfl k) | exact fun _ k => mp_to rfl k | exact fun _ k => mp_of rfl k | exact fun _ k => mp_of rfl (mp_to rfl k)) (fun h k => sat_pick 0 rfl (by first | exact fun _ k => k | exact fun _ k => blk_to rfl rfl k | exact fun _ k => vec_to rfl k | exact fun _ k => blk_of rfl rfl k | exact fun _ k => vec_of rfl k | exact fun _ k => blk_of rfl rfl (blk_to rfl rfl k) | exact fun _ k => vec_of rfl (vec_to rfl k) | exact fun _ k => mp_to rfl k | exact fun _ k => mp_of rfl k | exact fun _ k => mp_of rfl (mp_to rfl k)) (fun h k => sat_pick 0 rfl (by first | exact fun _ k => k | exact fun _ k => blk_to rfl rfl k | exact fun _ k => vec_to rfl k | exact fun _ k => blk_of rfl rfl k | exact fun _ k => vec_of rfl k | exact fun _ k => blk_of rfl rfl (blk_to rfl rfl k) | exact fun _ k => vec_of rfl (vec_to rfl k) | exact fun _ k => mp_to rfl k | exact fun _ k => mp_of rfl k | exact fun _ k => mp_of rfl (mp_to rfl k)) (fun h k => sat_pick 0 rfl (by first | exact fun _ k => k | exact fun _ k => blk_to rfl rfl k | exact fun _ k => vec_to rfl k | exact fun _ k => blk_of rfl rfl k | exact fun _ k => vec_of rfl k | exact fun _ k => blk_of rfl rfl (blk_to rfl rfl k) | exact fun _ k => vec_of rfl (vec_to rfl k) | exact fun _ k => mp_to rfl k | exact fun _ k => mp_of rfl k | exact fun _ k => mp_of rfl (mp_to rfl k)) (fun h k => sat_nil k) k) k) k) k) k) k) (fun f' b' hs kb => sees_frame 4 (pl := .at b22 0) hs (via (fun h k => k) (fun h k => sat_pick 0 rfl (by first | exact fun _ k => k | exact fun _ k => blk_to rfl rfl k | exact fun _ k => vec_to rfl k | exact fun _ k => blk_of rfl rfl k | exact fun _ k => vec_of rfl k | exact fun _ k => blk_of rfl rfl (blk_to rfl rfl k) | exact fun _ k => vec_of rfl (vec_to rfl k) | exact fun _ k => mp_to rfl k | exact fun _ k => mp_of rfl k | exact fun _ k => mp_of rfl (mp_to rfl k)) (fun h k => sat_pick 0 rfl (by first | exact fun _ k => k | exact fun _ k => blk_to rfl rfl k | exact fun _ k => vec_to rfl k | exact fun _ k => blk_of rfl rfl k | exact fun _ k => vec_of rfl k | exact fun _ k => blk_of rfl rfl (blk_to rfl rfl k) | exact fun _ k => vec_of rfl (vec_to rfl k) | exact fun _ k => mp_to rfl k | exact fun _ k => mp_of rfl k | exact fun _ k => mp_of rfl (mp_to rfl k)) (fun h k => sat_pick 0 rfl (by first | exact fun _ k => k | exact fun _ k => blk_to rfl rfl k | exact fun _ k => vec_to rfl k | exact fun _ k => blk_of rfl rfl k | exact fun _ k => vec_of rfl k | exact fun _ k => blk_of rfl rfl (blk_to rfl rfl k) | exact fun _ k => vec_of rfl (vec_to rfl k) | exact fun _ k => mp_to rfl k | exact fun _ k => mp_of rfl k | exact fun _ k => mp_of rfl (mp_to rfl k)) (fun h k => sat_pick 0 rfl (by first | exact fun _ k => k | exact fun _ k => blk_to rfl rfl k | exact fun _ k => vec_to rfl k | exact fun _ k => blk_of rfl rfl k | exact fun _ k => vec_of rfl k | exact fun _ k => blk_of rfl rfl (blk_to rfl rfl k) | exact fun _ k => vec_of rfl (vec_to rfl k) | exact fun _ k => mp_to rfl k | exact fun _ k => mp_of rfl k | exact fun _ k => mp_of rfl (mp_to rfl k)) (fun h k => sat_pick 0 rfl (fun _ k9 => vec_cast e8 (vec_to (l := .at b22 0) rfl k9)) (fun h k => sat_nil k) k) k) k) k) k) _ kb) rfl rfl) ?_
  rintro v post ⟨M2, r2, dn2, e2, own2, rfl, ha2, ho2, rfl⟩
  obtain ⟨rfl, rfl, hlen⟩ := add_A hl ha2
  refine ⟨.tuple [.agg r2.svs, .bool true, .int .i64 0], _, 5, [], NmExt.refl _, rfl, fun h k => trivial, ?_⟩
  intro b8
  refine RegOb.go ?_
  refine useP (.int .i64 0) (code_spec 0) rfl rfl ?_
  refine useP (.int .i64 0) (code_spec 0) rfl rfl ?_
  refine Br.mk (fun _ => ?_) (fun h => absurd h (by decide))
  refine Br.mk (fun _ => ?_) (fun h => absurd h (by decide))
  refine Br.mk (fun _ => ?_) (fun h => absurd h (by decide))
  exact FinOb.mk [.bool ((r2.p.data.length : Int) == 16)] [] rfl (fun h k => trivial) ⟨by rw [hlen]; rfl, rfl⟩
/-- What a table that is nil answers. -/
theorem nils_spec (now : Int) (i : Ip) : Does Try.prog 12 #[.int .i64 now, .agg i.vals.toArray] (fun _ => True) [] (fun v q => v = .bool true ∧ q = []) := by
  refine Does.ofJ Try.func12 Try.call12 rfl [.int .i64 now, .agg i.svs] [] 0 [] rfl rfl (fun h k => k) (fun f hR => ?_)
  intro b3
  refine useP (.tuple [.agg zeroI.svs, .ff, .int .i64 7]) (add_nil now i) rfl rfl ?_
  intro b6
  refine useP (.tuple [.int .i64 0, .ff]) next_nil rfl rfl ?_
  refine RegOb.go ?_
  refine useP .tt same_zero rfl rfl ?_
  refine useP (.int .i64 7) (code_spec 7) rfl rfl ?_
  refine Br.mk (fun _ => ?_) (fun h => absurd h (by decide))
  refine Br.mk (fun _ => ?_) (fun h => absurd h (by decide))
  refine useP (.int .i64 0) len_nil rfl rfl ?_
  refine useP (.int .i64 0) held_nil rfl rfl ?_
  refine useP .nils (expire_nil now) rfl rfl ?_
  refine Br.mk (fun _ => ?_) (fun h => absurd h (by decide))
  refine useP .tt live_spec rfl rfl ?_
  exact FinOb.mk [.bool true] [] rfl (fun h k => trivial) ⟨rfl, rfl⟩
/-! ### Arguments -/
theorem c3 : Try.prog.cellsOf 3 = 1 := by kernel_rfl
theorem cIP : Try.prog.cellsOf 40 = 11 := by kernel_rfl
theorem bIP : 0 < Try.prog.bytesOf 40 := of_decide_eq_true (by kernel_rfl)
theorem cu8 : Try.prog.cellsOf 5 = 1 := by kernel_rfl
theorem cu16 : Try.prog.cellsOf 36 = 1 := by kernel_rfl
theorem cbo : Try.prog.cellsOf 4 = 1 := by kernel_rfl
theorem cad : Try.prog.cellsOf 37 = 1 := by kernel_rfl
theorem cby : Try.prog.cellsOf 38 = 1 := by kernel_rfl
theorem bu8 : 0 < Try.prog.bytesOf 5 := of_decide_eq_true (by kernel_rfl)
theorem bytes_list {f : HP} {n : Nat} {A : Option Addr} {len cap : Nat} (h : RdS Try.prog f (n + 2) 38 [.slice A len cap]) : ∃ l : List UInt8, l.length = len ∧ Reads f A (U.flat l) ∧ len ≤ cap ∧ cap ≤ reachBytes := by
  obtain ⟨s, h1, h2, h3, h4⟩ := RdS.bytes Try.underlying38 Try.underlying5 cu8 bu8 h
  have e : U.flat s.data.toList = bytesV s := strU_flat _
  exact ⟨s.data.toList, by rw [← h1, ← e, lU], by rw [e]; exact h2, h3, h4⟩
theorem ip_reads {f : HP} {n : Nat} {cs : List Value} (h : RdS Try.prog f (n + 3) 40 cs) : ∃ i : Ip, cs = i.vals ∧ i.Sees f ∧ i.p.opts.length ≤ i.co ∧ i.p.data.length ≤ i.cd ∧ i.co ≤ reachBytes ∧ i.cd ≤ reachBytes := by
  have hl := RdS.cells Try.underlying40 h
  rw [cIP] at hl
  match cs, hl with
  | [x0, x1, x2, x3, x4, x5, x6, x7, x8, x9, x10], _ =>
  obtain ⟨a0, h0, w0⟩ := RdS.int Try.underlying5 (RdS.field Try.underlying40 h 0 rfl (ds := [x0]) (by simp only [cu8]; rfl))
  obtain ⟨a1, h1, w1⟩ := RdS.int Try.underlying36 (RdS.field Try.underlying40 h 1 rfl (ds := [x1]) (by simp only [cu16]; rfl))
  obtain ⟨a2, h2⟩ := RdS.bool Try.underlying4 (RdS.field Try.underlying40 h 2 rfl (ds := [x2]) (by simp only [cbo]; rfl))
  obtain ⟨a3, h3⟩ := RdS.bool Try.underlying4 (RdS.field Try.underlying40 h 3 rfl (ds := [x3]) (by simp only [cbo]; rfl))
  obtain ⟨a4, h4, w4⟩ := RdS.int Try.underlying3 (RdS.field Try.underlying40 h 4 rfl (ds := [x4]) (by simp only [c3]; rfl))
  obtain ⟨a5, h5, w5⟩ := RdS.int Try.underlying5 (RdS.field Try.underlying40 h 5 rfl (ds := [x5]) (by simp only [cu8]; rfl))
  obtain ⟨a6, h6, w6⟩ := RdS.int Try.underlying5 (RdS.field Try.underlying40 h 6 rfl (ds := [x6]) (by simp only [cu8]; rfl))
  obtain ⟨a7, h7, w7⟩ := RdS.int Try.underlying37 (RdS.field Try.underlying40 h 7 rfl (ds := [x7]) (by simp only [cad]; rfl))
  obtain ⟨a8, h8, w8⟩ := RdS.int Try.underlying37 (RdS.field Try.underlying40 h 8 rfl (ds := [x8]) (by simp only [cad]; rfl))
  have h9 := RdS.field Try.underlying40 h 9 rfl (ds := [x9]) (by simp only [cby]; rfl)
  have h10 := RdS.field Try.underlying40 h 10 rfl (ds := [x10]) (by simp only [cby]; rfl)
  obtain ⟨A9, len9, cap9, rfl⟩ := RdS.sl (P := Try.prog) (n := n + 1) Try.underlying38 h9
  obtain ⟨A10, len10, cap10, rfl⟩ := RdS.sl (P := Try.prog) (n := n + 1) Try.underlying38 h10
  obtain ⟨l9, rfl, r9, c9, q9⟩ := bytes_list (n := n) h9
  obtain ⟨l10, rfl, r10, c10, q10⟩ := bytes_list (n := n) h10
  simp only [List.cons.injEq, and_true] at h0 h1 h2 h3 h4 h5 h6 h7 h8
  subst h0; subst h1; subst h2; subst h3; subst h4; subst h5; subst h6; subst h7; subst h8
  exact ⟨⟨⟨⟨a0, a1, a2, a3, a4, a5, a6, a7, a8⟩, l9, l10⟩, A9, cap9, A10, cap10⟩, rfl, ⟨r9, r10⟩, c9, c10, q9, q10⟩
theorem nils_law (now : Int) (x : Array Value) : Does Try.prog 12 #[.int .i64 now, .agg x] (fun f => RdS Try.prog f 6 40 x.toList) [] (fun v q => v = .bool true ∧ q = []) := by
  refine ⟨Try.call12, fun f w0 hR hat => ?_⟩
  obtain ⟨i, e, _⟩ := ip_reads (n := 3) hR
  obtain rfl : x = i.vals.toArray := by rw [← e]
  exact (nils_spec now i).run f w0 trivial hat
end Go.Proofs.Ytiknkeakielncaa.Rs
