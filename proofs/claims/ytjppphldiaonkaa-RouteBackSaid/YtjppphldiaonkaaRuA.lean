/- route: Remove. Conditions: none. -/
import Derived.Test.YtjppphldiaonkaaRtY
namespace Go.Proofs.Ytjppphldiaonkaa.Rt
open Go Go.Proofs Sx
set_option maxRecDepth 100000
set_option linter.unusedVariables false
set_option linter.unusedSimpArgs false
set_option maxHeartbeats 4000000

theorem deleteT {T : List Nd} {i : Nat} {m : Nd} (h : T[i]? = some m) (j : Nat) (hj : j < m.ws.length) (hl : m.ws.length ≤ 100000) (hc : m.ws.length ≤ m.cap) (q : Int) (hq : q = j + 1) :
    Does Try.prog 56 #[.slice (locAddr 0 m.pl) m.ws.length m.cap, .int .i64 j, .int .i64 q] (fun _ => True) [Vs T]
      (fun v q => v = .slice (locAddr 0 m.pl) (m.ws.eraseIdx j).length m.cap ∧ q = [Vs (T.set i (m.turn m.pl m.cap (m.ws.eraseIdx j)))]) := by
  subst hq
  have hil := (List.getElem?_eq_some_iff.1 h).1
  have hlen : (m.ws.eraseIdx j).length = m.ws.length - 1 := by rw [List.length_eraseIdx, if_pos hj]
  have h1 := frameOf [Alls ((T.map Nd.vec).eraseIdx i)] (delete_spec m.pl m.cap m.ws j hj hl hc)
  have h2 := h1.pre (pre' := [Vs T]) (fun y k => vs_out h k)
  refine h2.opens ?_
  rintro v q y ⟨q', ⟨rfl, rfl⟩, rfl⟩ k
  rw [hlen]
  exact ⟨_, ⟨rfl, rfl⟩, y, HP.emp, .emp_right _, vs_turn hil m m.pl m.cap _ y k, trivial⟩
theorem del_del {tb n : Nat} {T : List Nd} (hj : TJ tb n T) {net bits cost : Int} {i : Nat} {m : Nd} (h : T[i]? = some m) (hx : m.x = net ∧ (m.k : Int) = bits) {k : Nat} (hf : foundB m.ws cost k = true) :
    TDel T n net bits cost 0 (T.set i (m.turn m.pl m.cap (m.ws.eraseIdx k))) (n - 1) ∧ TJ tb (n - 1) (T.set i (m.turn m.pl m.cap (m.ws.eraseIdx k))) ∧ 0 < n := by
  obtain ⟨y, hy, hyc⟩ := bs_hit hf
  have hm := List.mem_of_getElem? h
  have hi := hj.ti
  have hup := hi.ord m hm
  have hym : y ∈ m.ws := List.mem_of_getElem? hy
  have hkl := (List.getElem?_eq_some_iff.1 hy).1
  have hk : ∀ w, hit net bits cost w = key ⟨net, bits, 0, 0, cost⟩ w := fun _ => rfl
  have hlen : (m.ws.eraseIdx k).length = m.ws.length - 1 := by rw [List.length_eraseIdx, if_pos hkl]
  have htot := totw_turn h m.pl m.cap (m.ws.eraseIdx k)
  rw [hlen] at htot
  have hle : m.ws.length ≤ totw T := le_sum (List.mem_map.2 ⟨m, hm, rfl⟩)
  have := hj.tot; have := hj.le
  have hx' : m.x = (R.mk net bits 0 0 cost).net ∧ (m.k : Int) = (R.mk net bits 0 0 cost).bits := hx
  refine ⟨.del _ y ⟨m, hm, hym⟩ (by rw [hk]; exact (hi.here hm hx' hym).2 hyc) (by omega) (fun w => ?_), ⟨hi.turn h (up_erase hup k) (fun w hw => hi.way m hm w (List.mem_of_mem_eraseIdx hw)) (by have := hi.cap m hm; omega) (fun _ => hi.at_ m hm (by intro e; rw [e] at hym; simp at hym)), by omega, by omega⟩, by omega⟩
  rw [wm_turn h, wm_old h, mem_eraseR hup hy, hk]
  constructor
  · rintro (⟨j, q, hne, hq, hw⟩ | ⟨hw, hc⟩)
    · exact ⟨.inl ⟨j, q, hne, hq, hw⟩, hi.other h hx' hne hq hw⟩
    · refine ⟨.inr hw, ?_⟩
      rw [← Bool.not_eq_true, hi.here hm hx' hw]
      intro e; exact hc (e.trans hyc.symm)
  · rintro ⟨⟨j, q, hne, hq, hw⟩ | hw, hk⟩
    · exact .inl ⟨j, q, hne, hq, hw⟩
    · refine .inr ⟨hw, fun e => ?_⟩
      rw [← Bool.not_eq_true, hi.here hm hx' hw] at hk
      exact hk (e.trans hyc)
theorem remove_spec (tb n : Nat) (T : List Nd) (hj : TJ tb n T) (net bits cost : Int) (n0 : 0 ≤ net) (n1 : net ≤ 4294967295) :
    Does Try.prog 20 #[.pointer (some ⟨tb, 0, none⟩), .int .u32 net, .int .i64 bits, .int .i64 cost] (fun _ => True) [Bs n T, Vs T]
      (fun v p => ∃ e T' n', v = .int .i64 e ∧ TDel T n net bits cost e T' n' ∧ TJ tb n' T' ∧ p = [Bs n' T', Vs T']) := by
  refine Does.ofJ Try.func20 Try.call20 rfl [.raw (.pointer (some ⟨tb, 0, none⟩)), .int .u32 net, .int .i64 bits, .int .i64 cost] [] 0 [.asn (Bs n T), .asn (Vs T)] rfl rfl (fun h k => sat_pick 0 rfl (by first | exact fun _ k => k | exact fun _ k => blk_to rfl rfl k | exact fun _ k => vec_to rfl k | exact fun _ k => blk_of rfl rfl k | exact fun _ k => vec_of rfl k | exact fun _ k => blk_of rfl rfl (blk_to rfl rfl k) | exact fun _ k => vec_of rfl (vec_to rfl k) | exact fun _ k => mp_to rfl k | exact fun _ k => mp_of rfl k | exact fun _ k => mp_of rfl (mp_to rfl k)) (fun h k => sat_pick 0 rfl (by first | exact fun _ k => k | exact fun _ k => blk_to rfl rfl k | exact fun _ k => vec_to rfl k | exact fun _ k => blk_of rfl rfl k | exact fun _ k => vec_of rfl k | exact fun _ k => blk_of rfl rfl (blk_to rfl rfl k) | exact fun _ k => vec_of rfl (vec_to rfl k) | exact fun _ k => mp_to rfl k | exact fun _ k => mp_of rfl k | exact fun _ k => mp_of rfl (mp_to rfl k)) (fun h k => sat_nil k) k) k) (fun f hR => ?_)
  have hi := hj.ti
  have noway : ¬ ((0 ≤ bits ∧ bits ≤ 32) ∧ netOf net bits = net) → ∀ y, WM T y → hit net bits cost y = false := fun hb y ⟨m, hm, hy⟩ => by
    cases e : hit net bits cost y with
    | false => rfl
    | true =>
      obtain ⟨h1, h2, _⟩ := key_iff (x := ⟨net, bits, 0, 0, cost⟩).1 e
      obtain ⟨_, _, h5⟩ := hi.way m hm y hy
      obtain ⟨k, hk, hkb, hkn⟩ := okR_all h5
      have h1 : y.net = net := h1
      have h2 : y.bits = bits := h2
      rw [← hkb, h1, h2] at hkn
      exact absurd ⟨⟨by omega, by omega⟩, hkn⟩ hb
  have ha := anet_spec net bits n0 n1
  by_cases hb : 0 ≤ bits ∧ bits ≤ 32
  rotate_left
  · rw [if_neg hb] at ha
    refine useP (.tuple [.int .u32 0, .int .i64 1]) ha rfl rfl ?_
    refine RegOb.go ?_
    refine Br.mk (fun _ => ?_) (fun h => absurd h (by decide))
    exact FinOb.mk [.int .i64 6] [Bs n T, Vs T] rfl (fun h k => sat_pick 0 rfl (by first | exact fun _ k => k | exact fun _ k => blk_to rfl rfl k | exact fun _ k => vec_to rfl k | exact fun _ k => blk_of rfl rfl k | exact fun _ k => vec_of rfl k | exact fun _ k => blk_of rfl rfl (blk_to rfl rfl k) | exact fun _ k => vec_of rfl (vec_to rfl k) | exact fun _ k => mp_to rfl k | exact fun _ k => mp_of rfl k | exact fun _ k => mp_of rfl (mp_to rfl k)) (fun h k => sat_pick 0 rfl (by first | exact fun _ k => k | exact fun _ k => blk_to rfl rfl k | exact fun _ k => vec_to rfl k | exact fun _ k => blk_of rfl rfl k | exact fun _ k => vec_of rfl k | exact fun _ k => blk_of rfl rfl (blk_to rfl rfl k) | exact fun _ k => vec_of rfl (vec_to rfl k) | exact fun _ k => mp_to rfl k | exact fun _ k => mp_of rfl k | exact fun _ k => mp_of rfl (mp_to rfl k)) (fun h k => sat_nil k) k) k) ⟨6, T, n, rfl, .none (noway (fun h => hb h.1)), hj, rfl⟩
  rw [if_pos hb] at ha
  refine useP (.tuple [.int .u32 (netOf net bits), .int .i64 0]) ha rfl rfl ?_
  refine RegOb.go ?_
  refine Br.mk (fun h => absurd h (by decide)) (fun _ => ?_)
  refine CondOb.split (fun g => ?_) (fun g => ?_)
  · have g : netOf net bits ≠ net := by simpa using g
    exact FinOb.mk [.int .i64 6] [Bs n T, Vs T] rfl (fun h k => sat_pick 0 rfl (by first | exact fun _ k => k | exact fun _ k => blk_to rfl rfl k | exact fun _ k => vec_to rfl k | exact fun _ k => blk_of rfl rfl k | exact fun _ k => vec_of rfl k | exact fun _ k => blk_of rfl rfl (blk_to rfl rfl k) | exact fun _ k => vec_of rfl (vec_to rfl k) | exact fun _ k => mp_to rfl k | exact fun _ k => mp_of rfl k | exact fun _ k => mp_of rfl (mp_to rfl k)) (fun h k => sat_pick 0 rfl (by first | exact fun _ k => k | exact fun _ k => blk_to rfl rfl k | exact fun _ k => vec_to rfl k | exact fun _ k => blk_of rfl rfl k | exact fun _ k => vec_of rfl k | exact fun _ k => blk_of rfl rfl (blk_to rfl rfl k) | exact fun _ k => vec_of rfl (vec_to rfl k) | exact fun _ k => mp_to rfl k | exact fun _ k => mp_of rfl k | exact fun _ k => mp_of rfl (mp_to rfl k)) (fun h k => sat_nil k) k) k) ⟨6, T, n, rfl, .none (noway (fun h => g h.2)), hj, rfl⟩
  have hkn : netOf net bits = net := by simpa using g
  obtain ⟨k, hkb⟩ := Int.eq_ofNat_of_zero_le hb.1
  have hget := net_get tb n T hi net n0 n1 k (by omega)
  rw [← hkb, hkn] at hget
  cases e : nodeAt T net k with
  | none =>
    rw [kidP_no e] at hget
    have hno : ∀ y, WM T y → hit net bits cost y = false := fun y hy => none_none (x := ⟨net, bits, 0, 0, cost⟩) hi hkb e y hy
    refine useA [] [_] (.raw (.pointer none)) hget rfl rfl rfl ?_
    exact FinOb.mk [.int .i64 6] [Bs n T, Vs T] rfl (fun h k => sat_pick 0 rfl (by first | exact fun _ k => k | exact fun _ k => blk_to rfl rfl k | exact fun _ k => vec_to rfl k | exact fun _ k => blk_of rfl rfl k | exact fun _ k => vec_of rfl k | exact fun _ k => blk_of rfl rfl (blk_to rfl rfl k) | exact fun _ k => vec_of rfl (vec_to rfl k) | exact fun _ k => mp_to rfl k | exact fun _ k => mp_of rfl k | exact fun _ k => mp_of rfl (mp_to rfl k)) (fun h k => sat_pick 0 rfl (by first | exact fun _ k => k | exact fun _ k => blk_to rfl rfl k | exact fun _ k => vec_to rfl k | exact fun _ k => blk_of rfl rfl k | exact fun _ k => vec_of rfl k | exact fun _ k => blk_of rfl rfl (blk_to rfl rfl k) | exact fun _ k => vec_of rfl (vec_to rfl k) | exact fun _ k => mp_to rfl k | exact fun _ k => mp_of rfl k | exact fun _ k => mp_of rfl (mp_to rfl k)) (fun h k => sat_nil k) k) k) ⟨6, T, n, rfl, .none hno, hj, rfl⟩
  | some m =>
    rw [kidP_at e] at hget
    obtain ⟨hm, hmx, hmk⟩ := nodeAt_some e
    have hx : m.x = net ∧ (m.k : Int) = bits := ⟨hmx, by rw [hkb, hmk]⟩
    have hup := hi.ord m hm
    have hml := hj.few m hm
    have hc0 : ∀ h, Bs n T h → fcell h m.b (0 + 0) = some (.slice (locAddr 0 m.pl) m.ws.length m.cap) := fun h kh => bs_cell hm (j := 0) rfl h kh
    refine useA [] [_] (.raw (.pointer (some ⟨m.b, 0, none⟩))) hget rfl rfl rfl ?_
    refine RdRaw.told (.raw (.slice (locAddr 0 m.pl) m.ws.length m.cap)) _ rfl (fun h hh => sat_cell 0 rfl hc0 hh) ?_
    refine call_ix (bs_spec (locAddr 0 m.pl) m.cap m.ws ⟨0, 0, 0, 0, cost⟩ hup (by omega)) rfl [] (fun h k => k) (fun f' b' hs kb => vs_reads 1 hs kb rfl hm) ?_
    rintro v post ⟨j, rfl, hbs, rfl⟩
    have hbs : BsR m.ws cost j := hbs
    refine ⟨.tuple [.int .i64 j, .bool (foundB m.ws cost j)], _, 0, [], NmExt.refl _, rfl, fun h k => trivial, ?_⟩
    refine CondOb.split (fun g => ?_) (fun g => ?_)
    · have g : foundB m.ws cost j = false := by simpa using g
      have hno : ∀ y, WM T y → hit net bits cost y = false := fun y hy => found_none (x := ⟨net, bits, 0, 0, cost⟩) hi hm hx hbs g y hy
      exact FinOb.mk [.int .i64 6] [Bs n T, Vs T] rfl (fun h k => sat_pick 0 rfl (by first | exact fun _ k => k | exact fun _ k => blk_to rfl rfl k | exact fun _ k => vec_to rfl k | exact fun _ k => blk_of rfl rfl k | exact fun _ k => vec_of rfl k | exact fun _ k => blk_of rfl rfl (blk_to rfl rfl k) | exact fun _ k => vec_of rfl (vec_to rfl k) | exact fun _ k => mp_to rfl k | exact fun _ k => mp_of rfl k | exact fun _ k => mp_of rfl (mp_to rfl k)) (fun h k => sat_pick 0 rfl (by first | exact fun _ k => k | exact fun _ k => blk_to rfl rfl k | exact fun _ k => vec_to rfl k | exact fun _ k => blk_of rfl rfl k | exact fun _ k => vec_of rfl k | exact fun _ k => blk_of rfl rfl (blk_to rfl rfl k) | exact fun _ k => vec_of rfl (vec_to rfl k) | exact fun _ k => mp_to rfl k | exact fun _ k => mp_of rfl k | exact fun _ k => mp_of rfl (mp_to rfl k)) (fun h k => sat_nil k) k) k) ⟨6, T, n, rfl, .none hno, hj, rfl⟩
    have g : foundB m.ws cost j = true := by simpa using g
    have hjl : j < m.ws.length := by
      obtain ⟨y, hy, _⟩ := bs_hit g
      exact (List.getElem?_eq_some_iff.1 hy).1
    obtain ⟨i, hil, hie⟩ := List.getElem_of_mem hm
    have hix : T[i]? = some m := by rw [List.getElem?_eq_getElem hil, hie]
    obtain ⟨hd1, hd2, hd3⟩ := del_del hj hix hx g
    have ej : IntKind.i64.wrap ((j : Int) + 1) = (j : Int) + 1 := w64 (by omega) (by omega)
    refine RdRaw.told (.raw (.slice (locAddr 0 m.pl) m.ws.length m.cap)) _ rfl (fun h hh => sat_cell 0 rfl hc0 hh) ?_
    refine call_ix (deleteT hix j hjl (by omega) (hi.cap m hm) _ ej) rfl [1] (fun h k => sat_pick 1 rfl (by first | exact fun _ k => k | exact fun _ k => blk_to rfl rfl k | exact fun _ k => vec_to rfl k | exact fun _ k => blk_of rfl rfl k | exact fun _ k => vec_of rfl k | exact fun _ k => blk_of rfl rfl (blk_to rfl rfl k) | exact fun _ k => vec_of rfl (vec_to rfl k) | exact fun _ k => mp_to rfl k | exact fun _ k => mp_of rfl k | exact fun _ k => mp_of rfl (mp_to rfl k)) (fun h k => sat_pick 0 rfl (by first | exact fun _ k => k | exact fun _ k => blk_to rfl rfl k | exact fun _ k => vec_to rfl k | exact fun _ k => blk_of rfl rfl k | exact fun _ k => vec_of rfl k | exact fun _ k => blk_of rfl rfl (blk_to rfl rfl k) | exact fun _ k => vec_of rfl (vec_to rfl k) | exact fun _ k => mp_to rfl k | exact fun _ k => mp_of rfl k | exact fun _ k => mp_of rfl (mp_to rfl k)) (fun h k => sat_nil k) k) k) (fun _ _ _ _ => trivial) ?_
    rintro v post ⟨rfl, rfl⟩
    refine ⟨.raw (.slice (locAddr 0 m.pl) (m.ws.eraseIdx j).length m.cap), _, 0, [.asn (Vs (T.set i (m.turn m.pl m.cap (m.ws.eraseIdx j))))], NmExt.refl _, rfl, (fun h k => sat_pick 0 rfl (by first | exact fun _ k => k | exact fun _ k => blk_to rfl rfl k | exact fun _ k => vec_to rfl k | exact fun _ k => blk_of rfl rfl k | exact fun _ k => vec_of rfl k | exact fun _ k => blk_of rfl rfl (blk_to rfl rfl k) | exact fun _ k => vec_of rfl (vec_to rfl k) | exact fun _ k => mp_to rfl k | exact fun _ k => mp_of rfl k | exact fun _ k => mp_of rfl (mp_to rfl k)) (fun h k => sat_nil k) k), ?_⟩
    refine StRaw.on 1 (Bs n (T.set i (m.turn m.pl m.cap (m.ws.eraseIdx j)))) [.slice (locAddr 0 m.pl) (m.ws.eraseIdx j).length m.cap] rfl rfl (fun y ky => ?_) ?_
    · exact bs_turn hix m.pl m.cap _ y ky
    generalize T.set i (m.turn m.pl m.cap (m.ws.eraseIdx j)) = T' at *
    refine RdRaw.told (.int .i64 n) _ rfl (fun h hh => sat_cell 1 rfl (fun x kx => bs_n hd2.ti x kx) hh) ?_
    have en : IntKind.i64.wrap ((n : Int) - 1) = ((n - 1 : Nat) : Int) := by have := hj.le; rw [w64 (by omega) (by omega)]; omega
    refine StRaw.on 1 (Bs ((n - 1 : Nat) : Int) T') [.int .i64 ((n - 1 : Nat) : Int)] (by rw [← en]; rfl) rfl (fun y ky => ?_) ?_
    · exact bs_count hd2.ti y ky
    exact FinOb.mk [.int .i64 0] [Bs ((n - 1 : Nat) : Int) T', Vs T'] rfl (fun h k => sat_pick 1 rfl (by first | exact fun _ k => k | exact fun _ k => blk_to rfl rfl k | exact fun _ k => vec_to rfl k | exact fun _ k => blk_of rfl rfl k | exact fun _ k => vec_of rfl k | exact fun _ k => blk_of rfl rfl (blk_to rfl rfl k) | exact fun _ k => vec_of rfl (vec_to rfl k) | exact fun _ k => mp_to rfl k | exact fun _ k => mp_of rfl k | exact fun _ k => mp_of rfl (mp_to rfl k)) (fun h k => sat_pick 0 rfl (by first | exact fun _ k => k | exact fun _ k => blk_to rfl rfl k | exact fun _ k => vec_to rfl k | exact fun _ k => blk_of rfl rfl k | exact fun _ k => vec_of rfl k | exact fun _ k => blk_of rfl rfl (blk_to rfl rfl k) | exact fun _ k => vec_of rfl (vec_to rfl k) | exact fun _ k => mp_to rfl k | exact fun _ k => mp_of rfl k | exact fun _ k => mp_of rfl (mp_to rfl k)) (fun h k => sat_nil k) k) k) ⟨0, T', n - 1, rfl, hd1, hd2, rfl⟩
end Go.Proofs.Ytjppphldiaonkaa.Rt
