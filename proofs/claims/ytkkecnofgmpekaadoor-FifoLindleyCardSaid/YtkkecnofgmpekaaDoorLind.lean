/- The law FifoLindley returns true, whatever its arguments, and changes nothing that was there. Condition: the sentinels lie in their variables. -/
import Derived.Test.YtkkecnofgmpekaaDoorSends
namespace Go.Proofs.YtkkecnofgmpekaaDoor
open Go.RowKit
set_option maxRecDepth 100000

theorem lindL_get (per : Int) (p : List Pk) (to : Int) (k i : Nat) (hi : i < p.length) (h : i < (lindL per to k p).length) :
    ∃ to', (lindL per to k p).drop i = lindL per to' (k + i) (p.drop i) := by
  induction i generalizing p to k with
  | zero => exact ⟨to, rfl⟩
  | succ i ih =>
    cases p with
    | nil => simp at hi
    | cons x r =>
      obtain ⟨to', e⟩ := ih r ((if to < x.a then x.a else to) + per * x.s) (k + 1) (by simpa using hi) (by simpa [lindL] using h)
      refine ⟨to', ?_⟩
      have e2 : k + 1 + i = k + (i + 1) := by omega
      rw [e2] at e
      exact e

theorem lind_top {per : Int} (h0 : 1 ≤ per) (h1 : per ≤ 1000) (p : List Pk) (hp : ∀ x ∈ p, okPk x) (to : Int) (k : Nat) (ht0 : 0 ≤ to) (ht1 : to ≤ 1099511627776 + 1500000 * k) :
    ∀ x ∈ lindL per to k p, 0 ≤ x.t ∧ x.t ≤ 1099511627776 + 1500000 * (k + p.length) := by
  induction p generalizing to k with
  | nil => simp [lindL]
  | cons y r ih =>
    obtain ⟨q1, q2, q3, q4, q5, q6⟩ := hp y List.mem_cons_self
    have m1 : 0 ≤ per * y.s := Int.mul_nonneg (by omega) (by omega)
    have m2 : per * y.s ≤ 1500000 := by
      have := Int.mul_le_mul h1 q4 (by omega) (by omega : (0:Int) ≤ 1000)
      omega
    have f0 : 0 ≤ (if to < y.a then y.a else to) := by split <;> omega
    have f1 : (if to < y.a then y.a else to) ≤ 1099511627776 + 1500000 * k := by split <;> omega
    have ih' := ih (fun z hz => hp z (List.mem_cons_of_mem _ hz)) ((if to < y.a then y.a else to) + per * y.s) (k + 1) (by omega) (by omega)
    intro x hx
    unfold lindL at hx
    rcases List.mem_cons.1 hx with rfl | hx
    · simp only [List.length_cons]; omega
    · have := ih' x hx
      simp only [List.length_cons]
      omega

set_option maxHeartbeats 2000000 in
theorem lind_main (A : Option Addr) (c : Nat) (p : List Pk) (per : Int) (S : Nat → Addr) (w : World) (h : RdP w w.heap.size A p) (hS : Snt w w.heap.size S [2, 5]) (hl : p.length ≤ 9223372036854775807) (hfit : fitB p.length 100 = true) (hok : (lookErr p per).1 = 0) :
    Calls Tryd.prog 3 #[.slice A p.length c, .int .i64 per] w fun e w' => e = .returned (.bool true) ∧ Below w.heap.size w w' := by
  obtain ⟨hf, h300, hpk, h0, h1⟩ := lookErr_ok hok
  have Hok := Lib.hid hok
  have hlen : (fifoL p per).length = p.length := by rw [fifoL_eq hpk h0 h1, lindL_len]
  have Hlin := Lib.hid (fifoL_eq hpk h0 h1)
  have Hlen := Lib.hid hlen
  have Hfit := Lib.hid hfit
  clear hf hok hlen hfit
  go_enter Tryd.func3, Tryd.ntmps3
  go_wp2_with fail
  refine (sends_any S w _ (Nat.le_refl _) hS).mono ?_
  rintro e w1 ⟨rfl, k1⟩
  go_wp2_with fail
  refine (fit_any A c p.length 100 _ hl).mono ?_
  rintro e w2 ⟨rfl, rfl⟩
  rw [Hfit.out]
  go_wp2_with fail
  refine (ownPackets_any A c p w1 _ (h.below k1) (by omega)).mono ?_
  rintro e w2 ⟨A1, c1, rfl, o1, k2⟩
  have r1 := RdP.of_own o1
  have k2' := k1.trans (k2.mono k1.size)
  go_wp2_with fail
  refine (fifoRun_ok A1 c1 p per S w2 _ (Nat.le_refl _) r1 ((hS.below k2').more k2'.size) hl Hok.out).mono ?_
  rintro e w3 ⟨A2, c2, v, rfl, o3, hv, k3⟩
  obtain rfl := hv.nil_of Hok.out
  have r3 := RdS.of_own o3
  have k3' := k2'.trans (k3.mono k2'.size)
  rw [Hlen.out]
  go_wp2_with fail
  obtain ⟨l, hl'⟩ : ∃ l, l = fifoL p per := ⟨_, rfl⟩
  rw [← hl'] at r3
  have Hl := Lib.hid hl'
  have hll : l.length = p.length := by rw [hl']; exact Hlen.out
  have Hll := Lib.hid hll
  clear hl' hll
  go_loopw [8, 9] (fun to i wr => ∃ (k : Nat) (m : Int), k ≤ p.length ∧ i = .int .i64 k ∧ to = .int .i64 m ∧ 0 ≤ m ∧ m ≤ 1099511627776 + 1500000 * k ∧ l.drop k = lindL per m k (p.drop k) ∧ Below w3.heap.size w3 wr) (fun _ i _ => p.length - (intOf i).toNat)
  case atStart => exact ⟨0, 0, Nat.zero_le _, rfl, rfl, by omega, by omega, by rw [Hl.out, Hlin.out]; rfl, Below.refl _ _⟩
  case round =>
    obtain ⟨k, m, hk, rfl, rfl, hm0, hm1, hdr, hbw⟩ := hrel
    by_cases hlt : k < p.length
    · have hlt2 : k < l.length := by rw [Hll.out]; exact hlt
      obtain ⟨b, o, rfl, hb, d0, d1, d2⟩ := RdP.get (h.below (k3'.trans (hbw.mono k3'.size))) hlt
      obtain ⟨b', o', rfl, hb', l0, l1, l2⟩ := RdS.get (r3.below hbw) hlt2
      have hd1 : l.drop k = l[k] :: l.drop (k + 1) := List.drop_eq_getElem_cons hlt2
      have hd2 : p.drop k = p[k] :: p.drop (k + 1) := List.drop_eq_getElem_cons hlt
      obtain ⟨q1, q2, q3, q4, q5, q6⟩ := hpk _ (List.getElem_mem hlt)
      have m1 : 0 ≤ per * p[k].s := Int.mul_nonneg (by omega) (by omega)
      have m2 : per * p[k].s ≤ 1500000 := by
        have := Int.mul_le_mul h1 q4 (by omega) (by omega : (0:Int) ≤ 1000)
        omega
      by_cases hc : m < p[k].a
      · have Hs := Lib.hid (show l[k] = ⟨k, p[k].a, p[k].a + per * p[k].s⟩ ∧ l.drop (k + 1) = lindL per (p[k].a + per * p[k].s) (k + 1) (p.drop (k + 1)) by rw [hd1, hd2] at hdr; simp only [lindL] at hdr; rw [if_pos hc] at hdr; injection hdr with e1 e2; exact ⟨e1, e2⟩)
        have e0 := congrArg Sn.p Hs.out.1
        have e1 := congrArg Sn.f Hs.out.1
        have e2 := congrArg Sn.t Hs.out.1
        simp only at e0 e1 e2
        rw [e0] at l0
        rw [e1] at l1
        rw [e2] at l2
        clear hdr hd1 hd2 e0 e1 e2
        go_wp2_with fail
        go_quiet (fail)
        go_wp2
        go_roundw
        case rel => exact ⟨k + 1, _, by omega, by go_num, rfl, by omega, by simp only [Int.natCast_add]; omega, Hs.out.2, below_drewN hbw _⟩
        case measure => simp [intOf]; omega
      · have Hs := Lib.hid (show l[k] = ⟨k, m, m + per * p[k].s⟩ ∧ l.drop (k + 1) = lindL per (m + per * p[k].s) (k + 1) (p.drop (k + 1)) by rw [hd1, hd2] at hdr; simp only [lindL] at hdr; rw [if_neg hc] at hdr; injection hdr with e1 e2; exact ⟨e1, e2⟩)
        have e0 := congrArg Sn.p Hs.out.1
        have e1 := congrArg Sn.f Hs.out.1
        have e2 := congrArg Sn.t Hs.out.1
        simp only at e0 e1 e2
        rw [e0] at l0
        rw [e1] at l1
        rw [e2] at l2
        clear hdr hd1 hd2 e0 e1 e2
        have hc2 : p[k].a ≤ m := by omega
        clear hc
        go_wp2_with fail
        go_quiet (fail)
        go_wp2
        go_roundw
        case rel => exact ⟨k + 1, _, by omega, by go_num, rfl, by omega, by simp only [Int.natCast_add]; omega, Hs.out.2, below_drewN hbw _⟩
        case measure => simp [intOf]; omega
    · clear hdr
      go_wp2
      go_ret
      exact ⟨rfl, k3'.trans (hbw.mono k3'.size)⟩

set_option maxHeartbeats 400000 in
theorem lind_early (A : Option Addr) (c : Nat) (p : List Pk) (per : Int) (S : Nat → Addr) (w : World) (hS : Snt w w.heap.size S [2, 5]) (hl : p.length ≤ 9223372036854775807) (hfit : fitB p.length 100 = false) :
    Calls Tryd.prog 3 #[.slice A p.length c, .int .i64 per] w fun e w' => e = .returned (.bool true) ∧ Below w.heap.size w w' := by
  have Hfit := Lib.hid hfit
  clear hfit
  go_enter Tryd.func3, Tryd.ntmps3
  go_wp2_with fail
  refine (sends_any S w _ (Nat.le_refl _) hS).mono ?_
  rintro e w1 ⟨rfl, k1⟩
  go_wp2_with fail
  refine (fit_any A c p.length 100 _ hl).mono ?_
  rintro e w2 ⟨rfl, rfl⟩
  rw [Hfit.out]
  go_wp2_with fail
  go_ret
  exact ⟨rfl, k1⟩

set_option maxHeartbeats 400000 in
theorem lind_bad (A : Option Addr) (c : Nat) (p : List Pk) (per : Int) (S : Nat → Addr) (w : World) (h : RdP w w.heap.size A p) (hS : Snt w w.heap.size S [2, 5]) (hl : p.length ≤ 9223372036854775807) (hfit : fitB p.length 100 = true) (hok : (lookErr p per).1 ≠ 0) :
    Calls Tryd.prog 3 #[.slice A p.length c, .int .i64 per] w fun e w' => e = .returned (.bool true) ∧ Below w.heap.size w w' := by
  have hle : p.length ≤ 301 := by have := of_decide_eq_true hfit; omega
  have Hok := Lib.hid hok
  have Hfit := Lib.hid hfit
  clear hok hfit
  go_enter Tryd.func3, Tryd.ntmps3
  go_wp2_with fail
  refine (sends_any S w _ (Nat.le_refl _) hS).mono ?_
  rintro e w1 ⟨rfl, k1⟩
  go_wp2_with fail
  refine (fit_any A c p.length 100 _ hl).mono ?_
  rintro e w2 ⟨rfl, rfl⟩
  rw [Hfit.out]
  go_wp2_with fail
  refine (ownPackets_any A c p w1 _ (h.below k1) (by omega)).mono ?_
  rintro e w2 ⟨A1, c1, rfl, o1, k2⟩
  have r1 := RdP.of_own o1
  have k2' := k1.trans (k2.mono k1.size)
  go_wp2_with fail
  refine (fifoRun_bad A1 c1 p per S w2 _ (Nat.le_refl _) r1 ((hS.below k2').more k2'.size) hl Hok.out).mono ?_
  rintro e w3 ⟨A2, c2, v, rfl, o3, hv, k3⟩
  obtain ⟨T, a, rfl⟩ := hv.some_of Hok.out
  have k3' := k2'.trans (k3.mono k2'.size)
  go_wp2_with fail
  go_ret
  exact ⟨rfl, k3'⟩

theorem lind_any (A : Option Addr) (c : Nat) (p : List Pk) (per : Int) (S : Nat → Addr) (w : World) (h : RdP w w.heap.size A p) (hS : Snt w w.heap.size S [2, 5]) (hl : p.length ≤ 9223372036854775807) :
    Calls Tryd.prog 3 #[.slice A p.length c, .int .i64 per] w fun e w' => e = .returned (.bool true) ∧ Below w.heap.size w w' := by
  cases hfit : fitB p.length 100
  · exact lind_early A c p per S w hS hl hfit
  · by_cases hok : (lookErr p per).1 = 0
    · exact lind_main A c p per S w h hS hl hfit hok
    · exact lind_bad A c p per S w h hS hl hfit hok
end Go.Proofs.YtkkecnofgmpekaaDoor
