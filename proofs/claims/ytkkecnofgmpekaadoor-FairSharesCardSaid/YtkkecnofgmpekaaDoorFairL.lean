/- The law FairShares returns true, whatever its arguments, and changes nothing that was there. Condition: the nine sentinels lie in their variables, apart. -/
import Derived.Test.YtkkecnofgmpekaaDoorSpread
import Derived.Test.YtkkecnofgmpekaaDoorFairC
import Derived.Test.YtkkecnofgmpekaaDoorShares
import Derived.KernelRfl
namespace Go.Proofs.YtkkecnofgmpekaaDoor
open Go.RowKit
set_option maxRecDepth 100000
def gp0 : List Pk := [⟨0, 10, 0⟩, ⟨0, 10, 0⟩]
def gw0 : List Int := [2, 1, 1, 1, 1, 1, 1, 1]
theorem ftagged_any (S : Nat → Addr) (w : World) (B : Nat) (hB : B ≤ w.heap.size) (hS : Snt w B S [2, 3, 5]) :
    Calls Tryd.prog 26 #[] w fun e w' => e = .returned (.bool true) ∧ Below w.heap.size w w' := by
  have He := Lib.hid (show (fairErr gp0 1 gw0).1 = 0 by decide)
  have Hl := Lib.hid (show tagV gp0 1 gw0 = [60, 120] by decide)
  obtain ⟨wa, hwa⟩ : ∃ wa : World, wa = (w.alloc (.cells #[.int .i64 0, .int .i64 10, .int .i64 0, .int .i64 0, .int .i64 10, .int .i64 0] 32)).alloc (.cells #[.int .i64 2, .int .i64 1, .int .i64 1, .int .i64 1, .int .i64 1, .int .i64 1, .int .i64 1, .int .i64 1] 3) := ⟨_, rfl⟩
  have ba : Below w.heap.size w wa := by rw [hwa]; exact ((Below.refl _ _).alloc (Nat.le_refl _) _).alloc (by simp) _
  have sa : wa.heap.size = w.heap.size + 2 := by rw [hwa]; simp
  have hp : RdP wa (w.heap.size + 2) (some ⟨w.heap.size, 0, none⟩) gp0 := by
    refine Rd.of_block (cs := #[.int .i64 0, .int .i64 10, .int .i64 0, .int .i64 0, .int .i64 10, .int .i64 0]) (T := 32) (z := (0, 0)) ?_ rfl (by omega) (by omega) Pk.cs_len
    rw [hwa]
    exact (Blk.new _ _ _).alloc _
  have hq : RdI wa (w.heap.size + 2) (some ⟨w.heap.size + 1, 0, none⟩) gw0 := by
    refine Rd.of_block (cs := #[.int .i64 2, .int .i64 1, .int .i64 1, .int .i64 1, .int .i64 1, .int .i64 1, .int .i64 1, .int .i64 1]) (T := 3) (z := (0, 0)) ?_ rfl (by omega) (by omega) iCs_len
    rw [hwa]
    exact heap_alloc_new2 _ _ _
  have Hwa := Lib.hid hwa
  have Hsa := Lib.hid sa
  clear hwa sa
  go_enter Tryd.func26, Tryd.ntmps26
  go_wp2_with fail
  rw [← Hwa.out]
  refine (fairTags_any (some ⟨w.heap.size, 0, none⟩) (some ⟨w.heap.size + 1, 0, none⟩) 2 8 gp0 1 gw0 S wa (w.heap.size + 2) (by rw [Hsa.out]; exact Nat.le_refl _) hp hq ((hS.below (ba.mono hB)).more (by omega)) (by decide) (by decide)).mono ?_
  rintro e w1 ⟨A', c', v, rfl, rd, hv, hb1⟩
  obtain rfl := hv.nil_of He.out
  rw [Hl.out] at rd ⊢
  have sab : w.heap.size ≤ wa.heap.size := ba.size
  have k1 : Below w.heap.size w w1 := ba.trans (hb1.mono sab)
  have rn : RdI (w1.alloc (.cells #[.int .i64 60, .int .i64 120] 3)) (w1.heap.size + 1) (some ⟨w1.heap.size, 0, none⟩) [60, 120] := Rd.new_ rfl (by omega) iCs_len
  have Hrn := Lib.hid rn
  have Hrd := Lib.hid rd
  have K1 := Lib.hid k1
  clear rn rd hv hb1 k1 sab
  go_wp2_with fail
  refine (sameI_any A' (some ⟨w1.heap.size, 0, none⟩) c' 2 [60, 120] [60, 120] (w1.alloc (.cells #[.int .i64 60, .int .i64 120] 3)) (w1.heap.size + 1) ((Hrd.out.below ((Below.refl _ _).alloc (Nat.le_refl _) _)).more (Nat.le_succ _)) Hrn.out (by decide) (by decide)).mono ?_
  rintro e w2 ⟨rfl, nq, rfl⟩
  go_wp2_with fail
  go_ret
  exact ⟨rfl, below_drewN (K1.out.alloc K1.out.size _) nq⟩
/-- The greatest size of a flow's packets. -/
def szF (a : Nat) : Int → List Pk → Int
  | m, [] => m
  | m, x :: r => szF a (if x.f = (a : Int) ∧ m < x.s then x.s else m) r
theorem szF_ge (a : Nat) (r : List Pk) (m : Int) : m ≤ szF a m r ∧ ∀ x ∈ r, x.f = (a : Int) → x.s ≤ szF a m r := by
  induction r generalizing m with
  | nil => exact ⟨Int.le_refl _, by simp⟩
  | cons y r ih =>
    obtain ⟨h1, h2⟩ := ih (if y.f = (a : Int) ∧ m < y.s then y.s else m)
    have h3 : szF a m (y :: r) = szF a (if y.f = (a : Int) ∧ m < y.s then y.s else m) r := rfl
    rw [h3]
    have h4 : m ≤ (if y.f = (a : Int) ∧ m < y.s then y.s else m) ∧ (y.f = (a : Int) → y.s ≤ (if y.f = (a : Int) ∧ m < y.s then y.s else m)) := by split <;> omega
    refine ⟨by omega, fun x hx hf => ?_⟩
    rcases List.mem_cons.1 hx with rfl | hx
    · have := h4.2 hf; omega
    · exact h2 x hx hf
theorem szF_le (a : Nat) (r : List Pk) (m b : Int) (hm : m ≤ b) (h : ∀ x ∈ r, x.s ≤ b) : szF a m r ≤ b := by
  induction r generalizing m with
  | nil => exact hm
  | cons y r ih =>
    have h3 : szF a m (y :: r) = szF a (if y.f = (a : Int) ∧ m < y.s then y.s else m) r := rfl
    rw [h3]
    refine ih _ ?_ fun x hx => h x (List.mem_cons_of_mem _ hx)
    have := h y List.mem_cons_self
    split <;> omega
theorem qIdx_of {l : List Int} (h : ∀ n ∈ l, 1 ≤ n ∧ n ≤ 12 ∧ n ∣ 12) (k : Nat) : qIdx l k = -1 := by
  induction l generalizing k with
  | nil => rfl
  | cons x r ih =>
    obtain ⟨h1, h2, _⟩ := h x List.mem_cons_self
    have h3 : outQ x = false := decide_eq_false (by omega)
    unfold qIdx
    rw [h3]
    exact ih (fun n hn => h n (List.mem_cons_of_mem _ hn)) (k + 1)
structure FSh (p : List Pk) (per : Int) (ws : List Int) (a b : Nat) (m : List Sn) : Prop where
  pe : (pktErr p).1 = 0
  qe : quErr ws = 0
  ll : m.length = p.length
  lt : ∀ x ∈ m, tame50 x.t
  le : (delErr p.length m).1 = 0
  a0 : 0 ≤ szF a 0 p
  a1 : szF a 0 p ≤ 1500
  b0 : 0 ≤ szF b 0 p
  b1 : szF b 0 p ≤ 1500
  spr : sprL p (qu ws a) (qu ws b) a b m ≤ szF a 0 p * qu ws b + szF b 0 p * qu ws a
  q1 : 1 ≤ qu ws a ∧ qu ws a ≤ 12
  q2 : 1 ≤ qu ws b ∧ qu ws b ≤ 12
  pk : ∀ x ∈ m, 0 ≤ x.p ∧ x.p.toNat < p.length
  up : ∀ i (h : i + 1 < m.length), m[i + 1].f = m[i].t → fairT p per ws m[i].p.toNat ≤ fairT p per ws m[i + 1].p.toNat
theorem fshares_plain {p : List Pk} {per : Int} {ws : List Int} (he : (fairErr p per ws).1 = 0) (a b : Nat) (ha : a < 8) (hb : b < 8) : FSh p per ws a b (fairL p per ws) := by
  obtain ⟨e1, e2, h8, ho, e3⟩ := fairErr_ok he
  obtain ⟨hf, h300, hpk, h0, h1⟩ := lookErr_ok e1
  have hs := lookErr_sorted e1
  have hwi := weIdx_none ho
  have hw := wOk_of h8 hwi
  have hq := qu_12 h8 hwi
  have hM := fairOk (p := p) (ws := ws) hpk hw
  obtain ⟨t1, t2⟩ := srv_top (per := per) hM hpk h0 h1 (s0 := fs0) rfl (fs0_ok p ws)
  obtain ⟨f1, f2, f3, f4⟩ := srv_perm hM hpk h0 h1 (s0 := fs0) rfl (fs0_ok p ws)
  have hpe : (pktErr p).1 = 0 := by
    unfold lookErr at e1
    by_cases h9 : (pktErr p).1 ≠ 0
    · rw [if_pos h9] at e1; exact e1
    · omega
  have hsz : ∀ x ∈ p, x.s ≤ 1500 := fun x hx => (hpk x hx).2.2.2.1
  have hX : ∀ c j, j < p.length → flN p j = c → sOf p j ≤ szF c 0 p := fun c j hj hc => by
    rw [sOf_of hj]
    refine (szF_ge c p 0).2 _ (List.getElem_mem hj) ?_
    have := hpk _ (List.getElem_mem hj)
    unfold flN at hc
    rw [fOf_of hj] at hc
    have := this.1
    omega
  refine { pe := hpe, qe := ?_, ll := f1, lt := fun x hx => ?_, le := ?_, a0 := (szF_ge a p 0).1, a1 := szF_le a p 0 1500 (by omega) hsz, b0 := (szF_ge b p 0).1, b1 := szF_le b p 0 1500 (by omega) hsz, spr := fair_shares hpk hs h0 h1 hw ha hb (hX a) (hX b) (szF_ge a p 0).1 (szF_ge b p 0).1, q1 := hq a ha, q2 := hq b hb, pk := fun x hx => ⟨f2 x hx, f3 x hx⟩, up := fun i hi he => fair_rises hpk hs h0 h1 hw i hi he }
  · unfold quErr
    rw [if_pos h8, qIdx_of hwi]
    rfl
  · have := t1 x hx
    unfold tame50
    omega
  · have t2' : ∀ x ∈ fairL p per ws, 0 ≤ x.p ∧ x.p.toNat < p.length := t2
    unfold delErr
    rw [if_pos (sentBad_none t2' 0)]
theorem tagL_get {p : List Pk} {per : Int} {ws : List Int} {k : Nat} (h : k < (tagL p per ws).length) : (tagL p per ws)[k] = fairT p per ws k := by simp [tagL]
set_option maxHeartbeats 4000000 in
theorem fshares_main (A A' : Option Addr) (c c' a b : Nat) (p : List Pk) (per : Int) (ws : List Int) (S : Nat → Addr) (w : World) (h : RdP w w.heap.size A p) (h' : RdI w w.heap.size A' ws) (hS : Snt w w.heap.size S [2, 3, 4, 5]) (hfit : fitB p.length 120 = true) (ha : a < 8) (hb : b < 8) (hl' : ws.length ≤ 9223372036854775807) :
    Calls Tryd.prog 7 #[.slice A p.length c, .int .i64 per, .slice A' ws.length c', .int .i64 (a : Int), .int .i64 (b : Int)] w fun e w' => e = .returned (.bool true) ∧ Below w.heap.size w w' := by
  have hle : p.length ≤ 301 := by have := of_decide_eq_true hfit; omega
  have hl : p.length ≤ 9223372036854775807 := by omega
  have Hfit := Lib.hid hfit
  have q1 : ¬ (a : Int) < 0 := by omega
  have q2 : ¬ (8 : Int) ≤ (a : Int) := by omega
  have q3 : ¬ (b : Int) < 0 := by omega
  have q4 : ¬ (8 : Int) ≤ (b : Int) := by omega
  clear hfit
  go_enter Tryd.func7, Tryd.ntmps7
  go_wp2_with fail
  refine (ftagged_any S w _ (Nat.le_refl _) (hS.sub (by simp))).mono ?_
  rintro e w1 ⟨rfl, k1⟩
  go_wp2_with fail
  refine (fit_any A c p.length 120 _ hl).mono ?_
  rintro e wx ⟨rfl, rfl⟩
  rw [Hfit.out]
  go_wp2_with fail
  refine (ownPackets_any A c p w1 _ (h.below k1) (by omega)).mono ?_
  rintro e w2 ⟨A2, c2, rfl, o2, k2⟩
  have r2 := RdP.of_own o2
  have k2' := k1.trans (k2.mono k1.size)
  have z2 := k2'.size
  clear o2
  go_wp2_with fail
  refine (fairRun_any A2 A' c2 c' p per ws S w2 w2.heap.size (Nat.le_refl _) r2 ((h'.below k2').more z2) (((hS.below k2').more z2).sub (by simp)) hl hl').mono ?_
  rintro e w3 ⟨A3, c3, v3, rfl, row3, hv3, k3⟩
  have k3' := k2'.trans (k3.mono z2)
  have z3 := k3'.size
  go_wp2_with fail
  refine (ownPackets_any A c p w3 _ (h.below k3') (by omega)).mono ?_
  rintro e w4 ⟨A4, c4, rfl, o4, k4⟩
  have r4 := RdP.of_own o4
  have k4' := k3'.trans (k4.mono z3)
  have z4 := k4'.size
  clear o4
  go_wp2_with fail
  refine (fairTags_any A4 A' c4 c' p per ws S w4 w4.heap.size (Nat.le_refl _) r4 ((h'.below k4').more z4) (((hS.below k4').more z4).sub (by simp)) hl hl').mono ?_
  rintro e w5 ⟨A5, c5, v5, rfl, rd5, hv5, k5⟩
  have k5' := k4'.trans (k5.mono z4)
  have z5 := k5'.size
  by_cases he : (fairErr p per ws).1 = 0
  · have sh := fshares_plain he a b ha hb
    have fe := (fairErr_ok he).2.2.2.2
    have h8 := (fairErr_ok he).2.2.1
    have hl9 : p.length ≤ 300 := (lookErr_ok (fairErr_ok he).1).2.1
    obtain rfl := hv3.nil_of he
    obtain rfl := hv5.nil_of he
    have ev : fairV p per ws = fairL p per ws := if_pos he
    have et : tagV p per ws = tagL p per ws := if_pos he
    rw [ev] at row3 ⊢
    rw [et] at rd5 ⊢
    obtain ⟨m, hm⟩ : ∃ m, m = fairL p per ws := ⟨_, rfl⟩
    rw [← hm] at row3 sh ⊢
    obtain ⟨tl, htl⟩ : ∃ tl, tl = tagL p per ws := ⟨_, rfl⟩
    have tln : tl.length = p.length := by rw [htl]; exact tagL_len _ _ _
    have tlg : ∀ (k : Nat) (h : k < tl.length), tl[k] = fairT p per ws k := fun k h => by subst htl; exact tagL_get h
    rw [← htl] at rd5 ⊢
    have r3 := RdS.of_own row3
    have hml : m.length ≤ 1000 := by rw [sh.ll]; omega
    have SH := Lib.hid sh
    have H8 := Lib.hid h8
    have TLN := Lib.hid tln
    have TLG := Lib.hid tlg
    have R5 := Lib.hid rd5
    have R3 := Lib.hid ((r3.below k4).more k4.size)
    have R35 := Lib.hid (((r3.below k4).more k4.size).below k5)
    clear sh fe h8 ev et hm htl tln tlg rd5 r3 row3 he hv3 hv5
    go_wp2_with fail
    go_loopw [16] (fun i wr => ∃ k : Nat, 1 ≤ k ∧ k ≤ m.length + 1 ∧ i = .int .i64 k ∧ Below w5.heap.size w5 wr) (fun i _ => m.length + 1 - (intOf i).toNat)
    case atStart => exact ⟨1, Nat.le_refl _, by omega, rfl, Below.refl _ _⟩
    case round =>
      obtain ⟨k, hk1, hk2, rfl, kb⟩ := hrel
      by_cases hlt : k < m.length
      · obtain ⟨j, hkj⟩ : ∃ j, k = j + 1 := ⟨k - 1, by omega⟩
        have hlt' : j + 1 < m.length := by omega
        have hkm : m[k] = m[j + 1] := by subst hkj; rfl
        obtain ⟨qs, os, rfl, hqs, d0, d1, d2⟩ := RdS.get ((R35.out.more k5.size).below kb) hlt
        obtain ⟨qs2, os2, e2, hqs2, g0, g1, g2⟩ := RdS.get ((R35.out.more k5.size).below kb) (show j < m.length by omega)
        simp only [Option.some.injEq, Addr.mk.injEq, and_true] at e2
        obtain ⟨rfl, rfl⟩ := e2
        have up := SH.out.up j hlt'
        obtain ⟨pn1, pl1⟩ := SH.out.pk _ (List.getElem_mem hlt')
        obtain ⟨pn0, pl0⟩ := SH.out.pk _ (List.getElem_mem (show j < m.length by omega))
        obtain ⟨P1, hP1⟩ : ∃ P1 : Nat, m[j + 1].p = P1 := ⟨m[j + 1].p.toNat, by omega⟩
        obtain ⟨P0, hP0⟩ : ∃ P0 : Nat, m[j].p = P0 := ⟨m[j].p.toNat, by omega⟩
        rw [hkm] at d0 d1
        rw [hP1] at d0 pl1 up
        rw [hP0] at g0 pl0 up
        simp only [Int.toNat_natCast] at pl1 pl0 up
        have t1l : P1 < tl.length := by rw [TLN.out]; exact pl1
        have t0l : P0 < tl.length := by rw [TLN.out]; exact pl0
        obtain ⟨qt, ot, rfl, hqt, s1⟩ := RdI.get (R5.out.below kb) t1l
        obtain ⟨qt2, ot2, e2, hqt2, s0⟩ := RdI.get (R5.out.below kb) t0l
        simp only [Option.some.injEq, Addr.mk.injEq, and_true] at e2
        obtain ⟨rfl, rfl⟩ := e2
        rw [TLG.out] at s1 s0
        obtain ⟨T1, hT1⟩ : ∃ T1, T1 = fairT p per ws P1 := ⟨_, rfl⟩
        obtain ⟨T0, hT0⟩ : ∃ T0, T0 = fairT p per ws P0 := ⟨_, rfl⟩
        rw [← hT1] at s1 up
        rw [← hT0] at s0 up
        obtain ⟨f1, hf1⟩ : ∃ f1, f1 = m[j + 1].f := ⟨_, rfl⟩
        obtain ⟨t0, ht0⟩ : ∃ t0, t0 = m[j].t := ⟨_, rfl⟩
        rw [← hf1] at d1 up
        rw [← ht0] at g2 up
        obtain ⟨n, hn⟩ : ∃ n, n = m.length := ⟨_, rfl⟩
        have b1 : (k : Int) < (m.length : Int) := by omega
        have b0 : (j : Int) < (m.length : Int) := by omega
        have b2 : (0 : Int) ≤ (j : Int) := by omega
        have b3 : (0 : Int) ≤ (k : Int) := by omega
        have b4 : (P1 : Int) < (tl.length : Int) := by omega
        have b5 : (P0 : Int) < (tl.length : Int) := by omega
        have b6 : (0 : Int) ≤ (P1 : Int) := by omega
        have b7 : (0 : Int) ≤ (P0 : Int) := by omega
        have b8 : (k : Int) - 1 = (j : Int) := by omega
        clear hf1 ht0 hT1 hT0 hP1 hP0 hn pn1 pn0 d2 g1 hk1 hkm hkj hlt' hk2
        by_cases hc : f1 = t0
        · have up' := up hc
          subst hc
          have HC := Lib.hid (show decide (T1 < T0) = false from decide_eq_false (by omega))
          clear up up'
          by_cases hz : 0 < f1
          · go_wp2_with fail
            have c1 := HC.out
            go_quiet (fail)
            rename Nat => nq
            go_wp2_with fail
            go_roundw
            case rel => exact ⟨k + 1, by omega, by omega, by go_num, below_drewN kb nq⟩
            case measure => simp [intOf]; omega
          · have HZ := Lib.hid (show decide (0 < f1) = false from decide_eq_false hz)
            clear hz
            go_wp2_with fail
            have c1 := HZ.out
            go_quiet (fail)
            rename Nat => nq
            go_wp2_with fail
            go_roundw
            case rel => exact ⟨k + 1, by omega, by omega, by go_num, below_drewN kb nq⟩
            case measure => simp [intOf]; omega
        · have HE := Lib.hid (show (f1 == t0) = false from beq_eq_false_iff_ne.2 hc)
          clear up hc
          go_wp2_with fail
          have c1 := HE.out
          go_quiet (fail)
          rename Nat => nq
          go_wp2_with fail
          go_roundw
          case rel => exact ⟨k + 1, by omega, by omega, by go_num, below_drewN kb nq⟩
          case measure => simp [intOf]; omega
      · have kw := k5'.trans (kb.mono z5)
        have zw := kw.size
        have zb := kb.size
        have r3w := (R35.out.more k5.size).below kb
        have KW := Lib.hid kw
        clear hk1 hk2 kb
        go_wp2_with fail
        refine (ownPackets_any A c p wr _ (h.below KW.out) (by omega)).mono ?_
        rintro e w6 ⟨A6, c6, rfl, o6, k6⟩
        have r6 := RdP.of_own o6
        have k6' := KW.out.trans (k6.mono zw)
        have z6 := k6'.size
        have K6' := Lib.hid k6'
        clear o6 k6'
        go_wp2_with fail
        refine (ownSent_any A3 c3 m w6 _ (r3w.below (k6.mono zb)) (by omega)).mono ?_
        rintro e w7 ⟨A7, c7, rfl, o7, k7⟩
        have r7 := RdS.of_own o7
        have hc7 := own_cap o7
        have k7' := K6'.out.trans (k7.mono z6)
        have z7 := k7'.size
        have K7' := Lib.hid k7'
        clear o7 k7'
        go_wp2_with fail
        refine (spread_ok A6 A7 A' c6 c7 c' a b p m ws S w7 w7.heap.size (Nat.le_refl _) ((r6.below k7).more k7.size) r7 ((h'.below K7'.out).more z7) (((hS.below K7'.out).more z7).sub (by simp)) hl hml hl' hc7 SH.out.lt ha hb SH.out.qe SH.out.pe SH.out.le).mono ?_
        rintro e w8 ⟨v, rfl, hv, k8⟩
        obtain rfl := hv.nil_of rfl
        have k8' := K7'.out.trans (k8.mono z7)
        have hspr := SH.out.spr
        obtain ⟨n, hn⟩ : ∃ n, n = sprL p (qu ws a) (qu ws b) a b m := ⟨_, rfl⟩
        obtain ⟨qa, eqa⟩ : ∃ qa, qa = qu ws a := ⟨_, rfl⟩
        obtain ⟨qb, eqb⟩ : ∃ qb, qb = qu ws b := ⟨_, rfl⟩
        have qa1 := SH.out.q1
        have qb1 := SH.out.q2
        rw [← hn] at hspr ⊢
        rw [← eqa] at qa1 hspr
        rw [← eqb] at qb1 hspr
        have EQA := Lib.hid eqa
        have EQB := Lib.hid eqb
        have HSPR := Lib.hid hspr
        have K8' := Lib.hid k8'
        clear hn eqa eqb hv hspr k8' r3w r6 r7 hc7 k6 k7 k8
        go_wp2_with fail
        go_loopw [19, 20, 21] (fun x y i wr => ∃ (k : Nat) (M N : Int), k ≤ p.length ∧ i = .int .i64 k ∧ x = .int .i64 M ∧ y = .int .i64 N ∧ szF a 0 p = szF a M (p.drop k) ∧ szF b 0 p = szF b N (p.drop k) ∧ wr = w8) (fun _ _ i _ => p.length - (intOf i).toNat)
        case atStart => exact ⟨0, 0, 0, Nat.zero_le _, rfl, rfl, rfl, rfl, rfl, rfl⟩
        case round =>
          obtain ⟨k, M, N, hk, rfl, rfl, rfl, hg, hgb, rfl⟩ := hrel
          by_cases hlt : k < p.length
          · rw [List.drop_eq_getElem_cons hlt] at hg hgb
            obtain ⟨q, o, rfl, hq, d0, d1, d2⟩ := RdP.get (h.below K8'.out) hlt
            have Hg := Lib.hid hg
            have Hgb := Lib.hid hgb
            have j1 : (0 : Int) ≤ (k : Int) := by omega
            have j2 : (k : Int) < (p.length : Int) := by omega
            obtain ⟨fl, hfl⟩ : ∃ fl, fl = p[k].f := ⟨_, rfl⟩
            obtain ⟨z, hz⟩ : ∃ z, z = p[k].s := ⟨_, rfl⟩
            rw [← hfl] at d0
            rw [← hz] at d1
            have EA := Lib.hid (show szF a 0 p = szF a (if fl = (a : Int) ∧ M < z then z else M) (p.drop (k + 1)) by rw [hg, hfl, hz]; rfl)
            have EB := Lib.hid (show szF b 0 p = szF b (if fl = (b : Int) ∧ N < z then z else N) (p.drop (k + 1)) by rw [hgb, hfl, hz]; rfl)
            clear hg hgb hfl hz Hg Hgb d2 q1 q2 q3 q4
            by_cases hA : fl = (a : Int)
            · have eA : (fl == (a : Int)) = true := beq_iff_eq.2 hA
              have HA := Lib.hid hA; clear hA
              by_cases hM : M < z
              · skip
                by_cases hB : fl = (b : Int)
                · have eB : (fl == (b : Int)) = true := beq_iff_eq.2 hB
                  have HB := Lib.hid hB; clear hB
                  by_cases hN : N < z
                  · go_wp2_with fail
                    go_roundw
                    case rel => exact ⟨k + 1, z, z, hlt, by go_num, rfl, rfl, by rw [EA.out, if_pos ⟨HA.out, hM⟩], by rw [EB.out, if_pos ⟨HB.out, hN⟩], by trivial⟩
                    case measure => simp [intOf]; omega
                  · go_wp2_with fail
                    go_roundw
                    case rel => exact ⟨k + 1, z, N, hlt, by go_num, rfl, rfl, by rw [EA.out, if_pos ⟨HA.out, hM⟩], by rw [EB.out, if_neg (fun e => hN e.2)], by trivial⟩
                    case measure => simp [intOf]; omega
                · have eB : (fl == (b : Int)) = false := beq_eq_false_iff_ne.2 hB
                  have HB := Lib.hid hB; clear hB
                  · go_wp2_with fail
                    go_roundw
                    case rel => exact ⟨k + 1, z, N, hlt, by go_num, rfl, rfl, by rw [EA.out, if_pos ⟨HA.out, hM⟩], by rw [EB.out, if_neg (fun e => HB.out e.1)], by trivial⟩
                    case measure => simp [intOf]; omega
              · skip
                by_cases hB : fl = (b : Int)
                · have eB : (fl == (b : Int)) = true := beq_iff_eq.2 hB
                  have HB := Lib.hid hB; clear hB
                  by_cases hN : N < z
                  · go_wp2_with fail
                    go_roundw
                    case rel => exact ⟨k + 1, M, z, hlt, by go_num, rfl, rfl, by rw [EA.out, if_neg (fun e => hM e.2)], by rw [EB.out, if_pos ⟨HB.out, hN⟩], by trivial⟩
                    case measure => simp [intOf]; omega
                  · go_wp2_with fail
                    go_roundw
                    case rel => exact ⟨k + 1, M, N, hlt, by go_num, rfl, rfl, by rw [EA.out, if_neg (fun e => hM e.2)], by rw [EB.out, if_neg (fun e => hN e.2)], by trivial⟩
                    case measure => simp [intOf]; omega
                · have eB : (fl == (b : Int)) = false := beq_eq_false_iff_ne.2 hB
                  have HB := Lib.hid hB; clear hB
                  · go_wp2_with fail
                    go_roundw
                    case rel => exact ⟨k + 1, M, N, hlt, by go_num, rfl, rfl, by rw [EA.out, if_neg (fun e => hM e.2)], by rw [EB.out, if_neg (fun e => HB.out e.1)], by trivial⟩
                    case measure => simp [intOf]; omega
            · have eA : (fl == (a : Int)) = false := beq_eq_false_iff_ne.2 hA
              have HA := Lib.hid hA; clear hA
              by_cases hB : fl = (b : Int)
              · have eB : (fl == (b : Int)) = true := beq_iff_eq.2 hB
                have HB := Lib.hid hB; clear hB
                by_cases hN : N < z
                · go_wp2_with fail
                  go_roundw
                  case rel => exact ⟨k + 1, M, z, hlt, by go_num, rfl, rfl, by rw [EA.out, if_neg (fun e => HA.out e.1)], by rw [EB.out, if_pos ⟨HB.out, hN⟩], by trivial⟩
                  case measure => simp [intOf]; omega
                · go_wp2_with fail
                  go_roundw
                  case rel => exact ⟨k + 1, M, N, hlt, by go_num, rfl, rfl, by rw [EA.out, if_neg (fun e => HA.out e.1)], by rw [EB.out, if_neg (fun e => hN e.2)], by trivial⟩
                  case measure => simp [intOf]; omega
              · have eB : (fl == (b : Int)) = false := beq_eq_false_iff_ne.2 hB
                have HB := Lib.hid hB; clear hB
                · go_wp2_with fail
                  go_roundw
                  case rel => exact ⟨k + 1, M, N, hlt, by go_num, rfl, rfl, by rw [EA.out, if_neg (fun e => HA.out e.1)], by rw [EB.out, if_neg (fun e => HB.out e.1)], by trivial⟩
                  case measure => simp [intOf]; omega
          · rw [List.drop_eq_nil_of_le (by omega)] at hg hgb
            have hg' : szF a 0 p = M := hg
            have hgb' : szF b 0 p = N := hgb
            have hspr := HSPR.out
            have sM := SH.out.a0
            have sM1 := SH.out.a1
            have sN := SH.out.b0
            have sN1 := SH.out.b1
            rw [hg', hgb'] at hspr
            rw [hg'] at sM sM1
            rw [hgb'] at sN sN1
            obtain ⟨b2, o2, rfl, hb2, ga0⟩ := RdI.get (h'.below K8'.out) (show a < ws.length by rw [H8.out]; exact ha)
            have gb0 : wr.cell? ⟨b2, o2 + b, none⟩ = some (.int .i64 qb) := by
              obtain ⟨b3, o3, e3, _, e5⟩ := RdI.get (h'.below K8'.out) (show b < ws.length by rw [H8.out]; exact hb)
              simp only [Option.some.injEq, Addr.mk.injEq, and_true] at e3
              obtain ⟨rfl, rfl⟩ := e3
              rw [e5, EQB.out]
              unfold qu
              simp [List.getD, show b < ws.length by rw [H8.out]; exact hb]
            have ga1 : wr.cell? ⟨b2, o2 + a, none⟩ = some (.int .i64 qa) := by
              rw [ga0, EQA.out]
              unfold qu
              simp [List.getD, show a < ws.length by rw [H8.out]; exact ha]
            have j1 : (0 : Int) ≤ (a : Int) := by omega
            have j2 : (a : Int) < (ws.length : Int) := by rw [H8.out]; omega
            have j3 : (0 : Int) ≤ (b : Int) := by omega
            have j4 : (b : Int) < (ws.length : Int) := by rw [H8.out]; omega
            have m0 : 0 ≤ M * qb := Int.mul_nonneg sM (by omega)
            have m1 : M * qb ≤ 18000 := by
              have := Int.mul_le_mul sM1 qb1.2 (by omega) (by omega : (0:Int) ≤ 1500)
              omega
            have m2 : 0 ≤ N * qa := Int.mul_nonneg sN (by omega)
            have m3 : N * qa ≤ 18000 := by
              have := Int.mul_le_mul sN1 qa1.2 (by omega) (by omega : (0:Int) ≤ 1500)
              omega
            clear ga0 q1 q2 q3 q4 hg hgb hg' hgb'
            go_wp2_with fail
            go_quiet (fail)
            rename Nat => nq
            go_wp2_with fail
            go_ret
            exact ⟨ret_bool (by first | rfl | (simp; omega)), below_drewN K8'.out nq⟩
  · have He := Lib.hid he
    obtain ⟨T3, a3, rfl⟩ := hv3.some_of he
    obtain ⟨T5, a5, rfl⟩ := hv5.some_of he
    have ev : fairV p per ws = [] := if_neg he
    have et : tagV p per ws = [] := if_neg he
    rw [ev] at row3 ⊢
    rw [et] at rd5 ⊢
    clear he hv3 hv5 ev et row3 rd5
    go_wp2_with fail
    go_ret
    exact ⟨rfl, k5'⟩
/-- Where the law asks nothing. -/
theorem fshares_off (A A' : Option Addr) (c c' : Nat) (a b : Int) (p : List Pk) (per : Int) (ws : List Int) (S : Nat → Addr) (w : World) (hS : Snt w w.heap.size S [2, 3, 4, 5]) (hl : p.length ≤ 9223372036854775807) (hoff : fitB p.length 120 = false ∨ (fitB p.length 120 = true ∧ (a < 0 ∨ (0 ≤ a ∧ 8 ≤ a) ∨ (0 ≤ a ∧ a < 8 ∧ b < 0) ∨ (0 ≤ a ∧ a < 8 ∧ 0 ≤ b ∧ 8 ≤ b)))) :
    Calls Tryd.prog 7 #[.slice A p.length c, .int .i64 per, .slice A' ws.length c', .int .i64 a, .int .i64 b] w fun e w' => e = .returned (.bool true) ∧ Below w.heap.size w w' := by
  rcases hoff with hoff | ⟨hfit, hoff | ⟨h1, h2⟩ | ⟨h1, h2, h3⟩ | ⟨h1, h2, h3, h4⟩⟩
  · have Hfit := Lib.hid hoff
    clear hoff
    go_enter Tryd.func7, Tryd.ntmps7
    go_wp2_with fail
    refine (ftagged_any S w _ (Nat.le_refl _) (hS.sub (by simp))).mono ?_
    rintro e w1 ⟨rfl, k1⟩
    go_wp2_with fail
    refine (fit_any A c p.length 120 _ hl).mono ?_
    rintro e wx ⟨rfl, rfl⟩
    rw [Hfit.out]
    go_wp2_with fail
    go_ret
    exact ⟨rfl, k1⟩
  all_goals
    have Hfit := Lib.hid hfit
    clear hfit
    go_enter Tryd.func7, Tryd.ntmps7
    go_wp2_with fail
    refine (ftagged_any S w _ (Nat.le_refl _) (hS.sub (by simp))).mono ?_
    rintro e w1 ⟨rfl, k1⟩
    go_wp2_with fail
    refine (fit_any A c p.length 120 _ hl).mono ?_
    rintro e wx ⟨rfl, rfl⟩
    rw [Hfit.out]
    go_wp2_with fail
    go_ret
    exact ⟨rfl, k1⟩
theorem fairShares_any (A : Option Addr) (c : Nat) (p : List Pk) (per : Int) (A' : Option Addr) (c' : Nat) (ws : List Int) (a b : Int) (S : Nat → Addr) (w : World) (h : RdP w w.heap.size A p) (h' : RdI w w.heap.size A' ws) (hS : Snt w w.heap.size S [2, 3, 4, 5]) (hl : p.length ≤ 9223372036854775807) (hl' : ws.length ≤ 9223372036854775807) :
    Calls Tryd.prog 7 #[.slice A p.length c, .int .i64 per, .slice A' ws.length c', .int .i64 a, .int .i64 b] w fun e w' => e = .returned (.bool true) ∧ Below w.heap.size w w' := by
  cases hf : fitB p.length 120
  · exact fshares_off A A' c c' a b p per ws S w hS hl (.inl hf)
  · by_cases hab : (0 ≤ a ∧ a < 8) ∧ 0 ≤ b ∧ b < 8
    · obtain ⟨n, rfl⟩ : ∃ n : Nat, a = n := ⟨a.toNat, by omega⟩
      obtain ⟨m, rfl⟩ : ∃ m : Nat, b = m := ⟨b.toNat, by omega⟩
      exact fshares_main A A' c c' n m p per ws S w h h' hS hf (by omega) (by omega) hl'
    · exact fshares_off A A' c c' a b p per ws S w hS hl (.inr ⟨hf, by omega⟩)
end Go.Proofs.YtkkecnofgmpekaaDoor
