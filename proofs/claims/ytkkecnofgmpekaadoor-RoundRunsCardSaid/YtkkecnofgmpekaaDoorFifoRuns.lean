/- The law FifoRuns returns true, whatever its arguments, and changes nothing that was there. Condition: the nine sentinels lie in their variables, apart; errors.errorType holds the type error. -/
import Derived.Test.YtkkecnofgmpekaaDoorSameS
import Derived.Test.YtkkecnofgmpekaaDoorPkRefB
import Derived.Test.YtkkecnofgmpekaaDoorCoded2
namespace Go.Proofs.YtkkecnofgmpekaaDoor
open Go.RowKit
set_option maxRecDepth 100000
set_option maxHeartbeats 1000000 in
theorem linkFault_any (A : Option Addr) (c : Nat) (p : List Pk) (per : Int) (w : World) (B : Nat) (hB : B ≤ w.heap.size) (h : RdP w B A p) (hl : p.length ≤ 9223372036854775807) :
    Calls Tryd.prog 29 #[.slice A p.length c, .int .i64 per] w fun e w' => e = .returned (fv (lookErr p per).1 (lookErr p per).2) ∧ Below w.heap.size w w' := by
  have ba : Below w.heap.size w (w.alloc (.cells #[.int .i64 0, .int .i64 0] 48)) := (Below.refl _ _).alloc (Nat.le_refl _) _
  by_cases h1 : (pktErr p).1 = 0
  · have hc := pktErr_nil h1
    by_cases h2 : per < 1 ∨ 1000 < per
    · have Hf := Lib.hid (show lookErr p per = (2, -1) by unfold lookErr; rw [if_neg (by omega), if_pos h2])
      have Hc := Lib.hid hc
      have h3 : per < 1 ∨ (1 ≤ per ∧ 1000 < per) := by omega
      clear h1 h2 hc
      rcases h3 with h3 | ⟨h3, h4⟩
      all_goals
        go_enter Tryd.func29, Tryd.ntmps29
        go_wp2_with fail
        refine (packetsFault_any A c p _ B (Nat.le_trans hB ba.size) (h.below (ba.mono hB)) hl).mono ?_
        rintro e w1 ⟨rfl, k1⟩
        rw [Hc.out]
        have b1 : Blk w1 w.heap.size 48 #[.int .i64 0, .int .i64 0] := new_blk k1
        have k1' := ba.trans (k1.mono ba.size)
        unfold fv
        go_wp2_with fail
        refine (bare_any 2 _).mono ?_
        rintro e w2 ⟨rfl, k2⟩
        have b2 : Blk w2 w.heap.size 48 #[.int .i64 0, .int .i64 0] := (b1.alloc _).below k2 (by have := b1.lt; simp; omega)
        have c0 := b2.cell 0
        have c1 := b2.cell 1
        have z0 := b2.frozen 0
        have z1 := b2.frozen 1
        simp only [List.getElem?_toArray, List.getElem?_cons_zero, List.getElem?_cons_succ] at c0 c1
        unfold fv
        go_wp2_with fail
        exact bodyPost_ret (v := fv 2 (-1)) (results_cell_row (p := 4) rfl _ _ w.heap.size 48 #[.int .i64 2, .int .i64 (-1)] (0, 0) _ rfl ((b2.set_ 0 (.int .i64 2)).set_ 1 (.int .i64 (-1))) Tryd.underlying48 rfl infoFv) rfl
          ⟨by rw [Hf.out]; rfl, (((k1'.alloc k1'.size _).trans (k2.mono (by have := k1'.size; simp; omega))).setCell (p := ⟨w.heap.size, 0, none⟩) (Nat.le_refl _) _).setCell (p := ⟨w.heap.size, 1, none⟩) (Nat.le_refl _) _⟩
    · have Hf := Lib.hid (show lookErr p per = (0, -1) by unfold lookErr; rw [if_neg (by omega), if_neg h2])
      have Hc := Lib.hid hc
      have h3 : 1 ≤ per := by omega
      have h4 : per ≤ 1000 := by omega
      clear h1 h2 hc
      go_enter Tryd.func29, Tryd.ntmps29
      go_wp2_with fail
      refine (packetsFault_any A c p _ B (Nat.le_trans hB ba.size) (h.below (ba.mono hB)) hl).mono ?_
      rintro e w1 ⟨rfl, k1⟩
      rw [Hc.out]
      have b1 : Blk w1 w.heap.size 48 #[.int .i64 0, .int .i64 0] := new_blk k1
      have k1' := ba.trans (k1.mono ba.size)
      have b2 := b1.alloc (.cells #[.int .i64 0, .int .i64 (-1)] 48)
      have c0 := b2.cell 0
      have c1 := b2.cell 1
      have z0 := b2.frozen 0
      have z1 := b2.frozen 1
      simp only [List.getElem?_toArray, List.getElem?_cons_zero, List.getElem?_cons_succ] at c0 c1
      unfold fv
      go_wp2_with fail
      exact bodyPost_ret (v := fv 0 (-1)) (results_cell_row (p := 4) rfl _ _ w.heap.size 48 #[.int .i64 0, .int .i64 (-1)] (0, 0) _ rfl ((b2.set_ 0 (.int .i64 0)).set_ 1 (.int .i64 (-1))) Tryd.underlying48 rfl infoFv) rfl
        ⟨by rw [Hf.out]; rfl, ((k1'.alloc k1'.size _).setCell (p := ⟨w.heap.size, 0, none⟩) (Nat.le_refl _) _).setCell (p := ⟨w.heap.size, 1, none⟩) (Nat.le_refl _) _⟩
  · have Hf := Lib.hid (show lookErr p per = pktErr p from if_pos h1)
    have h2 : (((pktErr p).1 : Int) == 0) = false := beq_eq_false_iff_ne.2 (by omega)
    clear h1
    go_enter Tryd.func29, Tryd.ntmps29
    go_wp2_with fail
    refine (packetsFault_any A c p _ B (Nat.le_trans hB ba.size) (h.below (ba.mono hB)) hl).mono ?_
    rintro e w1 ⟨rfl, k1⟩
    have b1 : Blk w1 w.heap.size 48 #[.int .i64 0, .int .i64 0] := new_blk k1
    have k1' := ba.trans (k1.mono ba.size)
    have b2 := b1.alloc (.cells #[.int .i64 (pktErr p).1, .int .i64 (pktErr p).2] 48)
    have c0 := b2.cell 0
    have c1 := b2.cell 1
    have z0 := b2.frozen 0
    have z1 := b2.frozen 1
    simp only [List.getElem?_toArray, List.getElem?_cons_zero, List.getElem?_cons_succ] at c0 c1
    unfold fv
    go_wp2_with fail
    exact bodyPost_ret (v := fv (pktErr p).1 (pktErr p).2) (results_cell_row (p := 4) rfl _ _ w.heap.size 48 #[.int .i64 (pktErr p).1, .int .i64 (pktErr p).2] (0, 0) _ rfl ((b2.set_ 0 (.int .i64 (pktErr p).1)).set_ 1 (.int .i64 (pktErr p).2)) Tryd.underlying48 rfl infoFv) rfl
      ⟨by rw [Hf.out], ((k1'.alloc k1'.size _).setCell (p := ⟨w.heap.size, 0, none⟩) (Nat.le_refl _) _).setCell (p := ⟨w.heap.size, 1, none⟩) (Nat.le_refl _) _⟩
set_option maxHeartbeats 2000000 in
theorem fr_main (A : Option Addr) (c : Nat) (p : List Pk) (per : Int) (S : Nat → Addr) (w : World) (h : RdP w w.heap.size A p) (hS : All9 w w.heap.size S) (hfit : fitB p.length 100 = true) :
    Calls Tryd.prog 8 #[.slice A p.length c, .int .i64 per] w fun e w' => e = .returned (.bool true) ∧ Below w.heap.size w w' := by
  have hle : p.length ≤ 301 := by have := of_decide_eq_true hfit; omega
  have hl : p.length ≤ 9223372036854775807 := by omega
  have Hfit := Lib.hid hfit
  clear hfit
  by_cases hok : (lookErr p per).1 = 0
  · obtain ⟨hf, h300, hpk, h0, h1⟩ := lookErr_ok hok
    have hs := lookErr_sorted hok
    have Hok := Lib.hid hok
    have Hf := Lib.hid hf
    have Hlen := Lib.hid (show (fifoL p per).length = p.length by rw [fifoL_eq hpk h0 h1, lindL_len])
    clear hf hok
    go_enter Tryd.func8, Tryd.ntmps8
    go_wp2_with fail
    refine (sends_any S w _ (Nat.le_refl _) (hS.s.sub (by simp))).mono ?_
    rintro e w1 ⟨rfl, k1⟩
    go_wp2_with fail
    refine (fit_any A c p.length 100 _ hl).mono ?_
    rintro e wx ⟨rfl, rfl⟩
    rw [Hfit.out]
    go_wp2_with fail
    refine (ownPackets_any A c p w1 _ (h.below k1) (by omega)).mono ?_
    rintro e w2 ⟨A1, c1, rfl, o1, k2⟩
    have r1 := RdP.of_own o1
    have k2' := k1.trans (k2.mono k1.size)
    go_wp2_with fail
    refine (fifoRun_ok A1 c1 p per S w2 _ (Nat.le_refl _) r1 (((hS.s.below k2').more k2'.size).sub (by simp)) hl Hok.out).mono ?_
    rintro e w3 ⟨A2, c2, v, rfl, o3, hv, k3⟩
    obtain rfl := hv.nil_of Hok.out
    have r3 := RdS.of_own o3
    have k3' := k2'.trans (k3.mono k2'.size)
    clear hv o3 o1 r1
    go_wp2_with fail
    refine (linkFault_any A c p per w3 _ k3'.size (h.below k3') hl).mono ?_
    rintro e w4 ⟨rfl, k4⟩
    rw [Hf.out]
    have k4' := k3'.trans (k4.mono k3'.size)
    have z4 := k4'.size
    unfold fv
    go_wp2_with fail
    have kb : Below w.heap.size w (w4.alloc (.cells #[.int .i64 0, .int .i64 (-1)] 48)) := k4'.alloc z4 _
    refine (fifoOf_any A c p per _ _ kb.size (h.below kb) hpk hs h300 h0 h1).mono ?_
    rintro e w5 ⟨A5, c5, rfl, o5, k5⟩
    have r5 := RdS.of_own o5
    have k5' := kb.trans (k5.mono kb.size)
    have k35 : Below w3.heap.size w3 w5 := (k4.alloc k4.size (.cells #[.int .i64 0, .int .i64 (-1)] 48)).trans (k5.mono (by have := k4.size; simp; omega))
    go_wp2_with fail
    refine (sameSent_any A2 A5 c2 c5 (fifoL p per) w5 w5.heap.size ((r3.below k35).more k35.size) r5 (by rw [Hlen.out]; exact hl)).mono ?_
    rintro e w6 ⟨rfl, m, rfl⟩
    go_wp2_with fail
    go_ret
    exact ⟨rfl, below_drewN k5' m⟩
  · have Hok := Lib.hid hok
    have h1' : (0 : Int) < ((lookErr p per).1 : Int) := by omega
    clear hok
    go_enter Tryd.func8, Tryd.ntmps8
    go_wp2_with fail
    refine (sends_any S w _ (Nat.le_refl _) (hS.s.sub (by simp))).mono ?_
    rintro e w1 ⟨rfl, k1⟩
    go_wp2_with fail
    refine (fit_any A c p.length 100 _ hl).mono ?_
    rintro e wx ⟨rfl, rfl⟩
    rw [Hfit.out]
    go_wp2_with fail
    refine (ownPackets_any A c p w1 _ (h.below k1) (by omega)).mono ?_
    rintro e w2 ⟨A1, c1, rfl, o1, k2⟩
    have r1 := RdP.of_own o1
    have k2' := k1.trans (k2.mono k1.size)
    go_wp2_with fail
    refine (fifoRun_bad A1 c1 p per S w2 _ (Nat.le_refl _) r1 (((hS.s.below k2').more k2'.size).sub (by simp)) hl Hok.out).mono ?_
    rintro e w3 ⟨A2, c2, v, rfl, o3, hv, k3⟩
    have k3' := k2'.trans (k3.mono k2'.size)
    clear o3 o1 r1
    go_wp2_with fail
    refine (linkFault_any A c p per w3 _ k3'.size (h.below k3') hl).mono ?_
    rintro e w4 ⟨rfl, k4⟩
    have k4' := k3'.trans (k4.mono k3'.size)
    have z4 := k4'.size
    have hv4 := (hv.below k4).more k4.size
    have kb : Below w.heap.size w (w4.alloc (.cells #[.int .i64 (lookErr p per).1, .int .i64 (lookErr p per).2] 48)) := k4'.alloc z4 _
    have kb4 : Below w4.heap.size w4 (w4.alloc (.cells #[.int .i64 (lookErr p per).1, .int .i64 (lookErr p per).2] 48)) := (Below.refl _ _).alloc (Nat.le_refl _) _
    unfold fv
    go_wp2_with fail
    refine (faulted2_any v (lookErr p per).1 (lookErr p per).2 (lookErr p per).2 S _ w4.heap.size kb4.size ((hS.below kb).more z4) (hv4.below kb4) (.inr rfl)).mono ?_
    rintro e w12 ⟨rfl, k12⟩
    go_wp2_with fail
    go_ret
    exact ⟨rfl, kb.trans (k12.mono kb.size)⟩
theorem fifoRuns_any (A : Option Addr) (c : Nat) (p : List Pk) (per : Int) (S : Nat → Addr) (w : World) (h : RdP w w.heap.size A p) (hS : All9 w w.heap.size S) (hl : p.length ≤ 9223372036854775807) :
    Calls Tryd.prog 8 #[.slice A p.length c, .int .i64 per] w fun e w' => e = .returned (.bool true) ∧ Below w.heap.size w w' := by
  cases hfit : fitB p.length 100
  · have Hfit := Lib.hid hfit
    clear hfit
    go_enter Tryd.func8, Tryd.ntmps8
    go_wp2_with fail
    refine (sends_any S w _ (Nat.le_refl _) (hS.s.sub (by simp))).mono ?_
    rintro e w1 ⟨rfl, k1⟩
    go_wp2_with fail
    refine (fit_any A c p.length 100 _ hl).mono ?_
    rintro e wx ⟨rfl, rfl⟩
    rw [Hfit.out]
    go_wp2_with fail
    go_ret
    exact ⟨rfl, k1⟩
  · exact fr_main A c p per S w h hS hfit
end Go.Proofs.YtkkecnofgmpekaaDoor
