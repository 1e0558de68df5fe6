/- The law CurveBounds returns true, whatever its arguments, and changes nothing that was there. Condition: the nine sentinels lie in their variables, apart; errors.errorType holds the type error. -/
import Derived.Test.YteeaipehkhldhaaDoorMeets
import Derived.Test.YteeaipehkhldhaaDoorCvD
namespace Go.Proofs.YteeaipehkhldhaaDoor
open Go.RowKit
set_option maxRecDepth 100000
set_option maxHeartbeats 8000000 in
theorem bounds_main (A : Option Addr) (c : Nat) (l : List Ln) (per : Int) (S : Nat → Addr) (w : World) (h : RdL w w.heap.size A l) (hS : All9 w w.heap.size S) (h30 : l.length ≤ 30) :
    Calls Tryd.prog 11 #[.slice A l.length c, .int .i64 per] w fun e w' => e = .returned (.bool true) ∧ Below w.heap.size w w' := by
  have hl : l.length ≤ 4294967296 := by omega
  have hl' : l.length ≤ 9223372036854775807 := by omega
  go_enter Tryd.func11, Tryd.ntmps11
  go_wp2_with fail
  refine (drawn_any S w _ (Nat.le_refl _) (hS.s.sub (by simp))).mono ?_
  rintro e w1 ⟨rfl, k1⟩
  have z1 := k1.size
  go_wp2_with fail
  go_loopw [6] (fun iv wr => ∃ k : Nat, k ≤ l.length ∧ iv = .int .i64 k ∧ (∀ (j : Nat) (hj : j < l.length), j < k → l[j].b ≤ 60) ∧ wr = w1) (fun iv _ => l.length - (intOf iv).toNat)
  case atStart => exact ⟨0, Nat.zero_le _, rfl, fun j _ hj => by omega, rfl⟩
  case round =>
    obtain ⟨k, hk, rfl, hsm, hwr⟩ := hrel
    obtain rfl : w1 = wr := hwr.symm
    have HSM := Lib.hid hsm
    clear hwr hsm
    by_cases hlt : k < l.length
    · obtain ⟨b, o, rfl, hb, d0, d1⟩ := RdL.get (h.below k1) hlt
      have q1 : (0 : Int) ≤ (k : Int) := by omega
      have q2 : (k : Int) < (l.length : Int) := by omega
      by_cases hbb : 60 < l[k].b
      · go_wp2_with fail
        go_ret
        exact ⟨rfl, k1⟩
      · have H2 := Lib.hid (show ∀ (j : Nat) (hj : j < l.length), j < k + 1 → l[j].b ≤ 60 from fun j hj hjk => by
          by_cases e : j = k
          · subst e; omega
          · exact HSM.out j hj (by omega))
        go_wp2_with fail
        go_roundw
        case rel => exact ⟨k + 1, hlt, by go_num, H2.out, by first | rfl | trivial⟩
        case measure => simp [intOf]; omega
    · have hall : ∀ x ∈ l, x.b ≤ 60 := fun x hx => by
        obtain ⟨j, hj, rfl⟩ := List.getElem_of_mem hx
        exact HSM.out j hj (by omega)
      have HALL := Lib.hid hall
      clear hall HSM
      go_wp2_with fail
      refine (ownLines_any A c l w1 _ (h.below k1) hl).mono ?_
      rintro e w2 ⟨A2, c2, rfl, o2, k2⟩
      have k2' := k1.trans (k2.mono k1.size)
      go_wp2_with fail
      refine (delay_any A2 c2 l per S w2 _ (Nat.le_refl _) (RdL.of_own o2) (((hS.s.below k2').more k2'.size).sub (by simp)) hl').mono ?_
      rintro e w3 ⟨v3, rfl, e3, k3⟩
      have k3' := k2'.trans (k3.mono k2'.size)
      clear o2
      go_wp2_with fail
      refine (ownLines_any A c l w3 _ (h.below k3') hl).mono ?_
      rintro e w4 ⟨A4, c4, rfl, o4, k4⟩
      have k4' := k3'.trans (k4.mono k3'.size)
      go_wp2_with fail
      refine (busy_any A4 c4 l per S w4 _ (Nat.le_refl _) (RdL.of_own o4) (((hS.s.below k4').more k4'.size).sub (by simp)) hl').mono ?_
      rintro e w5 ⟨v5, rfl, e5, k5⟩
      have k5' := k4'.trans (k5.mono k4'.size)
      have k35 := k4.trans (k5.mono k4.size)
      clear o4
      go_wp2_with fail
      refine (curveFault_any A c l w5 _ k5'.size (h.below k5') hl').mono ?_
      rintro e w6 ⟨rfl, k6⟩
      have k6' := k5'.trans (k6.mono k5'.size)
      have z6 := k6'.size
      have k36 := k35.trans (k6.mono k35.size)
      unfold fv
      go_upto_region 12 with fail
      obtain ⟨v, hv⟩ : ∃ v : World, v = w6.alloc (.cells #[.int .i64 (crvErr l).1, .int .i64 (crvErr l).2] 44) := ⟨_, rfl⟩
      have bf : Blk v w6.heap.size 44 #[.int .i64 (crvErr l).1, .int .i64 (crvErr l).2] := by rw [hv]; exact Blk.new _ _ _
      have k7 : Below w6.heap.size w6 v := by rw [hv]; exact (Below.refl _ _).alloc (Nat.le_refl _) _
      have z7 : w6.heap.size < v.heap.size := bf.lt
      rw [← hv]
      have k7' := k6'.trans (k7.mono z6)
      have e3v : Er v w6.heap.size S v3 (delayErr l per).1 (delayErr l per).2 := ((e3.below k36).more k36.size).below k7
      have e5v : Er v w6.heap.size S v5 (busyErr l per).1 (busyErr l per).2 := ((e5.below k6).more k6.size).below k7
      have hSv := (hS.below k7').more z6
      obtain ⟨d, hd⟩ : ∃ d, d = delayV l per := ⟨_, rfl⟩
      obtain ⟨b, hb⟩ : ∃ b, b = busyV l per := ⟨_, rfl⟩
      rw [← hd, ← hb]
      have h7 := h.below k7'
      have H7 := Lib.hid h7
      have HSV := Lib.hid hSv
      clear e3 e5 k1 k2 k3 k4 k5 k2' k3' k4' k5' k35 k36 h7 hSv h hS
      by_cases hc : (crvErr l).1 = 0
      · obtain ⟨q1, q2, q3, q4⟩ := crvErr_ok hc
        rw [hc, q4] at bf
        have bf' : Blk v w6.heap.size 44 #[.int .i64 0, .int .i64 (-1)] := bf
        have HOK := Lib.hid q3
        have HC := Lib.hid hc
        clear bf hv q3 hc q4
        by_cases hp : per < 1 ∨ 1000 < per
        · have hk : dlkErr l per = (2, -1) := by unfold dlkErr; rw [if_neg (by rw [HC.out]; omega), if_pos hp]
          have hd0 : d = 0 := by rw [hd]; unfold delayV delayErr; rw [hk]; rfl
          have hb0 : b = 0 := by rw [hb]; unfold busyV busyErr; rw [hk]; rfl
          have he1 : delayErr l per = (2, -1) := by unfold delayErr; rw [hk]; rfl
          have he2 : busyErr l per = (2, -1) := by unfold busyErr; rw [hk]; rfl
          rw [he1] at e3v
          rw [he2] at e5v
          rw [hd0, hb0]
          have hp2 : per < 1 ∨ (¬ per < 1 ∧ 1000 < per) := by omega
          have x0 : v.cell? ⟨w6.heap.size, 0, none⟩ = some (.int .i64 0) := bf'.cell 0
          have BF := Lib.hid bf'
          clear hp hk hd0 hb0 he1 he2 hd hb bf' HALL HOK
          rcases hp2 with hp | ⟨hp, hp'⟩
          all_goals
            go_wp2_with fail
            refine (bare_any 2 v).mono ?_
            rintro e w8 ⟨rfl, k8⟩
            have b8 := BF.out.below k8 z7
            have m0 : w8.cell? ⟨w6.heap.size, 0, none⟩ = some (.int .i64 0) := b8.cell 0
            have m1 : w8.cell? ⟨w6.heap.size, 1, none⟩ = some (.int .i64 (-1)) := b8.cell 1
            have n0 := b8.frozen 0
            have n1 := b8.frozen 1
            obtain ⟨w9, hw9⟩ : ∃ w9 : World, w9 = (w8.setCell ⟨w6.heap.size, 0, none⟩ (.int .i64 2)).setCell ⟨w6.heap.size, 1, none⟩ (.int .i64 (-1)) := ⟨_, rfl⟩
            have b9 : Blk w9 w6.heap.size 44 #[.int .i64 2, .int .i64 (-1)] := by rw [hw9]; exact (b8.set_ 0 _).set_ 1 _
            have k9 : Below w6.heap.size v w9 := by rw [hw9]; exact ((k8.mono (Nat.le_of_lt z7)).setCell (p := ⟨w6.heap.size, 0, none⟩) (Nat.le_refl _) _).setCell (p := ⟨w6.heap.size, 1, none⟩) (Nat.le_refl _) _
            have p0 : ((w8.setCell ⟨w6.heap.size, 0, none⟩ (.int .i64 2)).setCell ⟨w6.heap.size, 1, none⟩ (.int .i64 (-1))).cell? ⟨w6.heap.size, 0, none⟩ = some (.int .i64 2) := by rw [← hw9]; exact b9.cell 0
            have p1 : ((w8.setCell ⟨w6.heap.size, 0, none⟩ (.int .i64 2)).setCell ⟨w6.heap.size, 1, none⟩ (.int .i64 (-1))).cell? ⟨w6.heap.size, 1, none⟩ = some (.int .i64 (-1)) := by rw [← hw9]; exact b9.cell 1
            have HW9 := Lib.hid hw9
            have B9 := Lib.hid b9
            have z9 := b9.lt
            clear b8 hw9 b9
            unfold fv
            go_wp2_with fail
            first | rw [← HW9.out] | skip
            refine (faulted_any v3 2 (-1) (-1) S w9 w6.heap.size (Nat.le_of_lt z9) (HSV.out.below k9) (e3v.below k9) (.inr rfl)).mono ?_
            rintro e w10 ⟨rfl, k10⟩
            have b10 := B9.out.below k10 z9
            have r0 : w10.cell? ⟨w6.heap.size, 0, none⟩ = some (.int .i64 2) := b10.cell 0
            have r1 : w10.cell? ⟨w6.heap.size, 1, none⟩ = some (.int .i64 (-1)) := b10.cell 1
            have k910 := k9.trans (k10.mono (Nat.le_of_lt z9))
            clear m0 m1 n0 n1 p0 p1 b10
            go_wp2_with fail
            refine (faulted_any v5 2 (-1) (-1) S w10 w6.heap.size (Nat.le_trans (Nat.le_of_lt z9) k10.size) (HSV.out.below k910) (e5v.below k910) (.inr rfl)).mono ?_
            rintro e w11 ⟨rfl, k11⟩
            go_wp2_with fail
            go_ret
            exact ⟨by first | rfl | simp, k7'.trans ((k910.trans (k11.mono (Nat.le_trans (Nat.le_of_lt z9) k10.size))).mono z6)⟩
        · have p0 : 1 ≤ per := by omega
          have p1 : per ≤ 1000 := by omega
          have hk : (dlkErr l per).1 = 0 := by unfold dlkErr; rw [if_neg (by rw [HC.out]; omega), if_neg hp]
          have x0 : v.cell? ⟨w6.heap.size, 0, none⟩ = some (.int .i64 0) := bf'.cell 0
          have z7' := k7'.size
          have hp1 : ¬ per < 1 := by omega
          have hp2 : ¬ 1000 < per := by omega
          clear hp bf'
          by_cases hd0 : dTop per l = 0
          · have he1 : delayErr l per = (4, -1) := by unfold delayErr; rw [if_neg (by omega), if_pos hd0]
            have he2 := busy_no hk (delay_busy (by rw [he1]; omega))
            have hbz : bzV per l = 0 := (bzV_spec p0 HOK.out).2.1.2 fun x hx => by
              obtain ⟨g1, g2⟩ := (dTop_spec HOK.out).2.1.1 hd0 x hx
              have := (HOK.out x hx).2.2.1
              omega
            have hdz : d = 0 := by rw [hd]; unfold delayV; rw [he1]; rfl
            have hbz2 : b = 0 := by rw [hb]; unfold busyV; rw [he2]; rfl
            obtain ⟨ov, ob⟩ := dOf_no hd0
            have OV := Lib.hid ov
            have OB := Lib.hid ob
            have BZ := Lib.hid hbz
            have BB := Lib.hid (show bOfB per l = false by unfold bOfB; rw [hbz]; rfl)
            rw [he1] at e3v
            rw [he2] at e5v
            rw [hdz, hbz2]
            clear hd hb hdz hbz2 hbz he1 he2 hd0 hk ov ob
            go_wp2_with fail
            refine (delayOf_any A c l per v w.heap.size z7' H7.out hl' (by omega) HOK.out p0 p1 HALL.out).mono ?_
            rw [OV.out, OB.out]
            rintro e w8 ⟨rfl, k8⟩
            have k8' := k7'.trans (k8.mono z7')
            have z8 := k8.size
            clear x0
            go_wp2_with fail
            refine (coded_any v3 4 (-1) S w8 w6.heap.size (Nat.le_trans (Nat.le_of_lt z7) z8) (HSV.out.below (k8.mono (Nat.le_of_lt z7))) (e3v.below (k8.mono (Nat.le_of_lt z7))) rfl).mono ?_
            rintro e w9 ⟨rfl, k9⟩
            have k89 := k8.trans (k9.mono z8)
            have k9' := k7'.trans (k89.mono z7')
            go_wp2_with fail
            refine (busyOf_any A c l per w9 w.heap.size k9'.size (H7.out.below (k89.mono z7')) hl' (by omega) HOK.out p0 p1).mono ?_
            rw [BZ.out, BB.out]
            rintro e w10 ⟨rfl, k10⟩
            have k810 := k89.trans (k10.mono k89.size)
            go_wp2_with fail
            refine (coded_any v5 4 (-1) S w10 w6.heap.size (Nat.le_trans (Nat.le_of_lt z7) k810.size) (HSV.out.below (k810.mono (Nat.le_of_lt z7))) (e5v.below (k810.mono (Nat.le_of_lt z7))) rfl).mono ?_
            rintro e w11 ⟨rfl, k11⟩
            go_wp2_with fail
            go_ret
            exact ⟨by first | rfl | simp, k7'.trans ((k810.trans (k11.mono k810.size)).mono z7')⟩
          · have hdp : 0 < dTop per l := by have := (dTop_spec (per := per) HOK.out).1; omega
            have he1 : delayErr l per = (0, -1) := by unfold delayErr; rw [if_neg (by omega), if_neg hd0]
            have hdv : d = dBest per l := by rw [hd]; unfold delayV; rw [he1]; rfl
            obtain ⟨ov, ob⟩ := dOf_yes hd0
            rw [← hdv] at ov
            have OV := Lib.hid ov
            have OB := Lib.hid ob
            rw [he1] at e3v
            obtain rfl := e3v.nil_of rfl
            clear hd hdv he1 hd0 ov ob e3v
            by_cases hbz : bzV per l = 0
            · have he2 : busyErr l per = (4, -1) := by unfold busyErr; rw [if_neg (by omega), if_pos (.inl hbz)]
              have hbz2 : b = 0 := by rw [hb]; unfold busyV; rw [he2]; rfl
              have BZ := Lib.hid hbz
              have BB := Lib.hid (show bOfB per l = false by unfold bOfB; rw [hbz]; rfl)
              rw [he2] at e5v
              rw [hbz2]
              clear hb hbz2 hbz he2 hk
              go_wp2_with fail
              refine (delayOf_any A c l per v w.heap.size z7' H7.out hl' (by omega) HOK.out p0 p1 HALL.out).mono ?_
              rw [OV.out, OB.out]
              rintro e w8 ⟨rfl, k8⟩
              have k8' := k7'.trans (k8.mono z7')
              have z8 := k8.size
              clear x0
              go_wp2_with fail
              refine (busyOf_any A c l per w8 w.heap.size k8'.size (H7.out.below (k8.mono z7')) hl' (by omega) HOK.out p0 p1).mono ?_
              rw [BZ.out, BB.out]
              rintro e w10 ⟨rfl, k10⟩
              have k810 := k8.trans (k10.mono k8.size)
              go_wp2_with fail
              refine (coded_any v5 4 (-1) S w10 w6.heap.size (Nat.le_trans (Nat.le_of_lt z7) k810.size) (HSV.out.below (k810.mono (Nat.le_of_lt z7))) (e5v.below (k810.mono (Nat.le_of_lt z7))) rfl).mono ?_
              rintro e w11 ⟨rfl, k11⟩
              go_wp2_with fail
              go_ret
              exact ⟨by first | rfl | simp, k7'.trans ((k810.trans (k11.mono k810.size)).mono z7')⟩
            · obtain ⟨_, hsm⟩ := bz_small p0 p1 HOK.out
              have hsm := hsm HALL.out
              have he2 : busyErr l per = (0, -1) := by unfold busyErr; rw [if_neg (by omega), if_neg (by omega)]
              have hbv : b = bzV per l := by rw [hb]; unfold busyV; rw [he2]; rfl
              have BB := Lib.hid (show bOfB per l = true by unfold bOfB; rw [decide_eq_false hbz]; rfl)
              have BV := Lib.hid hbv
              rw [he2] at e5v
              obtain rfl := e5v.nil_of rfl
              clear hb hbz he2 hbv e5v hk
              go_wp2_with fail
              refine (delayOf_any A c l per v w.heap.size z7' H7.out hl' (by omega) HOK.out p0 p1 HALL.out).mono ?_
              rw [OV.out, OB.out]
              rintro e w8 ⟨rfl, k8⟩
              have k8' := k7'.trans (k8.mono z7')
              have z8 := k8.size
              clear x0
              go_wp2_with fail
              refine (busyOf_any A c l per w8 w.heap.size k8'.size (H7.out.below (k8.mono z7')) hl' (by omega) HOK.out p0 p1).mono ?_
              rw [← BV.out, BB.out]
              rintro e w10 ⟨rfl, k10⟩
              have k810 := k8.trans (k10.mono k8.size)
              go_wp2_with fail
              go_ret
              exact ⟨by first | rfl | simp, k7'.trans (k810.mono z7')⟩
      · have hk : dlkErr l per = crvErr l := if_pos hc
        have hkn : (dlkErr l per).1 ≠ 0 := by rw [hk]; exact hc
        have hd0 : d = 0 := by rw [hd]; unfold delayV delayErr; rw [if_pos hkn, if_neg hkn]
        have hb0 : b = 0 := by rw [hb]; unfold busyV busyErr; rw [if_pos hkn, if_neg hkn]
        have he1 : delayErr l per = crvErr l := by unfold delayErr; rw [if_pos hkn, hk]
        have he2 : busyErr l per = crvErr l := by unfold busyErr; rw [if_pos hkn, hk]
        rw [he1] at e3v
        rw [he2] at e5v
        rw [hd0, hb0]
        have y1 : (0 : Int) < ((crvErr l).1 : Int) := by omega
        have y2 : (((crvErr l).1 : Int) == 0) = false := beq_eq_false_iff_ne.2 (by omega)
        have x0 : v.cell? ⟨w6.heap.size, 0, none⟩ = some (.int .i64 (crvErr l).1) := bf.cell 0
        have x1 : v.cell? ⟨w6.heap.size, 1, none⟩ = some (.int .i64 (crvErr l).2) := bf.cell 1
        have BF := Lib.hid bf
        clear hk hkn hd0 hb0 he1 he2 hd hb bf hv hc HALL
        go_wp2_with fail
        refine (faulted_any v3 (crvErr l).1 (crvErr l).2 (crvErr l).2 S v w6.heap.size (Nat.le_of_lt z7) HSV.out e3v (.inr rfl)).mono ?_
        rintro e w10 ⟨rfl, k10⟩
        have b10 := BF.out.below k10 z7
        have r0 : w10.cell? ⟨w6.heap.size, 0, none⟩ = some (.int .i64 (crvErr l).1) := b10.cell 0
        have r1 : w10.cell? ⟨w6.heap.size, 1, none⟩ = some (.int .i64 (crvErr l).2) := b10.cell 1
        have k10v := k10.mono (Nat.le_of_lt z7)
        clear x0 x1 b10
        go_wp2_with fail
        refine (faulted_any v5 (crvErr l).1 (crvErr l).2 (crvErr l).2 S w10 w6.heap.size (Nat.le_trans (Nat.le_of_lt z7) k10.size) (HSV.out.below k10v) (e5v.below k10v) (.inr rfl)).mono ?_
        rintro e w11 ⟨rfl, k11⟩
        go_wp2_with fail
        go_ret
        exact ⟨by first | rfl | simp, k7'.trans ((k10v.trans (k11.mono (Nat.le_trans (Nat.le_of_lt z7) k10.size))).mono z6)⟩
theorem curveBounds_any (A : Option Addr) (c : Nat) (l : List Ln) (per : Int) (S : Nat → Addr) (w : World) (h : RdL w w.heap.size A l) (hS : All9 w w.heap.size S) (hl : l.length ≤ 9223372036854775807) :
    Calls Tryd.prog 11 #[.slice A l.length c, .int .i64 per] w fun e w' => e = .returned (.bool true) ∧ Below w.heap.size w w' := by
  by_cases h30 : l.length ≤ 30
  · exact bounds_main A c l per S w h hS h30
  · have h31 : (30 : Int) < (l.length : Int) := by omega
    go_enter Tryd.func11, Tryd.ntmps11
    go_wp2_with fail
    refine (drawn_any S w _ (Nat.le_refl _) (hS.s.sub (by simp))).mono ?_
    rintro e w1 ⟨rfl, k1⟩
    go_wp2_with fail
    go_ret
    exact ⟨rfl, k1⟩
end Go.Proofs.YteeaipehkhldhaaDoor
