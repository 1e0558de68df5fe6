/- The law BucketShape returns true, whatever its arguments, and changes nothing that was there. Condition: the nine sentinels lie in their variables, apart; errors.errorType holds the type error. -/
import Derived.Test.YteeaipehkhldhaaDoorShapeOf
import Derived.Test.YteeaipehkhldhaaDoorFitsOf
import Derived.Test.YteeaipehkhldhaaDoorTurn
import Derived.Test.YteeaipehkhldhaaDoorCoded1
import Derived.Test.YteeaipehkhldhaaDoorCvRef
import Derived.Test.YteeaipehkhldhaaDoorPkRef
namespace Go.Proofs.YteeaipehkhldhaaDoor
open Go.RowKit
set_option maxRecDepth 100000
theorem fv_storeS {w : World} {g : Nat} {k a k' a' : Int} (h : Blk w g 44 #[.int .i64 k, .int .i64 a]) : Blk ((w.setCell ⟨g, 0, none⟩ (.int .i64 k')).setCell ⟨g, 1, none⟩ (.int .i64 a')) g 44 #[.int .i64 k', .int .i64 a'] := (h.set_ 0 (.int .i64 k')).set_ 1 (.int .i64 a')
theorem fv_belowS {B : Nat} {w w1 : World} {g : Nat} {k a : Int} (h : Below B w w1) (hg : B ≤ g) : Below B w ((w1.setCell ⟨g, 0, none⟩ (.int .i64 k)).setCell ⟨g, 1, none⟩ (.int .i64 a)) := (h.setCell (p := ⟨g, 0, none⟩) hg _).setCell (p := ⟨g, 1, none⟩) hg _
theorem shapeGo_two (p : List Pk) (ss : List Bu) (last : Int) (i : Nat) : (shapeGo p ss last i).2 = -1 ∨ ∃ n : Nat, (shapeGo p ss last i).2 = (n : Int) ∧ n < i + p.length := by
  induction p generalizing ss last i with
  | nil => exact .inl rfl
  | cons x r ih =>
    unfold shapeGo
    split
    · exact .inr ⟨i, rfl, by simp⟩
    · rename_i T hT
      split
      · exact .inl rfl
      · rcases ih (ss.map fun s => tookB s T x.s) T (i + 1) with h | ⟨n, h, hn⟩
        · exact .inl h
        · exact .inr ⟨n, h, by simp; omega⟩
set_option maxHeartbeats 8000000 in
theorem shl_main (A A' : Option Addr) (c c' : Nat) (l : List Ln) (p : List Pk) (S : Nat → Addr) (w : World) (h : RdL w w.heap.size A l) (h' : RdP w w.heap.size A' p) (hS : All9 w w.heap.size S) (h30 : l.length ≤ 30) (hfit : fitB p.length 60 = true) :
    Calls Tryd.prog 12 #[.slice A l.length c, .slice A' p.length c'] w fun e w' => e = .returned (.bool true) ∧ Below w.heap.size w w' := by
  have hle : p.length ≤ 301 := by have := of_decide_eq_true hfit; omega
  have hl : l.length ≤ 9223372036854775807 := by omega
  have hl' : p.length ≤ 9223372036854775807 := by omega
  have Hfit := Lib.hid hfit
  clear hfit
  go_enter Tryd.func12, Tryd.ntmps12
  go_wp2_with fail
  refine (filled_any S w (hS.s.sub (by simp))).mono ?_
  rintro e w1 ⟨rfl, k1⟩
  go_wp2_with fail
  refine (fit1_any A' c' p.length 60 _ hl').mono ?_
  rintro e wx ⟨rfl, rfl⟩
  rw [Hfit.out]
  go_wp2_with fail
  refine (ownLines_any A c l w1 _ (h.below k1) (by omega)).mono ?_
  rintro e w2 ⟨A2, c2, rfl, o2, k2⟩
  have r2 := RdL.of_own o2
  have k2' := k1.trans (k2.mono k1.size)
  clear o2
  go_wp2_with fail
  refine (ownPackets_any A' c' p w2 _ (h'.below k2') (by omega)).mono ?_
  rintro e w3 ⟨A3, c3, rfl, o3, k3⟩
  have r3 := RdP.of_own o3
  have k3' := k2'.trans (k3.mono k2'.size)
  clear o3
  go_wp2_with fail
  refine (shape_any A2 A3 c2 c3 l p S w3 _ (Nat.le_refl _) ((r2.below k3).more k3.size) r3 (((hS.s.below k3').more k3'.size).sub (by simp)) hl hl').mono ?_
  rintro e w4 ⟨A4, c4, v4, rfl, o4, e4, k4⟩
  have k4' := k3'.trans (k4.mono k3'.size)
  have r4 := RdP.of_own o4
  clear r2 r3 o4
  obtain ⟨x, hx⟩ : ∃ x, x = shapeV l p := ⟨_, rfl⟩
  rw [← hx] at r4 ⊢
  have Hx := Lib.hid hx
  clear hx
  go_wp2_with fail
  refine (ownLines_any A c l w4 _ (h.below k4') (by omega)).mono ?_
  rintro e w5 ⟨A5, c5, rfl, o5, k5⟩
  have r5 := RdL.of_own o5
  have k5' := k4'.trans (k5.mono k4'.size)
  clear o5
  go_wp2_with fail
  refine (ownPackets_any A' c' p w5 _ (h'.below k5') (by omega)).mono ?_
  rintro e w6 ⟨A6, c6, rfl, o6, k6⟩
  have r6 := RdP.of_own o6
  have k6' := k5'.trans (k6.mono k5'.size)
  clear o6
  go_wp2_with fail
  refine (fits_any A5 A6 c5 c6 l p S w6 _ (Nat.le_refl _) ((r5.below k6).more k6.size) r6 (((hS.s.below k6').more k6'.size).sub (by simp)) hl hl').mono ?_
  rintro e w7 ⟨v7, rfl, e7, k7⟩
  have k7' := k6'.trans (k7.mono k6'.size)
  have k47 : Below w4.heap.size w4 w7 := k5.trans ((k6.mono k5.size).trans (k7.mono (Nat.le_trans k5.size k6.size)))
  clear r5 r6
  obtain ⟨fb, hfb⟩ : ∃ fb, fb = fitsV l p := ⟨_, rfl⟩
  rw [← hfb]
  have Hfb := Lib.hid hfb
  clear hfb
  go_wp2_with fail
  refine (packetsFault_any A' c' p w7 _ k7'.size (h'.below k7') hl').mono ?_
  rintro e w8 ⟨rfl, k8⟩
  have k8' := k7'.trans (k8.mono k7'.size)
  have k48 := k47.trans (k8.mono k47.size)
  have z8 := k8'.size
  unfold fv
  obtain ⟨v, hv⟩ : ∃ v : World, v = w8.alloc (.cells #[.int .i64 (pktErr p).1, .int .i64 (pktErr p).2] 44) := ⟨_, rfl⟩
  have bf : Blk v w8.heap.size 44 #[.int .i64 (pktErr p).1, .int .i64 (pktErr p).2] := by rw [hv]; exact Blk.new _ _ _
  have k9 : Below w8.heap.size w8 v := by rw [hv]; exact (Below.refl _ _).alloc (Nat.le_refl _) _
  have z9 : w8.heap.size < v.heap.size := bf.lt
  have k9' := k8'.trans (k9.mono z8)
  have z9' := k9'.size
  have e4v : Er v w8.heap.size S v4 (shapeErr l p).1 (shapeErr l p).2 := ((e4.below k48).more k48.size).below k9
  have e7v : Er v w8.heap.size S v7 (fitsErr l p).1 (fitsErr l p).2 := ((e7.below k8).more k8.size).below k9
  have r4v : RdP v w8.heap.size A4 x := ((r4.below k48).more k48.size).below k9
  have hSv := (hS.below k9').more z8
  have Hv := Lib.hid hv
  have BF := Lib.hid bf
  clear e4 e7 r4 k1 k2 k3 k4 k5 k6 k7 k2' k3' k4' k5' k6' k7' k47 k48 hv bf
  go_wp2_with fail
  rw [← Hv.out]
  have hc0 : v.cell? ⟨w8.heap.size, 0, none⟩ = some (.int .i64 (pktErr p).1) := BF.out.cell 0
  have hc1 : v.cell? ⟨w8.heap.size, 1, none⟩ = some (.int .i64 (pktErr p).2) := BF.out.cell 1
  go_region_held3 (fun w' => w'.cell? ⟨w8.heap.size, 0, none⟩ = some (.int .i64 (pktErr p).1) ∧ w'.cell? ⟨w8.heap.size, 1, none⟩ = some (.int .i64 (pktErr p).2))
    (first
      | go_keep
      | exact ⟨(kv12.cell (p := ⟨w8.heap.size, 0, none⟩) z9).trans hc0, (kv12.cell (p := ⟨w8.heap.size, 1, none⟩) z9).trans hc1⟩
      | exact ⟨(kv11.cell (p := ⟨w8.heap.size, 0, none⟩) z9).trans hc0, (kv11.cell (p := ⟨w8.heap.size, 1, none⟩) z9).trans hc1⟩
      | exact ⟨(k10.cell (p := ⟨w8.heap.size, 0, none⟩) z9).trans hc0, (k10.cell (p := ⟨w8.heap.size, 1, none⟩) z9).trans hc1⟩)
    (first
     | (go_at_call 36; refine (ownPackets_any A' c' p v.drew w.heap.size (h'.below k9'.drew) (by omega)).mono ?_; rintro e w10 ⟨A10, c10, rfl, o10, k10d⟩; have k10 := below_undrew' k10d; have k10' := k9'.trans (k10.mono z9'); have s10 := k10'.size)
     | (go_at_call 47; refine (pcheck_any A10 c10 p S w10 w10.heap.size (Nat.le_refl _) (RdP.of_own o10) (((hS.s.below k10').more s10).sub (by simp)) hl').mono ?_; rintro e w11 ⟨v11, rfl, e11, k11⟩; have kv11 := k10.trans (k11.mono k10.size); have k11' := k10'.trans (k11.mono s10); have s11 := k11'.size)
     | (go_at_call 24; refine (faulted_any v11 (pktErr p).1 (pktErr p).2 (pktErr p).2 S w11 w11.heap.size (Nat.le_refl _) ((hS.below k11').more s11) e11 (.inr rfl)).mono ?_; rintro e w12 ⟨rfl, k12⟩; have kv12 := kv11.trans (k12.mono kv11.size)))
  clear hc0 hc1
  have k12' := k11'.trans (k12.mono k11'.size)
  have b12 := BF.out.below kv12 z9
  have B12 := Lib.hid b12
  have kw12 : Below w8.heap.size v w12 := kv12.mono (Nat.le_of_lt z9)
  have e412 := e4v.below kw12
  have e712 := e7v.below kw12
  have r412 := r4v.below kw12
  have hS12 := hSv.below kw12
  have z12 := k12'.size
  have z12' : w8.heap.size < w12.heap.size := b12.lt
  have x0 : w12.cell? ⟨w8.heap.size, 0, none⟩ = some (.int .i64 (pktErr p).1) := b12.cell 0
  have x1 : w12.cell? ⟨w8.heap.size, 1, none⟩ = some (.int .i64 (pktErr p).2) := b12.cell 1
  have y0 := b12.frozen 0
  have y1 := b12.frozen 1
  clear e11 b12 e4v e7v r4v hSv BF Hv
  rename w12.cell? ⟨w8.heap.size, 0, none⟩ = some (.int .i64 ((pktErr p).1 : Int)) ∧ w12.cell? ⟨w8.heap.size, 1, none⟩ = some (.int .i64 (pktErr p).2) => hs12
  clear hs12
  by_cases h1 : (pktErr p).1 = 0
  · have hc := pktErr_nil h1
    have H1 := Lib.hid h1
    rw [hc] at x0 x1
    have B12b := Lib.hid (show Blk w12 w8.heap.size 44 #[.int .i64 0, .int .i64 (-1)] by have := B12.out; rw [hc] at this; exact this)
    clear hc h1 B12
    go_wp2_with fail
    refine (curveFault_any A c l w12 _ z12 (h.below k12') hl).mono ?_
    rintro e w13 ⟨rfl, k13⟩
    have b13 := B12b.out.below k13 z12'
    have c0 := b13.cell 0
    have c1 := b13.cell 1
    have f0 := b13.frozen 0
    have f1 := b13.frozen 1
    simp only [List.getElem?_toArray, List.getElem?_cons_zero, List.getElem?_cons_succ] at c0 c1
    obtain ⟨w14, hw14⟩ : ∃ w14, w14 = (w13.setCell ⟨w8.heap.size, 0, none⟩ (.int .i64 (crvErr l).1)).setCell ⟨w8.heap.size, 1, none⟩ (.int .i64 (crvErr l).2) := ⟨_, rfl⟩
    have b14 : Blk w14 w8.heap.size 44 #[.int .i64 (crvErr l).1, .int .i64 (crvErr l).2] := by rw [hw14]; exact fv_storeS b13
    have k14 : Below w8.heap.size w12 w14 := by rw [hw14]; exact fv_belowS (k13.mono (Nat.le_of_lt z12')) (Nat.le_refl _)
    have k14' := k12'.trans (k14.mono z8)
    have z14 : w8.heap.size < w14.heap.size := b14.lt
    have z14' := k14'.size
    have e414 := e412.below k14
    have e714 := e712.below k14
    have r414 := r412.below k14
    have hS14 := hS12.below k14
    have d0 : w14.cell? ⟨w8.heap.size, 0, none⟩ = some (.int .i64 (crvErr l).1) := b14.cell 0
    have d1 : w14.cell? ⟨w8.heap.size, 1, none⟩ = some (.int .i64 (crvErr l).2) := b14.cell 1
    rw [hw14] at d0 d1
    have Hw14 := Lib.hid hw14
    have B14 := Lib.hid b14
    unfold fv
    clear hw14 b14 b13 e412 e712 r412 hS12
    by_cases h2 : (crvErr l).1 = 0
    · have hcn : crvErr l = (0, -1) := Prod.ext h2 (crvErr_ok h2).2.2.2
      have Hw0 := Lib.hid (show w14 = (w13.setCell ⟨w8.heap.size, 0, none⟩ (.int .i64 0)).setCell ⟨w8.heap.size, 1, none⟩ (.int .i64 (-1)) by rw [Hw14.out, hcn]; rfl)
      have H2 := Lib.hid h2
      rw [hcn] at d0 d1 ⊢
      obtain ⟨g1, g2⟩ := fitsErr_of H1.out h2
      rw [g1] at e714
      obtain rfl := e714.nil_of rfl
      have Hfb2 := Lib.hid (show fb = fitsL l p from Hfb.out.trans g2)
      have hse : shapeErr l p = if (shapeR l p).2 = -1 then (0, -1) else (4, (shapeR l p).2) := by
        unfold shapeErr
        have := H1.out
        rw [if_neg (by omega), if_neg (by omega)]
      have htw := shapeGo_two p (l.map newB) 0 0
      have htw : (shapeR l p).2 = -1 ∨ ∃ n : Nat, (shapeR l p).2 = (n : Int) ∧ n < 0 + p.length := htw
      clear hcn h2 g1 g2
      rcases htw with hm | ⟨n, hm, hn⟩
      · rw [if_pos hm] at hse
        rw [hse] at e414
        obtain rfl := e414.nil_of rfl
        have Hxr := Lib.hid (show (shapeR l p).1 = x by rw [Hx.out]; unfold shapeV; rw [hse]; rfl)
        have Hm := Lib.hid hm
        clear hm hse
        go_wp2_with fail
        first | rw [← Hw0.out] | skip
        refine (shapeOf_any A A' c c' l p w14 _ z14' (h.below k14') (h'.below k14') hl H1.out H2.out).mono ?_
        rw [Hm.out, Hxr.out]
        rintro e w15 ⟨A15, c15, rfl, o15, k15⟩
        have r15 := RdP.of_own o15
        have k15' := k14'.trans (k15.mono z14')
        have r415 := (r414.below (k15.mono (Nat.le_of_lt z14))).more (Nat.le_trans (Nat.le_of_lt z14) k15.size)
        have hxl : x.length ≤ 9223372036854775807 := by
          have := (turner (crvErr_ok H2.out).2.2.1 (by have := (crvErr_ok H2.out).1; omega) (pktErr_okPk H1.out) (pktErr_sorted' H1.out) (show shapeR l p = (x, -1) from Prod.ext Hxr.out Hm.out)).2.1
          omega
        clear o15 c0 c1 f0 f1 d0 d1 x0 x1 y0 y1
        go_wp2_with fail
        refine (samePk_any A4 A15 c4 c15 x x w15 _ r415 r15 hxl hxl).mono ?_
        rintro e w16 ⟨rfl, q16, hw16⟩
        rw [decide_eq_true rfl]
        have k16' : Below w.heap.size w w16 := by rw [hw16]; exact below_drewN k15' q16
        clear hw16
        go_wp2_with fail
        refine (fitsOf_any A A' c c' l p w16 _ k16'.size (h.below k16') (h'.below k16') hl H1.out H2.out).mono ?_
        rintro e w17 ⟨rfl, k17⟩
        rw [← Hfb2.out]
        go_wp2_with fail
        go_ret
        exact ⟨by first | rfl | simp, k16'.trans (k17.mono k16'.size)⟩
      · rw [if_neg (by omega)] at hse
        rw [hm] at hse
        rw [hse] at e414
        have Hxe := Lib.hid (show x = [] by rw [Hx.out]; unfold shapeV; rw [hse]; rfl)
        have Hm := Lib.hid hm
        have hn0 : (0 : Int) ≤ (n : Int) := by omega
        clear hm hse
        rw [Hxe.out]
        go_wp2_with fail
        first | rw [← Hw0.out] | skip
        refine (shapeOf_any A A' c c' l p w14 _ z14' (h.below k14') (h'.below k14') hl H1.out H2.out).mono ?_
        rw [Hm.out]
        rintro e w15 ⟨A15, c15, rfl, o15, k15⟩
        have k15' := k14'.trans (k15.mono z14')
        have z15 := k15'.size
        have e415 := e414.below (k15.mono (Nat.le_of_lt z14))
        have hS15 := hS14.below (k15.mono (Nat.le_of_lt z14))
        have z15' : w8.heap.size ≤ w15.heap.size := Nat.le_trans (Nat.le_of_lt z14) k15.size
        clear o15 c0 c1 f0 f1 d0 d1 x0 x1 y0 y1
        go_wp2_with fail
        have hfa := faulted_any v4 4 (n : Int) (n : Int) S w15 w8.heap.size z15' hS15 e415 (.inr rfl)
        rw [show ((4 : Nat) : Int) = 4 from rfl] at hfa
        refine hfa.mono ?_
        rintro e w16 ⟨rfl, k16⟩
        have k16' := k15'.trans (k16.mono z15)
        go_wp2_with fail
        refine (fitsOf_any A A' c c' l p w16 _ k16'.size (h.below k16') (h'.below k16') hl H1.out H2.out).mono ?_
        rintro e w17 ⟨rfl, k17⟩
        rw [← Hfb2.out]
        go_wp2_with fail
        go_ret
        exact ⟨by first | rfl | simp, k16'.trans (k17.mono k16'.size)⟩
    · have hse : shapeErr l p = crvErr l := by
        unfold shapeErr
        have := H1.out
        rw [if_neg (by omega), if_pos h2]
      have hfe : fitsErr l p = crvErr l := by
        unfold fitsErr
        have := H1.out
        rw [if_neg (by omega)]
      have hx0 : x = [] := by rw [Hx.out]; unfold shapeV; rw [hse, if_neg h2]
      have hfb0 : fb = false := by rw [Hfb.out]; unfold fitsV; rw [hfe, if_neg h2]
      rw [hse] at e414
      rw [hfe] at e714
      have hp : (0 : Int) < ((crvErr l).1 : Int) := by omega
      rw [hx0, hfb0]
      clear hse hfe hx0 hfb0 h2
      go_wp2_with fail
      first | rw [← Hw14.out] | skip
      refine (faulted_any v4 (crvErr l).1 (crvErr l).2 (crvErr l).2 S w14 w8.heap.size (Nat.le_of_lt z14) hS14 e414 (.inr rfl)).mono ?_
      rintro e w15 ⟨rfl, k15⟩
      have F15 := B14.out.below k15 z14
      have g0 := F15.cell 0
      have g1 := F15.cell 1
      simp only [List.getElem?_toArray, List.getElem?_cons_zero, List.getElem?_cons_succ] at g0 g1
      have z15 : w8.heap.size ≤ w15.heap.size := Nat.le_trans (Nat.le_of_lt z14) k15.size
      have hS15 := hS14.below (k15.mono (Nat.le_of_lt z14))
      have e715 := e714.below (k15.mono (Nat.le_of_lt z14))
      clear F15 c0 c1 f0 f1 d0 d1 x0 x1 y0 y1
      go_wp2_with fail
      refine (faulted_any v7 (crvErr l).1 (crvErr l).2 (crvErr l).2 S w15 w8.heap.size z15 hS15 e715 (.inr rfl)).mono ?_
      rintro e w16 ⟨rfl, k16⟩
      go_wp2_with fail
      go_ret
      exact ⟨by first | rfl | simp, k14'.trans ((k15.mono z14').trans (k16.mono (Nat.le_trans z14' k15.size)))⟩
  · have hse : shapeErr l p = pktErr p := by unfold shapeErr; rw [if_pos h1]
    have hfe : fitsErr l p = pktErr p := by unfold fitsErr; rw [if_pos h1]
    have hx0 : x = [] := by rw [Hx.out]; unfold shapeV; rw [hse, if_neg h1]
    have hfb0 : fb = false := by rw [Hfb.out]; unfold fitsV; rw [hfe, if_neg h1]
    rw [hse] at e412
    rw [hfe] at e712
    have hp : (0 : Int) < ((pktErr p).1 : Int) := by omega
    have hp2 : (((pktErr p).1 : Int) == 0) = false := beq_eq_false_iff_ne.2 (by omega)
    rw [hx0, hfb0]
    clear hse hfe hx0 hfb0 h1
    go_wp2_with fail
    refine (faulted_any v4 (pktErr p).1 (pktErr p).2 (pktErr p).2 S w12 w8.heap.size (Nat.le_of_lt z12') hS12 e412 (.inr rfl)).mono ?_
    rintro e w15 ⟨rfl, k15⟩
    have F15 := B12.out.below k15 z12'
    have g0 := F15.cell 0
    have g1 := F15.cell 1
    simp only [List.getElem?_toArray, List.getElem?_cons_zero, List.getElem?_cons_succ] at g0 g1
    have z15 : w8.heap.size ≤ w15.heap.size := Nat.le_trans (Nat.le_of_lt z12') k15.size
    have hS15 := hS12.below (k15.mono (Nat.le_of_lt z12'))
    have e715 := e712.below (k15.mono (Nat.le_of_lt z12'))
    clear F15 x0 x1 y0 y1
    go_wp2_with fail
    refine (faulted_any v7 (pktErr p).1 (pktErr p).2 (pktErr p).2 S w15 w8.heap.size z15 hS15 e715 (.inr rfl)).mono ?_
    rintro e w16 ⟨rfl, k16⟩
    go_wp2_with fail
    go_ret
    exact ⟨by first | rfl | simp, k12'.trans ((k15.mono z12).trans (k16.mono (Nat.le_trans z12 k15.size)))⟩
set_option maxHeartbeats 1000000 in
theorem bucketShape_any (A : Option Addr) (c : Nat) (l : List Ln) (A' : Option Addr) (c' : Nat) (p : List Pk) (S : Nat → Addr) (w : World) (h : RdL w w.heap.size A l) (h' : RdP w w.heap.size A' p) (hS : All9 w w.heap.size S) (hl : l.length ≤ 9223372036854775807) (hl' : p.length ≤ 9223372036854775807) :
    Calls Tryd.prog 12 #[.slice A l.length c, .slice A' p.length c'] w fun e w' => e = .returned (.bool true) ∧ Below w.heap.size w w' := by
  by_cases h30 : l.length ≤ 30
  · cases hfit : fitB p.length 60
    · have Hfit := Lib.hid hfit
      clear hfit
      go_enter Tryd.func12, Tryd.ntmps12
      go_wp2_with fail
      refine (filled_any S w (hS.s.sub (by simp))).mono ?_
      rintro e w1 ⟨rfl, k1⟩
      go_wp2_with fail
      refine (fit1_any A' c' p.length 60 _ hl').mono ?_
      rintro e wx ⟨rfl, rfl⟩
      rw [Hfit.out]
      go_wp2_with fail
      go_ret
      exact ⟨rfl, k1⟩
    · exact shl_main A A' c c' l p S w h h' hS h30 hfit
  · have h31 : (30 : Int) < (l.length : Int) := by omega
    clear h30
    go_enter Tryd.func12, Tryd.ntmps12
    go_wp2_with fail
    refine (filled_any S w (hS.s.sub (by simp))).mono ?_
    rintro e w1 ⟨rfl, k1⟩
    go_wp2_with fail
    go_ret
    exact ⟨rfl, k1⟩
end Go.Proofs.YteeaipehkhldhaaDoor
