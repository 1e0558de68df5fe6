/- The law FairRuns returns true, whatever its arguments, and changes nothing that was there. Condition: the nine sentinels lie in their variables, apart; errors.errorType holds the type error. -/
import Derived.Test.YtkkecnofgmpekaaDoorFairD
import Derived.Test.YtkkecnofgmpekaaDoorFairE
import Derived.Test.YtkkecnofgmpekaaDoorFifoRuns
namespace Go.Proofs.YtkkecnofgmpekaaDoor
open Go.RowKit
set_option maxRecDepth 100000
theorem fv_storeF {w : World} {g : Nat} {k a k' a' : Int} (h : Blk w g 48 #[.int .i64 k, .int .i64 a]) : Blk ((w.setCell ⟨g, 0, none⟩ (.int .i64 k')).setCell ⟨g, 1, none⟩ (.int .i64 a')) g 48 #[.int .i64 k', .int .i64 a'] := (h.set_ 0 (.int .i64 k')).set_ 1 (.int .i64 a')
theorem fv_belowF {B : Nat} {w w1 : World} {g : Nat} {k a : Int} (h : Below B w w1) (hg : B ≤ g) : Below B w ((w1.setCell ⟨g, 0, none⟩ (.int .i64 k)).setCell ⟨g, 1, none⟩ (.int .i64 a)) := (h.setCell (p := ⟨g, 0, none⟩) hg _).setCell (p := ⟨g, 1, none⟩) hg _
set_option maxHeartbeats 8000000 in
theorem fn_main (A A' : Option Addr) (c c' : Nat) (p : List Pk) (per : Int) (ws : List Int) (S : Nat → Addr) (w : World) (h : RdP w w.heap.size A p) (h' : RdI w w.heap.size A' ws) (hS : All9 w w.heap.size S) (hfit : fitB p.length 80 = true) (h30 : ws.length ≤ 30) :
    Calls Tryd.prog 9 #[.slice A p.length c, .int .i64 per, .slice A' ws.length c'] w fun e w' => e = .returned (.bool true) ∧ Below w.heap.size w w' := by
  have hle : p.length ≤ 301 := by have := of_decide_eq_true hfit; omega
  have hl : p.length ≤ 9223372036854775807 := by omega
  have Hfit := Lib.hid hfit
  obtain ⟨i0, hi0, hz0, hz1, hz2⟩ := info_parts infoInt
  clear hfit
  go_enter Tryd.func9, Tryd.ntmps9
  go_wp2_with fail
  refine (ftagged_any S w _ (Nat.le_refl _) (hS.s.sub (by simp))).mono ?_
  rintro e w1 ⟨rfl, k1⟩
  go_wp2_with fail
  refine (fit_any A c p.length 80 _ hl).mono ?_
  rintro e wx ⟨rfl, rfl⟩
  rw [Hfit.out]
  go_wp2_with fail
  refine (ownPackets_any A c p w1 _ (h.below k1) (by omega)).mono ?_
  rintro e w2 ⟨A2, c2, rfl, o2, k2⟩
  have r2 := RdP.of_own o2
  have k2' := k1.trans (k2.mono k1.size)
  clear o2
  go_wp2_with (at_builtin; refine wpList_append_rd _ iCs rfl (.tmp 35) (.tmp 36) 35 rfl w2.heap.size 3 i0 (.int .i64 0) 1 8 Tryd.underlying35 hi0 hz0 hz1 hz2 rfl (by omega) iCs_len iCs_one (.slice none 0 0) 0 [] rfl ⟨by simp, .inl ⟨rfl, rfl⟩⟩ w.heap.size A' c' ws rfl (h'.below k2') (by simp only [maxLen]; omega) (by omega) (Nat.le_refl _) ?_; intro v3 w3 row3 g3 at3; simp only [Nat.zero_add, List.nil_append] at row3; obtain ⟨A3, c3, rfl⟩ := own_slice row3 (by omega); have k3 : Below w2.heap.size w2 w3 := (Below.refl _ _).grown g3 (Nat.le_refl _) (by simp [Value.ownBlock]))
  have k3' := k2'.trans (k3.mono k2'.size)
  have r3 : RdI w3 w3.heap.size A3 ws := Rd.of_own row3 (by omega) iCs_len
  refine (fairRun_any A2 A3 c2 c3 p per ws S w3 _ (Nat.le_refl _) ((r2.below k3).more k3.size) r3 (((hS.s.below k3').more k3'.size).sub (by simp)) hl (by omega)).mono ?_
  rintro e w4 ⟨A4, c4, v4, rfl, o4, e4, k4⟩
  have r4 := RdS.of_own o4
  have k4' := k3'.trans (k4.mono k3'.size)
  obtain ⟨l, hl4⟩ : ∃ l, l = fairV p per ws := ⟨_, rfl⟩
  rw [← hl4] at r4 ⊢
  have HL := Lib.hid hl4
  clear o4 r2 r3 row3 hl4
  go_wp2_with fail
  refine (ownPackets_any A c p w4 _ (h.below k4') (by omega)).mono ?_
  rintro e w5 ⟨A5, c5, rfl, o5, k5⟩
  have r5 := RdP.of_own o5
  have k5' := k4'.trans (k5.mono k4'.size)
  clear o5
  go_wp2_with (at_builtin; refine wpList_append_rd _ iCs rfl (.tmp 45) (.tmp 46) 35 rfl w5.heap.size 3 i0 (.int .i64 0) 1 8 Tryd.underlying35 hi0 hz0 hz1 hz2 rfl (by omega) iCs_len iCs_one (.slice none 0 0) 0 [] rfl ⟨by simp, .inl ⟨rfl, rfl⟩⟩ w.heap.size A' c' ws rfl (h'.below k5') (by simp only [maxLen]; omega) (by omega) (Nat.le_refl _) ?_; intro v6 w6 row6 g6 at6; simp only [Nat.zero_add, List.nil_append] at row6; obtain ⟨A6, c6, rfl⟩ := own_slice row6 (by omega); have k6 : Below w5.heap.size w5 w6 := (Below.refl _ _).grown g6 (Nat.le_refl _) (by simp [Value.ownBlock]))
  have k6' := k5'.trans (k6.mono k5'.size)
  have r6 : RdI w6 w6.heap.size A6 ws := Rd.of_own row6 (by omega) iCs_len
  refine (fairTags_any A5 A6 c5 c6 p per ws S w6 _ (Nat.le_refl _) ((r5.below k6).more k6.size) r6 (((hS.s.below k6').more k6'.size).sub (by simp)) hl (by omega)).mono ?_
  rintro e w7 ⟨A7, c7, v7, rfl, r7, e7, k7⟩
  have k7' := k6'.trans (k7.mono k6'.size)
  obtain ⟨m, hm7⟩ : ∃ m, m = tagV p per ws := ⟨_, rfl⟩
  rw [← hm7] at r7 ⊢
  have HM := Lib.hid hm7
  clear r5 r6 row6 hm7
  have k47 : Below w4.heap.size w4 w7 := k5.trans ((k6.mono k5.size).trans (k7.mono (Nat.le_trans k5.size k6.size)))
  go_wp2_with fail
  refine (linkFault_any A c p per w7 _ k7'.size (h.below k7') hl).mono ?_
  rintro e w8 ⟨rfl, k8⟩
  have k8' := k7'.trans (k8.mono k7'.size)
  have k48 := k47.trans (k8.mono k47.size)
  have z8 := k8'.size
  unfold fv
  obtain ⟨v, hv⟩ : ∃ v : World, v = w8.alloc (.cells #[.int .i64 (lookErr p per).1, .int .i64 (lookErr p per).2] 48) := ⟨_, rfl⟩
  have bf : Blk v w8.heap.size 48 #[.int .i64 (lookErr p per).1, .int .i64 (lookErr p per).2] := by rw [hv]; exact Blk.new _ _ _
  have k9 : Below w8.heap.size w8 v := by rw [hv]; exact (Below.refl _ _).alloc (Nat.le_refl _) _
  have z9 : w8.heap.size < v.heap.size := bf.lt
  have k9' := k8'.trans (k9.mono z8)
  have z9' := k9'.size
  have e4v : Er v w8.heap.size S v4 (fairErr p per ws).1 (fairErr p per ws).2 := ((e4.below k48).more k48.size).below k9
  have e7v : Er v w8.heap.size S v7 (fairErr p per ws).1 (fairErr p per ws).2 := ((e7.below k8).more k8.size).below k9
  have r4v : RdS v w8.heap.size A4 l := ((r4.below k48).more k48.size).below k9
  have r7v : RdI v w8.heap.size A7 m := ((r7.below k8).more k8.size).below k9
  have hSv := (hS.below k9').more z8
  clear e4 e7 r4 r7 k1 k2 k3 k4 k5 k6 k7 k2' k3' k4' k5' k6' k7' k47 k48
  by_cases hok : (lookErr p per).1 = 0
  · obtain ⟨hf, h300, hpk, h0, h1⟩ := lookErr_ok hok
    have hs := lookErr_sorted hok
    have hfe : fairErr p per ws = (weErr ws, -1) := if_pos hok
    rw [hf] at bf hv ⊢
    rw [hfe] at e4v e7v
    have bf' : Blk v w8.heap.size 48 #[.int .i64 0, .int .i64 (-1)] := bf
    have hv' : v = w8.alloc (.cells #[.int .i64 0, .int .i64 (-1)] 48) := hv
    have x0 : (w8.alloc (.cells #[.int .i64 0, .int .i64 (-1)] 48)).cell? ⟨w8.heap.size, 0, none⟩ = some (.int .i64 0) := by rw [← hv']; exact bf'.cell 0
    have Hv := Lib.hid hv'
    have BF := Lib.hid bf'
    have HFE := Lib.hid hfe
    have HS := Lib.hid hs
    have HP := Lib.hid hpk
    clear bf hv hf hok bf' hv' hfe hs hpk
    obtain ⟨en, hen⟩ : ∃ en, en = weErr ws := ⟨_, rfl⟩
    have Hen := Lib.hid hen
    rw [← hen] at e4v e7v
    clear hen
    have hen0 : 0 ≤ (en : Int) := Int.natCast_nonneg en
    go_wp2_with fail
    rw [← Hv.out]
    refine (weightsError_any A' c' ws v _ (h'.below k9') (by omega)).mono ?_
    rintro e wx ⟨rfl, rfl⟩
    rw [← Hen.out]
    clear x0
    go_wp2_with fail
    refine (bare_any en v).mono ?_
    rintro e w10 ⟨rfl, k10⟩
    have f10 := BF.out.below k10 z9
    have c0 := f10.cell 0
    have c1 := f10.cell 1
    have y0 := f10.frozen 0
    have y1 := f10.frozen 1
    simp only [List.getElem?_toArray, List.getElem?_cons_zero, List.getElem?_cons_succ] at c0 c1
    obtain ⟨w11, hw11⟩ : ∃ w11, w11 = (w10.setCell ⟨w8.heap.size, 0, none⟩ (.int .i64 en)).setCell ⟨w8.heap.size, 1, none⟩ (.int .i64 (-1)) := ⟨_, rfl⟩
    have f11 : Blk w11 w8.heap.size 48 #[.int .i64 en, .int .i64 (-1)] := by rw [hw11]; exact fv_storeF f10
    have k11 : Below w8.heap.size v w11 := by rw [hw11]; exact fv_belowF (k10.mono (Nat.le_of_lt z9)) (Nat.le_refl _)
    have k11' := k9'.trans (k11.mono z8)
    have z11 : w8.heap.size < w11.heap.size := f11.lt
    have z11' := k11'.size
    have x0 : ((w10.setCell ⟨w8.heap.size, 0, none⟩ (.int .i64 en)).setCell ⟨w8.heap.size, 1, none⟩ (.int .i64 (-1))).cell? ⟨w8.heap.size, 0, none⟩ = some (.int .i64 en) := by rw [← hw11]; exact f11.cell 0
    have x1 : ((w10.setCell ⟨w8.heap.size, 0, none⟩ (.int .i64 en)).setCell ⟨w8.heap.size, 1, none⟩ (.int .i64 (-1))).cell? ⟨w8.heap.size, 1, none⟩ = some (.int .i64 (-1)) := by rw [← hw11]; exact f11.cell 1
    have e411 := e4v.below k11
    have e711 := e7v.below k11
    have r411 := r4v.below k11
    have r711 := r7v.below k11
    have hS11 := hSv.below k11
    have Hw11 := Lib.hid hw11
    have F11 := Lib.hid f11
    unfold fv
    clear hw11 f11 f10 e4v e7v r4v r7v hSv
    by_cases hez : en = 0
    · subst hez
      have he : (fairErr p per ws).1 = 0 := by rw [HFE.out]; exact Hen.out.symm
      obtain ⟨_, _, h8, ho, _⟩ := fairErr_ok he
      have hwi := weIdx_none ho
      have Hl := Lib.hid (show l = fairL p per ws by rw [HL.out]; exact if_pos he)
      have Hm := Lib.hid (show m = tagL p per ws by rw [HM.out]; exact if_pos he)
      have Hll := Lib.hid (show l.length = p.length by rw [Hl.out]; exact (srv_perm (fairOk HP.out (wOk_of h8 hwi)) HP.out h0 h1 (s0 := fs0) rfl (fs0_ok p ws)).1)
      have Hml := Lib.hid (show m.length = p.length by rw [Hm.out]; exact tagL_len _ _ _)
      obtain rfl := e411.nil_of rfl
      obtain rfl := e711.nil_of rfl
      have HWI := Lib.hid hwi
      have H8 := Lib.hid h8
      have Hw0 := Lib.hid (show w11 = (w10.setCell ⟨w8.heap.size, 0, none⟩ (.int .i64 0)).setCell ⟨w8.heap.size, 1, none⟩ (.int .i64 (-1)) from Hw11.out)
      clear h8 ho hwi he
      go_wp2_with fail
      rw [← Hw0.out]
      refine (fairOf_any A A' c c' p per ws w11 _ z11' (h.below k11') (h'.below k11') HP.out HS.out h300 h0 h1 H8.out HWI.out).mono ?_
      rw [← Hl.out, ← Hm.out]
      rintro e w12 ⟨A12, c12, A13, c13, rfl, o12, r13, k12⟩
      have r12 := RdS.of_own o12
      clear o12
      go_wp2_with fail
      refine (sameSent_any A4 A12 c4 c12 l w12 w12.heap.size ((r411.below (k12.mono (Nat.le_of_lt z11))).more (Nat.le_trans (Nat.le_of_lt z11) k12.size)) r12 (by rw [Hll.out]; exact hl)).mono ?_
      rintro e w13 ⟨rfl, q13, hw13⟩
      have k13 : Below w11.heap.size w11 w13 := by rw [hw13]; exact below_drewN k12 q13
      have r713 := (r711.below (k13.mono (Nat.le_of_lt z11))).more (Nat.le_trans (Nat.le_of_lt z11) k13.size)
      have r1313 : RdI w13 w13.heap.size A13 m := by rw [hw13]; exact r13
      clear hw13 r12 c0 c1 y0 y1 x0 x1
      go_wp2_with fail
      refine (sameI_any A7 A13 c7 c13 m m w13 w13.heap.size r713 r1313 (by rw [Hml.out]; exact hl) (by rw [Hml.out]; exact hl)).mono ?_
      rintro e w14 ⟨rfl, q14, rfl⟩
      go_wp2_with fail
      go_ret
      exact ⟨by first | rfl | simp, below_drewN (k11'.trans (k13.mono z11')) q14⟩
    · have he1 : (0 : Int) < (en : Int) := by omega
      have he : ¬ (fairErr p per ws).1 = 0 := by rw [HFE.out]; show ¬ weErr ws = 0; rw [← Hen.out]; exact hez
      have Hl := Lib.hid (show l = [] by rw [HL.out]; exact if_neg he)
      have Hm := Lib.hid (show m = [] by rw [HM.out]; exact if_neg he)
      clear hez he
      rw [Hl.out, Hm.out]
      go_wp2_with fail
      first | rw [← Hw11.out] | skip
      refine (faulted2_any v4 en (-1) (-1) S w11 w8.heap.size (Nat.le_of_lt z11) hS11 e411 (.inr rfl)).mono ?_
      rintro e w12 ⟨rfl, k12⟩
      have F12 := F11.out.below k12 z11
      have d0 := F12.cell 0
      have d1 := F12.cell 1
      simp only [List.getElem?_toArray, List.getElem?_cons_zero, List.getElem?_cons_succ] at d0 d1
      have z12 : w8.heap.size ≤ w12.heap.size := Nat.le_trans (Nat.le_of_lt z11) k12.size
      have hS12 := hS11.below (k12.mono (Nat.le_of_lt z11))
      have e712 := e711.below (k12.mono (Nat.le_of_lt z11))
      clear F12 c0 c1 y0 y1 x0 x1
      go_wp2_with fail
      refine (faulted2_any v7 en (-1) (-1) S w12 w8.heap.size z12 hS12 e712 (.inr rfl)).mono ?_
      rintro e w13 ⟨rfl, k13⟩
      go_wp2_with fail
      go_ret
      exact ⟨by first | rfl | simp, k11'.trans ((k12.mono z11').trans (k13.mono (Nat.le_trans z11' k12.size)))⟩
  · have hfe : fairErr p per ws = lookErr p per := if_neg hok
    have he : ¬ (fairErr p per ws).1 = 0 := by rw [hfe]; exact hok
    have Hl := Lib.hid (show l = [] by rw [HL.out]; exact if_neg he)
    have Hm := Lib.hid (show m = [] by rw [HM.out]; exact if_neg he)
    rw [hfe] at e4v e7v
    have x1 : (0 : Int) < ((lookErr p per).1 : Int) := by omega
    have x2 : (((lookErr p per).1 : Int) == 0) = false := beq_eq_false_iff_ne.2 (by omega)
    have d0 : (w8.alloc (.cells #[.int .i64 (lookErr p per).1, .int .i64 (lookErr p per).2] 48)).cell? ⟨w8.heap.size, 0, none⟩ = some (.int .i64 (lookErr p per).1) := by rw [← hv]; exact bf.cell 0
    have d1 : (w8.alloc (.cells #[.int .i64 (lookErr p per).1, .int .i64 (lookErr p per).2] 48)).cell? ⟨w8.heap.size, 1, none⟩ = some (.int .i64 (lookErr p per).2) := by rw [← hv]; exact bf.cell 1
    have Hv := Lib.hid hv
    have BF := Lib.hid bf
    clear he hfe hok hv bf
    rw [Hl.out, Hm.out]
    go_wp2_with fail
    rw [← Hv.out]
    refine (faulted2_any v4 (lookErr p per).1 (lookErr p per).2 (lookErr p per).2 S v w8.heap.size (Nat.le_of_lt z9) hSv e4v (.inr rfl)).mono ?_
    rintro e w12 ⟨rfl, k12⟩
    have F12 := BF.out.below k12 z9
    have g0 := F12.cell 0
    have g1 := F12.cell 1
    simp only [List.getElem?_toArray, List.getElem?_cons_zero, List.getElem?_cons_succ] at g0 g1
    have z12 : w8.heap.size ≤ w12.heap.size := Nat.le_trans (Nat.le_of_lt z9) k12.size
    have hS12 := hSv.below (k12.mono (Nat.le_of_lt z9))
    have e712 := e7v.below (k12.mono (Nat.le_of_lt z9))
    clear F12 d0 d1
    go_wp2_with fail
    refine (faulted2_any v7 (lookErr p per).1 (lookErr p per).2 (lookErr p per).2 S w12 w8.heap.size z12 hS12 e712 (.inr rfl)).mono ?_
    rintro e w13 ⟨rfl, k13⟩
    go_wp2_with fail
    go_ret
    exact ⟨by first | rfl | simp, k9'.trans ((k12.mono z9').trans (k13.mono (Nat.le_trans z9' k12.size)))⟩
theorem fairRuns_any (A : Option Addr) (c : Nat) (p : List Pk) (per : Int) (A' : Option Addr) (c' : Nat) (ws : List Int) (S : Nat → Addr) (w : World) (h : RdP w w.heap.size A p) (h' : RdI w w.heap.size A' ws) (hS : All9 w w.heap.size S) (hl : p.length ≤ 9223372036854775807) (hl' : ws.length ≤ 9223372036854775807) :
    Calls Tryd.prog 9 #[.slice A p.length c, .int .i64 per, .slice A' ws.length c'] w fun e w' => e = .returned (.bool true) ∧ Below w.heap.size w w' := by
  cases hfit : fitB p.length 80
  · have Hfit := Lib.hid hfit
    clear hfit
    go_enter Tryd.func9, Tryd.ntmps9
    go_wp2_with fail
    refine (ftagged_any S w _ (Nat.le_refl _) (hS.s.sub (by simp))).mono ?_
    rintro e w1 ⟨rfl, k1⟩
    go_wp2_with fail
    refine (fit_any A c p.length 80 _ hl).mono ?_
    rintro e wx ⟨rfl, rfl⟩
    rw [Hfit.out]
    go_wp2_with fail
    go_ret
    exact ⟨rfl, k1⟩
  · by_cases h30 : ws.length ≤ 30
    · exact fn_main A A' c c' p per ws S w h h' hS hfit h30
    · have Hfit := Lib.hid hfit
      have h31 : (30 : Int) < (ws.length : Int) := by omega
      clear hfit h30
      go_enter Tryd.func9, Tryd.ntmps9
      go_wp2_with fail
      refine (ftagged_any S w _ (Nat.le_refl _) (hS.s.sub (by simp))).mono ?_
      rintro e w1 ⟨rfl, k1⟩
      go_wp2_with fail
      refine (fit_any A c p.length 80 _ hl).mono ?_
      rintro e wx ⟨rfl, rfl⟩
      rw [Hfit.out]
      go_wp2_with fail
      go_ret
      exact ⟨rfl, k1⟩
end Go.Proofs.YtkkecnofgmpekaaDoor
