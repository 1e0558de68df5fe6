/- The law RankRuns returns true, whatever its arguments, and changes nothing that was there. Condition: the nine sentinels lie in their variables, apart; errors.errorType holds the type error. -/
import Derived.Test.YtkkecnofgmpekaaDoorRankOf
import Derived.Test.YtkkecnofgmpekaaDoorLateLaw
import Derived.Test.YtkkecnofgmpekaaDoorFifoRuns
namespace Go.Proofs.YtkkecnofgmpekaaDoor
open Go.RowKit
set_option maxRecDepth 100000
def rrL (p : List Pk) (per : Int) (ranks : List Int) : List Sn := if (rankErr p per ranks 100).1 = 0 then leastL p per (rankKey p ranks) else []
def rdL (p : List Pk) (per : Int) (dues : List Int) : List Sn := if (rankErr p per dues 1099511627776).1 = 0 then leastL p per (dueKey p dues) else []
theorem rankRun_any (A A' : Option Addr) (c c' : Nat) (p : List Pk) (per : Int) (ranks : List Int) (S : Nat → Addr) (w : World) (B : Nat) (hB : B ≤ w.heap.size) (h : RdP w B A p) (h' : RdI w B A' ranks) (hS : Snt w B S [2, 3, 5]) (hl : p.length ≤ 9223372036854775807) (hl' : ranks.length ≤ 9223372036854775807) :
    Calls Tryd.prog 19 #[.slice A p.length c, .int .i64 per, .slice A' ranks.length c'] w (EndOwnEr Sn.cs 3 34 (rrL p per ranks) S (rankErr p per ranks 100).1 (rankErr p per ranks 100).2 w) := by
  unfold rrL
  by_cases hok : (rankErr p per ranks 100).1 = 0
  · rw [if_pos hok]; exact rankRun_ok A A' c c' p per ranks S w B hB h h' hS hl hl' hok
  · rw [if_neg hok]; exact rankRun_bad A A' c c' p per ranks S w B hB h h' hS hl hl' hok
theorem rankDue_any (A A' : Option Addr) (c c' : Nat) (p : List Pk) (per : Int) (ranks : List Int) (S : Nat → Addr) (w : World) (B : Nat) (hB : B ≤ w.heap.size) (h : RdP w B A p) (h' : RdI w B A' ranks) (hS : Snt w B S [2, 3, 5]) (hl : p.length ≤ 9223372036854775807) (hl' : ranks.length ≤ 9223372036854775807) :
    Calls Tryd.prog 24 #[.slice A p.length c, .int .i64 per, .slice A' ranks.length c'] w (EndOwnEr Sn.cs 3 34 (rdL p per ranks) S (rankErr p per ranks 1099511627776).1 (rankErr p per ranks 1099511627776).2 w) := by
  unfold rdL
  by_cases hok : (rankErr p per ranks 1099511627776).1 = 0
  · rw [if_pos hok]; exact rankDue_ok A A' c c' p per ranks S w B hB h h' hS hl hl' hok
  · rw [if_neg hok]; exact rankDue_bad A A' c c' p per ranks S w B hB h h' hS hl hl' hok
set_option maxHeartbeats 8000000 in
theorem rr_main (A A' A'' : Option Addr) (c c' c'' : Nat) (p : List Pk) (per : Int) (ranks dues : List Int) (S : Nat → Addr) (w : World) (h : RdP w w.heap.size A p) (h' : RdI w w.heap.size A' ranks) (h'' : RdI w w.heap.size A'' dues) (hS : All9 w w.heap.size S) (hfit : fitB p.length 80 = true) (h30 : ranks.length ≤ 30) (h31 : dues.length ≤ 30) :
    Calls Tryd.prog 14 #[.slice A p.length c, .int .i64 per, .slice A' ranks.length c', .slice A'' dues.length c''] w fun e w' => e = .returned (.bool true) ∧ Below w.heap.size w w' := by
  have hle : p.length ≤ 301 := by have := of_decide_eq_true hfit; omega
  have hl : p.length ≤ 9223372036854775807 := by omega
  have Hfit := Lib.hid hfit
  obtain ⟨i0, hi0, hz0, hz1, hz2⟩ := info_parts infoInt
  clear hfit
  go_enter Tryd.func14, Tryd.ntmps14
  go_wp2_with fail
  refine (sends_any S w _ (Nat.le_refl _) (hS.s.sub (by simp))).mono ?_
  rintro e w1 ⟨rfl, k1⟩
  go_wp2_with fail
  refine (fit_any A c p.length 80 _ hl).mono ?_
  rintro e wx ⟨rfl, rfl⟩
  rw [Hfit.out]
  go_wp2_with fail
  refine (ownPackets_any A c p w1 _ (h.below k1) (by omega)).mono ?_
  rintro e w2 ⟨A2, c2, rfl, o2, k2⟩
  have r2 := RdP.of_own o2
  have k2' := k1.trans (k2.mono k1.size)
  clear o2
  go_wp2_with (at_builtin; refine wpList_append_rd _ iCs rfl (.tmp 44) (.tmp 45) 35 rfl w2.heap.size 3 i0 (.int .i64 0) 1 8 Tryd.underlying35 hi0 hz0 hz1 hz2 rfl (by omega) iCs_len iCs_one (.slice none 0 0) 0 [] rfl ⟨by simp, .inl ⟨rfl, rfl⟩⟩ w.heap.size A' c' ranks rfl (h'.below k2') (by simp only [maxLen]; omega) (by omega) (Nat.le_refl _) ?_; intro v3 w3 row3 g3 at3; simp only [Nat.zero_add, List.nil_append] at row3; obtain ⟨A3, c3, rfl⟩ := own_slice row3 (by omega); have k3 : Below w2.heap.size w2 w3 := (Below.refl _ _).grown g3 (Nat.le_refl _) (by simp [Value.ownBlock]))
  have k3' := k2'.trans (k3.mono k2'.size)
  have r3 : RdI w3 w3.heap.size A3 ranks := Rd.of_own row3 (by omega) iCs_len
  refine (rankRun_any A2 A3 c2 c3 p per ranks S w3 _ (Nat.le_refl _) ((r2.below k3).more k3.size) r3 (((hS.s.below k3').more k3'.size).sub (by simp)) hl (by omega)).mono ?_
  rintro e w4 ⟨A4, c4, v4, rfl, o4, e4, k4⟩
  have r4 := RdS.of_own o4
  have k4' := k3'.trans (k4.mono k3'.size)
  obtain ⟨l, hl4⟩ : ∃ l, l = rrL p per ranks := ⟨_, rfl⟩
  rw [← hl4] at r4 ⊢
  have HL := Lib.hid hl4
  clear o4 r2 r3 row3 hl4
  go_wp2_with fail
  refine (ownPackets_any A c p w4 _ (h.below k4') (by omega)).mono ?_
  rintro e w5 ⟨A5, c5, rfl, o5, k5⟩
  have r5 := RdP.of_own o5
  have k5' := k4'.trans (k5.mono k4'.size)
  clear o5
  go_wp2_with (at_builtin; refine wpList_append_rd _ iCs rfl (.tmp 54) (.tmp 55) 35 rfl w5.heap.size 3 i0 (.int .i64 0) 1 8 Tryd.underlying35 hi0 hz0 hz1 hz2 rfl (by omega) iCs_len iCs_one (.slice none 0 0) 0 [] rfl ⟨by simp, .inl ⟨rfl, rfl⟩⟩ w.heap.size A'' c'' dues rfl (h''.below k5') (by simp only [maxLen]; omega) (by omega) (Nat.le_refl _) ?_; intro v6 w6 row6 g6 at6; simp only [Nat.zero_add, List.nil_append] at row6; obtain ⟨A6, c6, rfl⟩ := own_slice row6 (by omega); have k6 : Below w5.heap.size w5 w6 := (Below.refl _ _).grown g6 (Nat.le_refl _) (by simp [Value.ownBlock]))
  have k6' := k5'.trans (k6.mono k5'.size)
  have r6 : RdI w6 w6.heap.size A6 dues := Rd.of_own row6 (by omega) iCs_len
  refine (rankDue_any A5 A6 c5 c6 p per dues S w6 _ (Nat.le_refl _) ((r5.below k6).more k6.size) r6 (((hS.s.below k6').more k6'.size).sub (by simp)) hl (by omega)).mono ?_
  rintro e w7 ⟨A7, c7, v7, rfl, o7, e7, k7⟩
  have r7 := RdS.of_own o7
  have k7' := k6'.trans (k7.mono k6'.size)
  obtain ⟨m, hm7⟩ : ∃ m, m = rdL p per dues := ⟨_, rfl⟩
  rw [← hm7] at r7 ⊢
  have HM := Lib.hid hm7
  clear o7 r5 r6 row6 hm7
  have k47 : Below w4.heap.size w4 w7 := k5.trans ((k6.mono k5.size).trans (k7.mono (Nat.le_trans k5.size k6.size)))
  go_wp2_with fail
  refine (linkFault_any A c p per w7 _ k7'.size (h.below k7') hl).mono ?_
  rintro e w8 ⟨rfl, k8⟩
  have k8' := k7'.trans (k8.mono k7'.size)
  have k48 := k47.trans (k8.mono k47.size)
  have z8 := k8'.size
  unfold fv
  obtain ⟨v, hv⟩ : ∃ v : World, v = (w8.alloc (.cells #[.int .i64 (lookErr p per).1, .int .i64 (lookErr p per).2] 48)).alloc (.cells #[.int .i64 (lookErr p per).1, .int .i64 (lookErr p per).2] 48) := ⟨_, rfl⟩
  have bf : Blk v w8.heap.size 48 #[.int .i64 (lookErr p per).1, .int .i64 (lookErr p per).2] := by rw [hv]; exact (Blk.new _ _ _).alloc _
  have bg : Blk v (w8.heap.size + 1) 48 #[.int .i64 (lookErr p per).1, .int .i64 (lookErr p per).2] := by rw [hv]; exact heap_alloc_new2 _ _ _
  have k9 : Below w8.heap.size w8 v := by rw [hv]; exact ((Below.refl _ _).alloc (Nat.le_refl _) _).alloc (by simp) _
  have z9 : w8.heap.size + 1 < v.heap.size := bg.lt
  have k9' := k8'.trans (k9.mono z8)
  have z9' := k9'.size
  have e4v : Er v w8.heap.size S v4 (rankErr p per ranks 100).1 (rankErr p per ranks 100).2 := ((e4.below k48).more k48.size).below k9
  have e7v : Er v w8.heap.size S v7 (rankErr p per dues 1099511627776).1 (rankErr p per dues 1099511627776).2 := ((e7.below k8).more k8.size).below k9
  have r4v : RdS v w8.heap.size A4 l := ((r4.below k48).more k48.size).below k9
  have r7v : RdS v w8.heap.size A7 m := ((r7.below k8).more k8.size).below k9
  clear e4 e7 r4 r7 k1 k2 k3 k4 k5 k6 k7 k2' k3' k4' k5' k6' k7' k47 k48
  by_cases hok : (lookErr p per).1 = 0
  · obtain ⟨hf, h300, hpk, h0, h1⟩ := lookErr_ok hok
    have hs := lookErr_sorted hok
    have Hr := Lib.hid (show rankErr p per ranks 100 = (numErr ranks 100, -1) from if_pos hok)
    have Hd := Lib.hid (show rankErr p per dues 1099511627776 = (numErr dues 1099511627776, -1) from if_pos hok)
    have Hok := Lib.hid hok
    rw [hf] at bf bg hv ⊢
    rw [Hr.out] at e4v
    rw [Hd.out] at e7v
    have bf' : Blk v w8.heap.size 48 #[.int .i64 0, .int .i64 (-1)] := bf
    have bg' : Blk v (w8.heap.size + 1) 48 #[.int .i64 0, .int .i64 (-1)] := bg
    have Hv := Lib.hid (show v = (w8.alloc (.cells #[.int .i64 0, .int .i64 (-1)] 48)).alloc (.cells #[.int .i64 0, .int .i64 (-1)] 48) from hv)
    have BF := Lib.hid bf'
    have BG := Lib.hid bg'
    have BF0 := Lib.hid (show ((w8.alloc (.cells #[.int .i64 0, .int .i64 (-1)] 48)).alloc (.cells #[.int .i64 0, .int .i64 (-1)] 48)).cell? ⟨w8.heap.size, 0, none⟩ = some (.int .i64 0) by rw [← Hv.out]; exact bf'.cell 0)
    have x0 := BF0.out
    clear bf bg hv hf hok bf' bg'
    obtain ⟨en, hen⟩ : ∃ en, en = numErr ranks 100 := ⟨_, rfl⟩
    have Hen := Lib.hid hen
    have Hen2 := Lib.hid (show numE ranks 0 100 = en by rw [hen, numE_eq])
    rw [← hen] at e4v
    obtain ⟨dn, hdn⟩ : ∃ dn, dn = numErr dues 1099511627776 := ⟨_, rfl⟩
    have Hdn := Lib.hid hdn
    have Hdn2 := Lib.hid (show numE dues 0 1099511627776 = dn by rw [hdn, numE_eq])
    rw [← hdn] at e7v
    clear hen hdn
    have hen0 : 0 ≤ (en : Int) := Int.natCast_nonneg en
    have hdn0 : 0 ≤ (dn : Int) := Int.natCast_nonneg dn
    go_wp2_with fail
    rw [← Hv.out]
    refine (numbersError_any A' c' ranks 0 100 v _ (h'.below k9') (by omega)).mono ?_
    rintro e wx ⟨rfl, rfl⟩
    rw [Hen2.out]
    clear x0
    go_wp2_with fail
    refine (bare_any en v).mono ?_
    rintro e w10 ⟨rfl, k10⟩
    have f10 := BF.out.below k10 (by omega)
    have g10 := BG.out.below k10 z9
    have c0 := f10.cell 0
    have c1 := f10.cell 1
    have y0 := f10.frozen 0
    have y1 := f10.frozen 1
    simp only [List.getElem?_toArray, List.getElem?_cons_zero, List.getElem?_cons_succ] at c0 c1
    obtain ⟨w11, hw11⟩ : ∃ w11, w11 = (w10.setCell ⟨w8.heap.size, 0, none⟩ (.int .i64 en)).setCell ⟨w8.heap.size, 1, none⟩ (.int .i64 (-1)) := ⟨_, rfl⟩
    have f11 : Blk w11 w8.heap.size 48 #[.int .i64 en, .int .i64 (-1)] := by rw [hw11]; exact fv_store f10
    have g11 : Blk w11 (w8.heap.size + 1) 48 #[.int .i64 0, .int .i64 (-1)] := by rw [hw11]; exact (g10.far (p := ⟨w8.heap.size, 0, none⟩) (by simp) _).far (p := ⟨w8.heap.size, 1, none⟩) (by simp) _
    have k11 : Below w8.heap.size v w11 := by rw [hw11]; exact fv_below (k10.mono (by omega)) (Nat.le_refl _)
    have k11' := k9'.trans (k11.mono z8)
    have z11 : w8.heap.size + 1 < w11.heap.size := g11.lt
    have Hw11 := Lib.hid hw11
    have F11 := Lib.hid f11
    have G11 := Lib.hid g11
    unfold fv
    clear hw11 f11 g11 f10 g10
    go_wp2_with fail
    rw [← Hw11.out]
    refine (numbersError_any A'' c'' dues 0 1099511627776 w11 _ (h''.below k11') (by omega)).mono ?_
    rintro e wx ⟨rfl, rfl⟩
    rw [Hdn2.out]
    clear c0 c1 y0 y1
    go_wp2_with fail
    refine (bare_any dn w11).mono ?_
    rintro e w12 ⟨rfl, k12⟩
    have f12 := F11.out.below k12 (by omega)
    have g12 := G11.out.below k12 z11
    have c0 := g12.cell 0
    have c1 := g12.cell 1
    have y0 := g12.frozen 0
    have y1 := g12.frozen 1
    simp only [List.getElem?_toArray, List.getElem?_cons_zero, List.getElem?_cons_succ] at c0 c1
    obtain ⟨w13, hw13⟩ : ∃ w13, w13 = (w12.setCell ⟨w8.heap.size + 1, 0, none⟩ (.int .i64 dn)).setCell ⟨w8.heap.size + 1, 1, none⟩ (.int .i64 (-1)) := ⟨_, rfl⟩
    have f13 : Blk w13 w8.heap.size 48 #[.int .i64 en, .int .i64 (-1)] := by rw [hw13]; exact (f12.far (p := ⟨w8.heap.size + 1, 0, none⟩) (by simp) _).far (p := ⟨w8.heap.size + 1, 1, none⟩) (by simp) _
    have g13 : Blk w13 (w8.heap.size + 1) 48 #[.int .i64 dn, .int .i64 (-1)] := by rw [hw13]; exact fv_store g12
    have k13 : Below w8.heap.size v w13 := k11.trans (by rw [hw13]; exact fv_below (k12.mono (by omega)) (by omega))
    have k13' := k9'.trans (k13.mono z8)
    have z13 : w8.heap.size + 1 < w13.heap.size := g13.lt
    have z13' := k13'.size
    have X0 := Lib.hid (show ((w12.setCell ⟨w8.heap.size + 1, 0, none⟩ (.int .i64 dn)).setCell ⟨w8.heap.size + 1, 1, none⟩ (.int .i64 (-1))).cell? ⟨w8.heap.size, 0, none⟩ = some (.int .i64 en) by rw [← hw13]; exact f13.cell 0)
    have X1 := Lib.hid (show ((w12.setCell ⟨w8.heap.size + 1, 0, none⟩ (.int .i64 dn)).setCell ⟨w8.heap.size + 1, 1, none⟩ (.int .i64 (-1))).cell? ⟨w8.heap.size, 1, none⟩ = some (.int .i64 (-1)) by rw [← hw13]; exact f13.cell 1)
    have x0 := X0.out
    have x1 := X1.out
    have e413 := e4v.below k13
    have e713 := e7v.below k13
    have r413 := r4v.below k13
    have r713 := r7v.below k13
    have hS13 := (hS.below k13').more z8
    have Hw13 := Lib.hid hw13
    have F13 := Lib.hid f13
    have G13 := Lib.hid g13
    unfold fv
    clear hw13 f13 g13 f12 g12 e4v e7v r4v r7v
    by_cases hez : en = 0
    · subst hez
      obtain ⟨h8, hrk⟩ := numErr_ok Hen.out.symm
      have H8 := Lib.hid h8
      clear h8
      have Hl := Lib.hid (show l = leastL p per (rankKey p ranks) by rw [HL.out]; unfold rrL; rw [if_pos (by rw [Hr.out]; exact Hen.out.symm)])
      have Hll := Lib.hid (show l.length = p.length by rw [Hl.out]; exact leastL_len hpk h0 h1)
      obtain rfl := e413.nil_of rfl
      go_wp2_with fail
      first | rw [← Hw13.out] | skip
      refine (rankOf_any A A' c c' p per ranks w13 _ z13' (h.below k13') (h'.below k13') hpk hs h300 h0 h1 H8.out).mono ?_
      rw [← Hl.out]
      rintro e w14 ⟨A14, c14, rfl, o14, k14⟩
      have r14 := RdS.of_own o14
      clear o14 H8
      go_wp2_with fail
      refine (sameSent_any A4 A14 c4 c14 l w14 w14.heap.size ((r413.below (k14.mono (by omega))).more (Nat.le_trans (by omega) k14.size)) r14 (by rw [Hll.out]; exact hl)).mono ?_
      rintro e w15 ⟨rfl, q15, hw15⟩
      have k15 : Below w13.heap.size w13 w15 := by rw [hw15]; exact below_drewN k14 q15
      have G15 := Lib.hid (G13.out.below k15 z13)
      have k15' := k13'.trans (k15.mono z13')
      have z15 : w8.heap.size ≤ w15.heap.size := Nat.le_trans (by omega) k15.size
      have e715 := e713.below (k15.mono (by omega))
      have r715 := r713.below (k15.mono (by omega))
      have hS15 := (hS.below k15').more z8
      have HwL := Lib.hid (rfl : w15 = w15)
      clear hw15 r14 c0 c1 y0 y1 x0 x1
      have d0 := G15.out.cell 0
      have d1 := G15.out.cell 1
      simp only [List.getElem?_toArray, List.getElem?_cons_zero, List.getElem?_cons_succ] at d0 d1
      by_cases hdz : dn = 0
      · subst hdz
        obtain ⟨h8, hdu⟩ := numErr_ok Hdn.out.symm
        have Hm := Lib.hid (show m = leastL p per (dueKey p dues) by rw [HM.out]; unfold rdL; rw [if_pos (by rw [Hd.out]; exact Hdn.out.symm)])
        have Hml := Lib.hid (show m.length = p.length by rw [Hm.out]; exact leastL_len hpk h0 h1)
        have hts : (∀ x ∈ m, 0 ≤ x.f ∧ x.f ≤ x.t ∧ x.t ≤ 1099511627776 + 1500000 * p.length) ∧ ∀ x ∈ m, 0 ≤ x.p ∧ x.p.toNat < p.length := by
          rw [Hm.out]
          exact srv_top (leastOk (dueKey p dues) p.length) hpk h0 h1 (s0 := []) rfl ⟨by simp, List.Pairwise.nil⟩
        have Hts := Lib.hid (show ∀ x ∈ m, tame50 x.t from fun x hx => by have := hts.1 x hx; unfold tame50; omega)
        have Hsp := Lib.hid (show ∀ x ∈ m, 0 ≤ x.p ∧ x.p < p.length from fun x hx => by have := hts.2 x hx; omega)
        have Hle := Lib.hid (show lateErr p m dues = (0, -1) by
          unfold lateErr
          have hp0 : (pktErr p).1 = 0 := by
            have := Hok.out
            unfold lookErr at this
            by_cases h9 : (pktErr p).1 ≠ 0
            · rw [if_pos h9] at this; exact absurd this h9
            · omega
          rw [if_neg (by omega), if_neg (by rw [← Hdn.out]; simp)]
          unfold delErr
          rw [if_pos (sentBad_none hts.2 0)])
        have Hlv := Lib.hid (show lateV p m dues = lateGo p dues 0 m by unfold lateV; rw [Hle.out]; rfl)
        clear hts
        obtain rfl := e715.nil_of rfl
        have H8 := Lib.hid h8
        clear h8
        go_wp2_with fail
        first | rw [← HwL.out] | skip
        refine (duesOf_any A A'' c c'' p per dues w15 _ k15'.size (h.below k15') (h''.below k15') hpk hs h300 h0 h1 H8.out hdu).mono ?_
        rw [← Hm.out]
        rintro e w16 ⟨A16, c16, rfl, o16, k16⟩
        have r16 := RdS.of_own o16
        have k16' := k15'.trans (k16.mono k15'.size)
        clear o16
        go_wp2_with fail
        refine (sameSent_any A7 A16 c7 c16 m w16 w16.heap.size ((r715.below (k16.mono z15)).more (Nat.le_trans z15 k16.size)) r16 (by rw [Hml.out]; exact hl)).mono ?_
        rintro e w17 ⟨rfl, q17, hw17⟩
        have k17 : Below w15.heap.size w15 w17 := by rw [hw17]; exact below_drewN k16 q17
        have k17' := k15'.trans (k17.mono k15'.size)
        have r717 := r715.below (k17.mono z15)
        clear r16 hw17
        go_wp2_with fail
        refine (ownPackets_any A c p w17 _ (h.below k17') (by omega)).mono ?_
        rintro e w18 ⟨A18, c18, rfl, o18, k18⟩
        have r18 := RdP.of_own o18
        have k18' := k17'.trans (k18.mono k17'.size)
        have z17 : w8.heap.size ≤ w17.heap.size := Nat.le_trans z15 k17.size
        have r718 := r717.below (k18.mono z17)
        clear o18
        go_wp2_with fail
        refine (ownSent_any A7 c7 m w18 _ r718 (by rw [Hml.out]; omega)).mono ?_
        rintro e w19 ⟨A19, c19, rfl, o19, k19⟩
        have r19 := RdS.of_own o19
        have k19' := k18'.trans (k19.mono k18'.size)
        clear o19
        go_wp2_with (at_builtin; refine wpList_append_rd _ iCs rfl (.tmp 123) (.tmp 124) 35 rfl w19.heap.size 3 i0 (.int .i64 0) 1 8 Tryd.underlying35 hi0 hz0 hz1 hz2 rfl (by omega) iCs_len iCs_one (.slice none 0 0) 0 [] rfl ⟨by simp, .inl ⟨rfl, rfl⟩⟩ w.heap.size A'' c'' dues rfl (h''.below k19') (by simp only [maxLen]; omega) (by omega) (Nat.le_refl _) ?_; intro v20 w20 row20 g20 at20; simp only [Nat.zero_add, List.nil_append] at row20; obtain ⟨A20, c20, rfl⟩ := own_slice row20 (by omega); have k20 : Below w19.heap.size w19 w20 := (Below.refl _ _).grown g20 (Nat.le_refl _) (by simp [Value.ownBlock]))
        have k20' := k19'.trans (k20.mono k19'.size)
        have r20 : RdI w20 w20.heap.size A20 dues := Rd.of_own row20 (by omega) iCs_len
        refine (late_any A18 A19 A20 c18 c19 c20 p m dues S w20 _ (Nat.le_refl _) ((r18.below (k19.trans (k20.mono k19.size))).more (Nat.le_trans k19.size k20.size)) ((r19.below k20).more k20.size) r20 (((hS.s.below k20').more k20'.size).sub (by simp)) hl (by rw [Hml.out]; omega) (by omega) Hts.out).mono ?_
        rw [Hle.out, Hlv.out]
        rintro e w21 ⟨v21, rfl, e21, k21⟩
        obtain rfl := e21.nil_of rfl
        have k21' := k20'.trans (k21.mono k20'.size)
        have r721 : RdS w21 w8.heap.size A7 m := r718.below ((k19.trans ((k20.mono k19.size).trans (k21.mono (Nat.le_trans k19.size k20.size)))).mono (Nat.le_trans z17 k18.size))
        clear r18 r19 r20 row20 e21
        go_wp2_with fail
        refine (lateOf_any A A7 A'' c c7 c'' p m dues w21 w21.heap.size (Nat.le_refl _) ((h.below k21').more k21'.size) (r721.more (Nat.le_trans z17 (Nat.le_trans k18.size (Nat.le_trans k19.size (Nat.le_trans k20.size k21.size))))) ((h''.below k21').more k21'.size) hl (by rw [Hml.out]; omega) hpk H8.out hdu Hsp.out Hts.out).mono ?_
        rintro e w22 ⟨rfl, k22⟩
        go_wp2_with fail
        go_ret
        exact ⟨by first | rfl | simp, k21'.trans (k22.mono k21'.size)⟩
      · have hd1 : (0 : Int) < (dn : Int) := by omega
        have Hm := Lib.hid (show m = [] by rw [HM.out]; unfold rdL; rw [if_neg (by rw [Hd.out]; show numErr dues 1099511627776 ≠ 0; rw [← Hdn.out]; exact hdz)])
        clear hdz
        rw [Hm.out]
        go_wp2_with fail
        first | rw [← HwL.out] | skip
        refine (faulted2_any v7 dn (-1) (-1) S w15 w8.heap.size z15 hS15 e715 (.inr rfl)).mono ?_
        rintro e w16 ⟨rfl, k16⟩
        go_wp2_with fail
        go_ret
        exact ⟨by first | rfl | simp, k15'.trans (k16.mono k15'.size)⟩
    · have he1 : (0 : Int) < (en : Int) := by omega
      have Hl := Lib.hid (show l = [] by rw [HL.out]; unfold rrL; rw [if_neg (by rw [Hr.out]; show numErr ranks 100 ≠ 0; rw [← Hen.out]; exact hez)])
      clear hez
      rw [Hl.out]
      go_wp2_with fail
      first | rw [← Hw13.out] | skip
      refine (faulted2_any v4 en (-1) (-1) S w13 w8.heap.size (by omega) hS13 e413 (.inr rfl)).mono ?_
      rintro e w15 ⟨rfl, k15⟩
      have G15 := Lib.hid (G13.out.below k15 z13)
      have k15' := k13'.trans (k15.mono z13')
      have z15 : w8.heap.size ≤ w15.heap.size := Nat.le_trans (by omega) k15.size
      have e715 := e713.below (k15.mono (by omega))
      have r715 := r713.below (k15.mono (by omega))
      have hS15 := (hS.below k15').more z8
      have HwL := Lib.hid (rfl : w15 = w15)
      clear c0 c1 y0 y1 x0 x1
      have d0 := G15.out.cell 0
      have d1 := G15.out.cell 1
      simp only [List.getElem?_toArray, List.getElem?_cons_zero, List.getElem?_cons_succ] at d0 d1
      by_cases hdz : dn = 0
      · subst hdz
        obtain ⟨h8, hdu⟩ := numErr_ok Hdn.out.symm
        have Hm := Lib.hid (show m = leastL p per (dueKey p dues) by rw [HM.out]; unfold rdL; rw [if_pos (by rw [Hd.out]; exact Hdn.out.symm)])
        have Hml := Lib.hid (show m.length = p.length by rw [Hm.out]; exact leastL_len hpk h0 h1)
        have hts : (∀ x ∈ m, 0 ≤ x.f ∧ x.f ≤ x.t ∧ x.t ≤ 1099511627776 + 1500000 * p.length) ∧ ∀ x ∈ m, 0 ≤ x.p ∧ x.p.toNat < p.length := by
          rw [Hm.out]
          exact srv_top (leastOk (dueKey p dues) p.length) hpk h0 h1 (s0 := []) rfl ⟨by simp, List.Pairwise.nil⟩
        have Hts := Lib.hid (show ∀ x ∈ m, tame50 x.t from fun x hx => by have := hts.1 x hx; unfold tame50; omega)
        have Hsp := Lib.hid (show ∀ x ∈ m, 0 ≤ x.p ∧ x.p < p.length from fun x hx => by have := hts.2 x hx; omega)
        have Hle := Lib.hid (show lateErr p m dues = (0, -1) by
          unfold lateErr
          have hp0 : (pktErr p).1 = 0 := by
            have := Hok.out
            unfold lookErr at this
            by_cases h9 : (pktErr p).1 ≠ 0
            · rw [if_pos h9] at this; exact absurd this h9
            · omega
          rw [if_neg (by omega), if_neg (by rw [← Hdn.out]; simp)]
          unfold delErr
          rw [if_pos (sentBad_none hts.2 0)])
        have Hlv := Lib.hid (show lateV p m dues = lateGo p dues 0 m by unfold lateV; rw [Hle.out]; rfl)
        clear hts
        obtain rfl := e715.nil_of rfl
        have H8 := Lib.hid h8
        clear h8
        go_wp2_with fail
        first | rw [← HwL.out] | skip
        refine (duesOf_any A A'' c c'' p per dues w15 _ k15'.size (h.below k15') (h''.below k15') hpk hs h300 h0 h1 H8.out hdu).mono ?_
        rw [← Hm.out]
        rintro e w16 ⟨A16, c16, rfl, o16, k16⟩
        have r16 := RdS.of_own o16
        have k16' := k15'.trans (k16.mono k15'.size)
        clear o16
        go_wp2_with fail
        refine (sameSent_any A7 A16 c7 c16 m w16 w16.heap.size ((r715.below (k16.mono z15)).more (Nat.le_trans z15 k16.size)) r16 (by rw [Hml.out]; exact hl)).mono ?_
        rintro e w17 ⟨rfl, q17, hw17⟩
        have k17 : Below w15.heap.size w15 w17 := by rw [hw17]; exact below_drewN k16 q17
        have k17' := k15'.trans (k17.mono k15'.size)
        have r717 := r715.below (k17.mono z15)
        clear r16 hw17
        go_wp2_with fail
        refine (ownPackets_any A c p w17 _ (h.below k17') (by omega)).mono ?_
        rintro e w18 ⟨A18, c18, rfl, o18, k18⟩
        have r18 := RdP.of_own o18
        have k18' := k17'.trans (k18.mono k17'.size)
        have z17 : w8.heap.size ≤ w17.heap.size := Nat.le_trans z15 k17.size
        have r718 := r717.below (k18.mono z17)
        clear o18
        go_wp2_with fail
        refine (ownSent_any A7 c7 m w18 _ r718 (by rw [Hml.out]; omega)).mono ?_
        rintro e w19 ⟨A19, c19, rfl, o19, k19⟩
        have r19 := RdS.of_own o19
        have k19' := k18'.trans (k19.mono k18'.size)
        clear o19
        go_wp2_with (at_builtin; refine wpList_append_rd _ iCs rfl (.tmp 123) (.tmp 124) 35 rfl w19.heap.size 3 i0 (.int .i64 0) 1 8 Tryd.underlying35 hi0 hz0 hz1 hz2 rfl (by omega) iCs_len iCs_one (.slice none 0 0) 0 [] rfl ⟨by simp, .inl ⟨rfl, rfl⟩⟩ w.heap.size A'' c'' dues rfl (h''.below k19') (by simp only [maxLen]; omega) (by omega) (Nat.le_refl _) ?_; intro v20 w20 row20 g20 at20; simp only [Nat.zero_add, List.nil_append] at row20; obtain ⟨A20, c20, rfl⟩ := own_slice row20 (by omega); have k20 : Below w19.heap.size w19 w20 := (Below.refl _ _).grown g20 (Nat.le_refl _) (by simp [Value.ownBlock]))
        have k20' := k19'.trans (k20.mono k19'.size)
        have r20 : RdI w20 w20.heap.size A20 dues := Rd.of_own row20 (by omega) iCs_len
        refine (late_any A18 A19 A20 c18 c19 c20 p m dues S w20 _ (Nat.le_refl _) ((r18.below (k19.trans (k20.mono k19.size))).more (Nat.le_trans k19.size k20.size)) ((r19.below k20).more k20.size) r20 (((hS.s.below k20').more k20'.size).sub (by simp)) hl (by rw [Hml.out]; omega) (by omega) Hts.out).mono ?_
        rw [Hle.out, Hlv.out]
        rintro e w21 ⟨v21, rfl, e21, k21⟩
        obtain rfl := e21.nil_of rfl
        have k21' := k20'.trans (k21.mono k20'.size)
        have r721 : RdS w21 w8.heap.size A7 m := r718.below ((k19.trans ((k20.mono k19.size).trans (k21.mono (Nat.le_trans k19.size k20.size)))).mono (Nat.le_trans z17 k18.size))
        clear r18 r19 r20 row20 e21
        go_wp2_with fail
        refine (lateOf_any A A7 A'' c c7 c'' p m dues w21 w21.heap.size (Nat.le_refl _) ((h.below k21').more k21'.size) (r721.more (Nat.le_trans z17 (Nat.le_trans k18.size (Nat.le_trans k19.size (Nat.le_trans k20.size k21.size))))) ((h''.below k21').more k21'.size) hl (by rw [Hml.out]; omega) hpk H8.out hdu Hsp.out Hts.out).mono ?_
        rintro e w22 ⟨rfl, k22⟩
        go_wp2_with fail
        go_ret
        exact ⟨by first | rfl | simp, k21'.trans (k22.mono k21'.size)⟩
      · have hd1 : (0 : Int) < (dn : Int) := by omega
        have Hm := Lib.hid (show m = [] by rw [HM.out]; unfold rdL; rw [if_neg (by rw [Hd.out]; show numErr dues 1099511627776 ≠ 0; rw [← Hdn.out]; exact hdz)])
        clear hdz
        rw [Hm.out]
        go_wp2_with fail
        first | rw [← HwL.out] | skip
        refine (faulted2_any v7 dn (-1) (-1) S w15 w8.heap.size z15 hS15 e715 (.inr rfl)).mono ?_
        rintro e w16 ⟨rfl, k16⟩
        go_wp2_with fail
        go_ret
        exact ⟨by first | rfl | simp, k15'.trans (k16.mono k15'.size)⟩
  · have hr2 : rankErr p per ranks 100 = lookErr p per := if_neg hok
    have hd2 : rankErr p per dues 1099511627776 = lookErr p per := if_neg hok
    have Hl := Lib.hid (show l = [] by rw [HL.out]; unfold rrL; rw [if_neg (by rw [hr2]; exact hok)])
    have Hm := Lib.hid (show m = [] by rw [HM.out]; unfold rdL; rw [if_neg (by rw [hd2]; exact hok)])
    rw [hr2] at e4v
    rw [hd2] at e7v
    have h1' : (0 : Int) < ((lookErr p per).1 : Int) := by omega
    have h2' : (((lookErr p per).1 : Int) == 0) = false := beq_eq_false_iff_ne.2 (by omega)
    have Hv := Lib.hid hv
    have BG := Lib.hid bg
    have hSv := (hS.below k9').more z8
    rw [Hl.out, Hm.out]
    clear hv bf bg hok hr2 hd2 r4v r7v
    go_wp2_with fail
    first | rw [← Hv.out] | skip
    refine (faulted2_any v4 (lookErr p per).1 (lookErr p per).2 (lookErr p per).2 S v w8.heap.size (by omega) hSv e4v (.inr rfl)).mono ?_
    rintro e w10 ⟨rfl, k10⟩
    have g10 := BG.out.below k10 z9
    have c0 := g10.cell 0
    have c1 := g10.cell 1
    simp only [List.getElem?_toArray, List.getElem?_cons_zero, List.getElem?_cons_succ] at c0 c1
    have k10' := k9'.trans (k10.mono z9')
    have e710 := e7v.below (k10.mono (by omega))
    have hS10 := (hS.below k10').more z8
    clear g10 e7v e4v
    go_wp2_with fail
    refine (faulted2_any v7 (lookErr p per).1 (lookErr p per).2 (lookErr p per).2 S w10 w8.heap.size (Nat.le_trans (by omega) k10.size) hS10 e710 (.inr rfl)).mono ?_
    rintro e w11 ⟨rfl, k11⟩
    go_wp2_with fail
    go_ret
    exact ⟨by first | rfl | simp, k10'.trans (k11.mono k10'.size)⟩
set_option maxHeartbeats 1000000 in
theorem rankRuns_any (A : Option Addr) (c : Nat) (p : List Pk) (per : Int) (A' : Option Addr) (c' : Nat) (ranks : List Int) (A'' : Option Addr) (c'' : Nat) (dues : List Int) (S : Nat → Addr) (w : World) (h : RdP w w.heap.size A p) (h' : RdI w w.heap.size A' ranks) (h'' : RdI w w.heap.size A'' dues) (hS : All9 w w.heap.size S) (hl : p.length ≤ 9223372036854775807) (hl' : ranks.length ≤ 9223372036854775807) (hl'' : dues.length ≤ 9223372036854775807) :
    Calls Tryd.prog 14 #[.slice A p.length c, .int .i64 per, .slice A' ranks.length c', .slice A'' dues.length c''] w fun e w' => e = .returned (.bool true) ∧ Below w.heap.size w w' := by
  have hx : (fitB p.length 80 = true ∧ ranks.length ≤ 30 ∧ dues.length ≤ 30) ∨ fitB p.length 80 = false ∨ (fitB p.length 80 = true ∧ 30 < ranks.length) ∨ (fitB p.length 80 = true ∧ ranks.length ≤ 30 ∧ 30 < dues.length) := by
    cases hf : fitB p.length 80
    · exact .inr (.inl rfl)
    · rcases Nat.lt_or_ge 30 ranks.length with h1 | h1
      · exact .inr (.inr (.inl ⟨rfl, h1⟩))
      · rcases Nat.lt_or_ge 30 dues.length with h2 | h2
        · exact .inr (.inr (.inr ⟨rfl, h1, h2⟩))
        · exact .inl ⟨rfl, h1, h2⟩
  rcases hx with ⟨hx, h1, h2⟩ | hx | ⟨hx, h1⟩ | ⟨hx, h1, h2⟩
  · exact rr_main A A' A'' c c' c'' p per ranks dues S w h h' h'' hS hx h1 h2
  all_goals
    have Hfit := Lib.hid hx
    clear hx
    go_enter Tryd.func14, Tryd.ntmps14
    go_wp2_with fail
    refine (sends_any S w _ (Nat.le_refl _) (hS.s.sub (by simp))).mono ?_
    rintro e w1 ⟨rfl, k1⟩
    go_wp2_with fail
    refine (fit_any A c p.length 80 _ hl).mono ?_
    rintro e wx ⟨rfl, rfl⟩
    rw [Hfit.out]
    go_wp2_with fail
    go_ret
    exact ⟨rfl, k1⟩
end Go.Proofs.YtkkecnofgmpekaaDoor
