/- The law RoundRuns returns true, whatever its arguments, and changes nothing that was there. Condition: the nine sentinels lie in their variables, apart; errors.errorType holds the type error. -/
import Derived.Test.YtkkecnofgmpekaaDoorRndOf
import Derived.Test.YtkkecnofgmpekaaDoorSpreadA
import Derived.Test.YtkkecnofgmpekaaDoorSprDoc
import Derived.Test.YtkkecnofgmpekaaDoorShares
import Derived.Test.YtkkecnofgmpekaaDoorFifoRuns
namespace Go.Proofs.YtkkecnofgmpekaaDoor
open Go.RowKit
set_option maxRecDepth 100000
theorem fv_storeR {w : World} {g : Nat} {k a k' a' : Int} (h : Blk w g 48 #[.int .i64 k, .int .i64 a]) : Blk ((w.setCell ⟨g, 0, none⟩ (.int .i64 k')).setCell ⟨g, 1, none⟩ (.int .i64 a')) g 48 #[.int .i64 k', .int .i64 a'] := (h.set_ 0 (.int .i64 k')).set_ 1 (.int .i64 a')
theorem fv_belowR {B : Nat} {w w1 : World} {g : Nat} {k a : Int} (h : Below B w w1) (hg : B ≤ g) : Below B w ((w1.setCell ⟨g, 0, none⟩ (.int .i64 k)).setCell ⟨g, 1, none⟩ (.int .i64 a)) := (h.setCell (p := ⟨g, 0, none⟩) hg _).setCell (p := ⟨g, 1, none⟩) hg _
def roundV (p : List Pk) (per : Int) (qs : List Int) : List Sn := if (roundErr p per qs).1 = 0 then roundL p per qs else []
theorem roundRun_any (A A' : Option Addr) (c c' : Nat) (p : List Pk) (per : Int) (qs : List Int) (S : Nat → Addr) (w : World) (B : Nat) (hB : B ≤ w.heap.size) (h : RdP w B A p) (h' : RdI w B A' qs) (hS : Snt w B S [2, 3, 5]) (hl : p.length ≤ 9223372036854775807) (hl' : qs.length ≤ 9223372036854775807) :
    Calls Tryd.prog 21 #[.slice A p.length c, .int .i64 per, .slice A' qs.length c'] w (EndOwnEr Sn.cs 3 34 (roundV p per qs) S (roundErr p per qs).1 (roundErr p per qs).2 w) := by
  by_cases hok : (roundErr p per qs).1 = 0
  · rw [show roundV p per qs = roundL p per qs from if_pos hok]
    exact roundRun_ok A A' c c' p per qs S w B hB h h' hS hl hl' hok
  · rw [show roundV p per qs = [] from if_neg hok]
    exact roundRun_bad A A' c c' p per qs S w B hB h h' hS hl hl' hok
theorem run_plain {p : List Pk} {per : Int} {qs : List Int} (he : (roundErr p per qs).1 = 0) : (∀ y ∈ roundL p per qs, 0 ≤ y.p ∧ y.p.toNat < p.length) ∧ ∀ g, g < 8 → 1 ≤ qu qs g ∧ qu qs g ≤ 3000 := by
  obtain ⟨e1, e2, h8, hn, e3⟩ := roundErr_ok he
  obtain ⟨hf, h300, hpk, h0, h1⟩ := lookErr_ok e1
  have hq1 := qu_bd h8 hn
  have hq0 : ∀ g, 0 ≤ qu qs g := fun g => by
    by_cases h9 : g < 8
    · have := (hq1 g h9).1; omega
    · have : qu qs g = 0 := by unfold qu; simp [List.getD, show ¬ g < qs.length by omega]
      omega
  have hM := roundOk (p := p) (qs := qs) hpk hq0 (fun g hg => (hq1 g hg).1)
  obtain ⟨t1, t2⟩ := srv_top (per := per) hM hpk h0 h1 (s0 := rs0) rs0_wait (rs0_ok p qs)
  exact ⟨t2, hq1⟩
set_option maxHeartbeats 8000000 in
theorem rr_main (A A' : Option Addr) (c c' : Nat) (p : List Pk) (per : Int) (ws : List Int) (a b : Int) (S : Nat → Addr) (w : World) (h : RdP w w.heap.size A p) (h' : RdI w w.heap.size A' ws) (hS : All9 w w.heap.size S) (hfit : fitB p.length 60 = true) (h30 : ws.length ≤ 30) :
    Calls Tryd.prog 13 #[.slice A p.length c, .int .i64 per, .slice A' ws.length c', .int .i64 a, .int .i64 b] w fun e w' => e = .returned (.bool true) ∧ Below w.heap.size w w' := by
  have hle : p.length ≤ 301 := by have := of_decide_eq_true hfit; omega
  have hl : p.length ≤ 9223372036854775807 := by omega
  have Hfit := Lib.hid hfit
  obtain ⟨i0, hi0, hz0, hz1, hz2⟩ := info_parts infoInt
  clear hfit
  go_enter Tryd.func13, Tryd.ntmps13
  go_wp2_with fail
  refine (turned_any S w _ (Nat.le_refl _) (hS.s.sub (by simp))).mono ?_
  rintro e w1 ⟨rfl, k1⟩
  go_wp2_with fail
  refine (fit_any A c p.length 60 _ hl).mono ?_
  rintro e wx ⟨rfl, rfl⟩
  rw [Hfit.out]
  go_wp2_with fail
  refine (ownPackets_any A c p w1 _ (h.below k1) (by omega)).mono ?_
  rintro e w2 ⟨A2, c2, rfl, o2, k2⟩
  have r2 := RdP.of_own o2
  have k2' := k1.trans (k2.mono k1.size)
  clear o2
  go_wp2_with (at_builtin; refine wpList_append_rd _ iCs rfl (.tmp 36) (.tmp 37) 35 rfl w2.heap.size 3 i0 (.int .i64 0) 1 8 Tryd.underlying35 hi0 hz0 hz1 hz2 rfl (by omega) iCs_len iCs_one (.slice none 0 0) 0 [] rfl ⟨by simp, .inl ⟨rfl, rfl⟩⟩ w.heap.size A' c' ws rfl (h'.below k2') (by simp only [maxLen]; omega) (by omega) (Nat.le_refl _) ?_; intro v3 w3 row3 g3 at3; simp only [Nat.zero_add, List.nil_append] at row3; obtain ⟨A3, c3, rfl⟩ := own_slice row3 (by omega); have k3 : Below w2.heap.size w2 w3 := (Below.refl _ _).grown g3 (Nat.le_refl _) (by simp [Value.ownBlock]))
  have k3' := k2'.trans (k3.mono k2'.size)
  have r3 : RdI w3 w3.heap.size A3 ws := Rd.of_own row3 (by omega) iCs_len
  refine (roundRun_any A2 A3 c2 c3 p per ws S w3 _ (Nat.le_refl _) ((r2.below k3).more k3.size) r3 (((hS.s.below k3').more k3'.size).sub (by simp)) hl (by omega)).mono ?_
  rintro e w4 ⟨A4, c4, v4, rfl, o4, e4, k4⟩
  have r4 := RdS.of_own o4
  have k4' := k3'.trans (k4.mono k3'.size)
  obtain ⟨l, hl4⟩ : ∃ l, l = roundV p per ws := ⟨_, rfl⟩
  rw [← hl4] at r4 ⊢
  have HL := Lib.hid hl4
  clear o4 r2 r3 row3 hl4
  go_wp2_with fail
  refine (linkFault_any A c p per w4 _ k4'.size (h.below k4') hl).mono ?_
  rintro e w8 ⟨rfl, k8⟩
  have k8' := k4'.trans (k8.mono k4'.size)
  have z8 := k8'.size
  unfold fv
  obtain ⟨v, hv⟩ : ∃ v : World, v = w8.alloc (.cells #[.int .i64 (lookErr p per).1, .int .i64 (lookErr p per).2] 48) := ⟨_, rfl⟩
  have bf : Blk v w8.heap.size 48 #[.int .i64 (lookErr p per).1, .int .i64 (lookErr p per).2] := by rw [hv]; exact Blk.new _ _ _
  have k9 : Below w8.heap.size w8 v := by rw [hv]; exact (Below.refl _ _).alloc (Nat.le_refl _) _
  have z9 : w8.heap.size < v.heap.size := bf.lt
  have k9' := k8'.trans (k9.mono z8)
  have z9' := k9'.size
  have e4v : Er v w8.heap.size S v4 (roundErr p per ws).1 (roundErr p per ws).2 := ((e4.below k8).more k8.size).below k9
  have r4v : RdS v w8.heap.size A4 l := ((r4.below k8).more k8.size).below k9
  have hSv := (hS.below k9').more z8
  clear e4 r4 k1 k2 k3 k4 k2' k3' k4'
  by_cases hok : (lookErr p per).1 = 0
  · obtain ⟨hf, h300, hpk, h0, h1⟩ := lookErr_ok hok
    have hs := lookErr_sorted hok
    have hfe : roundErr p per ws = (quErr ws, -1) := if_pos hok
    rw [hf] at bf hv ⊢
    rw [hfe, qIdx_numE] at e4v
    have bf' : Blk v w8.heap.size 48 #[.int .i64 0, .int .i64 (-1)] := bf
    have hv' : v = w8.alloc (.cells #[.int .i64 0, .int .i64 (-1)] 48) := hv
    have x0 : (w8.alloc (.cells #[.int .i64 0, .int .i64 (-1)] 48)).cell? ⟨w8.heap.size, 0, none⟩ = some (.int .i64 0) := by rw [← hv']; exact bf'.cell 0
    have Hv := Lib.hid hv'
    have BF := Lib.hid bf'
    have HFE := Lib.hid hfe
    have HS := Lib.hid hs
    have HP := Lib.hid hpk
    clear bf hv hf hok bf' hv' hfe hs hpk
    obtain ⟨en, hen⟩ : ∃ en, en = numE ws 1 3000 := ⟨_, rfl⟩
    have Hen := Lib.hid hen
    rw [← hen] at e4v
    clear hen
    have hen0 : 0 ≤ (en : Int) := Int.natCast_nonneg en
    go_wp2_with fail
    rw [← Hv.out]
    refine (numbersError_any A' c' ws 1 3000 v _ (h'.below k9') (by omega)).mono ?_
    rintro e wx ⟨rfl, rfl⟩
    rw [← Hen.out]
    clear x0
    go_wp2_with fail
    refine (bare_any en v).mono ?_
    rintro e w10 ⟨rfl, k10⟩
    have f10 := BF.out.below k10 z9
    have c0 := f10.cell 0
    have c1 := f10.cell 1
    have y0 := f10.frozen 0
    have y1 := f10.frozen 1
    simp only [List.getElem?_toArray, List.getElem?_cons_zero, List.getElem?_cons_succ] at c0 c1
    obtain ⟨w11, hw11⟩ : ∃ w11, w11 = (w10.setCell ⟨w8.heap.size, 0, none⟩ (.int .i64 en)).setCell ⟨w8.heap.size, 1, none⟩ (.int .i64 (-1)) := ⟨_, rfl⟩
    have f11 : Blk w11 w8.heap.size 48 #[.int .i64 en, .int .i64 (-1)] := by rw [hw11]; exact fv_storeR f10
    have k11 : Below w8.heap.size v w11 := by rw [hw11]; exact fv_belowR (k10.mono (Nat.le_of_lt z9)) (Nat.le_refl _)
    have k11' := k9'.trans (k11.mono z8)
    have z11 : w8.heap.size < w11.heap.size := f11.lt
    have z11' := k11'.size
    have x0 : ((w10.setCell ⟨w8.heap.size, 0, none⟩ (.int .i64 en)).setCell ⟨w8.heap.size, 1, none⟩ (.int .i64 (-1))).cell? ⟨w8.heap.size, 0, none⟩ = some (.int .i64 en) := by rw [← hw11]; exact f11.cell 0
    have x1 : ((w10.setCell ⟨w8.heap.size, 0, none⟩ (.int .i64 en)).setCell ⟨w8.heap.size, 1, none⟩ (.int .i64 (-1))).cell? ⟨w8.heap.size, 1, none⟩ = some (.int .i64 (-1)) := by rw [← hw11]; exact f11.cell 1
    have e411 := e4v.below k11
    have r411 := r4v.below k11
    have hS11 := hSv.below k11
    have Hw11 := Lib.hid hw11
    have F11 := Lib.hid f11
    unfold fv
    clear hw11 f11 f10 e4v r4v hSv
    by_cases hez : en = 0
    · subst hez
      have he : (roundErr p per ws).1 = 0 := by rw [HFE.out]; show quErr ws = 0; rw [qIdx_numE]; exact Hen.out.symm
      obtain ⟨_, _, h8, ho, _⟩ := roundErr_ok he
      obtain ⟨hyy, hqq⟩ := run_plain he
      obtain ⟨pe, qe, ll, lt, le, _⟩ := shares_plain he 0 0
      have Hl := Lib.hid (show l = roundL p per ws by rw [HL.out]; exact if_pos he)
      rw [← Hl.out] at hyy ll lt le
      have Hll := Lib.hid ll
      have hml : l.length ≤ 1000 := by omega
      obtain rfl := e411.nil_of rfl
      have HY := Lib.hid hyy
      have HQQ := Lib.hid hqq
      have HT := Lib.hid lt
      have HLE := Lib.hid le
      have HPE := Lib.hid pe
      have HQE := Lib.hid qe
      have HO := Lib.hid ho
      have H8 := Lib.hid h8
      have Hw0 := Lib.hid (show w11 = (w10.setCell ⟨w8.heap.size, 0, none⟩ (.int .i64 0)).setCell ⟨w8.heap.size, 1, none⟩ (.int .i64 (-1)) from Hw11.out)
      clear h8 ho hyy hqq ll lt le pe qe he
      go_wp2_with fail
      rw [← Hw0.out]
      refine (roundOf_any A A' c c' p per ws w11 _ z11' (h.below k11') (h'.below k11') HP.out HS.out h300 h0 h1 H8.out HO.out).mono ?_
      rw [← Hl.out]
      rintro e w12 ⟨A12, c12, rfl, o12, k12⟩
      have r12 := RdS.of_own o12
      clear o12
      go_wp2_with fail
      refine (sameSent_any A4 A12 c4 c12 l w12 w12.heap.size ((r411.below (k12.mono (Nat.le_of_lt z11))).more (Nat.le_trans (Nat.le_of_lt z11) k12.size)) r12 (by rw [Hll.out]; exact hl)).mono ?_
      rintro e w13 ⟨rfl, q13, hw13⟩
      have k13 : Below w11.heap.size w11 w13 := by rw [hw13]; exact below_drewN k12 q13
      have k13' := k11'.trans (k13.mono z11')
      have z13 := k13'.size
      have r413 := r411.below (k13.mono (Nat.le_of_lt z11))
      have hS13 := hS11.below (k13.mono (Nat.le_of_lt z11))
      have z813 : w8.heap.size ≤ w13.heap.size := Nat.le_trans (Nat.le_of_lt z11) k13.size
      clear hw13 r12 c0 c1 y0 y1 x0 x1 r411 hS11
      go_wp2_with fail
      refine (ownPackets_any A c p w13 _ (h.below k13') (by omega)).mono ?_
      rintro e w14 ⟨A14, c14, rfl, o14, k14⟩
      have r14 := RdP.of_own o14
      have k14' := k13'.trans (k14.mono z13)
      have z14 := k14'.size
      have r414 := r413.below (k14.mono z813)
      have z814 := Nat.le_trans z813 k14.size
      clear o14
      go_wp2_with fail
      refine (ownSent_any A4 c4 l w14 _ r414 (by omega)).mono ?_
      rintro e w15 ⟨A15, c15, rfl, o15, k15⟩
      have r15 := RdS.of_own o15
      have hc15 := own_cap o15
      have k15' := k14'.trans (k15.mono z14)
      have z15 := k15'.size
      have z815 := Nat.le_trans z814 k15.size
      clear o15
      go_wp2_with (at_builtin; refine wpList_append_rd _ iCs rfl (.tmp 78) (.tmp 79) 35 rfl w15.heap.size 3 i0 (.int .i64 0) 1 8 Tryd.underlying35 hi0 hz0 hz1 hz2 rfl (by omega) iCs_len iCs_one (.slice none 0 0) 0 [] rfl ⟨by simp, .inl ⟨rfl, rfl⟩⟩ w.heap.size A' c' ws rfl (h'.below k15') (by simp only [maxLen]; omega) (by omega) (Nat.le_refl _) ?_; intro v16 w16 row16 g16 at16; simp only [Nat.zero_add, List.nil_append] at row16; obtain ⟨A16, c16, rfl⟩ := own_slice row16 (by omega); have k16 : Below w15.heap.size w15 w16 := (Below.refl _ _).grown g16 (Nat.le_refl _) (by simp [Value.ownBlock]))
      have k16' := k15'.trans (k16.mono z15)
      have z16 := k16'.size
      have z816 := Nat.le_trans z815 k16.size
      have r16 : RdI w16 w16.heap.size A16 ws := Rd.of_own row16 (by omega) iCs_len
      have k816 : Below w8.heap.size w13 w16 := (k14.mono z813).trans ((k15.mono z814).trans (k16.mono z815))
      refine (spread_any A14 A15 A16 c14 c15 c16 a b p l ws S w16 _ (Nat.le_refl _) (((r14.below k15).more k15.size).below k16 |>.more k16.size) ((r15.below k16).more k16.size) r16 (((hS.s.below k16').more z16).sub (by simp)) hl hml (by omega) hc15 HT.out).mono ?_
      rintro e w17 ⟨v17, rfl, e17, k17⟩
      have k17' := k16'.trans (k17.mono z16)
      have z17 := k17'.size
      have r417 := (r413.below k816).below (k17.mono z816)
      have hS17 := (hS13.below k816).below (k17.mono z816)
      have z817 := Nat.le_trans z816 k17.size
      clear r14 r15 r16 row16 r413 r414 hS13
      by_cases hab : a < 0 ∨ 8 ≤ a ∨ b < 0 ∨ 8 ≤ b
      · have He := Lib.hid (show sprErr p l ws a b = (2, -1) by unfold sprErr; rw [if_neg (by rw [H8.out]; omega), if_pos (.inl hab)])
        have Hv4 := Lib.hid (show sprV p l ws a b = 0 by unfold sprV; rw [He.out]; rfl)
        have hab4 : a < 0 ∨ (¬ a < 0 ∧ 8 ≤ a) ∨ (¬ a < 0 ∧ ¬ 8 ≤ a ∧ b < 0) ∨ (¬ a < 0 ∧ ¬ 8 ≤ a ∧ ¬ b < 0 ∧ 8 ≤ b) := by omega
        rw [Hv4.out]
        rw [He.out] at e17
        clear hab
        rcases hab4 with h1 | ⟨h1, h2⟩ | ⟨h1, h2, h3⟩ | ⟨h1, h2, h3, h4⟩
        all_goals
          go_wp2_with fail
          refine (coded2_any v17 2 (-1) S w17 w17.heap.size (Nat.le_refl _) (hS17.more z817) e17 rfl).mono ?_
          rintro e w18 ⟨rfl, k18⟩
          go_wp2_with fail
          go_ret
          exact ⟨by first | rfl | simp, k17'.trans (k18.mono z17)⟩
      · obtain ⟨n, rfl⟩ : ∃ n : Nat, a = n := ⟨a.toNat, by omega⟩
        obtain ⟨m, rfl⟩ : ∃ m : Nat, b = m := ⟨b.toNat, by omega⟩
        have hn8 : n < 8 := by omega
        have hm8 : m < 8 := by omega
        have q1 : ¬ (n : Int) < 0 := by omega
        have q2 : ¬ (8 : Int) ≤ (n : Int) := by omega
        have q3 : ¬ (m : Int) < 0 := by omega
        have q4 : ¬ (8 : Int) ≤ (m : Int) := by omega
        have He := Lib.hid (show sprErr p l ws n m = (0, -1) by unfold sprErr; rw [if_neg (by rw [H8.out]; omega), if_neg (by rw [HQE.out]; omega), if_neg (by rw [HPE.out]; omega)]; exact (delErr_ok HLE.out).2)
        have Hv4 := Lib.hid (show sprV p l ws n m = sprL p (qu ws n) (qu ws m) n m l by unfold sprV; rw [He.out, if_pos rfl]; rfl)
        rw [Hv4.out]
        rw [He.out] at e17
        obtain rfl := e17.nil_of rfl
        obtain ⟨x, hx⟩ : ∃ x, x = sprL p (qu ws n) (qu ws m) n m l := ⟨_, rfl⟩
        rw [← hx]
        have HX := Lib.hid hx
        clear hab hx
        go_wp2_with fail
        refine (spreadOf_any n m A A4 A' c c4 c' p l ws w17 w17.heap.size (Nat.le_refl _) ((h.below k17').more z17) (r417.more z817) ((h'.below k17').more z17) HP.out HY.out hml H8.out HQQ.out hn8 hm8).mono ?_
        rw [← HX.out]
        rintro e w18 ⟨rfl, k18⟩
        go_wp2_with fail
        go_ret
        exact ⟨by first | rfl | simp, k17'.trans (k18.mono z17)⟩
    · have he1 : (0 : Int) < (en : Int) := by omega
      have he : ¬ (roundErr p per ws).1 = 0 := by rw [HFE.out]; show ¬ quErr ws = 0; rw [qIdx_numE, ← Hen.out]; exact hez
      have Hl := Lib.hid (show l = [] by rw [HL.out]; exact if_neg he)
      clear hez he
      rw [Hl.out]
      go_wp2_with fail
      first | rw [← Hw11.out] | skip
      refine (faulted2_any v4 en (-1) (-1) S w11 w8.heap.size (Nat.le_of_lt z11) hS11 e411 (.inr rfl)).mono ?_
      rintro e w12 ⟨rfl, k12⟩
      go_wp2_with fail
      go_ret
      exact ⟨by first | rfl | simp, k11'.trans (k12.mono z11')⟩
  · have hfe : roundErr p per ws = lookErr p per := if_neg hok
    have he : ¬ (roundErr p per ws).1 = 0 := by rw [hfe]; exact hok
    have Hl := Lib.hid (show l = [] by rw [HL.out]; exact if_neg he)
    rw [hfe] at e4v
    have x1 : (0 : Int) < ((lookErr p per).1 : Int) := by omega
    have x2 : (((lookErr p per).1 : Int) == 0) = false := beq_eq_false_iff_ne.2 (by omega)
    have d0 : (w8.alloc (.cells #[.int .i64 (lookErr p per).1, .int .i64 (lookErr p per).2] 48)).cell? ⟨w8.heap.size, 0, none⟩ = some (.int .i64 (lookErr p per).1) := by rw [← hv]; exact bf.cell 0
    have d1 : (w8.alloc (.cells #[.int .i64 (lookErr p per).1, .int .i64 (lookErr p per).2] 48)).cell? ⟨w8.heap.size, 1, none⟩ = some (.int .i64 (lookErr p per).2) := by rw [← hv]; exact bf.cell 1
    have Hv := Lib.hid hv
    clear he hfe hok hv bf
    rw [Hl.out]
    go_wp2_with fail
    rw [← Hv.out]
    refine (faulted2_any v4 (lookErr p per).1 (lookErr p per).2 (lookErr p per).2 S v w8.heap.size (Nat.le_of_lt z9) hSv e4v (.inr rfl)).mono ?_
    rintro e w12 ⟨rfl, k12⟩
    go_wp2_with fail
    go_ret
    exact ⟨by first | rfl | simp, k9'.trans (k12.mono z9')⟩
theorem roundRuns_any (A : Option Addr) (c : Nat) (p : List Pk) (per : Int) (A' : Option Addr) (c' : Nat) (ws : List Int) (a b : Int) (S : Nat → Addr) (w : World) (h : RdP w w.heap.size A p) (h' : RdI w w.heap.size A' ws) (hS : All9 w w.heap.size S) (hl : p.length ≤ 9223372036854775807) (hl' : ws.length ≤ 9223372036854775807) :
    Calls Tryd.prog 13 #[.slice A p.length c, .int .i64 per, .slice A' ws.length c', .int .i64 a, .int .i64 b] w fun e w' => e = .returned (.bool true) ∧ Below w.heap.size w w' := by
  cases hfit : fitB p.length 60
  · have Hfit := Lib.hid hfit
    clear hfit
    go_enter Tryd.func13, Tryd.ntmps13
    go_wp2_with fail
    refine (turned_any S w _ (Nat.le_refl _) (hS.s.sub (by simp))).mono ?_
    rintro e w1 ⟨rfl, k1⟩
    go_wp2_with fail
    refine (fit_any A c p.length 60 _ hl).mono ?_
    rintro e wx ⟨rfl, rfl⟩
    rw [Hfit.out]
    go_wp2_with fail
    go_ret
    exact ⟨rfl, k1⟩
  · by_cases h30 : ws.length ≤ 30
    · exact rr_main A A' c c' p per ws a b S w h h' hS hfit h30
    · have Hfit := Lib.hid hfit
      have h31 : (30 : Int) < (ws.length : Int) := by omega
      clear hfit h30
      go_enter Tryd.func13, Tryd.ntmps13
      go_wp2_with fail
      refine (turned_any S w _ (Nat.le_refl _) (hS.s.sub (by simp))).mono ?_
      rintro e w1 ⟨rfl, k1⟩
      go_wp2_with fail
      refine (fit_any A c p.length 60 _ hl).mono ?_
      rintro e wx ⟨rfl, rfl⟩
      rw [Hfit.out]
      go_wp2_with fail
      go_ret
      exact ⟨rfl, k1⟩
end Go.Proofs.YtkkecnofgmpekaaDoor
