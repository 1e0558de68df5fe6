/- The law GateOpen returns true, whatever its arguments, and changes nothing that was there. Condition: the nine sentinels lie in their variables, apart; errors.errorType holds the type error. -/
import Derived.Test.YthgpbdlmadjndaaDoorGwM
import Derived.Test.YthgpbdlmadjndaaDoorSnS
import Derived.Test.YthgpbdlmadjndaaDoorMiscM
import Derived.Test.YthgpbdlmadjndaaDoorSameP
namespace Go.Proofs.YthgpbdlmadjndaaDoor
open Go.RowKit
set_option maxRecDepth 100000
theorem cs0_bad : csBad cs0 0 = (0, -1) := by decide
theorem cs0_gate (n : Nat) (per : Int) (ns : List Int) : gateErr cs0 n per ns = linkErr n [] per ns := by
  unfold gateErr
  rw [if_pos (show cs0.length = 8 from rfl), cs0_bad]
  rfl
theorem roundErr_pkt {p : List Pk} {per : Int} {ns : List Int} (h : (roundErr p per ns).1 = 0) : (pktErr p).1 = 0 := by
  have h1 := (roundErr_ok h).1
  unfold lookErr at h1
  by_cases h2 : (pktErr p).1 ≠ 0
  · rw [if_pos h2] at h1; exact h1
  · omega
theorem open_run {p : List Pk} {per : Int} {ns : List Int} (h : (roundErr p per ns).1 = 0) : runErr cs0 3 per ns p = (0, -1) ∧ runQ cs0 3 per ns p = p ∧ runL cs0 3 per ns p = roundV p per ns := by
  have hp := roundErr_pkt h
  have hl : (linkErr 3 [] per ns).1 = 0 := by rw [← link_same hp]; exact h
  obtain ⟨o1, o2⟩ := gOut_open hp cs0_get
  have he : runErr cs0 3 per ns p = (0, -1) := by
    unfold runErr
    rw [cs0_gate, if_neg (by omega), if_neg (by omega), if_neg (by rw [o1]; simp)]
  refine ⟨he, ?_, ?_⟩
  · unfold runQ; rw [he, if_pos rfl, o2]
  · unfold runL; rw [he, if_pos rfl, o2]; rfl
theorem open_bad {p : List Pk} {per : Int} {ns : List Int} (h : (roundErr p per ns).1 ≠ 0) : (runErr cs0 3 per ns p).1 ≠ 0 := fun e => by
  obtain ⟨r1, r2, -⟩ := runErr_ok e
  rw [cs0_gate, ← link_same r2] at r1
  exact h r1
set_option maxHeartbeats 8000000 in
theorem gopen_main (A A' : Option Addr) (c c' : Nat) (p : List Pk) (per : Int) (ns : List Int) (S : Nat → Addr) (w : World) (h : RdP w w.heap.size A p) (h' : RdI w w.heap.size A' ns) (hS : GS w w.heap.size S) (hfit : fitB p.length 80 = true) (h30 : ns.length ≤ 30) :
    Calls Tryd.prog 6 #[.slice A p.length c, .int .i64 per, .slice A' ns.length c'] w fun e w' => e = .returned (.bool true) ∧ Below w.heap.size w w' := by
  have hle : p.length ≤ 301 := by have := of_decide_eq_true hfit; omega
  have hl : p.length ≤ 9223372036854775807 := by omega
  have hl' : ns.length ≤ 9223372036854775807 := by omega
  have Hfit := Lib.hid hfit
  obtain ⟨i0, hi0, hz0, hz1, hz2⟩ := info_parts infoSl
  obtain ⟨i1, hi1, hy0, hy1, hy2⟩ := info_parts infoInt
  clear hfit
  go_enter Tryd.func6, Tryd.ntmps6
  go_wp2_with fail
  refine (opens_any S w hS).mono ?_
  rintro e w1 ⟨rfl, k1⟩
  go_wp2_with fail
  refine (fit_any A c p.length 80 _ hl).mono ?_
  rintro e wx ⟨rfl, rfl⟩
  rw [Hfit.out]
  have K1 := Lib.hid k1
  have z1 := k1.size
  have HS1 := Lib.hid (hS.below k1)
  clear k1
  go_upto_region 5 with (at_make; refine wpList_make_full _ rfl (.const (.int .i64 8)) (.const (.int .i64 8)) 61 rfl w1.heap.size 121 i0 (.slice none 0 0) 1 Tryd.underlying61 hi0 hz0 hz1 .i64 .i64 8 8 8 rfl rfl rfl rfl (by rw [hz2]; omega) (by simp only [maxLen]; omega) (Nat.le_refl _) ?_; intro w2 row2 g2; rw [vs0_row] at row2)
  have k2 : Below w1.heap.size w1 w2 := (Below.refl _ _).grown g2 (Nat.le_refl _) (by simp)
  obtain ⟨g, hg⟩ : ∃ g, g = w1.heap.size := ⟨_, rfl⟩
  have hll := cs0_ll row2
  rw [← hg] at hll ⊢
  obtain ⟨gb, hgb⟩ : ∃ gb, gb = w2.heap.size := ⟨_, rfl⟩
  obtain ⟨X, hX⟩ : ∃ X : World, X = w2.alloc (.cells #[.slice (some ⟨g, 0, none⟩) 8 8, .string ⟨#[114, 111, 117, 110, 100]⟩, .int .i64 per, .slice none 0 0] 63) := ⟨_, rfl⟩
  have xb : Blk X gb 63 #[.slice (some ⟨g, 0, none⟩) 8 8, .string ⟨#[114, 111, 117, 110, 100]⟩, .int .i64 per, .slice none 0 0] := by rw [hX, hgb]; exact Blk.new _ _ _
  have bX : Below w2.heap.size w2 X := by rw [hX]; exact (Below.refl _ _).alloc (Nat.le_refl _) _
  have kX : Below w.heap.size w X := K1.out.trans ((k2.mono z1).trans (bX.mono (Nat.le_trans z1 k2.size)))
  have hllX : RdLL X w2.heap.size (some ⟨g, 0, none⟩) cs0 := hll.below bX
  have x3 := xb.cell 3
  simp at x3
  have zgb : w.heap.size ≤ gb := by rw [hgb]; exact Nat.le_trans z1 k2.size
  have hgbl : gb < X.heap.size := xb.lt
  rw [← hgb] at hllX
  have XB := Lib.hid xb
  have KX := Lib.hid kX
  have LLX := Lib.hid hllX
  rw [← hX, ← hgb]
  clear hg hgb hX hll hllX row2 g2 k2 bX kX xb
  go_upto_region 6 with (at_builtin; refine wpList_append_rd _ iCs rfl (.tmp 32) (.tmp 33) 22 rfl X.heap.size 3 i1 (.int .i64 0) 1 8 Tryd.underlying22 hi1 hy0 hy1 hy2 rfl (by omega) iCs_len iCs_one (.slice none 0 0) 0 [] rfl ⟨by simp, .inl ⟨rfl, rfl⟩⟩ w.heap.size A' c' ns rfl (h'.below KX.out) (by simp only [maxLen]; omega) (by omega) (Nat.le_refl _) ?_; intro v3 w4 row4 g4 at4; simp only [Nat.zero_add, List.nil_append] at row4; obtain ⟨A3, c3, rfl⟩ := own_slice row4 (by omega); have k4 : Below X.heap.size X w4 := (Below.refl _ _).grown g4 (Nat.le_refl _) (by simp [Value.ownBlock]); have bo4 := XB.out.below k4 hgbl; have z4 := bo4.frozen 3; have e4 := bo4.cell 3; simp at e4)
  obtain ⟨Y, hY⟩ : ∃ Y : World, Y = w4.setCell ⟨gb, 3, none⟩ (.slice A3 ns.length c3) := ⟨_, rfl⟩
  have kY : Below w.heap.size w Y := by rw [hY]; exact (KX.out.trans (k4.mono KX.out.size)).setCell (p := ⟨gb, 3, none⟩) zgb _
  have kXY : Below gb X Y := by rw [hY]; exact (k4.mono (Nat.le_of_lt hgbl)).setCell (p := ⟨gb, 3, none⟩) (Nat.le_refl _) _
  have yb : Blk Y gb 63 #[.slice (some ⟨g, 0, none⟩) 8 8, .string ⟨#[114, 111, 117, 110, 100]⟩, .int .i64 per, .slice A3 ns.length c3] := by rw [hY]; exact bo4.set_ 3 _
  have hll2 := LLX.out.below kXY
  have hri : RdI Y Y.heap.size A3 ns := by
    have hrow : Y.ownsRow X.heap.size 3 1 (.slice A3 ns.length c3) ns.length (ns.flatMap iCs) := by
      rw [hY]
      exact own_sameG row4 fun b hb => Below.heap_setCell w4 ⟨gb, 3, none⟩ _ b (fun e => by have h9 : b = gb := e; have := own_ge row4 b hb; omega)
    exact Rd.of_own hrow (by omega) iCs_len
  have p0 := yb.cell 0
  have p1 := yb.cell 1
  have p2 := yb.cell 2
  have p3 := yb.cell 3
  simp at p0 p1 p2 p3
  have hybl : gb < Y.heap.size := yb.lt
  have KY := Lib.hid kY
  have LL2 := Lib.hid (hll2.more (Nat.le_of_lt hybl))
  have RI := Lib.hid hri
  have zY := kY.size
  rw [← hY]
  clear hY kY kXY yb hll2 hri row4 g4 at4 k4 bo4 z4 e4 x3
  have HRUN := Lib.hid (fun (w6 : World) (A6 : Option Addr) (c6 : Nat) (k6 : Below Y.heap.size Y w6) (r6 : RdP w6 w6.heap.size A6 p) => grun_any (some ⟨g, 0, none⟩) A3 A6 8 c3 c6 cs0 bRound per ns p S w6 w6.heap.size (Nat.le_refl _) ((LL2.out.below k6).more k6.size) ((RI.out.below k6).more k6.size) r6 ((hS.below (KY.out.trans (k6.mono zY))).more (KY.out.trans (k6.mono zY)).size) cs0_len hl' hl)
  go_wp2_with fail
  go_region_held3 (fun w' => w'.cell? ⟨gb, 0, none⟩ = some (.slice (some ⟨g, 0, none⟩) 8 8) ∧ w'.cell? ⟨gb, 1, none⟩ = some (.string ⟨#[114, 111, 117, 110, 100]⟩) ∧ w'.cell? ⟨gb, 2, none⟩ = some (.int .i64 per) ∧ w'.cell? ⟨gb, 3, none⟩ = some (.slice A3 ns.length c3))
    (first
      | go_keep
      | exact ⟨(k67.cell (p := ⟨gb, 0, none⟩) hybl).trans p0, (k67.cell (p := ⟨gb, 1, none⟩) hybl).trans p1, (k67.cell (p := ⟨gb, 2, none⟩) hybl).trans p2, (k67.cell (p := ⟨gb, 3, none⟩) hybl).trans p3⟩
      | exact ⟨(k6.cell (p := ⟨gb, 0, none⟩) hybl).trans p0, (k6.cell (p := ⟨gb, 1, none⟩) hybl).trans p1, (k6.cell (p := ⟨gb, 2, none⟩) hybl).trans p2, (k6.cell (p := ⟨gb, 3, none⟩) hybl).trans p3⟩)
    (first
     | (go_at_call 21; refine (ownPackets_any A c p Y.drew w.heap.size (h.below KY.out.drew) (by omega)).mono ?_; rintro e w6 ⟨A6, c6, rfl, o6, k6d⟩; have k6 := below_undrewR k6d; have r6 := RdP.of_own o6)
     | (go_at_call 32; refine (HRUN.out w6 A6 c6 k6 r6).mono ?_; rintro e w7 ⟨A7, c7, A8, c8, v7, rfl, o7, o8, e7, k7⟩; have k67 := k6.trans (k7.mono k6.size)))
  all_goals
    have hk3 : kindN bRound = 3 := by decide
    rw [hk3] at o7 o8 e7 ⊢
    have K7 := Lib.hid (KY.out.trans (k67.mono zY))
    have z7 : w.heap.size ≤ w7.heap.size := K7.out.size
    clear k6 k67 k7 o6 p0 p1 p2 p3 r6 hk3
    by_cases hr : (roundErr p per ns).1 = 0
    · obtain ⟨q1, q2, q3⟩ := open_run hr
      rw [q1] at e7
      obtain rfl := e7.nil_of rfl
      rw [q2] at o7 ⊢
      rw [q3] at o8 ⊢
      have O7 := Lib.hid o7
      have O8 := Lib.hid o8
      have HR := Lib.hid hr
      obtain ⟨V, hV⟩ : ∃ V, V = roundV p per ns := ⟨_, rfl⟩
      have hVl : V.length = p.length := by
        rw [hV]
        exact (link_is (n := 3) hr).len
      rw [← hV] at O8 ⊢
      have HV := Lib.hid hV
      have HVl := Lib.hid hVl
      clear o7 o8 e7 q1 q2 q3 hr hV hVl
      go_wp2_with fail
      refine (ownPackets_any A c p w7 w.heap.size (h.below K7.out) (by omega)).mono ?_
      rintro e w8 ⟨A9, c9, rfl, o9, k8⟩
      have r9 := RdP.of_own o9
      have k8' := K7.out.trans (k8.mono z7)
      go_wp2_with fail
      refine (roundV_any A9 A' c9 c' p per ns S w8 _ (Nat.le_refl _) r9 ((h'.below k8').more k8'.size) (((hS.s.below k8').more k8'.size).sub (by simp)) hl hl').mono ?_
      rintro e w9 ⟨AA, ca, v9, rfl, oa, e9, k9⟩
      obtain rfl := e9.nil_of HR.out
      rw [← HV.out] at oa ⊢
      have k89 := k8.trans (k9.mono k8.size)
      have R7 := Lib.hid (RdP.of_own (own_below O7.out k89 (Nat.le_refl _)))
      have R8 := Lib.hid (RdS.of_own (own_below O8.out k89 (Nat.le_refl _)))
      have RA := Lib.hid (RdS.of_own oa)
      have K9 := Lib.hid (K7.out.trans (k89.mono z7))
      have z9 := K9.out.size
      clear o9 r9 k8' oa e9 k8 k9 k89
      go_wp2_with fail
      refine (samePk_any A7 A c7 c p p w9 w9.heap.size R7.out ((h.below K9.out).more z9) hl hl).mono ?_
      rintro e w10 ⟨rfl, m, rfl⟩
      rw [decide_eq_true rfl]
      go_wp2_with fail
      refine (sameSn_any A8 AA c8 ca V (w9.drewN m) w9.heap.size R8.out RA.out (by rw [HVl.out]; omega)).mono ?_
      rintro e w11 ⟨rfl, m2, rfl⟩
      go_wp2_with fail
      go_ret
      exact ⟨rfl, below_drewN K9.out (m + m2)⟩
    · have hb := open_bad hr
      have hq : runQ cs0 3 per ns p = [] := if_neg hb
      have hls : runL cs0 3 per ns p = [] := if_neg hb
      rw [hq, hls]
      obtain ⟨T, ad, rfl⟩ := e7.some_of hb
      have HR := Lib.hid hr
      have HV := Lib.hid (show roundV p per ns = [] from if_neg hr)
      clear o7 o8 e7 hb hq hls hr
      go_wp2_with fail
      refine (ownPackets_any A c p w7 w.heap.size (h.below K7.out) (by omega)).mono ?_
      rintro e w8 ⟨A9, c9, rfl, o9, k8⟩
      have r9 := RdP.of_own o9
      have k8' := K7.out.trans (k8.mono z7)
      go_wp2_with fail
      refine (roundV_any A9 A' c9 c' p per ns S w8 _ (Nat.le_refl _) r9 ((h'.below k8').more k8'.size) (((hS.s.below k8').more k8'.size).sub (by simp)) hl hl').mono ?_
      rintro e w9 ⟨AA, ca, v9, rfl, -, e9, k9⟩
      obtain ⟨T9, ad9, rfl⟩ := e9.some_of HR.out
      rw [HV.out]
      have K9 := Lib.hid (K7.out.trans ((k8.trans (k9.mono k8.size)).mono z7))
      clear o9 r9 k8' e9 k8 k9
      go_wp2_with fail
      go_ret
      exact ⟨rfl, K9.out⟩
set_option maxHeartbeats 1000000 in
theorem gateOpen_any (A : Option Addr) (c : Nat) (p : List Pk) (per : Int) (A' : Option Addr) (c' : Nat) (ns : List Int) (S : Nat → Addr) (w : World) (h : RdP w w.heap.size A p) (h' : RdI w w.heap.size A' ns) (hS : GS w w.heap.size S) (hl : p.length ≤ 9223372036854775807) (hl' : ns.length ≤ 9223372036854775807) :
    Calls Tryd.prog 6 #[.slice A p.length c, .int .i64 per, .slice A' ns.length c'] w fun e w' => e = .returned (.bool true) ∧ Below w.heap.size w w' := by
  cases hfit : fitB p.length 80
  · have Hfit := Lib.hid hfit
    clear hfit
    go_enter Tryd.func6, Tryd.ntmps6
    go_wp2_with fail
    refine (opens_any S w hS).mono ?_
    rintro e w1 ⟨rfl, k1⟩
    go_wp2_with fail
    refine (fit_any A c p.length 80 _ hl).mono ?_
    rintro e wx ⟨rfl, rfl⟩
    rw [Hfit.out]
    go_wp2_with fail
    go_ret
    exact ⟨rfl, k1⟩
  · by_cases h30 : ns.length ≤ 30
    · exact gopen_main A A' c c' p per ns S w h h' hS hfit h30
    · have Hfit := Lib.hid hfit
      have h31 : (30 : Int) < (ns.length : Int) := by omega
      clear hfit h30
      go_enter Tryd.func6, Tryd.ntmps6
      go_wp2_with fail
      refine (opens_any S w hS).mono ?_
      rintro e w1 ⟨rfl, k1⟩
      go_wp2_with fail
      refine (fit_any A c p.length 80 _ hl).mono ?_
      rintro e wx ⟨rfl, rfl⟩
      rw [Hfit.out]
      go_wp2_with fail
      go_ret
      exact ⟨rfl, k1⟩
end Go.Proofs.YthgpbdlmadjndaaDoor
