/- floodgateref2.GateFault. Conditions: as for a gate in memory. -/
import Derived.Test.YthgpbdlmadjndaaGreatDoorGtM
import Derived.Test.YthgpbdlmadjndaaGreatDoorCvM
import Derived.Test.YthgpbdlmadjndaaGreatDoorCvRef
import Derived.Test.YthgpbdlmadjndaaGreatDoorWeE
namespace Go.Proofs.YthgpbdlmadjndaaGreatDoor
open Go.RowKit
set_option maxRecDepth 100000
/-- The error of a gate's numbers. -/
def gfE (n : Nat) (ns : List Int) : Nat :=
  match n with
  | 0 => if 0 < ns.length then 3 else 0
  | 1 => numE ns 0 100
  | 2 => numE ns 0 1099511627776
  | 3 => numE ns 1 3000
  | _ => weErr ns
theorem numE_qu (l : List Int) : numE l 1 3000 = quErr l := by
  refine Eq.symm ?_
  have key : ∀ (l : List Int) (k : Nat), l.all (fun n => decide (1 ≤ n ∧ n ≤ 3000)) = decide (¬ 0 ≤ qIdx l k) := fun l => by
    induction l with
    | nil => intro k; rfl
    | cons n r ih =>
      intro k
      rw [List.all_cons, ih (k + 1)]
      have hq : qIdx (n :: r) k = if outQ n = true then (k : Int) else qIdx r (k + 1) := rfl
      rw [hq]
      by_cases h : 1 ≤ n ∧ n ≤ 3000
      · have h1 : outQ n = false := by unfold outQ; exact decide_eq_false (by omega)
        rw [h1, decide_eq_true h]
        simp
      · have h1 : outQ n = true := by unfold outQ; exact decide_eq_true (by omega)
        rw [h1, decide_eq_false h]
        simp
  unfold quErr numE
  by_cases h8 : l.length = 8
  · rw [if_pos h8, if_pos h8, key l 0]
    by_cases h : 0 ≤ qIdx l 0
    · rw [if_pos h, if_neg (by simp [h])]
    · rw [if_neg h, if_pos (by simp [h])]
  · rw [if_neg h8, if_neg h8]
theorem linkErr_nil {n : Nat} (hn : n < 5) (per : Int) (ns : List Int) : linkErr n [] per ns = if per < 1 ∨ 1000 < per then (2, -1) else (gfE n ns, -1) := by
  have hl : lookErr [] per = if per < 1 ∨ 1000 < per then (2, -1) else (0, -1) := by
    unfold lookErr
    exact if_neg (fun h => h rfl)
  by_cases hp : per < 1 ∨ 1000 < per
  · rw [if_pos hp] at hl ⊢
    match n, hn with
    | 0, _ => unfold linkErr; simp only [hl]; rfl
    | 1, _ => unfold linkErr rankErr; simp only [hl]; rfl
    | 2, _ => unfold linkErr rankErr; simp only [hl]; rfl
    | 3, _ => unfold linkErr roundErr; simp only [hl]; rfl
    | 4, _ => unfold linkErr fairErr; simp only [hl]; rfl
  · rw [if_neg hp] at hl ⊢
    match n, hn with
    | 0, _ =>
      unfold linkErr gfE
      simp only [hl]
      by_cases h : 0 < ns.length
      · rw [if_pos h, if_pos h]; rfl
      · rw [if_neg h, if_neg h]; rfl
    | 1, _ => unfold linkErr rankErr gfE; simp only [hl]; rw [numE_eq]; rfl
    | 2, _ => unfold linkErr rankErr gfE; simp only [hl]; rw [numE_eq]; rfl
    | 3, _ => unfold linkErr roundErr gfE; simp only [hl]; rw [numE_qu]; rfl
    | 4, _ => unfold linkErr fairErr gfE; simp only [hl]; rfl
section
variable (Ac An : Option Addr) (cc cn : Nat) (cs : List (List Ln)) (K : ByteArray) (per : Int) (ns : List Int) (w : World) (B : Nat) (hB : B ≤ w.heap.size) (h : RdLL w B Ac cs) (h' : RdI w B An ns) (hl : ∀ l ∈ cs, l.length ≤ 9223372036854775807) (hl' : ns.length ≤ 9223372036854775807)
include hB h h' hl hl'
set_option maxHeartbeats 8000000 in
theorem gfault_any : Calls Tryz.prog 12 #[.agg #[.slice Ac cs.length cc, .string K, .int .i64 per, .slice An ns.length cn]] w fun e w' => e = .returned (fv (gateErr cs (kindN K) per ns).1 (gateErr cs (kindN K) per ns).2) ∧ Below w.heap.size w w' := by
  have b0 : Below w.heap.size w ((w.alloc (.cells #[.slice Ac cs.length cc, .string K, .int .i64 per, .slice An ns.length cn] 25)).alloc (.cells #[.int .i64 0, .int .i64 0] 37)) := ((Below.refl _ _).alloc (Nat.le_refl _) _).alloc (by simp) _
  have x0 : Blk ((w.alloc (.cells #[.slice Ac cs.length cc, .string K, .int .i64 per, .slice An ns.length cn] 25)).alloc (.cells #[.int .i64 0, .int .i64 0] 37)) w.heap.size 25 #[.slice Ac cs.length cc, .string K, .int .i64 per, .slice An ns.length cn] := (Blk.new _ _ _).below ((Below.refl _ _).alloc (Nat.le_refl _) _) (by simp)
  have y0 : Blk ((w.alloc (.cells #[.slice Ac cs.length cc, .string K, .int .i64 per, .slice An ns.length cn] 25)).alloc (.cells #[.int .i64 0, .int .i64 0] 37)) (w.heap.size + 1) 37 #[.int .i64 0, .int .i64 0] := by
    have := Blk.new (w.alloc (.cells #[.slice Ac cs.length cc, .string K, .int .i64 per, .slice An ns.length cn] 25)) 37 #[.int .i64 0, .int .i64 0]
    simpa using this
  by_cases h8 : cs.length = 8
  · have He := Lib.hid (show gateErr cs (kindN K) per ns = (if (csBad cs 0).1 ≠ 0 then csBad cs 0 else linkErr (kindN K) [] per ns) from if_pos h8)
    rw [h8] at b0 x0 y0
    have H8 := Lib.hid h8
    rw [h8]
    have X0 := Lib.hid x0
    have Y0 := Lib.hid y0
    have B0 := Lib.hid b0
    clear h8 x0 b0 y0
    go_enter Tryz.func12, Tryz.ntmps12
    go_wp2_with fail
    go_loopw [3] (fun iv wr => ∃ k : Nat, k ≤ 8 ∧ iv = .int .i64 k ∧ csBad cs 0 = csBad (cs.drop k) k ∧ Below w.heap.size w wr ∧ Blk wr w.heap.size 25 #[.slice Ac 8 cc, .string K, .int .i64 per, .slice An ns.length cn] ∧ Blk wr (w.heap.size + 1) 37 #[.int .i64 0, .int .i64 0]) (fun iv _ => 8 - (intOf iv).toNat)
    case atStart => exact ⟨0, Nat.zero_le _, rfl, rfl, B0.out, X0.out, Y0.out⟩
    case round =>
      obtain ⟨k, hk, rfl, hbad, hbw, hx, hy⟩ := hrel
      have zw := hbw.size
      have hzl := hx.lt
      have hyl := hy.lt
      have HX := Lib.hid hx
      have HY := Lib.hid hy
      have HB := Lib.hid hbad
      have e0 := hx.cell 0
      simp at e0
      clear hx hy hbad X0 B0 Y0
      by_cases hlt : k < 8
      · have hkl : k < cs.length := by rw [H8.out]; exact hlt
        obtain ⟨b, o, a, c, rfl, hb, d0, hrd⟩ := (h.below (hbw.mono hB)) k hkl
        have hst := csBad_step hkl
        have hll := hl _ (List.getElem_mem hkl)
        obtain ⟨l, hle⟩ : ∃ l, l = cs[k] := ⟨_, rfl⟩
        rw [← hle] at d0 hrd hst hll
        have HS := Lib.hid hst
        have HR := Lib.hid hrd
        have u1 : (0 : Int) ≤ (k : Int) := by omega
        have u2 : (k : Int) < 8 := by omega
        clear hst hle hrd
        by_cases h0 : l.length = 0
        · have HN := Lib.hid (show csBad cs 0 = csBad (cs.drop (k + 1)) (k + 1) by rw [HB.out, HS.out, if_pos h0])
          rw [h0] at d0
          clear h0
          go_wp2_with fail
          go_roundw
          case rel => exact ⟨k + 1, hlt, by go_num, HN.out, hbw, HX.out, HY.out⟩
          case measure => simp [intOf]; omega
        · have u3 : ((l.length : Int) == 0) = false := by rw [beq_eq_false_iff_ne]; omega
          by_cases h1 : (crvErr l).1 ≠ 0
          · have HN := Lib.hid (show csBad cs 0 = ((crvErr l).1, (k : Int)) by rw [HB.out, HS.out, if_neg h0, if_pos h1])
            have H1 := Lib.hid h1
            have u4 : (0 : Int) < ((crvErr l).1 : Int) := by omega
            clear h0 h1
            go_wp2_with fail
            refine (curveFault_any a c l _ B (Nat.le_trans hB zw) HR.out hll).mono ?_
            rintro e w1 ⟨rfl, k1⟩
            have k1' := hbw.trans (k1.mono zw)
            have y1 := HY.out.below k1 hyl
            have y2 : Blk (w1.alloc (.cells #[.int .i64 (crvErr l).1, .int .i64 (crvErr l).2] 37)) (w.heap.size + 1) 37 #[.int .i64 0, .int .i64 0] := y1.below ((Below.refl _ _).alloc (Nat.le_refl _) _) y1.lt
            have f2 : Blk (w1.alloc (.cells #[.int .i64 (crvErr l).1, .int .i64 (crvErr l).2] 37)) w1.heap.size 37 #[.int .i64 (crvErr l).1, .int .i64 (crvErr l).2] := Blk.new _ _ _
            have b2 : Below w.heap.size w (w1.alloc (.cells #[.int .i64 (crvErr l).1, .int .i64 (crvErr l).2] 37)) := k1'.alloc k1'.size _
            have c0 := y2.cell 0
            have c1 := y2.cell 1
            have z0 := y2.frozen 0
            have z1 := y2.frozen 1
            have x0 := f2.cell 0
            simp only [List.getElem?_toArray, List.getElem?_cons_zero, List.getElem?_cons_succ] at c0 c1 x0
            have Y2 := Lib.hid y2
            have B2 := Lib.hid b2
            clear y1 y2 f2 b2 d0 e0
            unfold fv
            go_wp2_with fail
            rw [He.out, HN.out]
            rw [if_pos H1.out]
            exact bodyPost_ret (v := fv (crvErr l).1 k) (results_cell_row (p := 2) rfl _ _ (w.heap.size + 1) 37 #[.int .i64 (crvErr l).1, .int .i64 k] (0, 0) _ rfl ((Y2.out.set_ 0 (.int .i64 (crvErr l).1)).set_ 1 (.int .i64 k)) Tryz.underlying37 rfl infoFv) rfl ⟨rfl, (B2.out.setCell (p := ⟨w.heap.size + 1, 0, none⟩) (Nat.le_succ _) _).setCell (p := ⟨w.heap.size + 1, 1, none⟩) (Nat.le_succ _) _⟩
          · have HN := Lib.hid (show csBad cs 0 = csBad (cs.drop (k + 1)) (k + 1) by rw [HB.out, HS.out, if_neg h0, if_neg h1])
            have H1 := Lib.hid (show (crvErr l).1 = 0 by omega)
            clear h0 h1
            go_wp2_with fail
            refine (curveFault_any a c l _ B (Nat.le_trans hB zw) HR.out hll).mono ?_
            rintro e w1 ⟨rfl, k1⟩
            rw [H1.out]
            have k1' := hbw.trans (k1.mono zw)
            have y1 := HY.out.below k1 hyl
            have x1 := HX.out.below k1 hzl
            have f2 : Blk (w1.alloc (.cells #[.int .i64 (0 : Nat), .int .i64 (crvErr l).2] 37)) w1.heap.size 37 #[.int .i64 (0 : Nat), .int .i64 (crvErr l).2] := Blk.new _ _ _
            have x0 := f2.cell 0
            simp only [List.getElem?_toArray, List.getElem?_cons_zero, List.getElem?_cons_succ] at x0
            have Y1 := Lib.hid y1
            have X1 := Lib.hid x1
            have y1l := y1.lt
            have x1l := x1.lt
            clear y1 x1 f2 d0 e0
            unfold fv
            go_wp2_with fail
            go_roundw
            case rel => exact ⟨k + 1, hlt, by go_num, HN.out, k1'.alloc k1'.size _, X1.out.below ((Below.refl _ _).alloc (Nat.le_refl _) _) x1l, Y1.out.below ((Below.refl _ _).alloc (Nat.le_refl _) _) y1l⟩
            case measure => simp [intOf]; omega
      · have HE := Lib.hid (show gateErr cs (kindN K) per ns = linkErr (kindN K) [] per ns by
          rw [He.out, HB.out, List.drop_eq_nil_of_le (by rw [H8.out]; omega)]
          exact if_neg (by simp [csBad]))
        have e1 := HX.out.cell 1
        have e2 := HX.out.cell 2
        have e3 := HX.out.cell 3
        simp at e1 e2 e3
        clear HB He hk
        have hp3 : per < 1 ∨ (1 ≤ per ∧ 1000 < per) ∨ (1 ≤ per ∧ per ≤ 1000) := by omega
        rcases kind_cases K with ⟨s0, s1, s2, s3, s4, hn⟩ | ⟨s0, s1, s2, s3, s4, hn⟩ | ⟨s0, s1, s2, s3, s4, hn⟩ | ⟨s0, s1, s2, s3, s4, hn⟩ | ⟨s0, s1, s2, s3, s4, hn⟩ | ⟨s0, s1, s2, s3, s4, hn⟩
        · have HE := Lib.hid (show gateErr cs (kindN K) per ns = linkErr 0 [] per ns from HE.out.trans (congrArg (fun k => linkErr k [] per ns) hn))
          clear hn
          rw [linkErr_nil (by omega)] at HE
          by_cases hz : 0 < ns.length
          · have hz' : (0 : Int) < (ns.length : Int) := by omega
            rcases hp3 with p1 | ⟨p1, p2⟩ | ⟨p1, p2⟩
            · go_wp2_with fail
              refine (bare_any 2 _).mono ?_
              rintro e w1 ⟨rfl, k1⟩
              have y1 := HY.out.below k1 hyl
              have c0 := y1.cell 0
              have c1 := y1.cell 1
              have z0 := y1.frozen 0
              have z1 := y1.frozen 1
              simp only [List.getElem?_toArray, List.getElem?_cons_zero, List.getElem?_cons_succ] at c0 c1
              have Y1 := Lib.hid y1
              have B1 := Lib.hid (hbw.trans (k1.mono zw))
              clear y1 e1 e2 e3 e0
              unfold fv
              go_wp2_with fail
              rw [HE.out, if_pos (by omega)]
              exact bodyPost_ret (v := fv 2 (-1)) (results_cell_row (p := 2) rfl _ _ (w.heap.size + 1) 37 #[.int .i64 2, .int .i64 (-1)] (0, 0) _ rfl ((Y1.out.set_ 0 (.int .i64 2)).set_ 1 (.int .i64 (-1))) Tryz.underlying37 rfl infoFv) rfl ⟨rfl, (B1.out.setCell (p := ⟨w.heap.size + 1, 0, none⟩) (Nat.le_succ _) _).setCell (p := ⟨w.heap.size + 1, 1, none⟩) (Nat.le_succ _) _⟩
            · have p3 : (!decide (per ≤ 1000)) = true := by rw [decide_eq_false (by omega)]; rfl
              go_wp2_with fail
              refine (bare_any 2 _).mono ?_
              rintro e w1 ⟨rfl, k1⟩
              have y1 := HY.out.below k1 hyl
              have c0 := y1.cell 0
              have c1 := y1.cell 1
              have z0 := y1.frozen 0
              have z1 := y1.frozen 1
              simp only [List.getElem?_toArray, List.getElem?_cons_zero, List.getElem?_cons_succ] at c0 c1
              have Y1 := Lib.hid y1
              have B1 := Lib.hid (hbw.trans (k1.mono zw))
              clear y1 e1 e2 e3 e0
              unfold fv
              go_wp2_with fail
              rw [HE.out, if_pos (by omega)]
              exact bodyPost_ret (v := fv 2 (-1)) (results_cell_row (p := 2) rfl _ _ (w.heap.size + 1) 37 #[.int .i64 2, .int .i64 (-1)] (0, 0) _ rfl ((Y1.out.set_ 0 (.int .i64 2)).set_ 1 (.int .i64 (-1))) Tryz.underlying37 rfl infoFv) rfl ⟨rfl, (B1.out.setCell (p := ⟨w.heap.size + 1, 0, none⟩) (Nat.le_succ _) _).setCell (p := ⟨w.heap.size + 1, 1, none⟩) (Nat.le_succ _) _⟩
            · go_wp2_with fail
              refine (bare_any 3 _).mono ?_
              rintro e w1 ⟨rfl, k1⟩
              have y1 := HY.out.below k1 hyl
              have c0 := y1.cell 0
              have c1 := y1.cell 1
              have z0 := y1.frozen 0
              have z1 := y1.frozen 1
              simp only [List.getElem?_toArray, List.getElem?_cons_zero, List.getElem?_cons_succ] at c0 c1
              have Y1 := Lib.hid y1
              have B1 := Lib.hid (hbw.trans (k1.mono zw))
              clear y1 e1 e2 e3 e0
              unfold fv
              go_wp2_with fail
              rw [HE.out, if_neg (by omega), show gfE 0 ns = 3 from if_pos hz]
              exact bodyPost_ret (v := fv 3 (-1)) (results_cell_row (p := 2) rfl _ _ (w.heap.size + 1) 37 #[.int .i64 3, .int .i64 (-1)] (0, 0) _ rfl ((Y1.out.set_ 0 (.int .i64 3)).set_ 1 (.int .i64 (-1))) Tryz.underlying37 rfl infoFv) rfl ⟨rfl, (B1.out.setCell (p := ⟨w.heap.size + 1, 0, none⟩) (Nat.le_succ _) _).setCell (p := ⟨w.heap.size + 1, 1, none⟩) (Nat.le_succ _) _⟩
          · have hz' : ¬ (0 : Int) < (ns.length : Int) := by omega
            rcases hp3 with p1 | ⟨p1, p2⟩ | ⟨p1, p2⟩
            · go_wp2_with fail
              refine (bare_any 2 _).mono ?_
              rintro e w1 ⟨rfl, k1⟩
              have y1 := HY.out.below k1 hyl
              have c0 := y1.cell 0
              have c1 := y1.cell 1
              have z0 := y1.frozen 0
              have z1 := y1.frozen 1
              simp only [List.getElem?_toArray, List.getElem?_cons_zero, List.getElem?_cons_succ] at c0 c1
              have Y1 := Lib.hid y1
              have B1 := Lib.hid (hbw.trans (k1.mono zw))
              clear y1 e1 e2 e3 e0
              unfold fv
              go_wp2_with fail
              rw [HE.out, if_pos (by omega)]
              exact bodyPost_ret (v := fv 2 (-1)) (results_cell_row (p := 2) rfl _ _ (w.heap.size + 1) 37 #[.int .i64 2, .int .i64 (-1)] (0, 0) _ rfl ((Y1.out.set_ 0 (.int .i64 2)).set_ 1 (.int .i64 (-1))) Tryz.underlying37 rfl infoFv) rfl ⟨rfl, (B1.out.setCell (p := ⟨w.heap.size + 1, 0, none⟩) (Nat.le_succ _) _).setCell (p := ⟨w.heap.size + 1, 1, none⟩) (Nat.le_succ _) _⟩
            · have p3 : (!decide (per ≤ 1000)) = true := by rw [decide_eq_false (by omega)]; rfl
              go_wp2_with fail
              refine (bare_any 2 _).mono ?_
              rintro e w1 ⟨rfl, k1⟩
              have y1 := HY.out.below k1 hyl
              have c0 := y1.cell 0
              have c1 := y1.cell 1
              have z0 := y1.frozen 0
              have z1 := y1.frozen 1
              simp only [List.getElem?_toArray, List.getElem?_cons_zero, List.getElem?_cons_succ] at c0 c1
              have Y1 := Lib.hid y1
              have B1 := Lib.hid (hbw.trans (k1.mono zw))
              clear y1 e1 e2 e3 e0
              unfold fv
              go_wp2_with fail
              rw [HE.out, if_pos (by omega)]
              exact bodyPost_ret (v := fv 2 (-1)) (results_cell_row (p := 2) rfl _ _ (w.heap.size + 1) 37 #[.int .i64 2, .int .i64 (-1)] (0, 0) _ rfl ((Y1.out.set_ 0 (.int .i64 2)).set_ 1 (.int .i64 (-1))) Tryz.underlying37 rfl infoFv) rfl ⟨rfl, (B1.out.setCell (p := ⟨w.heap.size + 1, 0, none⟩) (Nat.le_succ _) _).setCell (p := ⟨w.heap.size + 1, 1, none⟩) (Nat.le_succ _) _⟩
            · go_wp2_with fail
              refine (fine_any _).mono ?_
              rintro e w1 ⟨rfl, k1⟩
              have y1 := HY.out.below k1 hyl
              have c0 := y1.cell 0
              have c1 := y1.cell 1
              have z0 := y1.frozen 0
              have z1 := y1.frozen 1
              simp only [List.getElem?_toArray, List.getElem?_cons_zero, List.getElem?_cons_succ] at c0 c1
              have Y1 := Lib.hid y1
              have B1 := Lib.hid (hbw.trans (k1.mono zw))
              clear y1 e1 e2 e3 e0
              unfold fv
              go_wp2_with fail
              rw [HE.out, if_neg (by omega), show gfE 0 ns = 0 from if_neg hz]
              exact bodyPost_ret (v := fv 0 (-1)) (results_cell_row (p := 2) rfl _ _ (w.heap.size + 1) 37 #[.int .i64 0, .int .i64 (-1)] (0, 0) _ rfl ((Y1.out.set_ 0 (.int .i64 0)).set_ 1 (.int .i64 (-1))) Tryz.underlying37 rfl infoFv) rfl ⟨rfl, (B1.out.setCell (p := ⟨w.heap.size + 1, 0, none⟩) (Nat.le_succ _) _).setCell (p := ⟨w.heap.size + 1, 1, none⟩) (Nat.le_succ _) _⟩
        · have HE := Lib.hid (show gateErr cs (kindN K) per ns = linkErr 1 [] per ns from HE.out.trans (congrArg (fun k => linkErr k [] per ns) hn))
          clear hn
          rw [linkErr_nil (by omega)] at HE
          obtain ⟨E, hE⟩ : ∃ E, E = numE ns 0 100 := ⟨_, rfl⟩
          rw [show gfE 1 ns = E from hE.symm] at HE
          have HEE := Lib.hid hE
          clear hE
          rcases hp3 with p1 | ⟨p1, p2⟩ | ⟨p1, p2⟩
          · go_wp2_with fail
            refine (numbersError_any An cn ns 0 100 _ B (h'.below (hbw.mono hB)) hl').mono ?_
            rintro e w0 ⟨rfl, rfl⟩
            rw [← HEE.out]
            go_wp2_with fail
            refine (bare_any 2 _).mono ?_
            rintro e w1 ⟨rfl, k1⟩
            have y1 := HY.out.below k1 hyl
            have c0 := y1.cell 0
            have c1 := y1.cell 1
            have z0 := y1.frozen 0
            have z1 := y1.frozen 1
            simp only [List.getElem?_toArray, List.getElem?_cons_zero, List.getElem?_cons_succ] at c0 c1
            have Y1 := Lib.hid y1
            have B1 := Lib.hid (hbw.trans (k1.mono zw))
            clear y1 e1 e2 e3 e0
            unfold fv
            go_wp2_with fail
            rw [HE.out, if_pos (by omega)]
            exact bodyPost_ret (v := fv 2 (-1)) (results_cell_row (p := 2) rfl _ _ (w.heap.size + 1) 37 #[.int .i64 2, .int .i64 (-1)] (0, 0) _ rfl ((Y1.out.set_ 0 (.int .i64 2)).set_ 1 (.int .i64 (-1))) Tryz.underlying37 rfl infoFv) rfl ⟨rfl, (B1.out.setCell (p := ⟨w.heap.size + 1, 0, none⟩) (Nat.le_succ _) _).setCell (p := ⟨w.heap.size + 1, 1, none⟩) (Nat.le_succ _) _⟩
          · have p3 : (!decide (per ≤ 1000)) = true := by rw [decide_eq_false (by omega)]; rfl
            go_wp2_with fail
            refine (numbersError_any An cn ns 0 100 _ B (h'.below (hbw.mono hB)) hl').mono ?_
            rintro e w0 ⟨rfl, rfl⟩
            rw [← HEE.out]
            go_wp2_with fail
            refine (bare_any 2 _).mono ?_
            rintro e w1 ⟨rfl, k1⟩
            have y1 := HY.out.below k1 hyl
            have c0 := y1.cell 0
            have c1 := y1.cell 1
            have z0 := y1.frozen 0
            have z1 := y1.frozen 1
            simp only [List.getElem?_toArray, List.getElem?_cons_zero, List.getElem?_cons_succ] at c0 c1
            have Y1 := Lib.hid y1
            have B1 := Lib.hid (hbw.trans (k1.mono zw))
            clear y1 e1 e2 e3 e0
            unfold fv
            go_wp2_with fail
            rw [HE.out, if_pos (by omega)]
            exact bodyPost_ret (v := fv 2 (-1)) (results_cell_row (p := 2) rfl _ _ (w.heap.size + 1) 37 #[.int .i64 2, .int .i64 (-1)] (0, 0) _ rfl ((Y1.out.set_ 0 (.int .i64 2)).set_ 1 (.int .i64 (-1))) Tryz.underlying37 rfl infoFv) rfl ⟨rfl, (B1.out.setCell (p := ⟨w.heap.size + 1, 0, none⟩) (Nat.le_succ _) _).setCell (p := ⟨w.heap.size + 1, 1, none⟩) (Nat.le_succ _) _⟩
          · go_wp2_with fail
            refine (numbersError_any An cn ns 0 100 _ B (h'.below (hbw.mono hB)) hl').mono ?_
            rintro e w0 ⟨rfl, rfl⟩
            rw [← HEE.out]
            by_cases hz : E = 0
            · subst hz
              go_wp2_with fail
              refine (fine_any _).mono ?_
              rintro e w1 ⟨rfl, k1⟩
              have y1 := HY.out.below k1 hyl
              have c0 := y1.cell 0
              have c1 := y1.cell 1
              have z0 := y1.frozen 0
              have z1 := y1.frozen 1
              simp only [List.getElem?_toArray, List.getElem?_cons_zero, List.getElem?_cons_succ] at c0 c1
              have Y1 := Lib.hid y1
              have B1 := Lib.hid (hbw.trans (k1.mono zw))
              clear y1 e1 e2 e3 e0
              unfold fv
              go_wp2_with fail
              rw [HE.out, if_neg (by omega)]
              exact bodyPost_ret (v := fv 0 (-1)) (results_cell_row (p := 2) rfl _ _ (w.heap.size + 1) 37 #[.int .i64 0, .int .i64 (-1)] (0, 0) _ rfl ((Y1.out.set_ 0 (.int .i64 0)).set_ 1 (.int .i64 (-1))) Tryz.underlying37 rfl infoFv) rfl ⟨rfl, (B1.out.setCell (p := ⟨w.heap.size + 1, 0, none⟩) (Nat.le_succ _) _).setCell (p := ⟨w.heap.size + 1, 1, none⟩) (Nat.le_succ _) _⟩
            · have hz' : (0 : Int) < (E : Int) := by omega
              go_wp2_with fail
              refine (bare_any E _).mono ?_
              rintro e w1 ⟨rfl, k1⟩
              have y1 := HY.out.below k1 hyl
              have c0 := y1.cell 0
              have c1 := y1.cell 1
              have z0 := y1.frozen 0
              have z1 := y1.frozen 1
              simp only [List.getElem?_toArray, List.getElem?_cons_zero, List.getElem?_cons_succ] at c0 c1
              have Y1 := Lib.hid y1
              have B1 := Lib.hid (hbw.trans (k1.mono zw))
              clear y1 e1 e2 e3 e0
              unfold fv
              go_wp2_with fail
              rw [HE.out, if_neg (by omega)]
              exact bodyPost_ret (v := fv E (-1)) (results_cell_row (p := 2) rfl _ _ (w.heap.size + 1) 37 #[.int .i64 E, .int .i64 (-1)] (0, 0) _ rfl ((Y1.out.set_ 0 (.int .i64 E)).set_ 1 (.int .i64 (-1))) Tryz.underlying37 rfl infoFv) rfl ⟨rfl, (B1.out.setCell (p := ⟨w.heap.size + 1, 0, none⟩) (Nat.le_succ _) _).setCell (p := ⟨w.heap.size + 1, 1, none⟩) (Nat.le_succ _) _⟩
        · have HE := Lib.hid (show gateErr cs (kindN K) per ns = linkErr 2 [] per ns from HE.out.trans (congrArg (fun k => linkErr k [] per ns) hn))
          clear hn
          rw [linkErr_nil (by omega)] at HE
          obtain ⟨E, hE⟩ : ∃ E, E = numE ns 0 1099511627776 := ⟨_, rfl⟩
          rw [show gfE 2 ns = E from hE.symm] at HE
          have HEE := Lib.hid hE
          clear hE
          rcases hp3 with p1 | ⟨p1, p2⟩ | ⟨p1, p2⟩
          · go_wp2_with fail
            refine (numbersError_any An cn ns 0 1099511627776 _ B (h'.below (hbw.mono hB)) hl').mono ?_
            rintro e w0 ⟨rfl, rfl⟩
            rw [← HEE.out]
            go_wp2_with fail
            refine (bare_any 2 _).mono ?_
            rintro e w1 ⟨rfl, k1⟩
            have y1 := HY.out.below k1 hyl
            have c0 := y1.cell 0
            have c1 := y1.cell 1
            have z0 := y1.frozen 0
            have z1 := y1.frozen 1
            simp only [List.getElem?_toArray, List.getElem?_cons_zero, List.getElem?_cons_succ] at c0 c1
            have Y1 := Lib.hid y1
            have B1 := Lib.hid (hbw.trans (k1.mono zw))
            clear y1 e1 e2 e3 e0
            unfold fv
            go_wp2_with fail
            rw [HE.out, if_pos (by omega)]
            exact bodyPost_ret (v := fv 2 (-1)) (results_cell_row (p := 2) rfl _ _ (w.heap.size + 1) 37 #[.int .i64 2, .int .i64 (-1)] (0, 0) _ rfl ((Y1.out.set_ 0 (.int .i64 2)).set_ 1 (.int .i64 (-1))) Tryz.underlying37 rfl infoFv) rfl ⟨rfl, (B1.out.setCell (p := ⟨w.heap.size + 1, 0, none⟩) (Nat.le_succ _) _).setCell (p := ⟨w.heap.size + 1, 1, none⟩) (Nat.le_succ _) _⟩
          · have p3 : (!decide (per ≤ 1000)) = true := by rw [decide_eq_false (by omega)]; rfl
            go_wp2_with fail
            refine (numbersError_any An cn ns 0 1099511627776 _ B (h'.below (hbw.mono hB)) hl').mono ?_
            rintro e w0 ⟨rfl, rfl⟩
            rw [← HEE.out]
            go_wp2_with fail
            refine (bare_any 2 _).mono ?_
            rintro e w1 ⟨rfl, k1⟩
            have y1 := HY.out.below k1 hyl
            have c0 := y1.cell 0
            have c1 := y1.cell 1
            have z0 := y1.frozen 0
            have z1 := y1.frozen 1
            simp only [List.getElem?_toArray, List.getElem?_cons_zero, List.getElem?_cons_succ] at c0 c1
            have Y1 := Lib.hid y1
            have B1 := Lib.hid (hbw.trans (k1.mono zw))
            clear y1 e1 e2 e3 e0
            unfold fv
            go_wp2_with fail
            rw [HE.out, if_pos (by omega)]
            exact bodyPost_ret (v := fv 2 (-1)) (results_cell_row (p := 2) rfl _ _ (w.heap.size + 1) 37 #[.int .i64 2, .int .i64 (-1)] (0, 0) _ rfl ((Y1.out.set_ 0 (.int .i64 2)).set_ 1 (.int .i64 (-1))) Tryz.underlying37 rfl infoFv) rfl ⟨rfl, (B1.out.setCell (p := ⟨w.heap.size + 1, 0, none⟩) (Nat.le_succ _) _).setCell (p := ⟨w.heap.size + 1, 1, none⟩) (Nat.le_succ _) _⟩
          · go_wp2_with fail
            refine (numbersError_any An cn ns 0 1099511627776 _ B (h'.below (hbw.mono hB)) hl').mono ?_
            rintro e w0 ⟨rfl, rfl⟩
            rw [← HEE.out]
            by_cases hz : E = 0
            · subst hz
              go_wp2_with fail
              refine (fine_any _).mono ?_
              rintro e w1 ⟨rfl, k1⟩
              have y1 := HY.out.below k1 hyl
              have c0 := y1.cell 0
              have c1 := y1.cell 1
              have z0 := y1.frozen 0
              have z1 := y1.frozen 1
              simp only [List.getElem?_toArray, List.getElem?_cons_zero, List.getElem?_cons_succ] at c0 c1
              have Y1 := Lib.hid y1
              have B1 := Lib.hid (hbw.trans (k1.mono zw))
              clear y1 e1 e2 e3 e0
              unfold fv
              go_wp2_with fail
              rw [HE.out, if_neg (by omega)]
              exact bodyPost_ret (v := fv 0 (-1)) (results_cell_row (p := 2) rfl _ _ (w.heap.size + 1) 37 #[.int .i64 0, .int .i64 (-1)] (0, 0) _ rfl ((Y1.out.set_ 0 (.int .i64 0)).set_ 1 (.int .i64 (-1))) Tryz.underlying37 rfl infoFv) rfl ⟨rfl, (B1.out.setCell (p := ⟨w.heap.size + 1, 0, none⟩) (Nat.le_succ _) _).setCell (p := ⟨w.heap.size + 1, 1, none⟩) (Nat.le_succ _) _⟩
            · have hz' : (0 : Int) < (E : Int) := by omega
              go_wp2_with fail
              refine (bare_any E _).mono ?_
              rintro e w1 ⟨rfl, k1⟩
              have y1 := HY.out.below k1 hyl
              have c0 := y1.cell 0
              have c1 := y1.cell 1
              have z0 := y1.frozen 0
              have z1 := y1.frozen 1
              simp only [List.getElem?_toArray, List.getElem?_cons_zero, List.getElem?_cons_succ] at c0 c1
              have Y1 := Lib.hid y1
              have B1 := Lib.hid (hbw.trans (k1.mono zw))
              clear y1 e1 e2 e3 e0
              unfold fv
              go_wp2_with fail
              rw [HE.out, if_neg (by omega)]
              exact bodyPost_ret (v := fv E (-1)) (results_cell_row (p := 2) rfl _ _ (w.heap.size + 1) 37 #[.int .i64 E, .int .i64 (-1)] (0, 0) _ rfl ((Y1.out.set_ 0 (.int .i64 E)).set_ 1 (.int .i64 (-1))) Tryz.underlying37 rfl infoFv) rfl ⟨rfl, (B1.out.setCell (p := ⟨w.heap.size + 1, 0, none⟩) (Nat.le_succ _) _).setCell (p := ⟨w.heap.size + 1, 1, none⟩) (Nat.le_succ _) _⟩
        · have HE := Lib.hid (show gateErr cs (kindN K) per ns = linkErr 3 [] per ns from HE.out.trans (congrArg (fun k => linkErr k [] per ns) hn))
          clear hn
          rw [linkErr_nil (by omega)] at HE
          obtain ⟨E, hE⟩ : ∃ E, E = numE ns 1 3000 := ⟨_, rfl⟩
          rw [show gfE 3 ns = E from hE.symm] at HE
          have HEE := Lib.hid hE
          clear hE
          rcases hp3 with p1 | ⟨p1, p2⟩ | ⟨p1, p2⟩
          · go_wp2_with fail
            refine (numbersError_any An cn ns 1 3000 _ B (h'.below (hbw.mono hB)) hl').mono ?_
            rintro e w0 ⟨rfl, rfl⟩
            rw [← HEE.out]
            go_wp2_with fail
            refine (bare_any 2 _).mono ?_
            rintro e w1 ⟨rfl, k1⟩
            have y1 := HY.out.below k1 hyl
            have c0 := y1.cell 0
            have c1 := y1.cell 1
            have z0 := y1.frozen 0
            have z1 := y1.frozen 1
            simp only [List.getElem?_toArray, List.getElem?_cons_zero, List.getElem?_cons_succ] at c0 c1
            have Y1 := Lib.hid y1
            have B1 := Lib.hid (hbw.trans (k1.mono zw))
            clear y1 e1 e2 e3 e0
            unfold fv
            go_wp2_with fail
            rw [HE.out, if_pos (by omega)]
            exact bodyPost_ret (v := fv 2 (-1)) (results_cell_row (p := 2) rfl _ _ (w.heap.size + 1) 37 #[.int .i64 2, .int .i64 (-1)] (0, 0) _ rfl ((Y1.out.set_ 0 (.int .i64 2)).set_ 1 (.int .i64 (-1))) Tryz.underlying37 rfl infoFv) rfl ⟨rfl, (B1.out.setCell (p := ⟨w.heap.size + 1, 0, none⟩) (Nat.le_succ _) _).setCell (p := ⟨w.heap.size + 1, 1, none⟩) (Nat.le_succ _) _⟩
          · have p3 : (!decide (per ≤ 1000)) = true := by rw [decide_eq_false (by omega)]; rfl
            go_wp2_with fail
            refine (numbersError_any An cn ns 1 3000 _ B (h'.below (hbw.mono hB)) hl').mono ?_
            rintro e w0 ⟨rfl, rfl⟩
            rw [← HEE.out]
            go_wp2_with fail
            refine (bare_any 2 _).mono ?_
            rintro e w1 ⟨rfl, k1⟩
            have y1 := HY.out.below k1 hyl
            have c0 := y1.cell 0
            have c1 := y1.cell 1
            have z0 := y1.frozen 0
            have z1 := y1.frozen 1
            simp only [List.getElem?_toArray, List.getElem?_cons_zero, List.getElem?_cons_succ] at c0 c1
            have Y1 := Lib.hid y1
            have B1 := Lib.hid (hbw.trans (k1.mono zw))
            clear y1 e1 e2 e3 e0
            unfold fv
            go_wp2_with fail
            rw [HE.out, if_pos (by omega)]
            exact bodyPost_ret (v := fv 2 (-1)) (results_cell_row (p := 2) rfl _ _ (w.heap.size + 1) 37 #[.int .i64 2, .int .i64 (-1)] (0, 0) _ rfl ((Y1.out.set_ 0 (.int .i64 2)).set_ 1 (.int .i64 (-1))) Tryz.underlying37 rfl infoFv) rfl ⟨rfl, (B1.out.setCell (p := ⟨w.heap.size + 1, 0, none⟩) (Nat.le_succ _) _).setCell (p := ⟨w.heap.size + 1, 1, none⟩) (Nat.le_succ _) _⟩
          · go_wp2_with fail
            refine (numbersError_any An cn ns 1 3000 _ B (h'.below (hbw.mono hB)) hl').mono ?_
            rintro e w0 ⟨rfl, rfl⟩
            rw [← HEE.out]
            by_cases hz : E = 0
            · subst hz
              go_wp2_with fail
              refine (fine_any _).mono ?_
              rintro e w1 ⟨rfl, k1⟩
              have y1 := HY.out.below k1 hyl
              have c0 := y1.cell 0
              have c1 := y1.cell 1
              have z0 := y1.frozen 0
              have z1 := y1.frozen 1
              simp only [List.getElem?_toArray, List.getElem?_cons_zero, List.getElem?_cons_succ] at c0 c1
              have Y1 := Lib.hid y1
              have B1 := Lib.hid (hbw.trans (k1.mono zw))
              clear y1 e1 e2 e3 e0
              unfold fv
              go_wp2_with fail
              rw [HE.out, if_neg (by omega)]
              exact bodyPost_ret (v := fv 0 (-1)) (results_cell_row (p := 2) rfl _ _ (w.heap.size + 1) 37 #[.int .i64 0, .int .i64 (-1)] (0, 0) _ rfl ((Y1.out.set_ 0 (.int .i64 0)).set_ 1 (.int .i64 (-1))) Tryz.underlying37 rfl infoFv) rfl ⟨rfl, (B1.out.setCell (p := ⟨w.heap.size + 1, 0, none⟩) (Nat.le_succ _) _).setCell (p := ⟨w.heap.size + 1, 1, none⟩) (Nat.le_succ _) _⟩
            · have hz' : (0 : Int) < (E : Int) := by omega
              go_wp2_with fail
              refine (bare_any E _).mono ?_
              rintro e w1 ⟨rfl, k1⟩
              have y1 := HY.out.below k1 hyl
              have c0 := y1.cell 0
              have c1 := y1.cell 1
              have z0 := y1.frozen 0
              have z1 := y1.frozen 1
              simp only [List.getElem?_toArray, List.getElem?_cons_zero, List.getElem?_cons_succ] at c0 c1
              have Y1 := Lib.hid y1
              have B1 := Lib.hid (hbw.trans (k1.mono zw))
              clear y1 e1 e2 e3 e0
              unfold fv
              go_wp2_with fail
              rw [HE.out, if_neg (by omega)]
              exact bodyPost_ret (v := fv E (-1)) (results_cell_row (p := 2) rfl _ _ (w.heap.size + 1) 37 #[.int .i64 E, .int .i64 (-1)] (0, 0) _ rfl ((Y1.out.set_ 0 (.int .i64 E)).set_ 1 (.int .i64 (-1))) Tryz.underlying37 rfl infoFv) rfl ⟨rfl, (B1.out.setCell (p := ⟨w.heap.size + 1, 0, none⟩) (Nat.le_succ _) _).setCell (p := ⟨w.heap.size + 1, 1, none⟩) (Nat.le_succ _) _⟩
        · have HE := Lib.hid (show gateErr cs (kindN K) per ns = linkErr 4 [] per ns from HE.out.trans (congrArg (fun k => linkErr k [] per ns) hn))
          clear hn
          rw [linkErr_nil (by omega)] at HE
          obtain ⟨E, hE⟩ : ∃ E, E = weErr ns := ⟨_, rfl⟩
          rw [show gfE 4 ns = E from hE.symm] at HE
          have HEE := Lib.hid hE
          clear hE
          rcases hp3 with p1 | ⟨p1, p2⟩ | ⟨p1, p2⟩
          · go_wp2_with fail
            refine (weightsError_any An cn ns _ B (h'.below (hbw.mono hB)) hl').mono ?_
            rintro e w0 ⟨rfl, rfl⟩
            rw [← HEE.out]
            go_wp2_with fail
            refine (bare_any 2 _).mono ?_
            rintro e w1 ⟨rfl, k1⟩
            have y1 := HY.out.below k1 hyl
            have c0 := y1.cell 0
            have c1 := y1.cell 1
            have z0 := y1.frozen 0
            have z1 := y1.frozen 1
            simp only [List.getElem?_toArray, List.getElem?_cons_zero, List.getElem?_cons_succ] at c0 c1
            have Y1 := Lib.hid y1
            have B1 := Lib.hid (hbw.trans (k1.mono zw))
            clear y1 e1 e2 e3 e0
            unfold fv
            go_wp2_with fail
            rw [HE.out, if_pos (by omega)]
            exact bodyPost_ret (v := fv 2 (-1)) (results_cell_row (p := 2) rfl _ _ (w.heap.size + 1) 37 #[.int .i64 2, .int .i64 (-1)] (0, 0) _ rfl ((Y1.out.set_ 0 (.int .i64 2)).set_ 1 (.int .i64 (-1))) Tryz.underlying37 rfl infoFv) rfl ⟨rfl, (B1.out.setCell (p := ⟨w.heap.size + 1, 0, none⟩) (Nat.le_succ _) _).setCell (p := ⟨w.heap.size + 1, 1, none⟩) (Nat.le_succ _) _⟩
          · have p3 : (!decide (per ≤ 1000)) = true := by rw [decide_eq_false (by omega)]; rfl
            go_wp2_with fail
            refine (weightsError_any An cn ns _ B (h'.below (hbw.mono hB)) hl').mono ?_
            rintro e w0 ⟨rfl, rfl⟩
            rw [← HEE.out]
            go_wp2_with fail
            refine (bare_any 2 _).mono ?_
            rintro e w1 ⟨rfl, k1⟩
            have y1 := HY.out.below k1 hyl
            have c0 := y1.cell 0
            have c1 := y1.cell 1
            have z0 := y1.frozen 0
            have z1 := y1.frozen 1
            simp only [List.getElem?_toArray, List.getElem?_cons_zero, List.getElem?_cons_succ] at c0 c1
            have Y1 := Lib.hid y1
            have B1 := Lib.hid (hbw.trans (k1.mono zw))
            clear y1 e1 e2 e3 e0
            unfold fv
            go_wp2_with fail
            rw [HE.out, if_pos (by omega)]
            exact bodyPost_ret (v := fv 2 (-1)) (results_cell_row (p := 2) rfl _ _ (w.heap.size + 1) 37 #[.int .i64 2, .int .i64 (-1)] (0, 0) _ rfl ((Y1.out.set_ 0 (.int .i64 2)).set_ 1 (.int .i64 (-1))) Tryz.underlying37 rfl infoFv) rfl ⟨rfl, (B1.out.setCell (p := ⟨w.heap.size + 1, 0, none⟩) (Nat.le_succ _) _).setCell (p := ⟨w.heap.size + 1, 1, none⟩) (Nat.le_succ _) _⟩
          · go_wp2_with fail
            refine (weightsError_any An cn ns _ B (h'.below (hbw.mono hB)) hl').mono ?_
            rintro e w0 ⟨rfl, rfl⟩
            rw [← HEE.out]
            by_cases hz : E = 0
            · subst hz
              go_wp2_with fail
              refine (fine_any _).mono ?_
              rintro e w1 ⟨rfl, k1⟩
              have y1 := HY.out.below k1 hyl
              have c0 := y1.cell 0
              have c1 := y1.cell 1
              have z0 := y1.frozen 0
              have z1 := y1.frozen 1
              simp only [List.getElem?_toArray, List.getElem?_cons_zero, List.getElem?_cons_succ] at c0 c1
              have Y1 := Lib.hid y1
              have B1 := Lib.hid (hbw.trans (k1.mono zw))
              clear y1 e1 e2 e3 e0
              unfold fv
              go_wp2_with fail
              rw [HE.out, if_neg (by omega)]
              exact bodyPost_ret (v := fv 0 (-1)) (results_cell_row (p := 2) rfl _ _ (w.heap.size + 1) 37 #[.int .i64 0, .int .i64 (-1)] (0, 0) _ rfl ((Y1.out.set_ 0 (.int .i64 0)).set_ 1 (.int .i64 (-1))) Tryz.underlying37 rfl infoFv) rfl ⟨rfl, (B1.out.setCell (p := ⟨w.heap.size + 1, 0, none⟩) (Nat.le_succ _) _).setCell (p := ⟨w.heap.size + 1, 1, none⟩) (Nat.le_succ _) _⟩
            · have hz' : (0 : Int) < (E : Int) := by omega
              go_wp2_with fail
              refine (bare_any E _).mono ?_
              rintro e w1 ⟨rfl, k1⟩
              have y1 := HY.out.below k1 hyl
              have c0 := y1.cell 0
              have c1 := y1.cell 1
              have z0 := y1.frozen 0
              have z1 := y1.frozen 1
              simp only [List.getElem?_toArray, List.getElem?_cons_zero, List.getElem?_cons_succ] at c0 c1
              have Y1 := Lib.hid y1
              have B1 := Lib.hid (hbw.trans (k1.mono zw))
              clear y1 e1 e2 e3 e0
              unfold fv
              go_wp2_with fail
              rw [HE.out, if_neg (by omega)]
              exact bodyPost_ret (v := fv E (-1)) (results_cell_row (p := 2) rfl _ _ (w.heap.size + 1) 37 #[.int .i64 E, .int .i64 (-1)] (0, 0) _ rfl ((Y1.out.set_ 0 (.int .i64 E)).set_ 1 (.int .i64 (-1))) Tryz.underlying37 rfl infoFv) rfl ⟨rfl, (B1.out.setCell (p := ⟨w.heap.size + 1, 0, none⟩) (Nat.le_succ _) _).setCell (p := ⟨w.heap.size + 1, 1, none⟩) (Nat.le_succ _) _⟩
        · have HE := Lib.hid (show gateErr cs (kindN K) per ns = linkErr 5 [] per ns from HE.out.trans (congrArg (fun k => linkErr k [] per ns) hn))
          clear hn
          rcases hp3 with p1 | ⟨p1, p2⟩ | ⟨p1, p2⟩
          all_goals
            go_wp2_with fail
            refine (bare_any 9 _).mono ?_
            rintro e w1 ⟨rfl, k1⟩
            have y1 := HY.out.below k1 hyl
            have c0 := y1.cell 0
            have c1 := y1.cell 1
            have z0 := y1.frozen 0
            have z1 := y1.frozen 1
            simp only [List.getElem?_toArray, List.getElem?_cons_zero, List.getElem?_cons_succ] at c0 c1
            have Y1 := Lib.hid y1
            have B1 := Lib.hid (hbw.trans (k1.mono zw))
            clear y1 e1 e2 e3 e0
            unfold fv
            go_wp2_with fail
            rw [HE.out, show linkErr 5 [] per ns = (9, -1) from rfl]
            exact bodyPost_ret (v := fv 9 (-1)) (results_cell_row (p := 2) rfl _ _ (w.heap.size + 1) 37 #[.int .i64 9, .int .i64 (-1)] (0, 0) _ rfl ((Y1.out.set_ 0 (.int .i64 9)).set_ 1 (.int .i64 (-1))) Tryz.underlying37 rfl infoFv) rfl ⟨rfl, (B1.out.setCell (p := ⟨w.heap.size + 1, 0, none⟩) (Nat.le_succ _) _).setCell (p := ⟨w.heap.size + 1, 1, none⟩) (Nat.le_succ _) _⟩
  · have He := Lib.hid (show gateErr cs (kindN K) per ns = (3, -1) from if_neg h8)
    have h8' : ((cs.length : Int) != 8) = true := by simp; omega
    have Y0 := Lib.hid y0
    have B0 := Lib.hid b0
    clear h8 x0 b0 y0
    go_enter Tryz.func12, Tryz.ntmps12
    go_wp2_with fail
    refine (bare_any 3 _).mono ?_
    rintro e w1 ⟨rfl, k1⟩
    have y1 := Y0.out.below k1 (by simp)
    have c0 := y1.cell 0
    have c1 := y1.cell 1
    have z0 := y1.frozen 0
    have z1 := y1.frozen 1
    simp only [List.getElem?_toArray, List.getElem?_cons_zero, List.getElem?_cons_succ] at c0 c1
    have HY := Lib.hid y1
    have B1 := Lib.hid (B0.out.trans (k1.mono B0.out.size))
    clear y1
    unfold fv
    go_wp2_with fail
    rw [He.out]
    exact bodyPost_ret (v := fv 3 (-1)) (results_cell_row (p := 2) rfl _ _ (w.heap.size + 1) 37 #[.int .i64 3, .int .i64 (-1)] (0, 0) _ rfl ((HY.out.set_ 0 (.int .i64 3)).set_ 1 (.int .i64 (-1))) Tryz.underlying37 rfl infoFv) rfl ⟨rfl, (B1.out.setCell (p := ⟨w.heap.size + 1, 0, none⟩) (Nat.le_succ _) _).setCell (p := ⟨w.heap.size + 1, 1, none⟩) (Nat.le_succ _) _⟩
end
end Go.Proofs.YthgpbdlmadjndaaGreatDoor
