/- floodgateref1's Bare, Fine, CurveFault, AtOf. Conditions written at each. -/
import Derived.Test.YthgpbdlmadjndaaGreatDoorCvM
import Derived.Test.YthgpbdlmadjndaaGreatDoorBaseM
import Derived.Test.YthgpbdlmadjndaaGreatDoorFvB
namespace Go.Proofs.YthgpbdlmadjndaaGreatDoor
open Go.RowKit
set_option maxRecDepth 100000
theorem curveFault_any (A : Option Addr) (c : Nat) (l : List Ln) (w : World) (B : Nat) (hB : B ≤ w.heap.size) (h : RdL w B A l) (hl : l.length ≤ 9223372036854775807) :
    Calls Tryz.prog 32 #[.slice A l.length c] w fun e w' => e = .returned (fv (crvErr l).1 (crvErr l).2) ∧ Below w.heap.size w w' := by
  have ba : Below w.heap.size w (w.alloc (.cells #[.int .i64 0, .int .i64 0] 37)) := (Below.refl _ _).alloc (Nat.le_refl _) _
  by_cases h1 : l.length < 1 ∨ 6 < l.length
  · have Hf := Lib.hid (show crvErr l = (3, -1) from if_pos h1)
    have h2 : l.length < 1 ∨ (1 ≤ l.length ∧ 6 < l.length) := by omega
    clear h1
    rcases h2 with h1 | ⟨h1, h2⟩
    all_goals
      go_enter Tryz.func32, Tryz.ntmps32
      go_wp2_with fail
      refine (bare_any 3 _).mono ?_
      rintro e w1 ⟨rfl, k1⟩
      have b1 : Blk w1 w.heap.size 37 #[.int .i64 0, .int .i64 0] := new_blk k1
      have c0 := b1.cell 0
      have c1 := b1.cell 1
      have z0 := b1.frozen 0
      have z1 := b1.frozen 1
      simp only [List.getElem?_toArray, List.getElem?_cons_zero, List.getElem?_cons_succ] at c0 c1
      unfold fv
      go_wp2_with fail
      exact bodyPost_ret (v := fv 3 (-1)) (results_cell_row (p := 2) rfl _ _ w.heap.size 37 #[.int .i64 3, .int .i64 (-1)] (0, 0) _ rfl ((b1.set_ 0 (.int .i64 3)).set_ 1 (.int .i64 (-1))) Tryz.underlying37 rfl infoFv) rfl ⟨by rw [Hf.out]; rfl, ((ba.trans (k1.mono ba.size)).setCell (p := ⟨w.heap.size, 0, none⟩) (Nat.le_refl _) _).setCell (p := ⟨w.heap.size, 1, none⟩) (Nat.le_refl _) _⟩
  · have h2 : 1 ≤ l.length := by omega
    have h3 : l.length ≤ 6 := by omega
    have Hn := Lib.hid h1
    clear h1
    go_enter Tryz.func32, Tryz.ntmps32
    go_wp2_with fail
    go_loopw [3] (fun i wr => ∃ k : Nat, k ≤ l.length ∧ i = .int .i64 k ∧ badIdx l 0 = badIdx (l.drop k) k ∧ Below (w.heap.size + 1) (w.alloc (.cells #[.int .i64 0, .int .i64 0] 37)) wr) (fun i _ => l.length - (intOf i).toNat)
    case atStart => exact ⟨0, Nat.zero_le _, rfl, rfl, Below.refl _ _⟩
    case round =>
      obtain ⟨k, hk, rfl, hbad, hbw⟩ := hrel
      have hz := hbw.size
      simp at hz
      have kb : Below w.heap.size w wr := ba.trans (hbw.mono (Nat.le_succ _))
      have b0 : Blk wr w.heap.size 37 #[.int .i64 0, .int .i64 0] := (Blk.new _ _ _).below hbw (Nat.lt_succ_self _)
      have Hb0 := Lib.hid b0
      clear b0
      by_cases hlt : k < l.length
      · obtain ⟨b, o, rfl, hb, d0, d1⟩ := RdL.get (h.below (kb.mono hB)) hlt
        rw [List.drop_eq_getElem_cons hlt] at hbad
        have q1 : (k : Int) < (l.length : Int) := by omega
        cases hx : lineB l[k].b l[k].r
        · have Hbad := Lib.hid (show badIdx l 0 = k by rw [hbad]; simp [badIdx, hx])
          have He := Lib.hid (show lineErr l[k] = 2 by unfold lineErr; rw [hx]; rfl)
          clear hbad hx
          go_wp2_with fail
          refine (lineErr_any l[k] _).mono ?_
          rintro e w1 ⟨rfl, k1⟩
          rw [He.out]
          have b1 := Hb0.out.below k1 (by omega)
          have c0 := b1.cell 0
          have c1 := b1.cell 1
          have z0 := b1.frozen 0
          have z1 := b1.frozen 1
          simp only [List.getElem?_toArray, List.getElem?_cons_zero, List.getElem?_cons_succ] at c0 c1
          have Hb1 := Lib.hid b1
          clear b1
          go_wp2_with fail
          exact bodyPost_ret (v := fv 2 k) (results_cell_row (p := 2) rfl _ _ w.heap.size 37 #[.int .i64 2, .int .i64 k] (0, 0) _ rfl ((Hb1.out.set_ 0 (.int .i64 2)).set_ 1 (.int .i64 k)) Tryz.underlying37 rfl infoFv) rfl
            ⟨by rw [show crvErr l = (2, badIdx l 0) from (if_neg Hn.out).trans (if_neg (by rw [Hbad.out]; omega)), Hbad.out]; rfl, ((kb.trans (k1.mono (by omega))).setCell (p := ⟨w.heap.size, 0, none⟩) (Nat.le_refl _) _).setCell (p := ⟨w.heap.size, 1, none⟩) (Nat.le_refl _) _⟩
        · have Hbad := Lib.hid (show badIdx l 0 = badIdx (l.drop (k + 1)) (k + 1) by rw [hbad]; simp [badIdx, hx])
          have He := Lib.hid (show lineErr l[k] = 0 by unfold lineErr; rw [hx]; rfl)
          clear hbad hx
          go_wp2_with fail
          refine (lineErr_any l[k] _).mono ?_
          rintro e w1 ⟨rfl, k1⟩
          rw [He.out]
          go_wp2_with fail
          go_roundw
          case rel => exact ⟨k + 1, hlt, by go_num, Hbad.out, hbw.trans (k1.mono (by omega))⟩
          case measure => simp [intOf]; omega
      · have Hbad := Lib.hid (show badIdx l 0 = -1 by rw [hbad, List.drop_eq_nil_of_le (by omega)]; rfl)
        clear hbad
        go_wp2_with fail
        refine (fine_any _).mono ?_
        rintro e w1 ⟨rfl, k1⟩
        have b1 := Hb0.out.below k1 (by omega)
        have c0 := b1.cell 0
        have c1 := b1.cell 1
        have z0 := b1.frozen 0
        have z1 := b1.frozen 1
        simp only [List.getElem?_toArray, List.getElem?_cons_zero, List.getElem?_cons_succ] at c0 c1
        have Hb1 := Lib.hid b1
        clear b1
        unfold fv
        go_wp2_with fail
        exact bodyPost_ret (v := fv 0 (-1)) (results_cell_row (p := 2) rfl _ _ w.heap.size 37 #[.int .i64 0, .int .i64 (-1)] (0, 0) _ rfl ((Hb1.out.set_ 0 (.int .i64 0)).set_ 1 (.int .i64 (-1))) Tryz.underlying37 rfl infoFv) rfl
          ⟨by rw [show crvErr l = (0, -1) from (if_neg Hn.out).trans (if_pos Hbad.out)]; rfl, ((kb.trans (k1.mono (by omega))).setCell (p := ⟨w.heap.size, 0, none⟩) (Nat.le_refl _) _).setCell (p := ⟨w.heap.size, 1, none⟩) (Nat.le_refl _) _⟩
end Go.Proofs.YthgpbdlmadjndaaGreatDoor
