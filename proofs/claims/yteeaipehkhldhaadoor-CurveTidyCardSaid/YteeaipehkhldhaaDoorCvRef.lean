/- floodgateref1's Bare, Fine, CurveFault, AtOf. Conditions written at each. -/
import Derived.Test.YteeaipehkhldhaaDoorCvP
import Derived.Test.YteeaipehkhldhaaDoorLineE
import Derived.Test.YteeaipehkhldhaaDoorBlk
namespace Go.Proofs.YteeaipehkhldhaaDoor
open Go.RowKit
set_option maxRecDepth 100000
def fv (k a : Int) : Value := .agg #[.int .i64 k, .int .i64 a]
theorem ret_fv {k a k' a' : Int} (h : k = k') (h2 : a = a') : Ending.returned (.agg #[.int .i64 k, .int .i64 a]) = .returned (fv k' a') := by rw [h, h2]; rfl
theorem infoFv : (Tryd.prog.info? 44).map (·.size) = some 2 := by kernel_rfl
theorem bare_any (k : Int) (w : World) : Calls Tryd.prog 26 #[.int .i64 k] w fun e w' => e = .returned (fv k (-1)) ∧ Below w.heap.size w w' := by
  go_enter Tryd.func26, Tryd.ntmps26
  go_wp2
  exact bodyPost_ret (v := fv k (-1)) (results_cell_row (p := 2) rfl _ _ w.heap.size 44 #[.int .i64 k, .int .i64 (-1)] (0, 0) _ rfl (heap_alloc_new _ _) Tryd.underlying44 rfl infoFv) rfl ⟨rfl, (Below.refl _ _).alloc (Nat.le_refl _) _⟩
theorem fine_any (w : World) : Calls Tryd.prog 58 #[] w fun e w' => e = .returned (fv 0 (-1)) ∧ Below w.heap.size w w' := by
  go_enter Tryd.func58, Tryd.ntmps58
  go_wp2
  exact bodyPost_ret (v := fv 0 (-1)) (results_cell_row (p := 0) rfl _ _ w.heap.size 44 #[.int .i64 0, .int .i64 (-1)] (0, 0) _ rfl (heap_alloc_new _ _) Tryd.underlying44 rfl infoFv) rfl ⟨rfl, (Below.refl _ _).alloc (Nat.le_refl _) _⟩
theorem curveFault_any (A : Option Addr) (c : Nat) (l : List Ln) (w : World) (B : Nat) (hB : B ≤ w.heap.size) (h : RdL w B A l) (hl : l.length ≤ 9223372036854775807) :
    Calls Tryd.prog 23 #[.slice A l.length c] w fun e w' => e = .returned (fv (crvErr l).1 (crvErr l).2) ∧ Below w.heap.size w w' := by
  have ba : Below w.heap.size w (w.alloc (.cells #[.int .i64 0, .int .i64 0] 44)) := (Below.refl _ _).alloc (Nat.le_refl _) _
  by_cases h1 : l.length < 1 ∨ 6 < l.length
  · have Hf := Lib.hid (show crvErr l = (3, -1) from if_pos h1)
    have h2 : l.length < 1 ∨ (1 ≤ l.length ∧ 6 < l.length) := by omega
    clear h1
    rcases h2 with h1 | ⟨h1, h2⟩
    all_goals
      go_enter Tryd.func23, Tryd.ntmps23
      go_wp2_with fail
      refine (bare_any 3 _).mono ?_
      rintro e w1 ⟨rfl, k1⟩
      have b1 : Blk w1 w.heap.size 44 #[.int .i64 0, .int .i64 0] := new_blk k1
      have c0 := b1.cell 0
      have c1 := b1.cell 1
      have z0 := b1.frozen 0
      have z1 := b1.frozen 1
      simp only [List.getElem?_toArray, List.getElem?_cons_zero, List.getElem?_cons_succ] at c0 c1
      unfold fv
      go_wp2_with fail
      exact bodyPost_ret (v := fv 3 (-1)) (results_cell_row (p := 2) rfl _ _ w.heap.size 44 #[.int .i64 3, .int .i64 (-1)] (0, 0) _ rfl ((b1.set_ 0 (.int .i64 3)).set_ 1 (.int .i64 (-1))) Tryd.underlying44 rfl infoFv) rfl ⟨by rw [Hf.out]; rfl, ((ba.trans (k1.mono ba.size)).setCell (p := ⟨w.heap.size, 0, none⟩) (Nat.le_refl _) _).setCell (p := ⟨w.heap.size, 1, none⟩) (Nat.le_refl _) _⟩
  · have h2 : 1 ≤ l.length := by omega
    have h3 : l.length ≤ 6 := by omega
    have Hn := Lib.hid h1
    clear h1
    go_enter Tryd.func23, Tryd.ntmps23
    go_wp2_with fail
    go_loopw [3] (fun i wr => ∃ k : Nat, k ≤ l.length ∧ i = .int .i64 k ∧ badIdx l 0 = badIdx (l.drop k) k ∧ Below (w.heap.size + 1) (w.alloc (.cells #[.int .i64 0, .int .i64 0] 44)) wr) (fun i _ => l.length - (intOf i).toNat)
    case atStart => exact ⟨0, Nat.zero_le _, rfl, rfl, Below.refl _ _⟩
    case round =>
      obtain ⟨k, hk, rfl, hbad, hbw⟩ := hrel
      have hz := hbw.size
      simp at hz
      have kb : Below w.heap.size w wr := ba.trans (hbw.mono (Nat.le_succ _))
      have b0 : Blk wr w.heap.size 44 #[.int .i64 0, .int .i64 0] := (Blk.new _ _ _).below hbw (Nat.lt_succ_self _)
      have Hb0 := Lib.hid b0
      clear b0
      by_cases hlt : k < l.length
      · obtain ⟨b, o, rfl, hb, d0, d1⟩ := RdL.get (h.below (kb.mono hB)) hlt
        rw [List.drop_eq_getElem_cons hlt] at hbad
        have q1 : (k : Int) < (l.length : Int) := by omega
        cases hx : lineB l[k].b l[k].r
        · have Hbad := Lib.hid (show badIdx l 0 = k by rw [hbad]; simp [badIdx, hx])
          have He := Lib.hid (show lineErr l[k] = 2 by unfold lineErr; rw [hx]; rfl)
          clear hbad hx
          go_wp2_with fail
          refine (lineErr_any l[k] _).mono ?_
          rintro e w1 ⟨rfl, k1⟩
          rw [He.out]
          have b1 := Hb0.out.below k1 (by omega)
          have c0 := b1.cell 0
          have c1 := b1.cell 1
          have z0 := b1.frozen 0
          have z1 := b1.frozen 1
          simp only [List.getElem?_toArray, List.getElem?_cons_zero, List.getElem?_cons_succ] at c0 c1
          have Hb1 := Lib.hid b1
          clear b1
          go_wp2_with fail
          exact bodyPost_ret (v := fv 2 k) (results_cell_row (p := 2) rfl _ _ w.heap.size 44 #[.int .i64 2, .int .i64 k] (0, 0) _ rfl ((Hb1.out.set_ 0 (.int .i64 2)).set_ 1 (.int .i64 k)) Tryd.underlying44 rfl infoFv) rfl
            ⟨by rw [show crvErr l = (2, badIdx l 0) from (if_neg Hn.out).trans (if_neg (by rw [Hbad.out]; omega)), Hbad.out]; rfl, ((kb.trans (k1.mono (by omega))).setCell (p := ⟨w.heap.size, 0, none⟩) (Nat.le_refl _) _).setCell (p := ⟨w.heap.size, 1, none⟩) (Nat.le_refl _) _⟩
        · have Hbad := Lib.hid (show badIdx l 0 = badIdx (l.drop (k + 1)) (k + 1) by rw [hbad]; simp [badIdx, hx])
          have He := Lib.hid (show lineErr l[k] = 0 by unfold lineErr; rw [hx]; rfl)
          clear hbad hx
          go_wp2_with fail
          refine (lineErr_any l[k] _).mono ?_
          rintro e w1 ⟨rfl, k1⟩
          rw [He.out]
          go_wp2_with fail
          go_roundw
          case rel => exact ⟨k + 1, hlt, by go_num, Hbad.out, hbw.trans (k1.mono (by omega))⟩
          case measure => simp [intOf]; omega
      · have Hbad := Lib.hid (show badIdx l 0 = -1 by rw [hbad, List.drop_eq_nil_of_le (by omega)]; rfl)
        clear hbad
        go_wp2_with fail
        refine (fine_any _).mono ?_
        rintro e w1 ⟨rfl, k1⟩
        have b1 := Hb0.out.below k1 (by omega)
        have c0 := b1.cell 0
        have c1 := b1.cell 1
        have z0 := b1.frozen 0
        have z1 := b1.frozen 1
        simp only [List.getElem?_toArray, List.getElem?_cons_zero, List.getElem?_cons_succ] at c0 c1
        have Hb1 := Lib.hid b1
        clear b1
        unfold fv
        go_wp2_with fail
        exact bodyPost_ret (v := fv 0 (-1)) (results_cell_row (p := 2) rfl _ _ w.heap.size 44 #[.int .i64 0, .int .i64 (-1)] (0, 0) _ rfl ((Hb1.out.set_ 0 (.int .i64 0)).set_ 1 (.int .i64 (-1))) Tryd.underlying44 rfl infoFv) rfl
          ⟨by rw [show crvErr l = (0, -1) from (if_neg Hn.out).trans (if_pos Hbad.out)]; rfl, ((kb.trans (k1.mono (by omega))).setCell (p := ⟨w.heap.size, 0, none⟩) (Nat.le_refl _) _).setCell (p := ⟨w.heap.size, 1, none⟩) (Nat.le_refl _) _⟩
theorem atOf_any (A : Option Addr) (c : Nat) (l : List Ln) (t : Int) (w : World) (B : Nat) (hB : B ≤ w.heap.size) (h : RdL w B A l) (hl : l.length ≤ 9223372036854775807) (h0 : 0 < l.length) (hok : ∀ x ∈ l, okLn x) (ht0 : 0 ≤ t) (ht1 : t ≤ 1099511627776) :
    Calls Tryd.prog 27 #[.slice A l.length c, .int .i64 t] w fun e w' => e = .returned (.int .i64 (valueL l t)) ∧ Below w.heap.size w w' := by
  go_enter Tryd.func27, Tryd.ntmps27
  go_wp2
  go_loopw [5, 6] (fun n i wr => ∃ (k : Nat) (m : Int), k ≤ l.length ∧ i = .int .i64 k ∧ n = .int .i64 m ∧ (k = 0 ∨ valueL l t = valFrom t m (l.drop k)) ∧ Below w.heap.size w wr) (fun _ i _ => l.length - (intOf i).toNat)
  case atStart => exact ⟨0, _, Nat.zero_le _, rfl, rfl, .inl rfl, Below.refl _ _⟩
  case round =>
    obtain ⟨k, m, hk, rfl, rfl, hv, hbw⟩ := hrel
    by_cases hlt : k < l.length
    · have hokk := hok _ (List.getElem_mem hlt)
      obtain ⟨q1, q2⟩ := okLn_mul hokk ht0 ht1
      obtain ⟨r1, r2, r3, r4⟩ := hokk
      obtain ⟨b', o', rfl, hb', d0, d1⟩ := RdL.get (h.below (hbw.mono hB)) hlt
      have hd : l.drop k = l[k] :: l.drop (k + 1) := List.drop_eq_getElem_cons hlt
      have q3 : (k : Int) < (l.length : Int) := by omega
      have q4 : (0 : Int) ≤ (k : Int) := by omega
      by_cases hk0 : k = 0
      · subst hk0
        have Hv := Lib.hid (show valueL l t = valFrom t (lineAt l[0] t) (l.drop 1) by
          cases l with
          | nil => simp at h0
          | cons x r => show valFrom t (if lineAt x t < lineAt x t then lineAt x t else lineAt x t) r = _; rw [if_neg (Int.lt_irrefl _)]; rfl)
        clear hv hd
        simp only [Nat.zero_mul, Nat.add_zero] at d0 d1
        go_wp2_with fail
        go_quiet (fail)
        go_wp2
        go_roundw
        case rel => exact ⟨1, _, hlt, by go_num, rfl, .inr Hv.out, below_drewN hbw _⟩
        case measure => simp [intOf]; omega
      · have hv' : valueL l t = valFrom t (if lineAt l[k] t < m then lineAt l[k] t else m) (l.drop (k + 1)) := by
          rcases hv with hv | hv
          · omega
          · rw [hv, hd]; rfl
        have hk1 : ((k : Int) == 0) = false := by rw [beq_eq_false_iff_ne]; omega
        clear hv hd
        by_cases hc : l[k].b + l[k].r * t / 1000 < m
        · have Hv := Lib.hid (show valueL l t = valFrom t (l[k].b + l[k].r * t / 1000) (l.drop (k + 1)) by rw [hv']; unfold lineAt; rw [if_pos hc])
          clear hv'
          go_wp2_with fail
          go_quiet (fail)
          go_wp2
          go_roundw
          case rel => exact ⟨k + 1, _, hlt, by go_num, rfl, .inr Hv.out, below_drewN hbw _⟩
          case measure => simp [intOf]; omega
        · have Hv := Lib.hid (show valueL l t = valFrom t m (l.drop (k + 1)) by rw [hv']; unfold lineAt; rw [if_neg hc])
          have hc2 : m ≤ l[k].b + l[k].r * t / 1000 := by omega
          clear hv' hc
          go_wp2_with fail
          go_quiet (fail)
          go_wp2
          go_roundw
          case rel => exact ⟨k + 1, _, hlt, by go_num, rfl, .inr Hv.out, below_drewN hbw _⟩
          case measure => simp [intOf]; omega
    · have Hv := Lib.hid (show valueL l t = m by
        rcases hv with hv | hv
        · omega
        · rw [hv, List.drop_eq_nil_of_le (by omega)]; rfl)
      clear hv
      go_wp2
      go_ret
      exact ⟨ret_int Hv.out.symm, hbw⟩
end Go.Proofs.YteeaipehkhldhaaDoor
