/- floodgateref1.LinkFault. Condition: the list fits memory. -/
import Derived.Test.YthgpbdlmadjndaaDoorPkRefB
namespace Go.Proofs.YthgpbdlmadjndaaDoor
open Go.RowKit
set_option maxRecDepth 100000
set_option maxHeartbeats 1000000 in
theorem linkFault_any (A : Option Addr) (c : Nat) (p : List Pk) (per : Int) (w : World) (B : Nat) (hB : B ≤ w.heap.size) (h : RdP w B A p) (hl : p.length ≤ 9223372036854775807) :
    Calls Tryd.prog 45 #[.slice A p.length c, .int .i64 per] w fun e w' => e = .returned (fv (lookErr p per).1 (lookErr p per).2) ∧ Below w.heap.size w w' := by
  have ba : Below w.heap.size w (w.alloc (.cells #[.int .i64 0, .int .i64 0] 36)) := (Below.refl _ _).alloc (Nat.le_refl _) _
  by_cases h1 : (pktErr p).1 = 0
  · have hc := pktErr_nil h1
    by_cases h2 : per < 1 ∨ 1000 < per
    · have Hf := Lib.hid (show lookErr p per = (2, -1) by unfold lookErr; rw [if_neg (by omega), if_pos h2])
      have Hc := Lib.hid hc
      have h3 : per < 1 ∨ (1 ≤ per ∧ 1000 < per) := by omega
      clear h1 h2 hc
      rcases h3 with h3 | ⟨h3, h4⟩
      all_goals
        go_enter Tryd.func45, Tryd.ntmps45
        go_wp2_with fail
        refine (packetsFault_any A c p _ B (Nat.le_trans hB ba.size) (h.below (ba.mono hB)) hl).mono ?_
        rintro e w1 ⟨rfl, k1⟩
        rw [Hc.out]
        have b1 : Blk w1 w.heap.size 36 #[.int .i64 0, .int .i64 0] := new_blk k1
        have k1' := ba.trans (k1.mono ba.size)
        unfold fv
        go_wp2_with fail
        refine (bare_any 2 _).mono ?_
        rintro e w2 ⟨rfl, k2⟩
        have b2 : Blk w2 w.heap.size 36 #[.int .i64 0, .int .i64 0] := (b1.alloc _).below k2 (by have := b1.lt; simp; omega)
        have c0 := b2.cell 0
        have c1 := b2.cell 1
        have z0 := b2.frozen 0
        have z1 := b2.frozen 1
        simp only [List.getElem?_toArray, List.getElem?_cons_zero, List.getElem?_cons_succ] at c0 c1
        unfold fv
        go_wp2_with fail
        exact bodyPost_ret (v := fv 2 (-1)) (results_cell_row (p := 4) rfl _ _ w.heap.size 36 #[.int .i64 2, .int .i64 (-1)] (0, 0) _ rfl ((b2.set_ 0 (.int .i64 2)).set_ 1 (.int .i64 (-1))) Tryd.underlying36 rfl infoFv) rfl
          ⟨by rw [Hf.out]; rfl, (((k1'.alloc k1'.size _).trans (k2.mono (by have := k1'.size; simp; omega))).setCell (p := ⟨w.heap.size, 0, none⟩) (Nat.le_refl _) _).setCell (p := ⟨w.heap.size, 1, none⟩) (Nat.le_refl _) _⟩
    · have Hf := Lib.hid (show lookErr p per = (0, -1) by unfold lookErr; rw [if_neg (by omega), if_neg h2])
      have Hc := Lib.hid hc
      have h3 : 1 ≤ per := by omega
      have h4 : per ≤ 1000 := by omega
      clear h1 h2 hc
      go_enter Tryd.func45, Tryd.ntmps45
      go_wp2_with fail
      refine (packetsFault_any A c p _ B (Nat.le_trans hB ba.size) (h.below (ba.mono hB)) hl).mono ?_
      rintro e w1 ⟨rfl, k1⟩
      rw [Hc.out]
      have b1 : Blk w1 w.heap.size 36 #[.int .i64 0, .int .i64 0] := new_blk k1
      have k1' := ba.trans (k1.mono ba.size)
      have b2 := b1.alloc (.cells #[.int .i64 0, .int .i64 (-1)] 36)
      have c0 := b2.cell 0
      have c1 := b2.cell 1
      have z0 := b2.frozen 0
      have z1 := b2.frozen 1
      simp only [List.getElem?_toArray, List.getElem?_cons_zero, List.getElem?_cons_succ] at c0 c1
      unfold fv
      go_wp2_with fail
      exact bodyPost_ret (v := fv 0 (-1)) (results_cell_row (p := 4) rfl _ _ w.heap.size 36 #[.int .i64 0, .int .i64 (-1)] (0, 0) _ rfl ((b2.set_ 0 (.int .i64 0)).set_ 1 (.int .i64 (-1))) Tryd.underlying36 rfl infoFv) rfl
        ⟨by rw [Hf.out]; rfl, ((k1'.alloc k1'.size _).setCell (p := ⟨w.heap.size, 0, none⟩) (Nat.le_refl _) _).setCell (p := ⟨w.heap.size, 1, none⟩) (Nat.le_refl _) _⟩
  · have Hf := Lib.hid (show lookErr p per = pktErr p from if_pos h1)
    have h2 : (((pktErr p).1 : Int) == 0) = false := beq_eq_false_iff_ne.2 (by omega)
    clear h1
    go_enter Tryd.func45, Tryd.ntmps45
    go_wp2_with fail
    refine (packetsFault_any A c p _ B (Nat.le_trans hB ba.size) (h.below (ba.mono hB)) hl).mono ?_
    rintro e w1 ⟨rfl, k1⟩
    have b1 : Blk w1 w.heap.size 36 #[.int .i64 0, .int .i64 0] := new_blk k1
    have k1' := ba.trans (k1.mono ba.size)
    have b2 := b1.alloc (.cells #[.int .i64 (pktErr p).1, .int .i64 (pktErr p).2] 36)
    have c0 := b2.cell 0
    have c1 := b2.cell 1
    have z0 := b2.frozen 0
    have z1 := b2.frozen 1
    simp only [List.getElem?_toArray, List.getElem?_cons_zero, List.getElem?_cons_succ] at c0 c1
    unfold fv
    go_wp2_with fail
    exact bodyPost_ret (v := fv (pktErr p).1 (pktErr p).2) (results_cell_row (p := 4) rfl _ _ w.heap.size 36 #[.int .i64 (pktErr p).1, .int .i64 (pktErr p).2] (0, 0) _ rfl ((b2.set_ 0 (.int .i64 (pktErr p).1)).set_ 1 (.int .i64 (pktErr p).2)) Tryd.underlying36 rfl infoFv) rfl
      ⟨by rw [Hf.out], ((k1'.alloc k1'.size _).setCell (p := ⟨w.heap.size, 0, none⟩) (Nat.le_refl _) _).setCell (p := ⟨w.heap.size, 1, none⟩) (Nat.le_refl _) _⟩
end Go.Proofs.YthgpbdlmadjndaaDoor
