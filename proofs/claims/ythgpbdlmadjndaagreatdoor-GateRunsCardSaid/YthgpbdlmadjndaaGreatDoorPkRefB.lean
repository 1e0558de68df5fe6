/- floodgateref1.PacketsFault. Condition: the list fits memory. -/
import Derived.Test.YthgpbdlmadjndaaGreatDoorPkM
import Derived.Test.YthgpbdlmadjndaaGreatDoorFvB
namespace Go.Proofs.YthgpbdlmadjndaaGreatDoor
open Go.RowKit
set_option maxRecDepth 100000
set_option maxHeartbeats 2000000 in
theorem packetsFault_any (A : Option Addr) (c : Nat) (l : List Pk) (w : World) (B : Nat) (hB : B ≤ w.heap.size) (h : RdP w B A l) (hl : l.length ≤ 9223372036854775807) :
    Calls Tryz.prog 42 #[.slice A l.length c] w fun e w' => e = .returned (fv (pktErr l).1 (pktErr l).2) ∧ Below w.heap.size w w' := by
  have ba : Below w.heap.size w (w.alloc (.cells #[.int .i64 0, .int .i64 0] 37)) := (Below.refl _ _).alloc (Nat.le_refl _) _
  by_cases h1 : 300 < l.length
  · have Hf := Lib.hid (show pktErr l = (2, -1) from if_pos h1)
    go_enter Tryz.func42, Tryz.ntmps42
    go_wp2_with fail
    refine (bare_any 2 _).mono ?_
    rintro e w1 ⟨rfl, k1⟩
    have b1 : Blk w1 w.heap.size 37 #[.int .i64 0, .int .i64 0] := new_blk k1
    have c0 := b1.cell 0
    have c1 := b1.cell 1
    have z0 := b1.frozen 0
    have z1 := b1.frozen 1
    simp only [List.getElem?_toArray, List.getElem?_cons_zero, List.getElem?_cons_succ] at c0 c1
    unfold fv
    go_wp2_with fail
    exact bodyPost_ret (v := fv 2 (-1)) (results_cell_row (p := 2) rfl _ _ w.heap.size 37 #[.int .i64 2, .int .i64 (-1)] (0, 0) _ rfl ((b1.set_ 0 (.int .i64 2)).set_ 1 (.int .i64 (-1))) Tryz.underlying37 rfl infoFv) rfl ⟨by rw [Hf.out]; rfl, ((ba.trans (k1.mono ba.size)).setCell (p := ⟨w.heap.size, 0, none⟩) (Nat.le_refl _) _).setCell (p := ⟨w.heap.size, 1, none⟩) (Nat.le_refl _) _⟩
  · have Hf := Lib.hid (show pktErr l = pktBad l 0 0 from if_neg h1)
    have h2 : l.length ≤ 300 := by omega
    clear h1
    go_enter Tryz.func42, Tryz.ntmps42
    go_wp2_with fail
    go_loopw [3] (fun i wr => ∃ (k : Nat) (m : Int), k ≤ l.length ∧ i = .int .i64 k ∧ pktErr l = pktBad (l.drop k) m k ∧ ((k = 0 ∧ m = 0) ∨ ∃ j, k = j + 1 ∧ ∃ hj : j < l.length, m = l[j].a) ∧ Below (w.heap.size + 1) (w.alloc (.cells #[.int .i64 0, .int .i64 0] 37)) wr) (fun i _ => l.length - (intOf i).toNat)
    case atStart => exact ⟨0, 0, Nat.zero_le _, rfl, Hf.out, .inl ⟨rfl, rfl⟩, Below.refl _ _⟩
    case round =>
      obtain ⟨k, m, hk, rfl, hbad, hm, hbw⟩ := hrel
      have hz := hbw.size
      simp at hz
      have kb : Below w.heap.size w wr := ba.trans (hbw.mono (Nat.le_succ _))
      have b0 : Blk wr w.heap.size 37 #[.int .i64 0, .int .i64 0] := (Blk.new _ _ _).below hbw (Nat.lt_succ_self _)
      have y0 := b0.cell 0
      have y1 := b0.cell 1
      have z0 := b0.frozen 0
      have z1 := b0.frozen 1
      simp only [List.getElem?_toArray, List.getElem?_cons_zero, List.getElem?_cons_succ] at y0 y1
      have Hb0 := Lib.hid b0
      clear b0 Hf
      by_cases hlt : k < l.length
      · obtain ⟨b, o, rfl, hb, d0, d1, d2⟩ := RdP.get (h.below (kb.mono hB)) hlt
        rw [List.drop_eq_getElem_cons hlt] at hbad
        have q1 : (k : Int) < (l.length : Int) := by omega
        have q2 : (0 : Int) ≤ (k : Int) := by omega
        have on : Blk (wr.alloc (.cells #[.int .i64 l[k].f, .int .i64 l[k].s, .int .i64 l[k].a] 58)) w.heap.size 37 #[.int .i64 0, .int .i64 0] := Hb0.out.alloc _
        have x0 := on.cell 0
        have x1 := on.cell 1
        have f0 := on.frozen 0
        have f1 := on.frozen 1
        simp only [List.getElem?_toArray, List.getElem?_cons_zero, List.getElem?_cons_succ] at x0 x1
        have On := Lib.hid on
        clear on
        have kc : Below w.heap.size w (wr.alloc (.cells #[.int .i64 l[k].f, .int .i64 l[k].s, .int .i64 l[k].a] 58)) := kb.alloc (by omega) _
        by_cases hx : okPk l[k]
        · have Hx := Lib.hid hx
          obtain ⟨p1, p2, p3, p4, p5, p6⟩ := hx
          rcases hm with ⟨rfl, rfl⟩ | ⟨j, rfl, hj, rfl⟩
          · have Hb := Lib.hid (show pktErr l = pktBad (l.drop 1) l[0].a 1 by rw [hbad]; exact (if_pos Hx.out).trans (if_neg (by omega)))
            clear hbad
            simp only [Nat.zero_mul, Nat.add_zero] at d0 d1 d2
            go_wp2_with fail
            go_quiet (fail)
            go_wp2_with fail
            go_roundw
            case rel => exact ⟨1, _, hlt, by go_num, Hb.out, .inr ⟨0, rfl, hlt, rfl⟩, below_drewN (hbw.alloc (by omega) _) _⟩
            case measure => simp [intOf]; omega
          · obtain ⟨b', o', he, hb', e0, e1, e2⟩ := RdP.get (h.below (kb.mono hB)) hj
            simp only [Option.some.injEq, Addr.mk.injEq, and_true] at he
            obtain ⟨rfl, rfl⟩ := he
            have e2' : (wr.alloc (.cells #[.int .i64 l[j + 1].f, .int .i64 l[j + 1].s, .int .i64 l[j + 1].a] 58)).cell? ⟨b, o + j * 3 + 2, none⟩ = some (.int .i64 l[j].a) := (((Below.refl wr.heap.size wr).alloc (Nat.le_refl _) _).cell (p := ⟨b, o + j * 3 + 2, none⟩) (by simp only; omega)).trans e2
            have q3 : (0 : Int) < ((j + 1 : Nat) : Int) := by omega
            have q4 : ((j + 1 : Nat) : Int) - 1 = (j : Int) := by omega
            have q5 : (j : Int) < (l.length : Int) := by omega
            by_cases hlast : l[j + 1].a < l[j].a
            · have Hb := Lib.hid (show pktErr l = (5, ((j + 1 : Nat) : Int)) by rw [hbad]; exact (if_pos Hx.out).trans (if_pos hlast))
              clear hbad
              go_wp2_with fail
              go_quiet (fail)
              go_wp2_with fail
              exact bodyPost_ret (v := fv 5 ((j + 1 : Nat) : Int)) (results_cell_row (p := 2) rfl _ _ w.heap.size 37 #[.int .i64 5, .int .i64 ((j + 1 : Nat) : Int)] (0, 0) _ rfl (((On.out.drewN _).set_ 0 (.int .i64 5)).set_ 1 (.int .i64 ((j + 1 : Nat) : Int))) Tryz.underlying37 rfl infoFv) rfl
                ⟨by rw [Hb.out]; rfl, ((below_drewN kc _).setCell (p := ⟨w.heap.size, 0, none⟩) (Nat.le_refl _) _).setCell (p := ⟨w.heap.size, 1, none⟩) (Nat.le_refl _) _⟩
            · have hlast2 : l[j].a ≤ l[j + 1].a := by omega
              have Hb := Lib.hid (show pktErr l = pktBad (l.drop (j + 1 + 1)) l[j + 1].a (j + 1 + 1) by rw [hbad]; exact (if_pos Hx.out).trans (if_neg hlast))
              clear hbad hlast
              go_wp2_with fail
              go_quiet (fail)
              go_wp2_with fail
              go_roundw
              case rel => exact ⟨j + 1 + 1, _, hlt, by go_num, Hb.out, .inr ⟨j + 1, rfl, hlt, rfl⟩, below_drewN (hbw.alloc (by omega) _) _⟩
              case measure => simp [intOf]; omega
        · have Hb := Lib.hid (show pktErr l = (2, (k : Int)) by rw [hbad]; exact if_neg hx)
          clear hbad
          have hx' : l[k].f < 0 ∨ (0 ≤ l[k].f ∧ 8 ≤ l[k].f) ∨ (0 ≤ l[k].f ∧ l[k].f < 8 ∧ l[k].s < 1) ∨ (0 ≤ l[k].f ∧ l[k].f < 8 ∧ 1 ≤ l[k].s ∧ 1500 < l[k].s) ∨ (0 ≤ l[k].f ∧ l[k].f < 8 ∧ 1 ≤ l[k].s ∧ l[k].s ≤ 1500 ∧ l[k].a < 0) ∨ (0 ≤ l[k].f ∧ l[k].f < 8 ∧ 1 ≤ l[k].s ∧ l[k].s ≤ 1500 ∧ 0 ≤ l[k].a ∧ 1099511627776 < l[k].a) := by
            unfold okPk at hx
            omega
          clear hx hm
          rcases hx' with p1 | ⟨p1, p2⟩ | ⟨p1, p2, p3⟩ | ⟨p1, p2, p3, p4⟩ | ⟨p1, p2, p3, p4, p5⟩ | ⟨p1, p2, p3, p4, p5, p6⟩
          all_goals
            go_wp2_with fail
            exact bodyPost_ret (v := fv 2 k) (results_cell_row (p := 2) rfl _ _ w.heap.size 37 #[.int .i64 2, .int .i64 k] (0, 0) _ rfl ((On.out.set_ 0 (.int .i64 2)).set_ 1 (.int .i64 k)) Tryz.underlying37 rfl infoFv) rfl
              ⟨by rw [Hb.out]; rfl, (kc.setCell (p := ⟨w.heap.size, 0, none⟩) (Nat.le_refl _) _).setCell (p := ⟨w.heap.size, 1, none⟩) (Nat.le_refl _) _⟩
      · have Hb := Lib.hid (show pktErr l = (0, -1) by rw [hbad, List.drop_eq_nil_of_le (by omega)]; rfl)
        clear hbad
        go_wp2_with fail
        refine (fine_any _).mono ?_
        rintro e w1 ⟨rfl, k1⟩
        have b1 := Hb0.out.below k1 (by omega)
        have c0 := b1.cell 0
        have c1 := b1.cell 1
        have v0 := b1.frozen 0
        have v1 := b1.frozen 1
        simp only [List.getElem?_toArray, List.getElem?_cons_zero, List.getElem?_cons_succ] at c0 c1
        have Hb1 := Lib.hid b1
        clear b1
        unfold fv
        go_wp2_with fail
        exact bodyPost_ret (v := fv 0 (-1)) (results_cell_row (p := 2) rfl _ _ w.heap.size 37 #[.int .i64 0, .int .i64 (-1)] (0, 0) _ rfl ((Hb1.out.set_ 0 (.int .i64 0)).set_ 1 (.int .i64 (-1))) Tryz.underlying37 rfl infoFv) rfl
          ⟨by rw [Hb.out]; rfl, ((kb.trans (k1.mono (by omega))).setCell (p := ⟨w.heap.size, 0, none⟩) (Nat.le_refl _) _).setCell (p := ⟨w.heap.size, 1, none⟩) (Nat.le_refl _) _⟩
end Go.Proofs.YthgpbdlmadjndaaGreatDoor
