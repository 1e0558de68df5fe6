/- floodgateref1.LinkFault. Condition: the list fits memory. floodgateref2.AuditFault. Conditions: ticks are not too great. -/
import Derived.Test.YthgpbdlmadjndaaDoorPkRefB
import Derived.Test.YthgpbdlmadjndaaDoorAudD
namespace Go.Proofs.YthgpbdlmadjndaaDoor
open Go.RowKit
set_option maxRecDepth 100000
set_option maxHeartbeats 1000000 in
theorem linkFault_any (A : Option Addr) (c : Nat) (p : List Pk) (per : Int) (w : World) (B : Nat) (hB : B ≤ w.heap.size) (h : RdP w B A p) (hl : p.length ≤ 9223372036854775807) :
    Calls Tryd.prog 45 #[.slice A p.length c, .int .i64 per] w fun e w' => e = .returned (fv (lookErr p per).1 (lookErr p per).2) ∧ Below w.heap.size w w' := by
  have ba : Below w.heap.size w (w.alloc (.cells #[.int .i64 0, .int .i64 0] 36)) := (Below.refl _ _).alloc (Nat.le_refl _) _
  by_cases h1 : (pktErr p).1 = 0
  · have hc := pktErr_nil h1
    by_cases h2 : per < 1 ∨ 1000 < per
    · have Hf := Lib.hid (show lookErr p per = (2, -1) by unfold lookErr; rw [if_neg (by omega), if_pos h2])
      have Hc := Lib.hid hc
      have h3 : per < 1 ∨ (1 ≤ per ∧ 1000 < per) := by omega
      clear h1 h2 hc
      rcases h3 with h3 | ⟨h3, h4⟩
      all_goals
        go_enter Tryd.func45, Tryd.ntmps45
        go_wp2_with fail
        refine (packetsFault_any A c p _ B (Nat.le_trans hB ba.size) (h.below (ba.mono hB)) hl).mono ?_
        rintro e w1 ⟨rfl, k1⟩
        rw [Hc.out]
        have b1 : Blk w1 w.heap.size 36 #[.int .i64 0, .int .i64 0] := new_blk k1
        have k1' := ba.trans (k1.mono ba.size)
        unfold fv
        go_wp2_with fail
        refine (bare_any 2 _).mono ?_
        rintro e w2 ⟨rfl, k2⟩
        have b2 : Blk w2 w.heap.size 36 #[.int .i64 0, .int .i64 0] := (b1.alloc _).below k2 (by have := b1.lt; simp; omega)
        have c0 := b2.cell 0
        have c1 := b2.cell 1
        have z0 := b2.frozen 0
        have z1 := b2.frozen 1
        simp only [List.getElem?_toArray, List.getElem?_cons_zero, List.getElem?_cons_succ] at c0 c1
        unfold fv
        go_wp2_with fail
        exact bodyPost_ret (v := fv 2 (-1)) (results_cell_row (p := 4) rfl _ _ w.heap.size 36 #[.int .i64 2, .int .i64 (-1)] (0, 0) _ rfl ((b2.set_ 0 (.int .i64 2)).set_ 1 (.int .i64 (-1))) Tryd.underlying36 rfl infoFv) rfl
          ⟨by rw [Hf.out]; rfl, (((k1'.alloc k1'.size _).trans (k2.mono (by have := k1'.size; simp; omega))).setCell (p := ⟨w.heap.size, 0, none⟩) (Nat.le_refl _) _).setCell (p := ⟨w.heap.size, 1, none⟩) (Nat.le_refl _) _⟩
    · have Hf := Lib.hid (show lookErr p per = (0, -1) by unfold lookErr; rw [if_neg (by omega), if_neg h2])
      have Hc := Lib.hid hc
      have h3 : 1 ≤ per := by omega
      have h4 : per ≤ 1000 := by omega
      clear h1 h2 hc
      go_enter Tryd.func45, Tryd.ntmps45
      go_wp2_with fail
      refine (packetsFault_any A c p _ B (Nat.le_trans hB ba.size) (h.below (ba.mono hB)) hl).mono ?_
      rintro e w1 ⟨rfl, k1⟩
      rw [Hc.out]
      have b1 : Blk w1 w.heap.size 36 #[.int .i64 0, .int .i64 0] := new_blk k1
      have k1' := ba.trans (k1.mono ba.size)
      have b2 := b1.alloc (.cells #[.int .i64 0, .int .i64 (-1)] 36)
      have c0 := b2.cell 0
      have c1 := b2.cell 1
      have z0 := b2.frozen 0
      have z1 := b2.frozen 1
      simp only [List.getElem?_toArray, List.getElem?_cons_zero, List.getElem?_cons_succ] at c0 c1
      unfold fv
      go_wp2_with fail
      exact bodyPost_ret (v := fv 0 (-1)) (results_cell_row (p := 4) rfl _ _ w.heap.size 36 #[.int .i64 0, .int .i64 (-1)] (0, 0) _ rfl ((b2.set_ 0 (.int .i64 0)).set_ 1 (.int .i64 (-1))) Tryd.underlying36 rfl infoFv) rfl
        ⟨by rw [Hf.out]; rfl, ((k1'.alloc k1'.size _).setCell (p := ⟨w.heap.size, 0, none⟩) (Nat.le_refl _) _).setCell (p := ⟨w.heap.size, 1, none⟩) (Nat.le_refl _) _⟩
  · have Hf := Lib.hid (show lookErr p per = pktErr p from if_pos h1)
    have h2 : (((pktErr p).1 : Int) == 0) = false := beq_eq_false_iff_ne.2 (by omega)
    clear h1
    go_enter Tryd.func45, Tryd.ntmps45
    go_wp2_with fail
    refine (packetsFault_any A c p _ B (Nat.le_trans hB ba.size) (h.below (ba.mono hB)) hl).mono ?_
    rintro e w1 ⟨rfl, k1⟩
    have b1 : Blk w1 w.heap.size 36 #[.int .i64 0, .int .i64 0] := new_blk k1
    have k1' := ba.trans (k1.mono ba.size)
    have b2 := b1.alloc (.cells #[.int .i64 (pktErr p).1, .int .i64 (pktErr p).2] 36)
    have c0 := b2.cell 0
    have c1 := b2.cell 1
    have z0 := b2.frozen 0
    have z1 := b2.frozen 1
    simp only [List.getElem?_toArray, List.getElem?_cons_zero, List.getElem?_cons_succ] at c0 c1
    unfold fv
    go_wp2_with fail
    exact bodyPost_ret (v := fv (pktErr p).1 (pktErr p).2) (results_cell_row (p := 4) rfl _ _ w.heap.size 36 #[.int .i64 (pktErr p).1, .int .i64 (pktErr p).2] (0, 0) _ rfl ((b2.set_ 0 (.int .i64 (pktErr p).1)).set_ 1 (.int .i64 (pktErr p).2)) Tryd.underlying36 rfl infoFv) rfl
      ⟨by rw [Hf.out], ((k1'.alloc k1'.size _).setCell (p := ⟨w.heap.size, 0, none⟩) (Nat.le_refl _) _).setCell (p := ⟨w.heap.size, 1, none⟩) (Nat.le_refl _) _⟩
end Go.Proofs.YthgpbdlmadjndaaDoor
namespace Go.Proofs.YthgpbdlmadjndaaDoor
open Go.RowKit
set_option maxRecDepth 100000
theorem lookErr_bad {p : List Pk} {per : Int} (h : (lookErr p per).1 ≠ 0) : (0 : Int) < ((lookErr p per).1 : Int) := by omega
set_option maxHeartbeats 4000000 in
theorem auditFault_ok (A A' : Option Addr) (c c' : Nat) (p : List Pk) (per : Int) (l : List Sn) (w : World) (B : Nat) (hB : B ≤ w.heap.size) (h : RdP w B A p) (h' : RdS w B A' l) (hl' : l.length ≤ 1000) (ht : ∀ x ∈ l, tame50 x.f ∧ tame50 x.t) (hlk : (lookErr p per).1 = 0) :
    Calls Tryd.prog 22 #[.slice A p.length c, .int .i64 per, .slice A' l.length c'] w fun e w' => e = .returned (fv (auGo p per (fun _ => false) 0 l 0).1 (auGo p per (fun _ => false) 0 l 0).2) ∧ Below w.heap.size w w' := by
  obtain ⟨hf, hl, hpk, h0, h1⟩ := lookErr_ok hlk
  obtain ⟨i1, hi1, hy0, hy1, hy2⟩ := info_parts infoBool2
  have Hf := Lib.hid hf
  have ba : Below w.heap.size w (w.alloc (.cells #[.int .i64 0, .int .i64 0] 36)) := (Below.refl _ _).alloc (Nat.le_refl _) _
  clear hf hlk
  go_enter Tryd.func22, Tryd.ntmps22
  go_wp2_with fail
  refine (linkFault_any A c p per _ B (Nat.le_trans hB ba.size) (h.below (ba.mono hB)) (by omega)).mono ?_
  rintro e w1 ⟨rfl, k1⟩
  rw [Hf.out]
  have b1 : Blk w1 w.heap.size 36 #[.int .i64 0, .int .i64 0] := new_blk k1
  have k1' := ba.trans (k1.mono ba.size)
  have z1 := k1'.size
  have s1 : w.heap.size < w1.heap.size := b1.lt
  have bf := (Blk.new w1 36 #[.int .i64 0, .int .i64 (-1)])
  have kf := (Below.refl w1.heap.size w1).alloc (Nat.le_refl _) (.cells #[.int .i64 0, .int .i64 (-1)] 36)
  obtain ⟨wf, hwf⟩ : ∃ wf : World, wf = w1.alloc (.cells #[.int .i64 0, .int .i64 (-1)] 36) := ⟨_, rfl⟩
  rw [← hwf] at bf kf
  have b1f : Blk wf w.heap.size 36 #[.int .i64 0, .int .i64 0] := b1.below kf s1
  have kf' := k1'.trans (kf.mono z1)
  have zf := kf'.size
  have sf : w.heap.size < wf.heap.size := b1f.lt
  have x0 : wf.cell? ⟨w1.heap.size, 0, none⟩ = some (.int .i64 0) := bf.cell 0
  have Hwf := Lib.hid hwf
  unfold fv
  clear hwf bf
  go_wp2_with (at_make; rw [← Hwf.out]; refine wpList_make_full _ rfl (.tmp 21) (.tmp 21) 59 rfl wf.heap.size 4 i1 (.bool false) 1 Tryd.underlying59 hi1 hy0 hy1 .i64 .i64 p.length p.length p.length rfl rfl rfl rfl (by rw [hy2]; omega) (by simp only [maxLen]; omega) (Nat.le_refl _) ?_; intro w2 row2 g2; rw [boolRow_new] at row2; have k2 : Below wf.heap.size wf w2 := (Below.refl _ _).grown g2 (Nat.le_refl _) (by simp); have s2 : wf.heap.size < w2.heap.size := own_lt row2 _ rfl)
  go_loopw [9, 10] (fun tv iv wr => ∃ (i : Nat) (d : Nat → Bool) (to : Int), i ≤ l.length ∧ iv = .int .i64 i ∧ tv = .int .i64 to ∧ BRow wr wf.heap.size 4 wf.heap.size p.length d ∧ auGo p per (fun _ => false) 0 l 0 = auGo p per d to (l.drop i) i ∧ Below wf.heap.size wf wr) (fun _ iv _ => l.length - (intOf iv).toNat)
  case atStart => exact ⟨0, fun _ => false, 0, Nat.zero_le _, rfl, rfl, row2, rfl, k2⟩
  case round =>
    obtain ⟨i, d, to, hi, rfl, rfl, row, hgo, hbw⟩ := hrel
    have Row := Lib.hid row
    have zw := hbw.size
    have kw := kf'.trans (hbw.mono zf)
    have sr : wf.heap.size < wr.heap.size := own_lt row _ rfl
    clear row row2
    by_cases hlt : i < l.length
    · obtain ⟨q, o, rfl, hq, d0, d1, d2⟩ := RdS.get (h'.below (kw.mono hB)) hlt
      rw [List.drop_eq_getElem_cons hlt, auGo] at hgo
      have htx := ht _ (List.getElem_mem hlt)
      obtain ⟨x, hx⟩ : ∃ x : Sn, x = l[i] := ⟨_, rfl⟩
      rw [← hx] at d0 d1 d2 hgo htx
      have Hgo := Lib.hid hgo
      have q1 : (0 : Int) ≤ (i : Int) := by omega
      have q2 : (i : Int) < (l.length : Int) := by omega
      have hsent := sent_any wf.heap.size wf.heap.size A c p per to d x wr B (h.below (kw.mono hB)) Row.out hl h0 h1 hpk htx.1 htx.2
      unfold auVal at hsent
      have Hsent := Lib.hid hsent
      obtain ⟨en, hen⟩ : ∃ en, en = auErr p per d to x := ⟨_, rfl⟩
      have Hen := Lib.hid hen
      clear hgo hx hsent hen htx
      go_wp2_with fail
      refine Hsent.out.mono ?_
      rintro e w4 ⟨rfl, k4⟩
      have row4 : BRow w4 wf.heap.size 4 wf.heap.size p.length d := own_same Row.out fun y hy => k4.block y (own_lt Row.out y hy)
      have k4w := hbw.trans (k4.mono zw)
      have k4' := kf'.trans (k4w.mono zf)
      rw [← Hen.out]
      by_cases he : en = 0
      · subst he
        have hno : ¬ (x.p < 0 ∨ (p.length : Int) ≤ x.p ∨ d x.p.toNat = true) := fun h9 => by
          have := Hen.out
          rw [show auErr p per d to x = 4 from if_pos h9] at this
          omega
        obtain ⟨x1, x2, _⟩ := auErr_no (per := per) (to := to) hno
        obtain ⟨k, hk⟩ : ∃ k : Nat, x.p = k := ⟨x.p.toNat, by omega⟩
        have hkl : k < p.length := by omega
        have Hgo2 := Lib.hid (show auGo p per (fun _ => false) 0 l 0 = auGo p per (dSet d k) x.t (l.drop (i + 1)) (i + 1) by rw [Hgo.out, if_neg (by rw [← Hen.out]; omega), hk, Int.toNat_natCast])
        have e0 : w4.cell? ⟨q, o + i * 3, none⟩ = some (.int .i64 (k : Int)) := by rw [← hk]; exact (k4.cell (p := ⟨q, o + i * 3, none⟩) (World.block_lt_of_cell? _ _ d0)).trans d0
        have e2 : w4.cell? ⟨q, o + i * 3 + 2, none⟩ = some (.int .i64 x.t) := (k4.cell (p := ⟨q, o + i * 3 + 2, none⟩) (World.block_lt_of_cell? _ _ d2)).trans d2
        have hqs : q ≠ wf.heap.size := by omega
        have e2' : (w4.setCell ⟨wf.heap.size, k, none⟩ (.bool true)).cell? ⟨q, o + i * 3 + 2, none⟩ = some (.int .i64 x.t) := by
          rw [World.cell?_setCell_other _ _ _ _ (fun e => hqs (congrArg Addr.block e).symm)]
          exact e2
        have y1 : w4.cell? ⟨wf.heap.size, k, none⟩ = some (.bool (d k)) := BRow.cell row4 hkl
        have y2 := row4.frozenAt k
        have p1 : (0 : Int) ≤ (k : Int) := by omega
        have p2 : (k : Int) < (p.length : Int) := by omega
        have Row4 := Lib.hid row4
        clear hno x1 x2 hk row4
        go_wp2_with fail
        go_roundw
        case rel => exact ⟨i + 1, dSet d k, x.t, hlt, by go_num, rfl, Row4.out.set_ k, Hgo2.out, k4w.setCell (p := ⟨wf.heap.size, k, none⟩) (Nat.le_refl _) _⟩
        case measure => simp [intOf]; omega
      · have hep : (0 : Int) < (en : Int) := by omega
        have Hgo2 := Lib.hid (show auGo p per (fun _ => false) 0 l 0 = (en, (i : Int)) by rw [Hgo.out, if_pos (by rw [← Hen.out]; exact he), ← Hen.out])
        have b4 : Blk w4 w.heap.size 36 #[.int .i64 0, .int .i64 0] := b1f.below k4w sf
        have c0 := b4.cell 0
        have c1 := b4.cell 1
        have y0 := b4.frozen 0
        have y1 := b4.frozen 1
        simp only [List.getElem?_toArray, List.getElem?_cons_zero, List.getElem?_cons_succ] at c0 c1
        clear he row4
        go_wp2_with fail
        exact bodyPost_ret (v := fv en i) (results_cell_row (p := 6) rfl _ _ w.heap.size 36 #[.int .i64 en, .int .i64 i] (0, 0) _ rfl ((b4.set_ 0 (.int .i64 en)).set_ 1 (.int .i64 i)) Tryd.underlying36 rfl infoFv) rfl
          ⟨by rw [Hgo2.out] <;> rfl, (k4'.setCell (p := ⟨w.heap.size, 0, none⟩) (Nat.le_refl _) _).setCell (p := ⟨w.heap.size, 1, none⟩) (Nat.le_refl _) _⟩
    · rw [List.drop_eq_nil_of_le (by omega), auGo] at hgo
      have Hgo := Lib.hid hgo
      clear hgo
      go_wp2_with fail
      go_loopw [12] (fun iv wr2 => ∃ j : Nat, j ≤ p.length ∧ iv = .int .i64 j ∧ oth p.length d (fun _ => true) = othGo d (fun _ => true) (p.length - j) j ∧ wr2 = wr) (fun iv _ => p.length - (intOf iv).toNat)
      case atStart => exact ⟨0, Nat.zero_le _, rfl, rfl, rfl⟩
      case round =>
        obtain ⟨j, hj, rfl, ho, rfl⟩ := hrel
        by_cases hjl : j < p.length
        · rw [othGo_step hjl] at ho
          have q1 : (0 : Int) ≤ (j : Int) := by omega
          have q2 : (j : Int) < (p.length : Int) := by omega
          have y1 := BRow.cell Row.out hjl
          cases hd : d j
          · rw [hd] at ho y1
            have Hg := Lib.hid (show auGo p per (fun _ => false) 0 l 0 = (4, -1) by rw [Hgo.out, ho]; rfl)
            clear ho hd
            go_wp2_with fail
            refine (bare_any 4 _).mono ?_
            rintro e w5 ⟨rfl, k5⟩
            have k5w := hbw.trans (k5.mono zw)
            have k5' := kf'.trans (k5w.mono zf)
            have b5 : Blk w5 w.heap.size 36 #[.int .i64 0, .int .i64 0] := b1f.below k5w sf
            have c0 := b5.cell 0
            have c1 := b5.cell 1
            have y0 := b5.frozen 0
            have y2 := b5.frozen 1
            simp only [List.getElem?_toArray, List.getElem?_cons_zero, List.getElem?_cons_succ] at c0 c1
            unfold fv
            go_wp2_with fail
            exact bodyPost_ret (v := fv 4 (-1)) (results_cell_row (p := 6) rfl _ _ w.heap.size 36 #[.int .i64 4, .int .i64 (-1)] (0, 0) _ rfl ((b5.set_ 0 (.int .i64 4)).set_ 1 (.int .i64 (-1))) Tryd.underlying36 rfl infoFv) rfl
              ⟨by rw [Hg.out]; rfl, (k5'.setCell (p := ⟨w.heap.size, 0, none⟩) (Nat.le_refl _) _).setCell (p := ⟨w.heap.size, 1, none⟩) (Nat.le_refl _) _⟩
          · rw [hd] at ho y1
            have Ho := Lib.hid (show oth p.length d (fun _ => true) = othGo d (fun _ => true) (p.length - (j + 1)) (j + 1) by rw [ho]; simp)
            clear ho hd
            go_wp2_with fail
            go_roundw
            case rel => exact ⟨j + 1, hjl, by go_num, Ho.out, by trivial⟩
            case measure => simp [intOf]; omega
        · rw [othGo_end (by omega)] at ho
          have Hg := Lib.hid (show auGo p per (fun _ => false) 0 l 0 = (0, -1) by rw [Hgo.out, ho]; rfl)
          clear ho
          go_wp2_with fail
          refine (fine_any _).mono ?_
          rintro e w5 ⟨rfl, k5⟩
          have k5w := hbw.trans (k5.mono zw)
          have k5' := kf'.trans (k5w.mono zf)
          have b5 : Blk w5 w.heap.size 36 #[.int .i64 0, .int .i64 0] := b1f.below k5w sf
          have c0 := b5.cell 0
          have c1 := b5.cell 1
          have y0 := b5.frozen 0
          have y2 := b5.frozen 1
          simp only [List.getElem?_toArray, List.getElem?_cons_zero, List.getElem?_cons_succ] at c0 c1
          unfold fv
          go_wp2_with fail
          exact bodyPost_ret (v := fv 0 (-1)) (results_cell_row (p := 6) rfl _ _ w.heap.size 36 #[.int .i64 0, .int .i64 (-1)] (0, 0) _ rfl ((b5.set_ 0 (.int .i64 0)).set_ 1 (.int .i64 (-1))) Tryd.underlying36 rfl infoFv) rfl
            ⟨by rw [Hg.out]; rfl, (k5'.setCell (p := ⟨w.heap.size, 0, none⟩) (Nat.le_refl _) _).setCell (p := ⟨w.heap.size, 1, none⟩) (Nat.le_refl _) _⟩
theorem auditFault_any (A A' : Option Addr) (c c' : Nat) (p : List Pk) (per : Int) (l : List Sn) (w : World) (B : Nat) (hB : B ≤ w.heap.size) (h : RdP w B A p) (h' : RdS w B A' l) (hl : p.length ≤ 9223372036854775807) (hl' : l.length ≤ 1000) (ht : ∀ x ∈ l, tame50 x.f ∧ tame50 x.t) :
    Calls Tryd.prog 22 #[.slice A p.length c, .int .i64 per, .slice A' l.length c'] w fun e w' => e = .returned (fv (audErr p per l).1 (audErr p per l).2) ∧ Below w.heap.size w w' := by
  by_cases hlk : (lookErr p per).1 = 0
  · rw [show audErr p per l = auGo p per (fun _ => false) 0 l 0 from if_neg (by omega)]
    exact auditFault_ok A A' c c' p per l w B hB h h' hl' ht hlk
  · rw [show audErr p per l = lookErr p per from if_pos hlk]
    have hep := lookErr_bad hlk
    have ba : Below w.heap.size w (w.alloc (.cells #[.int .i64 0, .int .i64 0] 36)) := (Below.refl _ _).alloc (Nat.le_refl _) _
    clear hlk
    go_enter Tryd.func22, Tryd.ntmps22
    go_wp2_with fail
    refine (linkFault_any A c p per _ B (Nat.le_trans hB ba.size) (h.below (ba.mono hB)) hl).mono ?_
    rintro e w1 ⟨rfl, k1⟩
    have b1 : Blk w1 w.heap.size 36 #[.int .i64 0, .int .i64 0] := new_blk k1
    have k1' := ba.trans (k1.mono ba.size)
    have z1 := k1'.size
    obtain ⟨ec, hec⟩ : ∃ ec, ec = ((lookErr p per).1 : Int) := ⟨_, rfl⟩
    obtain ⟨ea, hea⟩ : ∃ ea, ea = (lookErr p per).2 := ⟨_, rfl⟩
    rw [← hec] at hep
    rw [← hec, ← hea]
    have Hec := Lib.hid hec
    have Hea := Lib.hid hea
    have b2 := b1.alloc (.cells #[.int .i64 ec, .int .i64 ea] 36)
    have c0 := b2.cell 0
    have c1 := b2.cell 1
    have y0 := b2.frozen 0
    have y1 := b2.frozen 1
    simp only [List.getElem?_toArray, List.getElem?_cons_zero, List.getElem?_cons_succ] at c0 c1
    unfold fv
    clear hec hea
    go_wp2_with fail
    exact bodyPost_ret (v := fv ec ea) (results_cell_row (p := 6) rfl _ _ w.heap.size 36 #[.int .i64 ec, .int .i64 ea] (0, 0) _ rfl ((b2.set_ 0 (.int .i64 ec)).set_ 1 (.int .i64 ea)) Tryd.underlying36 rfl infoFv) rfl
      ⟨by rw [Hec.out, Hea.out] <;> rfl, ((k1'.alloc z1 _).setCell (p := ⟨w.heap.size, 0, none⟩) (Nat.le_refl _) _).setCell (p := ⟨w.heap.size, 1, none⟩) (Nat.le_refl _) _⟩
end Go.Proofs.YthgpbdlmadjndaaDoor
