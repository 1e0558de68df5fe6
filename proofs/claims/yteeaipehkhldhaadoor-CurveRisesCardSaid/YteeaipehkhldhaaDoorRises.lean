/- The law CurveRises returns true, whatever its arguments, and changes nothing that was there. Condition: the two sentinels lie in their variables. -/
import Derived.Test.YteeaipehkhldhaaDoorProg
import Derived.Test.YteeaipehkhldhaaDoorOwnL
import Derived.Test.YteeaipehkhldhaaDoorDrawn
import Derived.Test.YteeaipehkhldhaaDoorCvP
import Derived.Test.YteeaipehkhldhaaDoorLineE
import Derived.Deep.RegionHeld3
namespace Go.Proofs.YteeaipehkhldhaaDoor
open Go.RowKit
set_option maxRecDepth 100000

theorem infoLn_parts : ∃ i, Tryd.prog.info? 24 = some i ∧ i.zero = some (.agg #[.int .i64 0, .int .i64 0]) ∧ i.size = 2 ∧ i.bytes = 16 := info_parts infoLn
theorem own_base {w w1 : World} {o : Obj} {e : TypeId} {size n : Nat} {v : Value} {xs : List Value} (h : w1.ownsRow (w.alloc o).drew.heap.size e size v n xs) : w1.ownsRow (w.heap.size + 1) e size v n xs := by
  have e1 : (w.alloc o).drew.heap.size = w.heap.size + 1 := by simp [World.drew]
  rw [e1] at h
  exact h
theorem below_size {w w1 : World} {o : Obj} (h : Below (w.alloc o).drew.heap.size (w.alloc o).drew w1) : Below (w.heap.size + 1) (w.alloc o) w1 := by
  have e1 : (w.alloc o).drew.heap.size = w.heap.size + 1 := by simp [World.drew]
  rw [e1] at h
  exact ((Below.refl _ _).drew).trans h
theorem size_size {w w1 : World} {o : Obj} (h : Below (w.alloc o).drew.heap.size (w.alloc o).drew w1) : w.heap.size + 1 ≤ w1.heap.size := by
  have e1 : (w.alloc o).drew.heap.size = w.heap.size + 1 := by simp [World.drew]
  have := h.size
  rw [e1] at this
  exact this
theorem size_eq' (w : World) (o : Obj) : w.heap.size + 1 ≤ (w.alloc o).drew.heap.size := by simp [World.drew]
theorem k10a {w w8 w9 w10 : World} {X : Obj} {e : TypeId} {size n : Nat} {v : Value} {xs : List Value} (k8 : Below w.heap.size w w8) (k9 : Below w8.drew.heap.size w8.drew w9) (o9 : w9.ownsRow w8.drew.heap.size e size v n xs) (g10 : (w9.alloc X).grownBy w10 v.ownBlock) : Below w.heap.size w w10 := by
  have z8 := k8.size
  have z9 : w8.heap.size ≤ w9.heap.size := k9.size
  have k9' : Below w.heap.size w w9 := (k8.drew).trans (k9.mono z8)
  exact below_app (k9'.alloc (by omega) X) (o9.alloc X) g10 z8 (le_alloc (by omega) X)
theorem k10b {w w8 w9 w10 : World} {X : Obj} {e : TypeId} {size n : Nat} {v : Value} {xs : List Value} (k8 : Below w.heap.size w w8) (k9 : Below (w8.alloc X).drew.heap.size (w8.alloc X).drew w9) (o9 : w9.ownsRow (w8.alloc X).drew.heap.size e size v n xs) (g10 : w9.grownBy w10 v.ownBlock) : Below w.heap.size w w10 := by
  have z8 := k8.size
  have z9 := size_size k9
  have k9' : Below w.heap.size w w9 := (k8.alloc z8 X).trans ((below_size k9).mono (by omega))
  exact below_app k9' (own_base o9) g10 (by omega) (by omega)
theorem Below.heap_alloc_cell {w : World} {b i : Nat} (hb : b + 1 ≤ w.heap.size) (o : Obj) : (w.alloc o).cell? ⟨b, i, none⟩ = w.cell? ⟨b, i, none⟩ := World.cell?_alloc_lt w o ⟨b, i, none⟩ hb
theorem k10a' {w8 w9 w10 : World} {X : Obj} {e : TypeId} {size n : Nat} {v : Value} {xs : List Value} (k9 : Below w8.drew.heap.size w8.drew w9) (o9 : w9.ownsRow w8.drew.heap.size e size v n xs) (g10 : (w9.alloc X).grownBy w10 v.ownBlock) : Below w8.heap.size w8 w10 :=
  k10a (Below.refl _ _) k9 o9 g10
theorem k10b' {w8 w9 w10 : World} {X : Obj} {e : TypeId} {size n : Nat} {v : Value} {xs : List Value} (k9 : Below (w8.alloc X).drew.heap.size (w8.alloc X).drew w9) (o9 : w9.ownsRow (w8.alloc X).drew.heap.size e size v n xs) (g10 : w9.grownBy w10 v.ownBlock) : Below w8.heap.size w8 w10 :=
  k10b (Below.refl _ _) k9 o9 g10
theorem rises_facts {l l' : List Ln} {x : Ln} {t : Int} (hl : l.length < 6) (ht0 : 0 ≤ t) (ht1 : t ≤ 1099511627774) (hx : okLn x) (hc : (crvErr l).1 = 0) (h : l' = l ++ [x]) :
    1 ≤ atVal l t ∧ atVal l t ≤ atVal l (t + 1) ∧ atVal l (t + 1) ≤ atVal l (t + 2) ∧ atVal l (t + 2) - atVal l (t + 1) ≤ atVal l (t + 1) - atVal l t + 1 ∧ atVal l' t ≤ atVal l t ∧ 1 ≤ atVal l' t ∧ atVal l (t + 2) ≤ 109951162797600 ∧ (atErr l' t).1 = 0 := by
  obtain ⟨q1, q2, q3, _⟩ := crvErr_ok hc
  have ok' : ∀ y ∈ l ++ [x], okLn y := fun y hy => by
    rcases List.mem_append.1 hy with h | h
    · exact q3 y h
    · rw [List.mem_singleton.1 h]; exact hx
  have hc' : (crvErr l').1 = 0 := by rw [h, crvErr_of (by simp) (by simp; omega) ok']
  rw [atVal_of hc (by omega) (by omega), atVal_of hc (by omega) (by omega), atVal_of hc (by omega) (by omega), atVal_of hc' (by omega) (by omega), atErr_of hc' (by omega) (by omega), h]
  exact ⟨valueL_pos q1 q3 ht0, valueL_mono q1 q3 (by omega), valueL_mono q1 q3 (by omega), valueL_concave q1 t, valueL_more q1 x t, valueL_pos (by simp) ok' ht0, valueL_top q1 q3 (by omega) (by omega), rfl⟩
set_option maxHeartbeats 1000000 in
theorem rises_main (A : Option Addr) (c : Nat) (l : List Ln) (x : Ln) (t : Int) (S : Nat → Addr) (w : World) (h : RdL w w.heap.size A l) (hS : Snt w w.heap.size S [2, 3])
    (hl : l.length < 6) (ht0 : 0 ≤ t) (ht1 : t ≤ 1099511627774) (hx : lineB x.b x.r = true) :
    Calls Tryd.prog 3 #[.slice A l.length c, .agg #[.int .i64 x.b, .int .i64 x.r], .int .i64 t] w fun e w' => e = .returned (.bool true) ∧ Below w.heap.size w w' := by
  have Hx := Lib.hid (show lineErr x = 0 from if_pos hx)
  have hx' : okLn x := by have h2 := of_decide_eq_true hx; exact h2
  clear hx
  go_enter Tryd.func3, Tryd.ntmps3
  go_wp2_with fail
  refine (drawn_any S _ _ (by simp) (hS.below ((Below.refl _ _).alloc (Nat.le_refl _) _))).mono ?_
  rintro e w1 ⟨rfl, hb1⟩
  have d0 := new_blk hb1
  have c0 : w1.cell? ⟨w.heap.size, 0, none⟩ = some (.int .i64 x.b) := cell_blk d0 0
  have c1 : w1.cell? ⟨w.heap.size, 1, none⟩ = some (.int .i64 x.r) := cell_blk d0 1
  have D0 := Lib.hid d0
  clear d0
  go_wp2_with fail
  refine (lineErr_any x _).mono ?_
  rintro e w2 ⟨rfl, hb2⟩
  rw [Hx.out]
  have k2 : Below w.heap.size w w2 := (((Below.refl _ _).alloc (Nat.le_refl _) _).trans (hb1.mono (by simp))).trans (hb2.mono (by have := hb1.size; simp at this; omega))
  have z1 : w.heap.size + 1 ≤ w1.heap.size := by have := hb1.size; simpa using this
  have D2 := Lib.hid ((hb2.block _ (by omega)).trans D0.out)
  have z2 : w.heap.size + 1 ≤ w2.heap.size := by have := hb2.size; omega
  clear hb1 hb2 D0 c0 c1 z1
  go_wp2_with fail
  refine (ownLines_any A c l w2 _ (h.below k2) (by omega)).mono ?_
  rintro e w3 ⟨A1, a1, rfl, o1, k3⟩
  have r1 := RdL.of_own o1
  have z3 : w.heap.size + 1 ≤ w3.heap.size := by have := k3.size; omega
  have D3 := Lib.hid ((k3.block _ (by omega)).trans D2.out)
  have k3' := k2.trans (k3.mono k2.size)
  clear o1 D2 k3 k2
  go_wp2_with fail
  refine (at_any A1 a1 l t S w3 _ (Nat.le_refl _) r1 ((hS.below k3').more k3'.size) (by omega)).mono ?_
  rintro e w4 ⟨v1, rfl, e1, k4⟩
  have z4 : w.heap.size + 1 ≤ w4.heap.size := by have := k4.size; omega
  have D4 := Lib.hid ((k4.block _ (by omega)).trans D3.out)
  have k4' := k3'.trans (k4.mono k3'.size)
  clear r1 D3 k4 k3'
  go_wp2_with fail
  refine (ownLines_any A c l w4 _ (h.below k4') (by omega)).mono ?_
  rintro e w5 ⟨A2, a2, rfl, o1, k5⟩
  have r1 := RdL.of_own o1
  have z5 : w.heap.size + 1 ≤ w5.heap.size := by have := k5.size; omega
  have D5 := Lib.hid ((k5.block _ (by omega)).trans D4.out)
  have k5' := k4'.trans (k5.mono k4'.size)
  clear o1 D4 k5 k4'
  go_wp2_with fail
  refine (at_any A2 a2 l (t + 1) S w5 _ (Nat.le_refl _) r1 ((hS.below k5').more k5'.size) (by omega)).mono ?_
  rintro e w6 ⟨v2, rfl, e2, k6⟩
  have z6 : w.heap.size + 1 ≤ w6.heap.size := by have := k6.size; omega
  have D6 := Lib.hid ((k6.block _ (by omega)).trans D5.out)
  have k6' := k5'.trans (k6.mono k5'.size)
  clear r1 D5 k6 k5'
  go_wp2_with fail
  refine (ownLines_any A c l w6 _ (h.below k6') (by omega)).mono ?_
  rintro e w7 ⟨A3, a3, rfl, o1, k7⟩
  have r1 := RdL.of_own o1
  have z7 : w.heap.size + 1 ≤ w7.heap.size := by have := k7.size; omega
  have D7 := Lib.hid ((k7.block _ (by omega)).trans D6.out)
  have k7' := k6'.trans (k7.mono k6'.size)
  clear o1 D6 k7 k6'
  go_wp2_with fail
  refine (at_any A3 a3 l (t + 2) S w7 _ (Nat.le_refl _) r1 ((hS.below k7').more k7'.size) (by omega)).mono ?_
  rintro e w8 ⟨v3, rfl, e3, k8⟩
  have z8 : w.heap.size + 1 ≤ w8.heap.size := by have := k8.size; omega
  have D8 := Lib.hid ((k8.block _ (by omega)).trans D7.out)
  have k8' := k7'.trans (k8.mono k7'.size)
  clear r1 D7 k8 k7' z2 z3 z4 z5 z6 z7
  have c0 : w8.cell? ⟨w.heap.size, 0, none⟩ = some (.int .i64 x.b) := cell_blk D8.out 0
  have c1 : w8.cell? ⟨w.heap.size, 1, none⟩ = some (.int .i64 x.r) := cell_blk D8.out 1
  go_wp2_with fail
  obtain ⟨i0, hi0, hz0, hz1, hz2⟩ := infoLn_parts
  have q1 : l.length + 1 ≤ maxLen := by simp only [maxLen]; omega
  have q2 : (l.length + 1) * 16 ≤ 140737488355328 := by omega
  have q4 : l.length ≤ 4294967296 := by omega
  obtain ⟨l', hl'⟩ : ∃ l', l' = l ++ [x] := ⟨_, rfl⟩
  have q3 : l'.length ≤ 9223372036854775807 := by rw [hl']; simp; omega
  have Hl := Lib.hid hl'
  clear hl'
  go_region_held3 (fun w' => w'.cell? ⟨w.heap.size, 0, none⟩ = some (.int .i64 x.b) ∧ w'.cell? ⟨w.heap.size, 1, none⟩ = some (.int .i64 x.r))
    (first
      | go_keep
      | exact ⟨(k9.cell (p := ⟨w.heap.size, 0, none⟩) z8).trans c0, (k9.cell (p := ⟨w.heap.size, 1, none⟩) z8).trans c1⟩
      | exact ⟨((below_size k9).cell (p := ⟨w.heap.size, 0, none⟩) (Nat.lt_succ_of_lt z8)).trans ((Below.heap_alloc_cell z8 _).trans c0), ((below_size k9).cell (p := ⟨w.heap.size, 1, none⟩) (Nat.lt_succ_of_lt z8)).trans ((Below.heap_alloc_cell z8 _).trans c1)⟩
      | exact ⟨((k10a' k9 o9 g10).cell (p := ⟨w.heap.size, 0, none⟩) z8).trans c0, ((k10a' k9 o9 g10).cell (p := ⟨w.heap.size, 1, none⟩) z8).trans c1⟩
      | exact ⟨((k10b' k9 p9 g10).cell (p := ⟨w.heap.size, 0, none⟩) z8).trans c0, ((k10b' k9 p9 g10).cell (p := ⟨w.heap.size, 1, none⟩) z8).trans c1⟩
      | exact ⟨((k10a' k9 o9 g10).trans (k11.mono (k10a' k9 o9 g10).size) |>.cell (p := ⟨w.heap.size, 0, none⟩) z8).trans c0, ((k10a' k9 o9 g10).trans (k11.mono (k10a' k9 o9 g10).size) |>.cell (p := ⟨w.heap.size, 1, none⟩) z8).trans c1⟩
      | exact ⟨((k10b' k9 p9 g10).trans (k11.mono (k10b' k9 p9 g10).size) |>.cell (p := ⟨w.heap.size, 0, none⟩) z8).trans c0, ((k10b' k9 p9 g10).trans (k11.mono (k10b' k9 p9 g10).size) |>.cell (p := ⟨w.heap.size, 1, none⟩) z8).trans c1⟩)
    (first
     | (go_at_call 18; refine (ownLines_any A c l w8.drew w.heap.size (h.below k8'.drew) q4).mono ?_; rintro e w9 ⟨A4, a4, rfl, o9, k9⟩)
     | (go_at_call 18; refine (ownLines_any A c l _ w.heap.size (h.below (k8'.alloc k8'.size (.cells #[.int .i64 x.b, .int .i64 x.r] 24)).drew) q4).mono ?_; rintro e v9 ⟨A4, a4, rfl, p9, k9⟩)
     | (have o9q := o9; refine step_append_rd (w9.alloc (.cells #[.int .i64 x.b, .int .i64 x.r] 24)) Ln.cs (by rfl) (.tmp 63) (.tmp 65) 22 (by rfl) w8.heap.size 24 i0 (.agg #[.int .i64 0, .int .i64 0]) 2 16 Tryd.underlying22 hi0 hz0 hz1 hz2 (by rfl) Nat.two_pos Ln.cs_len Ln.cs_one (.slice A4 l.length a4) l.length (l.flatMap Ln.cs) (by rfl) (o9.alloc _) (w9.heap.size + 1) (some ⟨w9.heap.size, 0, none⟩) 1 [x] (by rfl) (RdL.new_ x) q1 q2 (le_alloc k9.size _) ?_; intro v10 w10 o10 g10 h10; obtain ⟨A5, a5, hv5, o10⟩ := own_app o10 Nat.two_pos; rw [← Hl.out] at hv5 o10; rw [hv5]; clear hv5)
     | (have o9q := p9; refine step_append_rd v9 Ln.cs (by rfl) (.tmp 63) (.tmp 65) 22 (by rfl) (w8.heap.size + 1) 24 i0 (.agg #[.int .i64 0, .int .i64 0]) 2 16 Tryd.underlying22 hi0 hz0 hz1 hz2 (by rfl) Nat.two_pos Ln.cs_len Ln.cs_one (.slice A4 l.length a4) l.length (l.flatMap Ln.cs) (by rfl) (own_base p9) (w8.heap.size + 1) (some ⟨w8.heap.size, 0, none⟩) 1 [x] (by rfl) ((RdL.new_ x).below (below_size k9)) q1 q2 (size_size k9) ?_; intro v10 w10 p10 g10 h10; obtain ⟨A5, a5, hv5, p10⟩ := own_app p10 Nat.two_pos; rw [← Hl.out] at hv5 p10; rw [hv5]; clear hv5)
     | (have o10q := o10; have k10 := k10a k8' k9 o9 g10; go_at_call 17; refine (at_any A5 a5 l' t S w10 w10.heap.size (Nat.le_refl _) (RdL.of_own o10) ((hS.below k10).more k10.size) q3).mono ?_; rintro e w11 ⟨v4, rfl, e4, k11⟩)
     | (have o10q := p10; have k10 := k10b k8' k9 p9 g10; go_at_call 17; refine (at_any A5 a5 l' t S w10 w10.heap.size (Nat.le_refl _) (RdL.of_own p10) ((hS.below k10).more k10.size) q3).mono ?_; rintro e w11 ⟨v4, rfl, e4, k11⟩))
  all_goals
    have kk : Below w.heap.size w w11 := k10.trans (k11.mono k10.size)
    by_cases hc : (crvErr l).1 = 0
    · obtain ⟨g1, g2, g3, g4, g5, g6, g7, g8⟩ := rises_facts hl ht0 ht1 hx' hc Hl.out
      obtain rfl := e1.nil_of (by rw [atErr_of hc (by omega) (by omega)])
      obtain rfl := e2.nil_of (by rw [atErr_of hc (by omega) (by omega)])
      obtain rfl := e3.nil_of (by rw [atErr_of hc (by omega) (by omega)])
      obtain rfl := e4.nil_of g8
      clear g8 hc e1 e2 e3 e4
      go_wp2
      go_ret
      exact ⟨by first | rfl | (simp; omega), kk⟩
    · obtain ⟨T1, p1, rfl⟩ := e1.some_of (atErr_bad hc)
      obtain ⟨T2, p2, rfl⟩ := e2.some_of (atErr_bad hc)
      obtain ⟨T3, p3, rfl⟩ := e3.some_of (atErr_bad hc)
      have g1 := atVal_bad (t := t) hc
      clear e1 e2 e3 e4 hc
      go_wp2
      go_ret
      exact ⟨by first | rfl | simp, kk⟩

set_option maxHeartbeats 400000 in
theorem rises_early (A : Option Addr) (c : Nat) (l : List Ln) (x : Ln) (t : Int) (S : Nat → Addr) (w : World) (hS : Snt w w.heap.size S [2, 3]) (hl : l.length ≤ 9223372036854775807)
    (h1 : 6 ≤ l.length ∨ t < 0 ∨ 1099511627774 < t) :
    Calls Tryd.prog 3 #[.slice A l.length c, .agg #[.int .i64 x.b, .int .i64 x.r], .int .i64 t] w fun e w' => e = .returned (.bool true) ∧ Below w.heap.size w w' := by
  have h2 : 6 ≤ l.length ∨ (l.length < 6 ∧ t < 0) ∨ (l.length < 6 ∧ 0 ≤ t ∧ 1099511627774 < t) := by omega
  clear h1
  rcases h2 with h2 | ⟨h2, h3⟩ | ⟨h2, h3, h4⟩
  all_goals
    go_enter Tryd.func3, Tryd.ntmps3
    go_wp2_with fail
    refine (drawn_any S _ _ (by simp) (hS.below ((Below.refl _ _).alloc (Nat.le_refl _) _))).mono ?_
    rintro e w1 ⟨rfl, hb1⟩
    go_wp2_with fail
    go_ret
    exact ⟨rfl, ((Below.refl _ _).alloc (Nat.le_refl _) _).trans (hb1.mono (by simp))⟩

set_option maxHeartbeats 400000 in
theorem rises_line (A : Option Addr) (c : Nat) (l : List Ln) (x : Ln) (t : Int) (S : Nat → Addr) (w : World) (hS : Snt w w.heap.size S [2, 3])
    (hl : l.length < 6) (ht0 : 0 ≤ t) (ht1 : t ≤ 1099511627774) (hx : lineB x.b x.r = false) :
    Calls Tryd.prog 3 #[.slice A l.length c, .agg #[.int .i64 x.b, .int .i64 x.r], .int .i64 t] w fun e w' => e = .returned (.bool true) ∧ Below w.heap.size w w' := by
  have Hx := Lib.hid (show lineErr x = 2 from if_neg (by rw [hx]; decide))
  clear hx
  go_enter Tryd.func3, Tryd.ntmps3
  go_wp2_with fail
  refine (drawn_any S _ _ (by simp) (hS.below ((Below.refl _ _).alloc (Nat.le_refl _) _))).mono ?_
  rintro e w1 ⟨rfl, hb1⟩
  have d0 := new_blk hb1
  have c0 : w1.cell? ⟨w.heap.size, 0, none⟩ = some (.int .i64 x.b) := cell_blk d0 0
  have c1 : w1.cell? ⟨w.heap.size, 1, none⟩ = some (.int .i64 x.r) := cell_blk d0 1
  clear d0
  go_wp2_with fail
  refine (lineErr_any x _).mono ?_
  rintro e w2 ⟨rfl, hb2⟩
  rw [Hx.out]
  go_wp2_with fail
  go_ret
  exact ⟨rfl, (((Below.refl _ _).alloc (Nat.le_refl _) _).trans (hb1.mono (by simp))).trans (hb2.mono (by have := hb1.size; simp at this; omega))⟩

theorem rises_any (A : Option Addr) (c : Nat) (l : List Ln) (x : Ln) (t : Int) (S : Nat → Addr) (w : World) (h : RdL w w.heap.size A l) (hS : Snt w w.heap.size S [2, 3]) (hl : l.length ≤ 9223372036854775807) :
    Calls Tryd.prog 3 #[.slice A l.length c, .agg #[.int .i64 x.b, .int .i64 x.r], .int .i64 t] w fun e w' => e = .returned (.bool true) ∧ Below w.heap.size w w' := by
  by_cases h1 : 6 ≤ l.length ∨ t < 0 ∨ 1099511627774 < t
  · exact rises_early A c l x t S w hS hl h1
  · cases hx : lineB x.b x.r
    · exact rises_line A c l x t S w hS (by omega) (by omega) (by omega) hx
    · exact rises_main A c l x t S w h hS (by omega) (by omega) (by omega) hx
end Go.Proofs.YteeaipehkhldhaaDoor
