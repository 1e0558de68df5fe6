/- Package bucket: Take, When, Has, New compute what a plain function says. Conditions: the bucket is right; the sentinels that are named lie in their variables. -/
import Derived.Test.YteeaipehkhldhaaDoorBk
import Derived.Test.YteeaipehkhldhaaDoorCvP
namespace Go.Proofs.YteeaipehkhldhaaDoor
open Go.RowKit
set_option maxRecDepth 100000
/-- From w to w' block g alone has changed. -/
structure OnlyG (g : Nat) (w w' : World) : Prop where
  bel : Below g w w'
  blk : ∀ b, b ≠ g → w'.heap[b]? = w.heap[b]?
theorem OnlyG.refl (g : Nat) (w : World) : OnlyG g w w := ⟨Below.refl _ _, fun _ _ => rfl⟩
theorem OnlyG.drewN {g : Nat} {w w' : World} (h : OnlyG g w w') (m : Nat) : OnlyG g w (w'.drewN m) := ⟨below_drewN h.bel m, h.blk⟩
theorem OnlyG.set_ {g : Nat} {w w' : World} (h : OnlyG g w w') (i : Nat) (u : Value) : OnlyG g w (w'.setCell ⟨g, i, none⟩ u) :=
  ⟨h.bel.setCell (p := ⟨g, i, none⟩) (Nat.le_refl _) u, fun b hb => (Below.heap_setCell w' ⟨g, i, none⟩ u b (fun e => hb e)).trans (h.blk b hb)⟩
theorem OnlyG.trans {g : Nat} {w w1 w2 : World} (h : OnlyG g w w1) (k : OnlyG g w1 w2) : OnlyG g w w2 := ⟨h.bel.trans k.bel, fun b hb => (k.blk b hb).trans (h.blk b hb)⟩
def takeB (s : Bu) (t n : Int) : Bool := decide (lookB s t n = 0 ∧ 1000 * n ≤ holdsB s t)
def tookB (s : Bu) (t n : Int) : Bu := if lookB s t n ≠ 0 then s else if holdsB s t < 1000 * n then { s with last := t } else ⟨s.b, s.r, t, holdsB s t - 1000 * n, t⟩
theorem tookB_ok {s : Bu} (h : BuOk s) (t n : Int) : BuOk (tookB s t n) := by
  unfold tookB
  by_cases h1 : lookB s t n ≠ 0
  · rw [if_pos h1]; exact h
  · rw [if_neg h1]
    obtain ⟨q1, q2, q3, q4, q5⟩ := lookB_ok (by omega : lookB s t n = 0)
    have q6 := h.a2
    by_cases h2 : holdsB s t < 1000 * n
    · rw [if_pos h2]; exact ⟨h.b1, h.b2, h.r1, h.r2, h.h1, h.h2, h.a1, by simp only; omega, q2⟩
    · rw [if_neg h2]
      have := holds_range h (show s.at_ ≤ t by omega)
      exact ⟨h.b1, h.b2, h.r1, h.r2, by simp only; omega, by simp only; omega, q1, Int.le_refl _, q2⟩
theorem took_line (s : Bu) (t n : Int) : (tookB s t n).b = s.b ∧ (tookB s t n).r = s.r := by
  unfold tookB
  split
  · exact ⟨rfl, rfl⟩
  · split
    · exact ⟨rfl, rfl⟩
    · exact ⟨rfl, rfl⟩
set_option maxHeartbeats 400000 in
theorem take_any (g : Nat) (s : Bu) (t n : Int) (S : Nat → Addr) (w : World) (B : Nat) (hB : B ≤ g) (hS : Snt w B S [2, 5]) (h : Blk w g 106 s.cells) (hs : BuOk s) :
    Calls Tryd.prog 31 #[.pointer (some ⟨g, 0, none⟩), .int .i64 t, .int .i64 n] w fun e w' => ∃ v, e = .returned (.tuple #[.bool (takeB s t n), v]) ∧ Er w' w'.heap.size S v (lookB s t n) (-1) ∧ Blk w' g 106 (tookB s t n).cells ∧ OnlyG g w w' := by
  by_cases hk : lookB s t n = 0
  · obtain ⟨q1, q2, q3, q4, q5⟩ := lookB_ok hk
    have q6 := hs.a2
    have q7 := hs.b2
    obtain ⟨q8, q9⟩ := holds_range hs (show s.at_ ≤ t by omega)
    have q10 := hs.h1
    obtain ⟨hv, hhv⟩ : ∃ hv, hv = holdsB s t := ⟨_, rfl⟩
    have Hk := Lib.hid hk
    have Hhv := Lib.hid hhv
    rw [← hhv] at q8 q9
    have c4 : w.cell? ⟨g, 4, none⟩ = some (.int .i64 s.last) := h.cell 4
    have f4 := h.frozen 4
    have H := Lib.hid h
    have b1 : Blk (w.setCell ⟨g, 4, none⟩ (.int .i64 t)) g 106 (Bu.cells ⟨s.b, s.r, s.at_, s.has, t⟩) := h.set_ 4 _
    have B1 := Lib.hid b1
    have hs1 : BuOk ⟨s.b, s.r, s.at_, s.has, t⟩ := ⟨hs.b1, hs.b2, hs.r1, hs.r2, hs.h1, hs.h2, hs.a1, by simp only; omega, q2⟩
    have Hh1 := Lib.hid (show holdsB ⟨s.b, s.r, s.at_, s.has, t⟩ t = hv by rw [hhv]; rfl)
    have on1 := (OnlyG.refl g w).set_ 4 (.int .i64 t)
    clear hk hhv h b1
    by_cases hc : hv < 1000 * n
    · have Ht := Lib.hid (show takeB s t n = false from decide_eq_false (fun h9 => by rw [← Hhv.out] at h9; omega))
      have Hs := Lib.hid (show tookB s t n = ⟨s.b, s.r, s.at_, s.has, t⟩ by unfold tookB; rw [if_neg (by rw [Hk.out]; simp), if_pos (by rw [← Hhv.out]; exact hc)])
      go_enter Tryd.func31, Tryd.ntmps31
      go_wp2_with fail
      refine (blook_any g s t n S w B hS H.out).mono ?_
      rintro e w1 ⟨v, rfl, hv1, rfl⟩
      obtain rfl := hv1.nil_of Hk.out
      go_wp2_with fail
      refine (holds_any g ⟨s.b, s.r, s.at_, s.has, t⟩ t _ B1.out hs1 (by simp only; omega) q2).mono ?_
      rintro e w2 ⟨rfl, m, rfl⟩
      rw [Hh1.out]
      go_wp2_with fail
      go_ret2
      rw [Ht.out, Hk.out, Hs.out]
      exact ⟨_, rfl, .nil, B1.out, on1.drewN m⟩
    · have hc2 : 1000 * n ≤ hv := by omega
      have Ht := Lib.hid (show takeB s t n = true from decide_eq_true ⟨Hk.out, by rw [← Hhv.out]; exact hc2⟩)
      have Hs := Lib.hid (show tookB s t n = ⟨s.b, s.r, t, hv - 1000 * n, t⟩ by unfold tookB; rw [if_neg (by rw [Hk.out]; simp), if_neg (by rw [← Hhv.out]; exact hc), ← Hhv.out])
      clear hc
      have x2 : (w.setCell ⟨g, 4, none⟩ (.int .i64 t)).cell? ⟨g, 2, none⟩ = some (.int .i64 s.at_) := B1.out.cell 2
      have x3 : (w.setCell ⟨g, 4, none⟩ (.int .i64 t)).cell? ⟨g, 3, none⟩ = some (.int .i64 s.has) := B1.out.cell 3
      have y2 := B1.out.frozen 2
      have y3 := B1.out.frozen 3
      go_enter Tryd.func31, Tryd.ntmps31
      go_wp2_with fail
      refine (blook_any g s t n S w B hS H.out).mono ?_
      rintro e w1 ⟨v, rfl, hv1, rfl⟩
      obtain rfl := hv1.nil_of Hk.out
      go_wp2_with fail
      refine (holds_any g ⟨s.b, s.r, s.at_, s.has, t⟩ t _ B1.out hs1 (by simp only; omega) q2).mono ?_
      rintro e w2 ⟨rfl, m, rfl⟩
      rw [Hh1.out]
      go_wp2_with fail
      go_ret2
      rw [Ht.out, Hk.out, Hs.out]
      exact ⟨_, rfl, .nil, ((B1.out.drewN m).set_ 2 (.int .i64 t)).set_ 3 (.int .i64 (hv - 1000 * n)), ((on1.drewN m).set_ 2 (.int .i64 t)).set_ 3 (.int .i64 (hv - 1000 * n))⟩
  · have Hk := Lib.hid hk
    have Ht := Lib.hid (show takeB s t n = false from decide_eq_false (fun h9 => hk h9.1))
    have Hs := Lib.hid (show tookB s t n = s from if_pos hk)
    clear hk
    go_enter Tryd.func31, Tryd.ntmps31
    go_wp2_with fail
    refine (blook_any g s t n S w B hS h).mono ?_
    rintro e w1 ⟨v, rfl, hv1, rfl⟩
    obtain ⟨T, a, rfl⟩ := hv1.some_of Hk.out
    go_wp2_with fail
    go_ret2
    rw [Ht.out, Hs.out]
    exact ⟨_, rfl, hv1, h, OnlyG.refl _ _⟩
/-- What Has tells: an error, a number. -/
def hasV (s : Bu) (t : Int) : Int := if lookB s t 1 = 0 then holdsB s t else 0
theorem has_any (g : Nat) (s : Bu) (t : Int) (S : Nat → Addr) (w : World) (B : Nat) (hB : B ≤ g) (hS : Snt w B S [2, 5]) (h : Blk w g 106 s.cells) (hs : BuOk s) :
    Calls Tryd.prog 33 #[.pointer (some ⟨g, 0, none⟩), .int .i64 t] w fun e w' => ∃ v, e = .returned (.tuple #[.int .i64 (hasV s t), v]) ∧ Er w' w'.heap.size S v (lookB s t 1) (-1) ∧ ∃ m, w' = w.drewN m := by
  by_cases hk : lookB s t 1 = 0
  · obtain ⟨q1, q2, q3, q4, q5⟩ := lookB_ok hk
    have q6 := hs.a2
    have Hk := Lib.hid hk
    have Hv := Lib.hid (show hasV s t = holdsB s t from if_pos hk)
    clear hk
    go_enter Tryd.func33, Tryd.ntmps33
    go_wp2_with fail
    refine (blook_any g s t 1 S w B hS h).mono ?_
    rintro e w1 ⟨v, rfl, hv1, rfl⟩
    obtain rfl := hv1.nil_of Hk.out
    go_wp2_with fail
    refine (holds_any g s t _ h hs (by omega) q2).mono ?_
    rintro e w2 ⟨rfl, m, rfl⟩
    go_wp2_with fail
    go_ret2
    rw [Hv.out, Hk.out]
    exact ⟨_, rfl, .nil, m, rfl⟩
  · have Hk := Lib.hid hk
    have Hv := Lib.hid (show hasV s t = 0 from if_neg hk)
    clear hk
    go_enter Tryd.func33, Tryd.ntmps33
    go_wp2_with fail
    refine (blook_any g s t 1 S w B hS h).mono ?_
    rintro e w1 ⟨v, rfl, hv1, rfl⟩
    obtain ⟨T, a, rfl⟩ := hv1.some_of Hk.out
    go_wp2_with fail
    go_ret2
    rw [Hv.out]
    exact ⟨_, rfl, hv1, 0, rfl⟩
/-- What When tells: an error's number, a tick. -/
def whenB (s : Bu) (t n : Int) : Nat × Int := if lookB s t n ≠ 0 then (lookB s t n, 0) else if s.b < n then (4, 0) else if 1000 * n - holdsB s t ≤ 0 then (0, t) else if s.r = 0 then (4, 0) else
  if 1099511627776 < t + (1000 * n - holdsB s t + s.r - 1) / s.r then (4, 0) else (0, t + (1000 * n - holdsB s t + s.r - 1) / s.r)
set_option maxHeartbeats 1000000 in
theorem when_any (g : Nat) (s : Bu) (t n : Int) (S : Nat → Addr) (w : World) (B : Nat) (hB : B ≤ g) (hS : Snt w B S [2, 4, 5]) (h : Blk w g 106 s.cells) (hs : BuOk s) :
    Calls Tryd.prog 32 #[.pointer (some ⟨g, 0, none⟩), .int .i64 t, .int .i64 n] w fun e w' => ∃ v, e = .returned (.tuple #[.int .i64 (whenB s t n).2, v]) ∧ Er w' w'.heap.size S v (whenB s t n).1 (-1) ∧ ∃ m, w' = w.drewN m := by
  have g4 : w.cell? ⟨G 4, 0, none⟩ = some (sv S 4) := (hS 4 (by simp)).2.2
  simp only [G, sv] at g4
  have hS2 : Snt w B S [2, 5] := hS.sub (by simp)
  by_cases hk : lookB s t n = 0
  · obtain ⟨q1, q2, q3, q4, q5⟩ := lookB_ok hk
    have q6 := hs.a2
    have q7 := hs.b2
    have q71 := hs.b1
    obtain ⟨q8, q9⟩ := holds_range hs (show s.at_ ≤ t by omega)
    have q10 := hs.h1
    have r1 := hs.r1
    have r2 := hs.r2
    obtain ⟨hv, hhv⟩ : ∃ hv, hv = holdsB s t := ⟨_, rfl⟩
    have Hk := Lib.hid hk
    have Hhv := Lib.hid hhv
    rw [← hhv] at q8 q9
    have c0 : w.cell? ⟨g, 0, none⟩ = some (.int .i64 s.b) := h.cell 0
    have c1 : w.cell? ⟨g, 1, none⟩ = some (.int .i64 s.r) := h.cell 1
    have H := Lib.hid h
    clear hk hhv h
    by_cases hb : s.b < n
    · have Hw := Lib.hid (show whenB s t n = (4, 0) by unfold whenB; rw [if_neg (by rw [Hk.out]; simp), if_pos hb])
      go_enter Tryd.func32, Tryd.ntmps32
      go_wp2_with fail
      refine (blook_any g s t n S w B hS2 H.out).mono ?_
      rintro e w1 ⟨v, rfl, hv1, rfl⟩
      obtain rfl := hv1.nil_of Hk.out
      go_wp2_with fail
      refine (holds_any g s t _ H.out hs (by omega) q2).mono ?_
      rintro e w2 ⟨rfl, m, rfl⟩
      rw [← Hhv.out]
      go_wp2_with fail
      go_quiet (fail)
      go_wp2_with fail
      go_ret2
      rw [Hw.out]
      exact ⟨_, rfl, .bare 4 (by omega) (by omega), _, by first | rfl | exact World.drewN_drewN _ _ _⟩
    · have hb2 : n ≤ s.b := by omega
      by_cases hl : 1000 * n - hv ≤ 0
      · have Hw := Lib.hid (show whenB s t n = (0, t) by unfold whenB; rw [if_neg (by rw [Hk.out]; simp), if_neg hb, if_pos (by rw [← Hhv.out]; exact hl)])
        clear hb
        go_enter Tryd.func32, Tryd.ntmps32
        go_wp2_with fail
        refine (blook_any g s t n S w B hS2 H.out).mono ?_
        rintro e w1 ⟨v, rfl, hv1, rfl⟩
        obtain rfl := hv1.nil_of Hk.out
        go_wp2_with fail
        refine (holds_any g s t _ H.out hs (by omega) q2).mono ?_
        rintro e w2 ⟨rfl, m, rfl⟩
        rw [← Hhv.out]
        go_wp2_with fail
        go_ret2
        rw [Hw.out]
        exact ⟨_, rfl, .nil, _, rfl⟩
      · have hl2 : 0 < 1000 * n - hv := by omega
        by_cases hr : s.r = 0
        · have Hw := Lib.hid (show whenB s t n = (4, 0) by unfold whenB; rw [if_neg (by rw [Hk.out]; simp), if_neg hb, if_neg (by rw [← Hhv.out]; exact hl), if_pos hr])
          rw [hr] at c1
          clear hb hl hr
          go_enter Tryd.func32, Tryd.ntmps32
          go_wp2_with fail
          refine (blook_any g s t n S w B hS2 H.out).mono ?_
          rintro e w1 ⟨v, rfl, hv1, rfl⟩
          obtain rfl := hv1.nil_of Hk.out
          go_wp2_with fail
          refine (holds_any g s t _ H.out hs (by omega) q2).mono ?_
          rintro e w2 ⟨rfl, m, rfl⟩
          rw [← Hhv.out]
          go_wp2_with fail
          go_quiet (fail)
          go_wp2_with fail
          go_ret2
          rw [Hw.out]
          exact ⟨_, rfl, .bare 4 (by omega) (by omega), _, by first | rfl | exact World.drewN_drewN _ _ _⟩
        · have hr2 : 0 < s.r := by omega
          have hr3 : (s.r == 0) = false := beq_eq_false_iff_ne.2 hr
          have d0 : 0 ≤ (1000 * n - hv + s.r - 1) / s.r := Int.ediv_nonneg (by omega) (by omega)
          have d1 : (1000 * n - hv + s.r - 1) / s.r ≤ 1000 * n - hv + s.r - 1 := Int.ediv_le_self _ (by omega)
          by_cases ht : 1099511627776 < t + (1000 * n - hv + s.r - 1) / s.r
          · have Hw := Lib.hid (show whenB s t n = (4, 0) by unfold whenB; rw [if_neg (by rw [Hk.out]; simp), if_neg hb, if_neg (by rw [← Hhv.out]; exact hl), if_neg hr, if_pos (by rw [← Hhv.out]; exact ht)])
            clear hb hl hr
            go_enter Tryd.func32, Tryd.ntmps32
            go_wp2_with fail
            refine (blook_any g s t n S w B hS2 H.out).mono ?_
            rintro e w1 ⟨v, rfl, hv1, rfl⟩
            obtain rfl := hv1.nil_of Hk.out
            go_wp2_with fail
            refine (holds_any g s t _ H.out hs (by omega) q2).mono ?_
            rintro e w2 ⟨rfl, m, rfl⟩
            rw [← Hhv.out]
            go_wp2_with fail
            go_quiet (fail)
            go_wp2_with fail
            go_quiet (fail)
            go_wp2_with fail
            go_ret2
            rw [Hw.out]
            exact ⟨_, rfl, .bare 4 (by omega) (by omega), _, by first | rfl | exact World.drewN_drewN _ _ _⟩
          · have ht2 : t + (1000 * n - hv + s.r - 1) / s.r ≤ 1099511627776 := by omega
            have Hw := Lib.hid (show whenB s t n = (0, t + (1000 * n - hv + s.r - 1) / s.r) by unfold whenB; rw [if_neg (by rw [Hk.out]; simp), if_neg hb, if_neg (by rw [← Hhv.out]; exact hl), if_neg hr, if_neg (by rw [← Hhv.out]; exact ht), ← Hhv.out])
            clear hb hl hr ht
            go_enter Tryd.func32, Tryd.ntmps32
            go_wp2_with fail
            refine (blook_any g s t n S w B hS2 H.out).mono ?_
            rintro e w1 ⟨v, rfl, hv1, rfl⟩
            obtain rfl := hv1.nil_of Hk.out
            go_wp2_with fail
            refine (holds_any g s t _ H.out hs (by omega) q2).mono ?_
            rintro e w2 ⟨rfl, m, rfl⟩
            rw [← Hhv.out]
            go_wp2_with fail
            go_quiet (fail)
            go_wp2_with fail
            go_ret2
            rw [Hw.out]
            exact ⟨_, rfl, .nil, _, by first | rfl | exact World.drewN_drewN _ _ _⟩
  · have Hk := Lib.hid hk
    have Hw := Lib.hid (show whenB s t n = (lookB s t n, 0) from if_pos hk)
    clear hk
    go_enter Tryd.func32, Tryd.ntmps32
    go_wp2_with fail
    refine (blook_any g s t n S w B hS2 h).mono ?_
    rintro e w1 ⟨v, rfl, hv1, rfl⟩
    obtain ⟨T, a, rfl⟩ := hv1.some_of Hk.out
    go_wp2_with fail
    go_ret2
    rw [Hw.out]
    exact ⟨_, rfl, hv1, 0, rfl⟩
def newB (x : Ln) : Bu := ⟨x.b, x.r, 0, 1000 * x.b, 0⟩
theorem newB_ok {x : Ln} (h : okLn x) : BuOk (newB x) := by
  obtain ⟨h1, h2, h3, h4⟩ := h
  exact ⟨h1, h2, h3, h4, by simp only [newB]; omega, Int.le_refl _, Int.le_refl _, Int.le_refl _, by simp only [newB]; omega⟩
theorem new_ok (x : Ln) (S : Nat → Addr) (w : World) (B : Nat) (hB : B ≤ w.heap.size) (hS : Snt w B S [2, 3]) (hx : okLn x) :
    Calls Tryd.prog 30 #[.agg #[.int .i64 x.b, .int .i64 x.r]] w fun e w' => ∃ g, e = .returned (.tuple #[.pointer (some ⟨g, 0, none⟩), .nilIface]) ∧ Blk w' g 106 (newB x).cells ∧ w.heap.size ≤ g ∧ Below w.heap.size w w' := by
  obtain ⟨b, r⟩ := x
  have Hc := Lib.hid (show crvErr [⟨b, r⟩] = (0, -1) from crvErr_of (by simp) (by simp) (fun y hy => by rw [List.mem_singleton.1 hy]; exact hx))
  obtain ⟨h1, h2, h3, h4⟩ := hx
  simp only at h1 h2 h3 h4
  have ba : Below w.heap.size w (w.alloc (.cells #[.int .i64 b, .int .i64 r] 24)) := (Below.refl _ _).alloc (Nat.le_refl _) _
  go_enter Tryd.func30, Tryd.ntmps30
  go_wp2_with fail
  refine (check_any (some ⟨w.heap.size + 1, 0, none⟩) 1 [⟨b, r⟩] S _ (w.heap.size + 2) (by simp) (Rd.of_block (heap_alloc_new2 _ _ _) rfl (Nat.lt_succ_self _) (by omega) Ln.cs_len) ((hS.below ((ba.alloc (by simp) _).mono hB)).more (by omega)) (by simp)).mono ?_
  rintro e w1 ⟨v, rfl, hv, k1⟩
  obtain rfl := hv.nil_of (by rw [Hc.out])
  have k2 : Below (w.heap.size + 1) (w.alloc (.cells #[.int .i64 b, .int .i64 r] 24)) w1 := (((Below.refl _ _).alloc (by simp) _)).trans (k1.mono (by simp))
  have k3 := ba.trans (k2.mono (Nat.le_succ _))
  have b1 : Blk w1 w.heap.size 24 #[.int .i64 b, .int .i64 r] := (Blk.new _ _ _).below k2 (Nat.lt_succ_self _)
  have x0 : w1.cell? ⟨w.heap.size, 0, none⟩ = some (.int .i64 b) := b1.cell 0
  have x1 : w1.cell? ⟨w.heap.size, 1, none⟩ = some (.int .i64 r) := b1.cell 1
  clear b1
  go_wp2_with fail
  go_ret2
  exact ⟨w1.heap.size, rfl, Blk.new _ _ _, k3.size, k3.alloc k3.size _⟩
end Go.Proofs.YteeaipehkhldhaaDoor
