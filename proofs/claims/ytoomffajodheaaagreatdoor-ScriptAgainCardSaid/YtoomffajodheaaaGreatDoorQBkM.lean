/- Package bucket: Take, When, Has, New compute what a plain function says. Conditions: the bucket is right; the sentinels that are named lie in their variables. What a bucket holds, and when, plainly. No program. No condition. The law BucketWhen returns true, whatever its arguments, and changes nothing that was there. Condition: the sentinels lie in their variables. Package bucket's Fits. Conditions: the lists fit memory; the sentinels that it names lie in their variables. What a bucket passes, packet by packet, fits its line; one that it does not pass would not fit behind them: plainly. No program. No condition. The law BucketPasses returns true, whatever its arguments, and changes nothing that was there. Condition: the sentinels lie in their variables. -/
import Derived.Test.YtoomffajodheaaaGreatDoorQCvM
import Derived.Test.YtoomffajodheaaaGreatDoorQBaseM
import Derived.Test.YtoomffajodheaaaGreatDoorQPkM
import Derived.Deep.RegionHeld3
import Derived.Test.YtoomffajodheaaaGreatDoorQMiscM
import Derived.Deep.RegionLaw
set_option linter.all false
namespace Go.Proofs.YtoomffajodheaaaGreatDoor
open Go.RowKit
set_option maxRecDepth 100000
def takeB (s : Bu) (t n : Int) : Bool := decide (lookB s t n = 0 ∧ 1000 * n ≤ holdsB s t)
def tookB (s : Bu) (t n : Int) : Bu := if lookB s t n ≠ 0 then s else if holdsB s t < 1000 * n then { s with last := t } else ⟨s.b, s.r, t, holdsB s t - 1000 * n, t⟩
theorem tookB_ok {s : Bu} (h : BuOk s) (t n : Int) : BuOk (tookB s t n) := by
  unfold tookB
  by_cases h1 : lookB s t n ≠ 0
  · rw [if_pos h1]; exact h
  · rw [if_neg h1]
    obtain ⟨q1, q2, q3, q4, q5⟩ := lookB_ok (by omega : lookB s t n = 0)
    have q6 := h.a2
    by_cases h2 : holdsB s t < 1000 * n
    · rw [if_pos h2]; exact ⟨h.b1, h.b2, h.r1, h.r2, h.h1, h.h2, h.a1, by simp only; omega, q2⟩
    · rw [if_neg h2]
      have := holds_range h (show s.at_ ≤ t by omega)
      exact ⟨h.b1, h.b2, h.r1, h.r2, by simp only; omega, by simp only; omega, q1, Int.le_refl _, q2⟩
theorem took_line (s : Bu) (t n : Int) : (tookB s t n).b = s.b ∧ (tookB s t n).r = s.r := by
  unfold tookB
  split
  · exact ⟨rfl, rfl⟩
  · split
    · exact ⟨rfl, rfl⟩
    · exact ⟨rfl, rfl⟩
set_option maxHeartbeats 400000 in
theorem take_any (g : Nat) (s : Bu) (t n : Int) (S : Nat → Addr) (w : World) (B : Nat) (hB : B ≤ g) (hS : Snt w B S [2, 5]) (h : Blk w g 288 s.cells) (hs : BuOk s) :
    Calls Tryz.prog 205 #[.pointer (some ⟨g, 0, none⟩), .int .i64 t, .int .i64 n] w fun e w' => ∃ v, e = .returned (.tuple #[.bool (takeB s t n), v]) ∧ Er w' w'.heap.size S v (lookB s t n) (-1) ∧ Blk w' g 288 (tookB s t n).cells ∧ OnlyG g w w' := by
  by_cases hk : lookB s t n = 0
  · obtain ⟨q1, q2, q3, q4, q5⟩ := lookB_ok hk
    have q6 := hs.a2
    have q7 := hs.b2
    obtain ⟨q8, q9⟩ := holds_range hs (show s.at_ ≤ t by omega)
    have q10 := hs.h1
    obtain ⟨hv, hhv⟩ : ∃ hv, hv = holdsB s t := ⟨_, rfl⟩
    have Hk := Lib.hid hk
    have Hhv := Lib.hid hhv
    rw [← hhv] at q8 q9
    have c4 : w.cell? ⟨g, 4, none⟩ = some (.int .i64 s.last) := h.cell 4
    have f4 := h.frozen 4
    have H := Lib.hid h
    have b1 : Blk (w.setCell ⟨g, 4, none⟩ (.int .i64 t)) g 288 (Bu.cells ⟨s.b, s.r, s.at_, s.has, t⟩) := h.set_ 4 _
    have B1 := Lib.hid b1
    have hs1 : BuOk ⟨s.b, s.r, s.at_, s.has, t⟩ := ⟨hs.b1, hs.b2, hs.r1, hs.r2, hs.h1, hs.h2, hs.a1, by simp only; omega, q2⟩
    have Hh1 := Lib.hid (show holdsB ⟨s.b, s.r, s.at_, s.has, t⟩ t = hv by rw [hhv]; rfl)
    have on1 := (OnlyG.refl g w).set_ 4 (.int .i64 t)
    clear hk hhv h b1
    by_cases hc : hv < 1000 * n
    · have Ht := Lib.hid (show takeB s t n = false from decide_eq_false (fun h9 => by rw [← Hhv.out] at h9; omega))
      have Hs := Lib.hid (show tookB s t n = ⟨s.b, s.r, s.at_, s.has, t⟩ by unfold tookB; rw [if_neg (by rw [Hk.out]; simp), if_pos (by rw [← Hhv.out]; exact hc)])
      go_enter Tryz.func205, Tryz.ntmps205
      go_wp2_with fail
      refine (blook_any g s t n S w B hS H.out).mono ?_
      rintro e w1 ⟨v, rfl, hv1, rfl⟩
      obtain rfl := hv1.nil_of Hk.out
      go_wp2_with fail
      refine (holds_any g ⟨s.b, s.r, s.at_, s.has, t⟩ t _ B1.out hs1 (by simp only; omega) q2).mono ?_
      rintro e w2 ⟨rfl, m, rfl⟩
      rw [Hh1.out]
      go_wp2_with fail
      go_ret2
      rw [Ht.out, Hk.out, Hs.out]
      exact ⟨_, rfl, .nil, B1.out, on1.drewN m⟩
    · have hc2 : 1000 * n ≤ hv := by omega
      have Ht := Lib.hid (show takeB s t n = true from decide_eq_true ⟨Hk.out, by rw [← Hhv.out]; exact hc2⟩)
      have Hs := Lib.hid (show tookB s t n = ⟨s.b, s.r, t, hv - 1000 * n, t⟩ by unfold tookB; rw [if_neg (by rw [Hk.out]; simp), if_neg (by rw [← Hhv.out]; exact hc), ← Hhv.out])
      clear hc
      have x2 : (w.setCell ⟨g, 4, none⟩ (.int .i64 t)).cell? ⟨g, 2, none⟩ = some (.int .i64 s.at_) := B1.out.cell 2
      have x3 : (w.setCell ⟨g, 4, none⟩ (.int .i64 t)).cell? ⟨g, 3, none⟩ = some (.int .i64 s.has) := B1.out.cell 3
      have y2 := B1.out.frozen 2
      have y3 := B1.out.frozen 3
      go_enter Tryz.func205, Tryz.ntmps205
      go_wp2_with fail
      refine (blook_any g s t n S w B hS H.out).mono ?_
      rintro e w1 ⟨v, rfl, hv1, rfl⟩
      obtain rfl := hv1.nil_of Hk.out
      go_wp2_with fail
      refine (holds_any g ⟨s.b, s.r, s.at_, s.has, t⟩ t _ B1.out hs1 (by simp only; omega) q2).mono ?_
      rintro e w2 ⟨rfl, m, rfl⟩
      rw [Hh1.out]
      go_wp2_with fail
      go_ret2
      rw [Ht.out, Hk.out, Hs.out]
      exact ⟨_, rfl, .nil, ((B1.out.drewN m).set_ 2 (.int .i64 t)).set_ 3 (.int .i64 (hv - 1000 * n)), ((on1.drewN m).set_ 2 (.int .i64 t)).set_ 3 (.int .i64 (hv - 1000 * n))⟩
  · have Hk := Lib.hid hk
    have Ht := Lib.hid (show takeB s t n = false from decide_eq_false (fun h9 => hk h9.1))
    have Hs := Lib.hid (show tookB s t n = s from if_pos hk)
    clear hk
    go_enter Tryz.func205, Tryz.ntmps205
    go_wp2_with fail
    refine (blook_any g s t n S w B hS h).mono ?_
    rintro e w1 ⟨v, rfl, hv1, rfl⟩
    obtain ⟨T, a, rfl⟩ := hv1.some_of Hk.out
    go_wp2_with fail
    go_ret2
    rw [Ht.out, Hs.out]
    exact ⟨_, rfl, hv1, h, OnlyG.refl _ _⟩
/-- What When tells: an error's number, a tick. -/
def whenB (s : Bu) (t n : Int) : Nat × Int := if lookB s t n ≠ 0 then (lookB s t n, 0) else if s.b < n then (4, 0) else if 1000 * n - holdsB s t ≤ 0 then (0, t) else if s.r = 0 then (4, 0) else
  if 1099511627776 < t + (1000 * n - holdsB s t + s.r - 1) / s.r then (4, 0) else (0, t + (1000 * n - holdsB s t + s.r - 1) / s.r)
set_option maxHeartbeats 1000000 in
theorem when_any (g : Nat) (s : Bu) (t n : Int) (S : Nat → Addr) (w : World) (B : Nat) (hB : B ≤ g) (hS : Snt w B S [2, 4, 5]) (h : Blk w g 288 s.cells) (hs : BuOk s) :
    Calls Tryz.prog 204 #[.pointer (some ⟨g, 0, none⟩), .int .i64 t, .int .i64 n] w fun e w' => ∃ v, e = .returned (.tuple #[.int .i64 (whenB s t n).2, v]) ∧ Er w' w'.heap.size S v (whenB s t n).1 (-1) ∧ ∃ m, w' = w.drewN m := by
  have g4 : w.cell? ⟨G 4, 0, none⟩ = some (sv S 4) := (hS 4 (by simp)).2.2
  simp only [G, sv] at g4
  have hS2 : Snt w B S [2, 5] := hS.sub (by simp)
  by_cases hk : lookB s t n = 0
  · obtain ⟨q1, q2, q3, q4, q5⟩ := lookB_ok hk
    have q6 := hs.a2
    have q7 := hs.b2
    have q71 := hs.b1
    obtain ⟨q8, q9⟩ := holds_range hs (show s.at_ ≤ t by omega)
    have q10 := hs.h1
    have r1 := hs.r1
    have r2 := hs.r2
    obtain ⟨hv, hhv⟩ : ∃ hv, hv = holdsB s t := ⟨_, rfl⟩
    have Hk := Lib.hid hk
    have Hhv := Lib.hid hhv
    rw [← hhv] at q8 q9
    have c0 : w.cell? ⟨g, 0, none⟩ = some (.int .i64 s.b) := h.cell 0
    have c1 : w.cell? ⟨g, 1, none⟩ = some (.int .i64 s.r) := h.cell 1
    have H := Lib.hid h
    clear hk hhv h
    by_cases hb : s.b < n
    · have Hw := Lib.hid (show whenB s t n = (4, 0) by unfold whenB; rw [if_neg (by rw [Hk.out]; simp), if_pos hb])
      go_enter Tryz.func204, Tryz.ntmps204
      go_wp2_with fail
      refine (blook_any g s t n S w B hS2 H.out).mono ?_
      rintro e w1 ⟨v, rfl, hv1, rfl⟩
      obtain rfl := hv1.nil_of Hk.out
      go_wp2_with fail
      refine (holds_any g s t _ H.out hs (by omega) q2).mono ?_
      rintro e w2 ⟨rfl, m, rfl⟩
      rw [← Hhv.out]
      go_wp2_with fail
      go_quiet (fail)
      go_wp2_with fail
      go_ret2
      rw [Hw.out]
      exact ⟨_, rfl, .bare 4 (by omega) (by omega), _, by first | rfl | exact World.drewN_drewN _ _ _⟩
    · have hb2 : n ≤ s.b := by omega
      by_cases hl : 1000 * n - hv ≤ 0
      · have Hw := Lib.hid (show whenB s t n = (0, t) by unfold whenB; rw [if_neg (by rw [Hk.out]; simp), if_neg hb, if_pos (by rw [← Hhv.out]; exact hl)])
        clear hb
        go_enter Tryz.func204, Tryz.ntmps204
        go_wp2_with fail
        refine (blook_any g s t n S w B hS2 H.out).mono ?_
        rintro e w1 ⟨v, rfl, hv1, rfl⟩
        obtain rfl := hv1.nil_of Hk.out
        go_wp2_with fail
        refine (holds_any g s t _ H.out hs (by omega) q2).mono ?_
        rintro e w2 ⟨rfl, m, rfl⟩
        rw [← Hhv.out]
        go_wp2_with fail
        go_ret2
        rw [Hw.out]
        exact ⟨_, rfl, .nil, _, rfl⟩
      · have hl2 : 0 < 1000 * n - hv := by omega
        by_cases hr : s.r = 0
        · have Hw := Lib.hid (show whenB s t n = (4, 0) by unfold whenB; rw [if_neg (by rw [Hk.out]; simp), if_neg hb, if_neg (by rw [← Hhv.out]; exact hl), if_pos hr])
          rw [hr] at c1
          clear hb hl hr
          go_enter Tryz.func204, Tryz.ntmps204
          go_wp2_with fail
          refine (blook_any g s t n S w B hS2 H.out).mono ?_
          rintro e w1 ⟨v, rfl, hv1, rfl⟩
          obtain rfl := hv1.nil_of Hk.out
          go_wp2_with fail
          refine (holds_any g s t _ H.out hs (by omega) q2).mono ?_
          rintro e w2 ⟨rfl, m, rfl⟩
          rw [← Hhv.out]
          go_wp2_with fail
          go_quiet (fail)
          go_wp2_with fail
          go_ret2
          rw [Hw.out]
          exact ⟨_, rfl, .bare 4 (by omega) (by omega), _, by first | rfl | exact World.drewN_drewN _ _ _⟩
        · have hr2 : 0 < s.r := by omega
          have hr3 : (s.r == 0) = false := beq_eq_false_iff_ne.2 hr
          have d0 : 0 ≤ (1000 * n - hv + s.r - 1) / s.r := Int.ediv_nonneg (by omega) (by omega)
          have d1 : (1000 * n - hv + s.r - 1) / s.r ≤ 1000 * n - hv + s.r - 1 := Int.ediv_le_self _ (by omega)
          by_cases ht : 1099511627776 < t + (1000 * n - hv + s.r - 1) / s.r
          · have Hw := Lib.hid (show whenB s t n = (4, 0) by unfold whenB; rw [if_neg (by rw [Hk.out]; simp), if_neg hb, if_neg (by rw [← Hhv.out]; exact hl), if_neg hr, if_pos (by rw [← Hhv.out]; exact ht)])
            clear hb hl hr
            go_enter Tryz.func204, Tryz.ntmps204
            go_wp2_with fail
            refine (blook_any g s t n S w B hS2 H.out).mono ?_
            rintro e w1 ⟨v, rfl, hv1, rfl⟩
            obtain rfl := hv1.nil_of Hk.out
            go_wp2_with fail
            refine (holds_any g s t _ H.out hs (by omega) q2).mono ?_
            rintro e w2 ⟨rfl, m, rfl⟩
            rw [← Hhv.out]
            go_wp2_with fail
            go_quiet (fail)
            go_wp2_with fail
            go_quiet (fail)
            go_wp2_with fail
            go_ret2
            rw [Hw.out]
            exact ⟨_, rfl, .bare 4 (by omega) (by omega), _, by first | rfl | exact World.drewN_drewN _ _ _⟩
          · have ht2 : t + (1000 * n - hv + s.r - 1) / s.r ≤ 1099511627776 := by omega
            have Hw := Lib.hid (show whenB s t n = (0, t + (1000 * n - hv + s.r - 1) / s.r) by unfold whenB; rw [if_neg (by rw [Hk.out]; simp), if_neg hb, if_neg (by rw [← Hhv.out]; exact hl), if_neg hr, if_neg (by rw [← Hhv.out]; exact ht), ← Hhv.out])
            clear hb hl hr ht
            go_enter Tryz.func204, Tryz.ntmps204
            go_wp2_with fail
            refine (blook_any g s t n S w B hS2 H.out).mono ?_
            rintro e w1 ⟨v, rfl, hv1, rfl⟩
            obtain rfl := hv1.nil_of Hk.out
            go_wp2_with fail
            refine (holds_any g s t _ H.out hs (by omega) q2).mono ?_
            rintro e w2 ⟨rfl, m, rfl⟩
            rw [← Hhv.out]
            go_wp2_with fail
            go_quiet (fail)
            go_wp2_with fail
            go_ret2
            rw [Hw.out]
            exact ⟨_, rfl, .nil, _, by first | rfl | exact World.drewN_drewN _ _ _⟩
  · have Hk := Lib.hid hk
    have Hw := Lib.hid (show whenB s t n = (lookB s t n, 0) from if_pos hk)
    clear hk
    go_enter Tryz.func204, Tryz.ntmps204
    go_wp2_with fail
    refine (blook_any g s t n S w B hS2 h).mono ?_
    rintro e w1 ⟨v, rfl, hv1, rfl⟩
    obtain ⟨T, a, rfl⟩ := hv1.some_of Hk.out
    go_wp2_with fail
    go_ret2
    rw [Hw.out]
    exact ⟨_, rfl, hv1, 0, rfl⟩
def newB (x : Ln) : Bu := ⟨x.b, x.r, 0, 1000 * x.b, 0⟩
theorem newB_ok {x : Ln} (h : okLn x) : BuOk (newB x) := by
  obtain ⟨h1, h2, h3, h4⟩ := h
  exact ⟨h1, h2, h3, h4, by simp only [newB]; omega, Int.le_refl _, Int.le_refl _, Int.le_refl _, by simp only [newB]; omega⟩
theorem new_ok (x : Ln) (S : Nat → Addr) (w : World) (B : Nat) (hB : B ≤ w.heap.size) (hS : Snt w B S [2, 3]) (hx : okLn x) :
    Calls Tryz.prog 180 #[.agg #[.int .i64 x.b, .int .i64 x.r]] w fun e w' => ∃ g, e = .returned (.tuple #[.pointer (some ⟨g, 0, none⟩), .nilIface]) ∧ Blk w' g 288 (newB x).cells ∧ w.heap.size ≤ g ∧ Below w.heap.size w w' := by
  obtain ⟨b, r⟩ := x
  have Hc := Lib.hid (show crvErr [⟨b, r⟩] = (0, -1) from crvErr_of (by simp) (by simp) (fun y hy => by rw [List.mem_singleton.1 hy]; exact hx))
  obtain ⟨h1, h2, h3, h4⟩ := hx
  simp only at h1 h2 h3 h4
  have ba : Below w.heap.size w (w.alloc (.cells #[.int .i64 b, .int .i64 r] 75)) := (Below.refl _ _).alloc (Nat.le_refl _) _
  go_enter Tryz.func180, Tryz.ntmps180
  go_wp2_with fail
  refine (check_any (some ⟨w.heap.size + 1, 0, none⟩) 1 [⟨b, r⟩] S _ (w.heap.size + 2) (by simp) (Rd.of_block (heap_alloc_new2 _ _ _) rfl (Nat.lt_succ_self _) (by omega) Ln.cs_len) ((hS.below ((ba.alloc (by simp) _).mono hB)).more (by omega)) (by simp)).mono ?_
  rintro e w1 ⟨v, rfl, hv, k1⟩
  obtain rfl := hv.nil_of (by rw [Hc.out])
  have k2 : Below (w.heap.size + 1) (w.alloc (.cells #[.int .i64 b, .int .i64 r] 75)) w1 := (((Below.refl _ _).alloc (by simp) _)).trans (k1.mono (by simp))
  have k3 := ba.trans (k2.mono (Nat.le_succ _))
  have b1 : Blk w1 w.heap.size 75 #[.int .i64 b, .int .i64 r] := (Blk.new _ _ _).below k2 (Nat.lt_succ_self _)
  have x0 : w1.cell? ⟨w.heap.size, 0, none⟩ = some (.int .i64 b) := b1.cell 0
  have x1 : w1.cell? ⟨w.heap.size, 1, none⟩ = some (.int .i64 r) := b1.cell 1
  clear b1
  go_wp2_with fail
  go_ret2
  exact ⟨w1.heap.size, rfl, Blk.new _ _ _, k3.size, k3.alloc k3.size _⟩
end Go.Proofs.YtoomffajodheaaaGreatDoor
namespace Go.Proofs.YtoomffajodheaaaGreatDoor
theorem holds_min {s : Bu} (h : BuOk s) {t : Int} (ht : s.at_ ≤ t) : holdsB s t = if 1000 * s.b < s.has + s.r * (t - s.at_) then 1000 * s.b else s.has + s.r * (t - s.at_) := by
  unfold holdsB
  by_cases hf : 0 < s.r ∧ (1000 * s.b - s.has) / s.r < t - s.at_
  · rw [if_pos hf]
    have h1 : (1000 * s.b - s.has) / s.r + 1 ≤ t - s.at_ := hf.2
    have h2 := Int.mul_le_mul_of_nonneg_left h1 (Int.le_of_lt hf.1)
    have h3 := Int.lt_mul_ediv_self_add (x := 1000 * s.b - s.has) hf.1
    rw [Int.mul_add, Int.mul_one] at h2
    rw [if_pos (by omega)]
  · rw [if_neg hf]
    have := holds_slack h ht hf
    rw [if_neg (by omega)]
theorem when_ok {s : Bu} (h : BuOk s) {t n T : Int} (hw : whenB s t n = (0, T)) :
    lookB s t n = 0 ∧ t ≤ T ∧ T ≤ 1099511627776 ∧ 1000 * n ≤ holdsB s T ∧ (t < T → holdsB s (T - 1) < 1000 * n) := by
  unfold whenB at hw
  by_cases hk : lookB s t n ≠ 0
  · rw [if_pos hk] at hw
    exact absurd (congrArg Prod.fst hw) hk
  · rw [if_neg hk] at hw
    have hk0 : lookB s t n = 0 := by omega
    obtain ⟨q1, q2, q3, q4, q5⟩ := lookB_ok hk0
    have q6 := h.a2
    by_cases hb : s.b < n
    · rw [if_pos hb] at hw; simp at hw
    · rw [if_neg hb] at hw
      by_cases hl : 1000 * n - holdsB s t ≤ 0
      · rw [if_pos hl] at hw
        obtain rfl : t = T := congrArg Prod.snd hw
        exact ⟨hk0, Int.le_refl _, q2, by omega, fun h9 => absurd h9 (Int.lt_irrefl _)⟩
      · rw [if_neg hl] at hw
        by_cases hr : s.r = 0
        · rw [if_pos hr] at hw; simp at hw
        · rw [if_neg hr] at hw
          have r1 := h.r1
          have hr2 : 0 < s.r := by omega
          by_cases hT : 1099511627776 < t + (1000 * n - holdsB s t + s.r - 1) / s.r
          · rw [if_pos hT] at hw; simp at hw
          · rw [if_neg hT] at hw
            obtain rfl : t + (1000 * n - holdsB s t + s.r - 1) / s.r = T := congrArg Prod.snd hw
            have e1 := holds_min h (show s.at_ ≤ t by omega)
            have e2 : holdsB s t = s.has + s.r * (t - s.at_) := by
              rw [e1]
              split
              · rename_i h9
                rw [if_pos h9] at e1
                omega
              · rfl
            obtain ⟨q, hq⟩ : ∃ q, q = (1000 * n - holdsB s t + s.r - 1) / s.r := ⟨_, rfl⟩
            have h3 := Int.mul_ediv_self_le (x := 1000 * n - holdsB s t + s.r - 1) (k := s.r) (by omega)
            have h4 := Int.lt_mul_ediv_self_add (x := 1000 * n - holdsB s t + s.r - 1) hr2
            rw [← hq] at h3 h4 hT ⊢
            have hq0 : 0 ≤ q := by rw [hq]; exact Int.ediv_nonneg (by omega) (by omega)
            have m1 : s.r * (t + q - s.at_) = s.r * (t - s.at_) + s.r * q := by rw [← Int.mul_add]; congr 1; omega
            have m2 : s.r * (t + q - 1 - s.at_) = s.r * (t - s.at_) + s.r * q - s.r := by
              have : s.r * (t + q - 1 - s.at_) = s.r * (t - s.at_) + s.r * (q - 1) := by rw [← Int.mul_add]; congr 1; omega
              have h9 : s.r * (q - 1) = s.r * q - s.r := by rw [Int.mul_sub, Int.mul_one]
              rw [this, h9]; omega
            refine ⟨hk0, by omega, by omega, ?_, fun h9 => ?_⟩
            · rw [holds_min h (by omega), m1]
              split <;> omega
            · rw [holds_min h (by omega), m2]
              split <;> omega
end Go.Proofs.YtoomffajodheaaaGreatDoor
namespace Go.Proofs.YtoomffajodheaaaGreatDoor
open Go.RowKit
set_option maxRecDepth 100000
theorem pktErr_sorted' {l : List Pk} (h : (pktErr l).1 = 0) : l.Pairwise (fun x y => x.a ≤ y.a) := by
  have key : ∀ (l : List Pk) (m : Int) (k : Nat), (pktBad l m k).1 = 0 → (∀ x ∈ l, m ≤ x.a) ∧ l.Pairwise (fun x y => x.a ≤ y.a) := fun l => by
    induction l with
    | nil => exact fun _ _ _ => ⟨by simp, List.Pairwise.nil⟩
    | cons x r ih =>
      intro m k h
      unfold pktBad at h
      split at h
      · split at h
        · simp at h
        · rename_i h2
          obtain ⟨i1, i2⟩ := ih _ _ h
          refine ⟨fun y hy => ?_, List.pairwise_cons.2 ⟨i1, i2⟩⟩
          rcases List.mem_cons.1 hy with rfl | hy
          · omega
          · have := i1 y hy; omega
      · simp at h
  unfold pktErr at h
  by_cases h1 : 300 < l.length
  · rw [if_pos h1] at h; simp at h
  · rw [if_neg h1] at h; exact (key _ _ _ h).2
/-- What holds ahead of each packet that is taken. -/
structure TakeJ (line : Ln) (p : List Pk) (k : Nat) (s : Bu) (m : Int) : Prop where
  ok : BuOk s
  b : s.b = line.b
  r : s.r = line.r
  last : s.last = m
  le : ∀ j, k ≤ j → (h : j < p.length) → m ≤ p[j].a
  m0 : 0 ≤ m
  m1 : m ≤ 1099511627776
end Go.Proofs.YtoomffajodheaaaGreatDoor
namespace Go.Proofs.YtoomffajodheaaaGreatDoor
open Go.RowKit
set_option maxRecDepth 100000
def fitsGo (l : List Ln) (ai : Int) : Int → List Pk → Bool
  | _, [] => true
  | n, x :: r => if valueL l (x.a - ai) < n + x.s then false else fitsGo l ai (n + x.s) r
def fitsL (l : List Ln) : List Pk → Bool
  | [] => true
  | x :: r => if fitsGo l x.a 0 (x :: r) then fitsL l r else false
end Go.Proofs.YtoomffajodheaaaGreatDoor
namespace Go.Proofs.YtoomffajodheaaaGreatDoor
def sumS : List Pk → Int
  | [] => 0
  | x :: r => x.s + sumS r
/-- So many bytes more at a tick fit behind those, window by window. -/
def winOk (l : Ln) (t n : Int) : List Pk → Prop
  | [] => True
  | x :: r => sumS (x :: r) + n ≤ lineAt l (t - x.a) ∧ winOk l t n r
theorem valueL_one (l : Ln) (t : Int) : valueL [l] t = lineAt l t := by
  show valFrom t (lineAt l t) [l] = _
  simp [valFrom]
theorem fitsGo_app (ls : List Ln) (ai : Int) (n : Int) (q : List Pk) (x : Pk) : fitsGo ls ai n (q ++ [x]) = (fitsGo ls ai n q && decide (n + sumS q + x.s ≤ valueL ls (x.a - ai))) := by
  induction q generalizing n with
  | nil =>
    show (if valueL ls (x.a - ai) < n + x.s then false else true) = _
    unfold fitsGo sumS
    by_cases h : valueL ls (x.a - ai) < n + x.s
    · rw [if_pos h, decide_eq_false (by omega)]; rfl
    · rw [if_neg h, decide_eq_true (by omega)]; rfl
  | cons y r ih =>
    rw [List.cons_append]
    unfold fitsGo
    by_cases h : valueL ls (y.a - ai) < n + y.s
    · rw [if_pos h, if_pos h]; rfl
    · rw [if_neg h, if_neg h, ih]
      have e : n + y.s + sumS r + x.s = n + sumS (y :: r) + x.s := by show _ = n + (y.s + sumS r) + x.s; omega
      rw [e]
theorem fitsL_app (l : Ln) (q : List Pk) (x : Pk) : fitsL [l] (q ++ [x]) = true ↔ fitsL [l] q = true ∧ winOk l x.a x.s q ∧ x.s ≤ l.b := by
  induction q with
  | nil =>
    show (if fitsGo [l] x.a 0 [x] then fitsL [l] [] else false) = true ↔ _
    have e : fitsGo [l] x.a 0 [x] = decide (x.s ≤ l.b) := by
      show (if valueL [l] (x.a - x.a) < 0 + x.s then false else true) = _
      rw [valueL_one]
      unfold lineAt
      rw [Int.sub_self, Int.mul_zero, Int.zero_ediv]
      by_cases h : x.s ≤ l.b
      · rw [if_neg (by omega), decide_eq_true h]
      · rw [if_pos (by omega), decide_eq_false h]
    rw [e]
    by_cases h : x.s ≤ l.b
    · rw [decide_eq_true h]; simp [fitsL, winOk, h]
    · rw [decide_eq_false h]; simp [h]
  | cons y r ih =>
    have e := fitsGo_app [l] y.a 0 (y :: r) x
    rw [List.cons_append] at e ⊢
    show (if fitsGo [l] y.a 0 (y :: (r ++ [x])) then fitsL [l] (r ++ [x]) else false) = true ↔ (if fitsGo [l] y.a 0 (y :: r) then fitsL [l] r else false) = true ∧ (sumS (y :: r) + x.s ≤ lineAt l (x.a - y.a) ∧ winOk l x.a x.s r) ∧ x.s ≤ l.b
    rw [e, valueL_one]
    by_cases h1 : fitsGo [l] y.a 0 (y :: r) = true
    · rw [h1, Bool.true_and]
      by_cases h2 : 0 + sumS (y :: r) + x.s ≤ lineAt l (x.a - y.a)
      · rw [decide_eq_true h2, if_pos rfl, if_pos rfl, ih]
        have : sumS (y :: r) + x.s ≤ lineAt l (x.a - y.a) := by omega
        simp only [this, true_and]
      · rw [decide_eq_false h2]
        have : ¬ sumS (y :: r) + x.s ≤ lineAt l (x.a - y.a) := by omega
        simp [this]
    · simp [h1]
theorem winOk_app (l : Ln) (t n : Int) (q : List Pk) (x : Pk) : winOk l t n (q ++ [x]) ↔ winOk l t (x.s + n) q ∧ x.s + n ≤ lineAt l (t - x.a) := by
  induction q with
  | nil =>
    show (x.s + 0 + n ≤ _ ∧ True) ↔ True ∧ _
    rw [show x.s + 0 + n = x.s + n by omega]
    simp
  | cons y r ih =>
    have e : sumS (y :: (r ++ [x])) + n = sumS (y :: r) + (x.s + n) := by
      have : ∀ r : List Pk, sumS (r ++ [x]) = sumS r + x.s := fun r => by
        induction r with
        | nil => show x.s + 0 = 0 + x.s; omega
        | cons z r ih => show z.s + sumS (r ++ [x]) = z.s + sumS r + x.s; rw [ih]; omega
      show y.s + sumS (r ++ [x]) + n = y.s + sumS r + (x.s + n)
      rw [this]; omega
    show (sumS (y :: (r ++ [x])) + n ≤ lineAt l (t - y.a) ∧ winOk l t n (r ++ [x])) ↔ (sumS (y :: r) + (x.s + n) ≤ lineAt l (t - y.a) ∧ winOk l t (x.s + n) r) ∧ _
    rw [e, ih, and_assoc]
theorem line_le {l : Ln} {m d : Int} : m ≤ lineAt l d ↔ 1000 * m ≤ 1000 * l.b + l.r * d := by
  unfold lineAt
  generalize l.r * d = y
  omega
/-- A bucket's state behind those that it passed. -/
def PassJ (l : Ln) (q : List Pk) (s : Bu) : Prop := s.b = l.b ∧ s.r = l.r ∧ ((q = [] ∧ s.has = 1000 * s.b) ∨ ∀ t n : Int, s.at_ ≤ t → (1000 * n ≤ s.has + s.r * (t - s.at_) ↔ winOk l t n q))
theorem pass_fits {l : Ln} {q : List Pk} {s : Bu} (hs : BuOk s) (hj : PassJ l q s) {t n : Int} (ht : s.at_ ≤ t) : 1000 * n ≤ holdsB s t ↔ winOk l t n q ∧ n ≤ l.b := by
  obtain ⟨e1, e2, hj⟩ := hj
  rw [holds_min hs ht]
  rcases hj with ⟨rfl, h1⟩ | h1
  · have m := Int.mul_nonneg hs.r1 (show 0 ≤ t - s.at_ by omega)
    generalize s.r * (t - s.at_) = y at m ⊢
    simp only [winOk, true_and]
    split <;> omega
  · rw [← h1 t n ht]
    generalize s.r * (t - s.at_) = y
    split <;> omega
theorem pass_step {l : Ln} {q : List Pk} {s : Bu} {x : Pk} (hs : BuOk s) (hj : PassJ l q s) (ht : s.at_ ≤ x.a) (hl : lookB s x.a x.s = 0) :
    PassJ l (if takeB s x.a x.s then q ++ [x] else q) (tookB s x.a x.s) := by
  have hline := took_line s x.a x.s
  unfold takeB
  by_cases hc : 1000 * x.s ≤ holdsB s x.a
  · rw [decide_eq_true ⟨hl, hc⟩, if_pos rfl]
    have e : tookB s x.a x.s = ⟨s.b, s.r, x.a, holdsB s x.a - 1000 * x.s, x.a⟩ := by unfold tookB; rw [if_neg (by omega), if_neg (by omega)]
    rw [e]
    refine ⟨hj.1, hj.2.1, .inr fun t n htt => ?_⟩
    simp only at htt ⊢
    rw [winOk_app, line_le]
    have hmin := holds_min hs ht
    obtain ⟨e1, e2, hj⟩ := hj
    rw [← e1, ← e2]
    have hd : s.r * (t - s.at_) = s.r * (x.a - s.at_) + s.r * (t - x.a) := by rw [← Int.mul_add]; congr 1; omega
    rcases hj with ⟨rfl, h1⟩ | h1
    · have m := Int.mul_nonneg hs.r1 (show 0 ≤ x.a - s.at_ by omega)
      simp only [winOk, true_and]
      rw [hmin, h1]
      generalize s.r * (x.a - s.at_) = y at m ⊢
      generalize s.r * (t - x.a) = z
      split <;> omega
    · rw [← h1 t (x.s + n) (by omega), hd, hmin]
      generalize s.r * (x.a - s.at_) = y
      generalize s.r * (t - x.a) = z
      split <;> omega
  · rw [decide_eq_false (fun h => hc h.2)]
    have e : tookB s x.a x.s = { s with last := x.a } := by unfold tookB; rw [if_neg (by omega), if_pos (by omega)]
    rw [e]
    exact hj
theorem pass_new (l : Ln) : PassJ l [] (newB l) := ⟨rfl, rfl, .inl ⟨rfl, rfl⟩⟩
/-- What is asked of the packets that passed. -/
theorem pass_tells {l : Ln} {q : List Pk} {s : Bu} {x : Pk} (hs : BuOk s) (hj : PassJ l q s) (hq : fitsL [l] q = true) (ht : s.at_ ≤ x.a) (hl : lookB s x.a x.s = 0) : fitsL [l] (q ++ [x]) = takeB s x.a x.s := by
  rw [Bool.eq_iff_iff, fitsL_app, ← pass_fits hs hj ht]
  unfold takeB
  rw [decide_eq_true_iff]
  simp [hq, hl]
end Go.Proofs.YtoomffajodheaaaGreatDoor
namespace Go.Proofs.YtoomffajodheaaaGreatDoor
open Go.RowKit
set_option maxRecDepth 100000
theorem pktBad_of {l : List Pk} {m : Int} {k : Nat} (h1 : ∀ x ∈ l, okPk x) (h2 : l.Pairwise (fun x y => x.a ≤ y.a)) (h3 : ∀ x ∈ l, m ≤ x.a) : (pktBad l m k).1 = 0 := by
  induction l generalizing m k with
  | nil => rfl
  | cons x r ih =>
    obtain ⟨p1, p2⟩ := List.pairwise_cons.1 h2
    unfold pktBad
    have := h3 x List.mem_cons_self
    rw [if_pos (h1 x List.mem_cons_self), if_neg (by omega)]
    exact ih (fun y hy => h1 y (List.mem_cons_of_mem _ hy)) p2 p1
theorem pktErr_of {l : List Pk} (h0 : l.length ≤ 300) (h1 : ∀ x ∈ l, okPk x) (h2 : l.Pairwise (fun x y => x.a ≤ y.a)) : (pktErr l).1 = 0 := by
  unfold pktErr
  rw [if_neg (by omega)]
  exact pktBad_of h1 h2 fun x hx => (h1 x hx).2.2.2.2.1
theorem pktErr_len {p : List Pk} (h : (pktErr p).1 = 0) : p.length ≤ 300 := by
  unfold pktErr at h
  by_cases h4 : 300 < p.length
  · rw [if_pos h4] at h; simp at h
  · omega
theorem pktErr_sub {p q : List Pk} (h : (pktErr p).1 = 0) (hs : q.Sublist p) : (pktErr q).1 = 0 :=
  pktErr_of (Nat.le_trans hs.length_le (pktErr_len h)) (fun x hx => pktErr_okPk h x (hs.subset hx)) ((pktErr_sorted' h).sublist hs)
theorem infoPkA : (Tryz.prog.info? 53).map (fun i => (i.zero, i.size, i.bytes)) = some (some (.agg #[.int .i64 0, .int .i64 0, .int .i64 0]), 3, 24) := by kernel_rfl
theorem own_below {w w' : World} {B base : Nat} {e : TypeId} {size n : Nat} {v : Value} {xs : List Value} (hr : w.ownsRow base e size v n xs) (hb : Below B w w') (hB : w.heap.size ≤ B) : w'.ownsRow base e size v n xs := by
  obtain ⟨h1, h2⟩ := hr
  refine ⟨h1, ?_⟩
  rcases h2 with h2 | ⟨g', cap, cur, hv, hg', hh, r⟩
  · exact .inl h2
  · refine .inr ⟨g', cap, cur, hv, hg', (hb.block g' ?_).trans hh, r⟩
    have := lt_of_block hh
    omega
/-- What holds ahead of each packet. -/
structure PassR (line : Ln) (p : List Pk) (k : Nat) (s : Bu) (m : Int) (q : List Pk) : Prop where
  j : TakeJ line p k s m
  pj : PassJ line q s
  ft : fitsL [line] q = true
  sub : q.Sublist (p.take k)
theorem below_size0 {w w1 : World} (h : Below w.drew.heap.size w.drew w1) : Below w.heap.size w w1 := ((Below.refl _ _).drew).trans h
theorem below_size1 {w w1 : World} {o : Obj} (h : Below (w.alloc o).drew.heap.size (w.alloc o).drew w1) : Below (w.heap.size + 1) (w.alloc o) w1 := by
  have e1 : (w.alloc o).drew.heap.size = w.heap.size + 1 := by simp [World.drew]
  rw [e1] at h
  exact ((Below.refl _ _).drew).trans h
theorem below_size2 {w w1 : World} {o o2 : Obj} (h : Below ((w.alloc o).alloc o2).drew.heap.size ((w.alloc o).alloc o2).drew w1) : Below (w.heap.size + 2) ((w.alloc o).alloc o2) w1 := by
  have e1 : ((w.alloc o).alloc o2).drew.heap.size = w.heap.size + 2 := by simp [World.drew]
  rw [e1] at h
  exact ((Below.refl _ _).drew).trans h
theorem bel0 {w w1 : World} (h : Below w.drew.heap.size w.drew w1) : Below w.heap.size w w1 := below_size0 h
theorem bel1 {w w1 : World} {o : Obj} (h : Below (w.alloc o).drew.heap.size (w.alloc o).drew w1) : Below w.heap.size w w1 := ((Below.refl _ _).alloc (Nat.le_refl _) o).trans ((below_size1 h).mono (Nat.le_succ _))
theorem bel2 {w w1 : World} {o o2 : Obj} (h : Below ((w.alloc o).alloc o2).drew.heap.size ((w.alloc o).alloc o2).drew w1) : Below w.heap.size w w1 := (((Below.refl _ _).alloc (Nat.le_refl _) o).alloc (le_alloc (Nat.le_refl _) o) o2).trans ((below_size2 h).mono (by omega))
theorem bel_a {w : World} (o : Obj) : Below w.heap.size w (w.alloc o) := (Below.refl _ _).alloc (Nat.le_refl _) o
theorem own_lt' {w : World} {base : Nat} {e : TypeId} {size : Nat} {v : Value} {n : Nat} {xs : List Value} (h : w.ownsRow base e size v n xs) : ∀ g, v.ownBlock = some g → g < w.heap.size := by
  intro g hg
  rcases h.2 with ⟨rfl, _⟩ | ⟨g', cap, cur, rfl, _, hh, _⟩
  · simp [Value.ownBlock] at hg
  · have : g' = g := by simpa [Value.ownBlock] using hg
    subst this
    exact lt_of_block hh
theorem lt_size1 (w : World) (o : Obj) : w.heap.size < (w.alloc o).drew.heap.size := by simp [World.drew]
end Go.Proofs.YtoomffajodheaaaGreatDoor
