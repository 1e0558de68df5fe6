/- Package bucket: Take, When, Has, New compute what a plain function says. Conditions: the bucket is right; the sentinels that are named lie in their variables. What a bucket holds, and when, plainly. No program. No condition. The law BucketWhen returns true, whatever its arguments, and changes nothing that was there. Condition: the sentinels lie in their variables. Package bucket's Fits. Conditions: the lists fit memory; the sentinels that it names lie in their variables. What a bucket passes, packet by packet, fits its line; one that it does not pass would not fit behind them: plainly. No program. No condition. The law BucketPasses returns true, whatever its arguments, and changes nothing that was there. Condition: the sentinels lie in their variables. -/
import Derived.Test.YthgpbdlmadjndaaGreatDoorCvM
import Derived.Test.YthgpbdlmadjndaaGreatDoorBaseM
import Derived.Test.YthgpbdlmadjndaaGreatDoorPkM
import Derived.Deep.RegionHeld3
import Derived.Test.YthgpbdlmadjndaaGreatDoorMiscM
import Derived.Deep.RegionLaw
namespace Go.Proofs.YthgpbdlmadjndaaGreatDoor
open Go.RowKit
set_option maxRecDepth 100000
def takeB (s : Bu) (t n : Int) : Bool := decide (lookB s t n = 0 ∧ 1000 * n ≤ holdsB s t)
def tookB (s : Bu) (t n : Int) : Bu := if lookB s t n ≠ 0 then s else if holdsB s t < 1000 * n then { s with last := t } else ⟨s.b, s.r, t, holdsB s t - 1000 * n, t⟩
theorem tookB_ok {s : Bu} (h : BuOk s) (t n : Int) : BuOk (tookB s t n) := by
  unfold tookB
  by_cases h1 : lookB s t n ≠ 0
  · rw [if_pos h1]; exact h
  · rw [if_neg h1]
    obtain ⟨q1, q2, q3, q4, q5⟩ := lookB_ok (by omega : lookB s t n = 0)
    have q6 := h.a2
    by_cases h2 : holdsB s t < 1000 * n
    · rw [if_pos h2]; exact ⟨h.b1, h.b2, h.r1, h.r2, h.h1, h.h2, h.a1, by simp only; omega, q2⟩
    · rw [if_neg h2]
      have := holds_range h (show s.at_ ≤ t by omega)
      exact ⟨h.b1, h.b2, h.r1, h.r2, by simp only; omega, by simp only; omega, q1, Int.le_refl _, q2⟩
theorem took_line (s : Bu) (t n : Int) : (tookB s t n).b = s.b ∧ (tookB s t n).r = s.r := by
  unfold tookB
  split
  · exact ⟨rfl, rfl⟩
  · split
    · exact ⟨rfl, rfl⟩
    · exact ⟨rfl, rfl⟩
set_option maxHeartbeats 400000 in
theorem take_any (g : Nat) (s : Bu) (t n : Int) (S : Nat → Addr) (w : World) (B : Nat) (hB : B ≤ g) (hS : Snt w B S [2, 5]) (h : Blk w g 202 s.cells) (hs : BuOk s) :
    Calls Tryz.prog 130 #[.pointer (some ⟨g, 0, none⟩), .int .i64 t, .int .i64 n] w fun e w' => ∃ v, e = .returned (.tuple #[.bool (takeB s t n), v]) ∧ Er w' w'.heap.size S v (lookB s t n) (-1) ∧ Blk w' g 202 (tookB s t n).cells ∧ OnlyG g w w' := by
  by_cases hk : lookB s t n = 0
  · obtain ⟨q1, q2, q3, q4, q5⟩ := lookB_ok hk
    have q6 := hs.a2
    have q7 := hs.b2
    obtain ⟨q8, q9⟩ := holds_range hs (show s.at_ ≤ t by omega)
    have q10 := hs.h1
    obtain ⟨hv, hhv⟩ : ∃ hv, hv = holdsB s t := ⟨_, rfl⟩
    have Hk := Lib.hid hk
    have Hhv := Lib.hid hhv
    rw [← hhv] at q8 q9
    have c4 : w.cell? ⟨g, 4, none⟩ = some (.int .i64 s.last) := h.cell 4
    have f4 := h.frozen 4
    have H := Lib.hid h
    have b1 : Blk (w.setCell ⟨g, 4, none⟩ (.int .i64 t)) g 202 (Bu.cells ⟨s.b, s.r, s.at_, s.has, t⟩) := h.set_ 4 _
    have B1 := Lib.hid b1
    have hs1 : BuOk ⟨s.b, s.r, s.at_, s.has, t⟩ := ⟨hs.b1, hs.b2, hs.r1, hs.r2, hs.h1, hs.h2, hs.a1, by simp only; omega, q2⟩
    have Hh1 := Lib.hid (show holdsB ⟨s.b, s.r, s.at_, s.has, t⟩ t = hv by rw [hhv]; rfl)
    have on1 := (OnlyG.refl g w).set_ 4 (.int .i64 t)
    clear hk hhv h b1
    by_cases hc : hv < 1000 * n
    · have Ht := Lib.hid (show takeB s t n = false from decide_eq_false (fun h9 => by rw [← Hhv.out] at h9; omega))
      have Hs := Lib.hid (show tookB s t n = ⟨s.b, s.r, s.at_, s.has, t⟩ by unfold tookB; rw [if_neg (by rw [Hk.out]; simp), if_pos (by rw [← Hhv.out]; exact hc)])
      go_enter Tryz.func130, Tryz.ntmps130
      go_wp2_with fail
      refine (blook_any g s t n S w B hS H.out).mono ?_
      rintro e w1 ⟨v, rfl, hv1, rfl⟩
      obtain rfl := hv1.nil_of Hk.out
      go_wp2_with fail
      refine (holds_any g ⟨s.b, s.r, s.at_, s.has, t⟩ t _ B1.out hs1 (by simp only; omega) q2).mono ?_
      rintro e w2 ⟨rfl, m, rfl⟩
      rw [Hh1.out]
      go_wp2_with fail
      go_ret2
      rw [Ht.out, Hk.out, Hs.out]
      exact ⟨_, rfl, .nil, B1.out, on1.drewN m⟩
    · have hc2 : 1000 * n ≤ hv := by omega
      have Ht := Lib.hid (show takeB s t n = true from decide_eq_true ⟨Hk.out, by rw [← Hhv.out]; exact hc2⟩)
      have Hs := Lib.hid (show tookB s t n = ⟨s.b, s.r, t, hv - 1000 * n, t⟩ by unfold tookB; rw [if_neg (by rw [Hk.out]; simp), if_neg (by rw [← Hhv.out]; exact hc), ← Hhv.out])
      clear hc
      have x2 : (w.setCell ⟨g, 4, none⟩ (.int .i64 t)).cell? ⟨g, 2, none⟩ = some (.int .i64 s.at_) := B1.out.cell 2
      have x3 : (w.setCell ⟨g, 4, none⟩ (.int .i64 t)).cell? ⟨g, 3, none⟩ = some (.int .i64 s.has) := B1.out.cell 3
      have y2 := B1.out.frozen 2
      have y3 := B1.out.frozen 3
      go_enter Tryz.func130, Tryz.ntmps130
      go_wp2_with fail
      refine (blook_any g s t n S w B hS H.out).mono ?_
      rintro e w1 ⟨v, rfl, hv1, rfl⟩
      obtain rfl := hv1.nil_of Hk.out
      go_wp2_with fail
      refine (holds_any g ⟨s.b, s.r, s.at_, s.has, t⟩ t _ B1.out hs1 (by simp only; omega) q2).mono ?_
      rintro e w2 ⟨rfl, m, rfl⟩
      rw [Hh1.out]
      go_wp2_with fail
      go_ret2
      rw [Ht.out, Hk.out, Hs.out]
      exact ⟨_, rfl, .nil, ((B1.out.drewN m).set_ 2 (.int .i64 t)).set_ 3 (.int .i64 (hv - 1000 * n)), ((on1.drewN m).set_ 2 (.int .i64 t)).set_ 3 (.int .i64 (hv - 1000 * n))⟩
  · have Hk := Lib.hid hk
    have Ht := Lib.hid (show takeB s t n = false from decide_eq_false (fun h9 => hk h9.1))
    have Hs := Lib.hid (show tookB s t n = s from if_pos hk)
    clear hk
    go_enter Tryz.func130, Tryz.ntmps130
    go_wp2_with fail
    refine (blook_any g s t n S w B hS h).mono ?_
    rintro e w1 ⟨v, rfl, hv1, rfl⟩
    obtain ⟨T, a, rfl⟩ := hv1.some_of Hk.out
    go_wp2_with fail
    go_ret2
    rw [Ht.out, Hs.out]
    exact ⟨_, rfl, hv1, h, OnlyG.refl _ _⟩
/-- What Has tells: an error, a number. -/
def hasV (s : Bu) (t : Int) : Int := if lookB s t 1 = 0 then holdsB s t else 0
/-- What When tells: an error's number, a tick. -/
def whenB (s : Bu) (t n : Int) : Nat × Int := if lookB s t n ≠ 0 then (lookB s t n, 0) else if s.b < n then (4, 0) else if 1000 * n - holdsB s t ≤ 0 then (0, t) else if s.r = 0 then (4, 0) else
  if 1099511627776 < t + (1000 * n - holdsB s t + s.r - 1) / s.r then (4, 0) else (0, t + (1000 * n - holdsB s t + s.r - 1) / s.r)
set_option maxHeartbeats 1000000 in
theorem when_any (g : Nat) (s : Bu) (t n : Int) (S : Nat → Addr) (w : World) (B : Nat) (hB : B ≤ g) (hS : Snt w B S [2, 4, 5]) (h : Blk w g 202 s.cells) (hs : BuOk s) :
    Calls Tryz.prog 129 #[.pointer (some ⟨g, 0, none⟩), .int .i64 t, .int .i64 n] w fun e w' => ∃ v, e = .returned (.tuple #[.int .i64 (whenB s t n).2, v]) ∧ Er w' w'.heap.size S v (whenB s t n).1 (-1) ∧ ∃ m, w' = w.drewN m := by
  have g4 : w.cell? ⟨G 4, 0, none⟩ = some (sv S 4) := (hS 4 (by simp)).2.2
  simp only [G, sv] at g4
  have hS2 : Snt w B S [2, 5] := hS.sub (by simp)
  by_cases hk : lookB s t n = 0
  · obtain ⟨q1, q2, q3, q4, q5⟩ := lookB_ok hk
    have q6 := hs.a2
    have q7 := hs.b2
    have q71 := hs.b1
    obtain ⟨q8, q9⟩ := holds_range hs (show s.at_ ≤ t by omega)
    have q10 := hs.h1
    have r1 := hs.r1
    have r2 := hs.r2
    obtain ⟨hv, hhv⟩ : ∃ hv, hv = holdsB s t := ⟨_, rfl⟩
    have Hk := Lib.hid hk
    have Hhv := Lib.hid hhv
    rw [← hhv] at q8 q9
    have c0 : w.cell? ⟨g, 0, none⟩ = some (.int .i64 s.b) := h.cell 0
    have c1 : w.cell? ⟨g, 1, none⟩ = some (.int .i64 s.r) := h.cell 1
    have H := Lib.hid h
    clear hk hhv h
    by_cases hb : s.b < n
    · have Hw := Lib.hid (show whenB s t n = (4, 0) by unfold whenB; rw [if_neg (by rw [Hk.out]; simp), if_pos hb])
      go_enter Tryz.func129, Tryz.ntmps129
      go_wp2_with fail
      refine (blook_any g s t n S w B hS2 H.out).mono ?_
      rintro e w1 ⟨v, rfl, hv1, rfl⟩
      obtain rfl := hv1.nil_of Hk.out
      go_wp2_with fail
      refine (holds_any g s t _ H.out hs (by omega) q2).mono ?_
      rintro e w2 ⟨rfl, m, rfl⟩
      rw [← Hhv.out]
      go_wp2_with fail
      go_quiet (fail)
      go_wp2_with fail
      go_ret2
      rw [Hw.out]
      exact ⟨_, rfl, .bare 4 (by omega) (by omega), _, by first | rfl | exact World.drewN_drewN _ _ _⟩
    · have hb2 : n ≤ s.b := by omega
      by_cases hl : 1000 * n - hv ≤ 0
      · have Hw := Lib.hid (show whenB s t n = (0, t) by unfold whenB; rw [if_neg (by rw [Hk.out]; simp), if_neg hb, if_pos (by rw [← Hhv.out]; exact hl)])
        clear hb
        go_enter Tryz.func129, Tryz.ntmps129
        go_wp2_with fail
        refine (blook_any g s t n S w B hS2 H.out).mono ?_
        rintro e w1 ⟨v, rfl, hv1, rfl⟩
        obtain rfl := hv1.nil_of Hk.out
        go_wp2_with fail
        refine (holds_any g s t _ H.out hs (by omega) q2).mono ?_
        rintro e w2 ⟨rfl, m, rfl⟩
        rw [← Hhv.out]
        go_wp2_with fail
        go_ret2
        rw [Hw.out]
        exact ⟨_, rfl, .nil, _, rfl⟩
      · have hl2 : 0 < 1000 * n - hv := by omega
        by_cases hr : s.r = 0
        · have Hw := Lib.hid (show whenB s t n = (4, 0) by unfold whenB; rw [if_neg (by rw [Hk.out]; simp), if_neg hb, if_neg (by rw [← Hhv.out]; exact hl), if_pos hr])
          rw [hr] at c1
          clear hb hl hr
          go_enter Tryz.func129, Tryz.ntmps129
          go_wp2_with fail
          refine (blook_any g s t n S w B hS2 H.out).mono ?_
          rintro e w1 ⟨v, rfl, hv1, rfl⟩
          obtain rfl := hv1.nil_of Hk.out
          go_wp2_with fail
          refine (holds_any g s t _ H.out hs (by omega) q2).mono ?_
          rintro e w2 ⟨rfl, m, rfl⟩
          rw [← Hhv.out]
          go_wp2_with fail
          go_quiet (fail)
          go_wp2_with fail
          go_ret2
          rw [Hw.out]
          exact ⟨_, rfl, .bare 4 (by omega) (by omega), _, by first | rfl | exact World.drewN_drewN _ _ _⟩
        · have hr2 : 0 < s.r := by omega
          have hr3 : (s.r == 0) = false := beq_eq_false_iff_ne.2 hr
          have d0 : 0 ≤ (1000 * n - hv + s.r - 1) / s.r := Int.ediv_nonneg (by omega) (by omega)
          have d1 : (1000 * n - hv + s.r - 1) / s.r ≤ 1000 * n - hv + s.r - 1 := Int.ediv_le_self _ (by omega)
          by_cases ht : 1099511627776 < t + (1000 * n - hv + s.r - 1) / s.r
          · have Hw := Lib.hid (show whenB s t n = (4, 0) by unfold whenB; rw [if_neg (by rw [Hk.out]; simp), if_neg hb, if_neg (by rw [← Hhv.out]; exact hl), if_neg hr, if_pos (by rw [← Hhv.out]; exact ht)])
            clear hb hl hr
            go_enter Tryz.func129, Tryz.ntmps129
            go_wp2_with fail
            refine (blook_any g s t n S w B hS2 H.out).mono ?_
            rintro e w1 ⟨v, rfl, hv1, rfl⟩
            obtain rfl := hv1.nil_of Hk.out
            go_wp2_with fail
            refine (holds_any g s t _ H.out hs (by omega) q2).mono ?_
            rintro e w2 ⟨rfl, m, rfl⟩
            rw [← Hhv.out]
            go_wp2_with fail
            go_quiet (fail)
            go_wp2_with fail
            go_quiet (fail)
            go_wp2_with fail
            go_ret2
            rw [Hw.out]
            exact ⟨_, rfl, .bare 4 (by omega) (by omega), _, by first | rfl | exact World.drewN_drewN _ _ _⟩
          · have ht2 : t + (1000 * n - hv + s.r - 1) / s.r ≤ 1099511627776 := by omega
            have Hw := Lib.hid (show whenB s t n = (0, t + (1000 * n - hv + s.r - 1) / s.r) by unfold whenB; rw [if_neg (by rw [Hk.out]; simp), if_neg hb, if_neg (by rw [← Hhv.out]; exact hl), if_neg hr, if_neg (by rw [← Hhv.out]; exact ht), ← Hhv.out])
            clear hb hl hr ht
            go_enter Tryz.func129, Tryz.ntmps129
            go_wp2_with fail
            refine (blook_any g s t n S w B hS2 H.out).mono ?_
            rintro e w1 ⟨v, rfl, hv1, rfl⟩
            obtain rfl := hv1.nil_of Hk.out
            go_wp2_with fail
            refine (holds_any g s t _ H.out hs (by omega) q2).mono ?_
            rintro e w2 ⟨rfl, m, rfl⟩
            rw [← Hhv.out]
            go_wp2_with fail
            go_quiet (fail)
            go_wp2_with fail
            go_ret2
            rw [Hw.out]
            exact ⟨_, rfl, .nil, _, by first | rfl | exact World.drewN_drewN _ _ _⟩
  · have Hk := Lib.hid hk
    have Hw := Lib.hid (show whenB s t n = (lookB s t n, 0) from if_pos hk)
    clear hk
    go_enter Tryz.func129, Tryz.ntmps129
    go_wp2_with fail
    refine (blook_any g s t n S w B hS2 h).mono ?_
    rintro e w1 ⟨v, rfl, hv1, rfl⟩
    obtain ⟨T, a, rfl⟩ := hv1.some_of Hk.out
    go_wp2_with fail
    go_ret2
    rw [Hw.out]
    exact ⟨_, rfl, hv1, 0, rfl⟩
def newB (x : Ln) : Bu := ⟨x.b, x.r, 0, 1000 * x.b, 0⟩
theorem newB_ok {x : Ln} (h : okLn x) : BuOk (newB x) := by
  obtain ⟨h1, h2, h3, h4⟩ := h
  exact ⟨h1, h2, h3, h4, by simp only [newB]; omega, Int.le_refl _, Int.le_refl _, Int.le_refl _, by simp only [newB]; omega⟩
theorem new_ok (x : Ln) (S : Nat → Addr) (w : World) (B : Nat) (hB : B ≤ w.heap.size) (hS : Snt w B S [2, 3]) (hx : okLn x) :
    Calls Tryz.prog 99 #[.agg #[.int .i64 x.b, .int .i64 x.r]] w fun e w' => ∃ g, e = .returned (.tuple #[.pointer (some ⟨g, 0, none⟩), .nilIface]) ∧ Blk w' g 202 (newB x).cells ∧ w.heap.size ≤ g ∧ Below w.heap.size w w' := by
  obtain ⟨b, r⟩ := x
  have Hc := Lib.hid (show crvErr [⟨b, r⟩] = (0, -1) from crvErr_of (by simp) (by simp) (fun y hy => by rw [List.mem_singleton.1 hy]; exact hx))
  obtain ⟨h1, h2, h3, h4⟩ := hx
  simp only at h1 h2 h3 h4
  have ba : Below w.heap.size w (w.alloc (.cells #[.int .i64 b, .int .i64 r] 97)) := (Below.refl _ _).alloc (Nat.le_refl _) _
  go_enter Tryz.func99, Tryz.ntmps99
  go_wp2_with fail
  refine (check_any (some ⟨w.heap.size + 1, 0, none⟩) 1 [⟨b, r⟩] S _ (w.heap.size + 2) (by simp) (Rd.of_block (heap_alloc_new2 _ _ _) rfl (Nat.lt_succ_self _) (by omega) Ln.cs_len) ((hS.below ((ba.alloc (by simp) _).mono hB)).more (by omega)) (by simp)).mono ?_
  rintro e w1 ⟨v, rfl, hv, k1⟩
  obtain rfl := hv.nil_of (by rw [Hc.out])
  have k2 : Below (w.heap.size + 1) (w.alloc (.cells #[.int .i64 b, .int .i64 r] 97)) w1 := (((Below.refl _ _).alloc (by simp) _)).trans (k1.mono (by simp))
  have k3 := ba.trans (k2.mono (Nat.le_succ _))
  have b1 : Blk w1 w.heap.size 97 #[.int .i64 b, .int .i64 r] := (Blk.new _ _ _).below k2 (Nat.lt_succ_self _)
  have x0 : w1.cell? ⟨w.heap.size, 0, none⟩ = some (.int .i64 b) := b1.cell 0
  have x1 : w1.cell? ⟨w.heap.size, 1, none⟩ = some (.int .i64 r) := b1.cell 1
  clear b1
  go_wp2_with fail
  go_ret2
  exact ⟨w1.heap.size, rfl, Blk.new _ _ _, k3.size, k3.alloc k3.size _⟩
end Go.Proofs.YthgpbdlmadjndaaGreatDoor
namespace Go.Proofs.YthgpbdlmadjndaaGreatDoor
theorem holds_min {s : Bu} (h : BuOk s) {t : Int} (ht : s.at_ ≤ t) : holdsB s t = if 1000 * s.b < s.has + s.r * (t - s.at_) then 1000 * s.b else s.has + s.r * (t - s.at_) := by
  unfold holdsB
  by_cases hf : 0 < s.r ∧ (1000 * s.b - s.has) / s.r < t - s.at_
  · rw [if_pos hf]
    have h1 : (1000 * s.b - s.has) / s.r + 1 ≤ t - s.at_ := hf.2
    have h2 := Int.mul_le_mul_of_nonneg_left h1 (Int.le_of_lt hf.1)
    have h3 := Int.lt_mul_ediv_self_add (x := 1000 * s.b - s.has) hf.1
    rw [Int.mul_add, Int.mul_one] at h2
    rw [if_pos (by omega)]
  · rw [if_neg hf]
    have := holds_slack h ht hf
    rw [if_neg (by omega)]
theorem holds_now {s : Bu} (h : BuOk s) : holdsB s s.at_ = s.has := by
  rw [holds_min h (Int.le_refl _)]
  have := h.h2
  simp
  omega
theorem when_ok {s : Bu} (h : BuOk s) {t n T : Int} (hw : whenB s t n = (0, T)) :
    lookB s t n = 0 ∧ t ≤ T ∧ T ≤ 1099511627776 ∧ 1000 * n ≤ holdsB s T ∧ (t < T → holdsB s (T - 1) < 1000 * n) := by
  unfold whenB at hw
  by_cases hk : lookB s t n ≠ 0
  · rw [if_pos hk] at hw
    exact absurd (congrArg Prod.fst hw) hk
  · rw [if_neg hk] at hw
    have hk0 : lookB s t n = 0 := by omega
    obtain ⟨q1, q2, q3, q4, q5⟩ := lookB_ok hk0
    have q6 := h.a2
    by_cases hb : s.b < n
    · rw [if_pos hb] at hw; simp at hw
    · rw [if_neg hb] at hw
      by_cases hl : 1000 * n - holdsB s t ≤ 0
      · rw [if_pos hl] at hw
        obtain rfl : t = T := congrArg Prod.snd hw
        exact ⟨hk0, Int.le_refl _, q2, by omega, fun h9 => absurd h9 (Int.lt_irrefl _)⟩
      · rw [if_neg hl] at hw
        by_cases hr : s.r = 0
        · rw [if_pos hr] at hw; simp at hw
        · rw [if_neg hr] at hw
          have r1 := h.r1
          have hr2 : 0 < s.r := by omega
          by_cases hT : 1099511627776 < t + (1000 * n - holdsB s t + s.r - 1) / s.r
          · rw [if_pos hT] at hw; simp at hw
          · rw [if_neg hT] at hw
            obtain rfl : t + (1000 * n - holdsB s t + s.r - 1) / s.r = T := congrArg Prod.snd hw
            have e1 := holds_min h (show s.at_ ≤ t by omega)
            have e2 : holdsB s t = s.has + s.r * (t - s.at_) := by
              rw [e1]
              split
              · rename_i h9
                rw [if_pos h9] at e1
                omega
              · rfl
            obtain ⟨q, hq⟩ : ∃ q, q = (1000 * n - holdsB s t + s.r - 1) / s.r := ⟨_, rfl⟩
            have h3 := Int.mul_ediv_self_le (x := 1000 * n - holdsB s t + s.r - 1) (k := s.r) (by omega)
            have h4 := Int.lt_mul_ediv_self_add (x := 1000 * n - holdsB s t + s.r - 1) hr2
            rw [← hq] at h3 h4 hT ⊢
            have hq0 : 0 ≤ q := by rw [hq]; exact Int.ediv_nonneg (by omega) (by omega)
            have m1 : s.r * (t + q - s.at_) = s.r * (t - s.at_) + s.r * q := by rw [← Int.mul_add]; congr 1; omega
            have m2 : s.r * (t + q - 1 - s.at_) = s.r * (t - s.at_) + s.r * q - s.r := by
              have : s.r * (t + q - 1 - s.at_) = s.r * (t - s.at_) + s.r * (q - 1) := by rw [← Int.mul_add]; congr 1; omega
              have h9 : s.r * (q - 1) = s.r * q - s.r := by rw [Int.mul_sub, Int.mul_one]
              rw [this, h9]; omega
            refine ⟨hk0, by omega, by omega, ?_, fun h9 => ?_⟩
            · rw [holds_min h (by omega), m1]
              split <;> omega
            · rw [holds_min h (by omega), m2]
              split <;> omega
theorem when_err {s : Bu} {t n : Int} (h : (whenB s t n).1 ≠ 0) : (whenB s t n).2 = 0 := by
  unfold whenB at h ⊢
  by_cases hk : lookB s t n ≠ 0
  · rw [if_pos hk]
  · rw [if_neg hk] at h ⊢
    by_cases hb : s.b < n
    · rw [if_pos hb]
    · rw [if_neg hb] at h ⊢
      by_cases hl : 1000 * n - holdsB s t ≤ 0
      · rw [if_pos hl] at h; simp at h
      · rw [if_neg hl] at h ⊢
        by_cases hr : s.r = 0
        · rw [if_pos hr]
        · rw [if_neg hr] at h ⊢
          by_cases hT : 1099511627776 < t + (1000 * n - holdsB s t + s.r - 1) / s.r
          · rw [if_pos hT]
          · rw [if_neg hT] at h; simp at h
/-- Behind Take at the tick that is told. -/
theorem took_when {s : Bu} (h : BuOk s) {t n T : Int} (hw : whenB s t n = (0, T)) :
    lookB s T n = 0 ∧ lookB s T 1 = 0 ∧ (t < T → lookB s (T - 1) 1 = 0) ∧ takeB s T n = true ∧ lookB (tookB s T n) T 1 = 0 ∧ holdsB (tookB s T n) T = holdsB s T - 1000 * n ∧ hasV s T = holdsB s T ∧ (t < T → hasV s (T - 1) = holdsB s (T - 1)) ∧ hasV (tookB s T n) T = holdsB s T - 1000 * n := by
  obtain ⟨hk0, h1, h2, h3, h4⟩ := when_ok h hw
  obtain ⟨q1, q2, q3, q4, q5⟩ := lookB_ok hk0
  have l1 : lookB s T n = 0 := by unfold lookB; rw [if_neg (by omega), if_neg (by omega)]
  have l2 : lookB s T 1 = 0 := by unfold lookB; rw [if_neg (by omega), if_neg (by omega)]
  have l3 : t < T → lookB s (T - 1) 1 = 0 := fun h9 => by unfold lookB; rw [if_neg (by omega), if_neg (by omega)]
  have e : tookB s T n = ⟨s.b, s.r, T, holdsB s T - 1000 * n, T⟩ := by unfold tookB; rw [if_neg (by omega), if_neg (by omega)]
  have hok := tookB_ok h T n
  have l4 : lookB (tookB s T n) T 1 = 0 := by rw [e]; unfold lookB; simp only; rw [if_neg (by omega), if_neg (by omega)]
  have e2 : holdsB (tookB s T n) T = holdsB s T - 1000 * n := by
    have := holds_now hok
    rw [e] at this ⊢
    exact this
  exact ⟨l1, l2, l3, decide_eq_true ⟨l1, h3⟩, l4, e2, if_pos l2, fun h9 => if_pos (l3 h9), (if_pos l4).trans e2⟩
end Go.Proofs.YthgpbdlmadjndaaGreatDoor
namespace Go.Proofs.YthgpbdlmadjndaaGreatDoor
open Go.RowKit
set_option maxRecDepth 100000
theorem lineErr_ok {x : Ln} (h : lineErr x = 0) : okLn x := by
  unfold lineErr at h
  cases hb : lineB x.b x.r
  · rw [hb] at h; exact absurd h (by decide)
  · have h2 := of_decide_eq_true (show decide (1 ≤ x.b ∧ x.b ≤ 20000 ∧ 0 ≤ x.r ∧ x.r ≤ 100000) = true from hb)
    exact h2
theorem pktErr_sorted' {l : List Pk} (h : (pktErr l).1 = 0) : l.Pairwise (fun x y => x.a ≤ y.a) := by
  have key : ∀ (l : List Pk) (m : Int) (k : Nat), (pktBad l m k).1 = 0 → (∀ x ∈ l, m ≤ x.a) ∧ l.Pairwise (fun x y => x.a ≤ y.a) := fun l => by
    induction l with
    | nil => exact fun _ _ _ => ⟨by simp, List.Pairwise.nil⟩
    | cons x r ih =>
      intro m k h
      unfold pktBad at h
      split at h
      · split at h
        · simp at h
        · rename_i h2
          obtain ⟨i1, i2⟩ := ih _ _ h
          refine ⟨fun y hy => ?_, List.pairwise_cons.2 ⟨i1, i2⟩⟩
          rcases List.mem_cons.1 hy with rfl | hy
          · omega
          · have := i1 y hy; omega
      · simp at h
  unfold pktErr at h
  by_cases h1 : 300 < l.length
  · rw [if_pos h1] at h; simp at h
  · rw [if_neg h1] at h; exact (key _ _ _ h).2
/-- What holds ahead of each packet that is taken. -/
structure TakeJ (line : Ln) (p : List Pk) (k : Nat) (s : Bu) (m : Int) : Prop where
  ok : BuOk s
  b : s.b = line.b
  r : s.r = line.r
  last : s.last = m
  le : ∀ j, k ≤ j → (h : j < p.length) → m ≤ p[j].a
  m0 : 0 ≤ m
  m1 : m ≤ 1099511627776
theorem takeJ_step {line : Ln} {p : List Pk} {k : Nat} {s : Bu} {m : Int} (hp : ∀ x ∈ p, okPk x) (hs : p.Pairwise (fun x y => x.a ≤ y.a)) (h : TakeJ line p k s m) (hk : k < p.length) :
    lookB s p[k].a p[k].s = 0 ∧ TakeJ line p (k + 1) (tookB s p[k].a p[k].s) p[k].a := by
  obtain ⟨_, _, h3, h4, h5, h6⟩ := hp _ (List.getElem_mem hk)
  have hl := h.le k (Nat.le_refl _) hk
  have e : lookB s p[k].a p[k].s = 0 := by
    unfold lookB
    have := h.last
    rw [if_neg (by omega), if_neg (by omega)]
  refine ⟨e, tookB_ok h.ok _ _, (took_line s _ _).1.trans h.b, (took_line s _ _).2.trans h.r, ?_, fun j hj hjl => ?_, h5, h6⟩
  · unfold tookB
    rw [if_neg (by omega)]
    split <;> rfl
  · rcases Nat.eq_or_lt_of_le (show k ≤ j by omega) with rfl | h9
    · omega
    · exact List.pairwise_iff_getElem.1 hs k j hk hjl h9
theorem fld0 (k a : Int) (w : World) : (Instr.field 37 (.agg #[.int .i64 k, .int .i64 a]) 0).run Tryz.prog w = .ok (.int .i64 k) w := by kernel_rfl
end Go.Proofs.YthgpbdlmadjndaaGreatDoor
namespace Go.Proofs.YthgpbdlmadjndaaGreatDoor
open Go.RowKit
set_option maxRecDepth 100000
theorem below_undrew' {w w1 : World} (h : Below w.drew.heap.size w.drew w1) : Below w.heap.size w w1 := ((Below.refl _ _).drew).trans h
def fitsGo (l : List Ln) (ai : Int) : Int → List Pk → Bool
  | _, [] => true
  | n, x :: r => if valueL l (x.a - ai) < n + x.s then false else fitsGo l ai (n + x.s) r
def fitsL (l : List Ln) : List Pk → Bool
  | [] => true
  | x :: r => if fitsGo l x.a 0 (x :: r) then fitsL l r else false
def fitsErr (l : List Ln) (p : List Pk) : Nat × Int := if (pktErr p).1 ≠ 0 then pktErr p else crvErr l
def fitsV (l : List Ln) (p : List Pk) : Bool := if (fitsErr l p).1 = 0 then fitsL l p else false
end Go.Proofs.YthgpbdlmadjndaaGreatDoor
namespace Go.Proofs.YthgpbdlmadjndaaGreatDoor
def sumS : List Pk → Int
  | [] => 0
  | x :: r => x.s + sumS r
/-- So many bytes more at a tick fit behind those, window by window. -/
def winOk (l : Ln) (t n : Int) : List Pk → Prop
  | [] => True
  | x :: r => sumS (x :: r) + n ≤ lineAt l (t - x.a) ∧ winOk l t n r
theorem valueL_one (l : Ln) (t : Int) : valueL [l] t = lineAt l t := by
  show valFrom t (lineAt l t) [l] = _
  simp [valFrom]
theorem fitsGo_app (ls : List Ln) (ai : Int) (n : Int) (q : List Pk) (x : Pk) : fitsGo ls ai n (q ++ [x]) = (fitsGo ls ai n q && decide (n + sumS q + x.s ≤ valueL ls (x.a - ai))) := by
  induction q generalizing n with
  | nil =>
    show (if valueL ls (x.a - ai) < n + x.s then false else true) = _
    unfold fitsGo sumS
    by_cases h : valueL ls (x.a - ai) < n + x.s
    · rw [if_pos h, decide_eq_false (by omega)]; rfl
    · rw [if_neg h, decide_eq_true (by omega)]; rfl
  | cons y r ih =>
    rw [List.cons_append]
    unfold fitsGo
    by_cases h : valueL ls (y.a - ai) < n + y.s
    · rw [if_pos h, if_pos h]; rfl
    · rw [if_neg h, if_neg h, ih]
      have e : n + y.s + sumS r + x.s = n + sumS (y :: r) + x.s := by show _ = n + (y.s + sumS r) + x.s; omega
      rw [e]
theorem fitsL_app (l : Ln) (q : List Pk) (x : Pk) : fitsL [l] (q ++ [x]) = true ↔ fitsL [l] q = true ∧ winOk l x.a x.s q ∧ x.s ≤ l.b := by
  induction q with
  | nil =>
    show (if fitsGo [l] x.a 0 [x] then fitsL [l] [] else false) = true ↔ _
    have e : fitsGo [l] x.a 0 [x] = decide (x.s ≤ l.b) := by
      show (if valueL [l] (x.a - x.a) < 0 + x.s then false else true) = _
      rw [valueL_one]
      unfold lineAt
      rw [Int.sub_self, Int.mul_zero, Int.zero_ediv]
      by_cases h : x.s ≤ l.b
      · rw [if_neg (by omega), decide_eq_true h]
      · rw [if_pos (by omega), decide_eq_false h]
    rw [e]
    by_cases h : x.s ≤ l.b
    · rw [decide_eq_true h]; simp [fitsL, winOk, h]
    · rw [decide_eq_false h]; simp [h]
  | cons y r ih =>
    have e := fitsGo_app [l] y.a 0 (y :: r) x
    rw [List.cons_append] at e ⊢
    show (if fitsGo [l] y.a 0 (y :: (r ++ [x])) then fitsL [l] (r ++ [x]) else false) = true ↔ (if fitsGo [l] y.a 0 (y :: r) then fitsL [l] r else false) = true ∧ (sumS (y :: r) + x.s ≤ lineAt l (x.a - y.a) ∧ winOk l x.a x.s r) ∧ x.s ≤ l.b
    rw [e, valueL_one]
    by_cases h1 : fitsGo [l] y.a 0 (y :: r) = true
    · rw [h1, Bool.true_and]
      by_cases h2 : 0 + sumS (y :: r) + x.s ≤ lineAt l (x.a - y.a)
      · rw [decide_eq_true h2, if_pos rfl, if_pos rfl, ih]
        have : sumS (y :: r) + x.s ≤ lineAt l (x.a - y.a) := by omega
        simp only [this, true_and]
      · rw [decide_eq_false h2]
        have : ¬ sumS (y :: r) + x.s ≤ lineAt l (x.a - y.a) := by omega
        simp [this]
    · simp [h1]
theorem winOk_app (l : Ln) (t n : Int) (q : List Pk) (x : Pk) : winOk l t n (q ++ [x]) ↔ winOk l t (x.s + n) q ∧ x.s + n ≤ lineAt l (t - x.a) := by
  induction q with
  | nil =>
    show (x.s + 0 + n ≤ _ ∧ True) ↔ True ∧ _
    rw [show x.s + 0 + n = x.s + n by omega]
    simp
  | cons y r ih =>
    have e : sumS (y :: (r ++ [x])) + n = sumS (y :: r) + (x.s + n) := by
      have : ∀ r : List Pk, sumS (r ++ [x]) = sumS r + x.s := fun r => by
        induction r with
        | nil => show x.s + 0 = 0 + x.s; omega
        | cons z r ih => show z.s + sumS (r ++ [x]) = z.s + sumS r + x.s; rw [ih]; omega
      show y.s + sumS (r ++ [x]) + n = y.s + sumS r + (x.s + n)
      rw [this]; omega
    show (sumS (y :: (r ++ [x])) + n ≤ lineAt l (t - y.a) ∧ winOk l t n (r ++ [x])) ↔ (sumS (y :: r) + (x.s + n) ≤ lineAt l (t - y.a) ∧ winOk l t (x.s + n) r) ∧ _
    rw [e, ih, and_assoc]
theorem line_le {l : Ln} {m d : Int} : m ≤ lineAt l d ↔ 1000 * m ≤ 1000 * l.b + l.r * d := by
  unfold lineAt
  generalize l.r * d = y
  omega
/-- A bucket's state behind those that it passed. -/
def PassJ (l : Ln) (q : List Pk) (s : Bu) : Prop := s.b = l.b ∧ s.r = l.r ∧ ((q = [] ∧ s.has = 1000 * s.b) ∨ ∀ t n : Int, s.at_ ≤ t → (1000 * n ≤ s.has + s.r * (t - s.at_) ↔ winOk l t n q))
theorem pass_fits {l : Ln} {q : List Pk} {s : Bu} (hs : BuOk s) (hj : PassJ l q s) {t n : Int} (ht : s.at_ ≤ t) : 1000 * n ≤ holdsB s t ↔ winOk l t n q ∧ n ≤ l.b := by
  obtain ⟨e1, e2, hj⟩ := hj
  rw [holds_min hs ht]
  rcases hj with ⟨rfl, h1⟩ | h1
  · have m := Int.mul_nonneg hs.r1 (show 0 ≤ t - s.at_ by omega)
    generalize s.r * (t - s.at_) = y at m ⊢
    simp only [winOk, true_and]
    split <;> omega
  · rw [← h1 t n ht]
    generalize s.r * (t - s.at_) = y
    split <;> omega
theorem pass_step {l : Ln} {q : List Pk} {s : Bu} {x : Pk} (hs : BuOk s) (hj : PassJ l q s) (ht : s.at_ ≤ x.a) (hl : lookB s x.a x.s = 0) :
    PassJ l (if takeB s x.a x.s then q ++ [x] else q) (tookB s x.a x.s) := by
  have hline := took_line s x.a x.s
  unfold takeB
  by_cases hc : 1000 * x.s ≤ holdsB s x.a
  · rw [decide_eq_true ⟨hl, hc⟩, if_pos rfl]
    have e : tookB s x.a x.s = ⟨s.b, s.r, x.a, holdsB s x.a - 1000 * x.s, x.a⟩ := by unfold tookB; rw [if_neg (by omega), if_neg (by omega)]
    rw [e]
    refine ⟨hj.1, hj.2.1, .inr fun t n htt => ?_⟩
    simp only at htt ⊢
    rw [winOk_app, line_le]
    have hmin := holds_min hs ht
    obtain ⟨e1, e2, hj⟩ := hj
    rw [← e1, ← e2]
    have hd : s.r * (t - s.at_) = s.r * (x.a - s.at_) + s.r * (t - x.a) := by rw [← Int.mul_add]; congr 1; omega
    rcases hj with ⟨rfl, h1⟩ | h1
    · have m := Int.mul_nonneg hs.r1 (show 0 ≤ x.a - s.at_ by omega)
      simp only [winOk, true_and]
      rw [hmin, h1]
      generalize s.r * (x.a - s.at_) = y at m ⊢
      generalize s.r * (t - x.a) = z
      split <;> omega
    · rw [← h1 t (x.s + n) (by omega), hd, hmin]
      generalize s.r * (x.a - s.at_) = y
      generalize s.r * (t - x.a) = z
      split <;> omega
  · rw [decide_eq_false (fun h => hc h.2)]
    have e : tookB s x.a x.s = { s with last := x.a } := by unfold tookB; rw [if_neg (by omega), if_pos (by omega)]
    rw [e]
    exact hj
theorem pass_new (l : Ln) : PassJ l [] (newB l) := ⟨rfl, rfl, .inl ⟨rfl, rfl⟩⟩
/-- What is asked of the packets that passed. -/
theorem pass_tells {l : Ln} {q : List Pk} {s : Bu} {x : Pk} (hs : BuOk s) (hj : PassJ l q s) (hq : fitsL [l] q = true) (ht : s.at_ ≤ x.a) (hl : lookB s x.a x.s = 0) : fitsL [l] (q ++ [x]) = takeB s x.a x.s := by
  rw [Bool.eq_iff_iff, fitsL_app, ← pass_fits hs hj ht]
  unfold takeB
  rw [decide_eq_true_iff]
  simp [hq, hl]
end Go.Proofs.YthgpbdlmadjndaaGreatDoor
namespace Go.Proofs.YthgpbdlmadjndaaGreatDoor
open Go.RowKit
set_option maxRecDepth 100000
theorem pktBad_of {l : List Pk} {m : Int} {k : Nat} (h1 : ∀ x ∈ l, okPk x) (h2 : l.Pairwise (fun x y => x.a ≤ y.a)) (h3 : ∀ x ∈ l, m ≤ x.a) : (pktBad l m k).1 = 0 := by
  induction l generalizing m k with
  | nil => rfl
  | cons x r ih =>
    obtain ⟨p1, p2⟩ := List.pairwise_cons.1 h2
    unfold pktBad
    have := h3 x List.mem_cons_self
    rw [if_pos (h1 x List.mem_cons_self), if_neg (by omega)]
    exact ih (fun y hy => h1 y (List.mem_cons_of_mem _ hy)) p2 p1
theorem pktErr_of {l : List Pk} (h0 : l.length ≤ 300) (h1 : ∀ x ∈ l, okPk x) (h2 : l.Pairwise (fun x y => x.a ≤ y.a)) : (pktErr l).1 = 0 := by
  unfold pktErr
  rw [if_neg (by omega)]
  exact pktBad_of h1 h2 fun x hx => (h1 x hx).2.2.2.2.1
theorem pktErr_len {p : List Pk} (h : (pktErr p).1 = 0) : p.length ≤ 300 := by
  unfold pktErr at h
  by_cases h4 : 300 < p.length
  · rw [if_pos h4] at h; simp at h
  · omega
theorem pktErr_sub {p q : List Pk} (h : (pktErr p).1 = 0) (hs : q.Sublist p) : (pktErr q).1 = 0 :=
  pktErr_of (Nat.le_trans hs.length_le (pktErr_len h)) (fun x hx => pktErr_okPk h x (hs.subset hx)) ((pktErr_sorted' h).sublist hs)
theorem sub_snoc {p q : List Pk} {k : Nat} (h : q.Sublist (p.take k)) (hk : k < p.length) : (q ++ [p[k]]).Sublist (p.take (k + 1)) := by
  rw [List.take_succ_eq_append_getElem hk]
  exact h.append (List.Sublist.refl _)
theorem sub_step {p q : List Pk} {k : Nat} (h : q.Sublist (p.take k)) : q.Sublist (p.take (k + 1)) := h.trans (List.take_sublist_take_left (Nat.le_succ k))
theorem infoPkA : (Tryz.prog.info? 58).map (fun i => (i.zero, i.size, i.bytes)) = some (some (.agg #[.int .i64 0, .int .i64 0, .int .i64 0]), 3, 24) := by kernel_rfl
theorem own_only {g : Nat} {w w' : World} (h : OnlyG g w w') {base : Nat} {e : TypeId} {size n : Nat} {v : Value} {xs : List Value} (hr : w.ownsRow base e size v n xs) (hg : g < base) : w'.ownsRow base e size v n xs := by
  obtain ⟨h1, h2⟩ := hr
  refine ⟨h1, ?_⟩
  rcases h2 with h2 | ⟨g', cap, cur, hv, hg', hh, r⟩
  · exact .inl h2
  · exact .inr ⟨g', cap, cur, hv, hg', (h.blk g' (by omega)).trans hh, r⟩
theorem own_below {w w' : World} {B base : Nat} {e : TypeId} {size n : Nat} {v : Value} {xs : List Value} (hr : w.ownsRow base e size v n xs) (hb : Below B w w') (hB : w.heap.size ≤ B) : w'.ownsRow base e size v n xs := by
  obtain ⟨h1, h2⟩ := hr
  refine ⟨h1, ?_⟩
  rcases h2 with h2 | ⟨g', cap, cur, hv, hg', hh, r⟩
  · exact .inl h2
  · refine .inr ⟨g', cap, cur, hv, hg', (hb.block g' ?_).trans hh, r⟩
    have := lt_of_block hh
    omega
/-- What holds ahead of each packet. -/
structure PassR (line : Ln) (p : List Pk) (k : Nat) (s : Bu) (m : Int) (q : List Pk) : Prop where
  j : TakeJ line p k s m
  pj : PassJ line q s
  ft : fitsL [line] q = true
  sub : q.Sublist (p.take k)
theorem passR_step {line : Ln} {p : List Pk} {k : Nat} {s : Bu} {m : Int} {q : List Pk} (hp : ∀ x ∈ p, okPk x) (hs : p.Pairwise (fun x y => x.a ≤ y.a)) (h : PassR line p k s m q) (hk : k < p.length) :
    lookB s p[k].a p[k].s = 0 ∧ fitsL [line] (q ++ [p[k]]) = takeB s p[k].a p[k].s ∧ (takeB s p[k].a p[k].s = true → PassR line p (k + 1) (tookB s p[k].a p[k].s) p[k].a (q ++ [p[k]])) ∧ (takeB s p[k].a p[k].s = false → PassR line p (k + 1) (tookB s p[k].a p[k].s) p[k].a q) := by
  obtain ⟨e1, e2⟩ := takeJ_step hp hs h.j hk
  have ha : s.at_ ≤ p[k].a := by
    have := h.j.ok.a2
    have := h.j.last
    have := h.j.le k (Nat.le_refl _) hk
    omega
  have e3 := pass_tells h.j.ok h.pj h.ft ha e1
  have e4 := pass_step h.j.ok h.pj ha e1
  refine ⟨e1, e3, fun ht => ?_, fun ht => ?_⟩
  · rw [ht, if_pos rfl] at e4
    exact ⟨e2, e4, by rw [e3]; exact ht, sub_snoc h.sub hk⟩
  · rw [ht] at e4
    exact ⟨e2, e4, h.ft, sub_step h.sub⟩
theorem below_size0 {w w1 : World} (h : Below w.drew.heap.size w.drew w1) : Below w.heap.size w w1 := ((Below.refl _ _).drew).trans h
theorem below_size1 {w w1 : World} {o : Obj} (h : Below (w.alloc o).drew.heap.size (w.alloc o).drew w1) : Below (w.heap.size + 1) (w.alloc o) w1 := by
  have e1 : (w.alloc o).drew.heap.size = w.heap.size + 1 := by simp [World.drew]
  rw [e1] at h
  exact ((Below.refl _ _).drew).trans h
theorem below_size2 {w w1 : World} {o o2 : Obj} (h : Below ((w.alloc o).alloc o2).drew.heap.size ((w.alloc o).alloc o2).drew w1) : Below (w.heap.size + 2) ((w.alloc o).alloc o2) w1 := by
  have e1 : ((w.alloc o).alloc o2).drew.heap.size = w.heap.size + 2 := by simp [World.drew]
  rw [e1] at h
  exact ((Below.refl _ _).drew).trans h
theorem bel0 {w w1 : World} (h : Below w.drew.heap.size w.drew w1) : Below w.heap.size w w1 := below_size0 h
theorem bel1 {w w1 : World} {o : Obj} (h : Below (w.alloc o).drew.heap.size (w.alloc o).drew w1) : Below w.heap.size w w1 := ((Below.refl _ _).alloc (Nat.le_refl _) o).trans ((below_size1 h).mono (Nat.le_succ _))
theorem bel2 {w w1 : World} {o o2 : Obj} (h : Below ((w.alloc o).alloc o2).drew.heap.size ((w.alloc o).alloc o2).drew w1) : Below w.heap.size w w1 := (((Below.refl _ _).alloc (Nat.le_refl _) o).alloc (le_alloc (Nat.le_refl _) o) o2).trans ((below_size2 h).mono (by omega))
theorem RdP.new2_ {w : World} {o : Obj} {T : TypeId} (x : Pk) : RdP ((w.alloc o).alloc (.cells #[.int .i64 x.f, .int .i64 x.s, .int .i64 x.a] T)) (w.heap.size + 2) (some ⟨w.heap.size + 1, 0, none⟩) [x] :=
  Rd.of_block (heap_alloc_new2 _ _ _) rfl (by omega) (by omega) Pk.cs_len
theorem RdL.new2_ {w : World} {o : Obj} {T : TypeId} (x : Ln) : RdL ((w.alloc o).alloc (.cells #[.int .i64 x.b, .int .i64 x.r] T)) (w.heap.size + 2) (some ⟨w.heap.size + 1, 0, none⟩) [x] :=
  Rd.of_block (heap_alloc_new2 _ _ _) rfl (by omega) (by omega) Ln.cs_len
theorem OnlyG.bel_size {g : Nat} {w w' : World} (h : OnlyG g w w') : w.heap.size ≤ w'.heap.size := h.bel.size
theorem bel_a {w : World} (o : Obj) : Below w.heap.size w (w.alloc o) := (Below.refl _ _).alloc (Nat.le_refl _) o
theorem bel_a1 {w : World} (o o2 : Obj) : Below (w.heap.size + 1) (w.alloc o) ((w.alloc o).alloc o2) := (Below.refl _ _).alloc (by simp) o2
theorem own_lt' {w : World} {base : Nat} {e : TypeId} {size : Nat} {v : Value} {n : Nat} {xs : List Value} (h : w.ownsRow base e size v n xs) : ∀ g, v.ownBlock = some g → g < w.heap.size := by
  intro g hg
  rcases h.2 with ⟨rfl, _⟩ | ⟨g', cap, cur, rfl, _, hh, _⟩
  · simp [Value.ownBlock] at hg
  · have : g' = g := by simpa [Value.ownBlock] using hg
    subst this
    exact lt_of_block hh
theorem below_le1 {w w1 : World} {o : Obj} (h : Below (w.alloc o).drew.heap.size (w.alloc o).drew w1) : w.heap.size + 1 ≤ w1.heap.size := by
  have := (below_size1 h).size
  simpa using this
theorem rdl_of {w : World} {n : Nat} {T : TypeId} {b r : Int} (h : Blk w n T #[.int .i64 b, .int .i64 r]) : RdL w w.heap.size (some ⟨n, 0, none⟩) [⟨b, r⟩] := Rd.of_block h rfl h.lt (by omega) Ln.cs_len
theorem rdl_after {w9 cur w10 : World} {base n m size : Nat} {e T : TypeId} {v : Value} {xs : List Value} {b r : Int} (o9 : w9.ownsRow base e size v m xs) (h : Blk cur n T #[.int .i64 b, .int .i64 r]) (g : cur.grownBy w10 v.ownBlock) (hn : w9.heap.size ≤ n) : RdL w10 w10.heap.size (some ⟨n, 0, none⟩) [⟨b, r⟩] :=
  rdl_of (h.grown g fun e => Nat.lt_irrefl _ (Nat.lt_of_lt_of_le (own_lt' o9 n e.symm) hn))
theorem rdl_before {w9 cur w10 : World} {base n m size : Nat} {e T : TypeId} {v : Value} {xs : List Value} {b r : Int} (o9 : w9.ownsRow base e size v m xs) (h : Blk cur n T #[.int .i64 b, .int .i64 r]) (g : cur.grownBy w10 v.ownBlock) (hn : n < base) : RdL w10 w10.heap.size (some ⟨n, 0, none⟩) [⟨b, r⟩] :=
  rdl_of (h.grown g fun e => Nat.lt_irrefl _ (Nat.lt_of_lt_of_le hn (own_ge o9 n e.symm)))
theorem lt_size1 (w : World) (o : Obj) : w.heap.size < (w.alloc o).drew.heap.size := by simp [World.drew]
theorem lt_size2 (w : World) (o o2 : Obj) : w.heap.size < ((w.alloc o).alloc o2).drew.heap.size := by simp [World.drew]; omega
theorem lt_size2' (w : World) (o o2 : Obj) : w.heap.size + 1 < ((w.alloc o).alloc o2).drew.heap.size := by simp [World.drew]
end Go.Proofs.YthgpbdlmadjndaaGreatDoor
