/- Package curve: the order of tidy's sort. No condition. -/
import Derived.Test.YteeaipehkhldhaaDoorMost
import Derived.Test.YteeaipehkhldhaaDoorTdyS
import Derived.Test.YteeaipehkhldhaaDoorBlk
import Derived.Deep.RegionHeld3
import Derived.Deep.CutRange
namespace Go.Proofs.YteeaipehkhldhaaDoor
open Go.RowKit
set_option maxRecDepth 100000
def cmpI (a b : Int) : Int := if a < b then -1 else if b < a then 1 else 0
theorem isNaN_any (a : Int) (w : World) : Calls Tryd.prog 93 #[.int .i64 a] w fun e w' => e = .returned (.bool false) ∧ w' = w := by
  have h1 : (a != a) = false := by simp
  go_enter Tryd.func93, Tryd.ntmps93
  go_wp2_with fail
  go_ret
  exact ⟨by first | rfl | simp, rfl⟩
theorem compare_any (a b : Int) (w : World) : Calls Tryd.prog 87 #[.int .i64 a, .int .i64 b] w fun e w' => e = .returned (.int .i64 (cmpI a b)) ∧ w' = w := by
  by_cases h1 : a < b
  · have E := Lib.hid (show cmpI a b = -1 from if_pos h1)
    go_enter Tryd.func87, Tryd.ntmps87
    go_wp2_with fail
    refine (isNaN_any a w).mono ?_
    rintro e w1 ⟨rfl, hw1⟩
    obtain rfl : w = w1 := hw1.symm
    clear hw1
    go_wp2_with fail
    refine (isNaN_any b w).mono ?_
    rintro e w1 ⟨rfl, hw1⟩
    obtain rfl : w = w1 := hw1.symm
    clear hw1
    go_wp2_with fail
    go_ret
    exact ⟨by rw [E.out]; rfl, rfl⟩
  · by_cases h2 : b < a
    · have E := Lib.hid (show cmpI a b = 1 from (if_neg h1).trans (if_pos h2))
      go_enter Tryd.func87, Tryd.ntmps87
      go_wp2_with fail
      refine (isNaN_any a w).mono ?_
      rintro e w1 ⟨rfl, hw1⟩
      obtain rfl : w = w1 := hw1.symm
      clear hw1
      go_wp2_with fail
      refine (isNaN_any b w).mono ?_
      rintro e w1 ⟨rfl, hw1⟩
      obtain rfl : w = w1 := hw1.symm
      clear hw1
      go_wp2_with fail
      go_ret
      exact ⟨by rw [E.out]; rfl, rfl⟩
    · have E := Lib.hid (show cmpI a b = 0 from (if_neg h1).trans (if_neg h2))
      go_enter Tryd.func87, Tryd.ntmps87
      go_wp2_with fail
      refine (isNaN_any a w).mono ?_
      rintro e w1 ⟨rfl, hw1⟩
      obtain rfl : w = w1 := hw1.symm
      clear hw1
      go_wp2_with fail
      refine (isNaN_any b w).mono ?_
      rintro e w1 ⟨rfl, hw1⟩
      obtain rfl : w = w1 := hw1.symm
      clear hw1
      go_wp2_with fail
      go_ret
      exact ⟨by rw [E.out]; rfl, rfl⟩
def orI (m n : Int) : Int := if m = 0 then n else m
theorem or2_any (g : Nat) (m n : Int) (w : World) (h0 : w.cell? ⟨g, 0, none⟩ = some (.int .i64 m)) (h1 : w.cell? ⟨g, 1, none⟩ = some (.int .i64 n)) :
    Calls Tryd.prog 86 #[.slice (some ⟨g, 0, none⟩) 2 2] w fun e w' => e = .returned (.int .i64 (orI m n)) ∧ w' = w := by
  go_enter Tryd.func86, Tryd.ntmps86
  go_wp2_with fail
  go_loopw [8] (fun iv wr => ∃ k : Nat, k ≤ 2 ∧ iv = .int .i64 k ∧ (1 ≤ k → m = 0) ∧ (2 ≤ k → n = 0) ∧ wr = w) (fun iv _ => 2 - (intOf iv).toNat)
  case atStart => exact ⟨0, by omega, rfl, fun h => by omega, fun h => by omega, rfl⟩
  case round =>
    obtain ⟨k, hk, rfl, hm, hn, hwr⟩ := hrel
    obtain rfl : w = wr := hwr.symm
    have HM := Lib.hid hm
    have HN := Lib.hid hn
    clear hwr hm hn
    match k, hk with
    | 0, _ =>
      by_cases hm0 : m = 0
      · have E := Lib.hid hm0
        subst hm0
        go_wp2_with fail
        go_roundw
        case rel => exact ⟨1, by omega, rfl, by first | exact fun _ => rfl | simp, fun h => (by omega), by first | rfl | trivial⟩
        case measure => simp [intOf]
      · have hb : (m != 0) = true := by simp [hm0]
        have E := Lib.hid (show orI m n = m from if_neg hm0)
        clear hm0
        go_wp2_with fail
        go_ret
        exact ⟨by rw [E.out]; rfl, rfl⟩
    | 1, _ =>
      by_cases hn0 : n = 0
      · subst hn0
        go_wp2_with fail
        go_roundw
        case rel => exact ⟨2, by omega, rfl, fun _ => HM.out (by omega), by first | exact fun _ => rfl | simp, by first | rfl | trivial⟩
        case measure => simp [intOf]
      · have hb : (n != 0) = true := by simp [hn0]
        have E := Lib.hid (show orI m n = n from if_pos (HM.out (by omega)))
        clear hn0
        go_wp2_with fail
        go_ret
        exact ⟨by rw [E.out]; rfl, rfl⟩
    | 2, _ =>
      have E := Lib.hid (show orI m n = 0 by unfold orI; rw [if_pos (HM.out (by omega)), HN.out (by omega)])
      go_wp2_with fail
      go_ret
      exact ⟨by rw [E.out]; rfl, rfl⟩
def cmpL (x y : Ln) : Int := orI (cmpI x.b y.b) (cmpI x.r y.r)
theorem cmpL_lt (x y : Ln) : cmpL x y < 0 ↔ x.b < y.b ∨ (x.b = y.b ∧ x.r < y.r) := by
  unfold cmpL orI cmpI
  split <;> split <;> omega
set_option maxHeartbeats 2000000 in
theorem tdy1_any (x y : Ln) (w : World) :
    Calls Tryd.prog 85 #[.agg #[.int .i64 x.b, .int .i64 x.r], .agg #[.int .i64 y.b, .int .i64 y.r]] w fun e w' => e = .returned (.int .i64 (cmpL x y)) ∧ Grew w w' := by
  go_enter Tryd.func85, Tryd.ntmps85
  go_upto_region 1 with fail
  obtain ⟨V, hV⟩ : ∃ V : World, V = (w.alloc (.cells #[.int .i64 x.b, .int .i64 x.r] 24)).alloc (.cells #[.int .i64 y.b, .int .i64 y.r] 24) := ⟨_, rfl⟩
  have gV : Grew w V := by rw [hV]; exact (Grew.alloc _ _).trans (Grew.alloc _ _)
  have bx : Blk V w.heap.size 24 #[.int .i64 x.b, .int .i64 x.r] := by rw [hV]; exact (Blk.new _ _ _).alloc _
  have by_ : Blk V (w.heap.size + 1) 24 #[.int .i64 y.b, .int .i64 y.r] := by
    have := Blk.new (w.alloc (.cells #[.int .i64 x.b, .int .i64 x.r] 24)) 24 #[.int .i64 y.b, .int .i64 y.r]
    rw [show (w.alloc (.cells #[.int .i64 x.b, .int .i64 x.r] 24)).heap.size = w.heap.size + 1 by simp] at this
    rw [hV]
    exact this
  obtain ⟨gx, hgx⟩ : ∃ gx, gx = w.heap.size := ⟨_, rfl⟩
  rw [← hV, ← hgx]
  rw [← hgx] at bx by_
  have x0 : V.cell? ⟨gx, 0, none⟩ = some (.int .i64 x.b) := bx.cell 0
  have x1 : V.cell? ⟨gx, 1, none⟩ = some (.int .i64 x.r) := bx.cell 1
  have y0 : V.cell? ⟨gx + 1, 0, none⟩ = some (.int .i64 y.b) := by_.cell 0
  have y1 : V.cell? ⟨gx + 1, 1, none⟩ = some (.int .i64 y.r) := by_.cell 1
  have bo : Blk (V.alloc (.cells #[.int .i64 (cmpI x.b y.b), .int .i64 (cmpI x.r y.r)] 3)).drew V.heap.size 3 #[.int .i64 (cmpI x.b y.b), .int .i64 (cmpI x.r y.r)] := Blk.new V _ _
  have OC := Lib.hid (or2_any V.heap.size (cmpI x.b y.b) (cmpI x.r y.r) (V.alloc (.cells #[.int .i64 (cmpI x.b y.b), .int .i64 (cmpI x.r y.r)] 3)).drew (bo.cell 0) (bo.cell 1))
  clear hV hgx bx by_ bo
  go_region_held3 (fun w' => w'.cell? ⟨gx, 0, none⟩ = some (.int .i64 x.b) ∧ w'.cell? ⟨gx, 1, none⟩ = some (.int .i64 x.r) ∧ w'.cell? ⟨gx + 1, 0, none⟩ = some (.int .i64 y.b) ∧ w'.cell? ⟨gx + 1, 1, none⟩ = some (.int .i64 y.r))
    (first | go_keep)
    (first
      | (go_at_call 87; refine (compare_any _ _ _).mono ?_; rintro e w6 ⟨rfl, rfl⟩)
      | (go_at_call 86; refine OC.out.mono ?_; rintro e w7 ⟨rfl, rfl⟩))
  all_goals
    go_wp2_with fail
    go_ret
    exact ⟨rfl, gV.trans ((Grew.alloc _ _).trans (Grew.drewN _ 1))⟩
end Go.Proofs.YteeaipehkhldhaaDoor
