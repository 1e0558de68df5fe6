/- floodgatelaw2's coded and faulted; floodgateref1's CurveFault, Fine, Bare, AtOf. Conditions written at each. -/
import Derived.Test.YthgpbdlmadjndaaGreatDoorIsM
namespace Go.Proofs.YthgpbdlmadjndaaGreatDoor
open Go.RowKit
set_option maxRecDepth 100000

theorem coded2_any (v : Value) (k : Nat) (a : Int) (S : Nat → Addr) (w : World) (B : Nat) (hB : B ≤ w.heap.size) (h : All9 w B S) (hv : Er w B S v k a) (ha : a = -1) :
    Calls Tryz.prog 20 #[v, .int .i64 k] w fun e w' => e = .returned (.bool true) ∧ Below w.heap.size w w' := by
  subst ha
  go_enter Tryz.func20, Tryz.ntmps20
  go_wp2_with fail
  refine (code_any v k (-1) S _ B hB h hv).mono ?_
  rintro e w1 ⟨rfl, k1⟩
  go_wp2_with fail
  go_ret
  exact ⟨by first | rfl | simp, k1⟩

theorem faulted2_any (v : Value) (k : Nat) (a a' : Int) (S : Nat → Addr) (w : World) (B : Nat) (hB : B ≤ w.heap.size) (h : All9 w B S) (hv : Er w B S v k a) (ha : k = 0 ∨ a = a') :
    Calls Tryz.prog 9 #[v, .agg #[.int .i64 k, .int .i64 a']] w fun e w' => e = .returned (.bool true) ∧ Below w.heap.size w w' := by
  have hb0 := h.below (((Below.refl w.heap.size w).alloc (Nat.le_refl _) (.cells #[.int .i64 k, .int .i64 a'] 37)).mono hB)
  have hv0 := hv.below (((Below.refl w.heap.size w).alloc (Nat.le_refl _) (.cells #[.int .i64 k, .int .i64 a'] 37)).mono hB)
  rcases ha with h0 | h0
  · subst h0
    go_enter Tryz.func9, Tryz.ntmps9
    go_wp2_with fail
    refine (code_any v _ a S _ B (le_alloc hB _) hb0 hv0).mono ?_
    rintro e w1 ⟨rfl, k1⟩
    have d0 := new_blk k1
    have c0 := cell_blk d0 0
    have c1 := cell_blk d0 1
    simp only [List.getElem?_toArray, List.getElem?_cons_zero, List.getElem?_cons_succ] at c0 c1
    clear d0
    go_wp2_with fail
    go_ret
    exact ⟨by first | rfl | simp, ((Below.refl _ _).alloc (Nat.le_refl _) _).trans (k1.mono (by simp))⟩
  · subst h0
    go_enter Tryz.func9, Tryz.ntmps9
    go_wp2_with fail
    refine (code_any v _ a S _ B (le_alloc hB _) hb0 hv0).mono ?_
    rintro e w1 ⟨rfl, k1⟩
    have d0 := new_blk k1
    have c0 := cell_blk d0 0
    have c1 := cell_blk d0 1
    simp only [List.getElem?_toArray, List.getElem?_cons_zero, List.getElem?_cons_succ] at c0 c1
    clear d0
    go_wp2_with fail
    all_goals (go_ret; exact ⟨by first | rfl | simp, ((Below.refl _ _).alloc (Nat.le_refl _) _).trans (k1.mono (by simp))⟩)
end Go.Proofs.YthgpbdlmadjndaaGreatDoor
