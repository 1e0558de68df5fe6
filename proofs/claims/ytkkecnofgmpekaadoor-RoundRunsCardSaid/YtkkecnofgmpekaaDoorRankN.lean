/- Package rank's numbers of flows: eight, each within bounds. Condition: the sentinels that it names lie in their variables. -/
import Derived.Test.YtkkecnofgmpekaaDoorPk
import Derived.Test.YtkkecnofgmpekaaDoorBlk
import Derived.Test.YtkkecnofgmpekaaDoorSameI
namespace Go.Proofs.YtkkecnofgmpekaaDoor
open Go.RowKit
set_option maxRecDepth 100000
def outB (most n : Int) : Bool := decide (n < 0 ∨ most < n)
theorem rnum1_any (n most : Int) (b : Nat) (w : World) (h : Blk w b 3 #[.int .i64 most]) :
    Calls Tryd.prog 70 #[.int .i64 n, .pointer (some ⟨b, 0, none⟩)] w fun e w' => e = .returned (.bool (outB most n)) ∧ w = w' := by
  have c0 : w.cell? ⟨b, 0, none⟩ = some (.int .i64 most) := h.cell 0
  by_cases h0 : n < 0
  · go_enter Tryd.func70, Tryd.ntmps70
    go_wp2
    go_ret
    exact ⟨ret_bool (by symm; exact decide_eq_true (.inl h0)), rfl⟩
  · have h1 : 0 ≤ n := by omega
    have He := Lib.hid (show outB most n = decide (most < n) from decide_eq_decide.2 (by omega))
    clear h0
    go_enter Tryd.func70, Tryd.ntmps70
    go_wp2
    go_ret
    exact ⟨ret_bool (by rw [He.out]; first | rfl | (simp; omega)), rfl⟩
/-- The place of the first number out of bounds; -1: none. -/
def outIdx (most : Int) : List Int → Nat → Int
  | [], _ => -1
  | n :: r, k => if outB most n then k else outIdx most r (k + 1)
theorem outIdx_ge (most : Int) (l : List Int) (k : Nat) : outIdx most l k = -1 ∨ (k : Int) ≤ outIdx most l k := by
  induction l generalizing k with
  | nil => exact .inl rfl
  | cons n r ih =>
    unfold outIdx
    split
    · exact .inr (Int.le_refl _)
    · rcases ih (k + 1) with h | h
      · exact .inl h
      · exact .inr (by omega)
theorem iidx_any (A : Option Addr) (c : Nat) (l : List Int) (most : Int) (b : Nat) (w : World) (B : Nat) (h : RdI w B A l) (hl : l.length ≤ 9223372036854775807) (hb : Blk w b 3 #[.int .i64 most]) :
    Calls Tryd.prog 85 #[.slice A l.length c, .func (.func 70) #[] #[.pointer (some ⟨b, 0, none⟩)]] w fun e w' => e = .returned (.int .i64 (outIdx most l 0)) ∧ w = w' := by
  have HB := Lib.hid hb
  clear hb
  go_enter Tryd.func85, Tryd.ntmps85
  go_wp2
  go_loopw [5, 8] (fun _ i wr => ∃ k : Nat, k ≤ l.length ∧ i = .int .i64 k ∧ outIdx most l 0 = outIdx most (l.drop k) k ∧ w = wr) (fun _ i _ => l.length - (intOf i).toNat)
  case atStart => exact ⟨0, Nat.zero_le _, rfl, rfl, rfl⟩
  case round =>
    obtain ⟨k, hk, rfl, hbad, rfl⟩ := hrel
    by_cases hlt : k < l.length
    · obtain ⟨q, o, rfl, hq, h0⟩ := RdI.get h hlt
      rw [List.drop_eq_getElem_cons hlt] at hbad
      have Hbad := Lib.hid hbad
      clear hbad
      go_wp2_with fail
      refine (rnum1_any _ most b _ HB.out).mono ?_
      rintro e w1 ⟨rfl, rfl⟩
      cases hx : outB most l[k]
      · have Hx := Lib.hid hx; clear hx
        go_wp2_with fail
        go_roundw
        case rel => exact ⟨k + 1, by omega, by go_num, by rw [Hbad.out]; simp [outIdx, Hx.out], by trivial⟩
        case measure => simp [intOf]; omega
      · have Hx := Lib.hid hx; clear hx
        go_wp2_with fail
        go_ret
        exact ⟨ret_int (by rw [Hbad.out]; simp [outIdx, Hx.out]), rfl⟩
    · rw [List.drop_eq_nil_of_le (by omega)] at hbad
      have Hbad := Lib.hid hbad
      clear hbad
      go_wp2_with fail
      go_ret
      exact ⟨ret_int (by rw [Hbad.out]; rfl), rfl⟩
theorem icontains_any (A : Option Addr) (c : Nat) (l : List Int) (most : Int) (b : Nat) (w : World) (B : Nat) (h : RdI w B A l) (hl : l.length ≤ 9223372036854775807) (hb : Blk w b 3 #[.int .i64 most]) :
    Calls Tryd.prog 69 #[.slice A l.length c, .func (.func 70) #[] #[.pointer (some ⟨b, 0, none⟩)]] w fun e w' => e = .returned (.bool (decide (0 ≤ outIdx most l 0))) ∧ w = w' := by
  go_enter Tryd.func69, Tryd.ntmps69
  go_wp2_with fail
  refine (iidx_any A c l most b w B h hl hb).mono ?_
  rintro e w1 ⟨rfl, rfl⟩
  go_wp2_with fail
  go_ret
  exact ⟨rfl, rfl⟩
/-- The number of the error of flows' numbers. -/
def numErr (l : List Int) (most : Int) : Nat := if l.length = 8 then (if 0 ≤ outIdx most l 0 then 2 else 0) else 3
theorem rnumbers_any (A : Option Addr) (c : Nat) (l : List Int) (most : Int) (S : Nat → Addr) (w : World) (B : Nat) (hB : B ≤ w.heap.size) (h : RdI w B A l) (hS : Snt w B S [2, 3]) (hl : l.length ≤ 9223372036854775807) :
    Calls Tryd.prog 55 #[.slice A l.length c, .int .i64 most] w (EndEr S (numErr l most) (-1) w) := by
  have ba := ((Below.refl w.heap.size w).alloc (Nat.le_refl _) (.cells #[.int .i64 most] 3))
  have g2 : (w.alloc (.cells #[.int .i64 most] 3)).cell? ⟨G 2, 0, none⟩ = some (sv S 2) := ((hS.below (ba.mono hB)) 2 (by simp)).2.2
  have g3 : (w.alloc (.cells #[.int .i64 most] 3)).cell? ⟨G 3, 0, none⟩ = some (sv S 3) := ((hS.below (ba.mono hB)) 3 (by simp)).2.2
  have l2 := (hS 2 (by simp)).1
  have l3 := (hS 3 (by simp)).1
  simp only [G, sv] at g2 g3 l2 l3
  by_cases h8 : l.length = 8
  · have hb1 : ((l.length : Int) != 8) = false := by rw [h8]; rfl
    by_cases ho : 0 ≤ outIdx most l 0
    · have Hf := Lib.hid (show numErr l most = 2 by unfold numErr; rw [if_pos h8, if_pos ho])
      have Ho := Lib.hid (show decide (0 ≤ outIdx most l 0) = true from decide_eq_true ho)
      clear h8 ho
      go_enter Tryd.func55, Tryd.ntmps55
      go_wp2_with fail
      refine (icontains_any A c l most w.heap.size _ B (h.below (ba.mono hB)) hl (Blk.new _ _ _)).mono ?_
      rintro e w1 ⟨rfl, rfl⟩
      rw [Ho.out]
      go_wp2_with fail
      go_ret
      rw [Hf.out]
      exact ⟨_, rfl, .bare 2 (by omega) (by omega), ba⟩
    · have Hf := Lib.hid (show numErr l most = 0 by unfold numErr; rw [if_pos h8, if_neg ho])
      have Ho := Lib.hid (show decide (0 ≤ outIdx most l 0) = false from decide_eq_false ho)
      clear h8 ho
      go_enter Tryd.func55, Tryd.ntmps55
      go_wp2_with fail
      refine (icontains_any A c l most w.heap.size _ B (h.below (ba.mono hB)) hl (Blk.new _ _ _)).mono ?_
      rintro e w1 ⟨rfl, rfl⟩
      rw [Ho.out]
      go_wp2_with fail
      go_ret
      rw [Hf.out]
      exact ⟨_, rfl, .nil, ba⟩
  · have hb1 : ((l.length : Int) != 8) = true := by simp; omega
    have Hf := Lib.hid (show numErr l most = 3 from if_neg h8)
    clear h8
    go_enter Tryd.func55, Tryd.ntmps55
    go_wp2_with fail
    go_ret
    rw [Hf.out]
    exact ⟨_, rfl, .bare 3 (by omega) (by omega), ba⟩
end Go.Proofs.YtkkecnofgmpekaaDoor
