/- The law Names returns true. Condition: the nine sentinels lie in their variables, apart; errors.errorType holds the type error. -/
import Derived.Test.YteeaipehkhldhaaDoorCoded1
import Derived.Test.YteeaipehkhldhaaDoorSameI
namespace Go.Proofs.YteeaipehkhldhaaDoor
open Go.RowKit
set_option maxRecDepth 100000
theorem new_any (s : ByteArray) (w : World) : Calls Tryd.prog 22 #[.string s] w fun e w' => e = .returned (.iface 98 (.pointer (some ⟨w.heap.size, 0, none⟩))) ∧ w.alloc (.cells #[.string s] 100) = w' := by
  go_enter Tryd.func22, Tryd.ntmps22
  go_wp2
  go_ret
  exact ⟨rfl, rfl⟩
def namesL : List Int := [8, 300, 1500, 1099511627776, 20000, 100000, 6, 1000, 3000, 100, 16, 12]
set_option maxHeartbeats 2000000 in
theorem names_any (S : Nat → Addr) (w : World) (B : Nat) (hB : B ≤ w.heap.size) (h : All9 w B S) :
    Calls Tryd.prog 4 #[] w fun e w' => e = .returned (.bool true) ∧ Below w.heap.size w w' := by
  have hcells : ∀ (b9 : Nat) (w9 : World), Blk w9 b9 28 #[sv S 1, sv S 2, sv S 3, sv S 4, sv S 5, sv S 6, sv S 7, sv S 8, sv S 9] → ∀ i, i < 9 → w9.cell? ⟨b9, i, none⟩ = some (sv S (i + 1)) := fun b9 w9 h9 i hi => by
    have := h9.cell i
    rw [this]
    have : i = 0 ∨ i = 1 ∨ i = 2 ∨ i = 3 ∨ i = 4 ∨ i = 5 ∨ i = 6 ∨ i = 7 ∨ i = 8 := by omega
    rcases this with rfl | rfl | rfl | rfl | rfl | rfl | rfl | rfl | rfl <;> rfl
  have HC := Lib.hid hcells
  clear hcells
  go_enter Tryd.func4, Tryd.ntmps4
  go_wp2_with fail
  refine (sameI_any (some ⟨w.heap.size, 0, none⟩) (some ⟨w.heap.size + 1, 0, none⟩) 12 12 namesL namesL _ (w.heap.size + 2) (Rd.of_block ((Blk.new _ _ _).alloc _) rfl (by omega) (by omega) (fun _ => rfl)) (Rd.of_block (heap_alloc_new2 _ _ _) rfl (by omega) (by omega) (fun _ => rfl)) (by decide) (by decide)).mono ?_
  rintro e w1 ⟨rfl, n1, hw1⟩
  have k1 : Below w.heap.size w w1 := hw1 ▸ below_drewN (((Below.refl _ w).alloc (Nat.le_refl _) _).alloc (by simp) _) n1
  clear hw1
  rw [show decide (namesL = namesL) = true from decide_eq_true rfl]
  have h1 := h.below (k1.mono hB)
  have g1 : w1.cell? ⟨G 1, 0, none⟩ = some (sv S 1) := (h1.s 1 (by simp)).2.2
  have g2 : w1.cell? ⟨G 2, 0, none⟩ = some (sv S 2) := (h1.s 2 (by simp)).2.2
  have g3 : w1.cell? ⟨G 3, 0, none⟩ = some (sv S 3) := (h1.s 3 (by simp)).2.2
  have g4 : w1.cell? ⟨G 4, 0, none⟩ = some (sv S 4) := (h1.s 4 (by simp)).2.2
  have g5 : w1.cell? ⟨G 5, 0, none⟩ = some (sv S 5) := (h1.s 5 (by simp)).2.2
  have g6 : w1.cell? ⟨G 6, 0, none⟩ = some (sv S 6) := (h1.s 6 (by simp)).2.2
  have g7 : w1.cell? ⟨G 7, 0, none⟩ = some (sv S 7) := (h1.s 7 (by simp)).2.2
  have g8 : w1.cell? ⟨G 8, 0, none⟩ = some (sv S 8) := (h1.s 8 (by simp)).2.2
  have g9 : w1.cell? ⟨G 9, 0, none⟩ = some (sv S 9) := (h1.s 9 (by simp)).2.2
  simp only [G, sv] at g1 g2 g3 g4 g5 g6 g7 g8 g9
  go_wp2_with fail
  go_loopw [4] (fun ix wr => ∃ n : Nat, ix = .int .i64 n ∧ n ≤ 9 ∧ Blk wr w1.heap.size 28 #[sv S 1, sv S 2, sv S 3, sv S 4, sv S 5, sv S 6, sv S 7, sv S 8, sv S 9] ∧ Below w.heap.size w wr) (fun ix _ => 9 - (intOf ix).toNat)
  case atStart => exact ⟨0, rfl, by omega, Blk.new _ _ _, k1.alloc k1.size _⟩
  case round =>
    obtain ⟨n, rfl, hn9, b9, bw⟩ := hrel
    have B9 := Lib.hid b9
    have BW := Lib.hid bw
    clear b9 bw g1 g2 g3 g4 g5 g6 g7 g8 g9
    by_cases hlt : n < 9
    · have cn := HC.out _ _ B9.out n hlt
      have zlt := B9.out.lt
      have zw := BW.out.size
      simp only [sv] at cn
      go_wp2_with fail
      refine (code_any _ (n + 1) 7 S _ (wr.heap.size + 1) (by simp) ((h.below ((BW.out.alloc zw _).mono hB)).more (by omega)) (.fault (n + 1) (by omega) (by omega) wr.heap.size 7 (by omega) (heap_alloc_new _ _))).mono ?_
      rintro e w2 ⟨rfl, k2⟩
      have bw2 := (BW.out.alloc zw _).trans (k2.mono (by simp; omega))
      have B92 := Lib.hid (((B9.out.alloc _).below k2 (by simp; omega)))
      have cn2 := HC.out _ _ B92.out n hlt
      simp only [sv] at cn2
      go_wp2_with fail
      refine (coded_any (sv S (n + 1)) (n + 1) (-1) S w2 B (Nat.le_trans hB bw2.size) (h.below (bw2.mono hB)) (.bare (n + 1) (by omega) (by omega)) rfl).mono ?_
      rintro e w3 ⟨rfl, k3⟩
      go_wp2_with fail
      go_roundw
      case rel => exact ⟨n + 1, by go_num, by omega, B92.out.below k3 B92.out.lt, bw2.trans (k3.mono bw2.size)⟩
      case measure => simp [intOf]; omega
    · have zw := BW.out.size
      go_wp2_with fail
      refine (new_any _ _).mono ?_
      rintro e w2 ⟨rfl, rfl⟩
      have ha : All9 (wr.alloc (.cells #[.string ⟨#[97, 110, 111, 116, 104, 101, 114, 32, 111, 110, 101]⟩] 100)) B S := h.below ((BW.out.alloc zw _).mono hB)
      have Hne := Lib.hid (show ∀ j, 1 ≤ j → j ≤ 9 → (⟨wr.heap.size, 0, none⟩ : Addr) ≠ S j from fun j j1 j9 e => by
        have := (h.s j (by simp; omega)).2.1
        rw [← e] at this
        simp only at this
        omega)
      go_wp2_with fail
      refine (code_miss ⟨wr.heap.size, 0, none⟩ 10 S _ B (le_alloc (Nat.le_trans hB zw) _) ha (by omega) (by omega) (isAll_else ha (le_alloc (Nat.le_trans hB zw) _) (heap_alloc_new _ _) Hne.out)).mono ?_
      rintro e w3 ⟨rfl, k3⟩
      have bw3 := (BW.out.alloc zw _).trans (k3.mono (le_alloc zw _))
      rw [show codeNum 10 = -1 from rfl]
      go_wp2_with fail
      refine (coded_any .nilIface 0 (-1) S w3 B (Nat.le_trans hB bw3.size) (h.below (bw3.mono hB)) .nil rfl).mono ?_
      rintro e w4 ⟨rfl, k4⟩
      go_wp2_with fail
      go_ret
      exact ⟨rfl, bw3.trans (k4.mono bw3.size)⟩
end Go.Proofs.YteeaipehkhldhaaDoor
