/- floodgatelaw3: audited returns true; fitPackets. Condition: the nine sentinels lie in their variables, apart. -/
import Derived.Test.YthgpbdlmadjndaaDoorAudC
import Derived.Test.YthgpbdlmadjndaaDoorAudD
import Derived.Test.YthgpbdlmadjndaaDoorCoded3
import Derived.Test.YthgpbdlmadjndaaDoorPkRefB
namespace Go.Proofs.YthgpbdlmadjndaaDoor
open Go.RowKit
set_option maxRecDepth 100000
set_option maxHeartbeats 1000000 in
theorem audited_any (S : Nat → Addr) (w : World) (hS : All9 w w.heap.size S) :
    Calls Tryd.prog 18 #[] w fun e w' => e = .returned (.bool true) ∧ Below w.heap.size w w' := by
  have H1 := Lib.hid (show audErr [⟨0, 3, 5⟩] 2 [⟨0, 5, 11⟩] = (0, -1) by decide)
  have H2 := Lib.hid (show audErr [⟨0, 3, 5⟩] 2 [⟨0, 6, 12⟩] = (7, 0) by decide)
  obtain ⟨W0, hW0⟩ : ∃ W0 : World, W0 = w.alloc (.cells #[.int .i64 0, .int .i64 3, .int .i64 5] 42) := ⟨_, rfl⟩
  have k0 : Below w.heap.size w W0 := by rw [hW0]; exact (Below.refl _ _).alloc (Nat.le_refl _) _
  have s0 : W0.heap.size = w.heap.size + 1 := by rw [hW0]; simp
  have rp : RdP W0 W0.heap.size (some ⟨w.heap.size, 0, none⟩) [⟨0, 3, 5⟩] := by rw [s0, hW0]; exact RdP.new_ ⟨0, 3, 5⟩
  have HW0 := Lib.hid hW0
  clear hW0
  go_enter Tryd.func18, Tryd.ntmps18
  go_wp2_with fail
  rw [← HW0.out]
  obtain ⟨W1, hW1⟩ : ∃ W1 : World, W1 = W0.alloc (.cells #[.int .i64 0, .int .i64 5, .int .i64 11] 44) := ⟨_, rfl⟩
  have k1 : Below W0.heap.size W0 W1 := by rw [hW1]; exact (Below.refl _ _).alloc (Nat.le_refl _) _
  have s1 : W1.heap.size = W0.heap.size + 1 := by rw [hW1]; simp
  have rs : RdS W1 W1.heap.size (some ⟨w.heap.size + 1, 0, none⟩) [⟨0, 5, 11⟩] := by rw [s1, hW1, ← s0]; exact RdS.new_ ⟨0, 5, 11⟩
  have k1' := k0.trans (k1.mono k0.size)
  rw [← hW1]
  clear hW1
  refine (audCheck_any (some ⟨w.heap.size, 0, none⟩) (some ⟨w.heap.size + 1, 0, none⟩) 1 1 [⟨0, 3, 5⟩] 2 [⟨0, 5, 11⟩] S W1 _ (Nat.le_refl _) ((rp.below k1).more k1.size) rs (((hS.s.below k1').more k1'.size).sub (by simp)) (by simp) (by simp) (by simp [tame50])).mono ?_
  rintro e w2 ⟨v, rfl, hv, k2⟩
  obtain rfl := hv.nil_of (by rw [H1.out])
  have k2' := k1'.trans (k2.mono k1'.size)
  go_wp2_with fail
  obtain ⟨W3, hW3⟩ : ∃ W3 : World, W3 = w2.alloc (.cells #[.int .i64 0, .int .i64 6, .int .i64 12] 44) := ⟨_, rfl⟩
  have k3 : Below w2.heap.size w2 W3 := by rw [hW3]; exact (Below.refl _ _).alloc (Nat.le_refl _) _
  have s3 : W3.heap.size = w2.heap.size + 1 := by rw [hW3]; simp
  have rs3 : RdS W3 W3.heap.size (some ⟨w2.heap.size, 0, none⟩) [⟨0, 6, 12⟩] := by rw [s3, hW3]; exact RdS.new_ ⟨0, 6, 12⟩
  have k3' := k2'.trans (k3.mono k2'.size)
  rw [← hW3]
  clear hW3
  refine (audCheck_any (some ⟨w.heap.size, 0, none⟩) (some ⟨w2.heap.size, 0, none⟩) 1 1 [⟨0, 3, 5⟩] 2 [⟨0, 6, 12⟩] S W3 _ (Nat.le_refl _) ((rp.below (k1.trans ((k2.trans (k3.mono k2.size)).mono k1.size))).more (Nat.le_trans k1.size (Nat.le_trans k2.size k3.size))) rs3 (((hS.s.below k3').more k3'.size).sub (by simp)) (by simp) (by simp) (by simp [tame50])).mono ?_
  rintro e w4 ⟨v, rfl, hv4, k4⟩
  have k4' := k3'.trans (k4.mono k3'.size)
  have hv5 : Er w4 w4.heap.size S v 7 0 := by rw [H2.out] at hv4; exact hv4
  clear hv hv4
  go_wp2_with fail
  have hfa := faulted2_any v 7 0 0 S w4 w4.heap.size (Nat.le_refl _) ((hS.below k4').more k4'.size) hv5 (.inr rfl)
  rw [show ((7 : Nat) : Int) = 7 from rfl] at hfa
  refine hfa.mono ?_
  rintro e w5 ⟨rfl, k5⟩
  go_wp2_with fail
  go_ret
  exact ⟨rfl, k4'.trans (k5.mono k4'.size)⟩
theorem fit_any (A : Option Addr) (c : Nat) (n most : Nat) (w : World) (hn : n ≤ 9223372036854775807) :
    Calls Tryd.prog 19 #[.slice A n c, .int .i64 most] w fun e w' => e = .returned (.bool (fitB n most)) ∧ w = w' := by
  by_cases h : n ≤ most
  · go_enter Tryd.func19, Tryd.ntmps19
    go_wp2
    go_ret
    exact ⟨ret_bool (by symm; exact decide_eq_true (.inl h)), rfl⟩
  · have h1 : most < n := by omega
    by_cases h2 : n = 301
    · subst h2
      go_enter Tryd.func19, Tryd.ntmps19
      go_wp2
      go_ret
      exact ⟨ret_bool (by symm; exact decide_eq_true (.inr rfl)), rfl⟩
    · have h3 : ((n : Int) == 301) = false := by rw [beq_eq_false_iff_ne]; omega
      have Hf := Lib.hid (show fitB n most = false from decide_eq_false (by omega))
      clear h2 h
      go_enter Tryd.func19, Tryd.ntmps19
      go_wp2
      go_ret
      exact ⟨ret_bool (by rw [Hf.out]; first | rfl | (simp; omega)), rfl⟩
end Go.Proofs.YthgpbdlmadjndaaDoor
