/- slices.Clone of packets. Condition: the list fits memory. -/
import Derived.Test.YteeaipehkhldhaaDoorPasses
import Derived.Laws.OwnMore
namespace Go.Proofs.YteeaipehkhldhaaDoor
open Go.RowKit
set_option maxRecDepth 100000
set_option maxHeartbeats 400000 in
theorem clonePk_any (A : Option Addr) (c : Nat) (l : List Pk) (w : World) (B : Nat) (hB : B ≤ w.heap.size) (h : RdP w B A l) (hl : l.length ≤ 4294967296) :
    Calls Tryd.prog 65 #[.slice A l.length c] w (EndOwn Pk.cs 3 59 l w) := by
  obtain ⟨i0, hi0, hz0, hz1, hz2⟩ := info_parts infoPkA
  have r1 := @Lib.run_eql_slice_nil Tryd.prog
  cases A with
  | none =>
    obtain rfl : l = [] := by
      rcases l with _ | ⟨x, r⟩
      · rfl
      · obtain ⟨b, o, h9, _⟩ := h (by simp)
        cases h9
    go_enter Tryd.func65, Tryd.ntmps65
    go_wp2_with fail
    go_ret
    exact ⟨none, 0, rfl, ⟨by simp, .inl ⟨rfl, rfl⟩⟩, Below.refl _ _⟩
  | some ad =>
    have hown : (w.alloc (.cells #[] 59)).ownsRow w.heap.size 59 3 (.slice (some ⟨w.heap.size, 0, none⟩) 0 0) 0 [] := World.ownsRow_made w #[] 0 (Nat.le_refl _) (Nat.zero_le _) rfl
    have kb : Below w.heap.size w (w.alloc (.cells #[] 59)) := (Below.refl _ _).alloc (Nat.le_refl _) _
    go_enter Tryd.func65, Tryd.ntmps65
    go_wp2_with (at_builtin; refine wpList_append_rd _ Pk.cs rfl (.tmp 5) (.tmp 6) 51 rfl w.heap.size 59 i0 _ 3 24 Tryd.underlying51 hi0 hz0 hz1 hz2 rfl (by omega) Pk.cs_len Pk.cs_one (.slice (some ⟨w.heap.size, 0, none⟩) 0 0) 0 [] rfl hown B (some ad) c l rfl (h.below (kb.mono hB)) (by simp only [maxLen]; omega) (by omega) (le_alloc (Nat.le_refl _) _) ?_; intro v1 w1 hown1 hg1 hat1; simp only [Nat.zero_add, List.nil_append] at hown1; obtain ⟨A1, c1, rfl⟩ := own_slice hown1 (by omega))
    go_ret
    exact ⟨A1, c1, rfl, hown1, below_app kb hown hg1 (Nat.le_refl _) (le_alloc (Nat.le_refl _) _)⟩
end Go.Proofs.YteeaipehkhldhaaDoor
