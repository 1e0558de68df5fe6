/- floodgatelaw1.OwnLines hands back new memory that reads as what came in. Condition: the list fits memory. -/
import Derived.Test.YteeaipehkhldhaaDoorProg
import Derived.Test.YteeaipehkhldhaaDoorMem
import Derived.WalkKit
import Derived.WalkLawsBesides
import Derived.WalkSpells
namespace Go.Proofs.YteeaipehkhldhaaDoor
open Go.RowKit
set_option maxRecDepth 100000
theorem infoLn : (Tryd.prog.info? 24).map (fun i => (i.zero, i.size, i.bytes)) = some (some (.agg #[.int .i64 0, .int .i64 0]), 2, 16) := by kernel_rfl

theorem ownLines_any (A : Option Addr) (c : Nat) (l : List Ln) (w : World) (B : Nat) (h : RdL w B A l) (hl : l.length ≤ 4294967296) :
    Calls Tryd.prog 18 #[.slice A l.length c] w (EndOwn Ln.cs 2 24 l w) := by
  obtain ⟨i0, hi0, hz0, hz1, hz2⟩ := info_parts infoLn
  go_enter Tryd.func18, Tryd.ntmps18
  go_wp2_with (at_builtin; refine wpList_append_rd _ Ln.cs rfl (.tmp 4) (.tmp 5) _ rfl w.heap.size 24 i0 _ 2 16 Tryd.underlying22 hi0 hz0 hz1 hz2 rfl (by omega) Ln.cs_len Ln.cs_one (.slice none 0 0) 0 [] rfl ⟨by simp, .inl ⟨rfl, rfl⟩⟩ B A c l rfl h (by simp only [maxLen]; omega) (by omega) (Nat.le_refl _) ?_; intro v1 w1 hown1 hg1 hat1; simp only [Nat.zero_add, List.nil_append] at hown1; obtain ⟨A1, c1, rfl⟩ := own_slice hown1 (by omega))
  go_ret
  exact ⟨A1, c1, rfl, hown1, (Below.refl _ _).grown hg1 (Nat.le_refl _) (by simp [Value.ownBlock])⟩
end Go.Proofs.YteeaipehkhldhaaDoor
