/- The law RankDues returns true, whatever its arguments, and changes nothing that was there: all cases. Condition: the sentinels lie in their variables. -/
import Derived.Test.YtkkecnofgmpekaaDoorDues
namespace Go.Proofs.YtkkecnofgmpekaaDoor
open Go.RowKit
set_option maxRecDepth 100000
set_option maxHeartbeats 400000 in
theorem dues_early (A A' A'' : Option Addr) (c c' c'' : Nat) (p : List Pk) (per : Int) (dues order : List Int) (S : Nat → Addr) (w : World) (hS : Snt w w.heap.size S [2, 3, 4, 5]) (hl : p.length ≤ 9223372036854775807) (hl' : dues.length ≤ 9223372036854775807) (hl'' : order.length ≤ 9223372036854775807) (hfit : 60 < p.length ∨ (p.length ≤ 60 ∧ 30 < dues.length) ∨ (p.length ≤ 60 ∧ dues.length ≤ 30 ∧ 100 < order.length)) :
    Calls Tryd.prog 6 #[.slice A p.length c, .int .i64 per, .slice A' dues.length c', .slice A'' order.length c''] w fun e w' => e = .returned (.bool true) ∧ Below w.heap.size w w' := by
  rcases hfit with q1 | ⟨q1, q2⟩ | ⟨q1, q2, q3⟩
  all_goals
    go_enter Tryd.func6, Tryd.ntmps6
    go_wp2_with fail
    refine (sends_any S w _ (Nat.le_refl _) (hS.sub (by simp))).mono ?_
    rintro e w1 ⟨rfl, k1⟩
    go_wp2_with fail
    go_ret
    exact ⟨rfl, k1⟩
set_option maxHeartbeats 1000000 in
theorem dues_bad (A A' A'' : Option Addr) (c c' c'' : Nat) (p : List Pk) (per : Int) (dues order : List Int) (S : Nat → Addr) (w : World) (h : RdP w w.heap.size A p) (h' : RdI w w.heap.size A' dues) (hS : Snt w w.heap.size S [2, 3, 4, 5]) (h60 : p.length ≤ 60) (h30 : dues.length ≤ 30) (h100 : order.length ≤ 100) (hok : (rankErr p per dues 1099511627776).1 ≠ 0) :
    Calls Tryd.prog 6 #[.slice A p.length c, .int .i64 per, .slice A' dues.length c', .slice A'' order.length c''] w fun e w' => e = .returned (.bool true) ∧ Below w.heap.size w w' := by
  have hl : p.length ≤ 9223372036854775807 := by omega
  have Hok := Lib.hid hok
  obtain ⟨i0, hi0, hz0, hz1, hz2⟩ := info_parts infoInt
  clear hok
  go_enter Tryd.func6, Tryd.ntmps6
  go_wp2_with fail
  refine (sends_any S w _ (Nat.le_refl _) (hS.sub (by simp))).mono ?_
  rintro e w1 ⟨rfl, k1⟩
  go_wp2_with fail
  refine (ownPackets_any A c p w1 _ (h.below k1) (by omega)).mono ?_
  rintro e w2 ⟨A1, c1, rfl, o1, k2⟩
  have r1 := RdP.of_own o1
  have k2' := k1.trans (k2.mono k1.size)
  go_wp2_with (at_builtin; refine wpList_append_rd _ iCs rfl (.tmp 46) (.tmp 47) 35 rfl w2.heap.size 3 i0 (.int .i64 0) 1 8 Tryd.underlying35 hi0 hz0 hz1 hz2 rfl (by omega) iCs_len iCs_one (.slice none 0 0) 0 [] rfl ⟨by simp, .inl ⟨rfl, rfl⟩⟩ w.heap.size A' c' dues rfl (h'.below k2') (by simp only [maxLen]; omega) (by omega) (Nat.le_refl _) ?_; intro v3 w3 row3 g3 at3; simp only [Nat.zero_add, List.nil_append] at row3; obtain ⟨A3, c3, rfl⟩ := own_slice row3 (by omega); have k3 : Below w2.heap.size w2 w3 := (Below.refl _ _).grown g3 (Nat.le_refl _) (by simp [Value.ownBlock]))
  have k3' := k2'.trans (k3.mono k2'.size)
  have hri : RdI w3 w3.heap.size A3 dues := Rd.of_own row3 (by omega) iCs_len
  refine (rankDue_bad A1 A3 c1 c3 p per dues S w3 _ (Nat.le_refl _) ((r1.below k3).more k3.size) hri (((hS.below k3').more k3'.size).sub (by simp)) hl (by omega) Hok.out).mono ?_
  rintro e w4 ⟨A4, c4, v, rfl, o4, hv, k4⟩
  obtain ⟨T, a, rfl⟩ := hv.some_of Hok.out
  have k4' := k3'.trans (k4.mono k3'.size)
  go_wp2_with fail
  go_ret
  exact ⟨rfl, k4'⟩
theorem dues_any (A : Option Addr) (c : Nat) (p : List Pk) (per : Int) (A' : Option Addr) (c' : Nat) (dues : List Int) (A'' : Option Addr) (c'' : Nat) (order : List Int) (S : Nat → Addr) (w : World) (h : RdP w w.heap.size A p) (h' : RdI w w.heap.size A' dues) (h'' : RdI w w.heap.size A'' order) (hS : Snt w w.heap.size S [2, 3, 4, 5]) (hl : p.length ≤ 9223372036854775807) (hl' : dues.length ≤ 9223372036854775807) (hl'' : order.length ≤ 9223372036854775807) :
    Calls Tryd.prog 6 #[.slice A p.length c, .int .i64 per, .slice A' dues.length c', .slice A'' order.length c''] w fun e w' => e = .returned (.bool true) ∧ Below w.heap.size w w' := by
  by_cases h60 : p.length ≤ 60
  · by_cases h30 : dues.length ≤ 30
    · by_cases h100 : order.length ≤ 100
      · by_cases hok : (rankErr p per dues 1099511627776).1 = 0
        · exact dues_main A A' A'' c c' c'' p per dues order S w h h' h'' hS h60 h30 h100 hok
        · exact dues_bad A A' A'' c c' c'' p per dues order S w h h' hS h60 h30 h100 hok
      · exact dues_early A A' A'' c c' c'' p per dues order S w hS hl hl' hl'' (.inr (.inr ⟨h60, h30, by omega⟩))
    · exact dues_early A A' A'' c c' c'' p per dues order S w hS hl hl' hl'' (.inr (.inl ⟨h60, by omega⟩))
  · exact dues_early A A' A'' c c' c'' p per dues order S w hS hl hl' hl'' (.inl (by omega))
end Go.Proofs.YtkkecnofgmpekaaDoor
