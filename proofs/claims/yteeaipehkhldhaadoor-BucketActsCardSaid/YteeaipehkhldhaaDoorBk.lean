/- Package bucket: a bucket in memory; holds, look, Take, When, Has compute what a plain function says. Conditions: the bucket is right; the sentinels that are named lie in their variables. -/
import Derived.Test.YteeaipehkhldhaaDoorCv1
import Derived.Test.YteeaipehkhldhaaDoorBlk
namespace Go.Proofs.YteeaipehkhldhaaDoor
open Go.RowKit
set_option maxRecDepth 100000
/-- A bucket: its line, the tick and what it had then, the last tick that was asked. -/
structure Bu where
  b : Int
  r : Int
  at_ : Int
  has : Int
  last : Int
def Bu.cells (s : Bu) : Array Value := #[.int .i64 s.b, .int .i64 s.r, .int .i64 s.at_, .int .i64 s.has, .int .i64 s.last]
structure BuOk (s : Bu) : Prop where
  b1 : 1 ≤ s.b
  b2 : s.b ≤ 20000
  r1 : 0 ≤ s.r
  r2 : s.r ≤ 100000
  h1 : 0 ≤ s.has
  h2 : s.has ≤ 1000 * s.b
  a1 : 0 ≤ s.at_
  a2 : s.at_ ≤ s.last
  l2 : s.last ≤ 1099511627776
def holdsB (s : Bu) (t : Int) : Int := if 0 < s.r ∧ (1000 * s.b - s.has) / s.r < t - s.at_ then 1000 * s.b else s.has + s.r * (t - s.at_)
def lookB (s : Bu) (t n : Int) : Nat := if t < 0 ∨ 1099511627776 < t ∨ n < 1 ∨ 1500 < n then 2 else if t < s.last then 5 else 0
theorem lookB_ok {s : Bu} {t n : Int} (h : lookB s t n = 0) : 0 ≤ t ∧ t ≤ 1099511627776 ∧ 1 ≤ n ∧ n ≤ 1500 ∧ s.last ≤ t := by
  unfold lookB at h
  split at h
  · omega
  · split at h
    · omega
    · omega
theorem holds_slack {s : Bu} (h : BuOk s) {t : Int} (ht : s.at_ ≤ t) (hn : ¬ (0 < s.r ∧ (1000 * s.b - s.has) / s.r < t - s.at_)) : 0 ≤ s.r * (t - s.at_) ∧ s.r * (t - s.at_) ≤ 1000 * s.b - s.has := by
  refine ⟨Int.mul_nonneg h.r1 (by omega), ?_⟩
  have := h.r1
  have := h.h2
  by_cases h0 : 0 < s.r
  · have h1 : t - s.at_ ≤ (1000 * s.b - s.has) / s.r := by
      refine Int.not_lt.1 fun h9 => hn ⟨h0, h9⟩
    have h2 := Int.mul_le_mul_of_nonneg_left h1 (Int.le_of_lt h0)
    have h3 := Int.mul_ediv_self_le (x := 1000 * s.b - s.has) (k := s.r) (by omega)
    omega
  · have : s.r = 0 := by omega
    rw [this]
    omega
theorem holds_range {s : Bu} (h : BuOk s) {t : Int} (ht : s.at_ ≤ t) : s.has ≤ holdsB s t ∧ holdsB s t ≤ 1000 * s.b := by
  unfold holdsB
  have := h.h2
  split
  · exact ⟨by omega, Int.le_refl _⟩
  · rename_i hn
    have := holds_slack h ht hn
    omega
theorem holds_any (g : Nat) (s : Bu) (t : Int) (w : World) (h : Blk w g 106 s.cells) (hs : BuOk s) (ht : s.at_ ≤ t) (ht2 : t ≤ 1099511627776) :
    Calls Tryd.prog 64 #[.pointer (some ⟨g, 0, none⟩), .int .i64 t] w fun e w' => e = .returned (.int .i64 (holdsB s t)) ∧ ∃ m, w' = w.drewN m := by
  obtain ⟨b, r, a, hh, la⟩ := s
  have c0 : w.cell? ⟨g, 0, none⟩ = some (.int .i64 b) := h.cell 0
  have c1 : w.cell? ⟨g, 1, none⟩ = some (.int .i64 r) := h.cell 1
  have c2 : w.cell? ⟨g, 2, none⟩ = some (.int .i64 a) := h.cell 2
  have c3 : w.cell? ⟨g, 3, none⟩ = some (.int .i64 hh) := h.cell 3
  have hsl := holds_slack hs ht
  obtain ⟨b1, b2, r1, r2, h1, h2, a1, a2, l2⟩ := hs
  simp only at b1 b2 r1 r2 h1 h2 a1 a2 l2 hsl ht
  clear h
  by_cases hr : 0 < r
  · have q0 : 0 ≤ (1000 * b - hh) / r := Int.ediv_nonneg (by omega) (by omega)
    have q1 : (1000 * b - hh) / r ≤ 1000 * b - hh := Int.ediv_le_self _ (by omega)
    by_cases hf : (1000 * b - hh) / r < t - a
    · have Hv := Lib.hid (show holdsB ⟨b, r, a, hh, la⟩ t = 1000 * b from if_pos ⟨hr, hf⟩)
      clear hsl
      go_enter Tryd.func64, Tryd.ntmps64
      go_wp2_with fail
      go_quiet (fail)
      go_wp2_with fail
      go_ret
      exact ⟨ret_int Hv.out.symm, _, rfl⟩
    · have Hv := Lib.hid (show holdsB ⟨b, r, a, hh, la⟩ t = hh + r * (t - a) from if_neg (fun h9 => hf h9.2))
      obtain ⟨m1, m2⟩ := hsl (fun h9 => hf h9.2)
      have hf2 : t - a ≤ (1000 * b - hh) / r := by omega
      clear hsl hf
      go_enter Tryd.func64, Tryd.ntmps64
      go_wp2_with fail
      go_quiet (fail)
      go_wp2_with fail
      go_quiet (fail)
      go_wp2_with fail
      go_ret
      exact ⟨ret_int Hv.out.symm, _, by first | rfl | exact World.drewN_drewN _ _ _⟩
  · obtain rfl : r = 0 := by omega
    have Hv := Lib.hid (show holdsB ⟨b, 0, a, hh, la⟩ t = hh from (if_neg (fun h9 => hr h9.1)).trans (by simp))
    clear hsl hr
    go_enter Tryd.func64, Tryd.ntmps64
    go_wp2_with fail
    go_quiet (fail)
    go_wp2_with fail
    go_quiet (fail)
    go_wp2_with fail
    go_ret
    exact ⟨by rw [Hv.out]; rfl, _, by first | rfl | exact World.drewN_drewN _ _ _⟩
theorem blook_any (g : Nat) (s : Bu) (t n : Int) (S : Nat → Addr) (w : World) (B : Nat) (hS : Snt w B S [2, 5]) (h : Blk w g 106 s.cells) :
    Calls Tryd.prog 63 #[.pointer (some ⟨g, 0, none⟩), .int .i64 t, .int .i64 n] w fun e w' => ∃ v, e = .returned v ∧ Er w w.heap.size S v (lookB s t n) (-1) ∧ w = w' := by
  have c4 : w.cell? ⟨g, 4, none⟩ = some (.int .i64 s.last) := h.cell 4
  have g2 : w.cell? ⟨G 2, 0, none⟩ = some (sv S 2) := (hS 2 (by simp)).2.2
  have g5 : w.cell? ⟨G 5, 0, none⟩ = some (sv S 5) := (hS 5 (by simp)).2.2
  simp only [G, sv] at g2 g5
  by_cases hb : t < 0 ∨ 1099511627776 < t ∨ n < 1 ∨ 1500 < n
  · have Hf := Lib.hid (show lookB s t n = 2 from if_pos hb)
    have hb2 : t < 0 ∨ (0 ≤ t ∧ 1099511627776 < t) ∨ (0 ≤ t ∧ t ≤ 1099511627776 ∧ n < 1) ∨ (0 ≤ t ∧ t ≤ 1099511627776 ∧ 1 ≤ n ∧ 1500 < n) := by omega
    clear hb
    rcases hb2 with h1 | ⟨h1, h2⟩ | ⟨h1, h2, h3⟩ | ⟨h1, h2, h3, h4⟩
    all_goals
      go_enter Tryd.func63, Tryd.ntmps63
      go_wp2_with fail
      go_ret
      rw [Hf.out]
      exact ⟨_, rfl, .bare 2 (by omega) (by omega), rfl⟩
  · have h1 : 0 ≤ t := by omega
    have h2 : t ≤ 1099511627776 := by omega
    have h3 : 1 ≤ n := by omega
    have h4 : n ≤ 1500 := by omega
    by_cases hl : t < s.last
    · have Hf := Lib.hid (show lookB s t n = 5 from (if_neg hb).trans (if_pos hl))
      clear hb
      go_enter Tryd.func63, Tryd.ntmps63
      go_wp2_with fail
      go_ret
      rw [Hf.out]
      exact ⟨_, rfl, .bare 5 (by omega) (by omega), rfl⟩
    · have Hf := Lib.hid (show lookB s t n = 0 from (if_neg hb).trans (if_neg hl))
      have h5 : s.last ≤ t := by omega
      clear hb hl
      go_enter Tryd.func63, Tryd.ntmps63
      go_wp2_with fail
      go_ret
      rw [Hf.out]
      exact ⟨_, rfl, .nil, rfl⟩
end Go.Proofs.YteeaipehkhldhaaDoor
