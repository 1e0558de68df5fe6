/- slices.Concat of two slices of lines: new memory that reads as both, one behind the other. Conditions: where they lie; few lines. -/
import Derived.Test.YteeaipehkhldhaaDoorMem
import Derived.Test.YteeaipehkhldhaaDoorOwnL
import Derived.Test.YteeaipehkhldhaaDoorShelf
namespace Go.Proofs.YteeaipehkhldhaaDoor
open Go.RowKit
set_option maxRecDepth 100000
theorem grow0 (n : Nat) (w : World) (hn : n ≤ 1000) :
    Calls Tryd.prog 82 #[.slice none 0 0, .int .i64 (n : Int)] w (EndOwn Ln.cs 2 24 [] w) := by
  obtain ⟨i0, hi0, hz0, hz1, hz2⟩ := info_parts infoLn
  by_cases h0 : n = 0
  · subst h0
    refine (Any8.slices_Grow_room Tryd.growL none 0 0 0 w (by omega) (by omega) (by omega) (by omega)).mono ?_
    rintro e w' ⟨rfl, rfl⟩
    exact ⟨none, 0, rfl, ⟨by simp, .inl ⟨rfl, rfl⟩⟩, Below.refl _ _⟩
  · refine (Any8.slices_Grow_grow Tryd.growL i0 (.agg #[.int .i64 0, .int .i64 0]) hi0 hz0 (by rw [hz1]; omega) none 0 0 n [] w (by omega) (by omega) (by rw [hz2]; omega) (by omega) (by simp) (fun _ => rfl) (fun a h => by cases h)).mono ?_
    rintro e w' ⟨rfl, rfl⟩
    have hge := grownCap_ge w (0 + n) 0 24
    refine ⟨some ⟨w.heap.size, 0, none⟩, _, rfl, ⟨by simp, .inr ⟨w.heap.size, _, _, rfl, Nat.le_refl _, heap_alloc_new _ _, Nat.zero_le _, ?_, ?_⟩⟩, ((Below.refl _ _).drew).alloc (Nat.le_refl _) _⟩
    · exact grownCap_le_maxLen w (0 + n) 0 24 (by simp only [maxLen]; omega)
    · refine ⟨?_, by simp⟩
      have e2 : (Value.agg #[Value.int IntKind.i64 0, Value.int IntKind.i64 0]).cells.size = 2 := rfl
      show _ = grownCap w (0 + n) 0 24 * 2
      rw [Array.size_append, Array.size_append, size_zeroCells, size_zeroCells, e2]
      show 0 + _ + (grownCap w (0 + n) 0 24 - (0 + n)) * 2 = _
      omega
theorem cat_take (a b : List Ln) (i : Nat) (hi : i < 2) : ([a, b].take (i + 1)).flatten = ([a, b].take i).flatten ++ ([a, b][i]'(by simpa using hi)) := by
  match i, hi with
  | 0, _ => simp
  | 1, _ => simp
set_option maxHeartbeats 4000000 in
theorem concat_any (A A' : Option Addr) (c c' g : Nat) (a b : List Ln) (w : World) (hg : g < w.heap.size) (h0 : w.cell? ⟨g, 0, none⟩ = some (.slice A a.length c)) (h1 : w.cell? ⟨g, 1, none⟩ = some (.slice A' b.length c')) (ha : RdL w w.heap.size A a) (hb : RdL w w.heap.size A' b) (hla : a.length ≤ 100) (hlb : b.length ≤ 100) :
    Calls Tryd.prog 71 #[.slice (some ⟨g, 0, none⟩) 2 2] w (EndOwn Ln.cs 2 24 (a ++ b) w) := by
  obtain ⟨i0, hi0, hz0, hz1, hz2⟩ := info_parts infoLn
  have HA := Lib.hid ha
  have HB := Lib.hid hb
  clear ha hb
  go_enter Tryd.func71, Tryd.ntmps71
  go_wp2_with fail
  go_loopw [3, 11] (fun sv iv wr => ∃ (i n : Nat), i ≤ 2 ∧ iv = .int .i64 i ∧ sv = .int .i64 n ∧ n = (if i = 0 then 0 else if i = 1 then a.length else a.length + b.length) ∧ wr = w) (fun _ i _ => 2 - (intOf i).toNat)
  case atStart => exact ⟨0, 0, by omega, rfl, rfl, rfl, rfl⟩
  case round =>
    obtain ⟨i, n, hi, rfl, rfl, hn, hwr⟩ := hrel
    obtain rfl : w = wr := hwr.symm
    clear hwr
    have HN := Lib.hid hn
    clear hn
    match i, hi with
    | 0, _ =>
      have hn : n = 0 := HN.out
      subst hn
      go_wp2_with fail
      go_roundw
      case rel => exact ⟨1, a.length, by omega, rfl, by go_num, by first | rfl | trivial, by first | rfl | trivial⟩
      case measure => simp [intOf]
    | 1, _ =>
      have hn : n ≤ 100 := by have := HN.out; simp at this; omega
      have HN1 := Lib.hid (show n = a.length from HN.out)
      go_wp2_with fail
      go_roundw
      case rel => exact ⟨2, n + b.length, by omega, rfl, by go_num, by rw [HN1.out]; first | rfl | trivial, by first | rfl | trivial⟩
      case measure => simp [intOf]
    | 2, _ =>
      have hn : n ≤ 1000 := by have := HN.out; simp at this; omega
      go_wp2_with fail
      refine (grow0 n w hn).mono ?_
      rintro e w1 ⟨A1, c1, rfl, o1, k1⟩
      have O1 := Lib.hid o1
      have K1 := Lib.hid k1
      clear o1 k1
      go_wp2_with fail
      go_loopw [6, 27] (fun ov iv wr => ∃ (i : Nat) (acc : List Ln) (A2 : Option Addr) (c2 : Nat), i ≤ 2 ∧ iv = .int .i64 i ∧ ov = .slice A2 acc.length c2 ∧ acc = ([a, b].take i).flatten ∧ acc.length ≤ 200 ∧ wr.ownsRow w.heap.size 24 2 (.slice A2 acc.length c2) acc.length (acc.flatMap Ln.cs) ∧ Below w.heap.size w wr) (fun _ i _ => 2 - (intOf i).toNat)
      case atStart => exact ⟨0, [], A1, c1, by omega, rfl, rfl, rfl, by simp, O1.out, K1.out⟩
      case round =>
        obtain ⟨i, acc, A2, c2, hi, rfl, rfl, hacc, hal, row, hbw⟩ := hrel
        have zw := hbw.size
        have ROW := Lib.hid row
        have HACC := Lib.hid hacc
        have HBW := Lib.hid hbw
        have x0 : wr.cell? ⟨g, 0, none⟩ = some (.slice A a.length c) := (hbw.cell (p := ⟨g, 0, none⟩) hg).trans h0
        have x1 : wr.cell? ⟨g, 1, none⟩ = some (.slice A' b.length c') := (hbw.cell (p := ⟨g, 1, none⟩) hg).trans h1
        have a1 := HA.out.below hbw
        have b1 := HB.out.below hbw
        clear row hacc hbw
        match i, hi with
        | 0, _ =>
          have e0 : acc = [] := HACC.out
          subst e0
          go_wp2_with (at_builtin; refine wpList_append_rd _ Ln.cs rfl (.tmp 31) (.tmp 32) _ rfl w.heap.size 24 i0 _ 2 16 Tryd.underlying22 hi0 hz0 hz1 hz2 rfl (by omega) Ln.cs_len Ln.cs_one (.slice A2 0 c2) 0 [] rfl ROW.out w.heap.size A c a rfl a1 (by simp only [maxLen]; omega) (by omega) zw ?_; intro v3 w3 row3 g3 at3; simp only [Nat.zero_add, List.nil_append] at row3; obtain ⟨A3, c3, rfl⟩ := own_slice row3 (by omega); have k3 := below_app HBW.out ROW.out g3 (Nat.le_refl _) zw)
          go_roundw
          case rel => exact ⟨1, a, A3, c3, by omega, rfl, rfl, by simp, by omega, row3, k3⟩
          case measure => simp [intOf]
        | 1, _ =>
          have e0 : acc = a := by rw [HACC.out]; simp
          subst e0
          go_wp2_with (at_builtin; refine wpList_append_rd _ Ln.cs rfl (.tmp 31) (.tmp 32) _ rfl w.heap.size 24 i0 _ 2 16 Tryd.underlying22 hi0 hz0 hz1 hz2 rfl (by omega) Ln.cs_len Ln.cs_one (.slice A2 acc.length c2) acc.length (acc.flatMap Ln.cs) rfl ROW.out w.heap.size A' c' b rfl b1 (by simp only [maxLen]; omega) (by omega) zw ?_; intro v3 w3 row3 g3 at3; obtain ⟨A3, c3, hv3, row3⟩ := own_app row3 (by omega); have k3 := below_app HBW.out ROW.out g3 (Nat.le_refl _) zw)
          go_roundw
          case rel => exact ⟨2, acc ++ b, A3, c3, by omega, rfl, by rw [List.length_append], by simp, by rw [List.length_append]; omega, row3, k3⟩
          case measure => simp [intOf]
        | 2, _ =>
          have e0 : acc = a ++ b := by rw [HACC.out]; simp
          subst e0
          go_wp2_with fail
          go_ret
          exact ⟨A2, c2, rfl, ROW.out, HBW.out⟩
end Go.Proofs.YteeaipehkhldhaaDoor
