/- Package curve: the closure of Delay. Conditions: what its boxes hold; right lines. -/
import Derived.Test.YteeaipehkhldhaaDoorMost
import Derived.Deep.RegionHeld3
namespace Go.Proofs.YteeaipehkhldhaaDoor
open Go.RowKit
set_option maxRecDepth 100000
/-- Four boxes: the steep lines, per, top, the flat ones. -/
structure Box4 (w : World) (g7 g3 g9 g8 : Nat) (A7 : Option Addr) (c7 : Nat) (st : List Ln) (per top : Int) (A8 : Option Addr) (c8 : Nat) (fl : List Ln) : Prop where
  x7 : w.cell? ⟨g7, 0, none⟩ = some (.slice A7 st.length c7)
  x3 : w.cell? ⟨g3, 0, none⟩ = some (.int .i64 per)
  x9 : w.cell? ⟨g9, 0, none⟩ = some (.int .i64 top)
  x8 : w.cell? ⟨g8, 0, none⟩ = some (.slice A8 fl.length c8)
  lt : g7 < w.heap.size ∧ g3 < w.heap.size ∧ g9 < w.heap.size ∧ g8 < w.heap.size
  r7 : RdL w w.heap.size A7 st
  r8 : RdL w w.heap.size A8 fl
theorem Box4.below {w w' : World} {g7 g3 g9 g8 : Nat} {A7 : Option Addr} {c7 : Nat} {st : List Ln} {per top : Int} {A8 : Option Addr} {c8 : Nat} {fl : List Ln} (h : Box4 w g7 g3 g9 g8 A7 c7 st per top A8 c8 fl) (hb : Below w.heap.size w w') : Box4 w' g7 g3 g9 g8 A7 c7 st per top A8 c8 fl := by
  obtain ⟨l1, l2, l3, l4⟩ := h.lt
  have hs := hb.size
  exact ⟨(hb.cell (p := ⟨g7, 0, none⟩) l1).trans h.x7, (hb.cell (p := ⟨g3, 0, none⟩) l2).trans h.x3, (hb.cell (p := ⟨g9, 0, none⟩) l3).trans h.x9, (hb.cell (p := ⟨g8, 0, none⟩) l4).trans h.x8, ⟨by omega, by omega, by omega, by omega⟩, (h.r7.below hb).more hs, (h.r8.below hb).more hs⟩
set_option maxHeartbeats 4000000 in
theorem dly1_any (g7 g3 g9 g8 : Nat) (A7 : Option Addr) (c7 : Nat) (st : List Ln) (per top : Int) (A8 : Option Addr) (c8 : Nat) (fl : List Ln) (i : Nat) (w : World) (h : Box4 w g7 g3 g9 g8 A7 c7 st per top A8 c8 fl) (hst : st.length ≤ 100) (hfl : fl.length ≤ 100) (hk7 : ∀ x ∈ st, okLn x ∧ 0 < x.r) (hk8 : ∀ x ∈ fl, okLn x ∧ 0 < x.r) (p0 : 1 ≤ per) (p1 : per ≤ 1000) (t0 : 0 ≤ top) (t1 : top + i ≤ 35184372088832) :
    Calls Tryd.prog 69 #[.int .i64 (i : Int), .pointer (some ⟨g7, 0, none⟩), .pointer (some ⟨g3, 0, none⟩), .pointer (some ⟨g9, 0, none⟩), .pointer (some ⟨g8, 0, none⟩)] w fun e w' => e = .returned (.bool (decide (mostL fl per (top + i) ≤ mostL st per (top + i)))) ∧ Grew w w' := by
  have hw : IntKind.i64.wrap (top + (i : Int)) = top + i := by rw [IntKind.wrap_i64]; omega
  have MS := Lib.hid (show ∀ W, Grew w W → Calls Tryd.prog 70 #[.slice A7 st.length c7, .int .i64 per, .int .i64 (IntKind.i64.wrap (top + (i : Int)))] W fun e w' => e = .returned (.int .i64 (mostL st per (top + i))) ∧ Grew w w' from fun W hg => by
    have hb := hg.below (Nat.le_refl _)
    rw [hw]
    exact (most_any A7 c7 st per (top + i) W w.heap.size hb.size (h.r7.below hb) (by omega) hk7 p0 p1 (by omega) t1).mono fun e w' ⟨e1, e2⟩ => ⟨e1, hg.trans e2⟩)
  have MF := Lib.hid (show ∀ W, Grew w W → Calls Tryd.prog 70 #[.slice A8 fl.length c8, .int .i64 per, .int .i64 (IntKind.i64.wrap (top + (i : Int)))] W fun e w' => e = .returned (.int .i64 (mostL fl per (top + i))) ∧ Grew w w' from fun W hg => by
    have hb := hg.below (Nat.le_refl _)
    rw [hw]
    exact (most_any A8 c8 fl per (top + i) W w.heap.size hb.size (h.r8.below hb) (by omega) hk8 p0 p1 (by omega) t1).mono fun e w' ⟨e1, e2⟩ => ⟨e1, hg.trans e2⟩)
  have KP := Lib.hid (show ∀ W, Grew w W → W.cell? ⟨g7, 0, none⟩ = some (.slice A7 st.length c7) ∧ W.cell? ⟨g3, 0, none⟩ = some (.int .i64 per) ∧ W.cell? ⟨g9, 0, none⟩ = some (.int .i64 top) ∧ W.cell? ⟨g8, 0, none⟩ = some (.slice A8 fl.length c8) from fun W hg => by
    have h' := h.below (hg.below (Nat.le_refl _))
    exact ⟨h'.x7, h'.x3, h'.x9, h'.x8⟩)
  have x7 := h.x7
  have x3 := h.x3
  have x9 := h.x9
  have x8 := h.x8
  have kd : Grew w w.drew := Grew.drewN w 1
  clear h hw hk7 hk8
  go_enter Tryd.func69, Tryd.ntmps69
  go_wp2_with fail
  go_region_held3 (fun w' => w'.cell? ⟨g7, 0, none⟩ = some (.slice A7 st.length c7) ∧ w'.cell? ⟨g3, 0, none⟩ = some (.int .i64 per) ∧ w'.cell? ⟨g9, 0, none⟩ = some (.int .i64 top) ∧ w'.cell? ⟨g8, 0, none⟩ = some (.slice A8 fl.length c8))
    (first | go_keep | exact KP.out _ k6 | exact KP.out _ k7)
    (first
      | ((with_reducible show Calls _ _ #[.slice A7 _ _, _, _] w.drew _); refine (MS.out _ kd).mono ?_; rintro e w6 ⟨rfl, k6⟩)
      | ((with_reducible show Calls _ _ #[.slice A8 _ _, _, _] w.drew _); refine (MF.out _ kd).mono ?_; rintro e w6 ⟨rfl, k6⟩)
      | ((with_reducible show Calls _ _ #[.slice A7 _ _, _, _] w6 _); refine (MS.out _ k6).mono ?_; rintro e w7 ⟨rfl, k7⟩)
      | ((with_reducible show Calls _ _ #[.slice A8 _ _, _, _] w6 _); refine (MF.out _ k6).mono ?_; rintro e w7 ⟨rfl, k7⟩))
  all_goals
    go_wp2_with fail
    go_ret
    exact ⟨rfl, k7⟩
end Go.Proofs.YteeaipehkhldhaaDoor
