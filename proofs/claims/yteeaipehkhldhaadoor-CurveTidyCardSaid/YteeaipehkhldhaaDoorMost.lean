/- Package curve: most. Conditions: right lines that rise; bounds of the numbers. Worlds that draw on and lay blocks behind. -/
import Derived.Test.YteeaipehkhldhaaDoorDlyP
import Derived.Sort.Grow
import Derived.Shelf.SlSorted.Search
namespace Go.Proofs.YteeaipehkhldhaaDoor
open Go.RowKit
set_option maxRecDepth 100000
/-- The world has drawn on, and blocks were laid behind. -/
def Grew (w w' : World) : Prop := ∃ q os, w' = Go.Sort.grow (w.drewN q) os
theorem Grew.refl (w : World) : Grew w w := ⟨0, #[], by rw [Go.Sort.grow_empty]; rfl⟩
theorem Grew.trans {w w1 w2 : World} (h : Grew w w1) (h' : Grew w1 w2) : Grew w w2 := by
  obtain ⟨q, os, rfl⟩ := h
  obtain ⟨q', os', rfl⟩ := h'
  exact ⟨q + q', os ++ os', by show Go.Sort.grow (Go.Sort.grow ((w.drewN q).drewN q') os) os' = _; rw [Go.Sort.grow_grow, World.drewN_drewN]⟩
theorem Grew.alloc (w : World) (o : Obj) : Grew w (w.alloc o) := ⟨0, #[o], Go.Sort.alloc_eq_grow w o⟩
theorem Grew.drewN (w : World) (q : Nat) : Grew w (w.drewN q) := ⟨q, #[], by rw [Go.Sort.grow_empty]⟩
theorem Grew.below {w w' : World} (h : Grew w w') {B : Nat} (hB : B ≤ w.heap.size) : Below B w w' := by
  obtain ⟨q, os, rfl⟩ := h
  exact below_grown_sl B w q os hB
theorem ceilT_bd {x : Ln} (hr : 0 < x.r) {y : Int} (hb : x.b < y) : 0 ≤ ceilT y x ∧ ceilT y x ≤ 1000 * (y - x.b) := by
  unfold ceilT
  refine ⟨Int.ediv_nonneg (by omega) (by omega), ?_⟩
  show ceilT y x ≤ _
  refine (ceilT_le hr y _).2 ?_
  have := Int.mul_le_mul_of_nonneg_right (show 1 ≤ x.r by omega) (show 0 ≤ 1000 * (y - x.b) by omega)
  omega
set_option maxHeartbeats 2000000 in
theorem most_any (A : Option Addr) (c : Nat) (l : List Ln) (per y : Int) (w : World) (B : Nat) (hB : B ≤ w.heap.size) (h : RdL w B A l) (hl : l.length ≤ 9223372036854775807) (hok : ∀ x ∈ l, okLn x ∧ 0 < x.r) (h0 : 1 ≤ per) (h1 : per ≤ 1000) (y0 : 0 ≤ y) (y1 : y ≤ 35184372088832) :
    Calls Tryd.prog 70 #[.slice A l.length c, .int .i64 per, .int .i64 y] w fun e w' => e = .returned (.int .i64 (mostL l per y)) ∧ Grew w w' := by
  have hpy0 : 0 ≤ per * y := Int.mul_nonneg (by omega) y0
  have hpy1 : per * y ≤ 1000 * 35184372088832 := Int.mul_le_mul h1 y1 y0 (by omega)
  go_enter Tryd.func70, Tryd.ntmps70
  go_wp2_with fail
  go_loopw [7, 12] (fun tv i wr => ∃ (k : Nat) (m : Int), k ≤ l.length ∧ i = .int .i64 k ∧ tv = .int .i64 m ∧ 0 ≤ m ∧ m ≤ 35184372088832000 ∧ mostT y 0 l = mostT y m (l.drop k) ∧ Grew w wr) (fun _ i _ => l.length - (intOf i).toNat)
  case atStart => exact ⟨0, 0, Nat.zero_le _, rfl, rfl, Int.le_refl _, by omega, rfl, Grew.refl w⟩
  case round =>
    obtain ⟨k, m, hk, rfl, rfl, m0, m1, hv, hg⟩ := hrel
    have Hv := Lib.hid hv
    clear hv
    by_cases hlt : k < l.length
    · obtain ⟨hokk, hr⟩ := hok _ (List.getElem_mem hlt)
      obtain ⟨r1, r2, r3, r4⟩ := hokk
      obtain ⟨b, o, rfl, hb, d0, d1⟩ := RdL.get (h.below (hg.below hB)) hlt
      have hd : l.drop k = l[k] :: l.drop (k + 1) := List.drop_eq_getElem_cons hlt
      have Hd := Lib.hid hd
      clear hd
      by_cases hy : l[k].b < y
      · have n0 : 0 ≤ 1000 * (y - l[k].b) + l[k].r - 1 := by omega
        have nz : l[k].r ≠ 0 := by omega
        obtain ⟨t, ht⟩ : ∃ t, t = (1000 * (y - l[k].b) + l[k].r - 1) / l[k].r := ⟨_, rfl⟩
        obtain ⟨t0, t1⟩ := ceilT_bd hr hy
        have htc : ceilT y l[k] = t := by rw [ht]; rfl
        rw [htc] at t0 t1
        have Ht := Lib.hid ht
        have Htc := Lib.hid htc
        have Hm := Lib.hid (show mostT y 0 l = mostT y (max m t) (l.drop (k + 1)) by rw [Hv.out, Hd.out, mostT, if_pos hy, Htc.out])
        clear htc ht
        rw [Ht.out] at t0 t1
        go_wp2_with fail
        go_roundw
        case rel => exact ⟨k + 1, max m t, by omega, by go_num, by rw [Ht.out], by omega, by rw [Ht.out]; omega, Hm.out, hg.trans (Grew.alloc _ _)⟩
        case measure => simp [intOf]; omega
      · have Hm := Lib.hid (show mostT y 0 l = mostT y m (l.drop (k + 1)) by rw [Hv.out, Hd.out, mostT, if_neg hy])
        have hy2 : y ≤ l[k].b := by omega
        clear hy
        go_wp2_with fail
        go_roundw
        case rel => exact ⟨k + 1, m, by omega, by go_num, rfl, m0, m1, Hm.out, hg.trans (Grew.alloc _ _)⟩
        case measure => simp [intOf]; omega
    · have Hm := Lib.hid (show mostT y 0 l = m by rw [Hv.out, List.drop_eq_nil_of_le (by omega)]; rfl)
      go_wp2_with fail
      go_ret
      exact ⟨ret_int (by unfold mostL; rw [Hm.out]), hg⟩
end Go.Proofs.YteeaipehkhldhaaDoor
