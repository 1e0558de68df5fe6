/- Package bucket's Shape and Fits, whatever the lists. Conditions: the lists fit memory; the sentinels that are named lie in their variables. -/
import Derived.Test.YteeaipehkhldhaaDoorShape
namespace Go.Proofs.YteeaipehkhldhaaDoor
open Go.RowKit
set_option maxRecDepth 100000
set_option maxHeartbeats 1000000 in
theorem shape_any (A A' : Option Addr) (c c' : Nat) (l : List Ln) (p : List Pk) (S : Nat → Addr) (w : World) (B : Nat) (hB : B ≤ w.heap.size) (h : RdL w B A l) (h' : RdP w B A' p) (hS : Snt w B S [2, 3, 4, 5]) (hl : l.length ≤ 9223372036854775807) (hl' : p.length ≤ 9223372036854775807) :
    Calls Tryd.prog 41 #[.slice A l.length c, .slice A' p.length c'] w (EndOwnEr Pk.cs 3 59 (shapeV l p) S (shapeErr l p).1 (shapeErr l p).2 w) := by
  by_cases h1 : (pktErr p).1 = 0
  · by_cases h2 : (crvErr l).1 = 0
    · exact shape_ok A A' c c' l p S w B hB h h' hS hl hl' h1 h2
    · have He := Lib.hid (show shapeErr l p = crvErr l by unfold shapeErr; rw [if_neg (by omega), if_pos h2])
      have Hv := Lib.hid (show shapeV l p = [] by unfold shapeV; rw [He.out, if_neg h2])
      have Hc := Lib.hid (pktErr_nil h1)
      have H2 := Lib.hid h2
      clear h1 h2
      go_enter Tryd.func41, Tryd.ntmps41
      go_wp2_with fail
      refine (pcheck_any A' c' p S _ B hB h' (hS.sub (by simp)) hl').mono ?_
      rintro e w1 ⟨v, rfl, hv, k1⟩
      obtain rfl := hv.nil_of (by rw [Hc.out])
      have z1 := k1.size
      go_wp2_with fail
      refine (check_any A c l S w1 B (by omega) (h.below (k1.mono hB)) ((hS.below (k1.mono hB)).sub (by simp)) hl).mono ?_
      rintro e w2 ⟨v, rfl, hv, k2⟩
      obtain ⟨T, a, rfl⟩ := hv.some_of H2.out
      have k2' := k1.trans (k2.mono z1)
      go_wp2_with fail
      go_ret2
      rw [Hv.out, He.out]
      exact ⟨none, 0, _, rfl, ⟨by simp, .inl ⟨rfl, rfl⟩⟩, hv, k2'⟩
  · have He := Lib.hid (show shapeErr l p = pktErr p by unfold shapeErr; rw [if_pos h1])
    have Hv := Lib.hid (show shapeV l p = [] by unfold shapeV; rw [He.out, if_neg h1])
    have H1 := Lib.hid h1
    clear h1
    go_enter Tryd.func41, Tryd.ntmps41
    go_wp2_with fail
    refine (pcheck_any A' c' p S _ B hB h' (hS.sub (by simp)) hl').mono ?_
    rintro e w1 ⟨v, rfl, hv, k1⟩
    obtain ⟨T, a, rfl⟩ := hv.some_of H1.out
    go_wp2_with fail
    go_ret2
    rw [Hv.out, He.out]
    exact ⟨none, 0, _, rfl, ⟨by simp, .inl ⟨rfl, rfl⟩⟩, hv, k1⟩
set_option maxHeartbeats 1000000 in
theorem fits_any (A A' : Option Addr) (c c' : Nat) (l : List Ln) (p : List Pk) (S : Nat → Addr) (w : World) (B : Nat) (hB : B ≤ w.heap.size) (h : RdL w B A l) (h' : RdP w B A' p) (hS : Snt w B S [2, 3, 5]) (hl : l.length ≤ 9223372036854775807) (hl' : p.length ≤ 9223372036854775807) :
    Calls Tryd.prog 35 #[.slice A l.length c, .slice A' p.length c'] w (EndVEr (.bool (fitsV l p)) S (fitsErr l p).1 (fitsErr l p).2 w) := by
  by_cases h1 : (pktErr p).1 = 0
  · by_cases h2 : (crvErr l).1 = 0
    · have He : fitsErr l p = (0, -1) := by unfold fitsErr; rw [if_neg (by omega)]; exact Prod.ext h2 (crvErr_ok h2).2.2.2
      have Hv : fitsV l p = fitsL l p := by unfold fitsV; rw [He]; rfl
      rw [He, Hv]
      exact (fits_ok A A' c c' l p S w B hB h h' hS hl hl' h1 h2).mono fun e w' ⟨he, hb⟩ => ⟨_, he, .nil, hb⟩
    · have He := Lib.hid (show fitsErr l p = crvErr l by unfold fitsErr; rw [if_neg (by omega)])
      have Hv := Lib.hid (show fitsV l p = false by unfold fitsV; rw [He.out, if_neg h2])
      have Hc := Lib.hid (pktErr_nil h1)
      have H2 := Lib.hid h2
      clear h1 h2
      go_enter Tryd.func35, Tryd.ntmps35
      go_wp2_with fail
      refine (pcheck_any A' c' p S _ B hB h' (hS.sub (by simp)) hl').mono ?_
      rintro e w1 ⟨v, rfl, hv, k1⟩
      obtain rfl := hv.nil_of (by rw [Hc.out])
      have z1 := k1.size
      go_wp2_with fail
      refine (check_any A c l S w1 B (by omega) (h.below (k1.mono hB)) ((hS.below (k1.mono hB)).sub (by simp)) hl).mono ?_
      rintro e w2 ⟨v, rfl, hv, k2⟩
      obtain ⟨T, a, rfl⟩ := hv.some_of H2.out
      have k2' := k1.trans (k2.mono z1)
      go_wp2_with fail
      go_ret2
      rw [Hv.out, He.out]
      exact ⟨_, rfl, hv, k2'⟩
  · have He := Lib.hid (show fitsErr l p = pktErr p by unfold fitsErr; rw [if_pos h1])
    have Hv := Lib.hid (show fitsV l p = false by unfold fitsV; rw [He.out, if_neg h1])
    have H1 := Lib.hid h1
    clear h1
    go_enter Tryd.func35, Tryd.ntmps35
    go_wp2_with fail
    refine (pcheck_any A' c' p S _ B hB h' (hS.sub (by simp)) hl').mono ?_
    rintro e w1 ⟨v, rfl, hv, k1⟩
    obtain ⟨T, a, rfl⟩ := hv.some_of H1.out
    go_wp2_with fail
    go_ret2
    rw [Hv.out, He.out]
    exact ⟨_, rfl, hv, k1⟩
end Go.Proofs.YteeaipehkhldhaaDoor
