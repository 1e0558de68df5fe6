/- slices.swapRangeCmpFunc, slices.rotateCmpFunc, at []int: over a row of the caller's own. Conditions: the bounds that the callers keep. slices.symMergeCmpFunc at []int, over a row of the caller's own, by keys that lie still: two runs in order are one. -/
import Derived.BigRegion
import Derived.Deep.CutRange
import Derived.Test.YthgpbdlmadjndaaDoorProg
import Derived.Test.YthgpbdlmadjndaaDoorBaseM
import Derived.Test.YthgpbdlmadjndaaDoorSrA
import Derived.Deep.RegionHeld3
namespace Go.Proofs.YthgpbdlmadjndaaDoor
open Go.RowKit
set_option maxRecDepth 100000
abbrev IA (w : World) (g n : Nat) (f : Nat → Int) : Prop := Arw w g 3 n fun k => .int .i64 (f k)
theorem IA.swap {w : World} {g n : Nat} {f f' : Nat → Int} (h : IA w g n f) {x y : Nat} (hf : ∀ k, f' k = if k = y then f x else if k = x then f y else f k) :
    IA ((w.setCell ⟨g, x, none⟩ (.int .i64 (f y))).setCell ⟨g, y, none⟩ (.int .i64 (f x))) g n f' := by
  refine (h.set_ (k := x) (d' := fun k => .int .i64 (if k = x then f y else f k)) _ fun j _ => ?_).set_ (k := y) _ fun j _ => ?_
  · by_cases hj : j = x
    · rw [if_pos hj, if_pos hj]
    · rw [if_neg hj, if_neg hj]
  · rw [hf j]
    by_cases hj : j = y
    · rw [if_pos hj, if_pos hj]
    · rw [if_neg hj, if_neg hj]
set_option maxHeartbeats 4000000 in
theorem swapR_any (g n a b m : Nat) (f : Nat → Int) (v : Value) (w : World) (h : IA w g n f) (hab : a + m ≤ b) (hb : b + m ≤ n) (hn : n ≤ 1000000) :
    Calls Tryd.prog 112 #[.slice (some ⟨g, 0, none⟩) n n, .int .i64 a, .int .i64 b, .int .i64 m, v] w fun e w' => e = .returned (.tuple #[]) ∧ IA w' g n (swF f a b m) ∧ OnlyG g w w' := by
  go_enter Tryd.func112, Tryd.ntmps112
  go_wp2_with fail
  go_loopw [10] (fun iv wr => ∃ i : Nat, i ≤ m ∧ iv = .int .i64 i ∧ IA wr g n (swF f a b i) ∧ OnlyG g w wr) (fun iv _ => m - (intOf iv).toNat)
  case atStart => exact ⟨0, Nat.zero_le _, rfl, by rw [swF_zero]; exact h, OnlyG.refl _ _⟩
  case round =>
    obtain ⟨i, hi, rfl, hr, ho⟩ := hrel
    by_cases him : i < m
    · obtain ⟨x, hx⟩ : ∃ x, x = a + i := ⟨_, rfl⟩
      obtain ⟨y, hy⟩ : ∃ y, y = b + i := ⟨_, rfl⟩
      have c0 := hr.cell (k := x) (by omega)
      have c1 := hr.cell (k := y) (by omega)
      have z0 := hr.frozen x
      have z1 := hr.frozen y
      have hq := hr.swap (x := x) (y := y) (f' := swF f a b (i + 1)) (fun k => by
        rw [swF_succ f (by omega) k, hx, hy, swF_a f (by omega), swF_b f (by omega)])
      have HQ := Lib.hid hq
      have HO := Lib.hid (ho.set_ x (.int .i64 (swF f a b i y)) |>.set_ y (.int .i64 (swF f a b i x)))
      have i0 : (0 : Int) ≤ (i : Int) := by omega
      have i1 : (i : Int) < (m : Int) := by omega
      have x0 : (0 : Int) ≤ (x : Int) := by omega
      have x1 : (x : Int) < (n : Int) := by omega
      have y0 : (0 : Int) ≤ (y : Int) := by omega
      have y1 : (y : Int) < (n : Int) := by omega
      have sx : (a : Int) + (i : Int) = (x : Int) := by omega
      have sy : (b : Int) + (i : Int) = (y : Int) := by omega
      have wx : IntKind.i64.wrap (x : Int) = (x : Int) := by rw [IntKind.wrap_i64]; omega
      have wy : IntKind.i64.wrap (y : Int) = (y : Int) := by rw [IntKind.wrap_i64]; omega
      have hne : x ≠ y := by omega
      have hne2 : ¬ y = x := by omega
      obtain ⟨p, hp⟩ : ∃ p, p = swF f a b i x := ⟨_, rfl⟩
      obtain ⟨q, hq⟩ : ∃ q, q = swF f a b i y := ⟨_, rfl⟩
      rw [← hp] at c0
      rw [← hq] at c1
      rw [← hp, ← hq] at HQ HO
      clear hx hy hp hq hr ho
      go_upto_region 3 with fail
      go_region
      go_wp2_with fail
      go_roundw
      case rel => exact ⟨i + 1, him, by go_num, HQ.out, HO.out.drewN 1⟩
      case measure => simp [intOf]; omega
    · obtain rfl : i = m := by omega
      have HR := Lib.hid hr
      go_wp2_with fail
      go_end0
      exact ⟨rfl, HR.out, ho⟩
theorem wrapN {x : Nat} (h : x ≤ 4000000) : IntKind.i64.wrap (x : Int) = (x : Int) := by rw [IntKind.wrap_i64]; omega
set_option maxHeartbeats 4000000 in
theorem rot_any (g n a m b : Nat) (f : Nat → Int) (v : Value) (w : World) (h : IA w g n f) (ham : a < m) (hmb : m < b) (hb : b ≤ n) (hn : n ≤ 1000000) :
    Calls Tryd.prog 109 #[.slice (some ⟨g, 0, none⟩) n n, .int .i64 a, .int .i64 m, .int .i64 b, v] w fun e w' => e = .returned (.tuple #[]) ∧ IA w' g n (rotF f a m b) ∧ OnlyG g w w' := by
  obtain ⟨i0, hi0⟩ : ∃ i0, i0 = m - a := ⟨_, rfl⟩
  obtain ⟨j0, hj0⟩ : ∃ j0, j0 = b - m := ⟨_, rfl⟩
  have si : (m : Int) - (a : Int) = (i0 : Int) := by omega
  have sj : (b : Int) - (m : Int) = (j0 : Int) := by omega
  have wi := wrapN (x := i0) (by omega)
  have wj := wrapN (x := j0) (by omega)
  have hst : rotF f (m - i0) m (m + j0) = rotF f a m b := by rw [hi0, hj0, show m - (m - a) = a by omega, show m + (b - m) = b by omega]
  have b1 : i0 ≤ m := by omega
  have b2 : m + j0 ≤ n := by omega
  have b3 : 0 < i0 := by omega
  have b4 : 0 < j0 := by omega
  have HST := Lib.hid hst
  have HI := Lib.hid h
  clear hi0 hj0 hst h
  go_enter Tryd.func109, Tryd.ntmps109
  go_wp2_with fail
  go_loopw [10, 11] (fun iv jv wr => ∃ (i j : Nat) (F : Nat → Int), 0 < i ∧ 0 < j ∧ i ≤ m ∧ m + j ≤ n ∧ iv = .int .i64 i ∧ jv = .int .i64 j ∧ IA wr g n F ∧ OnlyG g w wr ∧ rotF F (m - i) m (m + j) = rotF f a m b) (fun iv jv _ => (intOf iv).toNat + (intOf jv).toNat)
  case atStart => exact ⟨i0, j0, f, b3, b4, b1, b2, rfl, rfl, HI.out, OnlyG.refl _ _, HST.out⟩
  case round =>
    obtain ⟨i, j, F, c1, c2, c3, c4, rfl, rfl, hr, ho, he⟩ := hrel
    have HR := Lib.hid hr
    have HO := Lib.hid ho
    have HE := Lib.hid he
    clear hr ho he HST HI si sj wi wj b1 b2 b3 b4
    obtain ⟨x, hx⟩ : ∃ x, x = m - i := ⟨_, rfl⟩
    have sx : (m : Int) - (i : Int) = (x : Int) := by omega
    have wx := wrapN (x := x) (by omega)
    have HX := Lib.hid hx
    clear hx
    rcases Nat.lt_trichotomy i j with hij | hij | hij
    · obtain ⟨y, hy⟩ : ∃ y, y = m + j - i := ⟨_, rfl⟩
      obtain ⟨z, hz⟩ : ∃ z, z = m + j := ⟨_, rfl⟩
      have sz : (m : Int) + (j : Int) = (z : Int) := by omega
      have wz := wrapN (x := z) (by omega)
      have sy : (z : Int) - (i : Int) = (y : Int) := by omega
      have wy := wrapN (x := y) (by omega)
      obtain ⟨d, hd⟩ : ∃ d, d = j - i := ⟨_, rfl⟩
      have sd : (j : Int) - (i : Int) = (d : Int) := by omega
      have wd := wrapN (x := d) (by omega)
      have q1 : ¬ (j : Int) < (i : Int) := by omega
      have q2 : ((i : Int) != (j : Int)) = true := by simp; omega
      have hd0 : 0 < d := by omega
      have hdj : d < j := by omega
      have q3 : x + i ≤ y := by rw [HX.out]; omega
      have q4 : y + i ≤ n := by omega
      have q5 : m + d ≤ n := by omega
      have HN := Lib.hid (show rotF (swF F x y i) (m - i) m (m + d) = rotF f a m b by rw [HX.out, hy, hd, rotF_right F c3 c1 hij]; exact HE.out)
      clear hy hz hd
      go_wp2_with fail
      refine (swapR_any g n x y i F v wr HR.out q3 q4 hn).mono ?_
      rintro e w2 ⟨rfl, r2, o2⟩
      have R2 := Lib.hid r2
      have O2 := Lib.hid (HO.out.trans o2)
      clear r2 o2
      go_wp2_with fail
      go_roundw
      case rel => exact ⟨i, d, _, c1, hd0, c3, q5, rfl, rfl, R2.out, O2.out, HN.out⟩
      case measure => simp [intOf]; omega
    · have q2 : ((i : Int) != (j : Int)) = false := by simp; omega
      have HN := Lib.hid (show swF F x m i = rotF f a m b by rw [HX.out, swF_eq_rot F c3]; rw [← HE.out, hij])
      have q3 : x + i ≤ m := by rw [HX.out]; omega
      have q4 : m + i ≤ n := by omega
      clear hij
      go_wp2_with fail
      refine (swapR_any g n x m i F v wr HR.out q3 q4 hn).mono ?_
      rintro e w2 ⟨rfl, r2, o2⟩
      rw [HN.out] at r2
      have R2 := Lib.hid r2
      have O2 := Lib.hid (HO.out.trans o2)
      clear r2 o2
      go_wp2_with fail
      go_end0
      exact ⟨rfl, R2.out, O2.out⟩
    · obtain ⟨d, hd⟩ : ∃ d, d = i - j := ⟨_, rfl⟩
      have sd : (i : Int) - (j : Int) = (d : Int) := by omega
      have wd := wrapN (x := d) (by omega)
      have q1 : (j : Int) < (i : Int) := by omega
      have q2 : ((i : Int) != (j : Int)) = true := by simp; omega
      have hd0 : 0 < d := by omega
      have hdj : d < i := by omega
      have hdm : d ≤ m := by omega
      have q3 : x + j ≤ m := by rw [HX.out]; omega
      have HN := Lib.hid (show rotF (swF F x m j) (m - d) m (m + j) = rotF f a m b by rw [HX.out, hd, rotF_left F c3 hij]; exact HE.out)
      clear hd
      go_wp2_with fail
      refine (swapR_any g n x m j F v wr HR.out q3 c4 hn).mono ?_
      rintro e w2 ⟨rfl, r2, o2⟩
      have R2 := Lib.hid r2
      have O2 := Lib.hid (HO.out.trans o2)
      clear r2 o2
      go_wp2_with fail
      go_roundw
      case rel => exact ⟨d, j, _, hd0, c2, hdm, c4, rfl, rfl, R2.out, O2.out, HN.out⟩
      case measure => simp [intOf]; omega
end Go.Proofs.YthgpbdlmadjndaaDoor
namespace Go.Proofs.YthgpbdlmadjndaaDoor
open Go.RowKit
set_option maxRecDepth 100000
/-- What the caller's function compares: numbers, by their keys; and it changes nothing. -/
def CmpOk (key : Int → Int) (n g bA : Nat) (w0 : World) : Prop := ∀ W, OnlyG g w0 W → ∀ x y : Int, 0 ≤ x → x < (n : Int) → 0 ≤ y → y < (n : Int) →
  Calls Tryd.prog 62 #[.int .i64 x, .int .i64 y, .pointer (some ⟨bA, 0, none⟩)] W fun e w' => e = .returned (.int .i64 (cmpI (key x) (key y))) ∧ ∃ q, w' = W.drewN q
def Merged (key : Int → Int) (n g a b : Nat) (f : Nat → Int) (w : World) (e : Ending) (w' : World) : Prop := e = .returned (.tuple #[]) ∧ ∃ f', IA w' g n f' ∧ OnlyG g w w' ∧ SrtF key f' a b ∧ SubF f f' a b ∧ OutF f f' a b
set_option maxHeartbeats 8000000 in
theorem sym_one (key : Int → Int) (g n bA a m b : Nat) (f : Nat → Int) (w0 w : World) (HC : Hid (CmpOk key n g bA w0)) (hm : m = a + 1) (hmb : m < b) (hb : b ≤ n) (hn : n ≤ 1000000) (h : IA w g n f) (ho : OnlyG g w0 w) (hv : ValF f n) (hr : SrtF key f m b) (hc : CrsF f a m b) :
    Calls Tryd.prog 104 #[.slice (some ⟨g, 0, none⟩) n n, .int .i64 a, .int .i64 m, .int .i64 b, .func (.func 62) #[] #[.pointer (some ⟨bA, 0, none⟩)]] w (Merged key n g a b f w) := by
  have s1 : (m : Int) - (a : Int) = 1 := by omega
  have a0 : (0 : Int) ≤ (a : Int) := by omega
  have a1 : (a : Int) < (n : Int) := by omega
  have ce := h.cell (k := a) (by omega)
  have HM := Lib.hid hm
  have HI := Lib.hid h
  have HO := Lib.hid ho
  have HV := Lib.hid hv
  have HR := Lib.hid hr
  have HX := Lib.hid hc
  have ham : a < m := by omega
  clear hm h ho hv hr hc
  go_enter Tryd.func104, Tryd.ntmps104
  go_wp2_with fail
  go_loopw [10, 11] (fun iv jv wr => ∃ i j q : Nat, m ≤ i ∧ i ≤ j ∧ j ≤ b ∧ iv = .int .i64 i ∧ jv = .int .i64 j ∧ wr = w.drewN q ∧ (m < i → LexI key (f (i - 1)) (f a)) ∧ (j < b → LexI key (f a) (f j))) (fun iv jv _ => (intOf jv).toNat - (intOf iv).toNat)
  case atStart => exact ⟨m, b, 0, Nat.le_refl _, by omega, Nat.le_refl _, rfl, rfl, rfl, fun h => by omega, fun h => by omega⟩
  case round =>
    obtain ⟨i, j, q, c1, c2, c3, rfl, rfl, rfl, l1, l2⟩ := hrel
    have L1 := Lib.hid l1
    have L2 := Lib.hid l2
    clear l1 l2
    by_cases hij : i < j
    · skip
      obtain ⟨t, ht⟩ : ∃ t, t = (i + j) / 2 := ⟨_, rfl⟩
      have t0 : i ≤ t := by omega
      have t1 : t < j := by omega
      have c4 : i + j ≤ 4000000 := by omega
      obtain ⟨z, hz⟩ : ∃ z, z = i + j := ⟨_, rfl⟩
      have sz : (i : Int) + (j : Int) = (z : Int) := by omega
      have wz := wrapN (x := z) (by omega)
      have wz2 : IntKind.u64.wrap (z : Int) = (z : Int) := by rw [IntKind.wrap_u64]; omega
      have sh : ((z : Int)) / 2 = (t : Int) := by omega
      have HT := Lib.hid ht
      clear hz ht c4
      go_upto_region 5 with fail
      have T0 : (0 : Int) ≤ (t : Int) := by omega
      have T1 : (t : Int) < (n : Int) := by omega
      have wt := wrapN (x := t) (by omega)
      have ct := HI.out.cell (k := t) (by omega)
      obtain ⟨fe, hfe⟩ : ∃ fe, fe = f a := ⟨_, rfl⟩
      obtain ⟨ft, hft⟩ : ∃ ft, ft = f t := ⟨_, rfl⟩
      have ve := HV.out a (by omega)
      have vt := HV.out t (by omega)
      have hcr := HX.out a t (Nat.le_refl _) ham (by omega) (by omega)
      rw [← hfe] at ce ve hcr
      rw [← hft] at ct vt hcr
      have CC := Lib.hid (show ∀ W, OnlyG g w0 W → Calls Tryd.prog 62 #[.int .i64 ft, .int .i64 fe, .pointer (some ⟨bA, 0, none⟩)] W fun e w' => e = .returned (.int .i64 (cmpI (key ft) (key fe))) ∧ ∃ q, w' = W.drewN q from fun W hW => HC.out W hW ft fe vt.1 vt.2 ve.1 ve.2)
      have HFE := Lib.hid hfe
      have HFT := Lib.hid hft
      by_cases hk : key ft < key fe
      · have HK := Lib.hid (cmpI_lt hk)
        have L3 := Lib.hid (show m < t + 1 → LexI key (f (t + 1 - 1)) (f a) from fun _ => by rw [show t + 1 - 1 = t by omega, ← HFT.out, ← HFE.out]; exact .of_lt hk)
        clear hk hfe hft ve vt hcr
        go_region_held3 (fun W => W.cell? ⟨g, t, none⟩ = some (.int .i64 ft) ∧ W.cell? ⟨g, a, none⟩ = some (.int .i64 fe))
          (first | go_keep | exact ⟨ct, ce⟩)
          ((go_at_call 62; refine (CC.out _ (HO.out.drewN (q + 1))).mono ?_; rw [HK.out]; rintro e w6 ⟨rfl, q6, rfl⟩))
        go_wp2_with fail
        go_roundw
        case rel => exact ⟨t + 1, j, q + 1 + q6, by omega, by omega, c3, by go_num, rfl, rfl, L3.out, L2.out⟩
        case measure => simp [intOf]; omega
      · obtain ⟨y, hy0, hy⟩ := cmpI_ge hk
        have hy1 : decide (y < 0) = false := decide_eq_false hy0
        have hy2 : (0 : Int) ≤ y := by omega
        have HK := Lib.hid hy
        have L3 := Lib.hid (show t < b → LexI key (f a) (f t) from fun _ => by rw [← HFT.out, ← HFE.out]; exact .of_le hk hcr)
        clear hk hfe hft ve vt hcr hy
        go_region_held3 (fun W => W.cell? ⟨g, t, none⟩ = some (.int .i64 ft) ∧ W.cell? ⟨g, a, none⟩ = some (.int .i64 fe))
          (first | go_keep | exact ⟨ct, ce⟩)
          ((go_at_call 62; refine (CC.out _ (HO.out.drewN (q + 1))).mono ?_; rw [HK.out]; rintro e w6 ⟨rfl, q6, rfl⟩))
        go_wp2_with fail
        go_roundw
        case rel => exact ⟨i, t, q + 1 + q6, c1, t0, by omega, rfl, rfl, rfl, L1.out, L3.out⟩
        case measure => simp [intOf]; omega
    · obtain rfl : i = j := by omega
      obtain ⟨i1, hi1⟩ : ∃ i1, i1 = i - 1 := ⟨_, rfl⟩
      have si : (i : Int) - 1 = (i1 : Int) := by omega
      have wi := wrapN (x := i1) (by omega)
      have c5 : a ≤ i1 := by omega
      have c6 : i1 < b := by omega
      have HE := Lib.hid (show i1 + 1 = i by omega)
      have HS := Lib.hid (show SrtF key (rotF f a (a + 1) i) a b from ins_down (by rw [← HM.out]; exact c1) c3 (by rw [← HM.out]; exact HR.out) (fun h => L1.out (by rw [HM.out]; exact h)) L2.out)
      clear hi1 L1 L2 ce
      go_wp2_with fail
      go_loopw [13] (fun kv wr => ∃ k : Nat, a ≤ k ∧ k ≤ i1 ∧ kv = .int .i64 k ∧ IA wr g n (rotF f a (a + 1) (k + 1)) ∧ OnlyG g w wr) (fun kv _ => i1 - (intOf kv).toNat)
      case atStart => exact ⟨a, Nat.le_refl _, c5, rfl, by rw [rotF_nil f a (a + 1) (a + 1) (.inr ⟨rfl, by omega⟩)]; exact HI.out, (OnlyG.refl _ _).drewN q⟩
      case round =>
        obtain ⟨x, d1, d2, rfl, hr, ho2⟩ := hrel
        by_cases hxi : x < i1
        · obtain ⟨y, hy⟩ : ∃ y, y = x + 1 := ⟨_, rfl⟩
          have sy : (x : Int) + 1 = (y : Int) := by omega
          obtain ⟨F, hF⟩ : ∃ F, F = rotF f a (a + 1) (x + 1) := ⟨_, rfl⟩
          rw [← hF] at hr
          have HSTEP := Lib.hid (show ∀ k, rotF f a (a + 1) (y + 1) k = if k = y then F x else if k = x then F y else F k from fun k => by rw [hF, hy]; exact rot_down_step f d1 k)
          have hyx : x < y := by omega
          have hyi : y ≤ i1 := by omega
          have hay : a ≤ y := by omega
          clear hy hF
          have e0 := hr.cell (k := x) (by omega)
          have e1 := hr.cell (k := y) (by omega)
          have z0 := hr.frozen x
          have z1 := hr.frozen y
          have HQ := Lib.hid (hr.swap (x := x) (y := y) HSTEP.out)
          have x0 : (0 : Int) ≤ (x : Int) := by omega
          have x1 : (x : Int) < (n : Int) := by omega
          have y0 : (0 : Int) ≤ (y : Int) := by omega
          have y1 : (y : Int) < (n : Int) := by omega
          have wx := wrapN (x := x) (by omega)
          have wy := wrapN (x := y) (by omega)
          have hne : x ≠ y := by omega
          have hne2 : ¬ y = x := by omega
          obtain ⟨P, hP⟩ : ∃ P, P = F x := ⟨_, rfl⟩
          obtain ⟨Q, hQ⟩ : ∃ Q, Q = F y := ⟨_, rfl⟩
          have HO2 := Lib.hid (ho2.set_ x (.int .i64 (F y)) |>.set_ y (.int .i64 (F x)))
          rw [← hP] at e0
          rw [← hQ] at e1
          rw [← hP, ← hQ] at HQ HO2
          clear hP hQ hr ho2
          go_upto_region 11 with fail
          go_region
          go_wp2_with fail
          go_roundw
          case rel => exact ⟨y, hay, hyi, by first | rfl | go_num, HQ.out, HO2.out.drewN 1⟩
          case measure => simp [intOf]; omega
        · obtain rfl : x = i1 := by omega
          rw [HE.out] at hr
          have HRR := Lib.hid hr
          have HOO := Lib.hid ho2
          have HEN := Lib.hid (show SubF f (rotF f a (a + 1) i) a b ∧ OutF f (rotF f a (a + 1) i) a b from by
            have h1 : a + 1 ≤ i := by rw [← HM.out]; exact c1
            exact ⟨(rotF_sub f (Nat.le_succ a) h1).wide (rotF_out f (Nat.le_succ a) h1) (Nat.le_refl _) c3, (rotF_out f (Nat.le_succ a) h1).wide (Nat.le_refl _) c3⟩)
          clear hr ho2
          go_wp2_with fail
          go_end0
          exact ⟨rfl, _, HRR.out, HOO.out, HS.out, HEN.out.1, HEN.out.2⟩
set_option maxHeartbeats 8000000 in
theorem sym_last (key : Int → Int) (g n bA a m b : Nat) (f : Nat → Int) (w0 w : World) (HC : Hid (CmpOk key n g bA w0)) (ham : a + 1 < m) (hmb : b = m + 1) (hb : b ≤ n) (hn : n ≤ 1000000) (h : IA w g n f) (ho : OnlyG g w0 w) (hv : ValF f n) (hl : SrtF key f a m) (hc : CrsF f a m b) :
    Calls Tryd.prog 104 #[.slice (some ⟨g, 0, none⟩) n n, .int .i64 a, .int .i64 m, .int .i64 b, .func (.func 62) #[] #[.pointer (some ⟨bA, 0, none⟩)]] w (Merged key n g a b f w) := by
  obtain ⟨u, hu⟩ : ∃ u, u = m - a := ⟨_, rfl⟩
  have s0 : (m : Int) - (a : Int) = (u : Int) := by omega
  have u1 : ((u : Int) == 1) = false := beq_eq_false_iff_ne.2 (by omega)
  have u2 : (u : Int) ≠ 1 := by omega
  have wu := wrapN (x := u) (by omega)
  have s1 : (b : Int) - (m : Int) = 1 := by omega
  have m0 : (0 : Int) ≤ (m : Int) := by omega
  have m1 : (m : Int) < (n : Int) := by omega
  have ce := h.cell (k := m) (by omega)
  have hmn : m < n := by omega
  have HB := Lib.hid hmb
  have HI := Lib.hid h
  have HO := Lib.hid ho
  have HV := Lib.hid hv
  have HR := Lib.hid hl
  have HX := Lib.hid hc
  have hmb' : m < b := by omega
  have ham' : a ≤ m := by omega
  clear hmb h ho hv hl hc hu
  go_enter Tryd.func104, Tryd.ntmps104
  go_wp2_with fail
  go_loopw [14, 15] (fun iv jv wr => ∃ i j q : Nat, a ≤ i ∧ i ≤ j ∧ j ≤ m ∧ iv = .int .i64 i ∧ jv = .int .i64 j ∧ wr = w.drewN q ∧ (a < i → LexI key (f (i - 1)) (f m)) ∧ (j < m → LexI key (f m) (f j))) (fun iv jv _ => (intOf jv).toNat - (intOf iv).toNat)
  case atStart => exact ⟨a, m, 0, Nat.le_refl _, ham', Nat.le_refl _, rfl, rfl, rfl, fun h => by omega, fun h => by omega⟩
  case round =>
    obtain ⟨i, j, q, c1, c2, c3, rfl, rfl, rfl, l1, l2⟩ := hrel
    have L1 := Lib.hid l1
    have L2 := Lib.hid l2
    clear l1 l2
    by_cases hij : i < j
    · skip
      obtain ⟨t, ht⟩ : ∃ t, t = (i + j) / 2 := ⟨_, rfl⟩
      have t0 : i ≤ t := by omega
      have t1 : t < j := by omega
      have c4 : i + j ≤ 4000000 := by omega
      obtain ⟨z, hz⟩ : ∃ z, z = i + j := ⟨_, rfl⟩
      have sz : (i : Int) + (j : Int) = (z : Int) := by omega
      have wz := wrapN (x := z) (by omega)
      have wz2 : IntKind.u64.wrap (z : Int) = (z : Int) := by rw [IntKind.wrap_u64]; omega
      have sh : ((z : Int)) / 2 = (t : Int) := by omega
      have HT := Lib.hid ht
      clear hz ht c4
      go_upto_region 17 with fail
      have T0 : (0 : Int) ≤ (t : Int) := by omega
      have T1 : (t : Int) < (n : Int) := by omega
      have wt := wrapN (x := t) (by omega)
      have ct := HI.out.cell (k := t) (by omega)
      obtain ⟨fe, hfe⟩ : ∃ fe, fe = f m := ⟨_, rfl⟩
      obtain ⟨ft, hft⟩ : ∃ ft, ft = f t := ⟨_, rfl⟩
      have ve := HV.out m (by omega)
      have vt := HV.out t (by omega)
      have hcr := HX.out t m (by omega) (by omega) (Nat.le_refl _) hmb'
      rw [← hfe] at ce ve hcr
      rw [← hft] at ct vt hcr
      have CC := Lib.hid (show ∀ W, OnlyG g w0 W → Calls Tryd.prog 62 #[.int .i64 fe, .int .i64 ft, .pointer (some ⟨bA, 0, none⟩)] W fun e w' => e = .returned (.int .i64 (cmpI (key fe) (key ft))) ∧ ∃ q, w' = W.drewN q from fun W hW => HC.out W hW fe ft ve.1 ve.2 vt.1 vt.2)
      have HFE := Lib.hid hfe
      have HFT := Lib.hid hft
      by_cases hk : key fe < key ft
      · have HK := Lib.hid (cmpI_lt hk)
        have L3 := Lib.hid (show t < m → LexI key (f m) (f t) from fun _ => by rw [← HFT.out, ← HFE.out]; exact .of_lt hk)
        clear hk hfe hft ve vt hcr
        go_region_held3 (fun W => W.cell? ⟨g, t, none⟩ = some (.int .i64 ft) ∧ W.cell? ⟨g, m, none⟩ = some (.int .i64 fe))
          (first | go_keep | exact ⟨ct, ce⟩)
          ((go_at_call 62; refine (CC.out _ (HO.out.drewN (q + 1))).mono ?_; rw [HK.out]; rintro e w6 ⟨rfl, q6, rfl⟩))
        go_wp2_with fail
        go_roundw
        case rel => exact ⟨i, t, q + 1 + q6, c1, t0, by omega, rfl, rfl, rfl, L1.out, L3.out⟩
        case measure => simp [intOf]; omega
      · obtain ⟨y, hy0, hy⟩ := cmpI_ge hk
        have hy1 : decide (y < 0) = false := decide_eq_false hy0
        have hy2 : (0 : Int) ≤ y := by omega
        have HK := Lib.hid hy
        have L3 := Lib.hid (show a < t + 1 → LexI key (f (t + 1 - 1)) (f m) from fun _ => by rw [show t + 1 - 1 = t by omega, ← HFT.out, ← HFE.out]; exact .of_le hk hcr)
        clear hk hfe hft ve vt hcr hy
        go_region_held3 (fun W => W.cell? ⟨g, t, none⟩ = some (.int .i64 ft) ∧ W.cell? ⟨g, m, none⟩ = some (.int .i64 fe))
          (first | go_keep | exact ⟨ct, ce⟩)
          ((go_at_call 62; refine (CC.out _ (HO.out.drewN (q + 1))).mono ?_; rw [HK.out]; rintro e w6 ⟨rfl, q6, rfl⟩))
        go_wp2_with fail
        go_roundw
        case rel => exact ⟨t + 1, j, q + 1 + q6, by omega, by omega, c3, by go_num, rfl, rfl, L3.out, L2.out⟩
        case measure => simp [intOf]; omega
    · obtain rfl : i = j := by omega
      have HS := Lib.hid (show SrtF key (rotF f i m (m + 1)) a b by rw [HB.out]; exact ins_up c1 c3 HR.out L1.out L2.out)
      clear L1 L2 ce
      go_wp2_with fail
      go_loopw [17] (fun kv wr => ∃ k : Nat, i ≤ k ∧ k ≤ m ∧ kv = .int .i64 k ∧ IA wr g n (rotF f k m (m + 1)) ∧ OnlyG g w wr) (fun kv _ => (intOf kv).toNat)
      case atStart => exact ⟨m, c3, Nat.le_refl _, rfl, by rw [rotF_nil f m m (m + 1) (.inl rfl)]; exact HI.out, (OnlyG.refl _ _).drewN q⟩
      case round =>
        obtain ⟨x, d1, d2, rfl, hr, ho2⟩ := hrel
        by_cases hxi : i < x
        · obtain ⟨y, hy⟩ : ∃ y, y = x - 1 := ⟨_, rfl⟩
          have sy : (x : Int) - 1 = (y : Int) := by omega
          obtain ⟨F, hF⟩ : ∃ F, F = rotF f x m (m + 1) := ⟨_, rfl⟩
          rw [← hF] at hr
          have HSTEP := Lib.hid (show ∀ k, rotF f y m (m + 1) k = if k = y then F x else if k = x then F y else F k from fun k => by
            have e : x = y + 1 := by omega
            rw [hF, e]; exact rot_up_step f (by omega) k)
          have hyx : y < x := by omega
          have hyi : i ≤ y := by omega
          have hay : y ≤ m := by omega
          clear hy hF
          have e0 := hr.cell (k := x) (by omega)
          have e1 := hr.cell (k := y) (by omega)
          have z0 := hr.frozen x
          have z1 := hr.frozen y
          have HQ := Lib.hid (hr.swap (x := x) (y := y) HSTEP.out)
          have x0 : (0 : Int) ≤ (x : Int) := by omega
          have x1 : (x : Int) < (n : Int) := by omega
          have y0 : (0 : Int) ≤ (y : Int) := by omega
          have y1 : (y : Int) < (n : Int) := by omega
          have wx := wrapN (x := x) (by omega)
          have wy := wrapN (x := y) (by omega)
          have hne : x ≠ y := by omega
          have hne2 : ¬ y = x := by omega
          obtain ⟨P, hP⟩ : ∃ P, P = F x := ⟨_, rfl⟩
          obtain ⟨Q, hQ⟩ : ∃ Q, Q = F y := ⟨_, rfl⟩
          have HO2 := Lib.hid (ho2.set_ x (.int .i64 (F y)) |>.set_ y (.int .i64 (F x)))
          rw [← hP] at e0
          rw [← hQ] at e1
          rw [← hP, ← hQ] at HQ HO2
          clear hP hQ hr ho2
          go_upto_region 23 with fail
          go_region
          go_wp2_with fail
          go_roundw
          case rel => exact ⟨y, hyi, hay, by first | rfl | go_num, HQ.out, HO2.out.drewN 1⟩
          case measure => simp [intOf]; omega
        · obtain rfl : x = i := by omega
          have HRR := Lib.hid hr
          have HOO := Lib.hid ho2
          have HEN := Lib.hid (show SubF f (rotF f x m (m + 1)) a b ∧ OutF f (rotF f x m (m + 1)) a b from by
            rw [HB.out]
            exact ⟨(rotF_sub f c3 (Nat.le_succ m)).wide (rotF_out f c3 (Nat.le_succ m)) c1 (Nat.le_refl _), (rotF_out f c3 (Nat.le_succ m)).wide c1 (Nat.le_refl _)⟩)
          clear hr ho2
          go_wp2_with fail
          go_end0
          exact ⟨rfl, _, HRR.out, HOO.out, HS.out, HEN.out.1, HEN.out.2⟩
end Go.Proofs.YthgpbdlmadjndaaDoor
