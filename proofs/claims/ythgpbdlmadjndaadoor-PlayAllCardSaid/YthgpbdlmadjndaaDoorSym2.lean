/- slices.symMergeCmpFunc at []int, whole: two runs in order are one. -/
import Derived.Test.YthgpbdlmadjndaaDoorSrB
namespace Go.Proofs.YthgpbdlmadjndaaDoor
open Go.RowKit
set_option maxRecDepth 100000
theorem CrsF.out {f g : Nat → Int} {a b a' m' b' : Nat} (h : CrsF f a' m' b') (ho : OutF f g a b) (hd : b' ≤ a ∨ b ≤ a') : CrsF g a' m' b' := fun i j h1 h2 h3 h4 => by
  rw [ho i (by omega), ho j (by omega)]
  exact h i j h1 h2 h3 h4
theorem sym_end {key : Int → Int} {f : Nat → Int} {a m b lo hi nn s : Nat} (e1 : lo ≤ s) (e2 : s ≤ hi) (h1 : a ≤ lo) (h2 : hi ≤ m) (h3 : hi + m ≤ nn) (h4 : nn ≤ lo + b) (h6 : lo = a ∨ nn = lo + b) (h7 : hi = m ∨ nn = hi + m)
    (l1 : lo < s → LexI key (f (s - 1)) (f (nn - 1 - (s - 1)))) (l2 : s < hi → LexI key (f (nn - 1 - s)) (f s)) (hl : SrtF key f a m) (hr : SrtF key f m b) (hc : CrsF f a m b) :
    HalfF key (rotF f s m (nn - s)) a s (s + (nn - s - m)) (nn - s) b :=
  half_of (by omega) (by omega) (by omega) (by omega) hl hr hc
    (fun g1 g2 => by
      have := l1 (by omega)
      rw [show nn - 1 - (s - 1) = nn - s by omega] at this
      exact this)
    (fun g1 g2 => by
      have := l2 (by omega)
      rw [show nn - 1 - s = nn - s - 1 by omega] at this
      exact this)
set_option maxHeartbeats 8000000 in
theorem sym_step (key : Int → Int) (g n bA a m b : Nat) (f : Nat → Int) (w0 w : World) (HC : Hid (CmpOk key n g bA w0)) (ham : a + 1 < m) (hmb : m + 1 < b) (hb : b ≤ n) (hn : n ≤ 1000000) (h : IA w g n f) (ho : OnlyG g w0 w) (hv : ValF f n) (hl : SrtF key f a m) (hr : SrtF key f m b) (hc : CrsF f a m b)
    (IH : ∀ (a' m' b' : Nat) (f' : Nat → Int) (w' : World), b' - a' < b - a → a' < m' → m' < b' → b' ≤ n → IA w' g n f' → OnlyG g w0 w' → ValF f' n → SrtF key f' a' m' → SrtF key f' m' b' → CrsF f' a' m' b' →
      Calls Tryd.prog 104 #[.slice (some ⟨g, 0, none⟩) n n, .int .i64 a', .int .i64 m', .int .i64 b', .func (.func 62) #[] #[.pointer (some ⟨bA, 0, none⟩)]] w' (Merged key n g a' b' f' w')) :
    Calls Tryd.prog 104 #[.slice (some ⟨g, 0, none⟩) n n, .int .i64 a, .int .i64 m, .int .i64 b, .func (.func 62) #[] #[.pointer (some ⟨bA, 0, none⟩)]] w (Merged key n g a b f w) := by
  obtain ⟨u, hu⟩ : ∃ u, u = m - a := ⟨_, rfl⟩
  have s0 : (m : Int) - (a : Int) = (u : Int) := by omega
  have u1 : ((u : Int) == 1) = false := beq_eq_false_iff_ne.2 (by omega)
  have u2 : (u : Int) ≠ 1 := by omega
  have wu := wrapN (x := u) (by omega)
  obtain ⟨v, hvv⟩ : ∃ v, v = b - m := ⟨_, rfl⟩
  have s1 : (b : Int) - (m : Int) = (v : Int) := by omega
  have v1 : ((v : Int) == 1) = false := beq_eq_false_iff_ne.2 (by omega)
  have v2 : (v : Int) ≠ 1 := by omega
  have wv := wrapN (x := v) (by omega)
  obtain ⟨z, hz⟩ : ∃ z, z = a + b := ⟨_, rfl⟩
  obtain ⟨mid, hmid⟩ : ∃ mid, mid = z / 2 := ⟨_, rfl⟩
  obtain ⟨nn, hnn⟩ : ∃ nn, nn = mid + m := ⟨_, rfl⟩
  obtain ⟨p, hp⟩ : ∃ p, p = nn - 1 := ⟨_, rfl⟩
  have sz : (a : Int) + (b : Int) = (z : Int) := by omega
  have wz := wrapN (x := z) (by omega)
  have wz2 : IntKind.u64.wrap (z : Int) = (z : Int) := by rw [IntKind.wrap_u64]; omega
  have sh : ((z : Int)) / 2 = (mid : Int) := by omega
  have wm := wrapN (x := mid) (by omega)
  have sn : (mid : Int) + (m : Int) = (nn : Int) := by omega
  have wn := wrapN (x := nn) (by omega)
  have sp : (nn : Int) - 1 = (p : Int) := by omega
  have wp := wrapN (x := p) (by omega)
  obtain ⟨lo, hi, hlh1, hlh2⟩ : ∃ lo hi : Nat, (mid < m → lo = nn - b ∧ hi = mid) ∧ (¬ mid < m → lo = a ∧ hi = m) := by
    by_cases hx : mid < m
    · exact ⟨nn - b, mid, fun _ => ⟨rfl, rfl⟩, fun h => absurd hx h⟩
    · exact ⟨a, m, fun h => absurd h hx, fun _ => ⟨rfl, rfl⟩⟩
  have k0 : lo ≤ hi ∧ a ≤ lo ∧ hi ≤ m ∧ hi + m ≤ nn ∧ nn ≤ lo + b ∧ hi ≤ mid ∧ (lo = a ∨ nn = lo + b) ∧ (hi = m ∨ nn = hi + m) := by
    by_cases hx : mid < m
    · obtain ⟨rfl, rfl⟩ := hlh1 hx
      omega
    · obtain ⟨rfl, rfl⟩ := hlh2 hx
      omega
  obtain ⟨k1, k2, k3, k4, k5, k6, k7, k8⟩ := k0
  have hsb : mid < m → (nn : Int) - (b : Int) = (lo : Int) := fun hx => by
    obtain ⟨h1, -⟩ := hlh1 hx
    omega
  have wlo := wrapN (x := lo) (by omega)
  have hma : a < mid ∧ mid < b := by omega
  have HK := Lib.hid (show (lo = a ∨ nn = lo + b) ∧ (hi = m ∨ nn = hi + m) from ⟨k7, k8⟩)
  have HL1 := Lib.hid hlh1
  have HL2 := Lib.hid hlh2
  have HSB := Lib.hid hsb
  have HN := Lib.hid (show nn = mid + m ∧ p = nn - 1 ∧ mid = (a + b) / 2 by omega)
  have HI := Lib.hid h
  have HO := Lib.hid ho
  have HV := Lib.hid hv
  have HL := Lib.hid hl
  have HR := Lib.hid hr
  have HX := Lib.hid hc
  have HIH := Lib.hid IH
  clear hu hvv hz hmid hnn hp hlh1 hlh2 hsb k7 k8 h ho hv hl hr hc IH
  go_enter Tryd.func104, Tryd.ntmps104
  go_upto_if 140 with fail
  go_cut [20, 21] from 141 to 146 (fun x y wx => x = .int .i64 lo ∧ y = .int .i64 hi ∧ wx = w)
  case first =>
    by_cases hx : mid < m
    · have hsl := HSB.out hx
      go_wp2_with fail
      go_meet
      obtain ⟨e1, e2⟩ := HL1.out hx
      exact ⟨by first | rfl | rw [e1], by rw [e2], rfl⟩
    · go_wp2_with fail
      go_meet
      obtain ⟨e1, e2⟩ := HL2.out hx
      exact ⟨by rw [e1], by rw [e2], rfl⟩
  case rest =>
  obtain ⟨rfl, rfl, rfl⟩ := hcut
  go_wp2_with fail
  go_loopw [20, 21] (fun iv jv wr => ∃ i j q : Nat, lo ≤ i ∧ i ≤ j ∧ j ≤ hi ∧ iv = .int .i64 i ∧ jv = .int .i64 j ∧ wr = wc.drewN q ∧ (lo < i → LexI key (f (i - 1)) (f (nn - 1 - (i - 1)))) ∧ (j < hi → LexI key (f (nn - 1 - j)) (f j))) (fun iv jv _ => (intOf jv).toNat - (intOf iv).toNat)
  case atStart => exact ⟨lo, hi, 0, Nat.le_refl _, k1, Nat.le_refl _, rfl, rfl, rfl, fun h => by omega, fun h => by omega⟩
  case round =>
    obtain ⟨i, j, q, c1, c2, c3, rfl, rfl, rfl, l1, l2⟩ := hrel
    have L1 := Lib.hid l1
    have L2 := Lib.hid l2
    clear l1 l2
    by_cases hij : i < j
    · obtain ⟨t, ht⟩ : ∃ t, t = (i + j) / 2 := ⟨_, rfl⟩
      have t0 : i ≤ t := by omega
      have t1 : t < j := by omega
      obtain ⟨y, hy⟩ : ∃ y, y = i + j := ⟨_, rfl⟩
      have sy : (i : Int) + (j : Int) = (y : Int) := by omega
      have wy := wrapN (x := y) (by omega)
      have wy2 : IntKind.u64.wrap (y : Int) = (y : Int) := by rw [IntKind.wrap_u64]; omega
      have sh2 : ((y : Int)) / 2 = (t : Int) := by omega
      obtain ⟨o, hoo⟩ : ∃ o, o = nn - 1 - t := ⟨_, rfl⟩
      obtain ⟨hn1, hn2, hn3⟩ := HN.out
      have so : (p : Int) - (t : Int) = (o : Int) := by omega
      have wo := wrapN (x := o) (by omega)
      have o0 : m ≤ o := by omega
      have o1 : o < b := by omega
      have HT := Lib.hid ht
      have HOO := Lib.hid hoo
      clear hy ht hoo hn1 hn2 hn3
      go_upto_region 35 with fail
      have T0 : (0 : Int) ≤ (t : Int) := by omega
      have T1 : (t : Int) < (n : Int) := by omega
      have O0 : (0 : Int) ≤ (o : Int) := by omega
      have O1 : (o : Int) < (n : Int) := by omega
      have wt := wrapN (x := t) (by omega)
      have ct := HI.out.cell (k := t) (by omega)
      have co := HI.out.cell (k := o) (by omega)
      obtain ⟨ft, hft⟩ : ∃ ft, ft = f t := ⟨_, rfl⟩
      obtain ⟨fo, hfo⟩ : ∃ fo, fo = f o := ⟨_, rfl⟩
      have vt := HV.out t (by omega)
      have vo := HV.out o (by omega)
      have hcr := HX.out t o (by omega) (by omega) o0 o1
      rw [← hft] at ct vt hcr
      rw [← hfo] at co vo hcr
      have CC := Lib.hid (show ∀ W, OnlyG g w0 W → Calls Tryd.prog 62 #[.int .i64 fo, .int .i64 ft, .pointer (some ⟨bA, 0, none⟩)] W fun e w' => e = .returned (.int .i64 (cmpI (key fo) (key ft))) ∧ ∃ q, w' = W.drewN q from fun W hW => HC.out W hW fo ft vo.1 vo.2 vt.1 vt.2)
      have HFT := Lib.hid hft
      have HFO := Lib.hid hfo
      by_cases hk : key fo < key ft
      · have HK2 := Lib.hid (cmpI_lt hk)
        have L3 := Lib.hid (show t < hi → LexI key (f (nn - 1 - t)) (f t) from fun _ => by rw [← HOO.out, ← HFT.out, ← HFO.out]; exact .of_lt hk)
        clear hk hft hfo vt vo hcr
        go_region_held3 (fun W => W.cell? ⟨g, o, none⟩ = some (.int .i64 fo) ∧ W.cell? ⟨g, t, none⟩ = some (.int .i64 ft))
          (first | go_keep | exact ⟨co, ct⟩)
          ((go_at_call 62; refine (CC.out _ (HO.out.drewN (q + 1))).mono ?_; rw [HK2.out]; rintro e w6 ⟨rfl, q6, rfl⟩))
        go_wp2_with fail
        go_roundw
        case rel => exact ⟨i, t, q + 1 + q6, c1, t0, by omega, rfl, rfl, rfl, L1.out, L3.out⟩
        case measure => simp [intOf]; omega
      · obtain ⟨x, hx0, hx⟩ := cmpI_ge hk
        have hx1 : decide (x < 0) = false := decide_eq_false hx0
        have hx2 : (0 : Int) ≤ x := by omega
        have HK2 := Lib.hid hx
        have L3 := Lib.hid (show lo < t + 1 → LexI key (f (t + 1 - 1)) (f (nn - 1 - (t + 1 - 1))) from fun _ => by rw [show t + 1 - 1 = t by omega, ← HOO.out, ← HFT.out, ← HFO.out]; exact .of_le hk hcr)
        clear hk hft hfo vt vo hcr hx
        go_region_held3 (fun W => W.cell? ⟨g, o, none⟩ = some (.int .i64 fo) ∧ W.cell? ⟨g, t, none⟩ = some (.int .i64 ft))
          (first | go_keep | exact ⟨co, ct⟩)
          ((go_at_call 62; refine (CC.out _ (HO.out.drewN (q + 1))).mono ?_; rw [HK2.out]; rintro e w6 ⟨rfl, q6, rfl⟩))
        go_wp2_with fail
        go_roundw
        case rel => exact ⟨t + 1, j, q + 1 + q6, by omega, by omega, c3, by go_num, rfl, rfl, L3.out, L2.out⟩
        case measure => simp [intOf]; omega
    · obtain rfl : i = j := by omega
      obtain ⟨X, hX⟩ : ∃ X : World, X = wc.drewN q := ⟨_, rfl⟩
      have HIX := Lib.hid (show IA X g n f by rw [hX]; exact HI.out.drewN q)
      have HOX := Lib.hid (show OnlyG g wc X by rw [hX]; exact (OnlyG.refl _ _).drewN q)
      rw [← hX]
      obtain ⟨e, he⟩ : ∃ e, e = nn - i := ⟨_, rfl⟩
      have se : (nn : Int) - (i : Int) = (e : Int) := by omega
      have we := wrapN (x := e) (by omega)
      have hmd : i + (nn - i - m) = mid := by have := HN.out; omega
      have HF := sym_end c1 c3 k2 k3 k4 k5 HK.out.1 HK.out.2 L1.out L2.out HL.out HR.out HX.out
      rw [hmd, ← he] at HF
      have HF := Lib.hid HF
      have q1 : m ≤ e := by omega
      have q2 : e ≤ b := by omega
      have q3 : i ≤ mid := by omega
      have q4 : mid ≤ e := by have := HN.out; omega
      have q5 : i ≤ m := by omega
      have q6 : a ≤ i := by omega
      clear hX he hmd L1 L2 HK HL HR
      go_upto_region 39 with fail
      go_cut [185] from 178 to 185 (fun x wx => x = .bool (decide (i < m ∧ m < e)) ∧ wx = X)
      case first =>
        by_cases d1 : i < m
        · have d3 : (i : Int) < (m : Int) := by omega
          by_cases d2 : m < e
          · have d4 : (m : Int) < (e : Int) := by omega
            go_wp2_with fail
            go_meet
            rw [decide_eq_true (show i < m ∧ m < e from ⟨d1, d2⟩)]
            exact ⟨rfl, rfl⟩
          · have d4 : ¬ (m : Int) < (e : Int) := by omega
            go_wp2_with fail
            go_meet
            rw [decide_eq_false (show ¬ (i < m ∧ m < e) from fun h => d2 h.2)]
            exact ⟨by first | rfl | simp [d2], rfl⟩
        · have d3 : ¬ (i : Int) < (m : Int) := by omega
          go_wp2_with fail
          go_meet
          rw [decide_eq_false (show ¬ (i < m ∧ m < e) from fun h => d1 h.1)]
          exact ⟨rfl, rfl⟩
      case rest =>
      obtain ⟨hbx, hwc⟩ := hcut
      obtain ⟨bb, hbb⟩ : ∃ bb, bb = decide (i < m ∧ m < e) := ⟨_, rfl⟩
      rw [← hbb] at hbx
      subst hbx
      have HBB := Lib.hid hbb
      clear hbb
      rename World => V0
      have HIX0 := Lib.hid (show IA V0 g n f by rw [hwc]; exact HIX.out)
      have HOX0 := Lib.hid (show OnlyG g wc V0 by rw [hwc]; exact HOX.out)
      clear hwc HIX HOX
      obtain ⟨F1, hF1⟩ : ∃ F1, F1 = rotF f i m e := ⟨_, rfl⟩
      have HRB := Lib.hid (show SubF f F1 a b ∧ OutF f F1 a b by rw [hF1]; exact ⟨(rotF_sub f q5 q1).wide (rotF_out f q5 q1) q6 q2, (rotF_out f q5 q1).wide q6 q2⟩)
      rw [← hF1] at HF
      have HF1 := Lib.hid hF1
      clear hF1 X
      go_upto_if 185 with fail
      go_cut [] from 186 to 191 (fun wx => IA wx g n F1 ∧ OnlyG g wc wx)
      case first =>
        cases bb with
        | true =>
          have d1 := of_decide_eq_true HBB.out.symm
          clear HBB
          obtain ⟨d1, d2⟩ := d1
          go_wp2_with fail
          refine (rot_any g n i m e f _ V0 HIX0.out d1 d2 (Nat.le_trans q2 hb) hn).mono ?_
          rintro e9 w9 ⟨rfl, r9, o9⟩
          rw [← HF1.out] at r9
          have R9 := Lib.hid r9
          have O9 := Lib.hid (HOX0.out.trans o9)
          clear r9 o9
          go_wp2_with fail
          go_meet
          exact ⟨R9.out, O9.out⟩
        | false =>
          have d1 := of_decide_eq_false HBB.out.symm
          clear HBB
          have hz : F1 = f := by rw [HF1.out]; exact rotF_nil f i m e (by omega)
          clear d1
          go_wp2_with fail
          go_meet
          rw [hz]
          exact ⟨HIX0.out, HOX0.out⟩
      case rest =>
      rename World => V1
      have HI1 := Lib.hid hcut.1
      have HO1 := Lib.hid hcut.2
      clear hcut HIX0 HOX0 HF1 V0
      have HV1 := Lib.hid (HV.out.sub HRB.out.1 HRB.out.2 hb)
      go_upto_region 41 with fail
      go_cut [199] from 192 to 199 (fun x wx => x = .bool (decide (a < i ∧ i < mid)) ∧ wx = V1)
      case first =>
        by_cases d1 : a < i
        · have d3 : (a : Int) < (i : Int) := by omega
          by_cases d2 : i < mid
          · have d4 : (i : Int) < (mid : Int) := by omega
            go_wp2_with fail
            go_meet
            rw [decide_eq_true (show a < i ∧ i < mid from ⟨d1, d2⟩)]
            exact ⟨rfl, rfl⟩
          · have d4 : ¬ (i : Int) < (mid : Int) := by omega
            go_wp2_with fail
            go_meet
            rw [decide_eq_false (show ¬ (a < i ∧ i < mid) from fun h => d2 h.2)]
            exact ⟨by first | rfl | simp [d2], rfl⟩
        · have d3 : ¬ (a : Int) < (i : Int) := by omega
          go_wp2_with fail
          go_meet
          rw [decide_eq_false (show ¬ (a < i ∧ i < mid) from fun h => d1 h.1)]
          exact ⟨rfl, rfl⟩
      case rest =>
      obtain ⟨hbx, hwc⟩ := hcut
      obtain ⟨bb, hbb⟩ : ∃ bb, bb = decide (a < i ∧ i < mid) := ⟨_, rfl⟩
      rw [← hbb] at hbx
      subst hbx
      have HBB := Lib.hid hbb
      clear hbb
      rename World => V2
      have HI2 := Lib.hid (show IA V2 g n F1 by rw [hwc]; exact HI1.out)
      have HO2 := Lib.hid (show OnlyG g wc V2 by rw [hwc]; exact HO1.out)
      clear hwc HI1 HO1 V1
      go_upto_if 199 with fail
      go_cut [] from 200 to 205 (fun wx => ∃ G, IA wx g n G ∧ OnlyG g wc wx ∧ SrtF key G a mid ∧ SubF F1 G a mid ∧ OutF F1 G a mid)
      case first =>
        cases bb with
        | true =>
          have d1 := of_decide_eq_true HBB.out.symm
          clear HBB
          obtain ⟨d1, d2⟩ := d1
          go_wp2_with fail
          refine (HIH.out a i mid F1 V2 (by omega) d1 d2 (by omega) HI2.out (HO.out.trans HO2.out) HV1.out HF.out.l1 HF.out.l2 HF.out.lc).mono ?_
          rintro e9 w9 ⟨rfl, G, r1, r2, r3, r4, r5⟩
          have R9 := Lib.hid (show ∃ G, IA w9 g n G ∧ OnlyG g wc w9 ∧ SrtF key G a mid ∧ SubF F1 G a mid ∧ OutF F1 G a mid from ⟨G, r1, HO2.out.trans r2, r3, r4, r5⟩)
          clear r1 r2 r3 r4 r5
          go_wp2_with fail
          go_meet
          exact R9.out
        | false =>
          have d1 := of_decide_eq_false HBB.out.symm
          clear HBB
          have hs : SrtF key F1 a mid := by
            by_cases d2 : i = a
            · have := HF.out.l2; rw [d2] at this; exact this
            · have := HF.out.l1; rw [show i = mid by omega] at this; exact this
          have HS := Lib.hid hs
          clear d1 hs
          go_wp2_with fail
          go_meet
          exact ⟨F1, HI2.out, HO2.out, HS.out, SubF.refl _ _ _, fun _ _ => rfl⟩
      case rest =>
      rename World => V3
      obtain ⟨G1, g1, g2, g3, g4, g5⟩ := hcut
      have HG1 := Lib.hid g1
      have HG2 := Lib.hid g2
      have HG := Lib.hid (show SrtF key G1 a mid ∧ SubF F1 G1 a mid ∧ OutF F1 G1 a mid from ⟨g3, g4, g5⟩)
      have HVG := Lib.hid (HV1.out.sub g4 g5 (by omega))
      have HR1 := Lib.hid (show SrtF key G1 mid e ∧ SrtF key G1 e b ∧ CrsF G1 mid e b from ⟨HF.out.r1.out g5 (.inr (Nat.le_refl _)), HF.out.r2.out g5 (.inr q4), HF.out.rc.out g5 (.inr (Nat.le_refl _))⟩)
      clear g1 g2 g3 g4 g5 HI2 HO2 V2 HV1
      go_upto_region 43 with fail
      go_cut [213] from 206 to 213 (fun x wx => x = .bool (decide (mid < e ∧ e < b)) ∧ wx = V3)
      case first =>
        by_cases d1 : mid < e
        · have d3 : (mid : Int) < (e : Int) := by omega
          by_cases d2 : e < b
          · have d4 : (e : Int) < (b : Int) := by omega
            go_wp2_with fail
            go_meet
            rw [decide_eq_true (show mid < e ∧ e < b from ⟨d1, d2⟩)]
            exact ⟨rfl, rfl⟩
          · have d4 : ¬ (e : Int) < (b : Int) := by omega
            go_wp2_with fail
            go_meet
            rw [decide_eq_false (show ¬ (mid < e ∧ e < b) from fun h => d2 h.2)]
            exact ⟨by first | rfl | simp [d2], rfl⟩
        · have d3 : ¬ (mid : Int) < (e : Int) := by omega
          go_wp2_with fail
          go_meet
          rw [decide_eq_false (show ¬ (mid < e ∧ e < b) from fun h => d1 h.1)]
          exact ⟨rfl, rfl⟩
      case rest =>
      obtain ⟨hbx, hwc⟩ := hcut
      obtain ⟨bb, hbb⟩ : ∃ bb, bb = decide (mid < e ∧ e < b) := ⟨_, rfl⟩
      rw [← hbb] at hbx
      subst hbx
      have HBB := Lib.hid hbb
      clear hbb
      rename World => V4
      have HI4 := Lib.hid (show IA V4 g n G1 by rw [hwc]; exact HG1.out)
      have HO4 := Lib.hid (show OnlyG g wc V4 by rw [hwc]; exact HG2.out)
      clear hwc HG1 HG2 V3
      cases bb with
      | true =>
        have d1 := of_decide_eq_true HBB.out.symm
        clear HBB
        obtain ⟨d1, d2⟩ := d1
        go_wp2_with fail
        refine (HIH.out mid e b G1 V4 (by omega) d1 d2 hb HI4.out (HO.out.trans HO4.out) HVG.out HR1.out.1 HR1.out.2.1 HR1.out.2.2).mono ?_
        rintro e9 w9 ⟨rfl, H9, r1, r2, r3, r4, r5⟩
        obtain ⟨z1, z2, z3⟩ := half_done (Nat.le_of_lt hma.1) (Nat.le_of_lt hma.2) HF.out.lr HG.out.1 HG.out.2.1 HG.out.2.2 r3 r4 r5
        have R9 := Lib.hid (show ∃ f', IA w9 g n f' ∧ OnlyG g wc w9 ∧ SrtF key f' a b ∧ SubF f f' a b ∧ OutF f f' a b from ⟨H9, r1, HO4.out.trans r2, z1, HRB.out.1.trans z2, HRB.out.2.trans z3⟩)
        clear r1 r2 r3 r4 r5 z1 z2 z3
        go_wp2_with fail
        go_end0
        exact ⟨rfl, R9.out⟩
      | false =>
        have d1 := of_decide_eq_false HBB.out.symm
        clear HBB
        have hs : SrtF key G1 mid b := by
          by_cases d2 : e = mid
          · have := HR1.out.2.1; rw [d2] at this; exact this
          · have := HR1.out.1; rw [show e = b by omega] at this; exact this
        obtain ⟨z1, z2, z3⟩ := half_done (Nat.le_of_lt hma.1) (Nat.le_of_lt hma.2) HF.out.lr HG.out.1 HG.out.2.1 HG.out.2.2 hs (SubF.refl _ _ _) (fun _ _ => rfl)
        have R9 := Lib.hid (show ∃ f', IA V4 g n f' ∧ OnlyG g wc V4 ∧ SrtF key f' a b ∧ SubF f f' a b ∧ OutF f f' a b from ⟨G1, HI4.out, HO4.out, z1, HRB.out.1.trans z2, HRB.out.2.trans z3⟩)
        clear d1 hs z1 z2 z3
        go_wp2_with fail
        go_end0
        exact ⟨rfl, R9.out⟩
theorem sym_any (key : Int → Int) (g n bA : Nat) (w0 : World) (HC : Hid (CmpOk key n g bA w0)) (hn : n ≤ 1000000) : ∀ (s a m b : Nat) (f : Nat → Int) (w : World), b - a ≤ s → a < m → m < b → b ≤ n → IA w g n f → OnlyG g w0 w → ValF f n → SrtF key f a m → SrtF key f m b → CrsF f a m b →
    Calls Tryd.prog 104 #[.slice (some ⟨g, 0, none⟩) n n, .int .i64 a, .int .i64 m, .int .i64 b, .func (.func 62) #[] #[.pointer (some ⟨bA, 0, none⟩)]] w (Merged key n g a b f w) := by
  intro s
  induction s with
  | zero => intro a m b f w h1 h2 h3; omega
  | succ s ih =>
    intro a m b f w h1 h2 h3 h4 h5 h6 h7 h8 h9 h10
    by_cases c1 : m = a + 1
    · exact sym_one key g n bA a m b f w0 w HC c1 h3 h4 hn h5 h6 h7 h9 h10
    · by_cases c2 : b = m + 1
      · exact sym_last key g n bA a m b f w0 w HC (by omega) c2 h4 hn h5 h6 h7 h8 h10
      · exact sym_step key g n bA a m b f w0 w HC (by omega) (by omega) h4 hn h5 h6 h7 h8 h9 h10 fun a' m' b' f' w' g1 => ih a' m' b' f' w' (by omega)
end Go.Proofs.YthgpbdlmadjndaaDoor
