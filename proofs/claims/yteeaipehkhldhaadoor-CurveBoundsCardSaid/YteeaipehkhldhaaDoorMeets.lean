/- The law CurveMeets returns true, whatever its arguments, and changes nothing that was there. Condition: the nine sentinels lie in their variables, apart; errors.errorType holds the type error. -/
import Derived.Test.YteeaipehkhldhaaDoorAt
import Derived.Test.YteeaipehkhldhaaDoorDly
import Derived.Test.YteeaipehkhldhaaDoorBzy
import Derived.Deep.CutRange
namespace Go.Proofs.YteeaipehkhldhaaDoor
open Go.RowKit
set_option maxRecDepth 100000
theorem RdI.getM {w : World} {B : Nat} {A : Option Addr} {l : List Int} (h : RdI w B A l) {i : Nat} (hi : i < l.length) : ∃ b o, A = some ⟨b, o, none⟩ ∧ b < B ∧ w.cell? ⟨b, o + i, none⟩ = some (.int .i64 l[i]) := by
  obtain ⟨b, o, e, hb, hc⟩ := h.at_ hi
  have := hc 0 _ rfl
  rw [Nat.mul_one, Nat.add_zero] at this
  exact ⟨b, o, e, hb, this⟩
theorem delay_busy {l : List Ln} {per : Int} (h : (delayErr l per).1 ≠ 0) : (busyErr l per).1 ≠ 0 := by
  unfold delayErr at h
  unfold busyErr
  by_cases hk : (dlkErr l per).1 ≠ 0
  · rw [if_pos hk]; exact hk
  · rw [if_neg hk] at h ⊢
    obtain ⟨hc, p0, p1, _⟩ := dlkErr_ok (show (dlkErr l per).1 = 0 by omega)
    obtain ⟨l1, l6, hok, _⟩ := crvErr_ok hc
    by_cases hd : dTop per l = 0
    · have hb : bzV per l = 0 := (bzV_spec p0 hok).2.1.2 fun x hx => by
        obtain ⟨g1, g2⟩ := (dTop_spec hok).2.1.1 hd x hx
        have := (hok x hx).2.2.1
        omega
      rw [if_pos (.inl hb)]
      omega
    · rw [if_neg hd] at h; simp at h
theorem delay_ok {l : List Ln} {per : Int} (h : (delayErr l per).1 = 0) : (crvErr l).1 = 0 ∧ 1 ≤ per ∧ per ≤ 1000 ∧ 0 < dTop per l ∧ delayV l per = dBest per l ∧ delayErr l per = (0, -1) := by
  have h2 := h
  unfold delayErr at h
  by_cases hk : (dlkErr l per).1 ≠ 0
  · rw [if_pos hk] at h; exact absurd h hk
  · rw [if_neg hk] at h
    obtain ⟨hc, p0, p1, _⟩ := dlkErr_ok (show (dlkErr l per).1 = 0 by omega)
    obtain ⟨l1, l6, hok, _⟩ := crvErr_ok hc
    by_cases hd : dTop per l = 0
    · rw [if_pos hd] at h; simp at h
    · have := (dTop_spec (per := per) hok).1
      exact ⟨hc, p0, p1, by omega, if_pos h2, by unfold delayErr; rw [if_neg hk, if_neg hd]⟩
theorem busy_ok {l : List Ln} {per : Int} (hk : (dlkErr l per).1 = 0) (h : (busyErr l per).1 = 0) : 0 < bzV per l ∧ bzV per l ≤ 1099511627776 ∧ busyV l per = bzV per l := by
  have h2 := h
  obtain ⟨hc, p0, p1, _⟩ := dlkErr_ok hk
  obtain ⟨l1, l6, hok, _⟩ := crvErr_ok hc
  unfold busyErr at h
  rw [if_neg (by omega)] at h
  by_cases hb : bzV per l = 0 ∨ 1099511627776 < bzV per l
  · rw [if_pos hb] at h; simp at h
  · have := (bzV_spec (per := per) p0 hok).1
    exact ⟨by omega, by omega, if_pos h2⟩
theorem busy_no {l : List Ln} {per : Int} (hk : (dlkErr l per).1 = 0) (h : (busyErr l per).1 ≠ 0) : busyErr l per = (4, -1) := by
  unfold busyErr at h ⊢
  rw [if_neg (by omega)] at h ⊢
  by_cases hb : bzV per l = 0 ∨ 1099511627776 < bzV per l
  · rw [if_pos hb]
  · rw [if_neg hb] at h; simp at h
theorem meets_early (A A' : Option Addr) (c c' : Nat) (l : List Ln) (per : Int) (ts : List Int) (S : Nat → Addr) (w : World) (hS : All9 w w.heap.size S) (hl : l.length ≤ 9223372036854775807) (hl2 : ts.length ≤ 9223372036854775807) (hb : 30 < l.length ∨ (l.length ≤ 30 ∧ 60 < ts.length)) :
    Calls Tryd.prog 10 #[.slice A l.length c, .int .i64 per, .slice A' ts.length c'] w fun e w' => e = .returned (.bool true) ∧ Below w.heap.size w w' := by
  rcases hb with h1 | ⟨h1, h2⟩
  all_goals
    go_enter Tryd.func10, Tryd.ntmps10
    go_wp2_with fail
    refine (drawn_any S w _ (Nat.le_refl _) (hS.s.sub (by simp))).mono ?_
    rintro e w1 ⟨rfl, k1⟩
    go_wp2_with fail
    go_ret
    exact ⟨rfl, k1⟩
set_option maxHeartbeats 8000000 in
theorem meets_main (A A' : Option Addr) (c c' : Nat) (l : List Ln) (per : Int) (ts : List Int) (S : Nat → Addr) (w : World) (h : RdL w w.heap.size A l) (h' : RdI w w.heap.size A' ts) (hS : All9 w w.heap.size S) (h30 : l.length ≤ 30) (h60 : ts.length ≤ 60) :
    Calls Tryd.prog 10 #[.slice A l.length c, .int .i64 per, .slice A' ts.length c'] w fun e w' => e = .returned (.bool true) ∧ Below w.heap.size w w' := by
  have hl : l.length ≤ 4294967296 := by omega
  have hl' : l.length ≤ 9223372036854775807 := by omega
  go_enter Tryd.func10, Tryd.ntmps10
  go_wp2_with fail
  refine (drawn_any S w _ (Nat.le_refl _) (hS.s.sub (by simp))).mono ?_
  rintro e w1 ⟨rfl, k1⟩
  go_wp2_with fail
  refine (ownLines_any A c l w1 _ (h.below k1) hl).mono ?_
  rintro e w2 ⟨A2, c2, rfl, o2, k2⟩
  have k2' := k1.trans (k2.mono k1.size)
  go_wp2_with fail
  refine (delay_any A2 c2 l per S w2 _ (Nat.le_refl _) (RdL.of_own o2) (((hS.s.below k2').more k2'.size).sub (by simp)) hl').mono ?_
  rintro e w3 ⟨v3, rfl, e3, k3⟩
  have k3' := k2'.trans (k3.mono k2'.size)
  clear o2
  go_wp2_with fail
  refine (ownLines_any A c l w3 _ (h.below k3') hl).mono ?_
  rintro e w4 ⟨A4, c4, rfl, o4, k4⟩
  have k4' := k3'.trans (k4.mono k3'.size)
  go_wp2_with fail
  refine (busy_any A4 c4 l per S w4 _ (Nat.le_refl _) (RdL.of_own o4) (((hS.s.below k4').more k4'.size).sub (by simp)) hl').mono ?_
  rintro e w5 ⟨v5, rfl, e5, k5⟩
  have k5' := k4'.trans (k5.mono k4'.size)
  clear o4
  have hT := Lib.hid h'
  have hL := Lib.hid h
  have hS9 := Lib.hid hS
  have hSS := Lib.hid (show Snt w w.heap.size S [2, 3] from hS.s.sub (by simp))
  have E5 := Lib.hid e5
  obtain ⟨d, hd⟩ : ∃ d, d = delayV l per := ⟨_, rfl⟩
  obtain ⟨b, hb⟩ : ∃ b, b = busyV l per := ⟨_, rfl⟩
  rw [← hd, ← hb]
  by_cases h1 : (delayErr l per).1 = 0
  · obtain ⟨hc, p0, p1, hd0, hdv, _⟩ := delay_ok h1
    obtain rfl := e3.nil_of h1
    obtain ⟨l1, l6, hok, _⟩ := crvErr_ok hc
    have hk0 : (dlkErr l per).1 = 0 := by unfold dlkErr; rw [if_neg (by omega), if_neg (by omega)]
    have HC := Lib.hid hc
    have HOK := Lib.hid hok
    have HD0 := Lib.hid hd0
    have HD := Lib.hid (hd.trans hdv)
    have hbd := delay_hit p0 hok l1 hd0
    have dlo : -1099511627776 ≤ d := by
      have := delay_top p0 hok l1 hd0 (T := 0) (by omega) (by omega)
      have := Int.mul_nonneg (show 0 ≤ per by omega) (show 0 ≤ valueL l 0 by have := valueL_pos l1 hok (t := 0) (by omega); omega)
      rw [HD.out]
      omega
    clear hbd hdv hd e3
    by_cases h2 : (busyErr l per).1 = 0
    · obtain ⟨hbp, hbt, hbv⟩ := busy_ok hk0 h2
      obtain rfl := e5.nil_of h2
      have HB := Lib.hid (hb.trans hbv)
      rw [← hbv, ← hb] at hbp hbt
      clear hbv hb e5 E5 h1 h2 hc hok hd0 hk0 hS h h'

      go_wp2_with fail
      go_loopw [12] (fun iv wr => ∃ k : Nat, k ≤ ts.length ∧ iv = .int .i64 k ∧ Below w.heap.size w wr ∧ Below w5.heap.size w5 wr) (fun iv _ => ts.length - (intOf iv).toNat)
      case atStart => exact ⟨0, Nat.zero_le _, rfl, k5', Below.refl _ _⟩
      case round =>
        obtain ⟨k, hk, rfl, hbw, h5w⟩ := hrel
        by_cases hlt : k < ts.length
        · as_aux_lemma =>
          obtain ⟨b2, o2, rfl, hb2, c0⟩ := RdI.getM (hT.out.below hbw) hlt
          obtain ⟨t, ht⟩ : ∃ t, t = ts[k] := ⟨_, rfl⟩
          rw [← ht] at c0
          clear ht
          have q1 : (0 : Int) ≤ (k : Int) := by omega
          have q2 : (k : Int) < (ts.length : Int) := by omega
          by_cases htl : t < 0
          · go_wp2_with fail
            go_roundw
            case rel => exact ⟨k + 1, hlt, by go_num, hbw, h5w⟩
            case measure => simp [intOf]; omega
          · by_cases hth : 1099511627776 < t
            · go_wp2_with fail
              go_roundw
              case rel => exact ⟨k + 1, hlt, by go_num, hbw, h5w⟩
              case measure => simp [intOf]; omega
            · have t0 : 0 ≤ t := by omega
              have t1 : t ≤ 1099511627776 := by omega
              have Hn := Lib.hid (show atErr l t = (0, -1) from atErr_of HC.out t0 t1)
              have Hv := Lib.hid (show atVal l t = valueL l t from atVal_of HC.out t0 t1)
              obtain ⟨n, hn⟩ : ∃ n, n = valueL l t := ⟨_, rfl⟩
              have v0 := valueL_pos l1 HOK.out t0
              have v1 := valueL_top l1 HOK.out t0 t1
              have hdel := delay_top p0 HOK.out l1 HD0.out t0 t1
              have hlow : 1 ≤ t → t < b → t < per * valueL l t := fun _ hb => bz_low p0 l1 HOK.out t0 (by rw [← HB.out]; exact hb)
              rw [← hn] at v0 v1 hdel hlow
              rw [← HD.out] at hdel
              have HN := Lib.hid hn
              have n0 : 0 ≤ per * n := Int.mul_nonneg (by omega) (by omega)
              have n1 : per * n ≤ 1000 * 109951162797600 := Int.mul_le_mul p1 v1 (by omega) (by omega)
              have zb := hbw.size
              have hSw := (hSS.out.below hbw).more zb
              have HSW := Lib.hid hSw
              clear hn hSw
              go_upto_region 12 with fail
              go_cut [13, 14] from 57 to 125 (fun s13 s14 wx => s13 = .int .i64 n ∧ s14 = .nilIface ∧ Below w.heap.size w wx ∧ Below w5.heap.size w5 wx)
              case first => as_aux_lemma =>
                go_region_held3 (fun w' => w'.cell? ⟨b2, o2 + k, none⟩ = some (.int .i64 t))
                  (first | go_keep | exact (k6.cell (p := ⟨b2, o2 + k, none⟩) (Nat.lt_of_lt_of_le hb2 zb)).trans c0 | exact (k67.cell (p := ⟨b2, o2 + k, none⟩) (Nat.lt_of_lt_of_le hb2 zb)).trans c0)
                  (first
                    | (go_at_call 18; refine (ownLines_any A c l wr.drew w.heap.size (hL.out.below hbw.drew) hl).mono ?_; rintro e w6 ⟨A6, a6, rfl, o6, k6d⟩; have k6 := below_undrew k6d)
                    | (go_at_call 17; refine (at_any A6 a6 l t S w6 w6.heap.size (Nat.le_refl _) (RdL.of_own o6) ((HSW.out.below k6).more k6.size) hl').mono ?_; rintro e w7 ⟨v7, rfl, e7, k7⟩; obtain rfl := e7.nil_of (by rw [Hn.out]); rw [Hv.out, ← HN.out]; have k67 := k6.trans (k7.mono k6.size)))
                all_goals
                  go_wp2_with fail
                  go_meet
                  exact ⟨rfl, rfl, hbw.trans (k67.mono zb), h5w.trans (k67.mono h5w.size)⟩
              case rest =>
              rename World => V
              obtain ⟨rfl, rfl, kV, k5V⟩ := hcut
              have c1 : V.cell? ⟨b2, o2 + k, none⟩ = some (.int .i64 t) := by
                obtain ⟨b3, o3, e3, hb3, c3⟩ := RdI.getM (hT.out.below kV) hlt
                obtain ⟨b4, o4, e4, hb4, c4⟩ := RdI.getM (hT.out.below hbw) hlt
                rw [e3] at e4
                simp only [Option.some.injEq, Addr.mk.injEq, and_true] at e4 e3
                obtain ⟨rfl, rfl⟩ := e4
                obtain ⟨rfl, rfl⟩ := e3
                rw [c0] at c4
                rw [c3, ← c4]
              have hd1 : ¬ d < per * n - t := by omega
              clear c0 hdel
              by_cases ht1 : 1 ≤ t
              · by_cases htb : t < b
                · have hlo : ¬ per * n ≤ t := by have := hlow ht1 htb; omega
                  clear hlow
                  go_wp2_with fail
                  go_roundw
                  case rel => exact ⟨k + 1, hlt, by go_num, kV, k5V⟩
                  case measure => simp [intOf]; omega
                · clear hlow
                  go_wp2_with fail
                  go_roundw
                  case rel => exact ⟨k + 1, hlt, by go_num, kV, k5V⟩
                  case measure => simp [intOf]; omega
              · clear hlow
                go_wp2_with fail
                go_roundw
                case rel => exact ⟨k + 1, hlt, by go_num, kV, k5V⟩
                case measure => simp [intOf]; omega
        · have zb := hbw.size
          have b0 : 0 ≤ b := by omega
          have hend := bz_end p0 HOK.out (by rw [← HB.out]; exact hbp)
          have hdb : d ≤ b := by
            obtain ⟨T, hT0, h1, _⟩ := delay_hit p0 HOK.out l1 HD0.out
            have := bz_delay p0 l1 HOK.out (by rw [← HB.out]; exact hbp) hT0
            rw [HD.out, HB.out]
            omega
          rw [← HB.out] at hend
          have v0 := valueL_pos l1 HOK.out b0
          have v1 := valueL_top l1 HOK.out b0 (by omega)
          have Hn := Lib.hid (show atErr l b = (0, -1) from atErr_of HC.out b0 (by omega))
          have Hv := Lib.hid (show atVal l b = valueL l b from atVal_of HC.out b0 (by omega))
          obtain ⟨n, hn⟩ : ∃ n, n = valueL l b := ⟨_, rfl⟩
          rw [← hn] at hend v0 v1
          have n0 : 0 ≤ per * n := Int.mul_nonneg (by omega) (by omega)
          have HN := Lib.hid hn
          clear hn
          go_wp2_with fail
          refine (ownLines_any A c l wr _ (hL.out.below hbw) hl).mono ?_
          rintro e w6 ⟨A6, a6, rfl, o6, k6⟩
          have k6' := hbw.trans (k6.mono zb)
          go_wp2_with fail
          refine (at_any A6 a6 l b S w6 w6.heap.size (Nat.le_refl _) (RdL.of_own o6) ((hSS.out.below k6').more k6'.size) hl').mono ?_
          rintro e w7 ⟨v7, rfl, e7, k7⟩
          obtain rfl := e7.nil_of (by rw [Hn.out])
          rw [Hv.out, ← HN.out]
          clear o6 e7
          go_wp2_with fail
          go_ret
          exact ⟨by first | rfl | simp, k6'.trans (k7.mono k6'.size)⟩
    · have heb := busy_no hk0 h2
      have E5 := Lib.hid (show Er w5 w5.heap.size S v5 4 (-1) by rw [heb] at e5; exact e5)
      obtain ⟨T5, a5, rfl⟩ := e5.some_of h2
      clear hb e5 h1 h2 hc hok hd0 hk0 hS h h' heb

      go_wp2_with fail
      go_loopw [12] (fun iv wr => ∃ k : Nat, k ≤ ts.length ∧ iv = .int .i64 k ∧ Below w.heap.size w wr ∧ Below w5.heap.size w5 wr) (fun iv _ => ts.length - (intOf iv).toNat)
      case atStart => exact ⟨0, Nat.zero_le _, rfl, k5', Below.refl _ _⟩
      case round =>
        obtain ⟨k, hk, rfl, hbw, h5w⟩ := hrel
        by_cases hlt : k < ts.length
        · as_aux_lemma =>
          obtain ⟨b2, o2, rfl, hb2, c0⟩ := RdI.getM (hT.out.below hbw) hlt
          obtain ⟨t, ht⟩ : ∃ t, t = ts[k] := ⟨_, rfl⟩
          rw [← ht] at c0
          clear ht
          have q1 : (0 : Int) ≤ (k : Int) := by omega
          have q2 : (k : Int) < (ts.length : Int) := by omega
          by_cases htl : t < 0
          · go_wp2_with fail
            go_roundw
            case rel => exact ⟨k + 1, hlt, by go_num, hbw, h5w⟩
            case measure => simp [intOf]; omega
          · by_cases hth : 1099511627776 < t
            · go_wp2_with fail
              go_roundw
              case rel => exact ⟨k + 1, hlt, by go_num, hbw, h5w⟩
              case measure => simp [intOf]; omega
            · have t0 : 0 ≤ t := by omega
              have t1 : t ≤ 1099511627776 := by omega
              have Hn := Lib.hid (show atErr l t = (0, -1) from atErr_of HC.out t0 t1)
              have Hv := Lib.hid (show atVal l t = valueL l t from atVal_of HC.out t0 t1)
              obtain ⟨n, hn⟩ : ∃ n, n = valueL l t := ⟨_, rfl⟩
              have v0 := valueL_pos l1 HOK.out t0
              have v1 := valueL_top l1 HOK.out t0 t1
              have hdel := delay_top p0 HOK.out l1 HD0.out t0 t1
              rw [← hn] at v0 v1 hdel
              rw [← HD.out] at hdel
              have HN := Lib.hid hn
              have n0 : 0 ≤ per * n := Int.mul_nonneg (by omega) (by omega)
              have n1 : per * n ≤ 1000 * 109951162797600 := Int.mul_le_mul p1 v1 (by omega) (by omega)
              have zb := hbw.size
              have hSw := (hSS.out.below hbw).more zb
              have HSW := Lib.hid hSw
              clear hn hSw
              go_upto_region 12 with fail
              go_cut [13, 14] from 57 to 125 (fun s13 s14 wx => s13 = .int .i64 n ∧ s14 = .nilIface ∧ Below w.heap.size w wx ∧ Below w5.heap.size w5 wx)
              case first => as_aux_lemma =>
                go_region_held3 (fun w' => w'.cell? ⟨b2, o2 + k, none⟩ = some (.int .i64 t))
                  (first | go_keep | exact (k6.cell (p := ⟨b2, o2 + k, none⟩) (Nat.lt_of_lt_of_le hb2 zb)).trans c0 | exact (k67.cell (p := ⟨b2, o2 + k, none⟩) (Nat.lt_of_lt_of_le hb2 zb)).trans c0)
                  (first
                    | (go_at_call 18; refine (ownLines_any A c l wr.drew w.heap.size (hL.out.below hbw.drew) hl).mono ?_; rintro e w6 ⟨A6, a6, rfl, o6, k6d⟩; have k6 := below_undrew k6d)
                    | (go_at_call 17; refine (at_any A6 a6 l t S w6 w6.heap.size (Nat.le_refl _) (RdL.of_own o6) ((HSW.out.below k6).more k6.size) hl').mono ?_; rintro e w7 ⟨v7, rfl, e7, k7⟩; obtain rfl := e7.nil_of (by rw [Hn.out]); rw [Hv.out, ← HN.out]; have k67 := k6.trans (k7.mono k6.size)))
                all_goals
                  go_wp2_with fail
                  go_meet
                  exact ⟨rfl, rfl, hbw.trans (k67.mono zb), h5w.trans (k67.mono h5w.size)⟩
              case rest =>
              rename World => V
              obtain ⟨rfl, rfl, kV, k5V⟩ := hcut
              have c1 : V.cell? ⟨b2, o2 + k, none⟩ = some (.int .i64 t) := by
                obtain ⟨b3, o3, e3, hb3, c3⟩ := RdI.getM (hT.out.below kV) hlt
                obtain ⟨b4, o4, e4, hb4, c4⟩ := RdI.getM (hT.out.below hbw) hlt
                rw [e3] at e4
                simp only [Option.some.injEq, Addr.mk.injEq, and_true] at e4 e3
                obtain ⟨rfl, rfl⟩ := e4
                obtain ⟨rfl, rfl⟩ := e3
                rw [c0] at c4
                rw [c3, ← c4]
              have hd1 : ¬ d < per * n - t := by omega
              clear c0 hdel
              go_wp2_with fail
              go_roundw
              case rel => exact ⟨k + 1, hlt, by go_num, kV, k5V⟩
              case measure => simp [intOf]; omega
        · have zb := hbw.size
          go_wp2_with fail
          refine (coded_any _ 4 (-1) S wr wr.heap.size (Nat.le_refl _) ((hS9.out.below hbw).more zb) ((E5.out.below h5w).more h5w.size) rfl).mono ?_
          rintro e w6 ⟨rfl, k6⟩
          go_wp2_with fail
          go_ret
          exact ⟨by first | rfl | simp, hbw.trans (k6.mono zb)⟩
  · have h2 := delay_busy h1
    have hd0 : d = 0 := by rw [hd]; exact if_neg h1
    have hb0 : b = 0 := by rw [hb]; exact if_neg h2
    obtain ⟨T3, a3, rfl⟩ := e3.some_of h1
    obtain ⟨T5, a5, rfl⟩ := e5.some_of h2
    rw [hd0, hb0]
    clear hd hb hd0 hb0 h1 h2 e3 e5 E5
    go_wp2_with fail
    go_ret
    exact ⟨by first | rfl | simp, k5'⟩
theorem curveMeets_any (A : Option Addr) (c : Nat) (l : List Ln) (per : Int) (A' : Option Addr) (c' : Nat) (ts : List Int) (S : Nat → Addr) (w : World) (h : RdL w w.heap.size A l) (h' : RdI w w.heap.size A' ts) (hS : All9 w w.heap.size S) (hl : l.length ≤ 9223372036854775807) (hl2 : ts.length ≤ 9223372036854775807) :
    Calls Tryd.prog 10 #[.slice A l.length c, .int .i64 per, .slice A' ts.length c'] w fun e w' => e = .returned (.bool true) ∧ Below w.heap.size w w' := by
  by_cases h30 : l.length ≤ 30
  · by_cases h60 : ts.length ≤ 60
    · exact meets_main A A' c c' l per ts S w h h' hS h30 h60
    · exact meets_early A A' c c' l per ts S w hS hl hl2 (.inr ⟨h30, by omega⟩)
  · exact meets_early A A' c c' l per ts S w hS hl hl2 (.inl (by omega))
end Go.Proofs.YteeaipehkhldhaaDoor
