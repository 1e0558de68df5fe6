/- floodgateref1's leastRate, DelayOf at 130000 ticks, BusyOf. Conditions: right lines, few bytes at once. -/
import Derived.Test.YteeaipehkhldhaaDoorCvRef
import Derived.Test.YteeaipehkhldhaaDoorBzyP
namespace Go.Proofs.YteeaipehkhldhaaDoor
open Go.RowKit
set_option maxRecDepth 100000
def lrF : Int → List Ln → Int
  | r, [] => r
  | r, x :: t => lrF (if x.r < r then x.r else r) t
def lrL (l : List Ln) : Int := match l with | [] => 0 | x :: t => lrF x.r (x :: t)
theorem lrF_spec (l : List Ln) (r : Int) : lrF r l ≤ r ∧ (∀ x ∈ l, lrF r l ≤ x.r) ∧ (lrF r l = r ∨ ∃ x ∈ l, lrF r l = x.r) := by
  induction l generalizing r with
  | nil => simp [lrF]
  | cons x t ih =>
    rw [lrF]
    obtain ⟨h1, h2, h3⟩ := ih (if x.r < r then x.r else r)
    have h4 : (if x.r < r then x.r else r) ≤ r ∧ (if x.r < r then x.r else r) ≤ x.r := by split <;> omega
    refine ⟨by omega, fun z hz => ?_, ?_⟩
    · rcases List.mem_cons.1 hz with rfl | hz
      · omega
      · exact h2 z hz
    · rcases h3 with h3 | ⟨z, hz, e⟩
      · by_cases hc : x.r < r
        · rw [if_pos hc] at h3 ⊢; exact .inr ⟨x, List.mem_cons_self, h3⟩
        · rw [if_neg hc] at h3 ⊢; exact .inl h3
      · exact .inr ⟨z, List.mem_cons_of_mem _ hz, e⟩
theorem lrL_spec {l : List Ln} (h : 0 < l.length) : (∀ x ∈ l, lrL l ≤ x.r) ∧ ∃ x ∈ l, lrL l = x.r := by
  cases l with
  | nil => simp at h
  | cons x t =>
    obtain ⟨h1, h2, h3⟩ := lrF_spec (x :: t) x.r
    refine ⟨h2, ?_⟩
    rcases h3 with h3 | h3
    · exact ⟨x, List.mem_cons_self, h3⟩
    · exact h3
theorem lr_top {l : List Ln} {per : Int} (h : 0 < l.length) (hok : ∀ x ∈ l, okLn x) (hp : 1 ≤ per) : 1000 < lrL l * per ↔ dTop per l = 0 := by
  obtain ⟨h1, x, hx, e⟩ := lrL_spec h
  rw [(dTop_spec hok).2.1]
  constructor
  · intro hg z hz
    have := Int.mul_le_mul_of_nonneg_right (h1 z hz) (show 0 ≤ per by omega)
    refine ⟨fun e0 => ?_, fun e0 => by omega⟩
    rw [e0, Int.zero_mul] at this
    omega
  · intro hg
    obtain ⟨g1, g2⟩ := hg x hx
    have := (hok x hx).2.2.1
    rw [e]
    omega
theorem lr_bz {l : List Ln} {per : Int} (h : 0 < l.length) (hok : ∀ x ∈ l, okLn x) (hp : 1 ≤ per) : 1000 ≤ lrL l * per ↔ bzV per l = 0 := by
  obtain ⟨h1, x, hx, e⟩ := lrL_spec h
  rw [(bzV_spec hp hok).2.1]
  constructor
  · intro hg z hz
    have := Int.mul_le_mul_of_nonneg_right (h1 z hz) (show 0 ≤ per by omega)
    omega
  · intro hg
    have := hg x hx
    rw [e]
    exact this
theorem leastRate_any (A : Option Addr) (c : Nat) (l : List Ln) (w : World) (B : Nat) (h : RdL w B A l) (hl : l.length ≤ 9223372036854775807) (h0 : 0 < l.length) :
    Calls Tryd.prog 73 #[.slice A l.length c] w fun e w' => e = .returned (.int .i64 (lrL l)) ∧ w' = w := by
  obtain ⟨b, o, rfl, hb, d0, d1⟩ := RdL.get h h0
  simp only [Nat.zero_mul, Nat.add_zero] at d0 d1
  have q0 : (0 : Int) < (l.length : Int) := by omega
  go_enter Tryd.func73, Tryd.ntmps73
  go_wp2_with fail
  go_loopw [3, 4] (fun rv iv wr => ∃ (k : Nat) (r : Int), k ≤ l.length ∧ iv = .int .i64 k ∧ rv = .int .i64 r ∧ lrL l = lrF r (l.drop k) ∧ wr = w) (fun _ iv _ => l.length - (intOf iv).toNat)
  case atStart => exact ⟨0, _, Nat.zero_le _, rfl, rfl, by cases l with | nil => simp at h0 | cons x t => rfl, rfl⟩
  case round =>
    obtain ⟨k, r, hk, rfl, rfl, hv, hwr⟩ := hrel
    obtain rfl : w = wr := hwr.symm
    have HV := Lib.hid hv
    clear hwr hv d0 d1
    by_cases hlt : k < l.length
    · obtain ⟨b', o', he, hb', e0, e1⟩ := RdL.get h hlt
      simp only [Option.some.injEq, Addr.mk.injEq, and_true] at he
      obtain ⟨rfl, rfl⟩ := he
      have hd : l.drop k = l[k] :: l.drop (k + 1) := List.drop_eq_getElem_cons hlt
      have HD := Lib.hid hd
      clear hd
      by_cases hc : l[k].r < r
      · have E := Lib.hid (show lrL l = lrF l[k].r (l.drop (k + 1)) by rw [HV.out, HD.out, lrF, if_pos hc])
        go_wp2_with fail
        go_roundw
        case rel => exact ⟨k + 1, l[k].r, hlt, by go_num, rfl, E.out, by first | rfl | trivial⟩
        case measure => simp [intOf]; omega
      · have E := Lib.hid (show lrL l = lrF r (l.drop (k + 1)) by rw [HV.out, HD.out, lrF, if_neg hc])
        go_wp2_with fail
        go_roundw
        case rel => exact ⟨k + 1, r, hlt, by go_num, rfl, E.out, by first | rfl | trivial⟩
        case measure => simp [intOf]; omega
    · have E := Lib.hid (show lrL l = r by rw [HV.out, List.drop_eq_nil_of_le (by omega)]; rfl)
      go_wp2_with fail
      go_ret
      exact ⟨ret_int E.out.symm, rfl⟩
def dOfV (per : Int) (l : List Ln) : Int := if dTop per l = 0 then 0 else dBest per l
def dOfB (per : Int) (l : List Ln) : Bool := !decide (dTop per l = 0)
def bOfB (per : Int) (l : List Ln) : Bool := !decide (bzV per l = 0)
theorem dOf_no {per : Int} {l : List Ln} (h : dTop per l = 0) : dOfV per l = 0 ∧ dOfB per l = false := by unfold dOfV dOfB; rw [if_pos h, decide_eq_true h]; exact ⟨rfl, rfl⟩
theorem dOf_yes {per : Int} {l : List Ln} (h : dTop per l ≠ 0) : dOfV per l = dBest per l ∧ dOfB per l = true := by unfold dOfV dOfB; rw [if_neg h, decide_eq_false h]; exact ⟨rfl, rfl⟩
structure DO (l : List Ln) (per : Int) (t : Nat) (best : Int) : Prop where
  b : -10000000000000 ≤ best ∧ best ≤ 200000000000000000
  ge : ∀ s : Nat, s < t → per * valueL l s - s ≤ best
  at_ : 0 < t → ∃ s : Nat, s < t ∧ best = per * valueL l s - s
theorem DO.step {l : List Ln} {per : Int} {t : Nat} {best : Int} (h : DO l per t best) (hb : -10000000000000 ≤ per * valueL l t - t ∧ per * valueL l t - t ≤ 200000000000000000) : DO l per (t + 1) (if t = 0 ∨ best < per * valueL l t - t then per * valueL l t - t else best) := by
  by_cases hc : t = 0 ∨ best < per * valueL l t - t
  · rw [if_pos hc]
    refine ⟨hb, fun s hs => ?_, fun _ => ⟨t, by omega, rfl⟩⟩
    by_cases hst : s = t
    · subst hst; omega
    · have := h.ge s (by omega)
      rcases hc with e | e <;> omega
  · rw [if_neg hc]
    refine ⟨h.b, fun s hs => ?_, fun _ => ?_⟩
    · by_cases hst : s = t
      · subst hst; omega
      · exact h.ge s (by omega)
    · obtain ⟨s, hs, e⟩ := h.at_ (by omega)
      exact ⟨s, by omega, e⟩
theorem DO.best {l : List Ln} {per best : Int} (h : DO l per 130001 best) (hp : 1 ≤ per) (hok : ∀ x ∈ l, okLn x) (hl : 0 < l.length) (h0 : 0 < dTop per l) (hsm : ∀ x ∈ l, x.b ≤ 60) : best = dBest per l := by
  obtain ⟨T, T0, hT, hTb⟩ := delay_hit hp hok hl h0
  have hT1 := hTb hsm
  obtain ⟨s, hs, e⟩ := h.at_ (by omega)
  have h1 := delay_top hp hok hl h0 (T := s) (by omega) (by omega)
  have h2 := h.ge T.toNat (by omega)
  rw [show ((T.toNat : Nat) : Int) = T by omega] at h2
  omega
set_option maxHeartbeats 4000000 in
theorem delayOf_any (A : Option Addr) (c : Nat) (l : List Ln) (per : Int) (w : World) (B : Nat) (hB : B ≤ w.heap.size) (h : RdL w B A l) (hl : l.length ≤ 9223372036854775807) (h0 : 0 < l.length) (hok : ∀ x ∈ l, okLn x) (p0 : 1 ≤ per) (p1 : per ≤ 1000) (hsm : ∀ x ∈ l, x.b ≤ 60) :
    Calls Tryd.prog 45 #[.slice A l.length c, .int .i64 per, .int .i64 130000] w fun e w' => e = .returned (.tuple #[.int .i64 (dOfV per l), .bool (dOfB per l)]) ∧ Below w.heap.size w w' := by
  obtain ⟨h1, x, hx, e⟩ := lrL_spec h0
  have r0 : 0 ≤ lrL l := by rw [e]; exact (hok x hx).2.2.1
  have r1 : lrL l ≤ 100000 := by rw [e]; exact (hok x hx).2.2.2
  have m0 : 0 ≤ lrL l * per := Int.mul_nonneg r0 (by omega)
  have m1 : lrL l * per ≤ 100000 * 1000 := Int.mul_le_mul r1 p1 (by omega) (by omega)
  have HT := Lib.hid (lr_top h0 hok p0)
  have HOK := Lib.hid hok
  have HSM := Lib.hid hsm
  clear hok hsm h1 e hx
  by_cases hg : 1000 < lrL l * per
  · have E := Lib.hid (HT.out.1 hg)
    go_enter Tryd.func45, Tryd.ntmps45
    go_wp2_with fail
    refine (leastRate_any A c l w B h hl h0).mono ?_
    rintro e wx ⟨rfl, rfl⟩
    go_wp2_with fail
    go_ret2
    rw [(dOf_no E.out).1, (dOf_no E.out).2]
    exact ⟨rfl, Below.refl _ _⟩
  · have hd : dTop per l ≠ 0 := fun e => hg (HT.out.2 e)
    have E := Lib.hid hd
    clear hd
    go_enter Tryd.func45, Tryd.ntmps45
    go_wp2_with fail
    refine (leastRate_any A c l w B h hl h0).mono ?_
    rintro e wx ⟨rfl, rfl⟩
    go_wp2_with fail
    go_loopw [8, 9] (fun bv tv wr => ∃ (t : Nat) (best : Int), t ≤ 130001 ∧ tv = .int .i64 t ∧ bv = .int .i64 best ∧ DO l per t best ∧ Below wx.heap.size wx wr) (fun _ tv _ => 130001 - (intOf tv).toNat)
    case atStart => exact ⟨0, 0, by omega, rfl, rfl, ⟨by omega, fun s hs => by omega, fun hs => by omega⟩, Below.refl _ _⟩
    case round =>
      obtain ⟨t, best, ht, rfl, rfl, hdo, hbw⟩ := hrel
      have DOH := Lib.hid hdo
      have bb := hdo.b
      clear hdo
      by_cases hlt : t ≤ 130000
      · have v0 := valueL_pos h0 HOK.out (t := t) (by omega)
        have v1 := valueL_top h0 HOK.out (t := t) (by omega) (by omega)
        obtain ⟨v, hv⟩ : ∃ v, v = valueL l t := ⟨_, rfl⟩
        have HV := Lib.hid hv
        rw [← hv] at v0 v1
        have n0 : 0 ≤ per * v := Int.mul_nonneg (by omega) (by omega)
        have n1 : per * v ≤ 1000 * 109951162797600 := Int.mul_le_mul p1 v1 (by omega) (by omega)
        have hst := DOH.out.step (by rw [← hv]; omega)
        rw [← hv] at hst
        have HST := Lib.hid hst
        clear hv hst
        go_wp2_with fail
        refine (atOf_any A c l t wr B (Nat.le_trans hB hbw.size) (h.below (hbw.mono hB)) hl h0 HOK.out (by omega) (by omega)).mono ?_
        rw [← HV.out]
        rintro e w2 ⟨rfl, k2⟩
        have k2' := hbw.trans (k2.mono hbw.size)
        by_cases ht0 : t = 0
        · subst ht0
          go_wp2_with fail
          go_roundw
          case rel => exact ⟨1, per * v - 0, by omega, by go_num, by simp, by have := HST.out; simpa using this, k2'⟩
          case measure => simp [intOf]
        · have hb0 : ((t : Int) == 0) = false := beq_eq_false_iff_ne.2 (by omega)
          by_cases hbt : best < per * v - t
          · have hst2 := HST.out
            rw [if_pos (.inr hbt)] at hst2
            have HST2 := Lib.hid hst2
            clear ht0 hst2
            go_wp2_with fail
            go_roundw
            case rel => exact ⟨t + 1, per * v - t, by omega, by go_num, rfl, HST2.out, k2'⟩
            case measure => simp [intOf]; omega
          · have hst2 := HST.out
            rw [if_neg (fun e => e.elim ht0 hbt)] at hst2
            have HST2 := Lib.hid hst2
            clear ht0 hst2
            go_wp2_with fail
            go_roundw
            case rel => exact ⟨t + 1, best, by omega, by go_num, rfl, HST2.out, k2'⟩
            case measure => simp [intOf]; omega
      · obtain rfl : t = 130001 := by omega
        have hpos : 0 < dTop per l := by have := (dTop_spec (per := per) HOK.out).1; have := E.out; omega
        have EB := Lib.hid (DOH.out.best p0 HOK.out h0 hpos HSM.out)
        go_wp2_with fail
        go_ret2
        rw [(dOf_yes E.out).1, (dOf_yes E.out).2, EB.out]
        exact ⟨rfl, hbw⟩
set_option maxHeartbeats 4000000 in
theorem busyOf_any (A : Option Addr) (c : Nat) (l : List Ln) (per : Int) (w : World) (B : Nat) (hB : B ≤ w.heap.size) (h : RdL w B A l) (hl : l.length ≤ 9223372036854775807) (h0 : 0 < l.length) (hok : ∀ x ∈ l, okLn x) (p0 : 1 ≤ per) (p1 : per ≤ 1000) :
    Calls Tryd.prog 46 #[.slice A l.length c, .int .i64 per] w fun e w' => e = .returned (.tuple #[.int .i64 (bzV per l), .bool (bOfB per l)]) ∧ Below w.heap.size w w' := by
  obtain ⟨h1, x, hx, e⟩ := lrL_spec h0
  have r0 : 0 ≤ lrL l := by rw [e]; exact (hok x hx).2.2.1
  have r1 : lrL l ≤ 100000 := by rw [e]; exact (hok x hx).2.2.2
  have m0 : 0 ≤ lrL l * per := Int.mul_nonneg r0 (by omega)
  have m1 : lrL l * per ≤ 100000 * 1000 := Int.mul_le_mul r1 p1 (by omega) (by omega)
  have HT := Lib.hid (lr_bz h0 hok p0)
  have HOK := Lib.hid hok
  clear hok h1 e hx
  by_cases hg : 1000 ≤ lrL l * per
  · have E := Lib.hid (HT.out.1 hg)
    have EB := Lib.hid (show bOfB per l = false by unfold bOfB; rw [E.out]; rfl)
    go_enter Tryd.func46, Tryd.ntmps46
    go_wp2_with fail
    refine (leastRate_any A c l w B h hl h0).mono ?_
    rintro e wx ⟨rfl, rfl⟩
    go_wp2_with fail
    go_ret2
    rw [E.out, EB.out]
    exact ⟨rfl, Below.refl _ _⟩
  · have hd : bzV per l ≠ 0 := fun e => hg (HT.out.2 e)
    have EB := Lib.hid (show bOfB per l = true by unfold bOfB; rw [decide_eq_false hd]; rfl)
    have EB := Lib.hid (show bOfB per l = true by unfold bOfB; rw [decide_eq_false hd]; rfl)
    have hp : 0 < bzV per l := by have := (bzV_spec p0 HOK.out).1; omega
    obtain ⟨hs1, _⟩ := bz_small p0 p1 HOK.out
    have hend := bz_end p0 HOK.out hp
    obtain ⟨v, hv⟩ : ∃ v, v = bzV per l := ⟨_, rfl⟩
    have HV := Lib.hid hv
    rw [← hv] at hd hp hs1 hend ⊢
    have HEND := Lib.hid hend
    have HD := Lib.hid hd
    clear hd hv hend
    go_enter Tryd.func46, Tryd.ntmps46
    go_wp2_with fail
    refine (leastRate_any A c l w B h hl h0).mono ?_
    rintro e wx ⟨rfl, rfl⟩
    go_wp2_with fail
    go_loopw [6] (fun tv wr => ∃ t : Nat, 1 ≤ t ∧ (t : Int) ≤ v ∧ tv = .int .i64 t ∧ Below wx.heap.size wx wr) (fun tv _ => v.toNat - (intOf tv).toNat)
    case atStart => exact ⟨1, by omega, by omega, rfl, Below.refl _ _⟩
    case round =>
      obtain ⟨t, ht1, htv, rfl, hbw⟩ := hrel
      have v0 := valueL_pos h0 HOK.out (t := t) (by omega)
      have v1 := valueL_top h0 HOK.out (t := t) (by omega) (by omega)
      have hmono := valueL_mono h0 HOK.out htv
      have hlow : (t : Int) < v → (t : Int) < per * valueL l t := fun hx => bz_low p0 h0 HOK.out (by omega) (by rw [← HV.out]; exact hx)
      obtain ⟨y, hy⟩ : ∃ y, y = valueL l t := ⟨_, rfl⟩
      have HY := Lib.hid hy
      rw [← hy] at v0 v1 hmono hlow
      have n0 : 0 ≤ per * y := Int.mul_nonneg (by omega) (by omega)
      have n1 : per * y ≤ 1000 * 109951162797600 := Int.mul_le_mul p1 v1 (by omega) (by omega)
      have nle : per * y ≤ v := Int.le_trans (Int.mul_le_mul_of_nonneg_left hmono (by omega)) HEND.out
      clear hy hmono
      go_wp2_with fail
      refine (atOf_any A c l t wr B (Nat.le_trans hB hbw.size) (h.below (hbw.mono hB)) hl h0 HOK.out (by omega) (by omega)).mono ?_
      rw [← HY.out]
      rintro e w2 ⟨rfl, k2⟩
      have k2' := hbw.trans (k2.mono hbw.size)
      by_cases hle : per * y ≤ t
      · have htv2 : (t : Int) = v := by
          by_cases hx : (t : Int) < v
          · have := hlow hx; omega
          · omega
        have HTV := Lib.hid htv2
        clear hlow htv2
        go_wp2_with fail
        go_ret2
        rw [EB.out, HTV.out]
        exact ⟨rfl, k2'⟩
      · clear hlow
        go_wp2_with fail
        go_roundw
        case rel => exact ⟨(per * y).toNat, by omega, by omega, by congr 1; omega, k2'⟩
        case measure => simp [intOf]; omega
end Go.Proofs.YteeaipehkhldhaaDoor
