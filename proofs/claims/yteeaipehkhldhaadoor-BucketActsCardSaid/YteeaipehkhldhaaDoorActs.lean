/- The law BucketActs returns true, whatever its arguments, and changes nothing that was there. Condition: the nine sentinels lie in their variables, apart; errors.errorType holds the type error. -/
import Derived.Test.YteeaipehkhldhaaDoorOpenA
import Derived.Test.YteeaipehkhldhaaDoorBkR
import Derived.Test.YteeaipehkhldhaaDoorFilled
import Derived.Test.YteeaipehkhldhaaDoorCoded1
import Derived.Test.YteeaipehkhldhaaDoorLeave
namespace Go.Proofs.YteeaipehkhldhaaDoor
open Go.RowKit
set_option maxRecDepth 100000
theorem rerr_any (g : Nat) (s : Bu) (t n : Int) (w : World) (h : Blk w g 70 s.rc) :
    Calls Tryd.prog 37 #[.pointer (some ⟨g, 0, none⟩), .int .i64 t, .int .i64 n] w fun e w' => e = .returned (.int .i64 (lookB s t n)) ∧ w = w' := by
  have c4 : w.cell? ⟨g, 4, none⟩ = some (.int .i64 s.last) := h.cell 4
  clear h
  by_cases h1 : t < 0 ∨ 1099511627776 < t ∨ n < 1 ∨ 1500 < n
  · have Hk := Lib.hid (show lookB s t n = 2 from if_pos h1)
    have h2 : t < 0 ∨ (0 ≤ t ∧ 1099511627776 < t) ∨ (0 ≤ t ∧ t ≤ 1099511627776 ∧ n < 1) ∨ (0 ≤ t ∧ t ≤ 1099511627776 ∧ 1 ≤ n ∧ 1500 < n) := by omega
    clear h1
    rcases h2 with h2 | ⟨h2, h3⟩ | ⟨h2, h3, h4⟩ | ⟨h2, h3, h4, h5⟩
    all_goals
      go_enter Tryd.func37, Tryd.ntmps37
      go_wp2_with fail
      go_ret
      exact ⟨by rw [Hk.out]; rfl, rfl⟩
  · have q1 : 0 ≤ t := by omega
    have q2 : t ≤ 1099511627776 := by omega
    have q3 : 1 ≤ n := by omega
    have q4 : n ≤ 1500 := by omega
    by_cases h2 : t < s.last
    · have Hk := Lib.hid (show lookB s t n = 5 from (if_neg h1).trans (if_pos h2))
      clear h1
      go_enter Tryd.func37, Tryd.ntmps37
      go_wp2_with fail
      go_ret
      exact ⟨by rw [Hk.out]; rfl, rfl⟩
    · have Hk := Lib.hid (show lookB s t n = 0 from (if_neg h1).trans (if_neg h2))
      have q5 : s.last ≤ t := by omega
      clear h1 h2
      go_enter Tryd.func37, Tryd.ntmps37
      go_wp2_with fail
      go_ret
      exact ⟨by rw [Hk.out]; rfl, rfl⟩
/-- An error without its place. -/
theorem unplace_any (v : Value) (k : Nat) (a : Int) (S : Nat → Addr) (w : World) (B : Nat) (hB : B ≤ w.heap.size) (h : All9 w B S) (hv : Er w B S v k a) (ha : 0 ≤ a) :
    Calls Tryd.prog 62 #[v] w fun e w' => e = .returned (sv S k) ∧ 1 ≤ k ∧ k ≤ 9 ∧ Below w.heap.size w w' := by
  cases hv with
  | nil => omega
  | bare k h1 h9 => omega
  | fault k h1 h9 b a hb hk =>
    go_enter Tryd.func62, Tryd.ntmps62
    go_wp2_with fail
    refine (as_hit ⟨b, 0, none⟩ w.heap.size (.pointer none) _ ((h.below ((Below.refl _ _).alloc hB _)).g) (Blk.new _ _ _)).mono ?_
    rintro e w1 ⟨rfl, hb4, k1⟩
    have k1' := k1 w.heap.size (Nat.le_refl _)
    have kk : Below w.heap.size w w1 := ((Below.refl _ _).alloc (Nat.le_refl _) _).trans k1'
    have p1 : w1.cell? ⟨w.heap.size, 0, none⟩ = some (.pointer (some ⟨b, 0, none⟩)) := hb4.cell 0
    have hf : Blk w b 40 #[.int .i64 a, sv S k] := hk
    have p2 : w1.cell? ⟨b, 1, none⟩ = some (sv S k) := (hf.below kk hf.lt).cell 1
    clear hb4 k1 k1' hf hk h
    simp only [sv] at p2
    go_wp2_with fail
    go_ret
    exact ⟨rfl, h1, h9, kk⟩
theorem new_bad (x : Ln) (S : Nat → Addr) (w : World) (B : Nat) (hB : B ≤ w.heap.size) (hS : All9 w B S) (hx : lineErr x ≠ 0) :
    Calls Tryd.prog 30 #[.agg #[.int .i64 x.b, .int .i64 x.r]] w fun e w' => e = .returned (.tuple #[.pointer none, sv S 2]) ∧ Below w.heap.size w w' := by
  have hc : crvErr [x] = (2, 0) := by
    have hb : lineB x.b x.r = false := by
      cases hl : lineB x.b x.r
      · rfl
      · exact absurd (by unfold lineErr; rw [hl]; rfl) hx
    unfold crvErr
    rw [if_neg (by simp)]
    have e : badIdx [x] 0 = 0 := by
      unfold badIdx
      rw [hb]
      rfl
    rw [e]
    rfl
  have Hc := Lib.hid hc
  obtain ⟨b, r⟩ := x
  have ba : Below w.heap.size w (w.alloc (.cells #[.int .i64 b, .int .i64 r] 24)) := (Below.refl _ _).alloc (Nat.le_refl _) _
  clear hc hx
  go_enter Tryd.func30, Tryd.ntmps30
  go_wp2_with fail
  refine (check_any (some ⟨w.heap.size + 1, 0, none⟩) 1 [⟨b, r⟩] S _ (w.heap.size + 2) (by simp) (Rd.of_block (heap_alloc_new2 _ _ _) rfl (Nat.lt_succ_self _) (by omega) Ln.cs_len) (((hS.s.sub (by simp)).below ((ba.alloc (by simp) _).mono hB)).more (by omega)) (by simp)).mono ?_
  rintro e w1 ⟨v, rfl, hv, k1⟩
  rw [Hc.out] at hv
  have k2 : Below (w.heap.size + 1) (w.alloc (.cells #[.int .i64 b, .int .i64 r] 24)) w1 := (((Below.refl _ _).alloc (by simp) _)).trans (k1.mono (by simp))
  have k3 := ba.trans (k2.mono (Nat.le_succ _))
  have HV := Lib.hid hv
  obtain ⟨T, a, rfl⟩ := hv.some_of (by simp)
  clear hv
  go_wp2_with fail
  refine (unplace_any _ 2 0 S w1 w1.heap.size (Nat.le_refl _) ((hS.below (k3.mono hB)).more (Nat.le_trans hB k3.size)) HV.out (Int.le_refl _)).mono ?_
  rintro e w2 ⟨rfl, _, _, k4⟩
  go_wp2_with fail
  go_ret2
  exact ⟨rfl, k3.trans (k4.mono k3.size)⟩
theorem whenB_no {s : Bu} {t n : Int} (h : lookB s t n = 0) (hw : (whenB s t n).1 ≠ 0) : whenB s t n = (4, 0) := by
  unfold whenB at hw ⊢
  rw [if_neg (by omega)] at hw ⊢
  split at hw
  · rename_i h1; rw [if_pos h1]
  · rename_i h1
    rw [if_neg h1]
    split at hw
    · exact absurd rfl hw
    · rename_i h2
      rw [if_neg h2]
      split at hw
      · rename_i h3; rw [if_pos h3]
      · rename_i h3
        rw [if_neg h3]
        split at hw
        · rename_i h4; rw [if_pos h4]
        · exact absurd rfl hw
theorem tookB_no {s : Bu} {t n : Int} (h : lookB s t n ≠ 0) : tookB s t n = s := by unfold tookB; rw [if_pos h]
theorem takeB_no {s : Bu} {t n : Int} (h : lookB s t n ≠ 0) : takeB s t n = false := decide_eq_false (fun h9 => h h9.1)
theorem okLn_of {x : Ln} (h : lineErr x = 0) : okLn x := by
  have hb : lineB x.b x.r = true := by
    cases hl : lineB x.b x.r
    · unfold lineErr at h; rw [hl] at h; exact absurd h (by decide)
    · rfl
  unfold lineB at hb
  have := of_decide_eq_true hb
  unfold okLn
  omega
theorem lineErr_two {x : Ln} (h : lineErr x ≠ 0) : lineErr x = 2 := by
  unfold lineErr at h ⊢
  split
  · rename_i h1; rw [if_pos h1] at h; exact absurd rfl h
  · rfl
/-- What holds ahead of each act. -/
structure ActJ (w : World) (g m : Nat) (s : Bu) (wr : World) : Prop where
  b : Blk wr g 106 s.cells
  r : Blk wr m 70 s.rc
  ok : BuOk s
  bel : Below w.heap.size w wr
theorem ActJ.alloc_ {w : World} {g m : Nat} {s : Bu} {wr : World} (h : ActJ w g m s wr) (o : Obj) : ActJ w g m s (wr.alloc o) := ⟨h.b.alloc o, h.r.alloc o, h.ok, h.bel.alloc h.bel.size o⟩
theorem ActJ.below_ {w : World} {g m : Nat} {s : Bu} {wr w' : World} (h : ActJ w g m s wr) (k : Below wr.heap.size wr w') : ActJ w g m s w' := ⟨h.b.below k h.b.lt, h.r.below k h.r.lt, h.ok, h.bel.trans (k.mono h.bel.size)⟩
theorem ActJ.drewN_ {w : World} {g m : Nat} {s : Bu} {wr : World} (h : ActJ w g m s wr) (n : Nat) : ActJ w g m s (wr.drewN n) := ⟨h.b.drewN n, h.r.drewN n, h.ok, below_drewN h.bel n⟩
set_option maxHeartbeats 8000000 in
theorem acts_main (x0 : Ln) (A : Option Addr) (c : Nat) (l : List Ac) (S : Nat → Addr) (w : World) (h : Rd w w.heap.size 3 Ac.cs A l) (hS : All9 w w.heap.size S) (hl : l.length ≤ 100) :
    Calls Tryd.prog 8 #[.agg #[.int .i64 x0.b, .int .i64 x0.r], .slice A l.length c] w fun e w' => e = .returned (.bool true) ∧ Below w.heap.size w w' := by
  have k0 : Below w.heap.size w (w.alloc (.cells #[.int .i64 x0.b, .int .i64 x0.r] 24)) := (Below.refl _ _).alloc (Nat.le_refl _) _
  obtain ⟨w0, hw0⟩ : ∃ w0, w0 = w.alloc (.cells #[.int .i64 x0.b, .int .i64 x0.r] 24) := ⟨_, rfl⟩
  have b0 : Blk w0 w.heap.size 24 #[.int .i64 x0.b, .int .i64 x0.r] := by rw [hw0]; exact Blk.new _ _ _
  rw [← hw0] at k0
  have z0 : w.heap.size < w0.heap.size := b0.lt
  have H0 := Lib.hid hw0
  have B0 := Lib.hid b0
  clear hw0 b0
  go_enter Tryd.func8, Tryd.ntmps8
  go_wp2_with fail
  rw [← H0.out]
  refine (filled_any S w0 (((hS.s.below k0).more k0.size).sub (by simp))).mono ?_
  rintro e w1 ⟨rfl, k1⟩
  have k1' := k0.trans (k1.mono k0.size)
  have b1 := B0.out.below k1 z0
  have x1 : w1.cell? ⟨w.heap.size, 0, none⟩ = some (.int .i64 x0.b) := b1.cell 0
  have y1 : w1.cell? ⟨w.heap.size, 1, none⟩ = some (.int .i64 x0.r) := b1.cell 1
  have z1 : w.heap.size < w1.heap.size := b1.lt
  have B1 := Lib.hid b1
  clear b1
  by_cases he : lineErr x0 = 0
  · go_wp2_with fail
    refine (new_ok x0 S w1 _ (Nat.le_of_lt z1) ((hS.s.below k1').sub (by simp)) (okLn_of he)).mono ?_
    rintro e w2 ⟨g, rfl, bg, hg, k2⟩
    have k2' := k1'.trans (k2.mono (Nat.le_of_lt z1))
    have b2 := B1.out.below k2 z1
    have x2 : w2.cell? ⟨w.heap.size, 0, none⟩ = some (.int .i64 x0.b) := b2.cell 0
    have y2 : w2.cell? ⟨w.heap.size, 1, none⟩ = some (.int .i64 x0.r) := b2.cell 1
    have z2 : w.heap.size < w2.heap.size := b2.lt
    have B2 := Lib.hid b2
    have BG := Lib.hid bg
    clear b2 x1 y1 bg
    go_wp2_with fail
    refine (lineErr_any x0 w2).mono ?_
    rintro e w3 ⟨rfl, k3⟩
    have k3' := k2'.trans (k3.mono (Nat.le_of_lt z2))
    have b3 := B2.out.below k3 z2
    have x3 : w3.cell? ⟨w.heap.size, 0, none⟩ = some (.int .i64 x0.b) := b3.cell 0
    have y3 : w3.cell? ⟨w.heap.size, 1, none⟩ = some (.int .i64 x0.r) := b3.cell 1
    have bg3 := BG.out.below k3 BG.out.lt
    have BG3 := Lib.hid bg3
    have ho := okLn_of he
    obtain ⟨o1, o2, o3, o4⟩ := ho
    have hwm : IntKind.i64.wrap (1000 * x0.b) = 1000 * x0.b := by rw [IntKind.wrap_i64]; omega
    rw [he]
    clear b3 bg3 x2 y2 he
    go_wp2_with fail
    obtain ⟨m, hm⟩ : ∃ m, m = w3.heap.size := ⟨_, rfl⟩
    rw [← hm]
    have j0 : ActJ w g m (newB x0) (w3.alloc (.cells #[.int .i64 x0.b, .int .i64 x0.r, .int .i64 (1000 * x0.b), .int .i64 0, .int .i64 0] 70)) := ⟨BG3.out.alloc _, by rw [hm]; exact Blk.new _ _ _, newB_ok ⟨o1, o2, o3, o4⟩, k3'.alloc k3'.size _⟩
    have J0 := Lib.hid j0
    have hgm : g ≠ m := by have := BG3.out.lt; omega
    have hgw : w.heap.size ≤ g := Nat.le_trans (Nat.le_of_lt z1) hg
    have hmw : w.heap.size ≤ m := by rw [hm]; exact k3'.size
    clear j0 hm x3 y3 hwm
    go_loopw [10] (fun iv wr => ∃ (k : Nat) (s : Bu), k ≤ l.length ∧ iv = .int .i64 k ∧ ActJ w g m s wr) (fun iv _ => l.length - (intOf iv).toNat)
    case atStart => exact ⟨0, newB x0, Nat.zero_le _, rfl, J0.out⟩
    case round =>
      obtain ⟨k, s, hk, rfl, hj⟩ := hrel
      by_cases hlt : k < l.length
      · obtain ⟨b, o, rfl, hb, hc⟩ := Rd.at_ (h.below hj.bel) hlt
        obtain ⟨⟨xs, xa, xn⟩, hx⟩ : ∃ x, x = l[k] := ⟨_, rfl⟩
        rw [← hx] at hc
        have d0 : wr.cell? ⟨b, o + k * 3, none⟩ = some (.string xs) := hc 0 _ rfl
        have d1 : wr.cell? ⟨b, o + k * 3 + 1, none⟩ = some (.int .i64 xa) := hc 1 _ rfl
        have d2 : wr.cell? ⟨b, o + k * 3 + 2, none⟩ = some (.int .i64 xn) := hc 2 _ rfl
        obtain ⟨W0, hW0⟩ : ∃ W0 : World, W0 = wr.alloc (.cells #[.string xs, .int .i64 xa, .int .i64 xn] 72) := ⟨_, rfl⟩
        obtain ⟨q, hq⟩ : ∃ q, q = wr.heap.size := ⟨_, rfl⟩
        have j1 : ActJ w g m s W0 := by rw [hW0]; exact hj.alloc_ _
        have bq : Blk W0 q 72 #[.string xs, .int .i64 xa, .int .i64 xn] := by rw [hW0, hq]; exact Blk.new _ _ _
        have hqg : g ≠ q := by have := hj.b.lt; omega
        have hqm : m ≠ q := by have := hj.r.lt; omega
        have e0 : W0.cell? ⟨q, 0, none⟩ = some (.string xs) := bq.cell 0
        have e1 : W0.cell? ⟨q, 1, none⟩ = some (.int .i64 xa) := bq.cell 1
        have e2 : W0.cell? ⟨q, 2, none⟩ = some (.int .i64 xn) := bq.cell 2
        have HW0 := Lib.hid hW0
        have HQ := Lib.hid hq
        have J1 := Lib.hid j1
        have BQ := Lib.hid bq
        have r1 : (k : Int) < (l.length : Int) := by omega
        have r2 : (0 : Int) ≤ (k : Int) := by omega
        obtain ⟨E, hE⟩ : ∃ E, E = lookB s xa xn := ⟨_, rfl⟩
        have HE := Lib.hid hE
        clear hj hc hx hW0 hq j1 bq hE
        go_wp2_with fail
        rw [← HQ.out, ← HW0.out]
        refine (rerr_any m s xa xn W0 J1.out.r).mono ?_
        rintro e wx ⟨rfl, rfl⟩
        rw [← HE.out]
        have zw0 := J1.out.bel.size
        have lg := J1.out.b.lt
        have lm := J1.out.r.lt
        have lq := BQ.out.lt
        have SW := Lib.hid (show Snt W0 w.heap.size S [2, 5] from (hS.s.below J1.out.bel).sub (by simp))
        cases ht : (xs.toList == [116, 97, 107, 101])
        · cases ht2 : (xs.toList == [119, 104, 101, 110])
          · obtain ⟨E1, hE1⟩ : ∃ E1, E1 = lookB s xa 1 := ⟨_, rfl⟩
            have HE1 := Lib.hid hE1
            clear hE1
            go_wp2_with fail
            refine (has_any g s xa S W0 _ hgw SW.out J1.out.b J1.out.ok).mono ?_
            rintro e w2 ⟨v, rfl, ev, m2, hw2⟩
            rw [← HE1.out] at ev
            have J2 := Lib.hid (show ActJ w g m s w2 by rw [hw2]; exact J1.out.drewN_ _)
            have c1 : w2.cell? ⟨q, 1, none⟩ = some (.int .i64 xa) := by rw [hw2]; exact e1
            have zw2 := J2.out.bel.size
            clear hw2
            by_cases h0 : E1 = 0
            · subst h0
              obtain rfl := ev.nil_of rfl
              have hlk : lookB s xa 1 = 0 := HE1.out.symm
              obtain ⟨q1, q2, q3, q4, q5⟩ := lookB_ok hlk
              have q6 := J1.out.ok.a2
              have Hh := Lib.hid (show hasV s xa = holdsB s xa from if_pos hlk)
              rw [Hh.out]
              clear hlk
              go_wp2_with fail
              refine (rerr_any m s xa 1 w2 J2.out.r).mono ?_
              rintro e wx ⟨rfl, rfl⟩
              rw [← HE1.out]
              go_wp2_with fail
              refine (coded_any .nilIface 0 (-1) S w2 w.heap.size zw2 (hS.below J2.out.bel) .nil rfl).mono ?_
              rintro e w3 ⟨rfl, k3⟩
              have J3 := Lib.hid (J2.out.below_ k3)
              have c2 : w3.cell? ⟨q, 1, none⟩ = some (.int .i64 xa) := (k3.cell (p := ⟨q, 1, none⟩) (World.block_lt_of_cell? _ _ c1)).trans c1
              go_wp2_with fail
              refine (hasAt_any m s xa w3 J3.out.r J3.out.ok (by omega) q2).mono ?_
              rintro e w4 ⟨rfl, m4, hw4⟩
              have J4 := Lib.hid (show ActJ w g m s w4 by rw [hw4]; exact J3.out.drewN_ _)
              clear hw4
              go_wp2_with fail
              go_roundw
              case rel => exact ⟨k + 1, s, hlt, by go_num, J4.out⟩
              case measure => simp [intOf]; omega
            · have hE2 : ((E1 : Int) == 0) = false := beq_eq_false_iff_ne.2 (by omega)
              have hE3 : (0 : Int) < (E1 : Int) := by omega
              have Hh := Lib.hid (show hasV s xa = 0 from if_neg (by rw [← HE1.out]; exact h0))
              rw [Hh.out]
              have Ev := Lib.hid ev
              clear h0 ev
              go_wp2_with fail
              refine (rerr_any m s xa 1 w2 J2.out.r).mono ?_
              rintro e wx ⟨rfl, rfl⟩
              rw [← HE1.out]
              go_wp2_with fail
              refine (coded_any v E1 (-1) S w2 w2.heap.size (Nat.le_refl _) ((hS.below J2.out.bel).more zw2) Ev.out rfl).mono ?_
              rintro e w3 ⟨rfl, k3⟩
              have J3 := Lib.hid (J2.out.below_ k3)
              go_wp2_with fail
              go_roundw
              case rel => exact ⟨k + 1, s, hlt, by go_num, J3.out⟩
              case measure => simp [intOf]; omega
          · go_wp2_with fail
            refine (when_any g s xa xn S W0 _ hgw ((hS.s.below J1.out.bel).sub (by simp)) J1.out.b J1.out.ok).mono ?_
            rintro e w2 ⟨v, rfl, ev, m2, hw2⟩
            have J2 := Lib.hid (show ActJ w g m s w2 by rw [hw2]; exact J1.out.drewN_ _)
            have c1 : w2.cell? ⟨q, 1, none⟩ = some (.int .i64 xa) := by rw [hw2]; exact e1
            have c2 : w2.cell? ⟨q, 2, none⟩ = some (.int .i64 xn) := by rw [hw2]; exact e2
            have zw2 := J2.out.bel.size
            clear hw2
            by_cases h0 : E = 0
            · subst h0
              have hlk : lookB s xa xn = 0 := HE.out.symm
              have Hlk := Lib.hid hlk
              by_cases hw : (whenB s xa xn).1 = 0
              · obtain ⟨T0, hT0⟩ : ∃ T0, T0 = (whenB s xa xn).2 := ⟨_, rfl⟩
                have hwr : whenR s xa xn = T0 := by unfold whenR; rw [if_pos hw, hT0]
                obtain ⟨_, g1, g2⟩ := whenB_le J1.out.ok hw
                obtain ⟨q1, _, _, _, _⟩ := lookB_ok hlk
                rw [← hT0] at g1 g2 ⊢
                have g3 : 0 ≤ T0 := by omega
                obtain rfl := ev.nil_of hw
                have HR := Lib.hid hwr
                clear hw hT0 hwr hlk ev
                go_wp2_with fail
                refine (rwhen_any m s xa xn w2 J2.out.r J2.out.ok Hlk.out).mono ?_
                rintro e w3 ⟨rfl, m3, hw3⟩
                rw [HR.out]
                have J3 := Lib.hid (show ActJ w g m s w3 by rw [hw3]; exact J2.out.drewN_ _)
                clear hw3
                go_wp2_with fail
                refine (coded_any .nilIface 0 (-1) S w3 w.heap.size J3.out.bel.size (hS.below J3.out.bel) .nil rfl).mono ?_
                rintro e w4 ⟨rfl, k4⟩
                have J4 := Lib.hid (J3.out.below_ k4)
                go_wp2_with fail
                go_roundw
                case rel => exact ⟨k + 1, s, hlt, by go_num, J4.out⟩
                case measure => simp [intOf]; omega
              · have hwn := whenB_no hlk hw
                have hwr : whenR s xa xn = -1 := by unfold whenR; rw [if_neg hw]
                rw [hwn] at ev ⊢
                have HR := Lib.hid hwr
                have Ev := Lib.hid ev
                clear hw hwr hwn hlk ev
                go_wp2_with fail
                refine (rwhen_any m s xa xn w2 J2.out.r J2.out.ok Hlk.out).mono ?_
                rintro e w3 ⟨rfl, m3, hw3⟩
                rw [HR.out]
                have J3 := Lib.hid (show ActJ w g m s w3 by rw [hw3]; exact J2.out.drewN_ _)
                have ev3 : Er w3 w2.heap.size S v 4 (-1) := by rw [hw3]; exact Ev.out.below (below_drewN (Below.refl _ _) _)
                have zw3 : w2.heap.size ≤ w3.heap.size := by rw [hw3]; exact Nat.le_refl _
                clear hw3
                go_wp2_with fail
                have hco := coded_any v 4 (-1) S w3 w2.heap.size zw3 ((hS.below J3.out.bel).more zw2) ev3 rfl
                rw [show ((4 : Nat) : Int) = 4 from rfl] at hco
                refine hco.mono ?_
                rintro e w4 ⟨rfl, k4⟩
                have J4 := Lib.hid (J3.out.below_ k4)
                go_wp2_with fail
                go_roundw
                case rel => exact ⟨k + 1, s, hlt, by go_num, J4.out⟩
                case measure => simp [intOf]; omega
            · have hE2 : ((E : Int) == 0) = false := beq_eq_false_iff_ne.2 (by omega)
              have hE3 : (0 : Int) < (E : Int) := by omega
              have hwn : whenB s xa xn = (E, 0) := by unfold whenB; rw [if_pos (by rw [← HE.out]; exact h0), ← HE.out]
              rw [hwn] at ev ⊢
              have Ev := Lib.hid ev
              clear h0 ev hwn
              go_wp2_with fail
              refine (coded_any v E (-1) S w2 w2.heap.size (Nat.le_refl _) ((hS.below J2.out.bel).more zw2) Ev.out rfl).mono ?_
              rintro e w3 ⟨rfl, k3⟩
              have J3 := Lib.hid (J2.out.below_ k3)
              go_wp2_with fail
              go_roundw
              case rel => exact ⟨k + 1, s, hlt, by go_num, J3.out⟩
              case measure => simp [intOf]; omega
        · go_wp2_with fail
          refine (take_any g s xa xn S W0 _ hgw SW.out J1.out.b J1.out.ok).mono ?_
          rintro e w2 ⟨v, rfl, ev, bg2, on2⟩
          rw [← HE.out] at ev
          have k2 : Below w.heap.size w w2 := J1.out.bel.trans (on2.bel.mono hgw)
          have bm2 : Blk w2 m 70 s.rc := J1.out.r.same (on2.blk m hgm.symm)
          have bq2 := BQ.out.same (on2.blk q hqg.symm)
          have c1 : w2.cell? ⟨q, 1, none⟩ = some (.int .i64 xa) := bq2.cell 1
          have c2 : w2.cell? ⟨q, 2, none⟩ = some (.int .i64 xn) := bq2.cell 2
          have BM2 := Lib.hid bm2
          have BG2 := Lib.hid bg2
          have Ev := Lib.hid ev
          have lg2 := bg2.lt
          have lm2 := bm2.lt
          clear on2 bm2 bq2 bg2
          by_cases h0 : E = 0
          · subst h0
            obtain rfl := ev.nil_of rfl
            have Hlk := Lib.hid (show lookB s xa xn = 0 from HE.out.symm)
            clear ev
            go_wp2_with fail
            refine (coded_any .nilIface 0 (-1) S w2 w.heap.size k2.size (hS.below k2) .nil rfl).mono ?_
            rintro e w3 ⟨rfl, k3⟩
            have c13 : w3.cell? ⟨q, 1, none⟩ = some (.int .i64 xa) := (k3.cell (p := ⟨q, 1, none⟩) (World.block_lt_of_cell? _ _ c1)).trans c1
            have c23 : w3.cell? ⟨q, 2, none⟩ = some (.int .i64 xn) := (k3.cell (p := ⟨q, 2, none⟩) (World.block_lt_of_cell? _ _ c2)).trans c2
            have k3' := k2.trans (k3.mono k2.size)
            cases htk : takeB s xa xn
            all_goals
              go_wp2_with fail
              refine (rtake_any m s xa xn w3 (BM2.out.below k3 lm2) J1.out.ok Hlk.out).mono ?_
              rw [htk]
              rintro e w4 ⟨rfl, bm4, on4⟩
              have J4 := Lib.hid (show ActJ w g m (tookB s xa xn) w4 from ⟨(BG2.out.below k3 lg2).same (on4.blk g hgm), bm4, tookB_ok J1.out.ok xa xn, k3'.trans (on4.bel.mono hmw)⟩)
              clear bm4 on4
              go_wp2_with fail
              go_roundw
              case rel => exact ⟨k + 1, _, hlt, by go_num, J4.out⟩
              case measure => simp [intOf]; omega
          · have hE2 : ((E : Int) == 0) = false := beq_eq_false_iff_ne.2 (by omega)
            have hne : lookB s xa xn ≠ 0 := by rw [← HE.out]; exact h0
            have htn := takeB_no hne
            have hto := tookB_no hne
            rw [htn]
            have BG3 := Lib.hid (show Blk w2 g 106 s.cells by have := BG2.out; rw [hto] at this; exact this)
            clear h0 hne htn hto ev
            go_wp2_with fail
            refine (coded_any v E (-1) S w2 w2.heap.size (Nat.le_refl _) ((hS.below k2).more k2.size) Ev.out rfl).mono ?_
            rintro e w3 ⟨rfl, k3⟩
            go_wp2_with fail
            go_roundw
            case rel => exact ⟨k + 1, s, hlt, by go_num, ⟨BG3.out.below k3 lg2, BM2.out.below k3 lm2, J1.out.ok, k2.trans (k3.mono k2.size)⟩⟩
            case measure => simp [intOf]; omega
      · have kw := hj.bel
        go_wp2_with fail
        go_ret
        exact ⟨rfl, kw⟩
  · have hE3 : (0 : Int) < lineErr x0 := by rw [lineErr_two he]; decide
    have Hl2 := Lib.hid (lineErr_two he)
    have He := Lib.hid he
    clear he
    go_wp2_with fail
    refine (new_bad x0 S w1 _ (Nat.le_of_lt z1) (hS.below k1') He.out).mono ?_
    rintro e w2 ⟨rfl, k2⟩
    have k2' := k1'.trans (k2.mono (Nat.le_of_lt z1))
    have b2 := B1.out.below k2 z1
    have x2 : w2.cell? ⟨w.heap.size, 0, none⟩ = some (.int .i64 x0.b) := b2.cell 0
    have y2 : w2.cell? ⟨w.heap.size, 1, none⟩ = some (.int .i64 x0.r) := b2.cell 1
    clear b2 x1 y1
    go_wp2_with fail
    refine (lineErr_any x0 w2).mono ?_
    rintro e w3 ⟨rfl, k3⟩
    have k3' := k2'.trans (k3.mono k2'.size)
    rw [Hl2.out]
    go_wp2_with fail
    have hco := coded_any (sv S 2) 2 (-1) S w3 w.heap.size k3'.size (hS.below k3') (.bare 2 (by omega) (by omega)) rfl
    rw [show ((2 : Nat) : Int) = 2 from rfl] at hco
    refine hco.mono ?_
    rintro e w4 ⟨rfl, k4⟩
    go_wp2_with fail
    go_ret
    exact ⟨by first | rfl | simp, k3'.trans (k4.mono k3'.size)⟩
set_option maxHeartbeats 1000000 in
theorem bucketActs_any (x0 : Ln) (A : Option Addr) (c : Nat) (l : List Ac) (S : Nat → Addr) (w : World) (h : Rd w w.heap.size 3 Ac.cs A l) (hS : All9 w w.heap.size S) (hl : l.length ≤ 9223372036854775807) :
    Calls Tryd.prog 8 #[.agg #[.int .i64 x0.b, .int .i64 x0.r], .slice A l.length c] w fun e w' => e = .returned (.bool true) ∧ Below w.heap.size w w' := by
  by_cases h100 : l.length ≤ 100
  · exact acts_main x0 A c l S w h hS h100
  · have k0 : Below w.heap.size w (w.alloc (.cells #[.int .i64 x0.b, .int .i64 x0.r] 24)) := (Below.refl _ _).alloc (Nat.le_refl _) _
    have h101 : (100 : Int) < (l.length : Int) := by omega
    clear h100
    go_enter Tryd.func8, Tryd.ntmps8
    go_wp2_with fail
    refine (filled_any S _ (((hS.s.below k0).more k0.size).sub (by simp))).mono ?_
    rintro e w1 ⟨rfl, k1⟩
    go_wp2_with fail
    go_ret
    exact ⟨rfl, k0.trans (k1.mono k0.size)⟩
open Go.ChangeShapes Go.WideShapes Go.Deep in
theorem acQ {H : Type} {enc : TypeId × Value → H} {w : World} {base : Nat} {spare : Nat → Bool} {held : Bool} {fs : Array Field} (h : fs.toList.map (fun f => f.type) = [9, 3, 3]) : ∀ (j : Nat) (f : Field), fs[j]? = some f → ∀ (n : Nat) (cs : List Value) (x : DataW H × List MemPlace), DataW.trod enc Tryd.prog w base spare held n f.type cs = some x → ∃ v, cs = [v] ∧ AcQ j v := fun j f hj n cs x ht => by
  have h1 : (fs.toList.map (fun f => f.type))[j]? = some f.type := by rw [List.getElem?_map, Array.getElem?_toList, hj]; rfl
  rw [h] at h1
  match j, h1 with
  | 0, h1 =>
    injection h1 with h1
    rw [← h1] at ht
    obtain ⟨s, e, _⟩ := DataW.trod_string Tryd.underlying9 ht
    exact ⟨_, e, s, rfl⟩
  | 1, h1 =>
    injection h1 with h1
    rw [← h1] at ht
    obtain ⟨m, e, _, wm⟩ := DataW.trod_int Tryd.underlying3 ht
    exact ⟨_, e, m, rfl, wf64_of wm⟩
  | 2, h1 =>
    injection h1 with h1
    rw [← h1] at ht
    obtain ⟨m, e, _, wm⟩ := DataW.trod_int Tryd.underlying3 ht
    exact ⟨_, e, m, rfl, wf64_of wm⟩
  | j + 3, h1 => cases h1
end Go.Proofs.YteeaipehkhldhaaDoor
