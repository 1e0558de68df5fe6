/- A player plays a command of numbers. Conditions: the script's ground lies; the player lies. A player's line. Conditions: the script's ground lies; the player lies; the line is of at most 1000 bytes. script.Run. Conditions: the script's ground lies; the lines lie, each of at most 1000 bytes. -/
import Derived.Test.YtoomffajodheaaaGreatDoorQScMb
import Derived.Test.YtoomffajodheaaaGreatDoorQScPl
set_option linter.all false
namespace Go.Proofs.YtoomffajodheaaaGreatDoor
open Go.RowKit
set_option maxRecDepth 100000
theorem word4 (word : ByteArray) : (word = wCurve ∧ (word.toList == ([99, 117, 114, 118, 101] : List UInt8)) = true ∧ (word.toList == ([110, 117, 109, 98, 101, 114, 115] : List UInt8)) = false ∧ (word.toList == ([112, 97, 99, 107, 101, 116] : List UInt8)) = false ∧ (word.toList == ([97, 116] : List UInt8)) = false) ∨ (word = wNumbers ∧ (word.toList == ([99, 117, 114, 118, 101] : List UInt8)) = false ∧ (word.toList == ([110, 117, 109, 98, 101, 114, 115] : List UInt8)) = true ∧ (word.toList == ([112, 97, 99, 107, 101, 116] : List UInt8)) = false ∧ (word.toList == ([97, 116] : List UInt8)) = false) ∨ (word = wPacket ∧ (word.toList == ([99, 117, 114, 118, 101] : List UInt8)) = false ∧ (word.toList == ([110, 117, 109, 98, 101, 114, 115] : List UInt8)) = false ∧ (word.toList == ([112, 97, 99, 107, 101, 116] : List UInt8)) = true ∧ (word.toList == ([97, 116] : List UInt8)) = false) ∨ (word = wAt ∧ (word.toList == ([99, 117, 114, 118, 101] : List UInt8)) = false ∧ (word.toList == ([110, 117, 109, 98, 101, 114, 115] : List UInt8)) = false ∧ (word.toList == ([112, 97, 99, 107, 101, 116] : List UInt8)) = false ∧ (word.toList == ([97, 116] : List UInt8)) = true) ∨ (word ≠ wCurve ∧ word ≠ wNumbers ∧ word ≠ wPacket ∧ word ≠ wAt ∧ (word.toList == ([99, 117, 114, 118, 101] : List UInt8)) = false ∧ (word.toList == ([110, 117, 109, 98, 101, 114, 115] : List UInt8)) = false ∧ (word.toList == ([112, 97, 99, 107, 101, 116] : List UInt8)) = false ∧ (word.toList == ([97, 116] : List UInt8)) = false) := by
  by_cases h0 : word = wCurve
  · subst h0
    exact .inl ⟨rfl, tl_eq wCurve, tl_ne (a := wCurve) (b := wNumbers) (by decide), tl_ne (a := wCurve) (b := wPacket) (by decide), tl_ne (a := wCurve) (b := wAt) (by decide)⟩
  by_cases h1 : word = wNumbers
  · subst h1
    exact .inr (.inl ⟨rfl, tl_ne (a := wNumbers) (b := wCurve) (by decide), tl_eq wNumbers, tl_ne (a := wNumbers) (b := wPacket) (by decide), tl_ne (a := wNumbers) (b := wAt) (by decide)⟩)
  by_cases h2 : word = wPacket
  · subst h2
    exact .inr (.inr (.inl ⟨rfl, tl_ne (a := wPacket) (b := wCurve) (by decide), tl_ne (a := wPacket) (b := wNumbers) (by decide), tl_eq wPacket, tl_ne (a := wPacket) (b := wAt) (by decide)⟩))
  by_cases h3 : word = wAt
  · subst h3
    exact .inr (.inr (.inr (.inl ⟨rfl, tl_ne (a := wAt) (b := wCurve) (by decide), tl_ne (a := wAt) (b := wNumbers) (by decide), tl_ne (a := wAt) (b := wPacket) (by decide), tl_eq wAt⟩)))
  exact .inr (.inr (.inr (.inr ⟨h0, h1, h2, h3, tl_ne (b := wCurve) h0, tl_ne (b := wNumbers) h1, tl_ne (b := wPacket) h2, tl_ne (b := wAt) h3⟩)))

theorem bare4 (word : ByteArray) : (word = wClear ∧ (word.toList == ([99, 108, 101, 97, 114] : List UInt8)) = true ∧ (word.toList == ([114, 117, 110] : List UInt8)) = false ∧ (word.toList == ([119, 111, 114, 115, 116] : List UInt8)) = false ∧ (word.toList == ([98, 111, 117, 110, 100] : List UInt8)) = false) ∨ (word = wRun ∧ (word.toList == ([99, 108, 101, 97, 114] : List UInt8)) = false ∧ (word.toList == ([114, 117, 110] : List UInt8)) = true ∧ (word.toList == ([119, 111, 114, 115, 116] : List UInt8)) = false ∧ (word.toList == ([98, 111, 117, 110, 100] : List UInt8)) = false) ∨ (word = wWorst ∧ (word.toList == ([99, 108, 101, 97, 114] : List UInt8)) = false ∧ (word.toList == ([114, 117, 110] : List UInt8)) = false ∧ (word.toList == ([119, 111, 114, 115, 116] : List UInt8)) = true ∧ (word.toList == ([98, 111, 117, 110, 100] : List UInt8)) = false) ∨ (word = wBound ∧ (word.toList == ([99, 108, 101, 97, 114] : List UInt8)) = false ∧ (word.toList == ([114, 117, 110] : List UInt8)) = false ∧ (word.toList == ([119, 111, 114, 115, 116] : List UInt8)) = false ∧ (word.toList == ([98, 111, 117, 110, 100] : List UInt8)) = true) ∨ (word ≠ wClear ∧ word ≠ wRun ∧ word ≠ wWorst ∧ word ≠ wBound ∧ (word.toList == ([99, 108, 101, 97, 114] : List UInt8)) = false ∧ (word.toList == ([114, 117, 110] : List UInt8)) = false ∧ (word.toList == ([119, 111, 114, 115, 116] : List UInt8)) = false ∧ (word.toList == ([98, 111, 117, 110, 100] : List UInt8)) = false) := by
  by_cases h0 : word = wClear
  · subst h0
    exact .inl ⟨rfl, tl_eq wClear, tl_ne (a := wClear) (b := wRun) (by decide), tl_ne (a := wClear) (b := wWorst) (by decide), tl_ne (a := wClear) (b := wBound) (by decide)⟩
  by_cases h1 : word = wRun
  · subst h1
    exact .inr (.inl ⟨rfl, tl_ne (a := wRun) (b := wClear) (by decide), tl_eq wRun, tl_ne (a := wRun) (b := wWorst) (by decide), tl_ne (a := wRun) (b := wBound) (by decide)⟩)
  by_cases h2 : word = wWorst
  · subst h2
    exact .inr (.inr (.inl ⟨rfl, tl_ne (a := wWorst) (b := wClear) (by decide), tl_ne (a := wWorst) (b := wRun) (by decide), tl_eq wWorst, tl_ne (a := wWorst) (b := wBound) (by decide)⟩))
  by_cases h3 : word = wBound
  · subst h3
    exact .inr (.inr (.inr (.inl ⟨rfl, tl_ne (a := wBound) (b := wClear) (by decide), tl_ne (a := wBound) (b := wRun) (by decide), tl_ne (a := wBound) (b := wWorst) (by decide), tl_eq wBound⟩)))
  exact .inr (.inr (.inr (.inr ⟨h0, h1, h2, h3, tl_ne (b := wClear) h0, tl_ne (b := wRun) h1, tl_ne (b := wWorst) h2, tl_ne (b := wBound) h3⟩)))

section
variable (F : Nat → Prop) (pb : Nat) (s : Sc) (S : Nat → Addr) (w : World) (B : Nat) (hpB : B ≤ pb) (hB : B ≤ w.heap.size) (hS : SX w B S) (hm : PMem F w pb s) (hF : ∀ b, F b → b < w.heap.size) (hok : s.ok)
include hpB hB hS hm hF hok
set_option maxHeartbeats 16000000 in
theorem play_any (A' : Option Addr) (c' : Nat) (word : ByteArray) (n : List Int) (hn8 : n.length ≤ 1000000) (hn0 : ∀ x ∈ n, 0 ≤ x) (hr : RdI w w.heap.size A' n) (hnb : 0 < n.length → NotB F pb A') :
    Calls Tryz.prog 41 #[.pointer (some ⟨pb, 0, none⟩), .string word, .slice A' n.length c'] w (EndSc F pb S (playS s word n) w) := by
  have HM := Lib.hid hm
  have HF := Lib.hid hF
  clear hF
  have s1 := (hS.s1 1 (by simp)).2.2
  simp only [G, sv] at s1
  obtain ⟨L, hL⟩ : ∃ L, L = n.length := ⟨_, rfl⟩
  have HLN := Lib.hid hL
  have HR8 := Lib.hid hn8
  have HN0 := Lib.hid hn0
  have HRD := Lib.hid hr
  have HNB := Lib.hid hnb
  have HOK := Lib.hid hok
  have HS := Lib.hid hS
  clear hn8 hn0 hr hnb hok hm
  rw [← hL]
  clear hL
  rcases word4 word with ⟨hw, t1, t2, t3, t4⟩ | ⟨hw, t1, t2, t3, t4⟩ | ⟨hw, t1, t2, t3, t4⟩ | ⟨hw, t1, t2, t3, t4⟩ | ⟨hne1, hne2, hne3, hne4, t1, t2, t3, t4⟩
  · rcases Nat.eq_zero_or_pos L with hl | hl
    · have l0 : ¬ (0 : Int) < (L : Int) := by omega
      have u1 : (word.toList == ([99, 108, 101, 97, 114] : List UInt8)) = false := tl_ne (b := wClear) (by rw [hw]; decide)
      have u2 : (word.toList == ([114, 117, 110] : List UInt8)) = false := tl_ne (b := wRun) (by rw [hw]; decide)
      have u3 : (word.toList == ([119, 111, 114, 115, 116] : List UInt8)) = false := tl_ne (b := wWorst) (by rw [hw]; decide)
      have u4 : (word.toList == ([98, 111, 117, 110, 100] : List UInt8)) = false := tl_ne (b := wBound) (by rw [hw]; decide)
      have HR := Lib.hid (show playS s word n = noS s by unfold playS bareS; rw [if_neg (fun h => by have := HLN.out; have := h.2.1; omega), if_neg (fun h => absurd h.1 (by rw [hw]; decide)), if_neg (fun h => absurd h.1 (by rw [hw]; decide)), if_neg (fun h => absurd h.1 (by rw [hw]; decide)), if_neg (by have := HLN.out; omega), if_neg (by rw [hw]; decide), if_neg (by rw [hw]; decide), if_neg (by rw [hw]; decide), if_neg (by rw [hw]; decide)])
      have HL0 := Lib.hid hl
      clear hl
      have HW := Lib.hid hw
      clear hw
      go_enter Tryz.func41, Tryz.ntmps41
      go_wp2_with fail
      go_region
      all_goals
        go_wp2_with fail
        go_ret2
        rw [HR.out]
        exact ⟨_, _, _, rfl, .bare 1 (by omega) (by omega), fun h9 => absurd (show (1 : Nat) = 0 from h9) (by omega), HM.out.but ((Below.refl _ _).drew), But.of_below ((Below.refl _ _).drew)⟩
    · have l0 : (0 : Int) < (L : Int) := by omega
      obtain ⟨b, o, rfl, hb, e0⟩ := RdI.get HRD.out (i := 0) (by have := HLN.out; omega)
      obtain ⟨y, hy⟩ : ∃ y, y = n.getD 0 0 := ⟨_, rfl⟩
      have g0 : n[0]'(by have := HLN.out; omega) = y := by rw [hy]; simp [List.getD, show 0 < n.length by have := HLN.out; omega]
      rw [g0] at e0
      simp only [Nat.add_zero] at e0
      have HY := Lib.hid hy
      clear hy g0
      by_cases hy : y < 10
      · have HR := Lib.hid (show playS s word n = curveS s n by unfold playS; rw [if_pos ⟨hw, by have := HLN.out; omega, by have := HY.out; omega⟩])
        have HCT := Lib.hid (curve_any F pb s S w B hpB hB HS.out HM.out HF.out HOK.out (some ⟨b, o, none⟩) c' n (by have := HLN.out; omega) HR8.out (by have := HN0.out _ (List.getElem_mem (show 0 < n.length by have := HLN.out; omega)); simpa [List.getD, show 0 < n.length by have := HLN.out; omega] using this) HRD.out (HNB.out (by have := HLN.out; omega)))
        rw [← HLN.out] at HCT
        have HW := Lib.hid hw
        clear hw
        go_enter Tryz.func41, Tryz.ntmps41
        go_wp2_with fail
        refine (HCT.out).mono ?_
        rintro e w3 ⟨t, v, a, rfl, hv, ht, hpm, hbt⟩
        have HV := Lib.hid hv
        have HT := Lib.hid ht
        have HP := Lib.hid hpm
        have HB3 := Lib.hid hbt
        clear hv ht hpm hbt HCT
        go_wp2_with fail
        go_ret2
        rw [HR.out]
        exact ⟨t, v, a, rfl, HV.out, HT.out, HP.out, HB3.out⟩
      · have hy2 : 10 ≤ y := by omega
        have HR := Lib.hid (show playS s word n = noS s by unfold playS; rw [if_neg (fun h => by have := HY.out; have := h.2.2; omega), if_neg (fun h => absurd h.1 (by rw [hw]; decide)), if_neg (fun h => absurd h.1 (by rw [hw]; decide)), if_neg (fun h => absurd h.1 (by rw [hw]; decide)), if_pos (by have := HLN.out; omega)])
        have HW := Lib.hid hw
        clear hw
        go_enter Tryz.func41, Tryz.ntmps41
        go_wp2_with fail
        go_region
        all_goals
          go_wp2_with fail
          go_ret2
          rw [HR.out]
          exact ⟨_, _, _, rfl, .bare 1 (by omega) (by omega), fun h9 => absurd (show (1 : Nat) = 0 from h9) (by omega), HM.out.but ((Below.refl _ _).drew), But.of_below ((Below.refl _ _).drew)⟩
  · rcases Nat.eq_zero_or_pos L with hl | hl
    · have l0 : ¬ (0 : Int) < (L : Int) := by omega
      have u1 : (word.toList == ([99, 108, 101, 97, 114] : List UInt8)) = false := tl_ne (b := wClear) (by rw [hw]; decide)
      have u2 : (word.toList == ([114, 117, 110] : List UInt8)) = false := tl_ne (b := wRun) (by rw [hw]; decide)
      have u3 : (word.toList == ([119, 111, 114, 115, 116] : List UInt8)) = false := tl_ne (b := wWorst) (by rw [hw]; decide)
      have u4 : (word.toList == ([98, 111, 117, 110, 100] : List UInt8)) = false := tl_ne (b := wBound) (by rw [hw]; decide)
      have l1 : ¬ (L : Int) = 8 := by omega
      have HR := Lib.hid (show playS s word n = noS s by unfold playS bareS; rw [if_neg (fun h => absurd h.1 (by rw [hw]; decide)), if_neg (fun h => by have := HLN.out; have := h.2; omega), if_neg (fun h => absurd h.1 (by rw [hw]; decide)), if_neg (fun h => absurd h.1 (by rw [hw]; decide)), if_neg (by have := HLN.out; omega), if_neg (by rw [hw]; decide), if_neg (by rw [hw]; decide), if_neg (by rw [hw]; decide), if_neg (by rw [hw]; decide)])
      have HL0 := Lib.hid hl
      clear hl
      have HW := Lib.hid hw
      clear hw
      go_enter Tryz.func41, Tryz.ntmps41
      go_wp2_with fail
      go_region
      all_goals
        go_wp2_with fail
        go_ret2
        rw [HR.out]
        exact ⟨_, _, _, rfl, .bare 1 (by omega) (by omega), fun h9 => absurd (show (1 : Nat) = 0 from h9) (by omega), HM.out.but ((Below.refl _ _).drew), But.of_below ((Below.refl _ _).drew)⟩
    · have l0 : (0 : Int) < (L : Int) := by omega
      by_cases hlN : L = 8
      · subst hlN
        have HR := Lib.hid (show playS s word n = becomeS s ⟨s.cs, s.K, s.per, n, s.p⟩ by unfold playS; rw [if_neg (fun h => absurd h.1 (by rw [hw]; decide)), if_pos ⟨hw, HLN.out.symm⟩])
        have HW := Lib.hid hw
        clear hw
        obtain ⟨Ac, cc, An, cn, Ap, cp, h1, h2, h3, h4, h5, h6, h7⟩ := HM.out
        have c0 := h1.cell 0
        have c1 := h1.cell 1
        have c2 := h1.cell 2
        have c3 := h1.cell 3
        simp only [List.getElem?_toArray, List.getElem?_cons_zero, List.getElem?_cons_succ] at c0 c1 c2 c3
        obtain ⟨X, hX⟩ : ∃ X : World, X = w.alloc (.cells #[.slice Ac s.cs.length cc, .string s.K, .int .i64 s.per, .slice An s.ns.length cn] 66) := ⟨_, rfl⟩
        obtain ⟨gb, hgb⟩ : ∃ gb, gb = w.heap.size := ⟨_, rfl⟩
        have bX : Below w.heap.size w X := by rw [hX]; exact (Below.refl _ _).alloc (Nat.le_refl _) _
        have xX : Blk X gb 66 #[.slice Ac s.cs.length cc, .string s.K, .int .i64 s.per, .slice An s.ns.length cn] := by rw [hX, hgb]; exact Blk.new _ _ _
        obtain ⟨X2, hX2⟩ : ∃ X2 : World, X2 = X.setCell ⟨gb, 3, none⟩ (.slice A' 8 c') := ⟨_, rfl⟩
        have hge : w.heap.size ≤ gb := by rw [hgb]; exact Nat.le_refl _
        have bX2 : Below w.heap.size w X2 := by rw [hX2]; exact bX.setCell (p := ⟨gb, 3, none⟩) hge _
        have xX2 : Blk X2 gb 66 #[.slice Ac s.cs.length cc, .string s.K, .int .i64 s.per, .slice A' 8 c'] := by rw [hX2]; exact xX.set_ 3 _
        have d3 := xX.cell 3
        have z3 := xX.frozen 3
        simp only [List.getElem?_toArray, List.getElem?_cons_zero, List.getElem?_cons_succ] at d3
        have HX := Lib.hid hX
        have HX2 := Lib.hid hX2
        have HGB := Lib.hid hgb
        have BX2 := Lib.hid bX2
        have XX2 := Lib.hid xX2
        obtain ⟨h80, hll⟩ := HOK.out.ll
        have HBC := become_any F pb s S X2 B hpB (Nat.le_trans hB BX2.out.size) (HS.out.below (BX2.out.mono hB)) (HM.out.but BX2.out) (fun b h9 => Nat.lt_of_lt_of_le (HF.out b h9) BX2.out.size) Ac A' cc c' s.cs s.K s.per n h2 (h3.but (But.of_below BX2.out)) (Rd.but HRD.out (But.of_below (g := pb) BX2.out) HNB.out) HNB.out hll (by have := HR8.out; omega)
        rw [← HLN.out] at HBC
        have HCT := Lib.hid HBC
        clear hX hX2 hgb bX bX2 xX xX2 hll h1 h2 h3 h4 h5 h6 h7 HBC h80
        go_enter Tryz.func41, Tryz.ntmps41
        go_upto_region 6 with fail
        rw [← HGB.out]
        rw [HGB.out, ← HX.out, ← HGB.out]
        clear c0 c1 c2 c3
        go_upto_region 7 with fail
        rw [← HX2.out]
        clear d3 z3
        have e0 := XX2.out.cell 0
        have e1 := XX2.out.cell 1
        have e2 := XX2.out.cell 2
        have e3 := XX2.out.cell 3
        simp only [List.getElem?_toArray, List.getElem?_cons_zero, List.getElem?_cons_succ] at e0 e1 e2 e3
        go_wp2_with fail
        refine (HCT.out).mono ?_
        rintro e w3 ⟨t, v, a, rfl, hv, ht, hpm, hbt⟩
        have HV := Lib.hid hv
        have HT := Lib.hid ht
        have HP := Lib.hid hpm
        have HB3 := Lib.hid hbt
        clear hv ht hpm hbt HCT e0 e1 e2 e3
        go_wp2_with fail
        go_ret2
        rw [HR.out]
        exact ⟨t, v, a, rfl, HV.out, HT.out, HP.out, (But.of_below BX2.out).trans HB3.out⟩
      · have l1 : ¬ (L : Int) = 8 := by omega
        have HL1 := Lib.hid hlN
        clear hlN
        have HR := Lib.hid (show playS s word n = noS s by unfold playS; rw [if_neg (fun h => absurd h.1 (by rw [hw]; decide)), if_neg (fun h => HL1.out (by have := HLN.out; have := h.2; omega)), if_neg (fun h => absurd h.1 (by rw [hw]; decide)), if_neg (fun h => absurd h.1 (by rw [hw]; decide)), if_pos (by have := HLN.out; omega)])
        have HW := Lib.hid hw
        clear hw
        go_enter Tryz.func41, Tryz.ntmps41
        go_wp2_with fail
        go_region
        all_goals
          go_wp2_with fail
          go_ret2
          rw [HR.out]
          exact ⟨_, _, _, rfl, .bare 1 (by omega) (by omega), fun h9 => absurd (show (1 : Nat) = 0 from h9) (by omega), HM.out.but ((Below.refl _ _).drew), But.of_below ((Below.refl _ _).drew)⟩
  · rcases Nat.eq_zero_or_pos L with hl | hl
    · have l0 : ¬ (0 : Int) < (L : Int) := by omega
      have u1 : (word.toList == ([99, 108, 101, 97, 114] : List UInt8)) = false := tl_ne (b := wClear) (by rw [hw]; decide)
      have u2 : (word.toList == ([114, 117, 110] : List UInt8)) = false := tl_ne (b := wRun) (by rw [hw]; decide)
      have u3 : (word.toList == ([119, 111, 114, 115, 116] : List UInt8)) = false := tl_ne (b := wWorst) (by rw [hw]; decide)
      have u4 : (word.toList == ([98, 111, 117, 110, 100] : List UInt8)) = false := tl_ne (b := wBound) (by rw [hw]; decide)
      have l1 : ¬ (L : Int) = 3 := by omega
      have HR := Lib.hid (show playS s word n = noS s by unfold playS bareS; rw [if_neg (fun h => absurd h.1 (by rw [hw]; decide)), if_neg (fun h => absurd h.1 (by rw [hw]; decide)), if_neg (fun h => by have := HLN.out; have := h.2.1; omega), if_neg (fun h => absurd h.1 (by rw [hw]; decide)), if_neg (by have := HLN.out; omega), if_neg (by rw [hw]; decide), if_neg (by rw [hw]; decide), if_neg (by rw [hw]; decide), if_neg (by rw [hw]; decide)])
      have HL0 := Lib.hid hl
      clear hl
      have HW := Lib.hid hw
      clear hw
      go_enter Tryz.func41, Tryz.ntmps41
      go_wp2_with fail
      go_region
      all_goals
        go_wp2_with fail
        go_ret2
        rw [HR.out]
        exact ⟨_, _, _, rfl, .bare 1 (by omega) (by omega), fun h9 => absurd (show (1 : Nat) = 0 from h9) (by omega), HM.out.but ((Below.refl _ _).drew), But.of_below ((Below.refl _ _).drew)⟩
    · have l0 : (0 : Int) < (L : Int) := by omega
      by_cases hlN : L = 3
      · subst hlN
        obtain ⟨b, o, rfl, hb, e0⟩ := RdI.get HRD.out (i := 0) (by have := HLN.out; omega)
        obtain ⟨y, hy⟩ : ∃ y, y = n.getD 0 0 := ⟨_, rfl⟩
        have g0 : n[0]'(by have := HLN.out; omega) = y := by rw [hy]; simp [List.getD, show 0 < n.length by have := HLN.out; omega]
        rw [g0] at e0
        simp only [Nat.add_zero] at e0
        have HY := Lib.hid hy
        clear hy g0
        by_cases hy : y < 10
        · have HR := Lib.hid (show playS s word n = packetS s n by unfold playS; rw [if_neg (fun h => absurd h.1 (by rw [hw]; decide)), if_neg (fun h => absurd h.1 (by rw [hw]; decide)), if_pos ⟨hw, HLN.out.symm, by have := HY.out; omega⟩])
          have HCT := Lib.hid (packet_any F pb s S w B hpB hB HS.out HM.out HF.out HOK.out (some ⟨b, o, none⟩) c' n HLN.out.symm HRD.out)
          rw [← HLN.out] at HCT
          have HW := Lib.hid hw
          clear hw
          go_enter Tryz.func41, Tryz.ntmps41
          go_wp2_with fail
          refine (HCT.out).mono ?_
          rintro e w3 ⟨t, v, a, rfl, hv, ht, hpm, hbt⟩
          have HV := Lib.hid hv
          have HT := Lib.hid ht
          have HP := Lib.hid hpm
          have HB3 := Lib.hid hbt
          clear hv ht hpm hbt HCT
          go_wp2_with fail
          go_ret2
          rw [HR.out]
          exact ⟨t, v, a, rfl, HV.out, HT.out, HP.out, HB3.out⟩
        · have hy2 : 10 ≤ y := by omega
          have HR := Lib.hid (show playS s word n = noS s by unfold playS; rw [if_neg (fun h => absurd h.1 (by rw [hw]; decide)), if_neg (fun h => absurd h.1 (by rw [hw]; decide)), if_neg (fun h => by have := HY.out; have := h.2.2; omega), if_neg (fun h => absurd h.1 (by rw [hw]; decide)), if_pos (by have := HLN.out; omega)])
          have HW := Lib.hid hw
          clear hw
          go_enter Tryz.func41, Tryz.ntmps41
          go_wp2_with fail
          go_region
          all_goals
            go_wp2_with fail
            go_ret2
            rw [HR.out]
            exact ⟨_, _, _, rfl, .bare 1 (by omega) (by omega), fun h9 => absurd (show (1 : Nat) = 0 from h9) (by omega), HM.out.but ((Below.refl _ _).drew), But.of_below ((Below.refl _ _).drew)⟩
      · have l1 : ¬ (L : Int) = 3 := by omega
        have HL1 := Lib.hid hlN
        clear hlN
        have HR := Lib.hid (show playS s word n = noS s by unfold playS; rw [if_neg (fun h => absurd h.1 (by rw [hw]; decide)), if_neg (fun h => absurd h.1 (by rw [hw]; decide)), if_neg (fun h => HL1.out (by have := HLN.out; have := h.2.1; omega)), if_neg (fun h => absurd h.1 (by rw [hw]; decide)), if_pos (by have := HLN.out; omega)])
        have HW := Lib.hid hw
        clear hw
        go_enter Tryz.func41, Tryz.ntmps41
        go_wp2_with fail
        go_region
        all_goals
          go_wp2_with fail
          go_ret2
          rw [HR.out]
          exact ⟨_, _, _, rfl, .bare 1 (by omega) (by omega), fun h9 => absurd (show (1 : Nat) = 0 from h9) (by omega), HM.out.but ((Below.refl _ _).drew), But.of_below ((Below.refl _ _).drew)⟩
  · rcases Nat.eq_zero_or_pos L with hl | hl
    · have l0 : ¬ (0 : Int) < (L : Int) := by omega
      have u1 : (word.toList == ([99, 108, 101, 97, 114] : List UInt8)) = false := tl_ne (b := wClear) (by rw [hw]; decide)
      have u2 : (word.toList == ([114, 117, 110] : List UInt8)) = false := tl_ne (b := wRun) (by rw [hw]; decide)
      have u3 : (word.toList == ([119, 111, 114, 115, 116] : List UInt8)) = false := tl_ne (b := wWorst) (by rw [hw]; decide)
      have u4 : (word.toList == ([98, 111, 117, 110, 100] : List UInt8)) = false := tl_ne (b := wBound) (by rw [hw]; decide)
      have l1 : ¬ (L : Int) = 2 := by omega
      have HR := Lib.hid (show playS s word n = noS s by unfold playS bareS; rw [if_neg (fun h => absurd h.1 (by rw [hw]; decide)), if_neg (fun h => absurd h.1 (by rw [hw]; decide)), if_neg (fun h => absurd h.1 (by rw [hw]; decide)), if_neg (fun h => by have := HLN.out; have := h.2.1; omega), if_neg (by have := HLN.out; omega), if_neg (by rw [hw]; decide), if_neg (by rw [hw]; decide), if_neg (by rw [hw]; decide), if_neg (by rw [hw]; decide)])
      have HL0 := Lib.hid hl
      clear hl
      have HW := Lib.hid hw
      clear hw
      go_enter Tryz.func41, Tryz.ntmps41
      go_wp2_with fail
      go_region
      all_goals
        go_wp2_with fail
        go_ret2
        rw [HR.out]
        exact ⟨_, _, _, rfl, .bare 1 (by omega) (by omega), fun h9 => absurd (show (1 : Nat) = 0 from h9) (by omega), HM.out.but ((Below.refl _ _).drew), But.of_below ((Below.refl _ _).drew)⟩
    · have l0 : (0 : Int) < (L : Int) := by omega
      by_cases hlN : L = 2
      · subst hlN
        obtain ⟨b, o, rfl, hb, e0⟩ := RdI.get HRD.out (i := 0) (by have := HLN.out; omega)
        obtain ⟨y, hy⟩ : ∃ y, y = n.getD 0 0 := ⟨_, rfl⟩
        have g0 : n[0]'(by have := HLN.out; omega) = y := by rw [hy]; simp [List.getD, show 0 < n.length by have := HLN.out; omega]
        rw [g0] at e0
        simp only [Nat.add_zero] at e0
        have HY := Lib.hid hy
        clear hy g0
        by_cases hy : y < 10
        · have HR := Lib.hid (show playS s word n = atTS s n by unfold playS; rw [if_neg (fun h => absurd h.1 (by rw [hw]; decide)), if_neg (fun h => absurd h.1 (by rw [hw]; decide)), if_neg (fun h => absurd h.1 (by rw [hw]; decide)), if_pos ⟨hw, HLN.out.symm, by have := HY.out; omega⟩])
          have HCT := Lib.hid (pat_any F pb s S w B hpB hB HS.out HM.out HF.out HOK.out (some ⟨b, o, none⟩) c' n HLN.out.symm (by have := HN0.out _ (List.getElem_mem (show 0 < n.length by have := HLN.out; omega)); simpa [List.getD, show 0 < n.length by have := HLN.out; omega] using this) HRD.out)
          rw [← HLN.out] at HCT
          have HW := Lib.hid hw
          clear hw
          go_enter Tryz.func41, Tryz.ntmps41
          go_wp2_with fail
          refine (HCT.out).mono ?_
          rintro e w3 ⟨t, v, a, rfl, hv, ht, hpm, hbt⟩
          have HV := Lib.hid hv
          have HT := Lib.hid ht
          have HP := Lib.hid hpm
          have HB3 := Lib.hid hbt
          clear hv ht hpm hbt HCT
          go_wp2_with fail
          go_ret2
          rw [HR.out]
          exact ⟨t, v, a, rfl, HV.out, HT.out, HP.out, HB3.out⟩
        · have hy2 : 10 ≤ y := by omega
          have HR := Lib.hid (show playS s word n = noS s by unfold playS; rw [if_neg (fun h => absurd h.1 (by rw [hw]; decide)), if_neg (fun h => absurd h.1 (by rw [hw]; decide)), if_neg (fun h => absurd h.1 (by rw [hw]; decide)), if_neg (fun h => by have := HY.out; have := h.2.2; omega), if_pos (by have := HLN.out; omega)])
          have HW := Lib.hid hw
          clear hw
          go_enter Tryz.func41, Tryz.ntmps41
          go_wp2_with fail
          go_region
          all_goals
            go_wp2_with fail
            go_ret2
            rw [HR.out]
            exact ⟨_, _, _, rfl, .bare 1 (by omega) (by omega), fun h9 => absurd (show (1 : Nat) = 0 from h9) (by omega), HM.out.but ((Below.refl _ _).drew), But.of_below ((Below.refl _ _).drew)⟩
      · have l1 : ¬ (L : Int) = 2 := by omega
        have HL1 := Lib.hid hlN
        clear hlN
        have HR := Lib.hid (show playS s word n = noS s by unfold playS; rw [if_neg (fun h => absurd h.1 (by rw [hw]; decide)), if_neg (fun h => absurd h.1 (by rw [hw]; decide)), if_neg (fun h => absurd h.1 (by rw [hw]; decide)), if_neg (fun h => HL1.out (by have := HLN.out; have := h.2.1; omega)), if_pos (by have := HLN.out; omega)])
        have HW := Lib.hid hw
        clear hw
        go_enter Tryz.func41, Tryz.ntmps41
        go_wp2_with fail
        go_region
        all_goals
          go_wp2_with fail
          go_ret2
          rw [HR.out]
          exact ⟨_, _, _, rfl, .bare 1 (by omega) (by omega), fun h9 => absurd (show (1 : Nat) = 0 from h9) (by omega), HM.out.but ((Below.refl _ _).drew), But.of_below ((Below.refl _ _).drew)⟩
  · rcases Nat.eq_zero_or_pos L with hl | hl
    · have l0 : ¬ (0 : Int) < (L : Int) := by omega
      have HPB := Lib.hid (show playS s word n = bareS s word by unfold playS; rw [if_neg (fun h => hne1 h.1), if_neg (fun h => hne2 h.1), if_neg (fun h => hne3 h.1), if_neg (fun h => hne4 h.1), if_neg (by have := HLN.out; omega)])
      have HL0 := Lib.hid hl
      clear hl hne1 hne2 hne3 hne4
      rcases bare4 word with ⟨hw, u1, u2, u3, u4⟩ | ⟨hw, u1, u2, u3, u4⟩ | ⟨hw, u1, u2, u3, u4⟩ | ⟨hw, u1, u2, u3, u4⟩ | ⟨hne1, hne2, hne3, hne4, u1, u2, u3, u4⟩
      · have HR := Lib.hid (show playS s word n = ((0, okT), { s with p := [] }) by rw [HPB.out]; unfold bareS; rw [if_pos hw])
        have HW := Lib.hid hw
        clear hw
        obtain ⟨Ac, cc, An, cn, Ap, cp, h1, h2, h3, h4, h5, h6, h7⟩ := HM.out
        have d4 := h1.cell 4
        have z4 := h1.frozen 4
        simp only [List.getElem?_toArray, List.getElem?_cons_zero, List.getElem?_cons_succ] at d4
        have hb1 : But pb w (w.setCell ⟨pb, 4, none⟩ (.slice none 0 0)) := But.set1 w 4 _
        have HPM := Lib.hid (show PMem F (w.setCell ⟨pb, 4, none⟩ (.slice none 0 0)) pb { s with p := [] } from ⟨Ac, cc, An, cn, none, 0, h1.set_ 4 _, h2, h3.but hb1, Rd.but h4 hb1 h5, h5, Rd.nil_, fun _ => NotB.none_ F pb⟩)
        have HB2 := Lib.hid hb1
        clear h1 h2 h3 h4 h5 h6 h7 hb1
        go_enter Tryz.func41, Tryz.ntmps41
        go_wp2_with fail
        go_ret2
        rw [HR.out]
        exact ⟨okT, .nilIface, -1, rfl, .nil, fun _ => rfl, HPM.out, HB2.out⟩
      · have HR := Lib.hid (show playS s word n = runCm s by rw [HPB.out]; unfold bareS; rw [if_neg (by rw [hw]; decide), if_pos hw])
        have HW := Lib.hid hw
        clear hw
        have HCT := Lib.hid (run_any F pb s S w B hpB hB HS.out HM.out HF.out HOK.out)
        go_enter Tryz.func41, Tryz.ntmps41
        go_wp2_with fail
        refine (HCT.out).mono ?_
        rintro e w3 ⟨t, v, a, rfl, hv, ht, hpm, hbt⟩
        have HV := Lib.hid hv
        have HT := Lib.hid ht
        have HP := Lib.hid hpm
        have HB3 := Lib.hid hbt
        clear hv ht hpm hbt HCT
        go_wp2_with fail
        go_ret2
        rw [HR.out]
        exact ⟨t, v, a, rfl, HV.out, HT.out, HP.out, HB3.out⟩
      · have HR := Lib.hid (show playS s word n = worstS s by rw [HPB.out]; unfold bareS; rw [if_neg (by rw [hw]; decide), if_neg (by rw [hw]; decide), if_pos hw])
        have HW := Lib.hid hw
        clear hw
        have HCT := Lib.hid (worst_any F pb s S w B hpB hB HS.out HM.out HF.out HOK.out)
        go_enter Tryz.func41, Tryz.ntmps41
        go_wp2_with fail
        refine (HCT.out).mono ?_
        rintro e w3 ⟨t, v, a, rfl, hv, ht, hpm, hbt⟩
        have HV := Lib.hid hv
        have HT := Lib.hid ht
        have HP := Lib.hid hpm
        have HB3 := Lib.hid hbt
        clear hv ht hpm hbt HCT
        go_wp2_with fail
        go_ret2
        rw [HR.out]
        exact ⟨t, v, a, rfl, HV.out, HT.out, HP.out, HB3.out⟩
      · have HR := Lib.hid (show playS s word n = boundS s by rw [HPB.out]; unfold bareS; rw [if_neg (by rw [hw]; decide), if_neg (by rw [hw]; decide), if_neg (by rw [hw]; decide), if_pos hw])
        have HW := Lib.hid hw
        clear hw
        obtain ⟨Ac, cc, An, cn, Ap, cp, h1, h2, h3, h4, h5, h6, h7⟩ := HM.out
        have c0 := h1.cell 0
        have c1 := h1.cell 1
        have c2 := h1.cell 2
        have c3 := h1.cell 3
        simp only [List.getElem?_toArray, List.getElem?_cons_zero, List.getElem?_cons_succ] at c0 c1 c2 c3
        obtain ⟨h80, hll⟩ := HOK.out.ll
        have HCT := Lib.hid (bound_any Ac An cc cn s.cs s.K s.per s.ns S w w.heap.size (Nat.le_refl _) h3.ll h4 (hS.gs.more hB) hll (by have := HOK.out.ns; omega) h2)
        clear h1 h2 h3 h4 h5 h6 h7 hll h80
        go_enter Tryz.func41, Tryz.ntmps41
        go_wp2_with fail
        refine (HCT.out).mono ?_
        rintro e w9 ⟨v9, rfl, e9, k9⟩
        have HV := Lib.hid e9
        have K9 := Lib.hid k9
        clear e9 k9 HCT c0 c1 c2 c3
        go_wp2_with fail
        refine (Tryz.strconv_Itoa (bndV s.cs (kindN s.K) s.per s.ns) (bndV_i64 _ _ _ _).1 (bndV_i64 _ _ _ _).2 w9 (HS.out.below (K9.out.mono hB)).tab).mono ?_
        rintro e w2 ⟨rfl, k2, os, rfl⟩
        go_wp2_with fail
        go_ret2
        rw [HR.out]
        have KS := below_growS w9 k2 os
        exact ⟨_, _, _, rfl, (HV.out.below KS).more KS.size, fun h9 => rfl, HM.out.but (K9.out.trans (KS.mono K9.out.size)), But.of_below (K9.out.trans (KS.mono K9.out.size))⟩
      · have HR := Lib.hid (show playS s word n = noS s by rw [HPB.out]; unfold bareS; rw [if_neg hne1, if_neg hne2, if_neg hne3, if_neg hne4])
        clear hne1 hne2 hne3 hne4
        go_enter Tryz.func41, Tryz.ntmps41
        go_wp2_with fail
        go_region
        all_goals
          go_wp2_with fail
          go_ret2
          rw [HR.out]
          exact ⟨_, _, _, rfl, .bare 1 (by omega) (by omega), fun h9 => absurd (show (1 : Nat) = 0 from h9) (by omega), HM.out.but ((Below.refl _ _).drew), But.of_below ((Below.refl _ _).drew)⟩
    · have l0 : (0 : Int) < (L : Int) := by omega
      have HR := Lib.hid (show playS s word n = noS s by unfold playS; rw [if_neg (fun h => hne1 h.1), if_neg (fun h => hne2 h.1), if_neg (fun h => hne3 h.1), if_neg (fun h => hne4 h.1), if_pos (by have := HLN.out; omega)])
      clear hne1 hne2 hne3 hne4
      go_enter Tryz.func41, Tryz.ntmps41
      go_wp2_with fail
      go_region
      all_goals
        go_wp2_with fail
        go_ret2
        rw [HR.out]
        exact ⟨_, _, _, rfl, .bare 1 (by omega) (by omega), fun h9 => absurd (show (1 : Nat) = 0 from h9) (by omega), HM.out.but ((Below.refl _ _).drew), But.of_below ((Below.refl _ _).drew)⟩
end
end Go.Proofs.YtoomffajodheaaaGreatDoor
namespace Go.Proofs.YtoomffajodheaaaGreatDoor
open Go.RowKit
set_option maxRecDepth 100000
theorem sp_len {s x : List UInt8} (h : x ∈ sp s) : x.length ≤ s.length := by
  induction s generalizing x with
  | nil => simp [sp] at h; rw [h]; exact Nat.le_refl _
  | cons c r ih =>
    unfold sp at h
    split at h
    · rcases List.mem_cons.1 h with h | h
      · rw [h]; exact Nat.zero_le _
      · have := ih h; simp only [List.length_cons]; omega
    · split at h
      · rename_i e; exact absurd e (sp_ne r)
      · rename_i v vs e
        rw [e] at ih
        rcases List.mem_cons.1 h with h | h
        · have := ih (x := v) List.mem_cons_self
          rw [h]
          simp only [List.length_cons]
          omega
        · have := ih (x := x) (List.mem_cons_of_mem _ h)
          simp only [List.length_cons]
          omega
theorem words_size {t x : ByteArray} (h : x ∈ wordsL t) : x.size ≤ t.size := by
  have h1 : x.data.toList ∈ (wordsL t).map (·.data.toList) := List.mem_map.2 ⟨x, h, rfl⟩
  rw [wordsL_data] at h1
  have := sp_len h1
  simpa using this
theorem words_len (t : ByteArray) : (wordsL t).length = Lib.countB t spW + 1 ∧ (wordsL t).length ≤ t.size + 1 := by
  have h1 : (wordsL t).length = Lib.countB t spW + 1 := Lib.splitB_all spW (by decide) 0 _ t rfl
  have h2 := Lib.countB_le spW (by decide) _ t (Nat.le_refl _)
  exact ⟨h1, by omega⟩
theorem split_any (t : ByteArray) (S : Nat → Addr) (w : World) (B : Nat) (hS : SX w B S) (ht : t.size ≤ 1000) :
    Calls Tryz.prog 36 #[.string t, .string spW] w fun e w' => e = .returned (.slice (some ⟨w.heap.size, 0, none⟩) (wordsL t).length (wordsL t).length) ∧ RdB w' (w.heap.size + 1) (some ⟨w.heap.size, 0, none⟩) (wordsL t) ∧ w'.heap.size = w.heap.size + 1 ∧ Below w.heap.size w w' := by
  obtain ⟨m, hm⟩ := hS.mx
  obtain ⟨hl, -⟩ := words_len t
  refine (Tryz.strings_Split t spW m w (by omega) hm (by decide)).mono ?_
  rintro e w' ⟨rfl, rfl⟩
  refine ⟨by rw [hl], ?_, by simp, (Below.refl _ _).alloc (Nat.le_refl _) _⟩
  intro h0
  refine ⟨w.heap.size, 0, rfl, by omega, fun i x hx j v hv => ?_⟩
  cases j with
  | zero =>
    simp only [bCs, List.getElem?_cons_zero, Option.some.injEq] at hv
    subst hv
    have hb := (Blk.new w 9 ((wordsL t).map Value.string).toArray).cell i
    simp only [Nat.zero_add, Nat.mul_one, Nat.add_zero]
    refine Eq.trans hb ?_
    rw [List.getElem?_toArray, List.getElem?_map, hx]
    rfl
  | succ j => simp [bCs] at hv
def kindsB : List ByteArray := [bFifo, bRank, bDue, bRound, bFair]
theorem kinds_has (k : ByteArray) : Lib.containsS (kindsB.take 5) k = decide (kindN k < 5) := by
  rw [Bool.eq_iff_iff, Lib.containsS_iff, decide_eq_true_iff]
  show k ∈ [bFifo, bRank, bDue, bRound, bFair] ↔ _
  unfold kindN
  constructor
  · intro h
    simp only [List.mem_cons, List.not_mem_nil, or_false] at h
    rcases h with h | h | h | h | h <;> (subst h; decide)
  · intro h
    simp only [List.mem_cons, List.not_mem_nil, or_false]
    split at h
    · exact .inl ‹_›
    · split at h
      · exact .inr (.inl ‹_›)
      · split at h
        · exact .inr (.inr (.inl ‹_›))
        · split at h
          · exact .inr (.inr (.inr (.inl ‹_›)))
          · split at h
            · exact .inr (.inr (.inr (.inr ‹_›)))
            · omega
theorem kinds_cell (w : World) (k : ByteArray) : Calls Tryz.prog 38 #[.slice (some ⟨w.heap.size, 0, none⟩) 5 5, .string k] (w.alloc (.cells #[.string ⟨#[102, 105, 102, 111]⟩, .string ⟨#[114, 97, 110, 107]⟩, .string ⟨#[100, 117, 101]⟩, .string ⟨#[114, 111, 117, 110, 100]⟩, .string ⟨#[102, 97, 105, 114]⟩] 9)) fun e w' => e = .returned (.bool (decide (kindN k < 5))) ∧ w' = w.alloc (.cells #[.string ⟨#[102, 105, 102, 111]⟩, .string ⟨#[114, 97, 110, 107]⟩, .string ⟨#[100, 117, 101]⟩, .string ⟨#[114, 111, 117, 110, 100]⟩, .string ⟨#[102, 97, 105, 114]⟩] 9) := by
  have h := Tryz.slices_Contains_string w.heap.size 0 5 5 kindsB k (w.alloc (.cells #[.string bFifo, .string bRank, .string bDue, .string bRound, .string bFair] 9)) (by decide) (by omega) (fun j hj => by
    have hb := (Blk.new w 9 #[.string bFifo, .string bRank, .string bDue, .string bRound, .string bFair]).cell j
    rw [Nat.zero_add]
    refine Eq.trans hb ?_
    have hj5 : j < 5 := hj
    rcases j with _ | _ | _ | _ | _ | j
    · rfl
    · rfl
    · rfl
    · rfl
    · rfl
    · omega)
  rw [kinds_has] at h
  exact h
theorem wLink_cases (a : ByteArray) : ((a.toList == ([108, 105, 110, 107] : List UInt8)) = true ∧ a = wLink) ∨ ((a.toList == ([108, 105, 110, 107] : List UInt8)) = false ∧ a ≠ wLink) := by
  by_cases h : a = wLink
  · subst h; exact .inl ⟨tl_eq wLink, rfl⟩
  · exact .inr ⟨tl_ne (b := wLink) h, h⟩
section
variable (F : Nat → Prop) (pb : Nat) (s : Sc) (S : Nat → Addr) (w : World) (B : Nat) (hpB : B ≤ pb) (hB : B ≤ w.heap.size) (hS : SX w B S) (hm : PMem F w pb s) (hF : ∀ b, F b → b < w.heap.size) (hok : s.ok)
include hpB hB hS hm hF hok
set_option maxHeartbeats 16000000 in
theorem sline_any (t : ByteArray) (ht : t.size ≤ 1000) : Calls Tryz.prog 23 #[.pointer (some ⟨pb, 0, none⟩), .string t] w (EndSc F pb S (lineS s t) w) := by
  have HM := Lib.hid hm
  have HF := Lib.hid hF
  clear hF
  have hpbl : pb < w.heap.size := by
    obtain ⟨_, _, _, _, _, _, h9, -⟩ := hm
    exact h9.lt
  have HSP0 := split_any t S w B hS ht
  obtain ⟨hwl, hwl2⟩ := words_len t
  have hwz : ∀ x ∈ wordsL t, x.size ≤ 1000 := fun x hx => Nat.le_trans (words_size hx) ht
  have HLS0 : lineS s t = ofWords s (wordsL t) := rfl
  obtain ⟨ws, hws⟩ : ∃ ws, ws = wordsL t := ⟨_, rfl⟩
  rw [← hws] at HSP0 hwl hwl2 hwz HLS0
  obtain ⟨g, hg⟩ : ∃ g, g = w.heap.size := ⟨_, rfl⟩
  rw [← hg] at HSP0
  obtain ⟨L, hL⟩ : ∃ L, L = ws.length := ⟨_, rfl⟩
  rw [← hL] at HSP0
  have HG := Lib.hid hg
  have HL := Lib.hid hL
  have HLS := Lib.hid HLS0
  have HSP := Lib.hid HSP0
  have HWZ := Lib.hid hwz
  have HOK := Lib.hid hok
  have HS := Lib.hid hS
  have hL1 : 1 ≤ L := by omega
  have hL2 : L ≤ 1001 := by omega
  have LZ : (0 : Int) < (L : Int) := by omega
  have LW : (1 : Int) ≤ (L : Int) := by omega
  have s1 := fun W (hb : Below w.heap.size w W) => ((HS.out.below (hb.mono hB)).s1 1 (by simp)).2.2
  simp only [G, sv] at s1
  have HS1 := Lib.hid s1
  clear hws hg hL hwz hwl hwl2 hm hok HSP0 HLS0 s1
  go_enter Tryz.func23, Tryz.ntmps23
  go_wp2_with fail
  refine (HSP.out).mono ?_
  rintro e w1 ⟨rfl, rd, hz1, k1⟩
  rw [HG.out] at k1
  have hg1 : g < w1.heap.size := by omega
  have hgp : pb < w1.heap.size := Nat.lt_of_lt_of_le hpbl k1.size
  have rd' : RdB w1 w1.heap.size (some ⟨g, 0, none⟩) ws := rd.more (by omega)
  obtain ⟨b9, o9, hA, -, e0⟩ := RdB.get rd' (i := 0) (by have := HL.out; omega)
  simp only [Option.some.injEq, Addr.mk.injEq, and_true] at hA
  obtain ⟨rfl, rfl⟩ := hA
  obtain ⟨a, ha⟩ : ∃ a, a = ws.getD 0 spW := ⟨_, rfl⟩
  have ha2 : ws[0]'(by have := HL.out; omega) = a := by rw [ha]; simp [List.getD, show 0 < ws.length by have := HL.out; omega]
  rw [ha2] at e0
  simp only [Nat.add_zero] at e0
  have HA := Lib.hid ha
  have RD := Lib.hid rd'
  have K1 := Lib.hid k1
  clear ha ha2 rd rd' k1 HSP hz1 hS ht
  by_cases hlk : a = wLink ∧ L = 3
  · obtain ⟨hal, rfl⟩ := hlk
    have tl : (a.toList == ([108, 105, 110, 107] : List UInt8)) = true := by rw [hal]; exact tl_eq wLink
    obtain ⟨b9, o9, hA, -, e1⟩ := RdB.get RD.out (i := 1) (by have := HL.out; omega)
    simp only [Option.some.injEq, Addr.mk.injEq, and_true] at hA
    obtain ⟨rfl, rfl⟩ := hA
    obtain ⟨b9, o9, hA, -, e2⟩ := RdB.get RD.out (i := 2) (by have := HL.out; omega)
    simp only [Option.some.injEq, Addr.mk.injEq, and_true] at hA
    obtain ⟨rfl, rfl⟩ := hA
    obtain ⟨b, hb⟩ : ∃ b, b = ws.getD 1 spW := ⟨_, rfl⟩
    obtain ⟨c, hc⟩ : ∃ c, c = ws.getD 2 spW := ⟨_, rfl⟩
    have hb2 : ws[1]'(by have := HL.out; omega) = b := by rw [hb]; simp [List.getD, show 1 < ws.length by have := HL.out; omega]
    have hc2 : ws[2]'(by have := HL.out; omega) = c := by rw [hc]; simp [List.getD, show 2 < ws.length by have := HL.out; omega]
    have hcz : c.size ≤ 281474976710656 := by
      have := HWZ.out c (by rw [← hc2]; exact List.getElem_mem _)
      omega
    rw [hb2] at e1
    rw [hc2] at e2
    simp only [Nat.zero_add] at e1 e2
    have HR := Lib.hid (show lineS s t = (match numW c.data.toList with
      | none => noS s
      | some per => if kindN b < 5 then linkS s b per else noS s) by
        rw [HLS.out]
        unfold ofWords
        rw [if_pos ⟨by rw [← HA.out]; exact hal, HL.out.symm⟩, ← hb, ← hc]
        rfl)
    have HN := number_any c S w1 B (Nat.le_trans hB K1.out.size) (HS.out.below (K1.out.mono hB)) hcz
    clear hal hb hc hb2 hc2 hcz
    cases hn : numW c.data.toList with
    | none =>
      have HR2 := Lib.hid (show lineS s t = noS s by rw [HR.out, hn])
      have HN2 := Lib.hid (show Calls Tryz.prog 37 #[.string c] w1 fun e w' => ∃ m, e = .returned (.tuple #[.int .i64 m, .bool false]) ∧ Below w1.heap.size w1 w' from HN.mono fun e w' h => by
        obtain ⟨⟨m, h1, -⟩, h2⟩ := h
        exact ⟨m, by rw [h1, hn]; rfl, h2⟩)
      clear HN hn
      go_wp2_with fail
      refine HN2.out.mono ?_
      rintro e w2 ⟨m, rfl, k2⟩
      have KX := Lib.hid (K1.out.trans (k2.mono K1.out.size))
      have s1 := HS1.out _ KX.out
      clear k2 HN2 e0 e1 e2
      go_wp2_with fail
      go_region
      all_goals
        go_wp2_with fail
        go_ret2
        rw [HR2.out]
        exact ⟨_, _, _, rfl, .bare 1 (by omega) (by omega), fun h9 => absurd (show (1 : Nat) = 0 from h9) (by omega), HM.out.but KX.out.drew, But.of_below KX.out.drew⟩
    | some per =>
      have HN2 := Lib.hid (show Calls Tryz.prog 37 #[.string c] w1 fun e w' => e = .returned (.tuple #[.int .i64 per, .bool true]) ∧ Below w1.heap.size w1 w' from HN.mono fun e w' h => by
        obtain ⟨⟨m, h1, h3⟩, h2⟩ := h
        exact ⟨by rw [h1, hn, h3 per hn]; rfl, h2⟩)
      have HR1 := Lib.hid (show lineS s t = if kindN b < 5 then linkS s b per else noS s by rw [HR.out, hn])
      clear HN hn
      go_wp2_with fail
      refine HN2.out.mono ?_
      rintro e w2 ⟨rfl, k2⟩
      have K2 := Lib.hid (K1.out.trans (k2.mono K1.out.size))
      have KX := Lib.hid (show Below w.heap.size w (w2.alloc (.cells #[.string ⟨#[102, 105, 102, 111]⟩, .string ⟨#[114, 97, 110, 107]⟩, .string ⟨#[100, 117, 101]⟩, .string ⟨#[114, 111, 117, 110, 100]⟩, .string ⟨#[102, 97, 105, 114]⟩] 9)) from K2.out.alloc K2.out.size _)
      have f1 : (w2.alloc (.cells #[.string ⟨#[102, 105, 102, 111]⟩, .string ⟨#[114, 97, 110, 107]⟩, .string ⟨#[100, 117, 101]⟩, .string ⟨#[114, 111, 117, 110, 100]⟩, .string ⟨#[102, 97, 105, 114]⟩] 9)).cell? ⟨g, 1, none⟩ = some (.string b) := (((k2.mono (Nat.le_refl _)).alloc k2.size _).cell (p := ⟨g, 1, none⟩) hg1).trans e1
      have HKC := kinds_cell w2 b
      clear k2 HN2 e0 e2 e1
      by_cases hk : kindN b < 5
      · have HR2 := Lib.hid (show lineS s t = linkS s b per by rw [HR1.out, if_pos hk])
        rw [decide_eq_true hk] at HKC
        have HK2 := Lib.hid HKC
        have HLK := Lib.hid (link_any F pb s S (w2.alloc (.cells #[.string ⟨#[102, 105, 102, 111]⟩, .string ⟨#[114, 97, 110, 107]⟩, .string ⟨#[100, 117, 101]⟩, .string ⟨#[114, 111, 117, 110, 100]⟩, .string ⟨#[102, 97, 105, 114]⟩] 9)) B hpB (Nat.le_trans hB KX.out.size) (HS.out.below (KX.out.mono hB)) (HM.out.but KX.out) (fun b h9 => Nat.lt_of_lt_of_le (HF.out b h9) KX.out.size) HOK.out b per)
        clear HKC hk
        go_wp2_with fail
        refine HK2.out.mono ?_
        rintro e w3 ⟨rfl, rfl⟩
        clear HK2
        go_wp2_with fail
        refine HLK.out.mono ?_
        rintro e w3 ⟨tt, v, aa, rfl, hv, hte, hpm, hbt⟩
        have HV := Lib.hid hv
        have HT := Lib.hid hte
        have HP := Lib.hid hpm
        have HB3 := Lib.hid hbt
        clear hv hte hpm hbt HLK f1
        go_wp2_with fail
        go_ret2
        rw [HR2.out]
        exact ⟨tt, v, aa, rfl, HV.out, HT.out, HP.out, (But.of_below KX.out).trans HB3.out⟩
      · have HR2 := Lib.hid (show lineS s t = noS s by rw [HR1.out, if_neg hk])
        rw [decide_eq_false hk] at HKC
        have HK2 := Lib.hid HKC
        have s1 := HS1.out _ KX.out
        clear HKC hk
        go_wp2_with fail
        refine HK2.out.mono ?_
        rintro e w3 ⟨rfl, rfl⟩
        clear HK2 f1
        go_wp2_with fail
        go_region
        all_goals
          go_wp2_with fail
          go_ret2
          rw [HR2.out]
          exact ⟨_, _, _, rfl, .bare 1 (by omega) (by omega), fun h9 => absurd (show (1 : Nat) = 0 from h9) (by omega), HM.out.but KX.out.drew, But.of_below KX.out.drew⟩
  · have HR := Lib.hid (show lineS s t = (match numsW (ws.drop 1) with
      | none => noS s
      | some n => playS s a n) by
        rw [HLS.out]
        unfold ofWords
        rw [if_neg (fun h9 => hlk ⟨by rw [HA.out]; exact h9.1, by rw [HL.out]; exact h9.2⟩), ← HA.out]
        rfl)
    by_cases hL1 : L = 1
    · subst hL1
      have hdl : (ws.drop 1).length = 0 := by rw [List.length_drop, ← HL.out]
      have hrd : RdB w1 w1.heap.size (some ⟨g, 0, none⟩) (ws.drop 1) := fun h0 => by rw [hdl] at h0; exact absurd h0 (by omega)
      have HN := numbers_any (some ⟨g, 0, none⟩) 0 (ws.drop 1) S w1 B (Nat.le_trans hB K1.out.size) (HS.out.below (K1.out.mono hB)) hrd (by omega) (fun x hx => by have := HWZ.out x (List.mem_of_mem_drop hx); omega)
      rw [hdl] at HN
      have HDL := Lib.hid hdl
      have HC := Lib.hid (show (a.toList == ([108, 105, 110, 107] : List UInt8)) = true → ¬ (1 : Int) = 3 from fun h9 h8 => by
        rcases wLink_cases a with ⟨-, h7⟩ | ⟨h7, -⟩
        · exact hlk ⟨h7, by omega⟩
        · rw [h7] at h9; cases h9)
      clear hlk hrd hdl
      cases hn : numsW (ws.drop 1) with
      | none =>
        have HR2 := Lib.hid (show lineS s t = noS s by rw [HR.out, hn])
        have HN2 := Lib.hid (show Calls Tryz.prog 40 #[.slice (some ⟨g, 0, none⟩) 0 0] w1 fun e w' => ∃ A c n, e = .returned (.tuple #[.slice A n c, .bool false]) ∧ Below w1.heap.size w1 w' from HN.mono fun e w' h => by
          obtain ⟨A, c, n, h1, -, h2⟩ := h
          exact ⟨A, c, n, by rw [h1, hn]; rfl, h2⟩)
        clear HN hn
        rcases wLink_cases a with ⟨tl, -⟩ | ⟨tl, -⟩
        · have l3 := HC.out tl
          go_wp2_with fail
          refine HN2.out.mono ?_
          rintro e w2 ⟨A, c, n, rfl, k2⟩
          have KX := Lib.hid (K1.out.trans (k2.mono K1.out.size))
          have s1 := HS1.out _ KX.out
          clear k2 HN2 e0
          go_wp2_with fail
          go_region
          all_goals
            go_wp2_with fail
            go_ret2
            rw [HR2.out]
            exact ⟨_, _, _, rfl, .bare 1 (by omega) (by omega), fun h9 => absurd (show (1 : Nat) = 0 from h9) (by omega), HM.out.but KX.out.drew, But.of_below KX.out.drew⟩
        · go_wp2_with fail
          refine HN2.out.mono ?_
          rintro e w2 ⟨A, c, n, rfl, k2⟩
          have KX := Lib.hid (K1.out.trans (k2.mono K1.out.size))
          have s1 := HS1.out _ KX.out
          clear k2 HN2 e0
          go_wp2_with fail
          go_region
          all_goals
            go_wp2_with fail
            go_ret2
            rw [HR2.out]
            exact ⟨_, _, _, rfl, .bare 1 (by omega) (by omega), fun h9 => absurd (show (1 : Nat) = 0 from h9) (by omega), HM.out.but KX.out.drew, But.of_below KX.out.drew⟩
      | some l =>
        have HR2 := Lib.hid (show lineS s t = playS s a l by rw [HR.out, hn])
        have HN2 := Lib.hid (show Calls Tryz.prog 40 #[.slice (some ⟨g, 0, none⟩) 0 0] w1 fun e w' => ∃ A c, e = .returned (.tuple #[.slice A l.length c, .bool true]) ∧ w'.ownsRow w1.heap.size 3 1 (.slice A l.length c) l.length (l.flatMap iCs) ∧ Below w1.heap.size w1 w' from HN.mono fun e w' h => by
          obtain ⟨A, c, n, h1, h3, h2⟩ := h
          obtain ⟨rfl, h4⟩ := h3 l hn
          exact ⟨A, c, by rw [h1, hn]; rfl, h4, h2⟩)
        obtain ⟨hnl, hnn⟩ := numsW_nn hn
        have HNL := Lib.hid hnl
        have HNN := Lib.hid hnn
        clear HN hn hnl hnn
        rcases wLink_cases a with ⟨tl, -⟩ | ⟨tl, -⟩
        · have l3 := HC.out tl
          go_wp2_with fail
          refine HN2.out.mono ?_
          rintro e w2 ⟨A, c, rfl, or, k2⟩
          have K2 := Lib.hid (K1.out.trans (k2.mono K1.out.size))
          have f0 : w2.cell? ⟨g, 0, none⟩ = some (.string a) := (k2.cell (p := ⟨g, 0, none⟩) hg1).trans e0
          have HPL := Lib.hid (play_any F pb s S w2 B hpB (Nat.le_trans hB K2.out.size) (HS.out.below (K2.out.mono hB)) (HM.out.but K2.out) (fun b h9 => Nat.lt_of_lt_of_le (HF.out b h9) K2.out.size) HOK.out A c a l (by have := HNL.out; have := HDL.out; omega) HNN.out (Rd.of_own or (by omega) iCs_len) (fun _ => own_notB or hgp (fun b h9 => Nat.lt_of_lt_of_le (HF.out b h9) K1.out.size)))
          clear k2 or HN2 e0
          go_wp2_with fail
          refine HPL.out.mono ?_
          rintro e w3 ⟨tt, v, aa, rfl, hv, hte, hpm, hbt⟩
          have HV := Lib.hid hv
          have HT := Lib.hid hte
          have HP := Lib.hid hpm
          have HB3 := Lib.hid hbt
          clear hv hte hpm hbt HPL f0
          go_wp2_with fail
          go_ret2
          rw [HR2.out]
          exact ⟨tt, v, aa, rfl, HV.out, HT.out, HP.out, (But.of_below K2.out).trans HB3.out⟩
        · go_wp2_with fail
          refine HN2.out.mono ?_
          rintro e w2 ⟨A, c, rfl, or, k2⟩
          have K2 := Lib.hid (K1.out.trans (k2.mono K1.out.size))
          have f0 : w2.cell? ⟨g, 0, none⟩ = some (.string a) := (k2.cell (p := ⟨g, 0, none⟩) hg1).trans e0
          have HPL := Lib.hid (play_any F pb s S w2 B hpB (Nat.le_trans hB K2.out.size) (HS.out.below (K2.out.mono hB)) (HM.out.but K2.out) (fun b h9 => Nat.lt_of_lt_of_le (HF.out b h9) K2.out.size) HOK.out A c a l (by have := HNL.out; have := HDL.out; omega) HNN.out (Rd.of_own or (by omega) iCs_len) (fun _ => own_notB or hgp (fun b h9 => Nat.lt_of_lt_of_le (HF.out b h9) K1.out.size)))
          clear k2 or HN2 e0
          go_wp2_with fail
          refine HPL.out.mono ?_
          rintro e w3 ⟨tt, v, aa, rfl, hv, hte, hpm, hbt⟩
          have HV := Lib.hid hv
          have HT := Lib.hid hte
          have HP := Lib.hid hpm
          have HB3 := Lib.hid hbt
          clear hv hte hpm hbt HPL f0
          go_wp2_with fail
          go_ret2
          rw [HR2.out]
          exact ⟨tt, v, aa, rfl, HV.out, HT.out, HP.out, (But.of_below K2.out).trans HB3.out⟩
    · have hL1 := hL1
      have hdl : (ws.drop 1).length = L - 1 := by rw [List.length_drop, ← HL.out]
      have hrd : RdB w1 w1.heap.size (some ⟨g, 1, none⟩) (ws.drop 1) := fun h0 => by
        obtain ⟨b9, o9, hA, h1, hc⟩ := RD.out (by have := HL.out; omega)
        simp only [Option.some.injEq, Addr.mk.injEq, and_true] at hA
        obtain ⟨rfl, rfl⟩ := hA
        refine ⟨g, 1, rfl, h1, fun i x hx j v hv => ?_⟩
        rw [List.getElem?_drop] at hx
        have := hc (1 + i) x hx j v hv
        rw [show (0 : Nat) + (1 + i) * 1 + j = 1 + i * 1 + j by omega] at this
        exact this
      have HN := numbers_any (some ⟨g, 1, none⟩) (L - 1) (ws.drop 1) S w1 B (Nat.le_trans hB K1.out.size) (HS.out.below (K1.out.mono hB)) hrd (by omega) (fun x hx => by have := HWZ.out x (List.mem_of_mem_drop hx); omega)
      rw [hdl] at HN
      have HDL := Lib.hid hdl
      have HC := Lib.hid (show (a.toList == ([108, 105, 110, 107] : List UInt8)) = true → ¬ (L : Int) = 3 from fun h9 h8 => by
        rcases wLink_cases a with ⟨-, h7⟩ | ⟨h7, -⟩
        · exact hlk ⟨h7, by omega⟩
        · rw [h7] at h9; cases h9)
      clear hlk hrd hdl
      cases hn : numsW (ws.drop 1) with
      | none =>
        have HR2 := Lib.hid (show lineS s t = noS s by rw [HR.out, hn])
        have HN2 := Lib.hid (show Calls Tryz.prog 40 #[.slice (some ⟨g, 1, none⟩) (L - 1) (L - 1)] w1 fun e w' => ∃ A c n, e = .returned (.tuple #[.slice A n c, .bool false]) ∧ Below w1.heap.size w1 w' from HN.mono fun e w' h => by
          obtain ⟨A, c, n, h1, -, h2⟩ := h
          exact ⟨A, c, n, by rw [h1, hn]; rfl, h2⟩)
        clear HN hn
        rcases wLink_cases a with ⟨tl, -⟩ | ⟨tl, -⟩
        · have l3 := HC.out tl
          go_wp2_with fail
          refine HN2.out.mono ?_
          rintro e w2 ⟨A, c, n, rfl, k2⟩
          have KX := Lib.hid (K1.out.trans (k2.mono K1.out.size))
          have s1 := HS1.out _ KX.out
          clear k2 HN2 e0
          go_wp2_with fail
          go_region
          all_goals
            go_wp2_with fail
            go_ret2
            rw [HR2.out]
            exact ⟨_, _, _, rfl, .bare 1 (by omega) (by omega), fun h9 => absurd (show (1 : Nat) = 0 from h9) (by omega), HM.out.but KX.out.drew, But.of_below KX.out.drew⟩
        · go_wp2_with fail
          refine HN2.out.mono ?_
          rintro e w2 ⟨A, c, n, rfl, k2⟩
          have KX := Lib.hid (K1.out.trans (k2.mono K1.out.size))
          have s1 := HS1.out _ KX.out
          clear k2 HN2 e0
          go_wp2_with fail
          go_region
          all_goals
            go_wp2_with fail
            go_ret2
            rw [HR2.out]
            exact ⟨_, _, _, rfl, .bare 1 (by omega) (by omega), fun h9 => absurd (show (1 : Nat) = 0 from h9) (by omega), HM.out.but KX.out.drew, But.of_below KX.out.drew⟩
      | some l =>
        have HR2 := Lib.hid (show lineS s t = playS s a l by rw [HR.out, hn])
        have HN2 := Lib.hid (show Calls Tryz.prog 40 #[.slice (some ⟨g, 1, none⟩) (L - 1) (L - 1)] w1 fun e w' => ∃ A c, e = .returned (.tuple #[.slice A l.length c, .bool true]) ∧ w'.ownsRow w1.heap.size 3 1 (.slice A l.length c) l.length (l.flatMap iCs) ∧ Below w1.heap.size w1 w' from HN.mono fun e w' h => by
          obtain ⟨A, c, n, h1, h3, h2⟩ := h
          obtain ⟨rfl, h4⟩ := h3 l hn
          exact ⟨A, c, by rw [h1, hn]; rfl, h4, h2⟩)
        obtain ⟨hnl, hnn⟩ := numsW_nn hn
        have HNL := Lib.hid hnl
        have HNN := Lib.hid hnn
        clear HN hn hnl hnn
        rcases wLink_cases a with ⟨tl, -⟩ | ⟨tl, -⟩
        · have l3 := HC.out tl
          go_wp2_with fail
          refine HN2.out.mono ?_
          rintro e w2 ⟨A, c, rfl, or, k2⟩
          have K2 := Lib.hid (K1.out.trans (k2.mono K1.out.size))
          have f0 : w2.cell? ⟨g, 0, none⟩ = some (.string a) := (k2.cell (p := ⟨g, 0, none⟩) hg1).trans e0
          have HPL := Lib.hid (play_any F pb s S w2 B hpB (Nat.le_trans hB K2.out.size) (HS.out.below (K2.out.mono hB)) (HM.out.but K2.out) (fun b h9 => Nat.lt_of_lt_of_le (HF.out b h9) K2.out.size) HOK.out A c a l (by have := HNL.out; have := HDL.out; omega) HNN.out (Rd.of_own or (by omega) iCs_len) (fun _ => own_notB or hgp (fun b h9 => Nat.lt_of_lt_of_le (HF.out b h9) K1.out.size)))
          clear k2 or HN2 e0
          go_wp2_with fail
          refine HPL.out.mono ?_
          rintro e w3 ⟨tt, v, aa, rfl, hv, hte, hpm, hbt⟩
          have HV := Lib.hid hv
          have HT := Lib.hid hte
          have HP := Lib.hid hpm
          have HB3 := Lib.hid hbt
          clear hv hte hpm hbt HPL f0
          go_wp2_with fail
          go_ret2
          rw [HR2.out]
          exact ⟨tt, v, aa, rfl, HV.out, HT.out, HP.out, (But.of_below K2.out).trans HB3.out⟩
        · go_wp2_with fail
          refine HN2.out.mono ?_
          rintro e w2 ⟨A, c, rfl, or, k2⟩
          have K2 := Lib.hid (K1.out.trans (k2.mono K1.out.size))
          have f0 : w2.cell? ⟨g, 0, none⟩ = some (.string a) := (k2.cell (p := ⟨g, 0, none⟩) hg1).trans e0
          have HPL := Lib.hid (play_any F pb s S w2 B hpB (Nat.le_trans hB K2.out.size) (HS.out.below (K2.out.mono hB)) (HM.out.but K2.out) (fun b h9 => Nat.lt_of_lt_of_le (HF.out b h9) K2.out.size) HOK.out A c a l (by have := HNL.out; have := HDL.out; omega) HNN.out (Rd.of_own or (by omega) iCs_len) (fun _ => own_notB or hgp (fun b h9 => Nat.lt_of_lt_of_le (HF.out b h9) K1.out.size)))
          clear k2 or HN2 e0
          go_wp2_with fail
          refine HPL.out.mono ?_
          rintro e w3 ⟨tt, v, aa, rfl, hv, hte, hpm, hbt⟩
          have HV := Lib.hid hv
          have HT := Lib.hid hte
          have HP := Lib.hid hpm
          have HB3 := Lib.hid hbt
          clear hv hte hpm hbt HPL f0
          go_wp2_with fail
          go_ret2
          rw [HR2.out]
          exact ⟨tt, v, aa, rfl, HV.out, HT.out, HP.out, (But.of_below K2.out).trans HB3.out⟩
end
end Go.Proofs.YtoomffajodheaaaGreatDoor
namespace Go.Proofs.YtoomffajodheaaaGreatDoor
open Go.RowKit
set_option maxRecDepth 100000
theorem meth_err (ad : Addr) (w : World) : (method 451 242 (.pointer (some ad)) "Error").run Tryz.prog w = .ok (277, .pointer (some ad)) w := by kernel_rfl
theorem nil_err (ad : Addr) (w : World) : (nilAhead 451 242 (.pointer (some ad)) "Error").run Tryz.prog w = .ok (some false) w := by kernel_rfl
theorem estr_any (ad : Addr) (t : ByteArray) (w : World) (h : w.cell? ad = some (.string t)) : Calls Tryz.prog 277 #[.pointer (some ad)] w fun e w' => e = .returned (.string t) ∧ w' = w := by
  obtain ⟨b, o, x⟩ := ad
  go_enter Tryz.func277, Tryz.ntmps277
  go_wp2_with fail
  go_ret
  exact ⟨rfl, rfl⟩
theorem own_cap_ {w : World} {base : Nat} {e : TypeId} {sz : Nat} {A : Option Addr} {n c : Nat} {xs : List Value} (h : w.ownsRow base e sz (.slice A n c) n xs) : n ≤ c := by
  obtain ⟨-, ⟨h1, h2⟩ | ⟨g, cap, cur, hv, -, -, hn, -⟩⟩ := h
  · omega
  · injection hv with h1 h2 h3; omega
theorem goS_take {s : Sc} {l : List ByteArray} {k : Nat} (hk : k < l.length) : goS s (l.take (k + 1)) = goS s (l.take k) ++ [outT (lineS (endS s (l.take k)) l[k]).1] ∧ endS s (l.take (k + 1)) = (lineS (endS s (l.take k)) l[k]).2 := by
  rw [List.take_succ_eq_append_getElem hk, goS_app, endS_app]
  exact ⟨rfl, rfl⟩
/-- Run's end: texts of the call's own. -/
def EndSr (l : List ByteArray) (w : World) (e : Ending) (w' : World) : Prop := ∃ A c, e = .returned (.tuple #[.slice A l.length c, .nilIface]) ∧ w'.ownsRow w.heap.size 9 1 (.slice A l.length c) l.length (l.flatMap bCs) ∧ Below w.heap.size w w'
theorem sLong_any (A : Option Addr) (c : Nat) (ls : List ByteArray) (S : Nat → Addr) (w : World) (B : Nat) (hB : B ≤ w.heap.size) (hS : SX w B S) (hl : 100 < ls.length) (hl2 : ls.length ≤ 9223372036854775807) :
    Calls Tryz.prog 10 #[.slice A ls.length c] w fun e w' => ∃ v, e = .returned (.tuple #[.slice none 0 0, v]) ∧ Er w' w'.heap.size S v 2 (-1) ∧ Below w.heap.size w w' := by
  have s2 := (hS.gs.s 2 (by simp)).2.2
  simp only [G, sv] at s2
  obtain ⟨L, hL⟩ : ∃ L, L = ls.length := ⟨_, rfl⟩
  rw [← hL]
  have h1 : (100 : Int) < (L : Int) := by omega
  clear hL hl hl2
  go_enter Tryz.func10, Tryz.ntmps10
  go_wp2_with fail
  go_region
  all_goals
    go_wp2_with fail
    go_ret2
    exact ⟨_, rfl, .bare 2 (by omega) (by omega), (Below.refl _ _).drew⟩
theorem But.grown {g : Nat} {a w w' : World} {row : Option Nat} (h : But g a w) (hg : w.grownBy w' row) (hr : ∀ k, row = some k → a.heap.size ≤ k) : But g a w' :=
  ⟨hg.os.trans h.os, hg.tape.trans h.tape, hg.output.trans h.output, Nat.le_trans h.size hg.size, fun i hi hne => (hg.block i (Nat.lt_of_lt_of_le hi h.size) (fun e => by have := hr i e.symm; omega)).trans (h.blk i hi hne)⟩
theorem slRow_new (n : Nat) : (madeCells (Value.cells (.slice none 0 0)) (n * 1)).toList = List.replicate n (.slice none 0 0) := by
  rw [show Value.cells (.slice none 0 0) = #[.slice none 0 0] from rfl, toList_madeCells_one, Nat.mul_one]
theorem Rd.grown_ {F : Nat → Prop} {α : Type} {w w' : World} {pb size : Nat} {f : α → List Value} {A : Option Addr} {l : List α} {row : Option Nat} (h : Rd w w.heap.size size f A l) (hg : w.grownBy w' row) (hn : 0 < l.length → NotB F pb A) (hr : ∀ k, row = some k → F k) : Rd w' w'.heap.size size f A l := fun h0 => by
  obtain ⟨b, o, e, hlt, hc⟩ := h h0
  refine ⟨b, o, e, Nat.lt_of_lt_of_le hlt hg.size, fun i x hx q v hv => ?_⟩
  rw [← hc i x hx q v hv]
  exact World.cell?_of_block (hg.block b hlt (fun e2 => (hn h0 b o e).2 (hr b e2.symm)))
theorem NotB.more_ {F F' : Nat → Prop} {α : Type} {w : World} {pb size : Nat} {f : α → List Value} {A : Option Addr} {l : List α} (h : Rd w w.heap.size size f A l) (hn : 0 < l.length → NotB F pb A) (hF : ∀ b, F' b → F b ∨ w.heap.size ≤ b) : 0 < l.length → NotB F' pb A := fun h0 b o e => by
  obtain ⟨b2, o2, e2, hlt, hc⟩ := h h0
  obtain ⟨h1, h2⟩ := hn h0 b o e
  rw [e] at e2
  simp only [Option.some.injEq, Addr.mk.injEq, and_true] at e2
  refine ⟨h1, fun h3 => ?_⟩
  rcases hF b h3 with h4 | h4
  · exact h2 h4
  · omega
theorem PMem.grown_ {F F' : Nat → Prop} {w w' : World} {pb : Nat} {s : Sc} {row : Option Nat} (h : PMem F w pb s) (h8 : 0 < s.cs.length) (hg : w.grownBy w' row) (hr : ∀ k, row = some k → F k ∧ k ≠ pb) (hF : ∀ b, F' b → F b ∨ w.heap.size ≤ b) : PMem F' w' pb s := by
  obtain ⟨Ac, cc, An, cn, Ap, cp, h1, h2, h3, h4, h5, h6, h7⟩ := h
  have hr1 : ∀ k, row = some k → F k := fun k hk => (hr k hk).1
  refine ⟨Ac, cc, An, cn, Ap, cp, h1.grown hg (fun e => (hr pb e.symm).2 rfl), h2, ⟨fun b o e => ?_, fun i hi => ?_⟩, Rd.grown_ h4 hg h5 hr1, NotB.more_ h4 h5 hF, Rd.grown_ h6 hg h7 hr1, NotB.more_ h6 h7 hF⟩
  · obtain ⟨b2, o2, a, c, e2, hlt, -⟩ := h3.2 0 h8
    rw [e] at e2
    simp only [Option.some.injEq, Addr.mk.injEq, and_true] at e2
    obtain ⟨k1, k2⟩ := h3.1 b o e
    refine ⟨k1, fun h9 => ?_⟩
    rcases hF b h9 with h10 | h10
    · exact k2 h10
    · omega
  · obtain ⟨b, o, a, c, e, hlt, hc, hd, hn⟩ := h3.2 i hi
    exact ⟨b, o, a, c, e, Nat.lt_of_lt_of_le hlt hg.size, (World.cell?_of_block (a := ⟨b, o + i, none⟩) (hg.block b hlt (fun e2 => (h3.1 b o e).2 (hr1 b e2.symm)))).trans hc, Rd.grown_ hd hg hn hr1, NotB.more_ hd hn hF⟩
theorem own_cell_ {w : World} {base g n c : Nat} {e : TypeId} {xs : List Value} (h : w.ownsRow base e 1 (.slice (some ⟨g, 0, none⟩) n c) n xs) {j : Nat} {v : Value} (hv : xs[j]? = some v) : w.cell? ⟨g, j, none⟩ = some v := by
  obtain ⟨-, ⟨q1, -⟩ | ⟨g6, cap, cur, hv2, hg6, hh, hnc, hcc, hsz, htk⟩⟩ := h
  · cases q1
  · obtain ⟨rfl, rfl⟩ : g = g6 ∧ c = cap := by injection hv2 with h1 h2 h3; simp at h1; exact ⟨h1, h3⟩
    have XG : Blk w g e cur := hh
    rw [XG.cell j, ← Array.getElem?_toList]
    rw [← htk, List.getElem?_take] at hv
    split at hv
    · exact hv
    · cases hv
/-- Blocks of a slice of the call's own. -/
def ownB (A : Option Addr) (n c : Nat) : Nat → Prop := fun b => (Value.slice A n c).ownBlock = some b
theorem But.of_pb {w w' wr : World} {pb : Nat} (h : w.heap.size ≤ pb) (hs : Below w.heap.size w wr) (hb : But pb wr w') : Below w.heap.size w w' := hs.trans (hb.below h hs.size)
section
variable (A : Option Addr) (c : Nat) (ls : List ByteArray) (S : Nat → Addr) (w : World) (B : Nat) (hB : B ≤ w.heap.size) (hS : SX w B S) (h : RdB w w.heap.size A ls) (hl : ls.length ≤ 100) (hz : ∀ x ∈ ls, x.size ≤ 1000)
include hB hS h hl hz
set_option maxHeartbeats 8000000 in
theorem srun_any : Calls Tryz.prog 10 #[.slice A ls.length c] w (EndSr (goS newS ls) w) := by
  obtain ⟨i0, hi0, hz0, hz1, hz2⟩ := info_parts infoLL
  obtain ⟨L, hL⟩ : ∃ L, L = ls.length := ⟨_, rfl⟩
  have HL := Lib.hid hL
  have HS := Lib.hid hS
  have HR := Lib.hid h
  have HZ := Lib.hid hz
  have hl1 : ¬ (100 : Int) < (L : Int) := by omega
  have hl2 : L ≤ 100 := by omega
  rw [← hL]
  clear hL hS h hz hl
  go_enter Tryz.func10, Tryz.ntmps10
  go_upto_region 5 with (at_make; refine wpList_make_full _ rfl (.const (.int .i64 8)) (.const (.int .i64 8)) 43 rfl w.heap.size 57 i0 (.slice none 0 0) 1 Tryz.underlying43 hi0 hz0 hz1 .i64 .i64 8 8 8 rfl rfl rfl rfl (by rw [hz2]; omega) (by simp only [maxLen]; omega) (Nat.le_refl _) ?_; intro w2 row2 g2; have K2 := Lib.hid ((Below.refl w.heap.size w).grown g2 (Nat.le_refl _) (by simp)); have ROW2 := Lib.hid row2; clear row2 g2)
  obtain ⟨w9, hw9⟩ : ∃ w9, w9 = w2.alloc (.cells #[.slice (some ⟨w.heap.size, 0, none⟩) 8 8, .string ⟨#[102, 105, 102, 111]⟩, .int .i64 1, .slice none 0 0, .slice none 0 0] 68) := ⟨_, rfl⟩
  obtain ⟨pb, hpb⟩ : ∃ pb, pb = w2.heap.size := ⟨_, rfl⟩
  rw [← hw9, ← hpb]
  have k9 : Below w.heap.size w w9 := by rw [hw9]; exact K2.out.alloc K2.out.size _
  have x9 : Blk w9 pb 68 #[.slice (some ⟨w.heap.size, 0, none⟩) 8 8, .string ⟨#[102, 105, 102, 111]⟩, .int .i64 1, .slice none 0 0, .slice none 0 0] := by rw [hw9, hpb]; exact Blk.new _ _ _
  have hgw : w.heap.size < w2.heap.size := by
    obtain ⟨-, ⟨q1, -⟩ | ⟨g6, cap, cur, hv, hg6, hh, -⟩⟩ := ROW2.out
    · cases q1
    · have := (Array.getElem?_eq_some_iff.1 hh).1
      omega
  have hpm9 : PMem (ownB none 0 0) w9 pb newS := by
    refine ⟨some ⟨w.heap.size, 0, none⟩, 8, none, 0, none, 0, x9, Nat.le_refl _, ⟨fun b o e => ?_, fun i hi => ?_⟩, Rd.nil_, fun _ => NotB.none_ _ pb, Rd.nil_, fun _ => NotB.none_ _ pb⟩
    · simp only [Option.some.injEq, Addr.mk.injEq, and_true] at e
      exact ⟨by omega, fun h9 => by cases h9⟩
    · have hi8 : i < 8 := hi
      refine ⟨w.heap.size, 0, none, 0, rfl, Nat.lt_of_lt_of_le hgw (by rw [hw9]; simp), ?_, ?_, fun _ => NotB.none_ _ pb⟩
      · have hc : w2.cell? ⟨w.heap.size, 0 + i, none⟩ = some (.slice none 0 0) := by
          have hr := own_cell_ ROW2.out (j := i) (show (madeCells (Value.slice none 0 0).cells (8 * 1)).toList[i]? = some (.slice none 0 0) by rw [slRow_new, List.getElem?_replicate, if_pos hi8])
          rw [Nat.zero_add]
          exact hr
        have e1 : (newS.cs[i]'hi) = [] := by
          have : newS.cs = List.replicate 8 [] := rfl
          simp only [this, List.getElem_replicate]
        rw [e1]
        rw [hw9]
        exact ((Below.refl w2.heap.size w2).alloc (Nat.le_refl _) _ |>.cell (p := ⟨w.heap.size, 0 + i, none⟩) hgw).trans hc
      · have e1 : (newS.cs[i]'hi) = [] := by
          have : newS.cs = List.replicate 8 [] := rfl
          simp only [this, List.getElem_replicate]
        rw [e1]
        exact Rd.nil_
  have hwp : w.heap.size ≤ pb := by rw [hpb]; exact K2.out.size
  have PB9 := Lib.hid (show pb < w9.heap.size from x9.lt)
  have HPM9 := Lib.hid hpm9
  have K9 := Lib.hid k9
  have HWP := Lib.hid hwp
  obtain ⟨i1, hi1, hy0, hy1, hy2⟩ := info_parts infoStr
  clear hw9 hpb k9 x9 hgw hpm9 hwp K2 ROW2
  go_wp2_with fail
  go_loopw [5, 20] (fun ov iv wr => ∃ (k : Nat) (A1 : Option Addr) (c1 : Nat), k ≤ L ∧ ov = .slice A1 (goS newS (ls.take k)).length c1 ∧ iv = .int .i64 k ∧ wr.ownsRow w9.heap.size 9 1 (.slice A1 (goS newS (ls.take k)).length c1) (goS newS (ls.take k)).length ((goS newS (ls.take k)).flatMap bCs) ∧ PMem (ownB A1 (goS newS (ls.take k)).length c1) wr pb (endS newS (ls.take k)) ∧ But pb w9 wr) (fun _ iv _ => L - (intOf iv).toNat)
  case atStart => exact ⟨0, none, 0, Nat.zero_le _, rfl, rfl, ⟨by simp [goS], .inl ⟨rfl, rfl⟩⟩, HPM9.out, But.refl _ _⟩
  case round =>
    obtain ⟨k, A1, c1, hk, rfl, rfl, row, hpm, hbt⟩ := hrel
    have kw := (But.of_pb HWP.out K9.out hbt)
    by_cases hlt0 : k < L
    · have hlt : k < ls.length := by have := HL.out; omega
      obtain ⟨b, o, rfl, hb, d0⟩ := RdB.get HR.out hlt
      obtain ⟨t, ht⟩ : ∃ t, t = ls[k] := ⟨_, rfl⟩
      rw [← ht] at d0
      have d1 : wr.cell? ⟨b, o + k, none⟩ = some (.string t) := (kw.cell (p := ⟨b, o + k, none⟩) hb).trans d0
      have htz : t.size ≤ 1000 := HZ.out t (by rw [ht]; exact List.getElem_mem hlt)
      obtain ⟨st, hst⟩ : ∃ st, st = endS newS (ls.take k) := ⟨_, rfl⟩
      obtain ⟨r, hr⟩ : ∃ r, r = goS newS (ls.take k) := ⟨_, rfl⟩
      rw [← hr] at row ⊢
      rw [← hst, ← hr] at hpm
      have hgl : r.length = k := by rw [hr, goS_len, List.length_take]; omega
      have hso : st.ok := by rw [hst]; exact endS_ok newS_ok _
      have HLN0 := Lib.hid (sline_any (ownB A1 r.length c1) pb st S wr B (Nat.le_trans hB HWP.out) (Nat.le_trans hB kw.size) (HS.out.below (kw.mono hB)) hpm (fun b h9 => own_lt_ row b h9) hso t htz)
      have HCC := Lib.hid (line_c st t)
      have HSO := Lib.hid hso
      have HRR := Lib.hid hr
      have HST := Lib.hid hst
      have HTE := Lib.hid ht
      have ROW := Lib.hid row
      have BT := Lib.hid hbt
      have KW := Lib.hid kw
      have q1 : (k : Int) < (L : Int) := by omega
      have q2 : (0 : Int) ≤ (k : Int) := by omega
      have hm1 : r.length ≤ 100 := by omega
      have M1 := Lib.hid (show r.length + 1 ≤ maxLen by simp only [maxLen]; omega)
      have M2 := Lib.hid (show (r.length + 1) * 16 ≤ 140737488355328 by omega)
      clear d0 ht hst hr row hbt kw hpm hso htz hgl hm1
      go_wp2_with fail
      refine HLN0.out.mono ?_
      rintro e w3 ⟨tt, v, aa, rfl, hv, hte, hpm, hbt⟩
      have hb3 := BT.out.trans hbt
      have o3 := own_sameG ROW.out fun b hb => hbt.blk b (own_lt_ ROW.out b hb) (fun e => by have := own_ge ROW.out b hb; have := PB9.out; omega)
      obtain ⟨cd, hcd⟩ : ∃ cd, cd = (lineS st t).1.1 := ⟨_, rfl⟩
      rw [← hcd] at hv hte
      have CS8 := Lib.hid (show 0 < (lineS st t).2.cs.length by have := (lineS_ok HSO.out t).ll.1; omega)
      have HXX := Lib.hid (show (lineS (endS newS (ls.take k)) (ls[k]'hlt)).2 = (lineS st t).2 by rw [← HST.out, ← HTE.out])
      by_cases hc : cd = 0
      · obtain rfl := hv.nil_of hc
        have O5 := Lib.hid o3
        have PM5 := Lib.hid hpm
        have BT5 := Lib.hid hb3
        have WB := Lib.hid hb3.size
        have z5 := Lib.hid (show w9.heap.size ≤ w3.heap.size from hb3.size)
        have HTT : outT (lineS (endS newS (ls.take k)) (ls[k]'hlt)).1 = tt := by
          rw [← HST.out, ← HTE.out]
          unfold outT
          rw [if_pos (by rw [← hcd]; exact hc)]
          exact (hte hc).symm
        have HNW := Lib.hid (show Rd (w3.alloc (.cells #[.string tt] 9)) (w3.heap.size + 1) 1 bCs (some ⟨w3.heap.size, 0, none⟩) [tt] from Rd.new_ rfl (by omega) bCs_len)
        have HTT := HTT
        have HTX := Lib.hid HTT
        clear HTT hv hte hpm hbt hb3 o3 hcd hc HLN0
        go_wp2_with (at_builtin; refine wpList_append_rd _ bCs rfl (.tmp 35) (.tmp 37) 24 rfl w9.heap.size 9 i1 (.string ⟨#[]⟩) 1 16 Tryz.underlying24 hi1 hy0 hy1 hy2 rfl (by omega) bCs_len bCs_one (.slice A1 r.length c1) r.length (r.flatMap bCs) rfl (O5.out.alloc _) (w3.heap.size + 1) (some ⟨w3.heap.size, 0, none⟩) 1 [tt] rfl HNW.out M1.out M2.out (le_alloc z5.out _) ?_; intro v4 w4 row4 g4 at4; obtain ⟨A6, c6, hv6, row5⟩ := own_app row4 (by omega); subst hv6; have ROW4 := Lib.hid row5; have G4 := Lib.hid g4; have AT4 := Lib.hid at4; clear row4 row5 at4 g4)
        have hq : r ++ [tt] = goS newS (ls.take (k + 1)) := by rw [HRR.out, (goS_take hlt).1, HTX.out]
        have hlen : r.length + 1 = (goS newS (ls.take (k + 1))).length := by rw [← hq]; simp
        have HLN := Lib.hid hlen
        have hrow := ROW4.out
        have HQ := Lib.hid hq
        rw [hq] at hrow
        try rw [hq]
        have kA : Below w3.heap.size w3 (w3.alloc (.cells #[.string tt] 9)) := (Below.refl _ _).alloc (Nat.le_refl _) _
        have hpn : ∀ q, (Value.slice A1 r.length c1).ownBlock = some q → q ≠ pb := fun q e => by have := own_ge O5.out q e; have := PB9.out; omega
        have hpm4 : PMem (ownB A6 (goS newS (ls.take (k + 1))).length c6) w4 pb (endS newS (ls.take (k + 1))) := by
          rw [(goS_take hlt).2, HXX.out]
          refine PMem.grown_ (PM5.out.but kA) CS8.out G4.out (fun q hq9 => ⟨hq9, hpn q hq9⟩) (fun q hq9 => ?_)
          have hq8 := AT4.out
          unfold ownB at hq9
          rw [← hq] at hq9
          rw [hq9] at hq8
          rcases hq8 with h9 | h9
          · exact .inl h9.symm
          · right
            injection h9 with h9
            omega
        have hbt4 : But pb w9 w4 := But.grown (BT5.out.trans (But.of_below kA)) G4.out (own_ge O5.out)
        have HPM4 := Lib.hid hpm4
        have HBT4 := Lib.hid hbt4
        have HRW4 := Lib.hid hrow
        clear hlen hq hrow hpm4 hbt4 kA hpn
        go_wp2_with fail
        go_roundw
        case rel => exact ⟨k + 1, A6, c6, by omega, by first | rfl | rw [← HLN.out], by go_num, HRW4.out, HPM4.out, HBT4.out⟩
        case measure => simp [intOf]; omega
      · have hk9 := HCC.out
        rw [← hcd] at hk9
        have hmem : cd ∈ [1, 2, 3, 4, 5, 9] := by unfold okC at hk9; simp only [List.mem_cons, List.not_mem_nil, or_false]; omega
        have kw3 := (But.of_pb HWP.out K9.out hb3)
        have hs3 := HS.out.below (kw3.mono hB)
        have EB0 := errBare_any v cd aa S w3 w3.heap.size (Nat.le_refl _) (hs3.gs.more (Nat.le_trans hB kw3.size)) hv hc
        obtain ⟨T, ad, rfl⟩ := hv.some_of hc
        obtain ⟨ed, hed⟩ : ∃ ed, ed = S cd := ⟨_, rfl⟩
        have EB : Calls Tryz.prog 24 #[.iface T (.pointer (some ad))] w3 fun e w' => e = .returned (.iface 242 (.pointer (some ed))) ∧ Below w3.heap.size w3 w' ∧ w'.cell? ed = some (.string (errT cd)) := EB0.mono fun e w' h9 => by
          obtain ⟨h1, -, -, h2⟩ := h9
          refine ⟨by rw [h1, hed]; rfl, h2, ?_⟩
          rw [hed]
          exact ((HS.out.below ((kw3.trans (h2.mono kw3.size)).mono hB)).tx cd hmem)
        have HEB := Lib.hid EB
        have HTT0 : outT (lineS (endS newS (ls.take k)) (ls[k]'hlt)).1 = errT cd := by
          rw [← HST.out, ← HTE.out]
          unfold outT
          rw [if_neg (by rw [← hcd]; exact hc), ← hcd]
        obtain ⟨et, het⟩ : ∃ et, et = errT cd := ⟨_, rfl⟩
        rw [← het] at HTT0 HEB
        have HTX := Lib.hid HTT0
        have H3 := Lib.hid hpm
        have HB3 := Lib.hid hb3
        have HO3 := Lib.hid o3
        clear hv hte hpm hbt hb3 o3 hcd hc HLN0 hk9 hmem kw3 hs3 EB0 EB hed HTT0 het
        go_wp2_with fail
        refine HEB.out.mono ?_
        rintro e w5 ⟨rfl, k5, ec⟩
        have HES := Lib.hid (estr_any ed et w5 ec)
        have O5 := Lib.hid (own_below HO3.out k5 (Nat.le_refl _))
        have PM5 := Lib.hid (H3.out.but k5)
        have BT5 := Lib.hid (HB3.out.trans (But.of_below k5))
        have WB := Lib.hid (BT5.out.size)
        have z5 := Lib.hid (show w9.heap.size ≤ w5.heap.size from BT5.out.size)
        have HNW := Lib.hid (show Rd (w5.alloc (.cells #[.string et] 9)) (w5.heap.size + 1) 1 bCs (some ⟨w5.heap.size, 0, none⟩) [et] from Rd.new_ rfl (by omega) bCs_len)
        have n1 := nil_err ed
        have n2 := meth_err ed
        clear k5 ec HEB
        go_wp2_with fail
        refine HES.out.mono ?_
        rintro e w6 ⟨rfl, rfl⟩
        clear HES
        go_wp2_with (at_builtin; refine wpList_append_rd _ bCs rfl (.tmp 35) (.tmp 37) 24 rfl w9.heap.size 9 i1 (.string ⟨#[]⟩) 1 16 Tryz.underlying24 hi1 hy0 hy1 hy2 rfl (by omega) bCs_len bCs_one (.slice A1 r.length c1) r.length (r.flatMap bCs) rfl (O5.out.alloc _) (w6.heap.size + 1) (some ⟨w6.heap.size, 0, none⟩) 1 [et] rfl HNW.out M1.out M2.out (le_alloc z5.out _) ?_; intro v4 w4 row4 g4 at4; obtain ⟨A6, c6, hv6, row5⟩ := own_app row4 (by omega); subst hv6; have ROW4 := Lib.hid row5; have G4 := Lib.hid g4; have AT4 := Lib.hid at4; clear row4 row5 at4 g4)
        have hq : r ++ [et] = goS newS (ls.take (k + 1)) := by rw [HRR.out, (goS_take hlt).1, HTX.out]
        have hlen : r.length + 1 = (goS newS (ls.take (k + 1))).length := by rw [← hq]; simp
        have HLN := Lib.hid hlen
        have hrow := ROW4.out
        have HQ := Lib.hid hq
        rw [hq] at hrow
        try rw [hq]
        have kA : Below w6.heap.size w6 (w6.alloc (.cells #[.string et] 9)) := (Below.refl _ _).alloc (Nat.le_refl _) _
        have hpn : ∀ q, (Value.slice A1 r.length c1).ownBlock = some q → q ≠ pb := fun q e => by have := own_ge O5.out q e; have := PB9.out; omega
        have hpm4 : PMem (ownB A6 (goS newS (ls.take (k + 1))).length c6) w4 pb (endS newS (ls.take (k + 1))) := by
          rw [(goS_take hlt).2, HXX.out]
          refine PMem.grown_ (PM5.out.but kA) CS8.out G4.out (fun q hq9 => ⟨hq9, hpn q hq9⟩) (fun q hq9 => ?_)
          have hq8 := AT4.out
          unfold ownB at hq9
          rw [← hq] at hq9
          rw [hq9] at hq8
          rcases hq8 with h9 | h9
          · exact .inl h9.symm
          · right
            injection h9 with h9
            omega
        have hbt4 : But pb w9 w4 := But.grown (BT5.out.trans (But.of_below kA)) G4.out (own_ge O5.out)
        have HPM4 := Lib.hid hpm4
        have HBT4 := Lib.hid hbt4
        have HRW4 := Lib.hid hrow
        clear hlen hq hrow hpm4 hbt4 kA hpn
        go_wp2_with fail
        go_roundw
        case rel => exact ⟨k + 1, A6, c6, by omega, by first | rfl | rw [← HLN.out], by go_num, HRW4.out, HPM4.out, HBT4.out⟩
        case measure => simp [intOf]; omega
    · obtain rfl : k = L := by omega
      have e1 : ls.take k = ls := List.take_of_length_le (by have := HL.out; omega)
      rw [e1] at row ⊢
      have ROW := Lib.hid row
      have KW := Lib.hid kw
      clear row hpm hbt kw e1
      go_wp2_with fail
      go_ret2
      exact ⟨A1, c1, rfl, own_mono ROW.out (K9.out.size), KW.out⟩
end
end Go.Proofs.YtoomffajodheaaaGreatDoor
