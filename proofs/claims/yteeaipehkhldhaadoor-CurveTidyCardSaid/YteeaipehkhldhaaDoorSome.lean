/- floodgateref1.somewhere: is a line somewhere less than all others? Conditions: right lines, few. -/
import Derived.Test.YteeaipehkhldhaaDoorTidy
namespace Go.Proofs.YteeaipehkhldhaaDoor
open Go.RowKit
set_option maxRecDepth 100000
structure SBd (s : SS) : Prop where
  lo : 0 ≤ s.lo ∧ s.lo ≤ 20000
  lb : 1 ≤ s.lb ∧ s.lb ≤ 100000
  hi : -20000 ≤ s.hi ∧ s.hi ≤ 20000
  hb : 0 ≤ s.hb ∧ s.hb ≤ 100000
theorem SBd.step {a b : Ln} {s : SS} (h : SBd s) (ha : okLn a) (hb : okLn b) (hne : b.r ≠ a.r) : SBd (ssStep a b s) := by
  obtain ⟨a1, a2, a3, a4⟩ := ha
  obtain ⟨b1, b2, b3, b4⟩ := hb
  unfold ssStep
  split
  · split
    · rename_i h1 h2
      exact ⟨by show 0 ≤ a.b - b.b ∧ a.b - b.b ≤ 20000; omega, by show 1 ≤ b.r - a.r ∧ b.r - a.r ≤ 100000; omega, h.hi, h.hb⟩
    · exact h
  · split
    · exact ⟨h.lo, h.lb, by show -20000 ≤ -(a.b - b.b) ∧ -(a.b - b.b) ≤ 20000; omega, by show 0 ≤ -(b.r - a.r) ∧ -(b.r - a.r) ≤ 100000; omega⟩
    · exact h
theorem ln_eq_iff {x y : Ln} : x = y ↔ x.b = y.b ∧ x.r = y.r := ⟨fun h => by rw [h]; exact ⟨rfl, rfl⟩, fun h => ln_ext h.1 h.2⟩
set_option maxHeartbeats 8000000 in
theorem somewhere_any (A : Option Addr) (c : Nat) (l : List Ln) (i : Nat) (w : World) (B : Nat) (hB : B ≤ w.heap.size) (h : RdL w B A l) (hl : l.length ≤ 1000) (hi : i < l.length) (hok : ∀ x ∈ l, okLn x) :
    Calls Tryd.prog 75 #[.slice A l.length c, .int .i64 (i : Int)] w fun e w' => e = .returned (.bool (someB l i)) ∧ Below w.heap.size w w' := by
  obtain ⟨b, o, rfl, hb, d0, d1⟩ := RdL.get h hi
  have hoka := hok _ (List.getElem_mem hi)
  obtain ⟨a, ha⟩ : ∃ a, a = l[i] := ⟨_, rfl⟩
  rw [← ha] at d0 d1 hoka
  have hsb : someB l i = match ssGo a i 0 ss0 l with | none => false | some s => ssEnd s := by
    unfold someB
    rw [List.getElem?_eq_getElem hi, ← ha]
    rfl
  have HSB := Lib.hid hsb
  have OKA := Lib.hid hoka
  have HOK := Lib.hid hok
  obtain ⟨a1, a2, a3, a4⟩ := hoka
  have q1 : (0 : Int) ≤ (i : Int) := by omega
  have q2 : (i : Int) < (l.length : Int) := by omega
  clear ha hsb hok
  go_enter Tryd.func75, Tryd.ntmps75
  go_upto_region 7 with fail
  obtain ⟨V, hV⟩ : ∃ V : World, V = w.alloc (.cells #[.int .i64 a.b, .int .i64 a.r] 24) := ⟨_, rfl⟩
  have bx : Blk V w.heap.size 24 #[.int .i64 a.b, .int .i64 a.r] := by rw [hV]; exact Blk.new _ _ _
  have kV : Below w.heap.size w V := by rw [hV]; exact (Below.refl _ _).alloc (Nat.le_refl _) _
  obtain ⟨gx, hgx⟩ : ∃ gx, gx = w.heap.size := ⟨_, rfl⟩
  rw [← hV, ← hgx]
  rw [← hgx] at bx
  have BX := Lib.hid bx
  clear hV hgx bx d0 d1
  go_wp2_with fail
  go_loopw [5, 6, 7, 8, 9, 11] (fun s5 s6 s7 s8 s9 kv wr => ∃ (k : Nat) (s : SS), k ≤ l.length ∧ kv = .int .i64 k ∧ s5 = .int .i64 s.lo ∧ s6 = .int .i64 s.lb ∧ s7 = .bool s.op ∧ s8 = .int .i64 s.hi ∧ s9 = .int .i64 s.hb ∧ ssGo a i 0 ss0 l = ssGo a i k s (l.drop k) ∧ SBd s ∧ Blk wr gx 24 #[.int .i64 a.b, .int .i64 a.r] ∧ Below w.heap.size w wr) (fun _ _ _ _ _ kv _ => l.length - (intOf kv).toNat)
  case atStart => exact ⟨0, ss0, Nat.zero_le _, rfl, rfl, rfl, rfl, rfl, rfl, rfl, ⟨by simp [ss0], by simp [ss0], by simp [ss0], by simp [ss0]⟩, BX.out, kV⟩
  case round =>
    obtain ⟨k, s, hk, rfl, rfl, rfl, rfl, rfl, rfl, hgo, hsd, hbx, hbw⟩ := hrel
    have HGO := Lib.hid hgo
    have HSD := Lib.hid hsd
    have BXW := Lib.hid hbx
    have zw := hbw.size
    clear hgo hbx BX kV
    obtain ⟨lo, lb, op, hi', hb'⟩ := s
    obtain ⟨sd1, sd2, sd3, sd4⟩ := hsd
    simp only at sd1 sd2 sd3 sd4
    by_cases hkl : k < l.length
    · have hokk := HOK.out _ (List.getElem_mem hkl)
      obtain ⟨b9, o9, e9, hb9, e0, e1⟩ := RdL.get (h.below (hbw.mono hB)) hkl
      simp only [Option.some.injEq, Addr.mk.injEq, and_true] at e9
      obtain ⟨rfl, rfl⟩ := e9
      have hd : l.drop k = l[k] :: l.drop (k + 1) := List.drop_eq_getElem_cons hkl
      obtain ⟨b', hb''⟩ : ∃ b', b' = l[k] := ⟨_, rfl⟩
      rw [← hb''] at hokk e0 e1 hd
      have OKB := Lib.hid hokk
      obtain ⟨b1, b2, b3, b4⟩ := hokk
      have HG2 := HGO.out
      rw [hd, ssGo] at HG2
      have HG := Lib.hid HG2
      have q3 : (0 : Int) ≤ (k : Int) := by omega
      have q4 : (k : Int) < (l.length : Int) := by omega
      clear hd hb'' HG2
      go_upto_region 11 with fail
      obtain ⟨V, hV⟩ : ∃ V : World, V = wr.alloc (.cells #[.int .i64 b'.b, .int .i64 b'.r] 24) := ⟨_, rfl⟩
      have by_ : Blk V wr.heap.size 24 #[.int .i64 b'.b, .int .i64 b'.r] := by rw [hV]; exact Blk.new _ _ _
      have bxV : Blk V gx 24 #[.int .i64 a.b, .int .i64 a.r] := by rw [hV]; exact BXW.out.alloc _
      have kV : Below w.heap.size w V := by rw [hV]; exact hbw.alloc zw _
      obtain ⟨gy, hgy⟩ : ∃ gy, gy = wr.heap.size := ⟨_, rfl⟩
      rw [← hV, ← hgy]
      rw [← hgy] at by_
      have x0 : V.cell? ⟨gx, 0, none⟩ = some (.int .i64 a.b) := bxV.cell 0
      have x1 : V.cell? ⟨gx, 1, none⟩ = some (.int .i64 a.r) := bxV.cell 1
      have y0 : V.cell? ⟨gy, 0, none⟩ = some (.int .i64 b'.b) := by_.cell 0
      have y1 : V.cell? ⟨gy, 1, none⟩ = some (.int .i64 b'.r) := by_.cell 1
      have BXV := Lib.hid bxV
      clear hV hgy by_ bxV e0 e1
      go_cut [31] from 19 to 86 (fun s31 wx => s31 = .bool (decide (b' = a)) ∧ wx = V)
      case first => as_aux_lemma =>
        by_cases hbe : b'.b = a.b
        · have c1 : (b'.b == a.b) = true := beq_iff_eq.2 hbe
          by_cases hre : b'.r = a.r
          · have c2 : (b'.r == a.r) = true := beq_iff_eq.2 hre
            have E := Lib.hid (show decide (b' = a) = true from decide_eq_true (ln_eq_iff.2 ⟨hbe, hre⟩))
            clear hbe hre
            go_wp2_with fail
            go_meet
            exact ⟨by rw [E.out], rfl⟩
          · have c2 : (b'.r == a.r) = false := beq_eq_false_iff_ne.2 hre
            have E := Lib.hid (show decide (b' = a) = false from decide_eq_false (fun e => hre (ln_eq_iff.1 e).2))
            clear hbe hre
            go_wp2_with fail
            go_meet
            exact ⟨by rw [E.out], rfl⟩
        · have c1 : (b'.b == a.b) = false := beq_eq_false_iff_ne.2 hbe
          have E := Lib.hid (show decide (b' = a) = false from decide_eq_false (fun e => hbe (ln_eq_iff.1 e).1))
          clear hbe
          go_wp2_with fail
          go_meet
          exact ⟨by rw [E.out], rfl⟩
      case rest =>
      obtain ⟨rfl, hwc⟩ := hcut
      obtain rfl : V = wc := hwc.symm
      clear hwc
      by_cases hba : b' = a
      · rw [decide_eq_true hba]
        have HB1 := HG.out
        rw [if_pos hba] at HB1
        by_cases hki : k < i
        · rw [if_pos hki] at HB1
          have E := Lib.hid (show someB l i = false by rw [HSB.out, HB1])
          clear HB1 hba
          go_wp2_with fail
          go_ret
          exact ⟨by rw [E.out]; rfl, kV⟩
        · rw [if_neg hki] at HB1
          have HN := Lib.hid HB1
          clear HB1 hba
          go_wp2_with fail
          go_roundw
          case rel => exact ⟨k + 1, ⟨lo, lb, op, hi', hb'⟩, hkl, by go_num, rfl, rfl, rfl, rfl, rfl, HN.out, HSD.out, BXV.out, kV⟩
          case measure => simp [intOf]; omega
      · rw [decide_eq_false hba]
        have HB1 := HG.out
        rw [if_neg hba] at HB1
        clear hba
        by_cases hre : b'.r = a.r
        · have c2 : (b'.r == a.r) = true := beq_iff_eq.2 hre
          rw [if_pos hre] at HB1
          by_cases hbb : b'.b ≤ a.b
          · rw [if_pos hbb] at HB1
            have E := Lib.hid (show someB l i = false by rw [HSB.out, HB1])
            clear HB1 hre
            go_wp2_with fail
            go_ret
            exact ⟨by rw [E.out]; rfl, kV⟩
          · rw [if_neg hbb] at HB1
            have HN := Lib.hid HB1
            clear HB1 hre
            go_wp2_with fail
            go_roundw
            case rel => exact ⟨k + 1, ⟨lo, lb, op, hi', hb'⟩, hkl, by go_num, rfl, rfl, rfl, rfl, rfl, HN.out, HSD.out, BXV.out, kV⟩
            case measure => simp [intOf]; omega
        · have c2 : (b'.r == a.r) = false := beq_eq_false_iff_ne.2 hre
          rw [if_neg hre] at HB1
          have HST := Lib.hid (HSD.out.step OKA.out OKB.out hre)
          have HN := Lib.hid HB1
          obtain ⟨n, hn⟩ : ∃ n, n = a.b - b'.b := ⟨_, rfl⟩
          obtain ⟨by', hby⟩ : ∃ by', by' = b'.r - a.r := ⟨_, rfl⟩
          have n1 : -20000 ≤ n ∧ n ≤ 20000 := by omega
          have m1 : -100000 ≤ by' ∧ by' ≤ 100000 := by omega
          obtain ⟨t1, t2⟩ := prod_bd (a := n) (b := lb) (by omega) (by omega)
          obtain ⟨t3, t4⟩ := prod_bd (a := lo) (b := by') (by omega) (by omega)
          obtain ⟨t5, t6⟩ := prod_bd (a := -n) (b := hb') (by omega) (by omega)
          obtain ⟨t7, t8⟩ := prod_bd (a := hi') (b := -by') (by omega) (by omega)
          have hstep : ssStep a b' ⟨lo, lb, op, hi', hb'⟩ = if 0 < by' then (if 0 ≤ n ∧ lo * by' ≤ n * lb then ⟨n, by', true, hi', hb'⟩ else ⟨lo, lb, op, hi', hb'⟩) else (if hb' = 0 ∨ -n * hb' < hi' * -by' then ⟨lo, lb, op, -n, -by'⟩ else ⟨lo, lb, op, hi', hb'⟩) := by
            rw [hn, hby]
            rfl
          have HN1 := Lib.hid hn
          have HBY := Lib.hid hby
          have hby0 : by' ≠ 0 := by omega
          clear HB1 hre
          by_cases hby1 : 0 < by'
          · by_cases hn0 : 0 ≤ n
            · by_cases hc : lo * by' ≤ n * lb
              · have E := Lib.hid (show ssStep a b' ⟨lo, lb, op, hi', hb'⟩ = ⟨n, by', true, hi', hb'⟩ by rw [hstep, if_pos hby1, if_pos ⟨hn0, hc⟩])
                clear hstep hn hby hby0
                go_upto_region 19 with fail
                rw [← HN1.out, ← HBY.out]
                go_wp2_with fail
                go_roundw
                case rel => exact ⟨k + 1, ⟨n, by', true, hi', hb'⟩, hkl, by go_num, rfl, rfl, rfl, rfl, rfl, by rw [← E.out]; exact HN.out, by rw [← E.out]; exact HST.out, BXV.out, kV⟩
                case measure => simp [intOf]; omega
              · have E := Lib.hid (show ssStep a b' ⟨lo, lb, op, hi', hb'⟩ = ⟨lo, lb, op, hi', hb'⟩ by rw [hstep, if_pos hby1, if_neg (fun e => hc e.2)])
                clear hstep hn hby hby0
                go_upto_region 19 with fail
                rw [← HN1.out, ← HBY.out]
                go_wp2_with fail
                go_roundw
                case rel => exact ⟨k + 1, ⟨lo, lb, op, hi', hb'⟩, hkl, by go_num, rfl, rfl, rfl, rfl, rfl, by rw [← E.out]; exact HN.out, by rw [← E.out]; exact HST.out, BXV.out, kV⟩
                case measure => simp [intOf]; omega
            · have E := Lib.hid (show ssStep a b' ⟨lo, lb, op, hi', hb'⟩ = ⟨lo, lb, op, hi', hb'⟩ by rw [hstep, if_pos hby1, if_neg (fun e => hn0 e.1)])
              clear hstep hn hby hby0
              go_upto_region 19 with fail
              rw [← HN1.out, ← HBY.out]
              go_wp2_with fail
              go_roundw
              case rel => exact ⟨k + 1, ⟨lo, lb, op, hi', hb'⟩, hkl, by go_num, rfl, rfl, rfl, rfl, rfl, by rw [← E.out]; exact HN.out, by rw [← E.out]; exact HST.out, BXV.out, kV⟩
              case measure => simp [intOf]; omega
          · by_cases hh0 : hb' = 0
            · have E := Lib.hid (show ssStep a b' ⟨lo, lb, op, hi', hb'⟩ = ⟨lo, lb, op, -n, -by'⟩ by rw [hstep, if_neg hby1, if_pos (.inl hh0)])
              have c4 : (hb' == 0) = true := beq_iff_eq.2 hh0
              clear hstep hn hby hby0 hh0
              go_upto_region 19 with fail
              rw [← HN1.out, ← HBY.out]
              go_wp2_with fail
              go_roundw
              case rel => exact ⟨k + 1, ⟨lo, lb, op, -n, -by'⟩, hkl, by go_num, rfl, rfl, rfl, rfl, rfl, by rw [← E.out]; exact HN.out, by rw [← E.out]; exact HST.out, BXV.out, kV⟩
              case measure => simp [intOf]; omega
            · have c4 : (hb' == 0) = false := beq_eq_false_iff_ne.2 hh0
              by_cases hc : -n * hb' < hi' * -by'
              · have E := Lib.hid (show ssStep a b' ⟨lo, lb, op, hi', hb'⟩ = ⟨lo, lb, op, -n, -by'⟩ by rw [hstep, if_neg hby1, if_pos (.inr hc)])
                clear hstep hn hby hby0 hh0
                go_upto_region 19 with fail
                rw [← HN1.out, ← HBY.out]
                go_wp2_with fail
                go_roundw
                case rel => exact ⟨k + 1, ⟨lo, lb, op, -n, -by'⟩, hkl, by go_num, rfl, rfl, rfl, rfl, rfl, by rw [← E.out]; exact HN.out, by rw [← E.out]; exact HST.out, BXV.out, kV⟩
                case measure => simp [intOf]; omega
              · have E := Lib.hid (show ssStep a b' ⟨lo, lb, op, hi', hb'⟩ = ⟨lo, lb, op, hi', hb'⟩ by rw [hstep, if_neg hby1, if_neg (fun e => e.elim hh0 hc)])
                clear hstep hn hby hby0 hh0
                go_upto_region 19 with fail
                rw [← HN1.out, ← HBY.out]
                go_wp2_with fail
                go_roundw
                case rel => exact ⟨k + 1, ⟨lo, lb, op, hi', hb'⟩, hkl, by go_num, rfl, rfl, rfl, rfl, rfl, by rw [← E.out]; exact HN.out, by rw [← E.out]; exact HST.out, BXV.out, kV⟩
                case measure => simp [intOf]; omega
    · have hfin : someB l i = ssEnd ⟨lo, lb, op, hi', hb'⟩ := by rw [HSB.out, HGO.out, List.drop_eq_nil_of_le (by omega)]; rfl
      have HF := Lib.hid hfin
      obtain ⟨t1, t2⟩ := prod_bd (a := lo) (b := hb') (by omega) (by omega)
      obtain ⟨t3, t4⟩ := prod_bd (a := hi') (b := lb) (by omega) (by omega)
      clear hfin
      by_cases hh0 : hb' = 0
      · have c4 : (hb' == 0) = true := beq_iff_eq.2 hh0
        have E := Lib.hid (show ssEnd ⟨lo, lb, op, hi', hb'⟩ = true from if_pos hh0)
        clear hh0
        go_wp2_with fail
        go_ret
        exact ⟨by rw [HF.out, E.out]; rfl, hbw⟩
      · have c4 : (hb' == 0) = false := beq_eq_false_iff_ne.2 hh0
        cases op with
        | false =>
          have E := Lib.hid (show ssEnd ⟨lo, lb, false, hi', hb'⟩ = decide (0 < hi') from (if_neg hh0).trans (if_pos rfl))
          clear hh0
          go_wp2_with fail
          go_ret
          exact ⟨by rw [HF.out, E.out]; rfl, hbw⟩
        | true =>
          have E := Lib.hid (show ssEnd ⟨lo, lb, true, hi', hb'⟩ = decide (lo * hb' < hi' * lb) from (if_neg hh0).trans (if_neg (by simp)))
          clear hh0
          go_wp2_with fail
          go_ret
          exact ⟨by rw [HF.out, E.out]; rfl, hbw⟩
end Go.Proofs.YteeaipehkhldhaaDoor
