/- floodgateref1.somewhere: is a line somewhere less than all others? Conditions: right lines, few. floodgateref1.TidyOf, at right lines. Conditions: where they lie; few. floodgateref1.SumOf, at right lines. Conditions: where they lie; few, right. floodgateref2.CurveOf at a right gate. Conditions: as for a gate in memory. -/
import Derived.Test.YthgpbdlmadjndaaGreatDoorSuM
import Derived.BigRegion
import Derived.Deep.CutRange
import Derived.Test.YthgpbdlmadjndaaGreatDoorCvM
import Derived.Test.YthgpbdlmadjndaaGreatDoorKpM
namespace Go.Proofs.YthgpbdlmadjndaaGreatDoor
open Go.RowKit
set_option maxRecDepth 100000
structure SBd (s : SS) : Prop where
  lo : 0 ≤ s.lo ∧ s.lo ≤ 20000
  lb : 1 ≤ s.lb ∧ s.lb ≤ 100000
  hi : -20000 ≤ s.hi ∧ s.hi ≤ 20000
  hb : 0 ≤ s.hb ∧ s.hb ≤ 100000
theorem SBd.step {a b : Ln} {s : SS} (h : SBd s) (ha : okLn a) (hb : okLn b) (hne : b.r ≠ a.r) : SBd (ssStep a b s) := by
  obtain ⟨a1, a2, a3, a4⟩ := ha
  obtain ⟨b1, b2, b3, b4⟩ := hb
  unfold ssStep
  split
  · split
    · rename_i h1 h2
      exact ⟨by show 0 ≤ a.b - b.b ∧ a.b - b.b ≤ 20000; omega, by show 1 ≤ b.r - a.r ∧ b.r - a.r ≤ 100000; omega, h.hi, h.hb⟩
    · exact h
  · split
    · exact ⟨h.lo, h.lb, by show -20000 ≤ -(a.b - b.b) ∧ -(a.b - b.b) ≤ 20000; omega, by show 0 ≤ -(b.r - a.r) ∧ -(b.r - a.r) ≤ 100000; omega⟩
    · exact h
theorem ln_eq_iff {x y : Ln} : x = y ↔ x.b = y.b ∧ x.r = y.r := ⟨fun h => by rw [h]; exact ⟨rfl, rfl⟩, fun h => ln_ext h.1 h.2⟩
set_option maxHeartbeats 8000000 in
theorem somewhere_any (A : Option Addr) (c : Nat) (l : List Ln) (i : Nat) (w : World) (B : Nat) (hB : B ≤ w.heap.size) (h : RdL w B A l) (hl : l.length ≤ 1000) (hi : i < l.length) (hok : ∀ x ∈ l, okLn x) :
    Calls Tryz.prog 112 #[.slice A l.length c, .int .i64 (i : Int)] w fun e w' => e = .returned (.bool (someB l i)) ∧ Below w.heap.size w w' := by
  obtain ⟨b, o, rfl, hb, d0, d1⟩ := RdL.get h hi
  have hoka := hok _ (List.getElem_mem hi)
  obtain ⟨a, ha⟩ : ∃ a, a = l[i] := ⟨_, rfl⟩
  rw [← ha] at d0 d1 hoka
  have hsb : someB l i = match ssGo a i 0 ss0 l with | none => false | some s => ssEnd s := by
    unfold someB
    rw [List.getElem?_eq_getElem hi, ← ha]
    rfl
  have HSB := Lib.hid hsb
  have OKA := Lib.hid hoka
  have HOK := Lib.hid hok
  obtain ⟨a1, a2, a3, a4⟩ := hoka
  have q1 : (0 : Int) ≤ (i : Int) := by omega
  have q2 : (i : Int) < (l.length : Int) := by omega
  clear ha hsb hok
  go_enter Tryz.func112, Tryz.ntmps112
  go_upto_region 7 with fail
  obtain ⟨V, hV⟩ : ∃ V : World, V = w.alloc (.cells #[.int .i64 a.b, .int .i64 a.r] 97) := ⟨_, rfl⟩
  have bx : Blk V w.heap.size 97 #[.int .i64 a.b, .int .i64 a.r] := by rw [hV]; exact Blk.new _ _ _
  have kV : Below w.heap.size w V := by rw [hV]; exact (Below.refl _ _).alloc (Nat.le_refl _) _
  obtain ⟨gx, hgx⟩ : ∃ gx, gx = w.heap.size := ⟨_, rfl⟩
  rw [← hV, ← hgx]
  rw [← hgx] at bx
  have BX := Lib.hid bx
  clear hV hgx bx d0 d1
  go_wp2_with fail
  go_loopw [5, 6, 7, 8, 9, 11] (fun s5 s6 s7 s8 s9 kv wr => ∃ (k : Nat) (s : SS), k ≤ l.length ∧ kv = .int .i64 k ∧ s5 = .int .i64 s.lo ∧ s6 = .int .i64 s.lb ∧ s7 = .bool s.op ∧ s8 = .int .i64 s.hi ∧ s9 = .int .i64 s.hb ∧ ssGo a i 0 ss0 l = ssGo a i k s (l.drop k) ∧ SBd s ∧ Blk wr gx 97 #[.int .i64 a.b, .int .i64 a.r] ∧ Below w.heap.size w wr) (fun _ _ _ _ _ kv _ => l.length - (intOf kv).toNat)
  case atStart => exact ⟨0, ss0, Nat.zero_le _, rfl, rfl, rfl, rfl, rfl, rfl, rfl, ⟨by simp [ss0], by simp [ss0], by simp [ss0], by simp [ss0]⟩, BX.out, kV⟩
  case round =>
    obtain ⟨k, s, hk, rfl, rfl, rfl, rfl, rfl, rfl, hgo, hsd, hbx, hbw⟩ := hrel
    have HGO := Lib.hid hgo
    have HSD := Lib.hid hsd
    have BXW := Lib.hid hbx
    have zw := hbw.size
    clear hgo hbx BX kV
    obtain ⟨lo, lb, op, hi', hb'⟩ := s
    obtain ⟨sd1, sd2, sd3, sd4⟩ := hsd
    simp only at sd1 sd2 sd3 sd4
    by_cases hkl : k < l.length
    · have hokk := HOK.out _ (List.getElem_mem hkl)
      obtain ⟨b9, o9, e9, hb9, e0, e1⟩ := RdL.get (h.below (hbw.mono hB)) hkl
      simp only [Option.some.injEq, Addr.mk.injEq, and_true] at e9
      obtain ⟨rfl, rfl⟩ := e9
      have hd : l.drop k = l[k] :: l.drop (k + 1) := List.drop_eq_getElem_cons hkl
      obtain ⟨b', hb''⟩ : ∃ b', b' = l[k] := ⟨_, rfl⟩
      rw [← hb''] at hokk e0 e1 hd
      have OKB := Lib.hid hokk
      obtain ⟨b1, b2, b3, b4⟩ := hokk
      have HG2 := HGO.out
      rw [hd, ssGo] at HG2
      have HG := Lib.hid HG2
      have q3 : (0 : Int) ≤ (k : Int) := by omega
      have q4 : (k : Int) < (l.length : Int) := by omega
      clear hd hb'' HG2
      go_upto_region 11 with fail
      obtain ⟨V, hV⟩ : ∃ V : World, V = wr.alloc (.cells #[.int .i64 b'.b, .int .i64 b'.r] 97) := ⟨_, rfl⟩
      have by_ : Blk V wr.heap.size 97 #[.int .i64 b'.b, .int .i64 b'.r] := by rw [hV]; exact Blk.new _ _ _
      have bxV : Blk V gx 97 #[.int .i64 a.b, .int .i64 a.r] := by rw [hV]; exact BXW.out.alloc _
      have kV : Below w.heap.size w V := by rw [hV]; exact hbw.alloc zw _
      obtain ⟨gy, hgy⟩ : ∃ gy, gy = wr.heap.size := ⟨_, rfl⟩
      rw [← hV, ← hgy]
      rw [← hgy] at by_
      have x0 : V.cell? ⟨gx, 0, none⟩ = some (.int .i64 a.b) := bxV.cell 0
      have x1 : V.cell? ⟨gx, 1, none⟩ = some (.int .i64 a.r) := bxV.cell 1
      have y0 : V.cell? ⟨gy, 0, none⟩ = some (.int .i64 b'.b) := by_.cell 0
      have y1 : V.cell? ⟨gy, 1, none⟩ = some (.int .i64 b'.r) := by_.cell 1
      have BXV := Lib.hid bxV
      clear hV hgy by_ bxV e0 e1
      go_cut [31] from 19 to 86 (fun s31 wx => s31 = .bool (decide (b' = a)) ∧ wx = V)
      case first => as_aux_lemma =>
        by_cases hbe : b'.b = a.b
        · have c1 : (b'.b == a.b) = true := beq_iff_eq.2 hbe
          by_cases hre : b'.r = a.r
          · have c2 : (b'.r == a.r) = true := beq_iff_eq.2 hre
            have E := Lib.hid (show decide (b' = a) = true from decide_eq_true (ln_eq_iff.2 ⟨hbe, hre⟩))
            clear hbe hre
            go_wp2_with fail
            go_meet
            exact ⟨by rw [E.out], rfl⟩
          · have c2 : (b'.r == a.r) = false := beq_eq_false_iff_ne.2 hre
            have E := Lib.hid (show decide (b' = a) = false from decide_eq_false (fun e => hre (ln_eq_iff.1 e).2))
            clear hbe hre
            go_wp2_with fail
            go_meet
            exact ⟨by rw [E.out], rfl⟩
        · have c1 : (b'.b == a.b) = false := beq_eq_false_iff_ne.2 hbe
          have E := Lib.hid (show decide (b' = a) = false from decide_eq_false (fun e => hbe (ln_eq_iff.1 e).1))
          clear hbe
          go_wp2_with fail
          go_meet
          exact ⟨by rw [E.out], rfl⟩
      case rest =>
      obtain ⟨rfl, hwc⟩ := hcut
      obtain rfl : V = wc := hwc.symm
      clear hwc
      by_cases hba : b' = a
      · rw [decide_eq_true hba]
        have HB1 := HG.out
        rw [if_pos hba] at HB1
        by_cases hki : k < i
        · rw [if_pos hki] at HB1
          have E := Lib.hid (show someB l i = false by rw [HSB.out, HB1])
          clear HB1 hba
          go_wp2_with fail
          go_ret
          exact ⟨by rw [E.out]; rfl, kV⟩
        · rw [if_neg hki] at HB1
          have HN := Lib.hid HB1
          clear HB1 hba
          go_wp2_with fail
          go_roundw
          case rel => exact ⟨k + 1, ⟨lo, lb, op, hi', hb'⟩, hkl, by go_num, rfl, rfl, rfl, rfl, rfl, HN.out, HSD.out, BXV.out, kV⟩
          case measure => simp [intOf]; omega
      · rw [decide_eq_false hba]
        have HB1 := HG.out
        rw [if_neg hba] at HB1
        clear hba
        by_cases hre : b'.r = a.r
        · have c2 : (b'.r == a.r) = true := beq_iff_eq.2 hre
          rw [if_pos hre] at HB1
          by_cases hbb : b'.b ≤ a.b
          · rw [if_pos hbb] at HB1
            have E := Lib.hid (show someB l i = false by rw [HSB.out, HB1])
            clear HB1 hre
            go_wp2_with fail
            go_ret
            exact ⟨by rw [E.out]; rfl, kV⟩
          · rw [if_neg hbb] at HB1
            have HN := Lib.hid HB1
            clear HB1 hre
            go_wp2_with fail
            go_roundw
            case rel => exact ⟨k + 1, ⟨lo, lb, op, hi', hb'⟩, hkl, by go_num, rfl, rfl, rfl, rfl, rfl, HN.out, HSD.out, BXV.out, kV⟩
            case measure => simp [intOf]; omega
        · have c2 : (b'.r == a.r) = false := beq_eq_false_iff_ne.2 hre
          rw [if_neg hre] at HB1
          have HST := Lib.hid (HSD.out.step OKA.out OKB.out hre)
          have HN := Lib.hid HB1
          obtain ⟨n, hn⟩ : ∃ n, n = a.b - b'.b := ⟨_, rfl⟩
          obtain ⟨by', hby⟩ : ∃ by', by' = b'.r - a.r := ⟨_, rfl⟩
          have n1 : -20000 ≤ n ∧ n ≤ 20000 := by omega
          have m1 : -100000 ≤ by' ∧ by' ≤ 100000 := by omega
          obtain ⟨t1, t2⟩ := prod_bd (a := n) (b := lb) (by omega) (by omega)
          obtain ⟨t3, t4⟩ := prod_bd (a := lo) (b := by') (by omega) (by omega)
          obtain ⟨t5, t6⟩ := prod_bd (a := -n) (b := hb') (by omega) (by omega)
          obtain ⟨t7, t8⟩ := prod_bd (a := hi') (b := -by') (by omega) (by omega)
          have hstep : ssStep a b' ⟨lo, lb, op, hi', hb'⟩ = if 0 < by' then (if 0 ≤ n ∧ lo * by' ≤ n * lb then ⟨n, by', true, hi', hb'⟩ else ⟨lo, lb, op, hi', hb'⟩) else (if hb' = 0 ∨ -n * hb' < hi' * -by' then ⟨lo, lb, op, -n, -by'⟩ else ⟨lo, lb, op, hi', hb'⟩) := by
            rw [hn, hby]
            rfl
          have HN1 := Lib.hid hn
          have HBY := Lib.hid hby
          have hby0 : by' ≠ 0 := by omega
          clear HB1 hre
          by_cases hby1 : 0 < by'
          · by_cases hn0 : 0 ≤ n
            · by_cases hc : lo * by' ≤ n * lb
              · have E := Lib.hid (show ssStep a b' ⟨lo, lb, op, hi', hb'⟩ = ⟨n, by', true, hi', hb'⟩ by rw [hstep, if_pos hby1, if_pos ⟨hn0, hc⟩])
                clear hstep hn hby hby0
                go_upto_region 19 with fail
                rw [← HN1.out, ← HBY.out]
                go_wp2_with fail
                go_roundw
                case rel => exact ⟨k + 1, ⟨n, by', true, hi', hb'⟩, hkl, by go_num, rfl, rfl, rfl, rfl, rfl, by rw [← E.out]; exact HN.out, by rw [← E.out]; exact HST.out, BXV.out, kV⟩
                case measure => simp [intOf]; omega
              · have E := Lib.hid (show ssStep a b' ⟨lo, lb, op, hi', hb'⟩ = ⟨lo, lb, op, hi', hb'⟩ by rw [hstep, if_pos hby1, if_neg (fun e => hc e.2)])
                clear hstep hn hby hby0
                go_upto_region 19 with fail
                rw [← HN1.out, ← HBY.out]
                go_wp2_with fail
                go_roundw
                case rel => exact ⟨k + 1, ⟨lo, lb, op, hi', hb'⟩, hkl, by go_num, rfl, rfl, rfl, rfl, rfl, by rw [← E.out]; exact HN.out, by rw [← E.out]; exact HST.out, BXV.out, kV⟩
                case measure => simp [intOf]; omega
            · have E := Lib.hid (show ssStep a b' ⟨lo, lb, op, hi', hb'⟩ = ⟨lo, lb, op, hi', hb'⟩ by rw [hstep, if_pos hby1, if_neg (fun e => hn0 e.1)])
              clear hstep hn hby hby0
              go_upto_region 19 with fail
              rw [← HN1.out, ← HBY.out]
              go_wp2_with fail
              go_roundw
              case rel => exact ⟨k + 1, ⟨lo, lb, op, hi', hb'⟩, hkl, by go_num, rfl, rfl, rfl, rfl, rfl, by rw [← E.out]; exact HN.out, by rw [← E.out]; exact HST.out, BXV.out, kV⟩
              case measure => simp [intOf]; omega
          · by_cases hh0 : hb' = 0
            · have E := Lib.hid (show ssStep a b' ⟨lo, lb, op, hi', hb'⟩ = ⟨lo, lb, op, -n, -by'⟩ by rw [hstep, if_neg hby1, if_pos (.inl hh0)])
              have c4 : (hb' == 0) = true := beq_iff_eq.2 hh0
              clear hstep hn hby hby0 hh0
              go_upto_region 19 with fail
              rw [← HN1.out, ← HBY.out]
              go_wp2_with fail
              go_roundw
              case rel => exact ⟨k + 1, ⟨lo, lb, op, -n, -by'⟩, hkl, by go_num, rfl, rfl, rfl, rfl, rfl, by rw [← E.out]; exact HN.out, by rw [← E.out]; exact HST.out, BXV.out, kV⟩
              case measure => simp [intOf]; omega
            · have c4 : (hb' == 0) = false := beq_eq_false_iff_ne.2 hh0
              by_cases hc : -n * hb' < hi' * -by'
              · have E := Lib.hid (show ssStep a b' ⟨lo, lb, op, hi', hb'⟩ = ⟨lo, lb, op, -n, -by'⟩ by rw [hstep, if_neg hby1, if_pos (.inr hc)])
                clear hstep hn hby hby0 hh0
                go_upto_region 19 with fail
                rw [← HN1.out, ← HBY.out]
                go_wp2_with fail
                go_roundw
                case rel => exact ⟨k + 1, ⟨lo, lb, op, -n, -by'⟩, hkl, by go_num, rfl, rfl, rfl, rfl, rfl, by rw [← E.out]; exact HN.out, by rw [← E.out]; exact HST.out, BXV.out, kV⟩
                case measure => simp [intOf]; omega
              · have E := Lib.hid (show ssStep a b' ⟨lo, lb, op, hi', hb'⟩ = ⟨lo, lb, op, hi', hb'⟩ by rw [hstep, if_neg hby1, if_neg (fun e => e.elim hh0 hc)])
                clear hstep hn hby hby0 hh0
                go_upto_region 19 with fail
                rw [← HN1.out, ← HBY.out]
                go_wp2_with fail
                go_roundw
                case rel => exact ⟨k + 1, ⟨lo, lb, op, hi', hb'⟩, hkl, by go_num, rfl, rfl, rfl, rfl, rfl, by rw [← E.out]; exact HN.out, by rw [← E.out]; exact HST.out, BXV.out, kV⟩
                case measure => simp [intOf]; omega
    · have hfin : someB l i = ssEnd ⟨lo, lb, op, hi', hb'⟩ := by rw [HSB.out, HGO.out, List.drop_eq_nil_of_le (by omega)]; rfl
      have HF := Lib.hid hfin
      obtain ⟨t1, t2⟩ := prod_bd (a := lo) (b := hb') (by omega) (by omega)
      obtain ⟨t3, t4⟩ := prod_bd (a := hi') (b := lb) (by omega) (by omega)
      clear hfin
      by_cases hh0 : hb' = 0
      · have c4 : (hb' == 0) = true := beq_iff_eq.2 hh0
        have E := Lib.hid (show ssEnd ⟨lo, lb, op, hi', hb'⟩ = true from if_pos hh0)
        clear hh0
        go_wp2_with fail
        go_ret
        exact ⟨by rw [HF.out, E.out]; rfl, hbw⟩
      · have c4 : (hb' == 0) = false := beq_eq_false_iff_ne.2 hh0
        cases op with
        | false =>
          have E := Lib.hid (show ssEnd ⟨lo, lb, false, hi', hb'⟩ = decide (0 < hi') from (if_neg hh0).trans (if_pos rfl))
          clear hh0
          go_wp2_with fail
          go_ret
          exact ⟨by rw [HF.out, E.out]; rfl, hbw⟩
        | true =>
          have E := Lib.hid (show ssEnd ⟨lo, lb, true, hi', hb'⟩ = decide (lo * hb' < hi' * lb) from (if_neg hh0).trans (if_neg (by simp)))
          clear hh0
          go_wp2_with fail
          go_ret
          exact ⟨by rw [HF.out, E.out]; rfl, hbw⟩
end Go.Proofs.YthgpbdlmadjndaaGreatDoor
namespace Go.Proofs.YthgpbdlmadjndaaGreatDoor
open Go.RowKit
set_option maxRecDepth 100000
theorem tw_take {out : List Ln} {p : Ln → Bool} {j : Nat} (hj : j ≤ out.length) (h1 : ∀ (m : Nat) (hm : m < out.length), m < j → p out[m] = true) (h2 : ∀ (hm : j < out.length), p out[j] = false) : out.takeWhile p = out.take j ∧ out.dropWhile p = out.drop j := by
  induction out generalizing j with
  | nil => simp
  | cons y r ih =>
    cases j with
    | zero =>
      have h3 : p y = false := h2 (by simp)
      rw [List.takeWhile_cons_of_neg (by simp [h3]), List.dropWhile_cons_of_neg (by simp [h3])]
      simp
    | succ j =>
      have h3 : p y = true := h1 0 (by simp) (by omega)
      obtain ⟨e1, e2⟩ := ih (j := j) (by simpa using hj) (fun m hm hmj => h1 (m + 1) (by simpa using hm) (by omega)) (fun hm => h2 (by simpa using hm))
      rw [List.takeWhile_cons_of_pos h3, List.dropWhile_cons_of_pos h3, e1, e2]
      simp
theorem RdL.prefix_ {w : World} {B : Nat} {A : Option Addr} {l : List Ln} (h : RdL w B A l) (j : Nat) : RdL w B A (l.take j) := fun h0 => by
  obtain ⟨b, o, e, hb, hc⟩ := h (by rw [List.length_take] at h0; omega)
  refine ⟨b, o, e, hb, fun i x hx => hc i x ?_⟩
  rw [List.getElem?_take] at hx
  by_cases hi : i < j
  · rw [if_pos hi] at hx; exact hx
  · rw [if_neg hi] at hx; cases hx
theorem RdL.suffix_ {w : World} {B b o : Nat} {l : List Ln} (h : RdL w B (some ⟨b, o, none⟩) l) (j : Nat) : RdL w B (some ⟨b, o + j * 2, none⟩) (l.drop j) := fun h0 => by
  obtain ⟨b', o', e, hb, hc⟩ := h (by rw [List.length_drop] at h0; omega)
  simp only [Option.some.injEq, Addr.mk.injEq, and_true] at e
  obtain ⟨rfl, rfl⟩ := e
  refine ⟨b, o + j * 2, rfl, hb, fun i x hx q v hv => ?_⟩
  rw [List.getElem?_drop] at hx
  have := hc (j + i) x hx q v hv
  rw [show o + (j + i) * 2 + q = o + j * 2 + i * 2 + q by omega] at this
  exact this
theorem refGo_step {l : List Ln} {i : Nat} (hi : i < l.length) (out : List Ln) : refGo l (l.length - i) out = refGo l (l.length - (i + 1)) (if someB l i then insT out l[i] else out) := by
  obtain ⟨n, hn⟩ : ∃ n, l.length - i = n + 1 := ⟨l.length - i - 1, by omega⟩
  rw [hn, refGo, show l.length - (n + 1) = i by omega, show l.length - (i + 1) = n by omega]
  simp [List.getD, List.getElem?_eq_getElem hi]
set_option maxHeartbeats 8000000 in
theorem tidyOf_any (A : Option Addr) (c : Nat) (l : List Ln) (w : World) (B : Nat) (hB : B ≤ w.heap.size) (h : RdL w B A l) (hl : l.length ≤ 1000) (hok : ∀ x ∈ l, okLn x) :
    Calls Tryz.prog 79 #[.slice A l.length c] w (EndOwn Ln.cs 2 97 (tidyRef l) w) := by
  obtain ⟨i0, hi0, hz0, hz1, hz2⟩ := info_parts infoLn
  go_enter Tryz.func79, Tryz.ntmps79
  go_wp2_with fail
  go_loopw [3, 4] (fun ov iv wr => ∃ (i : Nat) (out : List Ln) (A3 : Option Addr) (c3 : Nat), i ≤ l.length ∧ iv = .int .i64 i ∧ ov = .slice A3 out.length c3 ∧ out.length ≤ i ∧ tidyRef l = refGo l (l.length - i) out ∧ (out = [] → A3 = none ∧ c3 = 0) ∧ wr.ownsRow w.heap.size 97 2 (.slice A3 out.length c3) out.length (out.flatMap Ln.cs) ∧ Below w.heap.size w wr) (fun _ iv _ => l.length - (intOf iv).toNat)
  case atStart => exact ⟨0, [], none, 0, Nat.zero_le _, rfl, rfl, Nat.zero_le _, rfl, fun _ => ⟨rfl, rfl⟩, ⟨by simp, .inl ⟨rfl, rfl⟩⟩, Below.refl _ _⟩
  case round =>
    obtain ⟨i, out, A3, c3, hi, rfl, rfl, hoi, href, hnil, row, hbw⟩ := hrel
    have HREF := Lib.hid href
    have ROW := Lib.hid row
    have HNIL := Lib.hid hnil
    have zw := hbw.size
    clear href row hnil
    by_cases hil : i < l.length
    · have hrs := HREF.out.trans (refGo_step hil out)
      have q1 : (0 : Int) ≤ (i : Int) := by omega
      have q2 : (i : Int) < (l.length : Int) := by omega
      go_wp2_with fail
      refine (somewhere_any A c l i wr B (Nat.le_trans hB zw) (h.below (hbw.mono hB)) hl hil hok).mono ?_
      rintro e w2 ⟨rfl, k2⟩
      have k2' := hbw.trans (k2.mono zw)
      have z2 := k2'.size
      have row2 : w2.ownsRow w.heap.size 97 2 (.slice A3 out.length c3) out.length (out.flatMap Ln.cs) := own_same ROW.out fun q hq => k2.block q (own_ltL ROW.out q hq)
      have ROW2 := Lib.hid row2
      clear row2
      cases hsb : someB l i with
      | false =>
        rw [hsb, if_neg (by simp)] at hrs
        have HRS := Lib.hid hrs
        clear hrs hsb
        go_wp2_with fail
        go_roundw
        case rel => exact ⟨i + 1, out, A3, c3, hil, by go_num, rfl, by omega, HRS.out, HNIL.out, ROW2.out, k2'⟩
        case measure => simp [intOf]; omega
      | true =>
        rw [hsb, if_pos rfl] at hrs
        have HRS := Lib.hid hrs
        obtain ⟨b, o, rfl, hb, d0, d1⟩ := RdL.get (h.below (k2'.mono hB)) hil
        obtain ⟨x, hx⟩ : ∃ x, x = l[i] := ⟨_, rfl⟩
        rw [← hx] at d0 d1 HRS
        have hcap := own_capL ROW2.out
        obtain ⟨n, hn⟩ : ∃ n, n = out.length := ⟨_, rfl⟩
        rw [← hn] at hcap hoi ⊢
        have HN := Lib.hid hn
        have HX := Lib.hid hx
        clear hrs hsb hx hn
        go_wp2_with fail
        go_loopw [6] (fun jv wr => ∃ (j q : Nat), j ≤ n ∧ jv = .int .i64 j ∧ (∀ (m : Nat) (hm : m < out.length), m < j → x.r < out[m].r) ∧ wr = w2.drewN q) (fun jv _ => n - (intOf jv).toNat)
        case atStart => exact ⟨0, 0, Nat.zero_le _, rfl, fun m _ hm => by omega, rfl⟩
        case round =>
          obtain ⟨j, q, hj, rfl, hpre, rfl⟩ := hrel
          have HPRE := Lib.hid hpre
          clear hpre
          by_cases hjn : j < n
          · have hjo : j < out.length := by rw [← HN.out]; exact hjn
            obtain ⟨b3, o3, rfl, hb3, t0, t1⟩ := RdL.get (RdL.of_own ROW2.out) hjo
            obtain ⟨y, hy⟩ : ∃ y, y = out[j] := ⟨_, rfl⟩
            rw [← hy] at t0 t1
            have j0 : (0 : Int) ≤ (j : Int) := by omega
            have j1 : (j : Int) < (n : Int) := by omega
            have HY := Lib.hid hy
            clear hy
            by_cases hr : x.r < y.r
            · have HP2 := Lib.hid (show ∀ (m : Nat) (hm : m < out.length), m < j + 1 → x.r < out[m].r from fun m hm hmj => by
                by_cases e : m = j
                · subst e; rw [← HY.out]; exact hr
                · exact HPRE.out m hm (by omega))
              go_wp2_with fail
              go_quiet (fail)
              rename Nat => nq
              go_wp2_with fail
              go_roundw
              case rel => exact ⟨j + 1, q + nq, by omega, by go_num, HP2.out, by first | rfl | exact World.drewN_drewN _ _ _⟩
              case measure => simp [intOf]; omega
            · skip
              have hr2 : ¬ x.r < y.r := hr
              have HI := Lib.hid (show insT out x = out.take j ++ x :: out.drop j by
                obtain ⟨e1, e2⟩ := tw_take (out := out) (p := fun y => decide (x.r < y.r)) (j := j) (by omega) (fun m hm hmj => decide_eq_true (HPRE.out m hm hmj)) (fun hm => decide_eq_false (by rw [← HY.out]; exact hr))
                unfold insT
                rw [e1, e2])
              have hdl : (out.drop j).length = n - j := by rw [List.length_drop, ← HN.out]
              go_wp2_with fail
              go_quiet (fail)
              rename Nat => nq
              obtain ⟨X, hX⟩ : ∃ X : World, X = (w2.drewN q).drewN nq := ⟨_, rfl⟩
              rw [← hX]
              have ROWX := Lib.hid (show X.ownsRow w.heap.size 97 2 (.slice (some ⟨b3, o3, none⟩) out.length c3) out.length (out.flatMap Ln.cs) by rw [hX]; exact own_same ROW2.out fun q hq => rfl)
              have kX : Below w.heap.size w X := by rw [hX]; exact below_drewN (below_drewN k2' q) nq
              have zX := kX.size
              have zB : B ≤ X.heap.size := Nat.le_trans hB zX
              have HO := Lib.hid (RdL.of_own ROWX.out)
              have j2 : (j : Int) ≤ (n : Int) := by omega
              have hjc : j ≤ c3 := by omega
              have j3 : (j : Int) ≤ (c3 : Int) := by omega
              have htl : (out.take j).length = j := by rw [List.length_take]; omega
              clear hX
              go_upto_region 12 with (at_builtin; refine wpList_append_rd _ Ln.cs rfl (.tmp 38) (.tmp 41) _ rfl X.heap.size 97 i0 _ 2 16 Tryz.underlying50 hi0 hz0 hz1 hz2 rfl (by omega) Ln.cs_len Ln.cs_one (.slice none 0 0) 0 [] rfl ⟨by simp, .inl ⟨rfl, rfl⟩⟩ X.heap.size (some ⟨b3, o3, none⟩) c3 (out.take j) (by rw [htl]; rfl) (HO.out.prefix_ j) (by simp only [maxLen]; omega) (by omega) (Nat.le_refl _) ?_; intro v3 w3 row3 g3 at3; simp only [Nat.zero_add, List.nil_append] at row3; obtain ⟨A4, c4, rfl⟩ := own_slice row3 (by omega); have k3 : Below X.heap.size X w3 := (Below.refl _ _).grown g3 (Nat.le_refl _) (by simp [Value.ownBlock]); have z3 := k3.size; have ROW3 := Lib.hid row3; clear row3; obtain ⟨b', o', e', hb', e0, e1⟩ := RdL.get (h.below ((kX.trans (k3.mono zX)).mono hB)) hil; simp only [Option.some.injEq, Addr.mk.injEq, and_true] at e'; obtain ⟨rfl, rfl⟩ := e'; rw [← HX.out] at e0 e1; clear at3 d0 d1)
              go_upto_region 13 with (at_builtin; refine wpList_append_rd _ Ln.cs rfl (.tmp 43) (.tmp 48) _ rfl X.heap.size 97 i0 _ 2 16 Tryz.underlying50 hi0 hz0 hz1 hz2 rfl (by omega) Ln.cs_len Ln.cs_one (.slice A4 (out.take j).length c4) (out.take j).length ((out.take j).flatMap Ln.cs) (by rw [htl]; rfl) (ROW3.out.alloc _) (w3.heap.size + 1) (some ⟨w3.heap.size, 0, none⟩) 1 [x] rfl (RdL.new_ x) (by simp only [maxLen, List.length_cons, List.length_nil] <;> omega) (by simp only [List.length_cons, List.length_nil] <;> omega) (by simp <;> omega) ?_; intro v5 w5 row5 g5 at5; obtain ⟨A6, c6, hv6, row6⟩ := own_app row5 (by omega); subst hv6; have ROW6 := Lib.hid row6; have k5 := below_app (k3.alloc z3 _) (ROW3.out.alloc _) g5 (Nat.le_refl _) (by simp <;> omega); have z5 := k5.size; clear row5 row6 at5 e0 e1)
              have hxl : (out.take j ++ [x]).length = j + 1 := by rw [List.length_append, htl]; rfl
              go_wp2_with (at_builtin; refine wpList_append_rd _ Ln.cs rfl (.tmp 50) (.tmp 53) _ rfl X.heap.size 97 i0 _ 2 16 Tryz.underlying50 hi0 hz0 hz1 hz2 rfl (by omega) Ln.cs_len Ln.cs_one (.slice A6 (out.take j ++ [x]).length c6) (out.take j ++ [x]).length ((out.take j ++ [x]).flatMap Ln.cs) (by rw [hxl]; rfl) ROW6.out X.heap.size (some ⟨b3, o3 + j * 2, none⟩) (c3 - j) (out.drop j) (by rw [hdl]; rfl) ((HO.out.suffix_ j).below k5) (by simp only [maxLen]; omega) (by omega) z5 ?_; intro v7 w7 row7 g7 at7; obtain ⟨A8, c8, hv8, row8⟩ := own_app row7 (by omega); subst hv8; have ROW8 := Lib.hid row8; have k7 := below_app k5 ROW6.out g7 (Nat.le_refl _) z5; clear row7 row8 at7)
              have hins : out.take j ++ [x] ++ out.drop j = insT out x := by rw [HI.out, List.append_assoc, List.singleton_append]
              have hil2 : (insT out x).length ≤ i + 1 := by rw [← hins, List.length_append, hxl, hdl]; omega
              have hine : insT out x = [] → A8 = none ∧ c8 = 0 := fun e => absurd (congrArg List.length e) (by rw [← hins, List.length_append, hxl]; simp)
              have row9 := ROW8.out
              rw [hins] at row9
              go_roundw
              case rel => exact ⟨i + 1, insT out x, A8, c8, hil, by go_num, congrArg (fun k => Value.slice A8 k c8) (by rw [← hins, List.length_append, hxl, hdl] <;> omega), hil2, HRS.out, hine, own_mono row9 zX, kX.trans (k7.mono zX)⟩
              case measure => simp [intOf]; omega
          · obtain rfl : j = n := by omega
            have HI := Lib.hid (show insT out x = out.take j ++ x :: out.drop j by
              obtain ⟨e1, e2⟩ := tw_take (out := out) (p := fun y => decide (x.r < y.r)) (j := j) (by rw [HN.out]; exact Nat.le_refl _) (fun m hm hmj => decide_eq_true (HPRE.out m hm hmj)) (fun hm => absurd hm (by rw [HN.out]; omega))
              unfold insT
              rw [e1, e2])
            have hdl : (out.drop j).length = 0 := by rw [List.length_drop, ← HN.out, Nat.sub_self]
            have hdn : out.drop j = [] := List.length_eq_zero_iff.1 hdl
            go_wp2_with fail
            go_quiet (fail)
            rename Nat => nq
            obtain ⟨X, hX⟩ : ∃ X : World, X = (w2.drewN q).drewN nq := ⟨_, rfl⟩
            rw [← hX]
            cases A3 with
            | none =>
              have ho0 : out = [] ∧ c3 = 0 := by
                cases out with
                | nil => exact ⟨rfl, (HNIL.out rfl).2⟩
                | cons a r => exact absurd (RdL.get (RdL.of_own ROW2.out) (i := 0) (by simp)) (by rintro ⟨b, o, e, -⟩; cases e)
              obtain ⟨ho1, rfl⟩ := ho0
              obtain rfl : j = 0 := by rw [HN.out, ho1]; rfl
              have ROWX := Lib.hid (show X.ownsRow w.heap.size 97 2 (.slice none out.length 0) out.length (out.flatMap Ln.cs) by rw [hX]; exact own_same ROW2.out fun q hq => rfl)
              have kX : Below w.heap.size w X := by rw [hX]; exact below_drewN (below_drewN k2' q) nq
              have zX := kX.size
              have zB : B ≤ X.heap.size := Nat.le_trans hB zX
              have HO := Lib.hid (RdL.of_own ROWX.out)
              have hoz : out.length = 0 := by rw [ho1]; rfl
              have htl : (out.take 0).length = 0 := by rw [List.length_take]; omega
              clear hX
              go_upto_region 12 with (at_builtin; refine wpList_append_rd _ Ln.cs rfl (.tmp 38) (.tmp 41) _ rfl X.heap.size 97 i0 _ 2 16 Tryz.underlying50 hi0 hz0 hz1 hz2 rfl (by omega) Ln.cs_len Ln.cs_one (.slice none 0 0) 0 [] rfl ⟨by simp, .inl ⟨rfl, rfl⟩⟩ X.heap.size none 0 (out.take 0) (by rw [htl]; rfl) (HO.out.prefix_ 0) (by simp only [maxLen]; omega) (by omega) (Nat.le_refl _) ?_; intro v3 w3 row3 g3 at3; simp only [Nat.zero_add, List.nil_append] at row3; obtain ⟨A4, c4, rfl⟩ := own_slice row3 (by omega); have k3 : Below X.heap.size X w3 := (Below.refl _ _).grown g3 (Nat.le_refl _) (by simp [Value.ownBlock]); have z3 := k3.size; have ROW3 := Lib.hid row3; clear row3; obtain ⟨b', o', e', hb', e0, e1⟩ := RdL.get (h.below ((kX.trans (k3.mono zX)).mono hB)) hil; simp only [Option.some.injEq, Addr.mk.injEq, and_true] at e'; obtain ⟨rfl, rfl⟩ := e'; rw [← HX.out] at e0 e1; clear at3 d0 d1)
              go_upto_region 13 with (at_builtin; refine wpList_append_rd _ Ln.cs rfl (.tmp 43) (.tmp 48) _ rfl X.heap.size 97 i0 _ 2 16 Tryz.underlying50 hi0 hz0 hz1 hz2 rfl (by omega) Ln.cs_len Ln.cs_one (.slice A4 (out.take 0).length c4) (out.take 0).length ((out.take 0).flatMap Ln.cs) (by rw [htl]; rfl) (ROW3.out.alloc _) (w3.heap.size + 1) (some ⟨w3.heap.size, 0, none⟩) 1 [x] rfl (RdL.new_ x) (by simp only [maxLen, List.length_cons, List.length_nil] <;> omega) (by simp only [List.length_cons, List.length_nil] <;> omega) (by simp <;> omega) ?_; intro v5 w5 row5 g5 at5; obtain ⟨A6, c6, hv6, row6⟩ := own_app row5 (by omega); subst hv6; have ROW6 := Lib.hid row6; have k5 := below_app (k3.alloc z3 _) (ROW3.out.alloc _) g5 (Nat.le_refl _) (by simp <;> omega); have z5 := k5.size; clear row5 row6 at5 e0 e1)
              have hxl : (out.take 0 ++ [x]).length = 0 + 1 := by rw [List.length_append, htl]; rfl
              go_wp2_with (at_builtin; refine wpList_append_rd _ Ln.cs rfl (.tmp 50) (.tmp 53) _ rfl X.heap.size 97 i0 _ 2 16 Tryz.underlying50 hi0 hz0 hz1 hz2 rfl (by omega) Ln.cs_len Ln.cs_one (.slice A6 (out.take 0 ++ [x]).length c6) (out.take 0 ++ [x]).length ((out.take 0 ++ [x]).flatMap Ln.cs) (by rw [hxl]; rfl) ROW6.out X.heap.size _ _ (out.drop 0) (by rw [hdl]; rfl) (by rw [hdn]; exact fun h0 => absurd h0 (by simp)) (by simp only [maxLen]; omega) (by omega) z5 ?_; intro v7 w7 row7 g7 at7; obtain ⟨A8, c8, hv8, row8⟩ := own_app row7 (by omega); subst hv8; have ROW8 := Lib.hid row8; have k7 := below_app k5 ROW6.out g7 (Nat.le_refl _) z5; clear row7 row8 at7)
              have hins : out.take 0 ++ [x] ++ out.drop 0 = insT out x := by rw [HI.out, List.append_assoc, List.singleton_append]
              have hil2 : (insT out x).length ≤ i + 1 := by rw [← hins, List.length_append, hxl, hdl]; omega
              have hine : insT out x = [] → A8 = none ∧ c8 = 0 := fun e => absurd (congrArg List.length e) (by rw [← hins, List.length_append, hxl]; simp)
              have row9 := ROW8.out
              rw [hins] at row9
              go_roundw
              case rel => exact ⟨i + 1, insT out x, A8, c8, hil, by go_num, congrArg (fun k => Value.slice A8 k c8) (by rw [← hins, List.length_append, hxl, hdl] <;> omega), hil2, HRS.out, hine, own_mono row9 zX, kX.trans (k7.mono zX)⟩
              case measure => simp [intOf]; omega
            | some p3 =>
              have ho1 : out ≠ [] := fun e => by cases (HNIL.out e).1
              have ho2 : 0 < out.length := List.length_pos_iff.2 ho1
              obtain ⟨b3, o3, e3, hb3, -, -⟩ := RdL.get (RdL.of_own ROW2.out) ho2
              cases e3
              rcases Nat.lt_or_ge j c3 with hcl | hcl
              · skip
                have ROWX := Lib.hid (show X.ownsRow w.heap.size 97 2 (.slice (some ⟨b3, o3, none⟩) out.length c3) out.length (out.flatMap Ln.cs) by rw [hX]; exact own_same ROW2.out fun q hq => rfl)
                have kX : Below w.heap.size w X := by rw [hX]; exact below_drewN (below_drewN k2' q) nq
                have zX := kX.size
                have zB : B ≤ X.heap.size := Nat.le_trans hB zX
                have HO := Lib.hid (RdL.of_own ROWX.out)
                have hjc : j ≤ c3 := by omega
                have j3 : (j : Int) ≤ (c3 : Int) := by omega
                have j4 : (j : Int) < (c3 : Int) := by omega
                have htl : (out.take j).length = j := by rw [List.length_take]; have := HN.out; omega
                clear hX
                go_upto_region 12 with (at_builtin; refine wpList_append_rd _ Ln.cs rfl (.tmp 38) (.tmp 41) _ rfl X.heap.size 97 i0 _ 2 16 Tryz.underlying50 hi0 hz0 hz1 hz2 rfl (by omega) Ln.cs_len Ln.cs_one (.slice none 0 0) 0 [] rfl ⟨by simp, .inl ⟨rfl, rfl⟩⟩ X.heap.size (some ⟨b3, o3, none⟩) c3 (out.take j) (by rw [htl]; rfl) (HO.out.prefix_ j) (by simp only [maxLen]; omega) (by omega) (Nat.le_refl _) ?_; intro v3 w3 row3 g3 at3; simp only [Nat.zero_add, List.nil_append] at row3; obtain ⟨A4, c4, rfl⟩ := own_slice row3 (by omega); have k3 : Below X.heap.size X w3 := (Below.refl _ _).grown g3 (Nat.le_refl _) (by simp [Value.ownBlock]); have z3 := k3.size; have ROW3 := Lib.hid row3; clear row3; obtain ⟨b', o', e', hb', e0, e1⟩ := RdL.get (h.below ((kX.trans (k3.mono zX)).mono hB)) hil; simp only [Option.some.injEq, Addr.mk.injEq, and_true] at e'; obtain ⟨rfl, rfl⟩ := e'; rw [← HX.out] at e0 e1; clear at3 d0 d1)
                go_upto_region 13 with (at_builtin; refine wpList_append_rd _ Ln.cs rfl (.tmp 43) (.tmp 48) _ rfl X.heap.size 97 i0 _ 2 16 Tryz.underlying50 hi0 hz0 hz1 hz2 rfl (by omega) Ln.cs_len Ln.cs_one (.slice A4 (out.take j).length c4) (out.take j).length ((out.take j).flatMap Ln.cs) (by rw [htl]; rfl) (ROW3.out.alloc _) (w3.heap.size + 1) (some ⟨w3.heap.size, 0, none⟩) 1 [x] rfl (RdL.new_ x) (by simp only [maxLen, List.length_cons, List.length_nil] <;> omega) (by simp only [List.length_cons, List.length_nil] <;> omega) (by simp <;> omega) ?_; intro v5 w5 row5 g5 at5; obtain ⟨A6, c6, hv6, row6⟩ := own_app row5 (by omega); subst hv6; have ROW6 := Lib.hid row6; have k5 := below_app (k3.alloc z3 _) (ROW3.out.alloc _) g5 (Nat.le_refl _) (by simp <;> omega); have z5 := k5.size; clear row5 row6 at5 e0 e1)
                have hxl : (out.take j ++ [x]).length = j + 1 := by rw [List.length_append, htl]; rfl
                go_wp2_with (at_builtin; refine wpList_append_rd _ Ln.cs rfl (.tmp 50) (.tmp 53) _ rfl X.heap.size 97 i0 _ 2 16 Tryz.underlying50 hi0 hz0 hz1 hz2 rfl (by omega) Ln.cs_len Ln.cs_one (.slice A6 (out.take j ++ [x]).length c6) (out.take j ++ [x]).length ((out.take j ++ [x]).flatMap Ln.cs) (by rw [hxl]; rfl) ROW6.out X.heap.size (some ⟨b3, o3 + j * 2, none⟩) (c3 - j) (out.drop j) (by rw [hdl]; rfl) (by rw [hdn]; exact fun h0 => absurd h0 (by simp)) (by simp only [maxLen]; omega) (by omega) z5 ?_; intro v7 w7 row7 g7 at7; obtain ⟨A8, c8, hv8, row8⟩ := own_app row7 (by omega); subst hv8; have ROW8 := Lib.hid row8; have k7 := below_app k5 ROW6.out g7 (Nat.le_refl _) z5; clear row7 row8 at7)
                have hins : out.take j ++ [x] ++ out.drop j = insT out x := by rw [HI.out, List.append_assoc, List.singleton_append]
                have hil2 : (insT out x).length ≤ i + 1 := by rw [← hins, List.length_append, hxl, hdl]; omega
                have hine : insT out x = [] → A8 = none ∧ c8 = 0 := fun e => absurd (congrArg List.length e) (by rw [← hins, List.length_append, hxl]; simp)
                have row9 := ROW8.out
                rw [hins] at row9
                go_roundw
                case rel => exact ⟨i + 1, insT out x, A8, c8, hil, by go_num, congrArg (fun k => Value.slice A8 k c8) (by rw [← hins, List.length_append, hxl, hdl] <;> omega), hil2, HRS.out, hine, own_mono row9 zX, kX.trans (k7.mono zX)⟩
                case measure => simp [intOf]; omega
              · obtain rfl : c3 = j := by omega
                have ROWX := Lib.hid (show X.ownsRow w.heap.size 97 2 (.slice (some ⟨b3, o3, none⟩) out.length c3) out.length (out.flatMap Ln.cs) by rw [hX]; exact own_same ROW2.out fun q hq => rfl)
                have kX : Below w.heap.size w X := by rw [hX]; exact below_drewN (below_drewN k2' q) nq
                have zX := kX.size
                have zB : B ≤ X.heap.size := Nat.le_trans hB zX
                have HO := Lib.hid (RdL.of_own ROWX.out)
                have j3 : (c3 : Int) ≤ (c3 : Int) := by omega
                have htl : (out.take c3).length = c3 := by rw [List.length_take]; have := HN.out; omega
                clear hX
                go_upto_region 12 with (at_builtin; refine wpList_append_rd _ Ln.cs rfl (.tmp 38) (.tmp 41) _ rfl X.heap.size 97 i0 _ 2 16 Tryz.underlying50 hi0 hz0 hz1 hz2 rfl (by omega) Ln.cs_len Ln.cs_one (.slice none 0 0) 0 [] rfl ⟨by simp, .inl ⟨rfl, rfl⟩⟩ X.heap.size (some ⟨b3, o3, none⟩) c3 (out.take c3) (by rw [htl]; rfl) (HO.out.prefix_ c3) (by simp only [maxLen]; omega) (by omega) (Nat.le_refl _) ?_; intro v3 w3 row3 g3 at3; simp only [Nat.zero_add, List.nil_append] at row3; obtain ⟨A4, c4, rfl⟩ := own_slice row3 (by omega); have k3 : Below X.heap.size X w3 := (Below.refl _ _).grown g3 (Nat.le_refl _) (by simp [Value.ownBlock]); have z3 := k3.size; have ROW3 := Lib.hid row3; clear row3; obtain ⟨b', o', e', hb', e0, e1⟩ := RdL.get (h.below ((kX.trans (k3.mono zX)).mono hB)) hil; simp only [Option.some.injEq, Addr.mk.injEq, and_true] at e'; obtain ⟨rfl, rfl⟩ := e'; rw [← HX.out] at e0 e1; clear at3 d0 d1)
                go_upto_region 13 with (at_builtin; refine wpList_append_rd _ Ln.cs rfl (.tmp 43) (.tmp 48) _ rfl X.heap.size 97 i0 _ 2 16 Tryz.underlying50 hi0 hz0 hz1 hz2 rfl (by omega) Ln.cs_len Ln.cs_one (.slice A4 (out.take c3).length c4) (out.take c3).length ((out.take c3).flatMap Ln.cs) (by rw [htl]; rfl) (ROW3.out.alloc _) (w3.heap.size + 1) (some ⟨w3.heap.size, 0, none⟩) 1 [x] rfl (RdL.new_ x) (by simp only [maxLen, List.length_cons, List.length_nil] <;> omega) (by simp only [List.length_cons, List.length_nil] <;> omega) (by simp <;> omega) ?_; intro v5 w5 row5 g5 at5; obtain ⟨A6, c6, hv6, row6⟩ := own_app row5 (by omega); subst hv6; have ROW6 := Lib.hid row6; have k5 := below_app (k3.alloc z3 _) (ROW3.out.alloc _) g5 (Nat.le_refl _) (by simp <;> omega); have z5 := k5.size; clear row5 row6 at5 e0 e1)
                have hxl : (out.take c3 ++ [x]).length = c3 + 1 := by rw [List.length_append, htl]; rfl
                go_wp2_with (at_builtin; refine wpList_append_rd _ Ln.cs rfl (.tmp 50) (.tmp 53) _ rfl X.heap.size 97 i0 _ 2 16 Tryz.underlying50 hi0 hz0 hz1 hz2 rfl (by omega) Ln.cs_len Ln.cs_one (.slice A6 (out.take c3 ++ [x]).length c6) (out.take c3 ++ [x]).length ((out.take c3 ++ [x]).flatMap Ln.cs) (by rw [hxl]; rfl) ROW6.out X.heap.size (some ⟨b3, o3, none⟩) 0 (out.drop c3) (by rw [hdl]; rfl) (by rw [hdn]; exact fun h0 => absurd h0 (by simp)) (by simp only [maxLen]; omega) (by omega) z5 ?_; intro v7 w7 row7 g7 at7; obtain ⟨A8, c8, hv8, row8⟩ := own_app row7 (by omega); subst hv8; have ROW8 := Lib.hid row8; have k7 := below_app k5 ROW6.out g7 (Nat.le_refl _) z5; clear row7 row8 at7)
                have hins : out.take c3 ++ [x] ++ out.drop c3 = insT out x := by rw [HI.out, List.append_assoc, List.singleton_append]
                have hil2 : (insT out x).length ≤ i + 1 := by rw [← hins, List.length_append, hxl, hdl]; omega
                have hine : insT out x = [] → A8 = none ∧ c8 = 0 := fun e => absurd (congrArg List.length e) (by rw [← hins, List.length_append, hxl]; simp)
                have row9 := ROW8.out
                rw [hins] at row9
                go_roundw
                case rel => exact ⟨i + 1, insT out x, A8, c8, hil, by go_num, congrArg (fun k => Value.slice A8 k c8) (by rw [← hins, List.length_append, hxl, hdl] <;> omega), hil2, HRS.out, hine, own_mono row9 zX, kX.trans (k7.mono zX)⟩
                case measure => simp [intOf]; omega
    · have hfin : tidyRef l = out := by rw [HREF.out, show l.length - i = 0 by omega]; rfl
      have HF := Lib.hid hfin
      clear hfin
      go_wp2_with fail
      go_ret
      rw [HF.out]
      exact ⟨A3, c3, rfl, ROW.out, hbw⟩
end Go.Proofs.YthgpbdlmadjndaaGreatDoor
namespace Go.Proofs.YthgpbdlmadjndaaGreatDoor
open Go.RowKit
set_option maxRecDepth 100000
set_option maxHeartbeats 8000000 in
theorem sumOf_any (A A' : Option Addr) (c c' : Nat) (a b : List Ln) (w : World) (B : Nat) (hB : B ≤ w.heap.size) (h : RdL w B A a) (h' : RdL w B A' b) (ha : a.length ≤ 6) (hb : b.length ≤ 6) (hoa : ∀ x ∈ a, okLn x) (hob : ∀ x ∈ b, okLn x) :
    Calls Tryz.prog 46 #[.slice A a.length c, .slice A' b.length c'] w (fun en w' => ∃ A2 c2, en = .returned (.tuple #[.slice A2 (sumL a b).length c2, .int .i64 (sumErr a b)]) ∧ w'.ownsRow w.heap.size 97 2 (.slice A2 (sumL a b).length c2) (sumL a b).length ((sumL a b).flatMap Ln.cs) ∧ Below w.heap.size w w') := by
  obtain ⟨i0, hi0, hz0, hz1, hz2⟩ := info_parts infoLn
  have HA := Lib.hid hoa
  have HBB := Lib.hid hob
  have hal : a.length ≤ 9223372036854775807 := by omega
  have hbl : b.length ≤ 9223372036854775807 := by omega
  have HL := Lib.hid h
  have HL' := Lib.hid h'
  clear hoa hob h h'
  go_enter Tryz.func46, Tryz.ntmps46
  go_wp2_with fail
  go_loopw [6, 7] (fun ov iv wr => ∃ (i : Nat) (acc : List Ln) (A3 : Option Addr) (c3 : Nat), i ≤ a.length ∧ iv = .int .i64 i ∧ ov = .slice A3 acc.length c3 ∧ SU a b i 0 acc ∧ wr.ownsRow w.heap.size 97 2 (.slice A3 acc.length c3) acc.length (acc.flatMap Ln.cs) ∧ Below w.heap.size w wr) (fun _ iv _ => a.length - (intOf iv).toNat)
  case atStart => exact ⟨0, [], none, 0, Nat.zero_le _, rfl, rfl, ⟨by split <;> simp [sumAll], by simp, by simp⟩, ⟨by simp, .inl ⟨rfl, rfl⟩⟩, Below.refl _ _⟩
  case round =>
    obtain ⟨i, acc, A3, c3, hi, rfl, rfl, hsu, row, hbw⟩ := hrel
    have SUH := Lib.hid hsu
    have ROW := Lib.hid row
    have zw := hbw.size
    clear hsu row
    by_cases hil : i < a.length
    · have i0' : (0 : Int) ≤ (i : Int) := by omega
      have i1' : (i : Int) < (a.length : Int) := by omega
      have HX := Lib.hid (HA.out _ (List.getElem_mem hil))
      obtain ⟨x, hx⟩ : ∃ x, x = a[i] := ⟨_, rfl⟩
      rw [← hx] at HX
      have HXE := Lib.hid hx
      clear hx
      go_wp2_with fail
      go_loopw [6, 8] (fun ov jv wr => ∃ (j : Nat) (acc : List Ln) (A3 : Option Addr) (c3 : Nat), j ≤ b.length ∧ jv = .int .i64 j ∧ ov = .slice A3 acc.length c3 ∧ SU a b i j acc ∧ wr.ownsRow w.heap.size 97 2 (.slice A3 acc.length c3) acc.length (acc.flatMap Ln.cs) ∧ Below w.heap.size w wr) (fun _ jv _ => b.length - (intOf jv).toNat)
      case atStart => exact ⟨0, acc, A3, c3, Nat.zero_le _, rfl, rfl, SUH.out, ROW.out, hbw⟩
      case round =>
        obtain ⟨j, acc, A3, c3, hj, rfl, rfl, hsu, row, hbw⟩ := hrel
        have SUH := Lib.hid hsu
        have ROW := Lib.hid row
        have zw := hbw.size
        have hal36 := hsu.len
        clear hsu row
        by_cases hjl : j < b.length
        · have j0' : (0 : Int) ≤ (j : Int) := by omega
          have j1' : (j : Int) < (b.length : Int) := by omega
          obtain ⟨r1, r2, r3, r4⟩ := HX.out
          obtain ⟨y, hy⟩ : ∃ y, y = b[j] := ⟨_, rfl⟩
          obtain ⟨s1, s2, s3, s4⟩ := HBB.out _ (List.getElem_mem hjl)
          rw [← hy] at s1 s2 s3 s4
          obtain ⟨bq, o, rfl, hbq, d0, d1⟩ := RdL.get (HL.out.below (hbw.mono hB)) hil
          obtain ⟨bq2, o2, rfl, hbq2, e0, e1⟩ := RdL.get (HL'.out.below (hbw.mono hB)) hjl
          rw [← HXE.out] at d0 d1
          rw [← hy] at e0 e1
          have HYE := Lib.hid hy
          clear hy
          go_upto_region 8 with fail
          have q1 : bq < wr.heap.size := by omega
          have q2 : bq2 < wr.heap.size := by omega
          have f0 : (wr.alloc (.cells #[.int .i64 0, .int .i64 0] 97)).drew.cell? ⟨bq, o + i * 2, none⟩ = some (.int .i64 x.b) := (World.cell?_alloc_lt wr _ ⟨bq, o + i * 2, none⟩ q1).trans d0
          have f1 : (wr.alloc (.cells #[.int .i64 0, .int .i64 0] 97)).drew.cell? ⟨bq, o + i * 2 + 1, none⟩ = some (.int .i64 x.r) := (World.cell?_alloc_lt wr _ ⟨bq, o + i * 2 + 1, none⟩ q1).trans d1
          have f2 : (wr.alloc (.cells #[.int .i64 0, .int .i64 0] 97)).drew.cell? ⟨bq2, o2 + j * 2, none⟩ = some (.int .i64 y.b) := (World.cell?_alloc_lt wr _ ⟨bq2, o2 + j * 2, none⟩ q2).trans e0
          have f3 : (wr.alloc (.cells #[.int .i64 0, .int .i64 0] 97)).drew.cell? ⟨bq2, o2 + j * 2 + 1, none⟩ = some (.int .i64 y.r) := (World.cell?_alloc_lt wr _ ⟨bq2, o2 + j * 2 + 1, none⟩ q2).trans e1
          go_region
          clear f0 f1 f2 f3 d0 d1 e0 e1
          obtain ⟨z, hz⟩ : ∃ z, z = addLn x y := ⟨_, rfl⟩
          rw [show x.b + y.b = z.b by rw [hz]; rfl, show x.r + y.r = z.r by rw [hz]; rfl]
          have HZ := Lib.hid hz
          obtain ⟨V3, hV⟩ : ∃ V3 : World, V3 = (wr.alloc (.cells #[.int .i64 z.b, .int .i64 z.r] 97)).drew := ⟨_, rfl⟩
          have bz : Blk V3 wr.heap.size 97 #[.int .i64 z.b, .int .i64 z.r] := by rw [hV]; exact (Blk.new _ _ _).drewN 1
          have row3 : V3.ownsRow w.heap.size 97 2 (.slice A3 acc.length c3) acc.length (acc.flatMap Ln.cs) := by rw [hV]; exact ROW.out.alloc _
          have kV3 : Below w.heap.size w V3 := by rw [hV]; exact (hbw.alloc zw _).drew
          obtain ⟨gz, hgz⟩ : ∃ gz, gz = wr.heap.size := ⟨_, rfl⟩
          rw [← hV, ← hgz]
          rw [← hgz] at bz
          have w0 : V3.cell? ⟨gz, 0, none⟩ = some (.int .i64 z.b) := bz.cell 0
          have w1' : V3.cell? ⟨gz, 1, none⟩ = some (.int .i64 z.r) := bz.cell 1
          have ROW3 := Lib.hid row3
          have BZ := Lib.hid bz
          have zV3 := kV3.size
          clear hV hgz bz row3 hz
          go_wp2_with fail
          refine (lineErr_any z V3).mono ?_
          rintro e w4 ⟨rfl, k4⟩
          have k4' := kV3.trans (k4.mono zV3)
          have z4 := k4'.size
          have v0 : w4.cell? ⟨gz, 0, none⟩ = some (.int .i64 z.b) := (BZ.out.below k4 BZ.out.lt).cell 0
          have v1 : w4.cell? ⟨gz, 1, none⟩ = some (.int .i64 z.r) := (BZ.out.below k4 BZ.out.lt).cell 1
          have ROW4 := Lib.hid (show w4.ownsRow w.heap.size 97 2 (.slice A3 acc.length c3) acc.length (acc.flatMap Ln.cs) from own_same ROW3.out fun q hq => k4.block q (own_ltL ROW3.out q hq))
          clear w0 w1'
          cases hlb : lineB z.b z.r with
          | false =>
            have HLE := Lib.hid (show lineErr z = 2 by unfold lineErr; rw [hlb]; rfl)
            have HER := Lib.hid (show sumErr a b = 2 by rw [sum_bad (List.getElem_mem hil) (List.getElem_mem hjl) (by rw [← HXE.out, ← HYE.out, ← HZ.out]; exact hlb)])
            have HVV := Lib.hid (show sumL a b = [] by unfold sumL; rw [HER.out]; rfl)
            clear hlb
            rw [HLE.out]
            go_wp2_with fail
            go_ret2
            rw [HER.out, HVV.out]
            exact ⟨none, 0, rfl, ⟨by simp, .inl ⟨rfl, rfl⟩⟩, k4'⟩
          | true =>
            have HLE := Lib.hid (show lineErr z = 0 by unfold lineErr; rw [hlb]; rfl)
            have HP := Lib.hid (SUH.out.push hil hjl ha hb (by rw [← HXE.out, ← HYE.out, ← HZ.out]; exact hlb))
            clear hlb
            rw [HLE.out]
            go_wp2_with (at_builtin; refine wpList_append_rd _ Ln.cs rfl (.tmp 49) (.tmp 51) _ rfl w.heap.size 97 i0 _ 2 16 Tryz.underlying50 hi0 hz0 hz1 hz2 rfl (by omega) Ln.cs_len Ln.cs_one (.slice A3 acc.length c3) acc.length (acc.flatMap Ln.cs) rfl (ROW4.out.alloc _) (w4.heap.size + 1) (some ⟨w4.heap.size, 0, none⟩) 1 [z] rfl (RdL.new_ z) (by simp only [maxLen, List.length_cons, List.length_nil] <;> omega) (by simp only [List.length_cons, List.length_nil] <;> omega) (by simp <;> omega) ?_; intro v3 w5 row5 g5 at5; obtain ⟨A9, c9, hv9, row6⟩ := own_app row5 (by omega); subst hv9; have k5 := below_app (k4'.alloc z4 _) (ROW4.out.alloc _) g5 (Nat.le_refl _) (by simp <;> omega))
            have hp := HP.out
            rw [← HXE.out, ← HYE.out, ← HZ.out] at hp
            have hle : (acc ++ [z]).length = acc.length + 1 := by simp
            go_roundw
            case rel => exact ⟨j + 1, acc ++ [z], A9, c9, hjl, by go_num, by rw [hle], hp, row6, k5⟩
            case measure => simp [intOf]; omega
        · have HN := Lib.hid (SUH.out.next hil hjl)
          go_wp2_with fail
          go_roundw
          case rel => exact ⟨i + 1, acc, A3, c3, hil, by go_num, rfl, HN.out, ROW.out, hbw⟩
          case measure => simp [intOf]; omega
    · have hacc : acc = sumAll a b := by rw [SUH.out.start, List.take_of_length_le (by omega)]
      have HACC := Lib.hid hacc
      have hal36 := SUH.out.len
      have hok : ∀ z ∈ acc, okLn z := fun z hz => by have h9 := SUH.out.ok z hz; unfold lineB at h9; have h9 := of_decide_eq_true h9; exact h9
      have hall : (sumAll a b).all (fun z => lineB z.b z.r) = true := List.all_eq_true.2 fun z hz => SUH.out.ok z (by rw [hacc]; exact hz)
      have HOK := Lib.hid hok
      have HALL := Lib.hid hall
      clear hacc hok hall
      go_wp2_with fail
      refine (tidyOf_any A3 c3 acc wr wr.heap.size (Nat.le_refl _) (RdL.of_own ROW.out) (by omega) HOK.out).mono ?_
      rintro e w5 ⟨A5, c5, rfl, o5, k5⟩
      have k5' := hbw.trans (k5.mono zw)
      obtain ⟨t, ht⟩ : ∃ t, t = tidyRef acc := ⟨_, rfl⟩
      have htl : t.length ≤ acc.length := by rw [ht]; exact tidy_len fun y hy => (HOK.out y hy).2.2.1
      rw [← ht] at o5 ⊢
      have HTT := Lib.hid (ht.trans (by rw [HACC.out]))
      have O5 := Lib.hid o5
      clear ht o5
      by_cases h6 : 6 < t.length
      · have HER := Lib.hid (show sumErr a b = 3 by unfold sumErr; rw [if_pos HALL.out, if_pos (by rw [← HTT.out]; exact h6)])
        have HVV := Lib.hid (show sumL a b = [] by unfold sumL; rw [HER.out]; rfl)
        go_wp2_with fail
        go_ret2
        rw [HER.out, HVV.out]
        exact ⟨none, 0, rfl, ⟨by simp, .inl ⟨rfl, rfl⟩⟩, k5'⟩
      · have HER := Lib.hid (show sumErr a b = 0 by unfold sumErr; rw [if_pos HALL.out, if_neg (by rw [← HTT.out]; exact h6)])
        have HVV := Lib.hid (show sumL a b = t by unfold sumL; rw [HER.out, ← HTT.out]; rfl)
        go_wp2_with fail
        go_ret2
        rw [HER.out, HVV.out]
        exact ⟨A5, c5, rfl, own_mono O5.out zw, k5'⟩
end Go.Proofs.YthgpbdlmadjndaaGreatDoor
namespace Go.Proofs.YthgpbdlmadjndaaGreatDoor
open Go.RowKit
set_option maxRecDepth 100000
theorem sumE_of {a b : List Ln} (ha : (crvErr a).1 = 0) (hb : (crvErr b).1 = 0) : sumE a b = (sumErr a b, -1) ∧ sumV a b = sumL a b := by
  have e : sumE a b = (sumErr a b, -1) := by
    unfold sumE
    rw [if_neg (by omega), if_neg (by omega)]
  refine ⟨e, ?_⟩
  unfold sumV sumL
  rw [e]
/-- What the document's curve of a gate is. -/
def cvO (o : Option (List Ln)) : Option (List Ln) := match o with
  | none => none
  | some all => if all.length = 0 then none else some all
def cvL (o : Option (List Ln)) : List Ln := match o with
  | none => []
  | some all => all
def cvB (o : Option (List Ln)) : Bool := match o with
  | none => false
  | some all => true
def EndCv (o : Option (List Ln)) (w : World) (e : Ending) (w' : World) : Prop :=
  ∃ A c, e = .returned (.tuple #[.slice A (cvL o).length c, .bool (cvB o)]) ∧ RdL w' w'.heap.size A (cvL o) ∧ Below w.heap.size w w'
section
variable (Ac An : Option Addr) (cc cn : Nat) (cs : List (List Ln)) (K : ByteArray) (per : Int) (ns : List Int) (w : World) (B : Nat) (hB : B ≤ w.heap.size) (h : RdLL w B Ac cs) (hl : ∀ l ∈ cs, l.length ≤ 9223372036854775807)
include hB h hl
set_option maxHeartbeats 8000000 in
theorem curveOf_any (h8 : cs.length = 8) (hcs : CsOk cs) : Calls Tryz.prog 19 #[.agg #[.slice Ac cs.length cc, .string K, .int .i64 per, .slice An ns.length cn]] w (EndCv (cvO (bndAll cs)) w) := by
  have H8 := Lib.hid h8
  have hBw : B ≤ w.heap.size := hB
  obtain ⟨W, hW⟩ : ∃ W : World, W = w.alloc (.cells #[.slice Ac 8 cc, .string K, .int .i64 per, .slice An ns.length cn] 25) := ⟨_, rfl⟩
  have bW : Below w.heap.size w W := by rw [hW]; exact (Below.refl _ _).alloc (Nat.le_refl _) _
  obtain ⟨gb, hgb⟩ : ∃ gb, gb = w.heap.size := ⟨_, rfl⟩
  have xW : Blk W gb 25 #[.slice Ac 8 cc, .string K, .int .i64 per, .slice An ns.length cn] := by rw [hW, hgb]; exact Blk.new _ _ _
  have HW := Lib.hid hW
  have BW := Lib.hid bW
  have XW := Lib.hid xW
  have HGB := Lib.hid hgb
  have zW : w.heap.size ≤ W.heap.size := bW.size
  have e0 := xW.cell 0
  simp only [List.getElem?_toArray, List.getElem?_cons_zero, List.getElem?_cons_succ] at e0
  have h08 : 0 < cs.length := by omega
  obtain ⟨b, o, a0, c0, rfl, hb, d0, hrd0⟩ := (h.below (bW.mono hB)) 0 h08
  have hl0 := hl _ (List.getElem_mem h08)
  have hm0 := hcs _ (List.getElem_mem h08)
  have hg0 : cs.getD 0 [] = cs[0] := by simp [List.getD, h08]
  obtain ⟨l0, hl0e⟩ : ∃ l0, l0 = cs[0] := ⟨_, rfl⟩
  rw [← hl0e] at d0 hrd0 hl0 hg0 hm0
  have HG0 := Lib.hid hg0
  have HR0 := Lib.hid hrd0
  simp only [Nat.add_zero] at d0
  rw [h8]
  have HCS := Lib.hid hcs
  clear h8 hW bW xW hgb hg0 hl0e hrd0 hcs
  by_cases hne : l0.length = 0
  · have HC := Lib.hid (show cvO (bndAll cs) = none by
      unfold bndAll
      rw [HG0.out, List.drop_eq_getElem_cons (show 1 < cs.length by rw [H8.out]; omega)]
      unfold allGo
      rw [if_pos (.inr hne)]
      show (if l0.length = 0 then none else some l0) = _
      rw [if_pos hne])
    rw [hne] at d0
    clear hne hm0 hl0
    go_enter Tryz.func19, Tryz.ntmps19
    go_upto_region 1 with fail
    rw [← HGB.out]
    rw [HGB.out, ← HW.out, ← HGB.out]
    go_wp2_with fail
    go_ret2
    rw [HC.out]
    exact ⟨none, 0, rfl, Rd.nil_, BW.out⟩
  · have hok0 := hm0.resolve_left (fun e => hne (by rw [e]; rfl))
    have u0 : ((l0.length : Int) == 0) = false := by rw [beq_eq_false_iff_ne]; omega
    have HOK0 := Lib.hid hok0
    clear hne hm0 hok0
    go_enter Tryz.func19, Tryz.ntmps19
    go_upto_region 1 with fail
    rw [← HGB.out]
    rw [HGB.out, ← HW.out, ← HGB.out]
    go_wp2_with fail
    go_loopw [4, 5] (fun av iv wr => ∃ (k : Nat) (al : List Ln) (A1 : Option Addr) (c1 : Nat), k ≤ 7 ∧ iv = .int .i64 ((k + 1 : Nat) : Int) ∧ av = .slice A1 al.length c1 ∧ bndAll cs = allGo al (cs.drop (k + 1)) ∧ RdL wr wr.heap.size A1 al ∧ (crvErr al).1 = 0 ∧ Below w.heap.size w wr ∧ Blk wr gb 25 #[.slice (some ⟨b, o, none⟩) 8 cc, .string K, .int .i64 per, .slice An ns.length cn]) (fun _ iv _ => 8 - (intOf iv).toNat)
    case atStart => exact ⟨0, l0, a0, c0, Nat.zero_le _, rfl, rfl, by unfold bndAll; rw [HG0.out], HR0.out.more (Nat.le_trans hBw zW), HOK0.out, BW.out, XW.out⟩
    case round =>
      obtain ⟨k, al, A1, c1, hk, rfl, rfl, hall, hrd, hok, hbw, hx⟩ := hrel
      have HALL0 := Lib.hid hall
      have HRD := Lib.hid hrd
      have HX := Lib.hid hx
      have zw := hbw.size
      have f0 := hx.cell 0
      simp only [List.getElem?_toArray, List.getElem?_cons_zero, List.getElem?_cons_succ] at f0
      obtain ⟨a1, a2, a3, -⟩ := crvErr_ok hok
      have HOK := Lib.hid hok
      have HA3 := Lib.hid a3
      clear hall hrd hx hok a3
      by_cases hlt : k < 7
      · have hkl : k + 1 < cs.length := by rw [H8.out]; omega
        obtain ⟨b9, o9, a, c, hA9, hb9, d1, hrd⟩ := (h.below (hbw.mono hB)) (k + 1) hkl
        simp only [Option.some.injEq, Addr.mk.injEq, and_true] at hA9
        obtain ⟨rfl, rfl⟩ := hA9
        have hst := allGo_step hkl al
        have hll := hl _ (List.getElem_mem hkl)
        have hm := HCS.out _ (List.getElem_mem hkl)
        obtain ⟨l, hle⟩ : ∃ l, l = cs[k + 1] := ⟨_, rfl⟩
        rw [← hle] at d1 hrd hst hll hm
        obtain ⟨m, hmk⟩ : ∃ m, m = k + 1 := ⟨_, rfl⟩
        rw [← hmk] at d1 ⊢
        have HMK := Lib.hid hmk
        have HST := Lib.hid hst
        have HRL := Lib.hid hrd
        have u1 : (0 : Int) ≤ (m : Int) := by omega
        have u2 : (m : Int) < 8 := by omega
        clear hst hle hrd hb9 hmk
        by_cases hl0' : l.length = 0
        · have HALL := Lib.hid (show cvO (bndAll cs) = some al by
            rw [HALL0.out, HST.out, if_pos (.inl hl0')]
            show (if al.length = 0 then none else some al) = _
            rw [if_neg (by omega)])
          rw [hl0'] at d1
          clear hl0'
          go_wp2_with fail
          go_ret2
          rw [HALL.out]
          exact ⟨A1, c1, rfl, HRD.out, hbw⟩
        · have hlne : (0 : Int) < (l.length : Int) := by omega
          have hokl := hm.resolve_left (fun e => hl0' (by rw [e]; rfl))
          obtain ⟨b1, b2, b3, -⟩ := crvErr_ok hokl
          obtain ⟨se1, se2⟩ := sumE_of HOK.out hokl
          have HS2 := Lib.hid (sumOf_any A1 a c1 c al l wr wr.heap.size (Nat.le_refl _) HRD.out (HRL.out.more (Nat.le_trans hB zw)) a2 b2 HA3.out b3)
          by_cases he : sumErr al l = 0
          · have HALL2 := Lib.hid (show bndAll cs = allGo (sumV al l) (cs.drop (k + 1 + 1)) by rw [HALL0.out, HST.out, if_neg (by omega), if_neg (by rw [se1]; simpa using he)])
            have hok2 := (sum_step HOK.out hokl (by rw [se1]; exact he)).1
            have HE := Lib.hid he
            obtain ⟨sv', hsv⟩ : ∃ sv', sv' = sumL al l := ⟨_, rfl⟩
            rw [se2] at HALL2 hok2
            rw [← hsv] at HS2 HALL2 hok2
            rw [he] at HS2
            have HO2 := Lib.hid hok2
            clear he hsv hl0' hok2 se1 se2 hokl b3 hm
            go_wp2_with fail
            refine (HS2.out).mono ?_
            rintro e wz ⟨AO, cO, rfl, ro, kz⟩
            have RO := Lib.hid (RdL.of_own ro)
            have KZ := Lib.hid (hbw.trans (kz.mono zw))
            have XZ := Lib.hid (HX.out.below kz HX.out.lt)
            clear ro kz d1 HS2 f0
            go_wp2_with fail
            go_roundw
            case rel => exact ⟨k + 1, sv', AO, cO, by omega, by rw [HMK.out]; go_num, rfl, HALL2.out, RO.out, HO2.out, KZ.out, XZ.out⟩
            case measure => simp [intOf]; omega
          · have HALL := Lib.hid (show cvO (bndAll cs) = none by rw [HALL0.out, HST.out, if_neg (by omega), if_pos (by rw [se1]; exact he)]; rfl)
            have he' : (0 : Int) < (sumErr al l : Int) := by omega
            clear he hl0' se1 se2 hokl b3 hm
            go_wp2_with fail
            refine (HS2.out).mono ?_
            rintro e wz ⟨AO, cO, rfl, -, kz⟩
            have kz' := hbw.trans (kz.mono zw)
            clear kz d1 HS2 f0
            go_wp2_with fail
            go_ret2
            rw [HALL.out]
            exact ⟨none, 0, rfl, Rd.nil_, kz'⟩
      · obtain rfl : k = 7 := by omega
        have HALL := Lib.hid (show cvO (bndAll cs) = some al by
          rw [HALL0.out, List.drop_eq_nil_of_le (by rw [H8.out]; omega)]
          show (if al.length = 0 then none else some al) = _
          rw [if_neg (by omega)])
        go_wp2_with fail
        go_ret2
        rw [HALL.out]
        exact ⟨A1, c1, rfl, HRD.out, hbw⟩
end
end Go.Proofs.YthgpbdlmadjndaaGreatDoor
