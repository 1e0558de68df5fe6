/- floodgateref1.SumOf, at right lines. Conditions: where they lie; few, right. -/
import Derived.BigRegion
import Derived.Deep.CutRange
import Derived.Test.YteeaipehkhldhaaDoorTdyOf
import Derived.Test.YteeaipehkhldhaaDoorSum
import Derived.Test.YteeaipehkhldhaaDoorLineE
namespace Go.Proofs.YteeaipehkhldhaaDoor
open Go.RowKit
set_option maxRecDepth 100000
set_option maxHeartbeats 8000000 in
theorem sumOf_any (A A' : Option Addr) (c c' : Nat) (a b : List Ln) (w : World) (B : Nat) (hB : B ≤ w.heap.size) (h : RdL w B A a) (h' : RdL w B A' b) (ha : a.length ≤ 6) (hb : b.length ≤ 6) (hoa : ∀ x ∈ a, okLn x) (hob : ∀ x ∈ b, okLn x) :
    Calls Tryd.prog 54 #[.slice A a.length c, .slice A' b.length c'] w (fun en w' => ∃ A2 c2, en = .returned (.tuple #[.slice A2 (sumL a b).length c2, .int .i64 (sumErr a b)]) ∧ w'.ownsRow w.heap.size 24 2 (.slice A2 (sumL a b).length c2) (sumL a b).length ((sumL a b).flatMap Ln.cs) ∧ Below w.heap.size w w') := by
  obtain ⟨i0, hi0, hz0, hz1, hz2⟩ := info_parts infoLn
  have HA := Lib.hid hoa
  have HBB := Lib.hid hob
  have hal : a.length ≤ 9223372036854775807 := by omega
  have hbl : b.length ≤ 9223372036854775807 := by omega
  have HL := Lib.hid h
  have HL' := Lib.hid h'
  clear hoa hob h h'
  go_enter Tryd.func54, Tryd.ntmps54
  go_wp2_with fail
  go_loopw [6, 7] (fun ov iv wr => ∃ (i : Nat) (acc : List Ln) (A3 : Option Addr) (c3 : Nat), i ≤ a.length ∧ iv = .int .i64 i ∧ ov = .slice A3 acc.length c3 ∧ SU a b i 0 acc ∧ wr.ownsRow w.heap.size 24 2 (.slice A3 acc.length c3) acc.length (acc.flatMap Ln.cs) ∧ Below w.heap.size w wr) (fun _ iv _ => a.length - (intOf iv).toNat)
  case atStart => exact ⟨0, [], none, 0, Nat.zero_le _, rfl, rfl, ⟨by split <;> simp [sumAll], by simp, by simp⟩, ⟨by simp, .inl ⟨rfl, rfl⟩⟩, Below.refl _ _⟩
  case round =>
    obtain ⟨i, acc, A3, c3, hi, rfl, rfl, hsu, row, hbw⟩ := hrel
    have SUH := Lib.hid hsu
    have ROW := Lib.hid row
    have zw := hbw.size
    clear hsu row
    by_cases hil : i < a.length
    · have i0' : (0 : Int) ≤ (i : Int) := by omega
      have i1' : (i : Int) < (a.length : Int) := by omega
      have HX := Lib.hid (HA.out _ (List.getElem_mem hil))
      obtain ⟨x, hx⟩ : ∃ x, x = a[i] := ⟨_, rfl⟩
      rw [← hx] at HX
      have HXE := Lib.hid hx
      clear hx
      go_wp2_with fail
      go_loopw [6, 8] (fun ov jv wr => ∃ (j : Nat) (acc : List Ln) (A3 : Option Addr) (c3 : Nat), j ≤ b.length ∧ jv = .int .i64 j ∧ ov = .slice A3 acc.length c3 ∧ SU a b i j acc ∧ wr.ownsRow w.heap.size 24 2 (.slice A3 acc.length c3) acc.length (acc.flatMap Ln.cs) ∧ Below w.heap.size w wr) (fun _ jv _ => b.length - (intOf jv).toNat)
      case atStart => exact ⟨0, acc, A3, c3, Nat.zero_le _, rfl, rfl, SUH.out, ROW.out, hbw⟩
      case round =>
        obtain ⟨j, acc, A3, c3, hj, rfl, rfl, hsu, row, hbw⟩ := hrel
        have SUH := Lib.hid hsu
        have ROW := Lib.hid row
        have zw := hbw.size
        have hal36 := hsu.len
        clear hsu row
        by_cases hjl : j < b.length
        · have j0' : (0 : Int) ≤ (j : Int) := by omega
          have j1' : (j : Int) < (b.length : Int) := by omega
          obtain ⟨r1, r2, r3, r4⟩ := HX.out
          obtain ⟨y, hy⟩ : ∃ y, y = b[j] := ⟨_, rfl⟩
          obtain ⟨s1, s2, s3, s4⟩ := HBB.out _ (List.getElem_mem hjl)
          rw [← hy] at s1 s2 s3 s4
          obtain ⟨bq, o, rfl, hbq, d0, d1⟩ := RdL.get (HL.out.below (hbw.mono hB)) hil
          obtain ⟨bq2, o2, rfl, hbq2, e0, e1⟩ := RdL.get (HL'.out.below (hbw.mono hB)) hjl
          rw [← HXE.out] at d0 d1
          rw [← hy] at e0 e1
          have HYE := Lib.hid hy
          clear hy
          go_upto_region 8 with fail
          have q1 : bq < wr.heap.size := by omega
          have q2 : bq2 < wr.heap.size := by omega
          have f0 : (wr.alloc (.cells #[.int .i64 0, .int .i64 0] 24)).drew.cell? ⟨bq, o + i * 2, none⟩ = some (.int .i64 x.b) := (World.cell?_alloc_lt wr _ ⟨bq, o + i * 2, none⟩ q1).trans d0
          have f1 : (wr.alloc (.cells #[.int .i64 0, .int .i64 0] 24)).drew.cell? ⟨bq, o + i * 2 + 1, none⟩ = some (.int .i64 x.r) := (World.cell?_alloc_lt wr _ ⟨bq, o + i * 2 + 1, none⟩ q1).trans d1
          have f2 : (wr.alloc (.cells #[.int .i64 0, .int .i64 0] 24)).drew.cell? ⟨bq2, o2 + j * 2, none⟩ = some (.int .i64 y.b) := (World.cell?_alloc_lt wr _ ⟨bq2, o2 + j * 2, none⟩ q2).trans e0
          have f3 : (wr.alloc (.cells #[.int .i64 0, .int .i64 0] 24)).drew.cell? ⟨bq2, o2 + j * 2 + 1, none⟩ = some (.int .i64 y.r) := (World.cell?_alloc_lt wr _ ⟨bq2, o2 + j * 2 + 1, none⟩ q2).trans e1
          go_region
          clear f0 f1 f2 f3 d0 d1 e0 e1
          obtain ⟨z, hz⟩ : ∃ z, z = addLn x y := ⟨_, rfl⟩
          rw [show x.b + y.b = z.b by rw [hz]; rfl, show x.r + y.r = z.r by rw [hz]; rfl]
          have HZ := Lib.hid hz
          obtain ⟨V3, hV⟩ : ∃ V3 : World, V3 = (wr.alloc (.cells #[.int .i64 z.b, .int .i64 z.r] 24)).drew := ⟨_, rfl⟩
          have bz : Blk V3 wr.heap.size 24 #[.int .i64 z.b, .int .i64 z.r] := by rw [hV]; exact (Blk.new _ _ _).drewN 1
          have row3 : V3.ownsRow w.heap.size 24 2 (.slice A3 acc.length c3) acc.length (acc.flatMap Ln.cs) := by rw [hV]; exact ROW.out.alloc _
          have kV3 : Below w.heap.size w V3 := by rw [hV]; exact (hbw.alloc zw _).drew
          obtain ⟨gz, hgz⟩ : ∃ gz, gz = wr.heap.size := ⟨_, rfl⟩
          rw [← hV, ← hgz]
          rw [← hgz] at bz
          have w0 : V3.cell? ⟨gz, 0, none⟩ = some (.int .i64 z.b) := bz.cell 0
          have w1' : V3.cell? ⟨gz, 1, none⟩ = some (.int .i64 z.r) := bz.cell 1
          have ROW3 := Lib.hid row3
          have BZ := Lib.hid bz
          have zV3 := kV3.size
          clear hV hgz bz row3 hz
          go_wp2_with fail
          refine (lineErr_any z V3).mono ?_
          rintro e w4 ⟨rfl, k4⟩
          have k4' := kV3.trans (k4.mono zV3)
          have z4 := k4'.size
          have v0 : w4.cell? ⟨gz, 0, none⟩ = some (.int .i64 z.b) := (BZ.out.below k4 BZ.out.lt).cell 0
          have v1 : w4.cell? ⟨gz, 1, none⟩ = some (.int .i64 z.r) := (BZ.out.below k4 BZ.out.lt).cell 1
          have ROW4 := Lib.hid (show w4.ownsRow w.heap.size 24 2 (.slice A3 acc.length c3) acc.length (acc.flatMap Ln.cs) from own_same ROW3.out fun q hq => k4.block q (own_ltL ROW3.out q hq))
          clear w0 w1'
          cases hlb : lineB z.b z.r with
          | false =>
            have HLE := Lib.hid (show lineErr z = 2 by unfold lineErr; rw [hlb]; rfl)
            have HER := Lib.hid (show sumErr a b = 2 by rw [sum_bad (List.getElem_mem hil) (List.getElem_mem hjl) (by rw [← HXE.out, ← HYE.out, ← HZ.out]; exact hlb)])
            have HVV := Lib.hid (show sumL a b = [] by unfold sumL; rw [HER.out]; rfl)
            clear hlb
            rw [HLE.out]
            go_wp2_with fail
            go_ret2
            rw [HER.out, HVV.out]
            exact ⟨none, 0, rfl, ⟨by simp, .inl ⟨rfl, rfl⟩⟩, k4'⟩
          | true =>
            have HLE := Lib.hid (show lineErr z = 0 by unfold lineErr; rw [hlb]; rfl)
            have HP := Lib.hid (SUH.out.push hil hjl ha hb (by rw [← HXE.out, ← HYE.out, ← HZ.out]; exact hlb))
            clear hlb
            rw [HLE.out]
            go_wp2_with (at_builtin; refine wpList_append_rd _ Ln.cs rfl (.tmp 49) (.tmp 51) _ rfl w.heap.size 24 i0 _ 2 16 Tryd.underlying22 hi0 hz0 hz1 hz2 rfl (by omega) Ln.cs_len Ln.cs_one (.slice A3 acc.length c3) acc.length (acc.flatMap Ln.cs) rfl (ROW4.out.alloc _) (w4.heap.size + 1) (some ⟨w4.heap.size, 0, none⟩) 1 [z] rfl (RdL.new_ z) (by simp only [maxLen, List.length_cons, List.length_nil] <;> omega) (by simp only [List.length_cons, List.length_nil] <;> omega) (by simp <;> omega) ?_; intro v3 w5 row5 g5 at5; obtain ⟨A9, c9, hv9, row6⟩ := own_app row5 (by omega); subst hv9; have k5 := below_app (k4'.alloc z4 _) (ROW4.out.alloc _) g5 (Nat.le_refl _) (by simp <;> omega))
            have hp := HP.out
            rw [← HXE.out, ← HYE.out, ← HZ.out] at hp
            have hle : (acc ++ [z]).length = acc.length + 1 := by simp
            go_roundw
            case rel => exact ⟨j + 1, acc ++ [z], A9, c9, hjl, by go_num, by rw [hle], hp, row6, k5⟩
            case measure => simp [intOf]; omega
        · have HN := Lib.hid (SUH.out.next hil hjl)
          go_wp2_with fail
          go_roundw
          case rel => exact ⟨i + 1, acc, A3, c3, hil, by go_num, rfl, HN.out, ROW.out, hbw⟩
          case measure => simp [intOf]; omega
    · have hacc : acc = sumAll a b := by rw [SUH.out.start, List.take_of_length_le (by omega)]
      have HACC := Lib.hid hacc
      have hal36 := SUH.out.len
      have hok : ∀ z ∈ acc, okLn z := fun z hz => by have h9 := SUH.out.ok z hz; unfold lineB at h9; have h9 := of_decide_eq_true h9; exact h9
      have hall : (sumAll a b).all (fun z => lineB z.b z.r) = true := List.all_eq_true.2 fun z hz => SUH.out.ok z (by rw [hacc]; exact hz)
      have HOK := Lib.hid hok
      have HALL := Lib.hid hall
      clear hacc hok hall
      go_wp2_with fail
      refine (tidyOf_any A3 c3 acc wr wr.heap.size (Nat.le_refl _) (RdL.of_own ROW.out) (by omega) HOK.out).mono ?_
      rintro e w5 ⟨A5, c5, rfl, o5, k5⟩
      have k5' := hbw.trans (k5.mono zw)
      obtain ⟨t, ht⟩ : ∃ t, t = tidyRef acc := ⟨_, rfl⟩
      have htl : t.length ≤ acc.length := by rw [ht]; exact tidy_len fun y hy => (HOK.out y hy).2.2.1
      rw [← ht] at o5 ⊢
      have HTT := Lib.hid (ht.trans (by rw [HACC.out]))
      have O5 := Lib.hid o5
      clear ht o5
      by_cases h6 : 6 < t.length
      · have HER := Lib.hid (show sumErr a b = 3 by unfold sumErr; rw [if_pos HALL.out, if_pos (by rw [← HTT.out]; exact h6)])
        have HVV := Lib.hid (show sumL a b = [] by unfold sumL; rw [HER.out]; rfl)
        go_wp2_with fail
        go_ret2
        rw [HER.out, HVV.out]
        exact ⟨none, 0, rfl, ⟨by simp, .inl ⟨rfl, rfl⟩⟩, k5'⟩
      · have HER := Lib.hid (show sumErr a b = 0 by unfold sumErr; rw [if_pos HALL.out, if_neg (by rw [← HTT.out]; exact h6)])
        have HVV := Lib.hid (show sumL a b = t by unfold sumL; rw [HER.out, ← HTT.out]; rfl)
        go_wp2_with fail
        go_ret2
        rw [HER.out, HVV.out]
        exact ⟨A5, c5, rfl, own_mono O5.out zw, k5'⟩
end Go.Proofs.YteeaipehkhldhaaDoor
