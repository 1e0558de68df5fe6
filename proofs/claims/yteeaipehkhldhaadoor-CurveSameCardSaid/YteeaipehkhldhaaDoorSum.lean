/- Package curve: Tidy, and Sum, of whatever is asked. Conditions: the sentinels that they name lie in their variables. -/
import Derived.Test.YteeaipehkhldhaaDoorTidy
namespace Go.Proofs.YteeaipehkhldhaaDoor
open Go.RowKit
set_option maxRecDepth 100000
def EndOwnL (l : List Ln) (S : Nat → Addr) (k : Nat) (a : Int) (w : World) (en : Ending) (w' : World) : Prop :=
  ∃ A c v, en = .returned (.tuple #[.slice A l.length c, v]) ∧ w'.ownsRow w.heap.size 24 2 (.slice A l.length c) l.length (l.flatMap Ln.cs) ∧ Er w' w'.heap.size S v k a ∧ Below w.heap.size w w'
def tidyV (l : List Ln) : List Ln := if (crvErr l).1 = 0 then tidyRef l else []
theorem ctidy_any (A : Option Addr) (c : Nat) (l : List Ln) (S : Nat → Addr) (w : World) (B : Nat) (hB : B ≤ w.heap.size) (h : RdL w B A l) (hS : Snt w B S [2, 3]) (hl : l.length ≤ 9223372036854775807) :
    Calls Tryd.prog 50 #[.slice A l.length c] w (EndOwnL (tidyV l) S (crvErr l).1 (crvErr l).2 w) := by
  by_cases hc : (crvErr l).1 = 0
  · obtain ⟨q1, q2, q3, q4⟩ := crvErr_ok hc
    have HV := Lib.hid (show tidyV l = tidyRef l from if_pos hc)
    have HC := Lib.hid (show crvErr l = (0, -1) from Prod.ext hc q4)
    clear hc q4
    go_enter Tryd.func50, Tryd.ntmps50
    go_wp2_with fail
    refine (check_any A c l S w B hB h hS hl).mono ?_
    rintro e w1 ⟨v, rfl, hv, k1⟩
    obtain rfl := hv.nil_of (by rw [HC.out])
    go_wp2_with fail
    refine (tidy_any A c l w1 B (Nat.le_trans hB k1.size) (h.below (k1.mono hB)) q1 (by omega) q3).mono ?_
    rintro e w2 ⟨A2, c2, rfl, o2, k2⟩
    go_wp2_with fail
    go_ret2
    rw [HC.out, HV.out]
    exact ⟨A2, c2, _, rfl, own_mono o2 k1.size, .nil, k1.trans (k2.mono k1.size)⟩
  · have HV := Lib.hid (show tidyV l = [] from if_neg hc)
    have HC := Lib.hid hc
    clear hc
    go_enter Tryd.func50, Tryd.ntmps50
    go_wp2_with fail
    refine (check_any A c l S w B hB h hS hl).mono ?_
    rintro e w1 ⟨v, rfl, hv, k1⟩
    obtain ⟨T, a, rfl⟩ := hv.some_of HC.out
    go_wp2_with fail
    go_ret2
    rw [HV.out]
    exact ⟨none, 0, _, rfl, ⟨by simp, .inl ⟨rfl, rfl⟩⟩, hv, k1⟩
def sumE (a b : List Ln) : Nat × Int := if (crvErr a).1 ≠ 0 then crvErr a else if (crvErr b).1 ≠ 0 then crvErr b else (sumErr a b, -1)
def sumV (a b : List Ln) : List Ln := if (sumE a b).1 = 0 then tidyRef (sumAll a b) else []
theorem sum_bad {a b : List Ln} {x y : Ln} (hx : x ∈ a) (hy : y ∈ b) (h : lineB (addLn x y).b (addLn x y).r = false) : sumErr a b = 2 := by
  unfold sumErr
  rw [if_neg]
  intro h9
  have := List.all_eq_true.1 h9 (addLn x y) (mem_sumAll.2 ⟨x, hx, y, hy, rfl⟩)
  rw [h] at this
  cases this
/-- What the loops have made. -/
structure SU (a b : List Ln) (i j : Nat) (acc : List Ln) : Prop where
  e : acc = sumAll (a.take i) b ++ (if h : i < a.length then (b.take j).map (addLn a[i]) else [])
  ok : ∀ z ∈ acc, lineB z.b z.r = true
  len : acc.length ≤ 36
theorem SU.push {a b : List Ln} {i j : Nat} {acc : List Ln} (h : SU a b i j acc) (hi : i < a.length) (hj : j < b.length) (ha : a.length ≤ 6) (hb : b.length ≤ 6) (hok : lineB (addLn a[i] b[j]).b (addLn a[i] b[j]).r = true) : SU a b i (j + 1) (acc ++ [addLn a[i] b[j]]) := by
  have he : acc ++ [addLn a[i] b[j]] = sumAll (a.take i) b ++ (if h : i < a.length then (b.take (j + 1)).map (addLn a[i]) else []) := by
    rw [h.e, dif_pos hi, dif_pos hi, List.take_succ_eq_append_getElem hj, List.map_append, List.append_assoc]
    rfl
  refine ⟨he, fun z hz => ?_, ?_⟩
  · rcases List.mem_append.1 hz with hz | hz
    · exact h.ok z hz
    · simp at hz; subst hz; exact hok
  · rw [he, dif_pos hi, List.length_append, sumAll_len, List.length_map, List.length_take, List.length_take]
    have h1 : min i a.length = i := by omega
    have h2 : min (j + 1) b.length = j + 1 := by omega
    rw [h1, h2]
    have := Nat.mul_le_mul (show i ≤ 5 by omega) hb
    omega
theorem SU.next {a b : List Ln} {i j : Nat} {acc : List Ln} (h : SU a b i j acc) (hi : i < a.length) (hj : ¬ j < b.length) : SU a b (i + 1) 0 acc := by
  have he : acc = sumAll (a.take (i + 1)) b := by
    rw [h.e, dif_pos hi, List.take_of_length_le (show b.length ≤ j by omega), List.take_succ_eq_append_getElem hi]
    unfold sumAll
    rw [List.flatMap_append]
    simp
  refine ⟨?_, h.ok, h.len⟩
  rw [he]
  split <;> simp
theorem SU.start {a b : List Ln} {i : Nat} {acc : List Ln} (h : SU a b i 0 acc) : acc = sumAll (a.take i) b := by
  rw [h.e]
  split <;> simp
set_option maxHeartbeats 8000000 in
theorem sum_main (A A' : Option Addr) (c c' : Nat) (a b : List Ln) (S : Nat → Addr) (w : World) (B : Nat) (hB : B ≤ w.heap.size) (h : RdL w B A a) (h' : RdL w B A' b) (hS : Snt w B S [2, 3]) (ha : (crvErr a).1 = 0) (hb : (crvErr b).1 = 0) :
    Calls Tryd.prog 51 #[.slice A a.length c, .slice A' b.length c'] w (EndOwnL (sumV a b) S (sumE a b).1 (sumE a b).2 w) := by
  obtain ⟨i0, hi0, hz0, hz1, hz2⟩ := info_parts infoLn
  obtain ⟨a1, a2, a3, a4⟩ := crvErr_ok ha
  obtain ⟨b1, b2, b3, b4⟩ := crvErr_ok hb
  have HE := Lib.hid (show sumE a b = (sumErr a b, -1) by unfold sumE; rw [if_neg (by omega), if_neg (by omega)])
  have HA := Lib.hid a3
  have HBB := Lib.hid b3
  have hal : a.length ≤ 9223372036854775807 := by omega
  have hbl : b.length ≤ 9223372036854775807 := by omega
  have Hca := Lib.hid ha
  have Hcb := Lib.hid hb
  have HL := Lib.hid h
  have HL' := Lib.hid h'
  have HS := Lib.hid hS
  clear a3 b3 ha hb h h' hS
  go_enter Tryd.func51, Tryd.ntmps51
  go_wp2_with fail
  refine (check_any A c a S w B hB HL.out HS.out hal).mono ?_
  rintro e w1 ⟨v, rfl, hv, k1⟩
  obtain rfl := hv.nil_of Hca.out
  go_wp2_with fail
  refine (check_any A' c' b S w1 B (Nat.le_trans hB k1.size) (HL'.out.below (k1.mono hB)) (HS.out.below (k1.mono hB)) hbl).mono ?_
  rintro e w2 ⟨v, rfl, hv2, k2⟩
  obtain rfl := hv2.nil_of Hcb.out
  have k2' := k1.trans (k2.mono k1.size)
  clear hv hv2 k1 k2
  go_wp2_with fail
  go_loopw [8, 26] (fun ov iv wr => ∃ (i : Nat) (acc : List Ln) (A3 : Option Addr) (c3 : Nat), i ≤ a.length ∧ iv = .int .i64 i ∧ ov = .slice A3 acc.length c3 ∧ SU a b i 0 acc ∧ wr.ownsRow w.heap.size 24 2 (.slice A3 acc.length c3) acc.length (acc.flatMap Ln.cs) ∧ Below w.heap.size w wr) (fun _ iv _ => a.length - (intOf iv).toNat)
  case atStart => exact ⟨0, [], none, 0, Nat.zero_le _, rfl, rfl, ⟨by split <;> simp [sumAll], by simp, by simp⟩, ⟨by simp, .inl ⟨rfl, rfl⟩⟩, k2'⟩
  case round =>
    obtain ⟨i, acc, A3, c3, hi, rfl, rfl, hsu, row, hbw⟩ := hrel
    have SUH := Lib.hid hsu
    have ROW := Lib.hid row
    have zw := hbw.size
    clear hsu row k2'
    by_cases hil : i < a.length
    · have hx := HA.out _ (List.getElem_mem hil)
      obtain ⟨r1, r2, r3, r4⟩ := hx
      have hd := RdL.get (HL.out.below (hbw.mono hB)) hil
      obtain ⟨bq, o, rfl, hbq, d0, d1⟩ := hd
      go_upto_region 11 with fail
      obtain ⟨V, hV⟩ : ∃ V : World, V = wr.alloc (.cells #[.int .i64 a[i].b, .int .i64 a[i].r] 24) := ⟨_, rfl⟩
      have bx : Blk V wr.heap.size 24 #[.int .i64 a[i].b, .int .i64 a[i].r] := by rw [hV]; exact Blk.new _ _ _
      have rowV : V.ownsRow w.heap.size 24 2 (.slice A3 acc.length c3) acc.length (acc.flatMap Ln.cs) := by rw [hV]; exact ROW.out.alloc _
      have kV : Below w.heap.size w V := by rw [hV]; exact hbw.alloc zw _
      obtain ⟨gx, hgx⟩ : ∃ gx, gx = wr.heap.size := ⟨_, rfl⟩
      have hgxn : ∀ q, (Value.slice A3 acc.length c3).ownBlock = some q → q ≠ gx := fun q hq => by have := own_ltL ROW.out q hq; omega
      have hgB : B ≤ gx := by omega
      rw [← hV, ← hgx]
      rw [← hgx] at bx
      have BX := Lib.hid bx
      have ROWV := Lib.hid rowV
      have HGN := Lib.hid hgxn
      obtain ⟨x, hx⟩ : ∃ x, x = a[i] := ⟨_, rfl⟩
      rw [← hx] at r1 r2 r3 r4
      rw [← hx] at BX
      have HX := Lib.hid hx
      clear hV hgx bx rowV d0 d1 hx hgxn
      go_wp2_with fail
      go_loopw [8, 32] (fun ov jv wr => ∃ (j : Nat) (acc : List Ln) (A3 : Option Addr) (c3 : Nat), j ≤ b.length ∧ jv = .int .i64 j ∧ ov = .slice A3 acc.length c3 ∧ SU a b i j acc ∧ wr.ownsRow w.heap.size 24 2 (.slice A3 acc.length c3) acc.length (acc.flatMap Ln.cs) ∧ Below w.heap.size w wr ∧ Blk wr gx 24 #[.int .i64 x.b, .int .i64 x.r] ∧ ∀ q, (Value.slice A3 acc.length c3).ownBlock = some q → q ≠ gx) (fun _ jv _ => b.length - (intOf jv).toNat)
      case atStart => exact ⟨0, acc, A3, c3, Nat.zero_le _, rfl, rfl, SUH.out, ROWV.out, kV, BX.out, HGN.out⟩
      case round =>
        obtain ⟨j, acc, A3, c3, hj, rfl, rfl, hsu, row, hbw, bx, hgn⟩ := hrel
        have SUH := Lib.hid hsu
        have ROW := Lib.hid row
        have BX := Lib.hid bx
        have HGN := Lib.hid hgn
        have zw := hbw.size
        have hal36 := hsu.len
        clear hsu row bx ROWV hgn
        by_cases hjl : j < b.length
        · have hy := HBB.out _ (List.getElem_mem hjl)
          obtain ⟨s1, s2, s3, s4⟩ := hy
          obtain ⟨bq2, o2, rfl, hbq2, e0, e1⟩ := RdL.get (HL'.out.below (hbw.mono hB)) hjl
          have x0 : wr.cell? ⟨gx, 0, none⟩ = some (.int .i64 x.b) := BX.out.cell 0
          have x1 : wr.cell? ⟨gx, 1, none⟩ = some (.int .i64 x.r) := BX.out.cell 1
          go_upto_region 14 with fail
          obtain ⟨V2, hV⟩ : ∃ V2 : World, V2 = wr.alloc (.cells #[.int .i64 b[j].b, .int .i64 b[j].r] 24) := ⟨_, rfl⟩
          have by_ : Blk V2 wr.heap.size 24 #[.int .i64 b[j].b, .int .i64 b[j].r] := by rw [hV]; exact Blk.new _ _ _
          have rowV : V2.ownsRow w.heap.size 24 2 (.slice A3 acc.length c3) acc.length (acc.flatMap Ln.cs) := by rw [hV]; exact ROW.out.alloc _
          have kV2 : Below w.heap.size w V2 := by rw [hV]; exact hbw.alloc zw _
          have bxV : Blk V2 gx 24 #[.int .i64 x.b, .int .i64 x.r] := by rw [hV]; exact BX.out.alloc _
          obtain ⟨gy, hgy⟩ : ∃ gy, gy = wr.heap.size := ⟨_, rfl⟩
          rw [← hV, ← hgy]
          rw [← hgy] at by_
          have y0 : V2.cell? ⟨gy, 0, none⟩ = some (.int .i64 b[j].b) := by_.cell 0
          have y1 : V2.cell? ⟨gy, 1, none⟩ = some (.int .i64 b[j].r) := by_.cell 1
          have z0 : V2.cell? ⟨gx, 0, none⟩ = some (.int .i64 x.b) := bxV.cell 0
          have z1 : V2.cell? ⟨gx, 1, none⟩ = some (.int .i64 x.r) := bxV.cell 1
          obtain ⟨z, hz⟩ : ∃ z, z = addLn x b[j] := ⟨_, rfl⟩
          have hzb : z.b = x.b + b[j].b := by rw [hz]; rfl
          have hzr : z.r = x.r + b[j].r := by rw [hz]; rfl
          have HZB := Lib.hid hzb
          have HZR := Lib.hid hzr
          have HZ := Lib.hid hz
          have ROWV := Lib.hid rowV
          have BXV := Lib.hid bxV
          have zV2 := kV2.size
          clear hV hgy by_ rowV bxV e0 e1 x0 x1 hz hzb hzr
          go_upto_region 15 with fail
          rw [← HZB.out, ← HZR.out]
          obtain ⟨V3, hV⟩ : ∃ V3 : World, V3 = V2.alloc (.cells #[.int .i64 z.b, .int .i64 z.r] 24) := ⟨_, rfl⟩
          have bz : Blk V3 V2.heap.size 24 #[.int .i64 z.b, .int .i64 z.r] := by rw [hV]; exact Blk.new _ _ _
          have row3 : V3.ownsRow w.heap.size 24 2 (.slice A3 acc.length c3) acc.length (acc.flatMap Ln.cs) := by rw [hV]; exact ROWV.out.alloc _
          have kV3 : Below w.heap.size w V3 := by rw [hV]; exact kV2.alloc zV2 _
          have bx3 : Blk V3 gx 24 #[.int .i64 x.b, .int .i64 x.r] := by rw [hV]; exact BXV.out.alloc _
          obtain ⟨gz, hgz⟩ : ∃ gz, gz = V2.heap.size := ⟨_, rfl⟩
          rw [← hV, ← hgz]
          rw [← hgz] at bz
          have w0 : V3.cell? ⟨gz, 0, none⟩ = some (.int .i64 z.b) := bz.cell 0
          have w1' : V3.cell? ⟨gz, 1, none⟩ = some (.int .i64 z.r) := bz.cell 1
          have ROW3 := Lib.hid row3
          have BX3 := Lib.hid bx3
          have BZ := Lib.hid bz
          have zV3 := kV3.size
          clear hV hgz bz row3 bx3 y0 y1 z0 z1
          go_wp2_with fail
          refine (line_any z.b z.r V3).mono ?_
          rintro e w4 ⟨rfl, k4⟩
          have k4' := kV3.trans (k4.mono zV3)
          have z4 := k4'.size
          have v0 : w4.cell? ⟨gz, 0, none⟩ = some (.int .i64 z.b) := (BZ.out.below k4 BZ.out.lt).cell 0
          have v1 : w4.cell? ⟨gz, 1, none⟩ = some (.int .i64 z.r) := (BZ.out.below k4 BZ.out.lt).cell 1
          have ROW4 := Lib.hid (show w4.ownsRow w.heap.size 24 2 (.slice A3 acc.length c3) acc.length (acc.flatMap Ln.cs) from own_same ROW3.out fun q hq => k4.block q (own_ltL ROW3.out q hq))
          have BX4 := Lib.hid (BX3.out.below k4 BX3.out.lt)
          clear w0 w1'
          cases hlb : lineB z.b z.r with
          | false =>
            have g2 : w4.cell? ⟨G 2, 0, none⟩ = some (sv S 2) := ((HS.out.below (k4'.mono hB)) 2 (by simp)).2.2
            simp only [G, sv] at g2
            have HER := Lib.hid (show sumE a b = (2, -1) by rw [HE.out, sum_bad (List.getElem_mem hil) (List.getElem_mem hjl) (by rw [← HX.out, ← HZ.out]; exact hlb)])
            have HVV := Lib.hid (show sumV a b = [] by unfold sumV; rw [HER.out]; rfl)
            clear hlb
            go_wp2_with fail
            go_quiet (fail)
            rename Nat => nq
            go_wp2_with fail
            go_ret2
            rw [HER.out, HVV.out]
            exact ⟨none, 0, _, rfl, ⟨by simp, .inl ⟨rfl, rfl⟩⟩, .bare 2 (by omega) (by omega), below_drewN k4' nq⟩
          | true =>
            have HP := Lib.hid (SUH.out.push hil hjl a2 b2 (by rw [← HX.out, ← HZ.out]; exact hlb))
            clear hlb
            go_wp2_with (at_builtin; refine wpList_append_rd _ Ln.cs rfl (.tmp 51) (.tmp 53) _ rfl w.heap.size 24 i0 _ 2 16 Tryd.underlying22 hi0 hz0 hz1 hz2 rfl (by omega) Ln.cs_len Ln.cs_one (.slice A3 acc.length c3) acc.length (acc.flatMap Ln.cs) rfl (ROW4.out.alloc _) (w4.heap.size + 1) (some ⟨w4.heap.size, 0, none⟩) 1 [z] rfl (RdL.new_ z) (by simp only [maxLen, List.length_cons, List.length_nil] <;> omega) (by simp only [List.length_cons, List.length_nil] <;> omega) (by simp <;> omega) ?_; intro v3 w5 row5 g5 at5; obtain ⟨A9, c9, hv9, row6⟩ := own_app row5 (by omega); subst hv9; have k5 := below_app (k4'.alloc z4 _) (ROW4.out.alloc _) g5 (Nat.le_refl _) (by simp <;> omega))
            have bx5 : Blk w5 gx 24 #[.int .i64 x.b, .int .i64 x.r] := (BX4.out.alloc _).grown g5 (fun e9 => HGN.out _ e9.symm rfl)
            have hgn5 : ∀ q, (Value.slice A9 (acc ++ [z]).length c9).ownBlock = some q → q ≠ gx := fun q hq => by
              rcases at5 with e9 | e9
              · exact HGN.out q (by rw [← e9]; exact hq)
              · rw [hq] at e9
                have := BX4.out.lt
                injection e9 with e9
                simp at e9
                omega
            have hp := HP.out
            rw [← HX.out, ← HZ.out] at hp
            have hle : (acc ++ [z]).length = acc.length + 1 := by simp
            go_roundw
            case rel => exact ⟨j + 1, acc ++ [z], A9, c9, hjl, by go_num, by rw [hle], hp, row6, k5, bx5, hgn5⟩
            case measure => simp [intOf]; omega
        · have HN := Lib.hid (SUH.out.next hil hjl)
          go_wp2_with fail
          go_roundw
          case rel => exact ⟨i + 1, acc, A3, c3, hil, by go_num, rfl, HN.out, ROW.out, hbw⟩
          case measure => simp [intOf]; omega
    · have hacc : acc = sumAll a b := by rw [SUH.out.start, List.take_of_length_le (by omega)]
      have HACC := Lib.hid hacc
      have hal1 : 1 ≤ acc.length := by rw [hacc, sumAll_len]; exact Nat.mul_pos a1 b1
      have hal36 := SUH.out.len
      have hok : ∀ z ∈ acc, okLn z := fun z hz => by have h9 := SUH.out.ok z hz; unfold lineB at h9; have h9 := of_decide_eq_true h9; exact h9
      have hall : (sumAll a b).all (fun z => lineB z.b z.r) = true := List.all_eq_true.2 fun z hz => SUH.out.ok z (by rw [hacc]; exact hz)
      have HOK := Lib.hid hok
      have HALL := Lib.hid hall
      clear hacc hok hall
      go_wp2_with fail
      refine (tidy_any A3 c3 acc wr wr.heap.size (Nat.le_refl _) (RdL.of_own ROW.out) hal1 (by omega) HOK.out).mono ?_
      rintro e w5 ⟨A5, c5, rfl, o5, k5⟩
      have k5' := hbw.trans (k5.mono zw)
      obtain ⟨t, ht⟩ : ∃ t, t = tidyRef acc := ⟨_, rfl⟩
      have htl : t.length ≤ acc.length := by rw [ht]; exact tidy_len fun y hy => (HOK.out y hy).2.2.1
      rw [← ht] at o5 ⊢
      have HTT := Lib.hid (ht.trans (by rw [HACC.out]))
      have O5 := Lib.hid o5
      clear ht o5
      by_cases h6 : 6 < t.length
      · have HER := Lib.hid (show sumE a b = (3, -1) by rw [HE.out]; unfold sumErr; rw [if_pos HALL.out, if_pos (by rw [← HTT.out]; exact h6)])
        have HVV := Lib.hid (show sumV a b = [] by unfold sumV; rw [HER.out]; rfl)
        have g3 : w5.cell? ⟨G 3, 0, none⟩ = some (sv S 3) := ((HS.out.below (k5'.mono hB)) 3 (by simp)).2.2
        simp only [G, sv] at g3
        go_wp2_with fail
        go_quiet (fail)
        rename Nat => nq
        go_wp2_with fail
        go_ret2
        rw [HER.out, HVV.out]
        exact ⟨none, 0, _, rfl, ⟨by simp, .inl ⟨rfl, rfl⟩⟩, .bare 3 (by omega) (by omega), below_drewN k5' nq⟩
      · have HER := Lib.hid (show sumE a b = (0, -1) by rw [HE.out]; unfold sumErr; rw [if_pos HALL.out, if_neg (by rw [← HTT.out]; exact h6)])
        have HVV := Lib.hid (show sumV a b = t by unfold sumV; rw [HER.out, ← HTT.out]; rfl)
        go_wp2_with fail
        go_ret2
        rw [HER.out, HVV.out]
        exact ⟨A5, c5, _, rfl, own_mono O5.out zw, .nil, k5'⟩
theorem csum_any (A A' : Option Addr) (c c' : Nat) (a b : List Ln) (S : Nat → Addr) (w : World) (B : Nat) (hB : B ≤ w.heap.size) (h : RdL w B A a) (h' : RdL w B A' b) (hS : Snt w B S [2, 3]) (hal : a.length ≤ 9223372036854775807) (hbl : b.length ≤ 9223372036854775807) :
    Calls Tryd.prog 51 #[.slice A a.length c, .slice A' b.length c'] w (EndOwnL (sumV a b) S (sumE a b).1 (sumE a b).2 w) := by
  by_cases ha : (crvErr a).1 = 0
  · by_cases hb : (crvErr b).1 = 0
    · exact sum_main A A' c c' a b S w B hB h h' hS ha hb
    · have HE := Lib.hid (show sumE a b = crvErr b by unfold sumE; rw [if_neg (by omega), if_pos hb])
      have HV := Lib.hid (show sumV a b = [] by unfold sumV; rw [HE.out]; exact if_neg hb)
      have Hca := Lib.hid ha
      have Hcb := Lib.hid hb
      clear ha hb
      go_enter Tryd.func51, Tryd.ntmps51
      go_wp2_with fail
      refine (check_any A c a S w B hB h hS hal).mono ?_
      rintro e w1 ⟨v, rfl, hv, k1⟩
      obtain rfl := hv.nil_of Hca.out
      go_wp2_with fail
      refine (check_any A' c' b S w1 B (Nat.le_trans hB k1.size) (h'.below (k1.mono hB)) (hS.below (k1.mono hB)) hbl).mono ?_
      rintro e w2 ⟨v, rfl, hv2, k2⟩
      obtain ⟨T, a9, rfl⟩ := hv2.some_of Hcb.out
      go_wp2_with fail
      go_ret2
      rw [HE.out, HV.out]
      exact ⟨none, 0, _, rfl, ⟨by simp, .inl ⟨rfl, rfl⟩⟩, hv2, k1.trans (k2.mono k1.size)⟩
  · have HE := Lib.hid (show sumE a b = crvErr a by unfold sumE; rw [if_pos ha])
    have HV := Lib.hid (show sumV a b = [] by unfold sumV; rw [HE.out]; exact if_neg ha)
    have Hca := Lib.hid ha
    clear ha
    go_enter Tryd.func51, Tryd.ntmps51
    go_wp2_with fail
    refine (check_any A c a S w B hB h hS hal).mono ?_
    rintro e w1 ⟨v, rfl, hv, k1⟩
    obtain ⟨T, a9, rfl⟩ := hv.some_of Hca.out
    go_wp2_with fail
    go_ret2
    rw [HE.out, HV.out]
    exact ⟨none, 0, _, rfl, ⟨by simp, .inl ⟨rfl, rfl⟩⟩, hv, k1⟩
end Go.Proofs.YteeaipehkhldhaaDoor
