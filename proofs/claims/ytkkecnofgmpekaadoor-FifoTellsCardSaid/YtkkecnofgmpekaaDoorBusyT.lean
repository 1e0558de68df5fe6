/- floodgateref1.BusyTicks: busy ticks of whatever was sent. Condition: the list fits memory. -/
import Derived.Test.YtkkecnofgmpekaaDoorBusy
namespace Go.Proofs.YtkkecnofgmpekaaDoor
open Go.RowKit
set_option maxRecDepth 100000
set_option maxHeartbeats 4000000 in
theorem busyTicks_any (A : Option Addr) (c : Nat) (l : List Sn) (w : World) (B : Nat) (hB : B ≤ w.heap.size) (h : RdS w B A l) (hl : l.length ≤ 4294967296) :
    Calls Tryd.prog 39 #[.slice A l.length c] w (EndOwn Ln.cs 2 61 (busyL l) w) := by
  obtain ⟨i0, hi0, hz0, hz1, hz2⟩ := info_parts infoTk
  go_enter Tryd.func39, Tryd.ntmps39
  go_wp2_with fail
  go_loopw [3, 4] (fun v i wr => ∃ (k : Nat) (acc : List Ln) (A5 : Option Addr) (c5 : Nat), k ≤ l.length ∧ acc.length ≤ k ∧ v = .slice A5 acc.length c5 ∧ i = .int .i64 k ∧ busyL l = (l.drop k).foldl bStep acc ∧ wr.ownsRow w.heap.size 61 2 (.slice A5 acc.length c5) acc.length (acc.flatMap Ln.cs) ∧ Below w.heap.size w wr) (fun _ i _ => l.length - (intOf i).toNat)
  case atStart => exact ⟨0, [], none, 0, Nat.zero_le _, Nat.le_refl _, rfl, rfl, rfl, ⟨by simp, .inl ⟨rfl, rfl⟩⟩, Below.refl _ _⟩
  case round =>
    obtain ⟨k, acc, A5, c5, hk, hak, rfl, rfl, hb, row, hbw⟩ := hrel
    have zw := hbw.size
    have Row := Lib.hid row
    clear row
    by_cases hlt : k < l.length
    · obtain ⟨b, o, rfl, hbb, d0, d1, d2⟩ := RdS.get (h.below (hbw.mono hB)) hlt
      rw [List.drop_eq_getElem_cons hlt, List.foldl_cons] at hb
      have q1 : (0 : Int) ≤ (k : Int) := by omega
      have q2 : (k : Int) < (l.length : Int) := by omega
      have hq3 : acc.length + 1 ≤ maxLen := by simp only [maxLen]; omega
      have hq4 : (acc.length + 1) * 16 ≤ 140737488355328 := by omega
      rcases snoc_or acc with rfl | ⟨a, y, rfl⟩
      · have Hb := Lib.hid hb
        clear hb
        have hrow0 : wr.ownsRow w.heap.size 61 2 (.slice A5 0 c5) 0 [] := Row.out
        have Row0 := Lib.hid hrow0
        have q3 : ((([] : List Ln).length : Nat) : Int) - 1 < 0 := by simp
        have hq5 : 0 + [(⟨l[k].f, l[k].t⟩ : Ln)].length ≤ maxLen := by simp [maxLen]
        have hq6 : (0 + [(⟨l[k].f, l[k].t⟩ : Ln)].length) * 16 ≤ 140737488355328 := by simp
        clear hrow0
        go_wp2_with fail
        go_quiet (fail)
        rename_i nq
        obtain ⟨v2, hv2⟩ : ∃ v2 : World, v2 = wr.drewN nq := ⟨_, rfl⟩
        have kv2 : Below w.heap.size w v2 := by rw [hv2]; exact below_drewN hbw nq
        have zv2 := kv2.size
        have y1 : v2.cell? ⟨b, o + k * 3 + 1, none⟩ = some (.int .i64 l[k].f) := by rw [hv2]; exact d1
        have y2 : v2.cell? ⟨b, o + k * 3 + 2, none⟩ = some (.int .i64 l[k].t) := by rw [hv2]; exact d2
        have row2 : v2.ownsRow w.heap.size 61 2 (.slice A5 0 c5) 0 [] := by rw [hv2]; exact Row0.out
        have Row2 := Lib.hid (row2.alloc (.cells #[.int .i64 l[k].f, .int .i64 l[k].t] 61))
        have hnew : Rd (v2.alloc (.cells #[.int .i64 l[k].f, .int .i64 l[k].t] 61)) (v2.heap.size + 1) 2 Ln.cs (some ⟨v2.heap.size, 0, none⟩) [⟨l[k].f, l[k].t⟩] := RdL.new_ ⟨l[k].f, l[k].t⟩
        have hq7 : w.heap.size ≤ (v2.alloc (.cells #[.int .i64 l[k].f, .int .i64 l[k].t] 61)).heap.size := by simp; omega
        rw [← hv2]
        clear row2 hv2 d0 d1 d2
        go_wp2_with fail
        have Hnew := Lib.hid hnew
        clear hnew
        go_region_law (refine step_append_rd _ Ln.cs rfl (.tmp 30) (.tmp 42) 59 rfl w.heap.size 61 i0 (.agg #[.int .i64 0, .int .i64 0]) 2 16 Tryd.underlying59 hi0 hz0 hz1 hz2 rfl Nat.two_pos Ln.cs_len Ln.cs_one (.slice A5 0 c5) 0 [] rfl Row2.out (v2.heap.size + 1) (some ⟨v2.heap.size, 0, none⟩) 1 [⟨l[k].f, l[k].t⟩] rfl Hnew.out hq5 hq6 hq7 ?_; intro v3 w3 row3 g3 at3)
        all_goals
          obtain ⟨A6, c6, hv6, row6⟩ := own_slice' (m := 1) (ys := ([⟨l[k].f, l[k].t⟩] : List Ln).flatMap Ln.cs) row3 rfl rfl
          rw [hv6]
          clear hv6 row3
          have k3 := below_app (((kv2.alloc zv2 (.cells #[.int .i64 l[k].f, .int .i64 l[k].t] 61))).drew) Row2.out.drew g3 (Nat.le_refl _) hq7
          go_wp2_with fail
          go_roundw
          case rel => exact ⟨k + 1, [⟨l[k].f, l[k].t⟩], A6, c6, hlt, by simp, rfl, by go_num, Hb.out, row6, k3⟩
          case measure => simp [intOf]; omega
      · have hlen : (a ++ [y]).length = a.length + 1 := by simp
        obtain ⟨N, hN⟩ : ∃ N, N = a.length + 1 := ⟨_, rfl⟩
        rw [← hN] at hlen
        rw [hlen] at hak hq3 hq4
        rw [hlen]
        have RowV1 := Lib.hid (show wr.ownsRow w.heap.size 61 2 (.slice A5 N c5) N ((a ++ [y]).flatMap Ln.cs) by have := Row.out; rw [hlen] at this; exact this)
        obtain ⟨g, cap, hv5, hg0, hg⟩ := RowV1.out.form (by omega)
        cases hv5
        obtain ⟨t1, t2⟩ := tk_get a y
        have z0 : wr.cell? ⟨g, a.length * 2, none⟩ = some (.int .i64 y.b) := (RowV1.out.cellAt _ (by omega)).trans t1
        have z1 : wr.cell? ⟨g, a.length * 2 + 1, none⟩ = some (.int .i64 y.r) := (RowV1.out.cellAt _ (by omega)).trans t2
        have q3 : (0 : Int) ≤ (N : Int) - 1 := by omega
        have q4 : (N : Int) - 1 = (a.length : Int) := by omega
        have q5 : (0 : Int) ≤ (a.length : Int) := by omega
        have q6 : (a.length : Int) < (N : Int) := by omega
        have q7 : ¬ (a.length : Int) < 0 := by omega
        have HN := Lib.hid hN
        clear t1 t2 hlen hN
        by_cases hin : l[k].f ≤ y.r
        · by_cases hx : y.r < l[k].t
          · have Hb := Lib.hid (show busyL l = (l.drop (k + 1)).foldl bStep (a ++ [⟨y.b, l[k].t⟩]) by rw [hb, bStep_in a y _ hin, Int.max_eq_right (Int.le_of_lt hx)])
            clear hb
            go_wp2_with fail
            go_quiet (fail)
            rename Nat => nq1
            go_wp2_with fail
            go_quiet (fail)
            rename Nat => nq2
            obtain ⟨v2, hv2⟩ : ∃ v2 : World, v2 = (wr.drewN nq1).drewN nq2 := ⟨_, rfl⟩
            have kv2 : Below w.heap.size w v2 := by rw [hv2]; exact below_drewN (below_drewN hbw nq1) nq2
            have y1 : v2.cell? ⟨b, o + k * 3 + 1, none⟩ = some (.int .i64 l[k].f) := by rw [hv2]; exact d1
            have y2 : v2.cell? ⟨b, o + k * 3 + 2, none⟩ = some (.int .i64 l[k].t) := by rw [hv2]; exact d2
            have row2 : v2.ownsRow w.heap.size 61 2 (.slice (some ⟨g, 0, none⟩) N c5) N ((a ++ [y]).flatMap Ln.cs) := by rw [hv2]; exact RowV1.out
            have u0 : v2.cell? ⟨g, a.length * 2, none⟩ = some (.int .i64 y.b) := by rw [hv2]; exact z0
            have u1 : v2.cell? ⟨g, a.length * 2 + 1, none⟩ = some (.int .i64 y.r) := by rw [hv2]; exact z1
            have f0 := row2.frozenAt (a.length * 2)
            have f1 := row2.frozenAt (a.length * 2 + 1)
            have Row2 := Lib.hid row2
            have zv2 := kv2.size
            rw [← hv2]
            clear row2 hv2 d0 d1 d2 z0 z1
            go_wp2_with fail
            go_still_tail 14, (by kernel_rfl)
            go_wp2_with fail
            have row6 : ((v2.setCell ⟨g, a.length * 2, none⟩ (.int .i64 y.b)).setCell ⟨g, a.length * 2 + 1, none⟩ (.int .i64 l[k].t)).drew.ownsRow w.heap.size 61 2 (.slice (some ⟨g, 0, none⟩) (a ++ [(⟨y.b, l[k].t⟩ : Ln)]).length c5) (a ++ [(⟨y.b, l[k].t⟩ : Ln)]).length ((a ++ [(⟨y.b, l[k].t⟩ : Ln)]).flatMap Ln.cs) := by
              have := ((Row2.out.stored (a.length * 2) (.int .i64 y.b)).1.stored (a.length * 2 + 1) (.int .i64 l[k].t)).1
              rw [tk_set2] at this
              have eN : (a ++ [(⟨y.b, l[k].t⟩ : Ln)]).length = N := by rw [HN.out]; simp
              rw [eN]
              exact this
            go_roundw
            case rel => exact ⟨k + 1, a ++ [⟨y.b, l[k].t⟩], some ⟨g, 0, none⟩, c5, hlt, by have := HN.out; simp; omega, by rw [HN.out]; simp, by go_num, Hb.out, row6, ((kv2.setCell (p := ⟨g, a.length * 2, none⟩) hg0 _).setCell (p := ⟨g, a.length * 2 + 1, none⟩) hg0 _).drew⟩
            case measure => simp [intOf]; omega
          · have hx2 : l[k].t ≤ y.r := by omega
            have Hb := Lib.hid (show busyL l = (l.drop (k + 1)).foldl bStep (a ++ [y]) by rw [hb, bStep_in a y _ hin, Int.max_eq_left hx2])
            clear hb hx
            go_wp2_with fail
            go_quiet (fail)
            rename Nat => nq1
            go_wp2_with fail
            go_quiet (fail)
            rename Nat => nq2
            go_wp2_with fail
            have row6 : ((wr.drewN nq1).drewN nq2).ownsRow w.heap.size 61 2 (.slice (some ⟨g, 0, none⟩) (a ++ [y]).length c5) (a ++ [y]).length ((a ++ [y]).flatMap Ln.cs) := by
              have eN : (a ++ [y]).length = N := by rw [HN.out]; simp
              rw [eN]
              exact RowV1.out
            go_roundw
            case rel => exact ⟨k + 1, a ++ [y], some ⟨g, 0, none⟩, c5, hlt, by have := HN.out; simp; omega, by rw [HN.out]; simp, by go_num, Hb.out, by first | exact row6 | exact Row.out, by first | exact below_drewN (below_drewN hbw nq1) nq2 | exact below_drewN hbw _⟩
            case measure => simp [intOf]; omega
        · have hout : y.r < l[k].f := by omega
          have Hb := Lib.hid (show busyL l = (l.drop (k + 1)).foldl bStep (a ++ [y] ++ [⟨l[k].f, l[k].t⟩]) by rw [hb, bStep_out a y _ hout])
          clear hb hin
          go_wp2_with fail
          go_quiet (fail)
          rename Nat => nq1
          obtain ⟨v2, hv2⟩ : ∃ v2 : World, v2 = wr.drewN nq1 := ⟨_, rfl⟩
          have kv2 : Below w.heap.size w v2 := by rw [hv2]; exact below_drewN hbw nq1
          have y1 : v2.cell? ⟨b, o + k * 3 + 1, none⟩ = some (.int .i64 l[k].f) := by rw [hv2]; exact d1
          have y2 : v2.cell? ⟨b, o + k * 3 + 2, none⟩ = some (.int .i64 l[k].t) := by rw [hv2]; exact d2
          have row2 : v2.ownsRow w.heap.size 61 2 (.slice (some ⟨g, 0, none⟩) N c5) N ((a ++ [y]).flatMap Ln.cs) := by rw [hv2]; exact RowV1.out
          have u0 : v2.cell? ⟨g, a.length * 2, none⟩ = some (.int .i64 y.b) := by rw [hv2]; exact z0
          have u1 : v2.cell? ⟨g, a.length * 2 + 1, none⟩ = some (.int .i64 y.r) := by rw [hv2]; exact z1
          have f0 := row2.frozenAt (a.length * 2)
          have f1 := row2.frozenAt (a.length * 2 + 1)
          have Row2 := Lib.hid row2
          have zv2 := kv2.size
          rw [← hv2]
          clear row2 hv2 d0 d1 d2 z0 z1
          have Row3 := Lib.hid (Row2.out.alloc (.cells #[.int .i64 l[k].f, .int .i64 l[k].t] 61))
          have hnew : Rd (v2.alloc (.cells #[.int .i64 l[k].f, .int .i64 l[k].t] 61)) (v2.heap.size + 1) 2 Ln.cs (some ⟨v2.heap.size, 0, none⟩) [⟨l[k].f, l[k].t⟩] := RdL.new_ ⟨l[k].f, l[k].t⟩
          have Hnew := Lib.hid hnew
          clear hnew
          have hq5 : N + [(⟨l[k].f, l[k].t⟩ : Ln)].length ≤ maxLen := by simp only [maxLen, List.length_cons, List.length_nil]; omega
          have hq6 : (N + [(⟨l[k].f, l[k].t⟩ : Ln)].length) * 16 ≤ 140737488355328 := by simp only [List.length_cons, List.length_nil]; omega
          have hq7 : w.heap.size ≤ (v2.alloc (.cells #[.int .i64 l[k].f, .int .i64 l[k].t] 61)).heap.size := by simp; omega
          go_wp2_with fail
          go_region_law (refine step_append_rd _ Ln.cs rfl (.tmp 30) (.tmp 42) 59 rfl w.heap.size 61 i0 (.agg #[.int .i64 0, .int .i64 0]) 2 16 Tryd.underlying59 hi0 hz0 hz1 hz2 rfl Nat.two_pos Ln.cs_len Ln.cs_one (.slice (some ⟨g, 0, none⟩) N c5) N ((a ++ [y]).flatMap Ln.cs) rfl Row3.out (v2.heap.size + 1) (some ⟨v2.heap.size, 0, none⟩) 1 [⟨l[k].f, l[k].t⟩] rfl Hnew.out hq5 hq6 hq7 ?_; intro v3 w3 row3 g3 at3)
          all_goals
            obtain ⟨A6, c6, hv6, row6⟩ := own_slice' (m := (a ++ [y] ++ [(⟨l[k].f, l[k].t⟩ : Ln)]).length) (ys := (a ++ [y] ++ [(⟨l[k].f, l[k].t⟩ : Ln)]).flatMap Ln.cs) row3 (by rw [HN.out]; simp) (by simp only [List.flatMap_append])
            rw [hv6]
            clear hv6 row3
            have k3 := below_app (((kv2.alloc zv2 (.cells #[.int .i64 l[k].f, .int .i64 l[k].t] 61))).drew) Row3.out.drew g3 (Nat.le_refl _) hq7
            go_wp2_with fail
            go_roundw
            case rel => exact ⟨k + 1, a ++ [y] ++ [⟨l[k].f, l[k].t⟩], A6, c6, hlt, by have := HN.out; simp; omega, by simp, by go_num, Hb.out, row6, k3⟩
            case measure => simp [intOf]; omega
    · have Hb := Lib.hid (show busyL l = acc by rw [hb, List.drop_eq_nil_of_le (by omega)]; rfl)
      clear hb
      go_wp2_with fail
      go_ret
      rw [Hb.out]
      exact ⟨A5, c5, rfl, Row.out, hbw⟩
end Go.Proofs.YtkkecnofgmpekaaDoor
