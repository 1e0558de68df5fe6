/- Package fifo's Busy, floodgateref1.BusyTicks: busy ticks of whatever was sent. Condition: the list fits memory. -/
import Derived.Test.YtkkecnofgmpekaaDoorDelays
import Derived.Laws.OwnMore
import Derived.StillTailTactics
import Derived.Deep.RegionLaw
namespace Go.Proofs.YtkkecnofgmpekaaDoor
open Go.RowKit
set_option maxRecDepth 100000
theorem infoTk : (Tryd.prog.info? 61).map (fun i => (i.zero, i.size, i.bytes)) = some (some (.agg #[.int .i64 0, .int .i64 0]), 2, 16) := by kernel_rfl
def bStep (acc : List Ln) (x : Sn) : List Ln := match acc.getLast? with
  | some y => if x.f ≤ y.r then acc.dropLast ++ [⟨y.b, max y.r x.t⟩] else acc ++ [⟨x.f, x.t⟩]
  | none => [⟨x.f, x.t⟩]
def busyL (l : List Sn) : List Ln := l.foldl bStep []
theorem bStep_in (a : List Ln) (y : Ln) (x : Sn) (h : x.f ≤ y.r) : bStep (a ++ [y]) x = a ++ [⟨y.b, max y.r x.t⟩] := by
  unfold bStep
  simp [h]
theorem bStep_out (a : List Ln) (y : Ln) (x : Sn) (h : y.r < x.f) : bStep (a ++ [y]) x = a ++ [y] ++ [⟨x.f, x.t⟩] := by
  unfold bStep
  have : ¬ x.f ≤ y.r := by omega
  simp [this]
theorem tk_set (a : List Ln) (y : Ln) (u : Int) : ((a ++ [y]).flatMap Ln.cs).set (a.length * 2 + 1) (.int .i64 u) = (a ++ [(⟨y.b, u⟩ : Ln)]).flatMap Ln.cs := by
  have e : (a.flatMap Ln.cs).length = a.length * 2 := flat_len Ln.cs 2 Ln.cs_len a
  rw [List.flatMap_append, List.flatMap_append, List.set_append_right _ _ (by omega), e, show a.length * 2 + 1 - a.length * 2 = 1 by omega]
  rfl
theorem tk_set2 (a : List Ln) (y : Ln) (u v : Int) : (((a ++ [y]).flatMap Ln.cs).set (a.length * 2) (.int .i64 u)).set (a.length * 2 + 1) (.int .i64 v) = (a ++ [(⟨u, v⟩ : Ln)]).flatMap Ln.cs := by
  have e : (a.flatMap Ln.cs).length = a.length * 2 := flat_len Ln.cs 2 Ln.cs_len a
  rw [List.flatMap_append, List.flatMap_append, List.set_append_right _ _ (by omega), List.set_append_right _ _ (by omega), e, show a.length * 2 + 1 - a.length * 2 = 1 by omega, show a.length * 2 - a.length * 2 = 0 by omega]
  rfl
theorem tk_get (a : List Ln) (y : Ln) : ((a ++ [y]).flatMap Ln.cs)[a.length * 2]? = some (.int .i64 y.b) ∧ ((a ++ [y]).flatMap Ln.cs)[a.length * 2 + 1]? = some (.int .i64 y.r) := by
  have e : (a.flatMap Ln.cs).length = a.length * 2 := flat_len Ln.cs 2 Ln.cs_len a
  rw [List.flatMap_append, List.getElem?_append_right (by omega), List.getElem?_append_right (by omega), e, show a.length * 2 + 1 - a.length * 2 = 1 by omega, show a.length * 2 - a.length * 2 = 0 by omega]
  exact ⟨rfl, rfl⟩
theorem snoc_or {α : Type} (l : List α) : l = [] ∨ ∃ a y, l = a ++ [y] := by
  rcases List.eq_nil_or_concat l with h | ⟨a, y, h⟩
  · exact .inl h
  · exact .inr ⟨a, y, by rw [h, List.concat_eq_append]⟩
set_option maxHeartbeats 2000000 in
theorem busy_any (A : Option Addr) (c : Nat) (l : List Sn) (w : World) (B : Nat) (hB : B ≤ w.heap.size) (h : RdS w B A l) (hl : l.length ≤ 4294967296) :
    Calls Tryd.prog 38 #[.slice A l.length c] w (EndOwn Ln.cs 2 61 (busyL l) w) := by
  obtain ⟨i0, hi0, hz0, hz1, hz2⟩ := info_parts infoTk
  go_enter Tryd.func38, Tryd.ntmps38
  go_wp2_with fail
  go_loopw [3, 9] (fun v i wr => ∃ (k : Nat) (acc : List Ln) (A5 : Option Addr) (c5 : Nat), k ≤ l.length ∧ acc.length ≤ k ∧ v = .slice A5 acc.length c5 ∧ i = .int .i64 k ∧ busyL l = (l.drop k).foldl bStep acc ∧ wr.ownsRow w.heap.size 61 2 (.slice A5 acc.length c5) acc.length (acc.flatMap Ln.cs) ∧ Below w.heap.size w wr) (fun _ i _ => l.length - (intOf i).toNat)
  case atStart => exact ⟨0, [], none, 0, Nat.zero_le _, Nat.le_refl _, rfl, rfl, rfl, ⟨by simp, .inl ⟨rfl, rfl⟩⟩, Below.refl _ _⟩
  case round =>
    obtain ⟨k, acc, A5, c5, hk, hak, rfl, rfl, hb, row, hbw⟩ := hrel
    have zw := hbw.size
    have Row := Lib.hid row
    by_cases hlt : k < l.length
    · obtain ⟨b, o, rfl, hbb, d0, d1, d2⟩ := RdS.get (h.below (hbw.mono hB)) hlt
      rw [List.drop_eq_getElem_cons hlt, List.foldl_cons] at hb
      obtain ⟨v, hv⟩ : ∃ v : World, v = wr.alloc (.cells #[.int .i64 l[k].p, .int .i64 l[k].f, .int .i64 l[k].t] 34) := ⟨_, rfl⟩
      have kv : Below wr.heap.size wr v := by rw [hv]; exact (Below.refl _ _).alloc (Nat.le_refl _) _
      have kv' := hbw.trans (kv.mono zw)
      have zv := kv'.size
      have bx : Blk v wr.heap.size 34 #[.int .i64 l[k].p, .int .i64 l[k].f, .int .i64 l[k].t] := by rw [hv]; exact Blk.new _ _ _
      have x1 : v.cell? ⟨wr.heap.size, 1, none⟩ = some (.int .i64 l[k].f) := bx.cell 1
      have x2 : v.cell? ⟨wr.heap.size, 2, none⟩ = some (.int .i64 l[k].t) := bx.cell 2
      have rowv : v.ownsRow w.heap.size 61 2 (.slice A5 acc.length c5) acc.length (acc.flatMap Ln.cs) := by rw [hv]; exact row.alloc _
      have Hv := Lib.hid hv
      have RowV := Lib.hid rowv
      have hq3 : acc.length + 1 ≤ maxLen := by simp only [maxLen]; omega
      have hq4 : (acc.length + 1) * 16 ≤ 140737488355328 := by omega
      clear hv row bx
      rcases snoc_or acc with rfl | ⟨a, y, rfl⟩
      · have Hb := Lib.hid hb
        clear hb
        have q1 : ¬ (0 : Int) ≤ ((([] : List Ln).length : Nat) : Int) - 1 := by simp
        have rowv0 : v.ownsRow w.heap.size 61 2 (.slice A5 0 c5) 0 [] := rowv
        have RowV0 := Lib.hid rowv0
        clear rowv rowv0
        go_wp2_with fail
        rw [← Hv.out]
        go_quiet (fail)
        rename_i nq
        obtain ⟨v2, hv2⟩ : ∃ v2 : World, v2 = v.drewN nq := ⟨_, rfl⟩
        have kv2 : Below w.heap.size w v2 := by rw [hv2]; exact below_drewN kv' nq
        have zv2 := kv2.size
        have y1 : v2.cell? ⟨wr.heap.size, 1, none⟩ = some (.int .i64 l[k].f) := by rw [hv2]; exact x1
        have y2 : v2.cell? ⟨wr.heap.size, 2, none⟩ = some (.int .i64 l[k].t) := by rw [hv2]; exact x2
        have row2 : v2.ownsRow w.heap.size 61 2 (.slice A5 0 c5) 0 [] := by rw [hv2]; exact RowV0.out
        have Row2 := Lib.hid row2
        have hq5 : 0 + [(⟨l[k].f, l[k].t⟩ : Ln)].length ≤ maxLen := by simp [maxLen]
        have hq6 : (0 + [(⟨l[k].f, l[k].t⟩ : Ln)].length) * 16 ≤ 140737488355328 := by simp
        have hq7 : w.heap.size ≤ (v2.alloc (.cells #[.int .i64 l[k].f, .int .i64 l[k].t] 61)).heap.size := by simp; omega
        rw [← hv2]
        clear row2 hv2 x1 x2
        go_wp2_with (at_builtin; refine wpList_append_rd _ Ln.cs rfl (.tmp 40) (.tmp 46) 59 rfl w.heap.size 61 i0 (.agg #[.int .i64 0, .int .i64 0]) 2 16 Tryd.underlying59 hi0 hz0 hz1 hz2 rfl (by omega) Ln.cs_len Ln.cs_one (.slice A5 0 c5) 0 [] rfl (Row2.out.alloc _) (v2.heap.size + 1) (some ⟨v2.heap.size, 0, none⟩) 1 [⟨l[k].f, l[k].t⟩] rfl (RdL.new_ ⟨l[k].f, l[k].t⟩) hq5 hq6 hq7 ?_; intro v3 w3 row3 g3 at3; obtain ⟨A6, c6, hv6, row6⟩ := own_slice' (m := 1) (ys := ([⟨l[k].f, l[k].t⟩] : List Ln).flatMap Ln.cs) row3 rfl rfl; rw [hv6]; clear hv6)
        have k3 : Below w.heap.size w w3 := below_app (kv2.alloc zv2 _) (Row2.out.alloc _) g3 (Nat.le_refl _) hq7
        clear row3 at3
        go_roundw
        case rel => exact ⟨k + 1, [⟨l[k].f, l[k].t⟩], A6, c6, hlt, by simp, rfl, by go_num, Hb.out, row6, k3⟩
        case measure => simp [intOf]; omega
      · have hlen : (a ++ [y]).length = a.length + 1 := by simp
        obtain ⟨N, hN⟩ : ∃ N, N = a.length + 1 := ⟨_, rfl⟩
        rw [← hN] at hlen
        rw [hlen] at hak hq3 hq4
        rw [hlen]
        have RowV1 := Lib.hid (show v.ownsRow w.heap.size 61 2 (.slice A5 N c5) N ((a ++ [y]).flatMap Ln.cs) by have := RowV.out; rw [hlen] at this; exact this)
        obtain ⟨g, cap, hv5, hg0, hg⟩ := RowV1.out.form (by omega)
        cases hv5
        obtain ⟨t1, t2⟩ := tk_get a y
        have z0 : v.cell? ⟨g, a.length * 2, none⟩ = some (.int .i64 y.b) := (RowV1.out.cellAt _ (by omega)).trans t1
        have z1 : v.cell? ⟨g, a.length * 2 + 1, none⟩ = some (.int .i64 y.r) := (RowV1.out.cellAt _ (by omega)).trans t2
        have q3 : (0 : Int) ≤ (N : Int) - 1 := by omega
        have q4 : (N : Int) - 1 = (a.length : Int) := by omega
        have q5 : (0 : Int) ≤ (a.length : Int) := by omega
        have q6 : (a.length : Int) < (N : Int) := by omega
        have HN := Lib.hid hN
        clear rowv t1 t2 hlen hN
        by_cases hin : l[k].f ≤ y.r
        · have Hb := Lib.hid (show busyL l = (l.drop (k + 1)).foldl bStep (a ++ [⟨y.b, max y.r l[k].t⟩]) by rw [hb, bStep_in a y _ hin])
          clear hb
          go_wp2_with fail
          rw [← Hv.out]
          go_quiet (fail)
          rename_i nq
          obtain ⟨v2, hv2⟩ : ∃ v2 : World, v2 = v.drewN nq := ⟨_, rfl⟩
          have kv2 : Below w.heap.size w v2 := by rw [hv2]; exact below_drewN kv' nq
          have zv2 := kv2.size
          have y1 : v2.cell? ⟨wr.heap.size, 1, none⟩ = some (.int .i64 l[k].f) := by rw [hv2]; exact x1
          have y2 : v2.cell? ⟨wr.heap.size, 2, none⟩ = some (.int .i64 l[k].t) := by rw [hv2]; exact x2
          have row2 : v2.ownsRow w.heap.size 61 2 (.slice (some ⟨g, 0, none⟩) N c5) N ((a ++ [y]).flatMap Ln.cs) := by rw [hv2]; exact RowV1.out
          have Row2 := Lib.hid row2
          have z2 : v2.cell? ⟨g, a.length * 2 + 1, none⟩ = some (.int .i64 y.r) := by rw [hv2]; exact z1
          have f2 := row2.frozenAt (a.length * 2 + 1)
          rw [← hv2]
          clear row2 hv2 x1 x2 z0 z1
          go_wp2_with fail
          go_still_tail 12, (by kernel_rfl)
          go_wp2_with fail
          have row6 : (v2.setCell ⟨g, a.length * 2 + 1, none⟩ (.int .i64 (max y.r l[k].t))).drew.ownsRow w.heap.size 61 2 (.slice (some ⟨g, 0, none⟩) (a ++ [(⟨y.b, max y.r l[k].t⟩ : Ln)]).length c5) (a ++ [(⟨y.b, max y.r l[k].t⟩ : Ln)]).length ((a ++ [(⟨y.b, max y.r l[k].t⟩ : Ln)]).flatMap Ln.cs) := by
            have := ((show v2.ownsRow w.heap.size 61 2 (.slice (some ⟨g, 0, none⟩) N c5) N ((a ++ [y]).flatMap Ln.cs) from Row2.out).stored (a.length * 2 + 1) (.int .i64 (max y.r l[k].t))).1
            rw [tk_set] at this
            have eN : (a ++ [(⟨y.b, max y.r l[k].t⟩ : Ln)]).length = N := by rw [HN.out]; simp
            rw [eN]
            exact this
          go_roundw
          case rel => exact ⟨k + 1, a ++ [⟨y.b, max y.r l[k].t⟩], some ⟨g, 0, none⟩, c5, hlt, by have := HN.out; simp; omega, by rw [HN.out]; simp, by go_num, Hb.out, row6, (kv2.setCell (p := ⟨g, a.length * 2 + 1, none⟩) hg0 _).drew⟩
          case measure => simp [intOf]; omega
        · have hout : y.r < l[k].f := by omega
          have Hb := Lib.hid (show busyL l = (l.drop (k + 1)).foldl bStep (a ++ [y] ++ [⟨l[k].f, l[k].t⟩]) by rw [hb, bStep_out a y _ hout])
          clear hb hin
          go_wp2_with fail
          rw [← Hv.out]
          go_quiet (fail)
          rename_i nq
          obtain ⟨v2, hv2⟩ : ∃ v2 : World, v2 = v.drewN nq := ⟨_, rfl⟩
          have kv2 : Below w.heap.size w v2 := by rw [hv2]; exact below_drewN kv' nq
          have zv2 := kv2.size
          have y1 : v2.cell? ⟨wr.heap.size, 1, none⟩ = some (.int .i64 l[k].f) := by rw [hv2]; exact x1
          have y2 : v2.cell? ⟨wr.heap.size, 2, none⟩ = some (.int .i64 l[k].t) := by rw [hv2]; exact x2
          have row2 : v2.ownsRow w.heap.size 61 2 (.slice (some ⟨g, 0, none⟩) N c5) N ((a ++ [y]).flatMap Ln.cs) := by rw [hv2]; exact RowV1.out
          have Row2 := Lib.hid row2
          have z2 : v2.cell? ⟨g, a.length * 2 + 1, none⟩ = some (.int .i64 y.r) := by rw [hv2]; exact z1
          have f2 := row2.frozenAt (a.length * 2 + 1)
          rw [← hv2]
          clear row2 hv2 x1 x2 z0 z1
          have hq5 : N + [(⟨l[k].f, l[k].t⟩ : Ln)].length ≤ maxLen := by simp only [maxLen, List.length_cons, List.length_nil]; have := HN.out; omega
          have hq6 : (N + [(⟨l[k].f, l[k].t⟩ : Ln)].length) * 16 ≤ 140737488355328 := by simp only [List.length_cons, List.length_nil]; have := HN.out; omega
          have hq7 : w.heap.size ≤ (v2.alloc (.cells #[.int .i64 l[k].f, .int .i64 l[k].t] 61)).heap.size := by simp; omega
          go_wp2_with (at_builtin; refine wpList_append_rd _ Ln.cs rfl (.tmp 40) (.tmp 46) 59 rfl w.heap.size 61 i0 (.agg #[.int .i64 0, .int .i64 0]) 2 16 Tryd.underlying59 hi0 hz0 hz1 hz2 rfl (by omega) Ln.cs_len Ln.cs_one (.slice (some ⟨g, 0, none⟩) N c5) N ((a ++ [y]).flatMap Ln.cs) rfl (Row2.out.alloc _) (v2.heap.size + 1) (some ⟨v2.heap.size, 0, none⟩) 1 [⟨l[k].f, l[k].t⟩] rfl (RdL.new_ ⟨l[k].f, l[k].t⟩) hq5 hq6 hq7 ?_; intro v3 w3 row3 g3 at3; obtain ⟨A6, c6, hv6, row6⟩ := own_slice' (m := (a ++ [y] ++ [(⟨l[k].f, l[k].t⟩ : Ln)]).length) (ys := (a ++ [y] ++ [(⟨l[k].f, l[k].t⟩ : Ln)]).flatMap Ln.cs) row3 (by rw [HN.out]; simp) (by simp only [List.flatMap_append]); rw [hv6]; clear hv6)
          have k3 : Below w.heap.size w w3 := below_app (kv2.alloc zv2 _) (Row2.out.alloc _) g3 (Nat.le_refl _) hq7
          clear row3 at3
          go_roundw
          case rel => exact ⟨k + 1, a ++ [y] ++ [⟨l[k].f, l[k].t⟩], A6, c6, hlt, by have := HN.out; simp; omega, by simp, by go_num, Hb.out, row6, k3⟩
          case measure => simp [intOf]; omega
    · have Hb := Lib.hid (show busyL l = acc by rw [hb, List.drop_eq_nil_of_le (by omega)]; rfl)
      clear hb
      go_wp2_with fail
      go_ret
      rw [Hb.out]
      exact ⟨A5, c5, rfl, Row.out, hbw⟩
end Go.Proofs.YtkkecnofgmpekaaDoor
