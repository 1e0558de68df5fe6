/- Package fifo's Busy, floodgateref1.BusyTicks: busy ticks of whatever was sent. Condition: the list fits memory. KLEINROCK, plainly: whatever the picker, a link is busy at the same ticks. No program in sight. -/
import Derived.Test.YthgpbdlmadjndaaDoorMiscM
import Derived.Laws.OwnMore
import Derived.StillTailTactics
import Derived.Lib.MinMax
import Derived.Deep.RegionLaw
import Derived.Test.YthgpbdlmadjndaaDoorFifoM2
namespace Go.Proofs.YthgpbdlmadjndaaDoor
open Go.RowKit
set_option maxRecDepth 100000
theorem infoTk : (Tryd.prog.info? 74).map (fun i => (i.zero, i.size, i.bytes)) = some (some (.agg #[.int .i64 0, .int .i64 0]), 2, 16) := by kernel_rfl
def bStep (acc : List Ln) (x : Sn) : List Ln := match acc.getLast? with
  | some y => if x.f ≤ y.r then acc.dropLast ++ [⟨y.b, max y.r x.t⟩] else acc ++ [⟨x.f, x.t⟩]
  | none => [⟨x.f, x.t⟩]
def busyL (l : List Sn) : List Ln := l.foldl bStep []
theorem bStep_in (a : List Ln) (y : Ln) (x : Sn) (h : x.f ≤ y.r) : bStep (a ++ [y]) x = a ++ [⟨y.b, max y.r x.t⟩] := by
  unfold bStep
  simp [h]
theorem bStep_out (a : List Ln) (y : Ln) (x : Sn) (h : y.r < x.f) : bStep (a ++ [y]) x = a ++ [y] ++ [⟨x.f, x.t⟩] := by
  unfold bStep
  have : ¬ x.f ≤ y.r := by omega
  simp [this]
theorem tk_set (a : List Ln) (y : Ln) (u : Int) : ((a ++ [y]).flatMap Ln.cs).set (a.length * 2 + 1) (.int .i64 u) = (a ++ [(⟨y.b, u⟩ : Ln)]).flatMap Ln.cs := by
  have e : (a.flatMap Ln.cs).length = a.length * 2 := flat_len Ln.cs 2 Ln.cs_len a
  rw [List.flatMap_append, List.flatMap_append, List.set_append_right _ _ (by omega), e, show a.length * 2 + 1 - a.length * 2 = 1 by omega]
  rfl
theorem tk_set2 (a : List Ln) (y : Ln) (u v : Int) : (((a ++ [y]).flatMap Ln.cs).set (a.length * 2) (.int .i64 u)).set (a.length * 2 + 1) (.int .i64 v) = (a ++ [(⟨u, v⟩ : Ln)]).flatMap Ln.cs := by
  have e : (a.flatMap Ln.cs).length = a.length * 2 := flat_len Ln.cs 2 Ln.cs_len a
  rw [List.flatMap_append, List.flatMap_append, List.set_append_right _ _ (by omega), List.set_append_right _ _ (by omega), e, show a.length * 2 + 1 - a.length * 2 = 1 by omega, show a.length * 2 - a.length * 2 = 0 by omega]
  rfl
theorem tk_get (a : List Ln) (y : Ln) : ((a ++ [y]).flatMap Ln.cs)[a.length * 2]? = some (.int .i64 y.b) ∧ ((a ++ [y]).flatMap Ln.cs)[a.length * 2 + 1]? = some (.int .i64 y.r) := by
  have e : (a.flatMap Ln.cs).length = a.length * 2 := flat_len Ln.cs 2 Ln.cs_len a
  rw [List.flatMap_append, List.getElem?_append_right (by omega), List.getElem?_append_right (by omega), e, show a.length * 2 + 1 - a.length * 2 = 1 by omega, show a.length * 2 - a.length * 2 = 0 by omega]
  exact ⟨rfl, rfl⟩
theorem snoc_or {α : Type} (l : List α) : l = [] ∨ ∃ a y, l = a ++ [y] := by
  rcases List.eq_nil_or_concat l with h | ⟨a, y, h⟩
  · exact .inl h
  · exact .inr ⟨a, y, by rw [h, List.concat_eq_append]⟩
set_option maxHeartbeats 2000000 in
theorem busy_any (A : Option Addr) (c : Nat) (l : List Sn) (w : World) (B : Nat) (hB : B ≤ w.heap.size) (h : RdS w B A l) (hl : l.length ≤ 4294967296) :
    Calls Tryd.prog 36 #[.slice A l.length c] w (EndOwn Ln.cs 2 74 (busyL l) w) := by
  obtain ⟨i0, hi0, hz0, hz1, hz2⟩ := info_parts infoTk
  go_enter Tryd.func36, Tryd.ntmps36
  go_wp2_with fail
  go_loopw [3, 9] (fun v i wr => ∃ (k : Nat) (acc : List Ln) (A5 : Option Addr) (c5 : Nat), k ≤ l.length ∧ acc.length ≤ k ∧ v = .slice A5 acc.length c5 ∧ i = .int .i64 k ∧ busyL l = (l.drop k).foldl bStep acc ∧ wr.ownsRow w.heap.size 74 2 (.slice A5 acc.length c5) acc.length (acc.flatMap Ln.cs) ∧ Below w.heap.size w wr) (fun _ i _ => l.length - (intOf i).toNat)
  case atStart => exact ⟨0, [], none, 0, Nat.zero_le _, Nat.le_refl _, rfl, rfl, rfl, ⟨by simp, .inl ⟨rfl, rfl⟩⟩, Below.refl _ _⟩
  case round =>
    obtain ⟨k, acc, A5, c5, hk, hak, rfl, rfl, hb, row, hbw⟩ := hrel
    have zw := hbw.size
    have Row := Lib.hid row
    by_cases hlt : k < l.length
    · obtain ⟨b, o, rfl, hbb, d0, d1, d2⟩ := RdS.get (h.below (hbw.mono hB)) hlt
      rw [List.drop_eq_getElem_cons hlt, List.foldl_cons] at hb
      obtain ⟨v, hv⟩ : ∃ v : World, v = wr.alloc (.cells #[.int .i64 l[k].p, .int .i64 l[k].f, .int .i64 l[k].t] 44) := ⟨_, rfl⟩
      have kv : Below wr.heap.size wr v := by rw [hv]; exact (Below.refl _ _).alloc (Nat.le_refl _) _
      have kv' := hbw.trans (kv.mono zw)
      have zv := kv'.size
      have bx : Blk v wr.heap.size 44 #[.int .i64 l[k].p, .int .i64 l[k].f, .int .i64 l[k].t] := by rw [hv]; exact Blk.new _ _ _
      have x1 : v.cell? ⟨wr.heap.size, 1, none⟩ = some (.int .i64 l[k].f) := bx.cell 1
      have x2 : v.cell? ⟨wr.heap.size, 2, none⟩ = some (.int .i64 l[k].t) := bx.cell 2
      have rowv : v.ownsRow w.heap.size 74 2 (.slice A5 acc.length c5) acc.length (acc.flatMap Ln.cs) := by rw [hv]; exact row.alloc _
      have Hv := Lib.hid hv
      have RowV := Lib.hid rowv
      have hq3 : acc.length + 1 ≤ maxLen := by simp only [maxLen]; omega
      have hq4 : (acc.length + 1) * 16 ≤ 140737488355328 := by omega
      clear hv row bx
      rcases snoc_or acc with rfl | ⟨a, y, rfl⟩
      · have Hb := Lib.hid hb
        clear hb
        have q1 : ¬ (0 : Int) ≤ ((([] : List Ln).length : Nat) : Int) - 1 := by simp
        have rowv0 : v.ownsRow w.heap.size 74 2 (.slice A5 0 c5) 0 [] := rowv
        have RowV0 := Lib.hid rowv0
        clear rowv rowv0
        go_wp2_with fail
        rw [← Hv.out]
        go_quiet (fail)
        rename_i nq
        obtain ⟨v2, hv2⟩ : ∃ v2 : World, v2 = v.drewN nq := ⟨_, rfl⟩
        have kv2 : Below w.heap.size w v2 := by rw [hv2]; exact below_drewN kv' nq
        have zv2 := kv2.size
        have y1 : v2.cell? ⟨wr.heap.size, 1, none⟩ = some (.int .i64 l[k].f) := by rw [hv2]; exact x1
        have y2 : v2.cell? ⟨wr.heap.size, 2, none⟩ = some (.int .i64 l[k].t) := by rw [hv2]; exact x2
        have row2 : v2.ownsRow w.heap.size 74 2 (.slice A5 0 c5) 0 [] := by rw [hv2]; exact RowV0.out
        have Row2 := Lib.hid row2
        have hq5 : 0 + [(⟨l[k].f, l[k].t⟩ : Ln)].length ≤ maxLen := by simp [maxLen]
        have hq6 : (0 + [(⟨l[k].f, l[k].t⟩ : Ln)].length) * 16 ≤ 140737488355328 := by simp
        have hq7 : w.heap.size ≤ (v2.alloc (.cells #[.int .i64 l[k].f, .int .i64 l[k].t] 74)).heap.size := by simp; omega
        rw [← hv2]
        clear row2 hv2 x1 x2
        go_wp2_with (at_builtin; refine wpList_append_rd _ Ln.cs rfl (.tmp 40) (.tmp 46) 71 rfl w.heap.size 74 i0 (.agg #[.int .i64 0, .int .i64 0]) 2 16 Tryd.underlying71 hi0 hz0 hz1 hz2 rfl (by omega) Ln.cs_len Ln.cs_one (.slice A5 0 c5) 0 [] rfl (Row2.out.alloc _) (v2.heap.size + 1) (some ⟨v2.heap.size, 0, none⟩) 1 [⟨l[k].f, l[k].t⟩] rfl (RdL.new_ ⟨l[k].f, l[k].t⟩) hq5 hq6 hq7 ?_; intro v3 w3 row3 g3 at3; obtain ⟨A6, c6, hv6, row6⟩ := own_slice' (m := 1) (ys := ([⟨l[k].f, l[k].t⟩] : List Ln).flatMap Ln.cs) row3 rfl rfl; rw [hv6]; clear hv6)
        have k3 : Below w.heap.size w w3 := below_app (kv2.alloc zv2 _) (Row2.out.alloc _) g3 (Nat.le_refl _) hq7
        clear row3 at3
        go_roundw
        case rel => exact ⟨k + 1, [⟨l[k].f, l[k].t⟩], A6, c6, hlt, by simp, rfl, by go_num, Hb.out, row6, k3⟩
        case measure => simp [intOf]; omega
      · have hlen : (a ++ [y]).length = a.length + 1 := by simp
        obtain ⟨N, hN⟩ : ∃ N, N = a.length + 1 := ⟨_, rfl⟩
        rw [← hN] at hlen
        rw [hlen] at hak hq3 hq4
        rw [hlen]
        have RowV1 := Lib.hid (show v.ownsRow w.heap.size 74 2 (.slice A5 N c5) N ((a ++ [y]).flatMap Ln.cs) by have := RowV.out; rw [hlen] at this; exact this)
        obtain ⟨g, cap, hv5, hg0, hg⟩ := RowV1.out.form (by omega)
        cases hv5
        obtain ⟨t1, t2⟩ := tk_get a y
        have z0 : v.cell? ⟨g, a.length * 2, none⟩ = some (.int .i64 y.b) := (RowV1.out.cellAt _ (by omega)).trans t1
        have z1 : v.cell? ⟨g, a.length * 2 + 1, none⟩ = some (.int .i64 y.r) := (RowV1.out.cellAt _ (by omega)).trans t2
        have q3 : (0 : Int) ≤ (N : Int) - 1 := by omega
        have q4 : (N : Int) - 1 = (a.length : Int) := by omega
        have q5 : (0 : Int) ≤ (a.length : Int) := by omega
        have q6 : (a.length : Int) < (N : Int) := by omega
        have HN := Lib.hid hN
        clear rowv t1 t2 hlen hN
        by_cases hin : l[k].f ≤ y.r
        · have Hb := Lib.hid (show busyL l = (l.drop (k + 1)).foldl bStep (a ++ [⟨y.b, max y.r l[k].t⟩]) by rw [hb, bStep_in a y _ hin])
          clear hb
          go_wp2_with fail
          rw [← Hv.out]
          go_quiet (fail)
          rename_i nq
          obtain ⟨v2, hv2⟩ : ∃ v2 : World, v2 = v.drewN nq := ⟨_, rfl⟩
          have kv2 : Below w.heap.size w v2 := by rw [hv2]; exact below_drewN kv' nq
          have zv2 := kv2.size
          have y1 : v2.cell? ⟨wr.heap.size, 1, none⟩ = some (.int .i64 l[k].f) := by rw [hv2]; exact x1
          have y2 : v2.cell? ⟨wr.heap.size, 2, none⟩ = some (.int .i64 l[k].t) := by rw [hv2]; exact x2
          have row2 : v2.ownsRow w.heap.size 74 2 (.slice (some ⟨g, 0, none⟩) N c5) N ((a ++ [y]).flatMap Ln.cs) := by rw [hv2]; exact RowV1.out
          have Row2 := Lib.hid row2
          have z2 : v2.cell? ⟨g, a.length * 2 + 1, none⟩ = some (.int .i64 y.r) := by rw [hv2]; exact z1
          have f2 := row2.frozenAt (a.length * 2 + 1)
          rw [← hv2]
          clear row2 hv2 x1 x2 z0 z1
          go_wp2_with fail
          go_still_tail 12, (by kernel_rfl)
          go_wp2_with fail
          have row6 : (v2.setCell ⟨g, a.length * 2 + 1, none⟩ (.int .i64 (max y.r l[k].t))).drew.ownsRow w.heap.size 74 2 (.slice (some ⟨g, 0, none⟩) (a ++ [(⟨y.b, max y.r l[k].t⟩ : Ln)]).length c5) (a ++ [(⟨y.b, max y.r l[k].t⟩ : Ln)]).length ((a ++ [(⟨y.b, max y.r l[k].t⟩ : Ln)]).flatMap Ln.cs) := by
            have := ((show v2.ownsRow w.heap.size 74 2 (.slice (some ⟨g, 0, none⟩) N c5) N ((a ++ [y]).flatMap Ln.cs) from Row2.out).stored (a.length * 2 + 1) (.int .i64 (max y.r l[k].t))).1
            rw [tk_set] at this
            have eN : (a ++ [(⟨y.b, max y.r l[k].t⟩ : Ln)]).length = N := by rw [HN.out]; simp
            rw [eN]
            exact this
          go_roundw
          case rel => exact ⟨k + 1, a ++ [⟨y.b, max y.r l[k].t⟩], some ⟨g, 0, none⟩, c5, hlt, by have := HN.out; simp; omega, by rw [HN.out]; simp, by go_num, Hb.out, row6, (kv2.setCell (p := ⟨g, a.length * 2 + 1, none⟩) hg0 _).drew⟩
          case measure => simp [intOf]; omega
        · have hout : y.r < l[k].f := by omega
          have Hb := Lib.hid (show busyL l = (l.drop (k + 1)).foldl bStep (a ++ [y] ++ [⟨l[k].f, l[k].t⟩]) by rw [hb, bStep_out a y _ hout])
          clear hb hin
          go_wp2_with fail
          rw [← Hv.out]
          go_quiet (fail)
          rename_i nq
          obtain ⟨v2, hv2⟩ : ∃ v2 : World, v2 = v.drewN nq := ⟨_, rfl⟩
          have kv2 : Below w.heap.size w v2 := by rw [hv2]; exact below_drewN kv' nq
          have zv2 := kv2.size
          have y1 : v2.cell? ⟨wr.heap.size, 1, none⟩ = some (.int .i64 l[k].f) := by rw [hv2]; exact x1
          have y2 : v2.cell? ⟨wr.heap.size, 2, none⟩ = some (.int .i64 l[k].t) := by rw [hv2]; exact x2
          have row2 : v2.ownsRow w.heap.size 74 2 (.slice (some ⟨g, 0, none⟩) N c5) N ((a ++ [y]).flatMap Ln.cs) := by rw [hv2]; exact RowV1.out
          have Row2 := Lib.hid row2
          have z2 : v2.cell? ⟨g, a.length * 2 + 1, none⟩ = some (.int .i64 y.r) := by rw [hv2]; exact z1
          have f2 := row2.frozenAt (a.length * 2 + 1)
          rw [← hv2]
          clear row2 hv2 x1 x2 z0 z1
          have hq5 : N + [(⟨l[k].f, l[k].t⟩ : Ln)].length ≤ maxLen := by simp only [maxLen, List.length_cons, List.length_nil]; have := HN.out; omega
          have hq6 : (N + [(⟨l[k].f, l[k].t⟩ : Ln)].length) * 16 ≤ 140737488355328 := by simp only [List.length_cons, List.length_nil]; have := HN.out; omega
          have hq7 : w.heap.size ≤ (v2.alloc (.cells #[.int .i64 l[k].f, .int .i64 l[k].t] 74)).heap.size := by simp; omega
          go_wp2_with (at_builtin; refine wpList_append_rd _ Ln.cs rfl (.tmp 40) (.tmp 46) 71 rfl w.heap.size 74 i0 (.agg #[.int .i64 0, .int .i64 0]) 2 16 Tryd.underlying71 hi0 hz0 hz1 hz2 rfl (by omega) Ln.cs_len Ln.cs_one (.slice (some ⟨g, 0, none⟩) N c5) N ((a ++ [y]).flatMap Ln.cs) rfl (Row2.out.alloc _) (v2.heap.size + 1) (some ⟨v2.heap.size, 0, none⟩) 1 [⟨l[k].f, l[k].t⟩] rfl (RdL.new_ ⟨l[k].f, l[k].t⟩) hq5 hq6 hq7 ?_; intro v3 w3 row3 g3 at3; obtain ⟨A6, c6, hv6, row6⟩ := own_slice' (m := (a ++ [y] ++ [(⟨l[k].f, l[k].t⟩ : Ln)]).length) (ys := (a ++ [y] ++ [(⟨l[k].f, l[k].t⟩ : Ln)]).flatMap Ln.cs) row3 (by rw [HN.out]; simp) (by simp only [List.flatMap_append]); rw [hv6]; clear hv6)
          have k3 : Below w.heap.size w w3 := below_app (kv2.alloc zv2 _) (Row2.out.alloc _) g3 (Nat.le_refl _) hq7
          clear row3 at3
          go_roundw
          case rel => exact ⟨k + 1, a ++ [y] ++ [⟨l[k].f, l[k].t⟩], A6, c6, hlt, by have := HN.out; simp; omega, by simp, by go_num, Hb.out, row6, k3⟩
          case measure => simp [intOf]; omega
    · have Hb := Lib.hid (show busyL l = acc by rw [hb, List.drop_eq_nil_of_le (by omega)]; rfl)
      clear hb
      go_wp2_with fail
      go_ret
      rw [Hb.out]
      exact ⟨A5, c5, rfl, Row.out, hbw⟩
end Go.Proofs.YthgpbdlmadjndaaDoor
namespace Go.Proofs.YthgpbdlmadjndaaDoor
/-- Busy ticks by what comes. -/
def kStep (per : Int) (acc : List Ln) (x : Pk) : List Ln := match acc.getLast? with
  | some y => if x.a ≤ y.r then acc.dropLast ++ [⟨y.b, y.r + per * x.s⟩] else acc ++ [⟨x.a, x.a + per * x.s⟩]
  | none => [⟨x.a, x.a + per * x.s⟩]
def kL (per : Int) (p : List Pk) : List Ln := p.foldl (kStep per) []
theorem kStep_in {per : Int} (C : List Ln) (b e : Int) (x : Pk) (h : x.a ≤ e) : kStep per (C ++ [⟨b, e⟩]) x = C ++ [⟨b, e + per * x.s⟩] := by
  unfold kStep
  simp [h]
theorem kStep_out {per : Int} (K : List Ln) (x : Pk) (h : K = [] ∨ ∃ C y, K = C ++ [y] ∧ y.r < x.a) : kStep per K x = K ++ [⟨x.a, x.a + per * x.s⟩] := by
  rcases h with rfl | ⟨C, y, rfl, h⟩
  · rfl
  · unfold kStep
    have : ¬ x.a ≤ y.r := by omega
    simp [this]
theorem kL_succ {per : Int} {p : List Pk} {k : Nat} (h : k < p.length) : kL per (p.take (k + 1)) = kStep per (kL per (p.take k)) p[k] := by
  unfold kL
  rw [List.take_succ_eq_append_getElem h, List.foldl_append]
  rfl
/-- The time of those that wait. -/
def sumW (per : Int) (p : List Pk) : List Nat → Int
  | [] => 0
  | k :: r => per * sOf p k + sumW per p r
theorem sumW_perm {per : Int} {p : List Pk} {l l' : List Nat} (h : l.Perm l') : sumW per p l = sumW per p l' := by
  induction h with
  | nil => rfl
  | cons x _ ih => unfold sumW; rw [ih]
  | swap x y l => unfold sumW; unfold sumW; omega
  | trans _ _ i1 i2 => exact i1.trans i2
theorem sumW_nn {per : Int} {p : List Pk} (h0 : 1 ≤ per) (hp : ∀ x ∈ p, okPk x) : ∀ l : List Nat, 0 ≤ sumW per p l
  | [] => Int.le_refl _
  | k :: r => by
    have ih := sumW_nn h0 hp r
    have hs : 0 ≤ sOf p k := by
      by_cases hk : k < p.length
      · rw [sOf_of hk]; have := (hp _ (List.getElem_mem hk)).2.2.1; omega
      · unfold sOf; simp [List.getD, List.getElem?_eq_none (show p.length ≤ k by omega)]
    have := Int.mul_nonneg (show 0 ≤ per by omega) hs
    unfold sumW
    omega
theorem comeL_busy {σ : Type} {M : Pol σ} {p : List Pk} {per : Int} (hM : PolOk M p.length) (hp : ∀ x ∈ p, okPk x) (h0 : 1 ≤ per) {out : List Sn} (now b : Int) (C : List Ln) (r : List Pk) (k : Nat) (s : σ) (hr : p.drop k = r) (h : InvC M p out k s)
    (hk : kL per (p.take k) = C ++ [⟨b, now + sumW per p (M.wait s)⟩]) : kL per (p.take (comeL M now r k s).1) = C ++ [⟨b, now + sumW per p (M.wait (comeL M now r k s).2)⟩] := by
  induction r generalizing k s with
  | nil => exact hk
  | cons x r ih =>
    have hkl : k < p.length := by
      have := congrArg List.length hr
      simp at this
      omega
    have hd := List.drop_eq_getElem_cons hkl
    rw [hr] at hd
    injection hd with hx hr'
    unfold comeL
    by_cases hc : x.a ≤ now
    · rw [if_pos hc]
      refine ih (k + 1) (M.come s k) hr'.symm (h.come hM hkl) ?_
      have hn := sumW_nn h0 hp (M.wait s)
      rw [kL_succ hkl, hk, ← hx, kStep_in C b _ x (by omega), sumW_perm (hM.w_come s k h.ok hkl), show sumW per p (k :: M.wait s) = per * sOf p k + sumW per p (M.wait s) from rfl, sOf_of hkl, ← hx]
      congr 3
      omega
    · rw [if_neg hc]
      exact hk
theorem comeL_idle {σ : Type} {M : Pol σ} {p : List Pk} {per : Int} (hM : PolOk M p.length) (hp : ∀ x ∈ p, okPk x) (h0 : 1 ≤ per) {out : List Sn} (now : Int) (k : Nat) (s : σ) (h : InvC M p out k s) (hw : M.wait s = []) (hK : kL per (p.take k) = [] ∨ ∃ C y, kL per (p.take k) = C ++ [y] ∧ y.r < now) (ha : ∀ j, k ≤ j → j < p.length → now ≤ aOf p j) :
    ((comeL M now (p.drop k) k s).1 = k ∧ (comeL M now (p.drop k) k s).2 = s) ∨ k < (comeL M now (p.drop k) k s).1 ∧ kL per (p.take (comeL M now (p.drop k) k s).1) = kL per (p.take k) ++ [⟨now, now + sumW per p (M.wait (comeL M now (p.drop k) k s).2)⟩] := by
  by_cases hkl : k < p.length
  · rw [List.drop_eq_getElem_cons hkl]
    unfold comeL
    by_cases hc : p[k].a ≤ now
    · right
      rw [if_pos hc]
      have hge := ha k (Nat.le_refl _) hkl
      rw [aOf_of hkl] at hge
      have he : p[k].a = now := by omega
      refine ⟨comeL_ge M now _ (k + 1) _, comeL_busy hM hp h0 now now (kL per (p.take k)) _ (k + 1) (M.come s k) rfl (h.come hM hkl) ?_⟩
      rw [kL_succ hkl, kStep_out _ _ (by rw [he]; exact hK), sumW_perm (hM.w_come s k h.ok hkl), hw, he, show sumW per p [k] = per * sOf p k + 0 from rfl, sOf_of hkl]
      congr 3
      omega
    · left
      rw [if_neg hc]
      exact ⟨rfl, rfl⟩
  · left
    rw [List.drop_eq_nil_of_le (by omega)]
    exact ⟨rfl, rfl⟩
/-- What holds at each round's head. -/
def KJ {σ : Type} (M : Pol σ) (p : List Pk) (per : Int) (t : St σ) : Prop :=
  (M.wait t.s = [] ∧ busyL t.out = kL per (p.take t.next) ∧ (kL per (p.take t.next) = [] ∨ ∃ C y, kL per (p.take t.next) = C ++ [y] ∧ y.r < t.now) ∧ ∀ j, t.next ≤ j → j < p.length → t.now ≤ aOf p j) ∨
  ∃ C b, busyL t.out = C ++ [⟨b, t.now⟩] ∧ kL per (p.take t.next) = C ++ [⟨b, t.now + sumW per p (M.wait t.s)⟩]
theorem busyL_snoc (l : List Sn) (x : Sn) : busyL (l ++ [x]) = bStep (busyL l) x := by
  unfold busyL
  rw [List.foldl_append]
  rfl
theorem kj_step {σ : Type} {M : Pol σ} {p : List Pk} {per : Int} (hM : PolOk M p.length) (hp : ∀ x ∈ p, okPk x) (hs : ∀ i j, i ≤ j → j < p.length → aOf p i ≤ aOf p j) (h0 : 1 ≤ per) (t : St σ) (h : Inv M p t) (hlt : t.out.length < p.length) (hj : KJ M p per t) : KJ M p per (stepS M p per t) := by
  obtain ⟨hc, hlt2⟩ := comeL_inv hM t.now (p.drop t.next) t.next t.s rfl h.toC
  have hcome : ((comeL M t.now (p.drop t.next) t.next t.s).1 = t.next ∧ (comeL M t.now (p.drop t.next) t.next t.s).2 = t.s ∧ M.wait t.s = [] ∧ busyL t.out = kL per (p.take t.next) ∧ (kL per (p.take t.next) = [] ∨ ∃ C y, kL per (p.take t.next) = C ++ [y] ∧ y.r < t.now)) ∨
      (∃ K, busyL t.out = K ∧ (K = [] ∨ ∃ C y, K = C ++ [y] ∧ y.r < t.now) ∧ M.wait t.s = [] ∧ t.next < (comeL M t.now (p.drop t.next) t.next t.s).1 ∧ kL per (p.take (comeL M t.now (p.drop t.next) t.next t.s).1) = K ++ [⟨t.now, t.now + sumW per p (M.wait (comeL M t.now (p.drop t.next) t.next t.s).2)⟩]) ∨
      ∃ C b, busyL t.out = C ++ [⟨b, t.now⟩] ∧ kL per (p.take (comeL M t.now (p.drop t.next) t.next t.s).1) = C ++ [⟨b, t.now + sumW per p (M.wait (comeL M t.now (p.drop t.next) t.next t.s).2)⟩] := by
    rcases hj with ⟨j1, j2, j3, j4⟩ | ⟨C, b, j1, j2⟩
    · rcases comeL_idle hM hp h0 t.now t.next t.s h.toC j1 j3 j4 with ⟨e1, e2⟩ | ⟨e0, e⟩
      · exact .inl ⟨e1, e2, j1, j2, j3⟩
      · exact .inr (.inl ⟨_, j2, j3, j1, e0, e⟩)
    · exact .inr (.inr ⟨C, b, j1, comeL_busy hM hp h0 t.now b C _ t.next t.s rfl h.toC j2⟩)
  have hcn := h.toC.cnt
  unfold stepS
  generalize comeL M t.now (p.drop t.next) t.next t.s = q at hc hlt2 hcome
  cases hpk : M.pick q.2 with
  | none =>
    have hid := hc.idle hM hpk
    have hq : q.1 < p.length := by omega
    have hw := hM.w_none _ _ hc.ok hpk
    have ha := hlt2 hq
    have hwr := hM.w_rest _ _ hc.ok hw
    refine .inl ⟨hwr, ?_, ?_, fun j h1 h2 => hs _ _ h1 h2⟩
    · rcases hcome with ⟨e1, e2, e3, e4, e5⟩ | ⟨K, e1, e2, e3, e4, e5⟩ | ⟨C, b, e1, e2⟩
      · show busyL t.out = kL per (p.take q.1)
        rw [e1]; exact e4
      · rw [e3] at hcn
        simp at hcn
        omega
      · show busyL t.out = kL per (p.take q.1)
        rw [e1, e2, hw]
        show _ = C ++ [⟨b, t.now + 0⟩]
        rw [Int.add_zero]
    · show kL per (p.take q.1) = [] ∨ ∃ C y, kL per (p.take q.1) = C ++ [y] ∧ y.r < aOf p q.1
      rcases hcome with ⟨e1, e2, e3, e4, e5⟩ | ⟨K, e1, e2, e3, e4, e5⟩ | ⟨C, b, e1, e2⟩
      · rw [e1] at ha ⊢
        rcases e5 with e5 | ⟨C, y, e5, e6⟩
        · exact .inl e5
        · exact .inr ⟨C, y, e5, by omega⟩
      · rw [e3] at hcn
        simp at hcn
        omega
      · rw [hw] at e2
        exact .inr ⟨C, _, e2, by show t.now + 0 < _; omega⟩
  | some ks =>
    obtain ⟨k, s'⟩ := ks
    have hk : k < q.1 := hc.pick_lt hM hpk
    have hkl : k < p.length := Nat.lt_of_lt_of_le hk hc.k_le
    have hok := hp _ (List.getElem_mem hkl)
    have hsz : 0 ≤ per * sOf p k := Int.mul_nonneg (by omega) (by rw [sOf_of hkl]; have := hok.2.2.1; omega)
    have hw := sumW_perm (per := per) (p := p) (hM.w_some _ _ _ _ hc.ok hpk)
    rw [show sumW per p (k :: M.wait s') = per * sOf p k + sumW per p (M.wait s') from rfl] at hw
    have fin : ∀ C b, kL per (p.take q.1) = C ++ [⟨b, t.now + sumW per p (M.wait q.2)⟩] → kL per (p.take q.1) = C ++ [⟨b, t.now + per * sOf p k + sumW per p (M.wait s')⟩] := fun C b e => by
      rw [e, hw]
      congr 3
      omega
    right
    rcases hcome with ⟨e1, e2, e3, e4, e5⟩ | ⟨K, e1, e2, e3, e4, e5⟩ | ⟨C, b, e1, e2⟩
    · exfalso
      have h9 := hM.w_some _ _ _ _ hc.ok hpk
      rw [e2, e3] at h9
      simpa using h9.length_eq
    · refine ⟨K, t.now, ?_, fin K t.now e5⟩
      show busyL (t.out ++ [_]) = _
      rw [busyL_snoc, e1]
      rcases e2 with rfl | ⟨C, y, rfl, e6⟩
      · rfl
      · rw [bStep_out C y _ e6]
    · refine ⟨C, b, ?_, fin C b e2⟩
      show busyL (t.out ++ [_]) = _
      rw [busyL_snoc, e1, bStep_in C ⟨b, t.now⟩ _ (Int.le_refl _)]
      congr 3
      show max t.now (t.now + per * sOf p k) = t.now + per * sOf p k
      omega
theorem kleinrock {σ : Type} {M : Pol σ} {p : List Pk} {per : Int} {s0 : σ} (hM : PolOk M p.length) (hp : ∀ x ∈ p, okPk x) (hs : ∀ i j, i ≤ j → j < p.length → aOf p i ≤ aOf p j) (h0 : 1 ≤ per) (h1 : per ≤ 1000) (hw0 : M.wait s0 = []) (ho : M.ok 0 s0) : busyL (serveS M p per s0).out = kL per p := by
  have hJ := run_ind hM hp h0 h1 (KJ M p per) (fun t hi hl hj => kj_step hM hp hs h0 t hi hl hj) (2 * p.length + 1) _ (inv_start p hw0 ho) (.inl ⟨hw0, rfl, .inl rfl, fun j _ h2 => by
    show 0 ≤ _
    rw [aOf_of h2]
    exact (hp _ (List.getElem_mem h2)).2.2.2.2.1⟩)
  obtain ⟨hi, hl⟩ := run_all hM hp h0 h1 (2 * p.length + 1) _ (inv_start p hw0 ho) (mu_start p s0) (by simp)
  have hcn := hi.toC.cnt
  have hle := hi.next_le
  unfold serveS
  generalize runS M p per (2 * p.length + 1) ⟨[], 0, 0, s0⟩ = t at hJ hi hl hcn hle
  have hw : M.wait t.s = [] := List.length_eq_zero_iff.1 (by omega)
  have hn : t.next = p.length := by rw [hw] at hcn; simp at hcn; omega
  rcases hJ with ⟨j1, j2, -, -⟩ | ⟨C, b, j1, j2⟩
  · rw [j2, hn, List.take_length]
  · rw [hw, hn, List.take_length] at j2
    rw [j1, j2]
    show _ = C ++ [⟨b, t.now + 0⟩]
    rw [Int.add_zero]
end Go.Proofs.YthgpbdlmadjndaaDoor
