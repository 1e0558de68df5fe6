/- The law BucketWhen returns true, whatever its arguments, and changes nothing that was there. Condition: the sentinels lie in their variables. -/
import Derived.Test.YteeaipehkhldhaaDoorWhenP
import Derived.Test.YteeaipehkhldhaaDoorFilled
import Derived.Test.YteeaipehkhldhaaDoorPkRef
import Derived.Deep.RegionHeld3
namespace Go.Proofs.YteeaipehkhldhaaDoor
open Go.RowKit
set_option maxRecDepth 100000
theorem lineErr_ok {x : Ln} (h : lineErr x = 0) : okLn x := by
  unfold lineErr at h
  cases hb : lineB x.b x.r
  · rw [hb] at h; exact absurd h (by decide)
  · have h2 := of_decide_eq_true (show decide (1 ≤ x.b ∧ x.b ≤ 20000 ∧ 0 ≤ x.r ∧ x.r ≤ 100000) = true from hb)
    exact h2
theorem pktErr_sorted' {l : List Pk} (h : (pktErr l).1 = 0) : l.Pairwise (fun x y => x.a ≤ y.a) := by
  have key : ∀ (l : List Pk) (m : Int) (k : Nat), (pktBad l m k).1 = 0 → (∀ x ∈ l, m ≤ x.a) ∧ l.Pairwise (fun x y => x.a ≤ y.a) := fun l => by
    induction l with
    | nil => exact fun _ _ _ => ⟨by simp, List.Pairwise.nil⟩
    | cons x r ih =>
      intro m k h
      unfold pktBad at h
      split at h
      · split at h
        · simp at h
        · rename_i h2
          obtain ⟨i1, i2⟩ := ih _ _ h
          refine ⟨fun y hy => ?_, List.pairwise_cons.2 ⟨i1, i2⟩⟩
          rcases List.mem_cons.1 hy with rfl | hy
          · omega
          · have := i1 y hy; omega
      · simp at h
  unfold pktErr at h
  by_cases h1 : 300 < l.length
  · rw [if_pos h1] at h; simp at h
  · rw [if_neg h1] at h; exact (key _ _ _ h).2
/-- What holds ahead of each packet that is taken. -/
structure TakeJ (line : Ln) (p : List Pk) (k : Nat) (s : Bu) (m : Int) : Prop where
  ok : BuOk s
  b : s.b = line.b
  r : s.r = line.r
  last : s.last = m
  le : ∀ j, k ≤ j → (h : j < p.length) → m ≤ p[j].a
  m0 : 0 ≤ m
  m1 : m ≤ 1099511627776
theorem takeJ_step {line : Ln} {p : List Pk} {k : Nat} {s : Bu} {m : Int} (hp : ∀ x ∈ p, okPk x) (hs : p.Pairwise (fun x y => x.a ≤ y.a)) (h : TakeJ line p k s m) (hk : k < p.length) :
    lookB s p[k].a p[k].s = 0 ∧ TakeJ line p (k + 1) (tookB s p[k].a p[k].s) p[k].a := by
  obtain ⟨_, _, h3, h4, h5, h6⟩ := hp _ (List.getElem_mem hk)
  have hl := h.le k (Nat.le_refl _) hk
  have e : lookB s p[k].a p[k].s = 0 := by
    unfold lookB
    have := h.last
    rw [if_neg (by omega), if_neg (by omega)]
  refine ⟨e, tookB_ok h.ok _ _, (took_line s _ _).1.trans h.b, (took_line s _ _).2.trans h.r, ?_, fun j hj hjl => ?_, h5, h6⟩
  · unfold tookB
    rw [if_neg (by omega)]
    split <;> rfl
  · rcases Nat.eq_or_lt_of_le (show k ≤ j by omega) with rfl | h9
    · omega
    · exact List.pairwise_iff_getElem.1 hs k j hk hjl h9
theorem fld0 (k a : Int) (w : World) : (Instr.field 44 (.agg #[.int .i64 k, .int .i64 a]) 0).run Tryd.prog w = .ok (.int .i64 k) w := by kernel_rfl
set_option maxHeartbeats 4000000 in
theorem when_main (line : Ln) (A : Option Addr) (c : Nat) (p : List Pk) (later n : Int) (S : Nat → Addr) (w : World) (h : RdP w w.heap.size A p) (hS : Snt w w.heap.size S [2, 3, 4, 5]) (hline : lineErr line = 0) (h60 : p.length ≤ 60) (hl0 : 0 ≤ later) (hl1 : later ≤ 1073741824) (hok : (pktErr p).1 = 0) (hn0 : -9223372036854775808 ≤ n) (hn1 : n ≤ 9223372036854775807) :
    Calls Tryd.prog 6 #[.agg #[.int .i64 line.b, .int .i64 line.r], .slice A p.length c, .int .i64 later, .int .i64 n] w fun e w' => e = .returned (.bool true) ∧ Below w.heap.size w w' := by
  have hlo := lineErr_ok hline
  have hpk := pktErr_okPk hok
  have hs := pktErr_sorted' hok
  obtain ⟨lb, lr⟩ := line
  obtain ⟨q1, q2, q3, q4⟩ := hlo
  simp only at q1 q2 q3 q4
  have Hline := Lib.hid hline
  have Hlo := Lib.hid (show okLn ⟨lb, lr⟩ from ⟨q1, q2, q3, q4⟩)
  have Hok := Lib.hid hok
  clear hline hok
  have ba : Below w.heap.size w (w.alloc (.cells #[.int .i64 lb, .int .i64 lr] 24)) := (Below.refl _ _).alloc (Nat.le_refl _) _
  obtain ⟨w0, hw0⟩ : ∃ w0, w0 = w.alloc (.cells #[.int .i64 lb, .int .i64 lr] 24) := ⟨_, rfl⟩
  have b0 : Blk w0 w.heap.size 24 #[.int .i64 lb, .int .i64 lr] := by rw [hw0]; exact Blk.new _ _ _
  have s0 : w0.heap.size = w.heap.size + 1 := by rw [hw0]; simp
  rw [← hw0] at ba
  have x0 : w0.cell? ⟨w.heap.size, 0, none⟩ = some (.int .i64 lb) := b0.cell 0
  have x1 : w0.cell? ⟨w.heap.size, 1, none⟩ = some (.int .i64 lr) := b0.cell 1
  have hl : p.length ≤ 9223372036854775807 := by omega
  have xc : ∀ w', Below w0.heap.size w0 w' → w'.cell? ⟨w.heap.size, 0, none⟩ = some (.int .i64 lb) ∧ w'.cell? ⟨w.heap.size, 1, none⟩ = some (.int .i64 lr) := fun w' hb => ⟨(hb.cell (p := ⟨w.heap.size, 0, none⟩) (by simp only; omega)).trans x0, (hb.cell (p := ⟨w.heap.size, 1, none⟩) (by simp only; omega)).trans x1⟩
  have Xc := Lib.hid xc
  clear xc
  have hS0 := (hS.below ba).more (Nat.le_of_lt (show w.heap.size < w0.heap.size by omega))
  have fl := fld0
  go_enter Tryd.func6, Tryd.ntmps6
  go_wp2_with fail
  rw [← hw0]
  refine (filled_any S w0 hS0).mono ?_
  rintro e w1 ⟨rfl, k1⟩
  obtain ⟨y0, y1⟩ := Xc.out w1 k1
  go_wp2_with fail
  refine (lineErr_any ⟨lb, lr⟩ w1).mono ?_
  rintro e w2 ⟨rfl, k2⟩
  rw [Hline.out]
  have k2' := k1.trans (k2.mono k1.size)
  have k2w := ba.trans (k2'.mono (by omega))
  go_wp2_with fail
  refine (packetsFault_any A c p w2 _ k2w.size (h.below k2w) hl).mono ?_
  rintro e w3 ⟨rfl, k3⟩
  rw [Hok.out]
  have k3' := k2'.trans (k3.mono k2'.size)
  have k3w := ba.trans (k3'.mono (by omega))
  obtain ⟨z0, z1⟩ := Xc.out w3 k3'
  unfold fv
  go_wp2_with fail
  refine (new_ok ⟨lb, lr⟩ S w3 _ k3'.size ((hS0.below k3').sub (by simp)) Hlo.out).mono ?_
  rintro e w4 ⟨g, rfl, b4, hg, k4⟩
  have k4' := k3'.trans (k4.mono k3'.size)
  have z3 := k3'.size
  have z4 := b4.lt
  go_wp2_with fail
  have Hp := Lib.hid hpk
  have Hs := Lib.hid hs
  clear hpk hs
  go_loopw [12, 13] (fun at_ iv wr => ∃ (k : Nat) (s : Bu) (m : Int), k ≤ p.length ∧ iv = .int .i64 k ∧ at_ = .int .i64 m ∧ TakeJ ⟨lb, lr⟩ p k s m ∧ Blk wr g 106 s.cells ∧ Below w3.heap.size w3 wr) (fun _ iv _ => p.length - (intOf iv).toNat)
  case atStart => exact ⟨0, newB ⟨lb, lr⟩, 0, Nat.zero_le _, rfl, rfl, ⟨newB_ok Hlo.out, rfl, rfl, rfl, fun j _ hj => (Hp.out _ (List.getElem_mem hj)).2.2.2.2.1, Int.le_refl _, by decide⟩, b4, k4⟩
  case round =>
    obtain ⟨k, s, m, hk, rfl, rfl, hj, hb, hbw⟩ := hrel
    have kb := k3w.trans (hbw.mono k3w.size)
    have kb0 := k3'.trans (hbw.mono z3)
    have zb := hbw.size
    have zb0 := kb0.size
    have Hj := Lib.hid hj
    have Hb := Lib.hid hb
    clear hj hb b4
    by_cases hlt : k < p.length
    · obtain ⟨bp, o, rfl, hbp, d0, d1, d2⟩ := RdP.get (h.below kb) hlt
      obtain ⟨hlk, hj'⟩ := takeJ_step Hp.out Hs.out Hj.out hlt
      have Hlk := Lib.hid hlk
      have Hj' := Lib.hid hj'
      have r1 : (k : Int) < (p.length : Int) := by omega
      have r2 : (0 : Int) ≤ (k : Int) := by omega
      have hgp : bp ≠ g := by omega
      have Sd := Lib.hid (show Snt wr.drew w0.heap.size S [2, 5] from (hS0.below kb0.drew).sub (by simp))
      clear hlk hj'
      go_wp2_with fail
      go_region_held3 (fun w' => w'.cell? ⟨bp, o + k * 3 + 1, none⟩ = some (.int .i64 p[k].s) ∧ w'.cell? ⟨bp, o + k * 3 + 2, none⟩ = some (.int .i64 p[k].a))
        (first
          | go_keep
          | exact ⟨(World.cell?_of_block (a := ⟨bp, o + k * 3 + 1, none⟩) (on5.blk bp hgp)).trans d1, (World.cell?_of_block (a := ⟨bp, o + k * 3 + 2, none⟩) (on5.blk bp hgp)).trans d2⟩)
        (first
         | (go_at_call 31; refine (take_any g s p[k].a p[k].s S wr.drew w0.heap.size (Nat.le_trans z3 hg) Sd.out Hb.out Hj.out.ok).mono ?_; rintro e w5 ⟨v5, rfl, e5, b5, on5⟩; obtain rfl := e5.nil_of Hlk.out))
      go_wp2_with fail
      go_roundw
      case rel => exact ⟨k + 1, _, _, hlt, by go_num, rfl, Hj'.out, b5, (hbw.drew).trans (on5.bel.mono hg)⟩
      case measure => simp [intOf]; omega
    · have hok := Hj.out.ok
      have hm0 := Hj.out.m0
      have hm1 := Hj.out.m1
      have hsb : s.b = lb := Hj.out.b
      have Hok2 := Lib.hid hok
      have Hsb := Lib.hid hsb
      have hs245 : Snt wr w0.heap.size S [2, 4, 5] := (hS0.below kb0).sub (by simp)
      clear hok hsb
      by_cases hw : (whenB s (m + later) n).1 = 0
      · obtain ⟨T, hT⟩ : ∃ T, whenB s (m + later) n = (0, T) := ⟨(whenB s (m + later) n).2, Prod.ext hw rfl⟩
        obtain ⟨hk0, t1, t2, t3, t4⟩ := when_ok Hok2.out hT
        obtain ⟨_, _, n1, n2, _⟩ := lookB_ok hk0
        obtain ⟨u1, u2, u3, u4, u5, u6, u7, u8, u9⟩ := took_when Hok2.out hT
        have hr := (holds_range Hok2.out (show s.at_ ≤ T by have := Hok2.out.a2; have := Hj.out.last; omega)).2
        rw [Hsb.out] at hr
        obtain ⟨x, hx⟩ : ∃ x, x = holdsB s T := ⟨_, rfl⟩
        rw [← hx] at t3 u6 u7 u9 hr
        have HT := Lib.hid hT
        have Hx := Lib.hid hx
        have U1 := Lib.hid u1
        have U2 := Lib.hid u2
        have U4 := Lib.hid u4
        have U5 := Lib.hid u5
        have U7 := Lib.hid u7
        have U9 := Lib.hid u9
        have hs25 : ∀ w', Below w0.heap.size w0 w' → Snt w' w0.heap.size S [2, 5] := fun w' hb => (hS0.below hb).sub (by simp)
        have Hs25 := Lib.hid hs25
        clear hw hT hx hk0 u1 u2 u4 u5 u6 u7 u9 hs25
        by_cases hgt : m + later < T
        · have U3 := Lib.hid (u3 hgt)
          have U8 := Lib.hid (u8 hgt)
          have t5 := t4 hgt
          obtain ⟨y, hy⟩ : ∃ y, y = holdsB s (T - 1) := ⟨_, rfl⟩
          have Hy := Lib.hid hy
          rw [← hy] at t5
          clear u3 u8 t4 hy
          go_wp2_with fail
          refine (when_any g s (m + later) n S wr w0.heap.size (Nat.le_trans z3 hg) hs245 Hb.out Hok2.out).mono ?_
          rintro e w6 ⟨v6, rfl, e6, m6, rfl⟩
          rw [HT.out] at e6 ⊢
          obtain rfl := e6.nil_of rfl
          have kc := below_drewN kb0 m6
          go_wp2_with fail
          refine (has_any g s (T - 1) S _ w0.heap.size (Nat.le_trans z3 hg) (Hs25.out _ kc) (Hb.out.drewN m6) Hok2.out).mono ?_
          rintro e w7 ⟨v7, rfl, e7, m7, rfl⟩
          obtain rfl := e7.nil_of U3.out
          rw [U8.out, ← Hy.out]
          have kd := below_drewN kb0 (m6 + m7)
          go_wp2_with fail
          refine (has_any g s T S _ w0.heap.size (Nat.le_trans z3 hg) (Hs25.out _ kd) (Hb.out.drewN (m6 + m7)) Hok2.out).mono ?_
          rintro e w8 ⟨v8, rfl, e8, m8, rfl⟩
          obtain rfl := e8.nil_of U2.out
          rw [U7.out]
          have ke := below_drewN kb0 (m6 + m7 + m8)
          obtain ⟨l0, _⟩ := Xc.out _ ke
          go_wp2_with fail
          refine (take_any g s T n S _ w0.heap.size (Nat.le_trans z3 hg) (Hs25.out _ ke) (Hb.out.drewN (m6 + m7 + m8)) Hok2.out).mono ?_
          rintro e w9 ⟨v9, rfl, e9, b9, on9⟩
          obtain rfl := e9.nil_of U1.out
          rw [U4.out]
          have kf := ke.trans (on9.bel.mono (Nat.le_trans z3 hg))
          go_wp2_with fail
          refine (has_any g _ T S _ w0.heap.size (Nat.le_trans z3 hg) (Hs25.out _ kf) b9 (tookB_ok Hok2.out T n)).mono ?_
          rintro e w10 ⟨v10, rfl, e10, m10, rfl⟩
          obtain rfl := e10.nil_of U5.out
          rw [U9.out]
          go_wp2_with fail
          go_ret
          exact ⟨by simp, ba.trans ((below_drewN kf m10).mono (by omega))⟩
        · have hT2 : T = m + later := by omega
          subst hT2
          clear u3 u8 t4 hgt
          go_wp2_with fail
          refine (when_any g s (m + later) n S wr w0.heap.size (Nat.le_trans z3 hg) hs245 Hb.out Hok2.out).mono ?_
          rintro e w6 ⟨v6, rfl, e6, m6, rfl⟩
          rw [HT.out] at e6 ⊢
          obtain rfl := e6.nil_of rfl
          have kd := below_drewN kb0 m6
          go_wp2_with fail
          refine (has_any g s (m + later) S _ w0.heap.size (Nat.le_trans z3 hg) (Hs25.out _ kd) (Hb.out.drewN m6) Hok2.out).mono ?_
          rintro e w8 ⟨v8, rfl, e8, m8, rfl⟩
          obtain rfl := e8.nil_of U2.out
          rw [U7.out]
          have ke := below_drewN kb0 (m6 + m8)
          obtain ⟨l0, _⟩ := Xc.out _ ke
          go_wp2_with fail
          refine (take_any g s (m + later) n S _ w0.heap.size (Nat.le_trans z3 hg) (Hs25.out _ ke) (Hb.out.drewN (m6 + m8)) Hok2.out).mono ?_
          rintro e w9 ⟨v9, rfl, e9, b9, on9⟩
          obtain rfl := e9.nil_of U1.out
          rw [U4.out]
          have kf := ke.trans (on9.bel.mono (Nat.le_trans z3 hg))
          go_wp2_with fail
          refine (has_any g _ (m + later) S _ w0.heap.size (Nat.le_trans z3 hg) (Hs25.out _ kf) b9 (tookB_ok Hok2.out (m + later) n)).mono ?_
          rintro e w10 ⟨v10, rfl, e10, m10, rfl⟩
          obtain rfl := e10.nil_of U5.out
          rw [U9.out]
          go_wp2_with fail
          go_ret
          exact ⟨by simp, ba.trans ((below_drewN kf m10).mono (by omega))⟩
      · have Hw := Lib.hid hw
        have Hz := Lib.hid (when_err hw)
        clear hw
        go_wp2_with fail
        refine (when_any g s (m + later) n S wr w0.heap.size (Nat.le_trans z3 hg) hs245 Hb.out Hok2.out).mono ?_
        rintro e w6 ⟨v6, rfl, e6, m6, rfl⟩
        obtain ⟨T, a, rfl⟩ := e6.some_of Hw.out
        rw [Hz.out]
        go_wp2_with fail
        go_ret
        exact ⟨by simp, ba.trans ((below_drewN kb0 m6).mono (by omega))⟩
set_option maxHeartbeats 1000000 in
theorem when_early (line : Ln) (A : Option Addr) (c : Nat) (p : List Pk) (later n : Int) (S : Nat → Addr) (w : World) (h : RdP w w.heap.size A p) (hS : Snt w w.heap.size S [2, 3, 4, 5]) (hl : p.length ≤ 9223372036854775807)
    (hx : lineErr line = 2 ∨ (lineErr line = 0 ∧ 60 < p.length) ∨ (lineErr line = 0 ∧ p.length ≤ 60 ∧ later < 0) ∨ (lineErr line = 0 ∧ p.length ≤ 60 ∧ 0 ≤ later ∧ 1073741824 < later) ∨ (lineErr line = 0 ∧ p.length ≤ 60 ∧ 0 ≤ later ∧ later ≤ 1073741824 ∧ (pktErr p).1 ≠ 0)) :
    Calls Tryd.prog 6 #[.agg #[.int .i64 line.b, .int .i64 line.r], .slice A p.length c, .int .i64 later, .int .i64 n] w fun e w' => e = .returned (.bool true) ∧ Below w.heap.size w w' := by
  obtain ⟨lb, lr⟩ := line
  have ba : Below w.heap.size w (w.alloc (.cells #[.int .i64 lb, .int .i64 lr] 24)) := (Below.refl _ _).alloc (Nat.le_refl _) _
  obtain ⟨w0, hw0⟩ : ∃ w0, w0 = w.alloc (.cells #[.int .i64 lb, .int .i64 lr] 24) := ⟨_, rfl⟩
  have b0 : Blk w0 w.heap.size 24 #[.int .i64 lb, .int .i64 lr] := by rw [hw0]; exact Blk.new _ _ _
  have s0 : w0.heap.size = w.heap.size + 1 := by rw [hw0]; simp
  rw [← hw0] at ba
  have x0 : w0.cell? ⟨w.heap.size, 0, none⟩ = some (.int .i64 lb) := b0.cell 0
  have x1 : w0.cell? ⟨w.heap.size, 1, none⟩ = some (.int .i64 lr) := b0.cell 1
  have xc : ∀ w', Below w0.heap.size w0 w' → w'.cell? ⟨w.heap.size, 0, none⟩ = some (.int .i64 lb) ∧ w'.cell? ⟨w.heap.size, 1, none⟩ = some (.int .i64 lr) := fun w' hb => ⟨(hb.cell (p := ⟨w.heap.size, 0, none⟩) (by simp only; omega)).trans x0, (hb.cell (p := ⟨w.heap.size, 1, none⟩) (by simp only; omega)).trans x1⟩
  have Xc := Lib.hid xc
  clear xc
  have hS0 := (hS.below ba).more (Nat.le_of_lt (show w.heap.size < w0.heap.size by omega))
  have fl := fld0
  rcases hx with hx | ⟨hx, hx2⟩ | ⟨hx, hx2, hx3⟩ | ⟨hx, hx2, hx3, hx4⟩ | ⟨hx, hx2, hx3, hx4, hx5⟩
  · have Hx := Lib.hid hx
    clear hx
    go_enter Tryd.func6, Tryd.ntmps6
    go_wp2_with fail
    rw [← hw0]
    refine (filled_any S w0 hS0).mono ?_
    rintro e w1 ⟨rfl, k1⟩
    obtain ⟨y0, y1⟩ := Xc.out w1 k1
    go_wp2_with fail
    refine (lineErr_any ⟨lb, lr⟩ w1).mono ?_
    rintro e w2 ⟨rfl, k2⟩
    rw [Hx.out]
    go_wp2_with fail
    go_ret
    exact ⟨rfl, ba.trans ((k1.trans (k2.mono k1.size)).mono (by omega))⟩
  · have Hx := Lib.hid hx
    clear hx
    go_enter Tryd.func6, Tryd.ntmps6
    go_wp2_with fail
    rw [← hw0]
    refine (filled_any S w0 hS0).mono ?_
    rintro e w1 ⟨rfl, k1⟩
    obtain ⟨y0, y1⟩ := Xc.out w1 k1
    go_wp2_with fail
    refine (lineErr_any ⟨lb, lr⟩ w1).mono ?_
    rintro e w2 ⟨rfl, k2⟩
    rw [Hx.out]
    go_wp2_with fail
    go_ret
    exact ⟨rfl, ba.trans ((k1.trans (k2.mono k1.size)).mono (by omega))⟩
  · have Hx := Lib.hid hx
    clear hx
    go_enter Tryd.func6, Tryd.ntmps6
    go_wp2_with fail
    rw [← hw0]
    refine (filled_any S w0 hS0).mono ?_
    rintro e w1 ⟨rfl, k1⟩
    obtain ⟨y0, y1⟩ := Xc.out w1 k1
    go_wp2_with fail
    refine (lineErr_any ⟨lb, lr⟩ w1).mono ?_
    rintro e w2 ⟨rfl, k2⟩
    rw [Hx.out]
    go_wp2_with fail
    go_ret
    exact ⟨rfl, ba.trans ((k1.trans (k2.mono k1.size)).mono (by omega))⟩
  · have Hx := Lib.hid hx
    clear hx
    go_enter Tryd.func6, Tryd.ntmps6
    go_wp2_with fail
    rw [← hw0]
    refine (filled_any S w0 hS0).mono ?_
    rintro e w1 ⟨rfl, k1⟩
    obtain ⟨y0, y1⟩ := Xc.out w1 k1
    go_wp2_with fail
    refine (lineErr_any ⟨lb, lr⟩ w1).mono ?_
    rintro e w2 ⟨rfl, k2⟩
    rw [Hx.out]
    go_wp2_with fail
    go_ret
    exact ⟨rfl, ba.trans ((k1.trans (k2.mono k1.size)).mono (by omega))⟩
  · have Hx := Lib.hid hx
    have h5 : (0 : Int) < ((pktErr p).1 : Int) := by omega
    clear hx hx5
    go_enter Tryd.func6, Tryd.ntmps6
    go_wp2_with fail
    rw [← hw0]
    refine (filled_any S w0 hS0).mono ?_
    rintro e w1 ⟨rfl, k1⟩
    obtain ⟨y0, y1⟩ := Xc.out w1 k1
    go_wp2_with fail
    refine (lineErr_any ⟨lb, lr⟩ w1).mono ?_
    rintro e w2 ⟨rfl, k2⟩
    rw [Hx.out]
    have k2' := k1.trans (k2.mono k1.size)
    have k2w := ba.trans (k2'.mono (by omega))
    go_wp2_with fail
    refine (packetsFault_any A c p w2 _ k2w.size (h.below k2w) hl).mono ?_
    rintro e w3 ⟨rfl, k3⟩
    unfold fv
    go_wp2_with fail
    go_ret
    exact ⟨rfl, k2w.trans (k3.mono k2w.size)⟩
theorem bucketWhen_any (line : Ln) (A : Option Addr) (c : Nat) (p : List Pk) (later n : Int) (S : Nat → Addr) (w : World) (h : RdP w w.heap.size A p) (hS : Snt w w.heap.size S [2, 3, 4, 5]) (hl : p.length ≤ 9223372036854775807) (hn : -9223372036854775808 ≤ n ∧ n ≤ 9223372036854775807) :
    Calls Tryd.prog 6 #[.agg #[.int .i64 line.b, .int .i64 line.r], .slice A p.length c, .int .i64 later, .int .i64 n] w fun e w' => e = .returned (.bool true) ∧ Below w.heap.size w w' := by
  have hle : lineErr line = 0 ∨ lineErr line = 2 := by
    unfold lineErr
    split
    · exact .inl rfl
    · exact .inr rfl
  rcases hle with h0 | h0
  · by_cases h60 : p.length ≤ 60
    · by_cases l0 : 0 ≤ later
      · by_cases l1 : later ≤ 1073741824
        · by_cases hok : (pktErr p).1 = 0
          · exact when_main line A c p later n S w h hS h0 h60 l0 l1 hok hn.1 hn.2
          · exact when_early line A c p later n S w h hS hl (.inr (.inr (.inr (.inr ⟨h0, h60, l0, l1, hok⟩))))
        · exact when_early line A c p later n S w h hS hl (.inr (.inr (.inr (.inl ⟨h0, h60, l0, by omega⟩))))
      · exact when_early line A c p later n S w h hS hl (.inr (.inr (.inl ⟨h0, h60, by omega⟩)))
    · exact when_early line A c p later n S w h hS hl (.inr (.inl ⟨h0, by omega⟩))
  · exact when_early line A c p later n S w h hS hl (.inl h0)
end Go.Proofs.YteeaipehkhldhaaDoor
