/- The law RankDues returns true, whatever its arguments, and changes nothing that was there. Condition: the sentinels lie in their variables. -/
import Derived.Test.YtkkecnofgmpekaaDoorDuesP
import Derived.Test.YtkkecnofgmpekaaDoorBools
namespace Go.Proofs.YtkkecnofgmpekaaDoor
open Go.RowKit
set_option maxRecDepth 100000
theorem infoBool' : (Tryd.prog.info? 4).map (fun i => (i.zero, i.size, i.bytes)) = some (some (.bool false), 1, 1) := by kernel_rfl
theorem dues_t {p : List Pk} {per : Int} {dues : List Int} (hpk : ∀ x ∈ p, okPk x) (h0 : 1 ≤ per) (h1 : per ≤ 1000) (h60 : p.length ≤ 60) : (∀ x ∈ leastL p per (dueKey p dues), tame50 x.t) ∧ ∀ x ∈ leastL p per (dueKey p dues), 0 ≤ x.p ∧ x.p.toNat < p.length := by
  obtain ⟨h2, h3⟩ := srv_top (per := per) (leastOk (dueKey p dues) p.length) hpk h0 h1 (s0 := []) rfl ⟨by simp, List.Pairwise.nil⟩
  refine ⟨fun x hx => ?_, h3⟩
  have := h2 x hx
  unfold tame50
  omega
theorem lateErr_fine {p : List Pk} {l : List Sn} {dues : List Int} {per : Int} (h1 : (lookErr p per).1 = 0) (h2 : numErr dues 1099511627776 = 0) (h3 : ∀ x ∈ l, 0 ≤ x.p ∧ x.p.toNat < p.length) : lateErr p l dues = (0, -1) ∧ lateV p l dues = lateGo p dues 0 l := by
  have hp : (pktErr p).1 = 0 := by
    unfold lookErr at h1
    by_cases h9 : (pktErr p).1 ≠ 0
    · rw [if_pos h9] at h1; exact h1
    · omega
  have e : lateErr p l dues = (0, -1) := by
    unfold lateErr delErr
    rw [if_neg (by omega), if_neg (by omega), if_pos (sentBad_none h3 0)]
  exact ⟨e, by unfold lateV; rw [e]; rfl⟩
theorem dnB_taken {acc : List Sn} {k : Nat} {x : Sn} (hx : x.p = k) : (fun j => dnB acc j || k == j) = dnB (acc ++ [x]) := by
  funext j
  rw [dnB_add, hx]
  congr 1
  rw [Bool.eq_iff_iff, beq_iff_eq, beq_iff_eq]
  omega
theorem sz_new (w : World) (a : Addr) (u : Value) (o : Obj) : ((w.setCell a u).alloc o).heap[w.heap.size]? = some o := by
  have := heap_alloc_new (w.setCell a u) o
  rw [setCell_size] at this
  exact this
theorem app_block {w w' : World} {o : Obj} {base : Nat} {e : TypeId} {size n : Nat} {v : Value} {xs : List Value} (_h : w.ownsRow base e size v n xs) (g : (w.alloc o).grownBy w' v.ownBlock) {b : Nat} (hb : b < w.heap.size) (hne : b < base) : w'.heap[b]? = w.heap[b]? := by
  rw [g.block b (by simp; omega) (fun e => by have := own_ge _h b e.symm; omega), Below.heap_alloc w o b hb]
theorem app_cell {w w' : World} {o : Obj} {base : Nat} {e : TypeId} {size n : Nat} {v : Value} {xs : List Value} (h : w.ownsRow base e size v n xs) (g : (w.alloc o).grownBy w' v.ownBlock) {a : Addr} (hb : a.block < w.heap.size) (hne : a.block < base) {u : Value} (hu : w.cell? a = some u) : w'.cell? a = some u :=
  (World.cell?_of_block (app_block h g hb hne)).trans hu
set_option maxHeartbeats 8000000 in
theorem dues_main (A A' A'' : Option Addr) (c c' c'' : Nat) (p : List Pk) (per : Int) (dues order : List Int) (S : Nat → Addr) (w : World) (h : RdP w w.heap.size A p) (h' : RdI w w.heap.size A' dues) (h'' : RdI w w.heap.size A'' order) (hS : Snt w w.heap.size S [2, 3, 4, 5]) (h60 : p.length ≤ 60) (h30 : dues.length ≤ 30) (h100 : order.length ≤ 100) (hok : (rankErr p per dues 1099511627776).1 = 0) :
    Calls Tryd.prog 6 #[.slice A p.length c, .int .i64 per, .slice A' dues.length c', .slice A'' order.length c''] w fun e w' => e = .returned (.bool true) ∧ Below w.heap.size w w' := by
  have hl : p.length ≤ 9223372036854775807 := by omega
  obtain ⟨e1, e2, h8, _, _⟩ := rankErr_ok hok
  obtain ⟨hf, h300, hpk, h0, h1⟩ := lookErr_ok e1
  have Hok := Lib.hid hok
  have He1 := Lib.hid e1
  have He2 := Lib.hid e2
  have Hlen := Lib.hid (leastL_len (key := dueKey p dues) hpk h0 h1)
  have Hs := Lib.hid (lookErr_sorted e1)
  have Ht := Lib.hid (dues_t (dues := dues) hpk h0 h1 h60)
  obtain ⟨i0, hi0, hz0, hz1, hz2⟩ := info_parts infoInt
  obtain ⟨i1, hi1, hy0, hy1, hy2⟩ := info_parts infoBool'
  obtain ⟨i2, hi2, hx0, hx1, hx2⟩ := info_parts infoSn
  clear hf hok e1 e2 h8
  go_enter Tryd.func6, Tryd.ntmps6
  go_wp2_with fail
  refine (sends_any S w _ (Nat.le_refl _) (hS.sub (by simp))).mono ?_
  rintro e w1 ⟨rfl, k1⟩
  go_wp2_with fail
  refine (ownPackets_any A c p w1 _ (h.below k1) (by omega)).mono ?_
  rintro e w2 ⟨A1, c1, rfl, o1, k2⟩
  have r1 := RdP.of_own o1
  have k2' := k1.trans (k2.mono k1.size)
  go_wp2_with (at_builtin; refine wpList_append_rd _ iCs rfl (.tmp 46) (.tmp 47) 35 rfl w2.heap.size 3 i0 (.int .i64 0) 1 8 Tryd.underlying35 hi0 hz0 hz1 hz2 rfl (by omega) iCs_len iCs_one (.slice none 0 0) 0 [] rfl ⟨by simp, .inl ⟨rfl, rfl⟩⟩ w.heap.size A' c' dues rfl (h'.below k2') (by simp only [maxLen]; omega) (by omega) (Nat.le_refl _) ?_; intro v3 w3 row3 g3 at3; simp only [Nat.zero_add, List.nil_append] at row3; obtain ⟨A3, c3, rfl⟩ := own_slice row3 (by omega); have k3 : Below w2.heap.size w2 w3 := (Below.refl _ _).grown g3 (Nat.le_refl _) (by simp [Value.ownBlock]))
  have k3' := k2'.trans (k3.mono k2'.size)
  have hri : RdI w3 w3.heap.size A3 dues := Rd.of_own row3 (by omega) iCs_len
  refine (rankDue_ok A1 A3 c1 c3 p per dues S w3 _ (Nat.le_refl _) ((r1.below k3).more k3.size) hri (((hS.below k3').more k3'.size).sub (by simp)) hl (by omega) Hok.out).mono ?_
  rintro e w4 ⟨A4, c4, v, rfl, o4, hv, k4⟩
  obtain rfl := hv.nil_of Hok.out
  have r4 := RdS.of_own o4
  have k4' := k3'.trans (k4.mono k3'.size)
  rw [Hlen.out]
  obtain ⟨l, hl'⟩ : ∃ l, l = leastL p per (dueKey p dues) := ⟨_, rfl⟩
  rw [← hl'] at r4
  have Hl := Lib.hid hl'
  have Hll := Lib.hid (show l.length = p.length by rw [hl']; exact Hlen.out)
  clear hl' o4 hv
  obtain ⟨a0, ha0⟩ : ∃ a0, a0 = aOf p 0 := ⟨_, rfl⟩
  have Ha0 := Lib.hid ha0
  clear ha0
  go_wp2_with fail
  go_loopw [13] (fun i wr => ∃ k m : Nat, k ≤ p.length ∧ i = .int .i64 k ∧ (∀ j, j < k → aOf p j = a0) ∧ wr = w4.drewN m) (fun i _ => p.length - (intOf i).toNat)
  case atStart => exact ⟨0, 0, Nat.zero_le _, rfl, fun j hj => absurd hj (Nat.not_lt_zero _), rfl⟩
  case round =>
    obtain ⟨k, m, hk, rfl, hall, rfl⟩ := hrel
    have Hall := Lib.hid hall
    clear hall
    by_cases hlt : k < p.length
    · have hp0 : 0 < p.length := by omega
      obtain ⟨b, o, rfl, hb, d0, d1, d2⟩ := RdP.get (h.below k4') hlt
      obtain ⟨b', o', he, hb', f0, f1, f2⟩ := RdP.get (h.below k4') hp0
      simp only [Option.some.injEq, Addr.mk.injEq, and_true] at he
      obtain ⟨rfl, rfl⟩ := he
      simp only [Nat.zero_mul, Nat.add_zero] at f0 f1 f2
      have e0 : p[0].a = a0 := by rw [Ha0.out, aOf_of hp0]
      rw [e0] at f2
      obtain ⟨ak, hak⟩ : ∃ ak, ak = p[k].a := ⟨_, rfl⟩
      rw [← hak] at d2
      have Hak := Lib.hid hak
      have q1 : (0 : Int) ≤ (k : Int) := by omega
      have q2 : (k : Int) < (p.length : Int) := by omega
      have q3 : (0 : Int) < (p.length : Int) := by omega
      clear e0 hak
      by_cases hc : ak = a0
      · subst hc
        go_wp2_with fail
        go_quiet (fail)
        go_wp2_with fail
        go_roundw
        case rel => exact ⟨k + 1, _, hlt, by go_num, fun j hj => by
          rcases Nat.lt_succ_iff_lt_or_eq.1 hj with h9 | rfl
          · exact Hall.out j h9
          · rw [aOf_of hlt]; exact Hak.out.symm, rfl⟩
        case measure => simp [intOf]; omega
      · have hc2 : ak < a0 ∨ a0 < ak := by omega
        clear hc
        rcases hc2 with hc | hc
        all_goals
          go_wp2_with fail
          go_quiet (fail)
          go_wp2_with fail
          go_ret
          exact ⟨rfl, below_drewN (below_drewN k4' _) _⟩
    · have hkn : k = p.length := by omega
      subst hkn
      have HA := Lib.hid Hall.out
      clear Hall
      obtain ⟨w5, hw5⟩ : ∃ w5, w5 = w4.drewN m := ⟨_, rfl⟩
      have k5 : Below w4.heap.size w4 w5 := by rw [hw5]; exact below_drewN (Below.refl _ _) _
      have k5' := k4'.trans (k5.mono k4'.size)
      rw [← hw5]
      clear hw5
      have s45 := k5.size
      have hst : p.length = 0 → Oth p per (aOf p 0) order.length 0 [] 0 := fun hz => by
        have e : aOf p 0 = 0 := by
          unfold aOf
          have : p = [] := List.eq_nil_of_length_eq_zero hz
          rw [this]; rfl
        rw [e]
        exact oth_start (by omega) (by omega)
      have hst2 : 0 < p.length → Oth p per (aOf p 0) order.length 0 [] a0 := fun hp0 => by
        have e : p[0].a = a0 := by rw [Ha0.out, aOf_of hp0]
        have hok0 := hpk _ (List.getElem_mem hp0)
        rw [← Ha0.out]
        exact oth_start (by rw [← e]; exact hok0.2.2.2.2.1) (by rw [← e]; exact hok0.2.2.2.2.2)
      have hf2 : 0 < p.length → ∃ b o, A = some ⟨b, o, none⟩ ∧ b < w.heap.size ∧ ∀ w', Below w.heap.size w w' → w'.cell? ⟨b, o + 2, none⟩ = some (.int .i64 a0) := fun hp0 => by
        obtain ⟨b, o, hA, hb, f0, f1, f2⟩ := RdP.get h hp0
        simp only [Nat.zero_mul, Nat.add_zero] at f2
        exact ⟨b, o, hA, hb, fun w' hw => (hw.cell (p := ⟨b, o + 2, none⟩) hb).trans (by rw [f2, Ha0.out, aOf_of hp0])⟩
      have hz00 : 0 ≤ aOf p 0 := by
        rcases Nat.eq_zero_or_pos p.length with hp0 | hp0
        · have : p = [] := List.eq_nil_of_length_eq_zero hp0
          rw [this]; decide
        · rw [aOf_of hp0]; exact (hpk _ (List.getElem_mem hp0)).2.2.2.2.1
      have hsame : ∀ j, j < p.length → aOf p j = aOf p 0 := fun j hj => (HA.out j hj).trans Ha0.out
      by_cases hp0 : 0 < p.length
      · have hst' := hst2 hp0
        obtain ⟨bz, oz, hA0, hbz, hf0⟩ := hf2 hp0
        have HA0 := Lib.hid hA0
        clear hA0
        clear hst hst2 hf2
        go_wp2_with (at_make; refine wpList_make_full _ rfl (.tmp 74) (.tmp 74) 37 rfl w5.heap.size 4 i1 (.bool false) 1 Tryd.underlying37 hi1 hy0 hy1 .i64 .i64 p.length p.length p.length rfl rfl rfl rfl (by rw [hy2]; omega) (by simp only [maxLen]; omega) (Nat.le_refl _) ?_; intro w6 row6 g6; rw [boolRow_new] at row6; have k6 : Below w5.heap.size w5 w6 := (Below.refl _ _).grown g6 (Nat.le_refl _) (by simp); have s56 : w5.heap.size < w6.heap.size := own_lt row6 _ rfl; have hs5 := k5'.size; have k6' := k5'.trans (k6.mono hs5); have f2 := hf0 w6 (k5'.trans (k6.mono k5'.size)); rw [HA0.out])
        rw [← HA0.out]
        go_loopw [14, 16, 17] (fun v nw iv wr => ∃ (i : Nat) (acc : List Sn) (A6 : Option Addr) (c6 : Nat) (nowv : Int), i ≤ order.length + p.length ∧ v = .slice A6 acc.length c6 ∧ nw = .int .i64 nowv ∧ iv = .int .i64 i ∧ Oth p per (aOf p 0) order.length i acc nowv ∧
            wr.ownsRow w6.heap.size 34 3 (.slice A6 acc.length c6) acc.length (acc.flatMap Sn.cs) ∧ BRow wr w5.heap.size 4 w5.heap.size p.length (dnB acc) ∧ (Value.slice A6 acc.length c6).ownBlock ≠ some w5.heap.size ∧ Below w5.heap.size w6 wr) (fun _ _ iv _ => order.length + p.length - (intOf iv).toNat)
        case atStart => exact ⟨0, [], none, 0, _, Nat.zero_le _, rfl, rfl, rfl, hst', ⟨by simp, .inl ⟨rfl, rfl⟩⟩, row6, by simp [Value.ownBlock], Below.refl _ _⟩
        case round =>
          obtain ⟨i, acc, A6, c6, nowv, hi, rfl, rfl, rfl, hoth, hrow, hbr, hfar, hbw⟩ := hrel
          have hsz := hbw.size
          have Hoth := Lib.hid hoth
          have Hrow := Lib.hid hrow
          have Hbr := Lib.hid hbr
          have Hfar := Lib.hid hfar
          have Hbw := Lib.hid hbw
          have hlw : w5.heap.size < wr.heap.size := own_lt hbr _ rfl
          have hs4 : w4.heap.size ≤ wr.heap.size := by omega
          have hpc : ∀ b o, A = some ⟨b, o, none⟩ → ∀ k (hk : k < p.length), w.cell? ⟨b, o + k * 3 + 1, none⟩ = some (.int .i64 p[k].s) := fun b o hA k hk => by
            obtain ⟨b', o', he, _, _, d1, _⟩ := RdP.get h hk
            rw [hA] at he
            simp only [Option.some.injEq, Addr.mk.injEq, and_true] at he
            obtain ⟨rfl, rfl⟩ := he
            exact d1
          clear hoth hrow hbr hfar hbw
          have q0 : (i : Int) ≤ (order.length : Int) + (p.length : Int) := by omega
          by_cases hio : i < order.length
          · obtain ⟨bq, oq, hAq, hbq, d0⟩ := RdI.get (h''.below (k6'.trans (Hbw.out.mono hs5))) hio
            subst hAq
            obtain ⟨kv, hkv⟩ : ∃ kv, kv = order[i] := ⟨_, rfl⟩
            rw [← hkv] at d0
            clear hkv
            have q1 : (i : Int) < (order.length : Int) := by omega
            have q2 : (0 : Int) ≤ (i : Int) := by omega
            by_cases hneg : kv < 0
            · go_wp2_with fail
              go_roundw
              case rel => exact ⟨i + 1, acc, A6, c6, nowv, by omega, rfl, rfl, by go_num, Hoth.out.skip (fun j hj => absurd hj (by omega)), Hrow.out, Hbr.out, Hfar.out, Hbw.out⟩
              case measure => simp [intOf]; omega
            · by_cases hbig : (p.length : Int) ≤ kv
              · go_wp2_with fail
                go_roundw
                case rel => exact ⟨i + 1, acc, A6, c6, nowv, by omega, rfl, rfl, by go_num, Hoth.out.skip (fun j hj => absurd hj (by omega)), Hrow.out, Hbr.out, Hfar.out, Hbw.out⟩
                case measure => simp [intOf]; omega
              · obtain ⟨kn, rfl⟩ : ∃ kn : Nat, kv = kn := ⟨kv.toNat, by omega⟩
                have hkl : kn < p.length := by omega
                have q3 : (0 : Int) ≤ (kn : Int) := by omega
                have q4 : (kn : Int) < (p.length : Int) := by omega
                have b0 := Hbr.out.cell hkl
                have fz := Hbr.out.frozenAt kn
                clear hneg hbig
                cases hdk : dnB acc kn with
                | true =>
                  rw [hdk] at b0
                  clear hdk
                  go_wp2_with fail
                  go_roundw
                  case rel => exact ⟨i + 1, acc, A6, c6, nowv, by omega, rfl, rfl, by go_num, Hoth.out.skip (fun j hj => absurd hj (by omega)), Hrow.out, Hbr.out, Hfar.out, Hbw.out⟩
                  case measure => simp [intOf]; omega
                | false =>
                  rw [hdk] at b0
                  obtain ⟨bp, op, hAp, hbp, d0, d1, d2⟩ := RdP.get (h.below (k6'.trans (Hbw.out.mono hs5))) hkl
                  have hokk := hpk _ (List.getElem_mem hkl)
                  have m1 : 0 ≤ per * p[kn].s := Int.mul_nonneg (by omega) (by have := hokk.2.2.1; omega)
                  have m2 : per * p[kn].s ≤ 1500000 := by
                    have := Int.mul_le_mul h1 hokk.2.2.2.1 (by have := hokk.2.2.1; omega) (by omega : (0:Int) ≤ 1000)
                    omega
                  have n0 := Hoth.out.n0
                  have n1 := Hoth.out.n1
                  have nl := Hoth.out.len
                  obtain ⟨x, hx⟩ : ∃ x : Sn, x = ⟨kn, nowv, nowv + per * p[kn].s⟩ := ⟨_, rfl⟩
                  obtain ⟨acc', hacc'⟩ : ∃ acc', acc' = acc ++ [x] := ⟨_, rfl⟩
                  have Hx := Lib.hid hx
                  have Ho := Lib.hid hacc'
                  have Hoth' := Lib.hid (show Oth p per (aOf p 0) order.length (i + 1) acc' (nowv + per * p[kn].s) by rw [hacc', hx]; exact Hoth.out.take_ hpk h0 h1 hkl hdk (fun j hj => absurd hj (by omega)))
                  have hbr2 := Hbr.out.set_ kn
                  rw [dnB_taken (x := x) (by rw [hx]), ← hacc'] at hbr2
                  have hrow2 : (wr.setCell ⟨w5.heap.size, kn, none⟩ (.bool true)).ownsRow w6.heap.size 34 3 (.slice A6 acc.length c6) acc.length (acc.flatMap Sn.cs) := ownsRow_setCell_other Hrow.out (fun e => Hfar.out e) _
                  have hk2 : Below w5.heap.size w6 (wr.setCell ⟨w5.heap.size, kn, none⟩ (.bool true)) := Hbw.out.setCell (p := ⟨w5.heap.size, kn, none⟩) (Nat.le_refl _) _
                  have hdp : (wr.setCell ⟨w5.heap.size, kn, none⟩ (.bool true)).cell? ⟨bp, op + kn * 3 + 1, none⟩ = some (.int .i64 p[kn].s) := (((k6'.trans (Hbw.out.mono hs5)).setCell (p := ⟨w5.heap.size, kn, none⟩) hs5 (.bool true)).cell (p := ⟨bp, op + kn * 3 + 1, none⟩) hbp).trans (hpc bp op hAp kn hkl)
                  have Hbr2 := Lib.hid hbr2
                  have Hrow2 := Lib.hid hrow2
                  have Hk2 := Lib.hid hk2
                  subst hAp
                  have hq1 : (⟨bp, op + kn * 3 + 1, none⟩ : Addr).block < (wr.setCell ⟨w5.heap.size, kn, none⟩ (.bool true)).heap.size := by simp only [setCell_size]; omega
                  have hq2 : (⟨bp, op + kn * 3 + 1, none⟩ : Addr).block < w6.heap.size := by simp only; omega
                  have hq3 : acc.length + [x].length ≤ maxLen := by simp only [maxLen, List.length_cons, List.length_nil]; omega
                  have hq4 : (acc.length + [x].length) * 24 ≤ 140737488355328 := by simp only [List.length_cons, List.length_nil]; omega
                  have hq5 : w6.heap.size ≤ ((wr.setCell ⟨w5.heap.size, kn, none⟩ (.bool true)).alloc (.cells #[.int .i64 kn, .int .i64 nowv, .int .i64 (nowv + per * p[kn].s)] 34)).heap.size := by simp [setCell_size]; omega
                  clear hx hacc' hokk hbr2 hrow2 hk2 hdk
                  go_wp2_with (at_builtin; refine wpList_append_rd _ Sn.cs rfl (.tmp 121) (.tmp 134) 25 rfl w6.heap.size 34 i2 (.agg #[.int .i64 0, .int .i64 0, .int .i64 0]) 3 24 Tryd.underlying25 hi2 hx0 hx1 hx2 rfl (by omega) Sn.cs_len Sn.cs_one (.slice A6 acc.length c6) acc.length (acc.flatMap Sn.cs) rfl (Hrow2.out.alloc _) (wr.heap.size + 1) (some ⟨wr.heap.size, 0, none⟩) 1 [x] rfl (Rd.of_block (sz_new _ _ _ _) ((congrArg (fun y => [y].flatMap Sn.cs) Hx.out).symm) (Nat.lt_succ_self _) (by omega) Sn.cs_len) hq3 hq4 hq5 ?_; intro v3 w7 row7 g7 at7; obtain ⟨A7, c7, hv7, row7⟩ := own_app row7 (by omega); rw [← Ho.out] at hv7 row7; rw [hv7] at at7 ⊢; clear hv7; have e1 : w7.cell? ⟨bp, op + kn * 3 + 1, none⟩ = some (.int .i64 p[kn].s) := app_cell Hrow2.out g7 hq1 hq2 hdp)
                  have k7' : Below w5.heap.size (wr.setCell ⟨w5.heap.size, kn, none⟩ (.bool true)) w7 := below_app ((Below.refl _ _).alloc (by rw [setCell_size]; omega) _) (Hrow2.out.alloc _) g7 (Nat.le_of_lt s56) (by simp [setCell_size]; omega)
                  have hbr7 : BRow w7 w5.heap.size 4 w5.heap.size p.length (dnB acc') := own_same Hbr2.out (fun g hg => by simp only [Value.ownBlock, Option.some.injEq] at hg; subst hg; exact app_block Hrow2.out g7 (by simp only [setCell_size]; omega) s56)
                  have hfar7 : (Value.slice A7 acc'.length c7).ownBlock ≠ some w5.heap.size := fun e => by have := own_ge row7 _ e; omega
                  go_roundw
                  case rel => exact ⟨i + 1, acc', A7, c7, _, by omega, rfl, rfl, by go_num, Hoth'.out, row7, hbr7, hfar7, Hk2.out.trans k7'⟩
                  case measure => simp [intOf]; omega
          · by_cases hend : i < order.length + p.length
            · obtain ⟨kn, hkn⟩ : ∃ kn : Nat, i = order.length + kn := ⟨i - order.length, by omega⟩
              have hkl : kn < p.length := by omega
              have hke : (i : Int) - (order.length : Int) = (kn : Int) := by omega
              have q1 : (order.length : Int) ≤ (i : Int) := by omega
              have q2 : (i : Int) < (order.length : Int) + (p.length : Int) := by omega
              have q3 : (0 : Int) ≤ (kn : Int) := by omega
              have q4 : (kn : Int) < (p.length : Int) := by omega
              have b0 := Hbr.out.cell hkl
              have fz := Hbr.out.frozenAt kn
              have Hkn := Lib.hid hkn
              clear hkn hio
              cases hdk : dnB acc kn with
              | true =>
                rw [hdk] at b0
                have Hdk := Lib.hid hdk
                clear hdk
                go_wp2_with fail
                go_roundw
                case rel => exact ⟨i + 1, acc, A6, c6, nowv, by omega, rfl, rfl, by go_num, Hoth.out.skip (fun j hj => (show j = kn by have := Hkn.out; omega) ▸ Hdk.out), Hrow.out, Hbr.out, Hfar.out, Hbw.out⟩
                case measure => simp [intOf]; omega
              | false =>
                rw [hdk] at b0
                obtain ⟨bp, op, hAp, hbp, d0, d1, d2⟩ := RdP.get (h.below (k6'.trans (Hbw.out.mono hs5))) hkl
                have hokk := hpk _ (List.getElem_mem hkl)
                have m1 : 0 ≤ per * p[kn].s := Int.mul_nonneg (by omega) (by have := hokk.2.2.1; omega)
                have m2 : per * p[kn].s ≤ 1500000 := by
                  have := Int.mul_le_mul h1 hokk.2.2.2.1 (by have := hokk.2.2.1; omega) (by omega : (0:Int) ≤ 1000)
                  omega
                have n0 := Hoth.out.n0
                have n1 := Hoth.out.n1
                have nl := Hoth.out.len
                obtain ⟨x, hx⟩ : ∃ x : Sn, x = ⟨kn, nowv, nowv + per * p[kn].s⟩ := ⟨_, rfl⟩
                obtain ⟨acc', hacc'⟩ : ∃ acc', acc' = acc ++ [x] := ⟨_, rfl⟩
                have Hx := Lib.hid hx
                have Ho := Lib.hid hacc'
                have Hoth' := Lib.hid (show Oth p per (aOf p 0) order.length (i + 1) acc' (nowv + per * p[kn].s) by rw [hacc', hx]; exact Hoth.out.take_ hpk h0 h1 hkl hdk (fun j hj => by have := Hkn.out; omega))
                have hbr2 := Hbr.out.set_ kn
                rw [dnB_taken (x := x) (by rw [hx]), ← hacc'] at hbr2
                have hrow2 : (wr.setCell ⟨w5.heap.size, kn, none⟩ (.bool true)).ownsRow w6.heap.size 34 3 (.slice A6 acc.length c6) acc.length (acc.flatMap Sn.cs) := ownsRow_setCell_other Hrow.out (fun e => Hfar.out e) _
                have hk2 : Below w5.heap.size w6 (wr.setCell ⟨w5.heap.size, kn, none⟩ (.bool true)) := Hbw.out.setCell (p := ⟨w5.heap.size, kn, none⟩) (Nat.le_refl _) _
                have hdp : (wr.setCell ⟨w5.heap.size, kn, none⟩ (.bool true)).cell? ⟨bp, op + kn * 3 + 1, none⟩ = some (.int .i64 p[kn].s) := (((k6'.trans (Hbw.out.mono hs5)).setCell (p := ⟨w5.heap.size, kn, none⟩) hs5 (.bool true)).cell (p := ⟨bp, op + kn * 3 + 1, none⟩) hbp).trans (hpc bp op hAp kn hkl)
                have Hbr2 := Lib.hid hbr2
                have Hrow2 := Lib.hid hrow2
                have Hk2 := Lib.hid hk2
                subst hAp
                have hq1 : (⟨bp, op + kn * 3 + 1, none⟩ : Addr).block < (wr.setCell ⟨w5.heap.size, kn, none⟩ (.bool true)).heap.size := by simp only [setCell_size]; omega
                have hq2 : (⟨bp, op + kn * 3 + 1, none⟩ : Addr).block < w6.heap.size := by simp only; omega
                have hq3 : acc.length + [x].length ≤ maxLen := by simp only [maxLen, List.length_cons, List.length_nil]; omega
                have hq4 : (acc.length + [x].length) * 24 ≤ 140737488355328 := by simp only [List.length_cons, List.length_nil]; omega
                have hq5 : w6.heap.size ≤ ((wr.setCell ⟨w5.heap.size, kn, none⟩ (.bool true)).alloc (.cells #[.int .i64 kn, .int .i64 nowv, .int .i64 (nowv + per * p[kn].s)] 34)).heap.size := by simp [setCell_size]; omega
                clear hx hacc' hokk hbr2 hrow2 hk2 hdk
                go_wp2_with (at_builtin; refine wpList_append_rd _ Sn.cs rfl (.tmp 121) (.tmp 134) 25 rfl w6.heap.size 34 i2 (.agg #[.int .i64 0, .int .i64 0, .int .i64 0]) 3 24 Tryd.underlying25 hi2 hx0 hx1 hx2 rfl (by omega) Sn.cs_len Sn.cs_one (.slice A6 acc.length c6) acc.length (acc.flatMap Sn.cs) rfl (Hrow2.out.alloc _) (wr.heap.size + 1) (some ⟨wr.heap.size, 0, none⟩) 1 [x] rfl (Rd.of_block (sz_new _ _ _ _) ((congrArg (fun y => [y].flatMap Sn.cs) Hx.out).symm) (Nat.lt_succ_self _) (by omega) Sn.cs_len) hq3 hq4 hq5 ?_; intro v3 w7 row7 g7 at7; obtain ⟨A7, c7, hv7, row7⟩ := own_app row7 (by omega); rw [← Ho.out] at hv7 row7; rw [hv7] at at7 ⊢; clear hv7; have e1 : w7.cell? ⟨bp, op + kn * 3 + 1, none⟩ = some (.int .i64 p[kn].s) := app_cell Hrow2.out g7 hq1 hq2 hdp)
                have k7' : Below w5.heap.size (wr.setCell ⟨w5.heap.size, kn, none⟩ (.bool true)) w7 := below_app ((Below.refl _ _).alloc (by rw [setCell_size]; omega) _) (Hrow2.out.alloc _) g7 (Nat.le_of_lt s56) (by simp [setCell_size]; omega)
                have hbr7 : BRow w7 w5.heap.size 4 w5.heap.size p.length (dnB acc') := own_same Hbr2.out (fun g hg => by simp only [Value.ownBlock, Option.some.injEq] at hg; subst hg; exact app_block Hrow2.out g7 (by simp only [setCell_size]; omega) s56)
                have hfar7 : (Value.slice A7 acc'.length c7).ownBlock ≠ some w5.heap.size := fun e => by have := own_ge row7 _ e; omega
                go_roundw
                case rel => exact ⟨i + 1, acc', A7, c7, _, by omega, rfl, rfl, by go_num, Hoth'.out, row7, hbr7, hfar7, Hk2.out.trans k7'⟩
                case measure => simp [intOf]; omega
            · have hi2 : i = order.length + p.length := by omega
              have Hfin := Lib.hid (show Oth p per (aOf p 0) order.length (order.length + p.length) acc nowv from hi2 ▸ Hoth.out)
              have q1 : ¬ ((i : Int) < (order.length : Int) + (p.length : Int)) := by omega
              have r6 := RdS.of_own (own_mono Hrow.out (Nat.zero_le _))
              have kw := k6'.trans (Hbw.out.mono hs5)
              obtain ⟨le1, lv1⟩ := lateErr_fine He1.out He2.out (show ∀ x ∈ l, 0 ≤ x.p ∧ x.p.toNat < p.length by rw [Hl.out]; exact Ht.out.2)
              obtain ⟨le2, lv2⟩ := lateErr_fine He1.out He2.out Hfin.out.ok
              have hle : lateGo p dues 0 l ≤ lateGo p dues 0 acc := by rw [Hl.out]; exact dues_le hpk Hs.out h0 h1 hsame (hz00 : 0 ≤ aOf p 0) Hfin.out
              have htl : ∀ x ∈ l, tame50 x.t := by rw [Hl.out]; exact Ht.out.1
              have hta : ∀ x ∈ acc, tame50 x.t := fun x hx => by
                have := Hfin.out.top x hx
                unfold tame50
                omega
              have hal : acc.length ≤ 4294967296 := by have := Hfin.out.len; omega
              have Hle1 := Lib.hid le1
              have Hlv1 := Lib.hid lv1
              have Hle2 := Lib.hid le2
              have Hlv2 := Lib.hid lv2
              clear le1 lv1 le2 lv2 hi2 hi hio hend q0
              go_wp2_with fail
              refine (ownPackets_any A c p wr _ (h.below kw) (by omega)).mono ?_
              rintro e w8 ⟨A8, c8, rfl, o8, k8⟩
              have r8 := RdP.of_own o8
              have k8' := kw.trans (k8.mono kw.size)
              clear o8
              go_wp2_with fail
              have HC := (late_any A8 A4 A' c8 c4 c' p l dues S w8 _ (Nat.le_refl _) r8 ((r4.below (k5.trans (((k6.mono s45).trans (Hbw.out.mono s45)).trans (k8.mono (by omega))))).more (Nat.le_trans (by omega) k8.size)) ((h'.below k8').more k8'.size) ((hS.below k8').more k8'.size) hl (by rw [Hll.out]; omega) (by omega) htl)
              rw [Hll.out] at HC
              refine HC.mono ?_
              rintro e w9 ⟨v9, rfl, e9, k9⟩
              obtain rfl := e9.nil_of (by rw [Hle1.out])
              rw [Hlv1.out]
              have k9' := k8'.trans (k9.mono k8'.size)
              go_wp2_with fail
              refine (ownPackets_any A c p w9 _ (h.below k9') (by omega)).mono ?_
              rintro e w10 ⟨A10, c10, rfl, o10, k10⟩
              have r10 := RdP.of_own o10
              have k10' := k9'.trans (k10.mono k9'.size)
              clear o10
              go_wp2_with fail
              refine (late_any A10 A6 A' c10 c6 c' p acc dues S w10 _ (Nat.le_refl _) r10 ((r6.below ((k8.trans (k9.mono k8.size)).trans (k10.mono (Nat.le_trans k8.size k9.size)))).more (Nat.le_trans k8.size (Nat.le_trans k9.size k10.size))) ((h'.below k10').more k10'.size) ((hS.below k10').more k10'.size) hl hal (by omega) hta).mono ?_
              rintro e w11 ⟨v11, rfl, e11, k11⟩
              obtain rfl := e11.nil_of (by rw [Hle2.out])
              rw [Hlv2.out]
              go_wp2_with fail
              go_ret
              exact ⟨by simp, k10'.trans (k11.mono k10'.size)⟩

      · have hst' := hst (by omega)
        clear hst hst2 hf2
        go_wp2_with (at_make; refine wpList_make_full _ rfl (.tmp 74) (.tmp 74) 37 rfl w5.heap.size 4 i1 (.bool false) 1 Tryd.underlying37 hi1 hy0 hy1 .i64 .i64 p.length p.length p.length rfl rfl rfl rfl (by rw [hy2]; omega) (by simp only [maxLen]; omega) (Nat.le_refl _) ?_; intro w6 row6 g6; rw [boolRow_new] at row6; have k6 : Below w5.heap.size w5 w6 := (Below.refl _ _).grown g6 (Nat.le_refl _) (by simp); have s56 : w5.heap.size < w6.heap.size := own_lt row6 _ rfl; have hs5 := k5'.size; have k6' := k5'.trans (k6.mono hs5))
        go_loopw [14, 16, 17] (fun v nw iv wr => ∃ (i : Nat) (acc : List Sn) (A6 : Option Addr) (c6 : Nat) (nowv : Int), i ≤ order.length + p.length ∧ v = .slice A6 acc.length c6 ∧ nw = .int .i64 nowv ∧ iv = .int .i64 i ∧ Oth p per (aOf p 0) order.length i acc nowv ∧
            wr.ownsRow w6.heap.size 34 3 (.slice A6 acc.length c6) acc.length (acc.flatMap Sn.cs) ∧ BRow wr w5.heap.size 4 w5.heap.size p.length (dnB acc) ∧ (Value.slice A6 acc.length c6).ownBlock ≠ some w5.heap.size ∧ Below w5.heap.size w6 wr) (fun _ _ iv _ => order.length + p.length - (intOf iv).toNat)
        case atStart => exact ⟨0, [], none, 0, _, Nat.zero_le _, rfl, rfl, rfl, hst', ⟨by simp, .inl ⟨rfl, rfl⟩⟩, row6, by simp [Value.ownBlock], Below.refl _ _⟩
        case round =>
          obtain ⟨i, acc, A6, c6, nowv, hi, rfl, rfl, rfl, hoth, hrow, hbr, hfar, hbw⟩ := hrel
          have hsz := hbw.size
          have Hoth := Lib.hid hoth
          have Hrow := Lib.hid hrow
          have Hbr := Lib.hid hbr
          have Hfar := Lib.hid hfar
          have Hbw := Lib.hid hbw
          have hlw : w5.heap.size < wr.heap.size := own_lt hbr _ rfl
          have hs4 : w4.heap.size ≤ wr.heap.size := by omega
          have hpc : ∀ b o, A = some ⟨b, o, none⟩ → ∀ k (hk : k < p.length), w.cell? ⟨b, o + k * 3 + 1, none⟩ = some (.int .i64 p[k].s) := fun b o hA k hk => by
            obtain ⟨b', o', he, _, _, d1, _⟩ := RdP.get h hk
            rw [hA] at he
            simp only [Option.some.injEq, Addr.mk.injEq, and_true] at he
            obtain ⟨rfl, rfl⟩ := he
            exact d1
          clear hoth hrow hbr hfar hbw
          have q0 : (i : Int) ≤ (order.length : Int) + (p.length : Int) := by omega
          by_cases hio : i < order.length
          · obtain ⟨bq, oq, hAq, hbq, d0⟩ := RdI.get (h''.below (k6'.trans (Hbw.out.mono hs5))) hio
            subst hAq
            obtain ⟨kv, hkv⟩ : ∃ kv, kv = order[i] := ⟨_, rfl⟩
            rw [← hkv] at d0
            clear hkv
            have q1 : (i : Int) < (order.length : Int) := by omega
            have q2 : (0 : Int) ≤ (i : Int) := by omega
            by_cases hneg : kv < 0
            · go_wp2_with fail
              go_roundw
              case rel => exact ⟨i + 1, acc, A6, c6, nowv, by omega, rfl, rfl, by go_num, Hoth.out.skip (fun j hj => absurd hj (by omega)), Hrow.out, Hbr.out, Hfar.out, Hbw.out⟩
              case measure => simp [intOf]; omega
            · by_cases hbig : (p.length : Int) ≤ kv
              · go_wp2_with fail
                go_roundw
                case rel => exact ⟨i + 1, acc, A6, c6, nowv, by omega, rfl, rfl, by go_num, Hoth.out.skip (fun j hj => absurd hj (by omega)), Hrow.out, Hbr.out, Hfar.out, Hbw.out⟩
                case measure => simp [intOf]; omega
              · obtain ⟨kn, rfl⟩ : ∃ kn : Nat, kv = kn := ⟨kv.toNat, by omega⟩
                have hkl : kn < p.length := by omega
                exact absurd (Nat.lt_of_le_of_lt (Nat.zero_le _) hkl) hp0
          · by_cases hend : i < order.length + p.length
            · obtain ⟨kn, hkn⟩ : ∃ kn : Nat, i = order.length + kn := ⟨i - order.length, by omega⟩
              have hkl : kn < p.length := by omega
              exact absurd (Nat.lt_of_le_of_lt (Nat.zero_le _) hkl) hp0
            · have hi2 : i = order.length + p.length := by omega
              have Hfin := Lib.hid (show Oth p per (aOf p 0) order.length (order.length + p.length) acc nowv from hi2 ▸ Hoth.out)
              have q1 : ¬ ((i : Int) < (order.length : Int) + (p.length : Int)) := by omega
              have r6 := RdS.of_own (own_mono Hrow.out (Nat.zero_le _))
              have kw := k6'.trans (Hbw.out.mono hs5)
              obtain ⟨le1, lv1⟩ := lateErr_fine He1.out He2.out (show ∀ x ∈ l, 0 ≤ x.p ∧ x.p.toNat < p.length by rw [Hl.out]; exact Ht.out.2)
              obtain ⟨le2, lv2⟩ := lateErr_fine He1.out He2.out Hfin.out.ok
              have hle : lateGo p dues 0 l ≤ lateGo p dues 0 acc := by rw [Hl.out]; exact dues_le hpk Hs.out h0 h1 hsame (hz00 : 0 ≤ aOf p 0) Hfin.out
              have htl : ∀ x ∈ l, tame50 x.t := by rw [Hl.out]; exact Ht.out.1
              have hta : ∀ x ∈ acc, tame50 x.t := fun x hx => by
                have := Hfin.out.top x hx
                unfold tame50
                omega
              have hal : acc.length ≤ 4294967296 := by have := Hfin.out.len; omega
              have Hle1 := Lib.hid le1
              have Hlv1 := Lib.hid lv1
              have Hle2 := Lib.hid le2
              have Hlv2 := Lib.hid lv2
              clear le1 lv1 le2 lv2 hi2 hi hio hend q0
              go_wp2_with fail
              refine (ownPackets_any A c p wr _ (h.below kw) (by omega)).mono ?_
              rintro e w8 ⟨A8, c8, rfl, o8, k8⟩
              have r8 := RdP.of_own o8
              have k8' := kw.trans (k8.mono kw.size)
              clear o8
              go_wp2_with fail
              have HC := (late_any A8 A4 A' c8 c4 c' p l dues S w8 _ (Nat.le_refl _) r8 ((r4.below (k5.trans (((k6.mono s45).trans (Hbw.out.mono s45)).trans (k8.mono (by omega))))).more (Nat.le_trans (by omega) k8.size)) ((h'.below k8').more k8'.size) ((hS.below k8').more k8'.size) hl (by rw [Hll.out]; omega) (by omega) htl)
              rw [Hll.out] at HC
              refine HC.mono ?_
              rintro e w9 ⟨v9, rfl, e9, k9⟩
              obtain rfl := e9.nil_of (by rw [Hle1.out])
              rw [Hlv1.out]
              have k9' := k8'.trans (k9.mono k8'.size)
              go_wp2_with fail
              refine (ownPackets_any A c p w9 _ (h.below k9') (by omega)).mono ?_
              rintro e w10 ⟨A10, c10, rfl, o10, k10⟩
              have r10 := RdP.of_own o10
              have k10' := k9'.trans (k10.mono k9'.size)
              clear o10
              go_wp2_with fail
              refine (late_any A10 A6 A' c10 c6 c' p acc dues S w10 _ (Nat.le_refl _) r10 ((r6.below ((k8.trans (k9.mono k8.size)).trans (k10.mono (Nat.le_trans k8.size k9.size)))).more (Nat.le_trans k8.size (Nat.le_trans k9.size k10.size))) ((h'.below k10').more k10'.size) ((hS.below k10').more k10'.size) hl hal (by omega) hta).mono ?_
              rintro e w11 ⟨v11, rfl, e11, k11⟩
              obtain rfl := e11.nil_of (by rw [Hle2.out])
              rw [Hlv2.out]
              go_wp2_with fail
              go_ret
              exact ⟨by simp, k10'.trans (k11.mono k10'.size)⟩

end Go.Proofs.YtkkecnofgmpekaaDoor
