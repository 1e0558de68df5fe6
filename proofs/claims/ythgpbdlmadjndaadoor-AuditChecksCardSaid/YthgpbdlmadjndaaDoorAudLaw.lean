/- The law AuditChecks returns true, whatever its arguments, and changes nothing that was there. Condition: the nine sentinels lie in their variables, apart; errors.errorType holds the type error. -/
import Derived.Test.YthgpbdlmadjndaaDoorAudA
namespace Go.Proofs.YthgpbdlmadjndaaDoor
open Go.RowKit
set_option maxRecDepth 100000
theorem fv_store {w : World} {g : Nat} {k a k' a' : Int} (h : Blk w g 36 #[.int .i64 k, .int .i64 a]) : Blk ((w.setCell ⟨g, 0, none⟩ (.int .i64 k')).setCell ⟨g, 1, none⟩ (.int .i64 a')) g 36 #[.int .i64 k', .int .i64 a'] := (h.set_ 0 (.int .i64 k')).set_ 1 (.int .i64 a')
theorem fv_below {B : Nat} {w w1 : World} {g : Nat} {k a : Int} (h : Below B w w1) (hg : B ≤ g) : Below B w ((w1.setCell ⟨g, 0, none⟩ (.int .i64 k)).setCell ⟨g, 1, none⟩ (.int .i64 a)) := (h.setCell (p := ⟨g, 0, none⟩) hg _).setCell (p := ⟨g, 1, none⟩) hg _
theorem tameN_on {l : List Sn} (h : tameB l = true) : tameN l = 1 := by unfold tameN; rw [h]; rfl
theorem tameN_no {l : List Sn} (h : tameB l = false) : tameN l = 0 := by unfold tameN; rw [h]; rfl
theorem tameB_both {l : List Sn} (h : tameB l = true) : ∀ x ∈ l, tame50 x.f ∧ tame50 x.t := fun x hx => by
  have := List.all_eq_true.1 h x hx
  have := of_decide_eq_true this
  unfold tame50
  omega
set_option maxHeartbeats 4000000 in
theorem audl_main (A A' : Option Addr) (c c' : Nat) (p : List Pk) (per : Int) (l : List Sn) (f lo hi : Int) (S : Nat → Addr) (w : World) (h : RdP w w.heap.size A p) (h' : RdS w w.heap.size A' l) (hS : All9 w w.heap.size S) (hfit : fitB p.length 60 = true) (hl1 : l.length ≤ 80) (htm : tameB l = true) :
    Calls Tryd.prog 4 #[.slice A p.length c, .int .i64 per, .slice A' l.length c', .int .i64 f, .int .i64 lo, .int .i64 hi] w fun e w' => e = .returned (.bool true) ∧ Below w.heap.size w w' := by
  have hle : p.length ≤ 301 := by have := of_decide_eq_true hfit; omega
  have hl : p.length ≤ 9223372036854775807 := by omega
  have Hfit := Lib.hid hfit
  have Htm := Lib.hid (tameN_on htm)
  have Ht := Lib.hid (tameB_both htm)
  clear hfit htm
  go_enter Tryd.func4, Tryd.ntmps4
  go_wp2_with fail
  refine (audited_any S w hS).mono ?_
  rintro e w1 ⟨rfl, k1⟩
  go_wp2_with fail
  refine (fit_any A c p.length 60 _ hl).mono ?_
  rintro e wx ⟨rfl, rfl⟩
  rw [Hfit.out]
  go_wp2_with fail
  refine (tame_any A' c' l _ _ (h'.below k1) (by omega)).mono ?_
  rintro e wx ⟨rfl, rfl⟩
  rw [Htm.out]
  go_wp2_with fail
  refine (ownPackets_any A c p w1 _ (h.below k1) (by omega)).mono ?_
  rintro e w2 ⟨A2, c2, rfl, o2, k2⟩
  have r2 := RdP.of_own o2
  have k2' := k1.trans (k2.mono k1.size)
  clear o2
  go_wp2_with fail
  refine (ownSent_any A' c' l w2 _ (h'.below k2') (by omega)).mono ?_
  rintro e w3 ⟨A3, c3, rfl, o3, k3⟩
  have r3 := RdS.of_own o3
  have k3' := k2'.trans (k3.mono k2'.size)
  clear o3
  go_wp2_with fail
  refine (audCheck_any A2 A3 c2 c3 p per l S w3 _ (Nat.le_refl _) ((r2.below k3).more k3.size) r3 (((hS.s.below k3').more k3'.size).sub (by simp)) hl (by omega) (fun x hx => (Ht.out x hx).1)).mono ?_
  rintro e w4 ⟨v4, rfl, hv4, k4⟩
  have k4' := k3'.trans (k4.mono k3'.size)
  clear r2 r3
  go_wp2_with fail
  refine (auditFault_any A A' c c' p per l w4 _ k4'.size (h.below k4') (h'.below k4') hl (by omega) Ht.out).mono ?_
  rintro e w5 ⟨rfl, k5⟩
  have k5' := k4'.trans (k5.mono k4'.size)
  go_wp2_with fail
  refine (faulted2_any v4 (audErr p per l).1 (audErr p per l).2 (audErr p per l).2 S w5 w5.heap.size (Nat.le_refl _) ((hS.below k5').more k5'.size) ((hv4.below k5).more k5.size) (.inr rfl)).mono ?_
  rintro e w6 ⟨rfl, k6⟩
  have k6' := k5'.trans (k6.mono k5'.size)
  clear hv4
  go_wp2_with fail
  refine (ownPackets_any A c p w6 _ (h.below k6') (by omega)).mono ?_
  rintro e w7 ⟨A7, c7, rfl, o7, k7⟩
  have r7 := RdP.of_own o7
  have k7' := k6'.trans (k7.mono k6'.size)
  clear o7
  go_wp2_with fail
  refine (ownSent_any A' c' l w7 _ (h'.below k7') (by omega)).mono ?_
  rintro e w8 ⟨A8, c8, rfl, o8, k8⟩
  have r8 := RdS.of_own o8
  have k8' := k7'.trans (k8.mono k7'.size)
  clear o8
  go_wp2_with fail
  refine (bytes_any A7 A8 c7 c8 p l f lo hi S w8 _ (Nat.le_refl _) ((r7.below k8).more k8.size) r8 (((hS.s.below k8').more k8'.size).sub (by simp)) hl (by omega) (fun x hx => (Ht.out x hx).2)).mono ?_
  rintro e w9 ⟨v9, rfl, e9, k9⟩
  have k9' := k8'.trans (k9.mono k8'.size)
  clear r7 r8
  obtain ⟨N0, hN0⟩ : ∃ N0, N0 = byV p l f lo hi := ⟨_, rfl⟩
  rw [← hN0]
  have HN0 := Lib.hid hN0
  clear hN0
  go_wp2_with fail
  refine (packetsFault_any A c p w9 _ k9'.size (h.below k9') hl).mono ?_
  rintro e w10 ⟨rfl, k10⟩
  have k10' := k9'.trans (k10.mono k9'.size)
  have e10 := (e9.below k10).more k10.size
  have z10 := k10'.size
  clear e9
  obtain ⟨v, hv⟩ : ∃ v : World, v = w10.alloc (.cells #[.int .i64 (pktErr p).1, .int .i64 (pktErr p).2] 36) := ⟨_, rfl⟩
  have b7 : Blk v w10.heap.size 36 #[.int .i64 (pktErr p).1, .int .i64 (pktErr p).2] := by rw [hv]; exact Blk.new _ _ _
  have k7 : Below w10.heap.size w10 v := by rw [hv]; exact (Below.refl _ _).alloc (Nat.le_refl _) _
  have z7 : w10.heap.size < v.heap.size := b7.lt
  have kv := k10'.trans (k7.mono z10)
  have zv := kv.size
  have ev : Er v w10.heap.size S v9 (byErr p l f).1 (byErr p l f).2 := e10.below k7
  have hSv := (hS.below kv).more z10
  have x0 : v.cell? ⟨w10.heap.size, 0, none⟩ = some (.int .i64 (pktErr p).1) := b7.cell 0
  have x1 : v.cell? ⟨w10.heap.size, 1, none⟩ = some (.int .i64 (pktErr p).2) := b7.cell 1
  have y0 := b7.frozen 0
  have y1 := b7.frozen 1
  have Hv := Lib.hid hv
  have B7 := Lib.hid b7
  clear hv b7 e10
  unfold fv
  by_cases h1 : (pktErr p).1 = 0
  · have hpk := pktErr_okPk h1
    have hc := pktErr_nil h1
    have Hvb := Lib.hid (show v = w10.alloc (.cells #[.int .i64 0, .int .i64 (-1)] 36) by rw [Hv.out, hc]; rfl)
    have B7b := Lib.hid (show Blk v w10.heap.size 36 #[.int .i64 0, .int .i64 (-1)] by have := B7.out; rw [hc] at this; exact this)
    rw [hc] at x0 x1 ⊢
    have H1 := Lib.hid h1
    clear hc h1 Hv B7
    go_wp2_with fail
    first | rw [← Hvb.out] | skip
    refine (sentFault_any A A' c c' p.length l v _ zv (h'.below kv) hl (by omega)).mono ?_
    rintro e w12 ⟨rfl, k12⟩
    have b12 := B7b.out.below k12 z7
    have c10 := b12.cell 0
    have c11 := b12.cell 1
    have f10 := b12.frozen 0
    have f11 := b12.frozen 1
    simp only [List.getElem?_toArray, List.getElem?_cons_zero, List.getElem?_cons_succ] at c10 c11
    obtain ⟨w11, hw11⟩ : ∃ w11, w11 = (w12.setCell ⟨w10.heap.size, 0, none⟩ (.int .i64 (delErr p.length l).1)).setCell ⟨w10.heap.size, 1, none⟩ (.int .i64 (delErr p.length l).2) := ⟨_, rfl⟩
    have b11 : Blk w11 w10.heap.size 36 #[.int .i64 (delErr p.length l).1, .int .i64 (delErr p.length l).2] := by rw [hw11]; exact fv_store b12
    have k11 : Below w10.heap.size v w11 := by rw [hw11]; exact fv_below (k12.mono (Nat.le_of_lt z7)) (Nat.le_refl _)
    have Hw11 := Lib.hid hw11
    have k11' := kv.trans (k11.mono z10)
    have z11 : w10.heap.size < w11.heap.size := b11.lt
    have z11' := k11'.size
    have e11 := ev.below k11
    have d0 : w11.cell? ⟨w10.heap.size, 0, none⟩ = some (.int .i64 (delErr p.length l).1) := b11.cell 0
    have d1 : w11.cell? ⟨w10.heap.size, 1, none⟩ = some (.int .i64 (delErr p.length l).2) := b11.cell 1
    have B11 := Lib.hid b11
    unfold fv
    clear hw11 b12 b11 ev
    by_cases hd : (delErr p.length l).1 = 0
    · obtain ⟨hbad, hde⟩ := delErr_ok hd
      have hsp : ∀ y ∈ l, 0 ≤ y.p ∧ y.p.toNat < p.length := fun y hy => by
        have := sentBad_ok hbad y hy
        omega
      have Hw11b := Lib.hid (show w11 = (w12.setCell ⟨w10.heap.size, 0, none⟩ (.int .i64 0)).setCell ⟨w10.heap.size, 1, none⟩ (.int .i64 (-1)) by rw [Hw11.out, hde]; rfl)
      have B11b := Lib.hid (show Blk w11 w10.heap.size 36 #[.int .i64 0, .int .i64 (-1)] by have := B11.out; rw [hde] at this; exact this)
      rw [hde] at d0 d1 ⊢
      have Hd := Lib.hid hd
      clear hde hd hbad B11
      by_cases hf : f < 0 ∨ 8 ≤ f
      · have He := Lib.hid (show byErr p l f = (2, -1) by unfold byErr; rw [if_neg (by have := H1.out; omega), if_neg (by have := Hd.out; omega), if_pos hf])
        obtain rfl : N0 = 0 := by rw [HN0.out]; unfold byV; rw [He.out]; rfl
        rw [He.out] at e11
        have hf4 : f < 0 ∨ (¬ f < 0 ∧ 8 ≤ f) := by omega
        clear hf
        rcases hf4 with hf1 | ⟨hf1, hf2⟩
        all_goals
          go_wp2_with fail
          first | rw [← Hw11b.out] | skip
          refine (bare_any 2 w11).mono ?_
          rintro e w13 ⟨rfl, k13⟩
          have b13 := B11b.out.below k13 z11
          have c80 := b13.cell 0
          have c81 := b13.cell 1
          have f80 := b13.frozen 0
          have f81 := b13.frozen 1
          simp only [List.getElem?_toArray, List.getElem?_cons_zero, List.getElem?_cons_succ] at c80 c81
          obtain ⟨w14, hw14⟩ : ∃ w14, w14 = (w13.setCell ⟨w10.heap.size, 0, none⟩ (.int .i64 2)).setCell ⟨w10.heap.size, 1, none⟩ (.int .i64 (-1)) := ⟨_, rfl⟩
          have b14 : Blk w14 w10.heap.size 36 #[.int .i64 2, .int .i64 (-1)] := by rw [hw14]; exact fv_store b13
          have k14 : Below w10.heap.size w11 w14 := by rw [hw14]; exact fv_below (k13.mono (Nat.le_of_lt z11)) (Nat.le_refl _)
          have k14' := k11'.trans (k14.mono z10)
          have e14 := e11.below k14
          have z14 : w10.heap.size < w14.heap.size := b14.lt
          have c90 : w14.cell? ⟨w10.heap.size, 0, none⟩ = some (.int .i64 2) := b14.cell 0
          have c91 : w14.cell? ⟨w10.heap.size, 1, none⟩ = some (.int .i64 (-1)) := b14.cell 1
          have c90' := c90
          have c91' := c91
          rw [hw14] at c90' c91'
          have hS14 := (hS.below k14').more z10
          have Hw14 := Lib.hid hw14
          unfold fv
          clear hw14 b14 b13
          go_wp2_with fail
          first | rw [← Hw14.out] | skip
          have hfa := faulted2_any v9 2 (-1) (-1) S w14 w10.heap.size (Nat.le_of_lt z14) hS14 e14 (.inr rfl)
          rw [show ((2 : Nat) : Int) = 2 from rfl] at hfa
          refine hfa.mono ?_
          rintro e w15 ⟨rfl, k15⟩
          go_wp2_with fail
          go_ret
          exact ⟨rfl, k14'.trans (k15.mono k14'.size)⟩
      · have He := Lib.hid (show byErr p l f = (0, -1) by unfold byErr; rw [if_neg (by have := H1.out; omega), if_neg (by have := Hd.out; omega), if_neg hf])
        have hN : N0 = byGo p f lo hi 0 l := by rw [HN0.out]; unfold byV; rw [He.out]; rfl
        obtain rfl := e11.nil_of (by rw [He.out])
        have HN := Lib.hid hN
        have Hsp := Lib.hid hsp
        have f1 : ¬ f < 0 := by omega
        have f2 : ¬ 8 ≤ f := by omega
        clear hN hf hsp HN0
        go_wp2_with fail
        first | rw [← Hw11b.out] | skip
        go_loopw [17, 18] (fun nv iv wr => ∃ (k : Nat) (n : Int), k ≤ l.length ∧ iv = .int .i64 k ∧ nv = .int .i64 n ∧ N0 = byGo p f lo hi n (l.drop k) ∧ 0 ≤ n ∧ n ≤ 1500 * (k : Int) ∧ Below w11.heap.size w11 wr) (fun _ iv _ => l.length - (intOf iv).toNat)
        case atStart => exact ⟨0, 0, Nat.zero_le _, rfl, rfl, HN.out, Int.le_refl _, by omega, Below.refl _ _⟩
        case round =>
          obtain ⟨k, n, hk, rfl, rfl, hby, n0, n1, hbw⟩ := hrel
          have zw := hbw.size
          have kw := k11'.trans (hbw.mono z11')
          by_cases hlt : k < l.length
          · obtain ⟨q, o, rfl, hqq, d0, d1, d2⟩ := RdS.get (h'.below kw) hlt
            have hsk := Hsp.out _ (List.getElem_mem hlt)
            obtain ⟨m, hn⟩ : ∃ m : Nat, l[k].p = m := ⟨l[k].p.toNat, by omega⟩
            have hnl : m < p.length := by omega
            obtain ⟨b1, o1, rfl, hb1, f0, f1, f2⟩ := RdP.get (h.below kw) hnl
            have hok := hpk _ (List.getElem_mem hnl)
            obtain ⟨z, hz⟩ : ∃ z, z = p[m].s := ⟨_, rfl⟩
            obtain ⟨g, hg⟩ : ∃ g, g = p[m].f := ⟨_, rfl⟩
            obtain ⟨pa, hpa⟩ : ∃ pa, pa = p[m].a := ⟨_, rfl⟩
            have hz1 : 1 ≤ z := by rw [hz]; exact hok.2.2.1
            have hz2 : z ≤ 1500 := by rw [hz]; exact hok.2.2.2.1
            have hfl : fOf p l[k].p.toNat = g := by rw [hn, Int.toNat_natCast, fOf_of hnl, hg]
            have hsz : sOf p l[k].p.toNat = z := by rw [hn, Int.toNat_natCast, sOf_of hnl, hz]
            rw [List.drop_eq_getElem_cons hlt] at hby
            obtain ⟨x, hx⟩ : ∃ x : Sn, x = l[k] := ⟨_, rfl⟩
            rw [hn] at d0
            rw [← hx] at d1 d2 hfl hsz hby
            rw [← hg] at f0
            rw [← hz] at f1
            rw [← hpa] at f2
            have bq := (Below.refl wr.heap.size wr).alloc (Nat.le_refl _) (.cells #[.int .i64 g, .int .i64 z, .int .i64 pa] 42)
            have u2 : (wr.alloc (.cells #[.int .i64 g, .int .i64 z, .int .i64 pa] 42)).cell? ⟨q, o + k * 3 + 2, none⟩ = some (.int .i64 x.t) := (bq.cell (p := ⟨q, o + k * 3 + 2, none⟩) (World.block_lt_of_cell? _ _ d2)).trans d2
            have kq := hbw.trans (bq.mono zw)
            have p1 : (0 : Int) ≤ (k : Int) := by omega
            have p2 : (k : Int) < (l.length : Int) := by omega
            have p3 : (0 : Int) ≤ (m : Int) := by omega
            have p4 : (m : Int) < (p.length : Int) := by omega
            have s1 : -9223372036854775808 ≤ n + z := by omega
            have s2 : n + z ≤ 9223372036854775807 := by omega
            clear hn hok hg hz hpa hx hsk bq d1
            by_cases hgf : g = f
            · have j1 : (g == f) = true := by simp [hgf]
              by_cases hlo : lo < x.t
              · by_cases hhi : x.t ≤ hi
                · have Hby := Lib.hid (show N0 = byGo p f lo hi (n + z) (l.drop (k + 1)) by rw [hby]; show byGo p f lo hi (if byIn p f lo hi x = true then n + sOf p x.p.toNat else n) _ = _; rw [if_pos (by unfold byIn; rw [hfl]; exact decide_eq_true ⟨hgf, hlo, hhi⟩), hsz])
                  clear hby hfl hsz hgf
                  go_wp2_with fail
                  go_roundw
                  case rel => exact ⟨k + 1, n + z, hlt, by go_num, rfl, Hby.out, by omega, by omega, kq⟩
                  case measure => simp [intOf]; omega
                · have Hby := Lib.hid (show N0 = byGo p f lo hi n (l.drop (k + 1)) by rw [hby]; show byGo p f lo hi (if byIn p f lo hi x = true then n + sOf p x.p.toNat else n) _ = _; rw [if_neg (by unfold byIn; simp; intro _ _; omega)])
                  clear hby hfl hsz hgf
                  go_wp2_with fail
                  go_roundw
                  case rel => exact ⟨k + 1, n, hlt, by go_num, rfl, Hby.out, n0, by omega, kq⟩
                  case measure => simp [intOf]; omega
              · have Hby := Lib.hid (show N0 = byGo p f lo hi n (l.drop (k + 1)) by rw [hby]; show byGo p f lo hi (if byIn p f lo hi x = true then n + sOf p x.p.toNat else n) _ = _; rw [if_neg (by unfold byIn; simp; intro _ h9; omega)])
                clear hby hfl hsz hgf
                go_wp2_with fail
                go_roundw
                case rel => exact ⟨k + 1, n, hlt, by go_num, rfl, Hby.out, n0, by omega, kq⟩
                case measure => simp [intOf]; omega
            · have j1 : (g == f) = false := by simp [hgf]
              have Hby := Lib.hid (show N0 = byGo p f lo hi n (l.drop (k + 1)) by rw [hby]; show byGo p f lo hi (if byIn p f lo hi x = true then n + sOf p x.p.toNat else n) _ = _; rw [if_neg (by unfold byIn; rw [hfl]; simp [hgf])])
              clear hby hfl hsz hgf
              go_wp2_with fail
              go_roundw
              case rel => exact ⟨k + 1, n, hlt, by go_num, rfl, Hby.out, n0, by omega, kq⟩
              case measure => simp [intOf]; omega
          · rw [List.drop_eq_nil_of_le (by omega)] at hby
            obtain rfl : N0 = n := hby
            have je : (N0 == N0) = true := by simp
            clear HN
            go_wp2_with fail
            go_ret
            exact ⟨by simp, kw⟩
    · have He := Lib.hid (show byErr p l f = delErr p.length l by unfold byErr; rw [if_neg (by have := H1.out; omega), if_pos hd])
      obtain rfl : N0 = 0 := by rw [HN0.out]; unfold byV; rw [He.out, if_neg hd]
      have h1' : (0 : Int) < ((delErr p.length l).1 : Int) := by omega
      have h2' : (((delErr p.length l).1 : Int) == 0) = false := beq_eq_false_iff_ne.2 (by omega)
      rw [He.out] at e11
      clear hd
      go_wp2_with fail
      first | rw [← Hw11.out] | skip
      refine (faulted2_any v9 (delErr p.length l).1 (delErr p.length l).2 (delErr p.length l).2 S w11 w10.heap.size (Nat.le_of_lt z11) ((hS.below k11').more z10) e11 (.inr rfl)).mono ?_
      rintro e w15 ⟨rfl, k15⟩
      go_wp2_with fail
      go_ret
      exact ⟨rfl, k11'.trans (k15.mono z11')⟩
  · have He := Lib.hid (show byErr p l f = pktErr p by unfold byErr; rw [if_pos h1])
    obtain rfl : N0 = 0 := by rw [HN0.out]; unfold byV; rw [He.out, if_neg h1]
    have h1' : (0 : Int) < ((pktErr p).1 : Int) := by omega
    have h2' : (((pktErr p).1 : Int) == 0) = false := beq_eq_false_iff_ne.2 (by omega)
    rw [He.out] at ev
    clear h1
    go_wp2_with fail
    first | rw [← Hv.out] | skip
    refine (faulted2_any v9 (pktErr p).1 (pktErr p).2 (pktErr p).2 S v w10.heap.size (Nat.le_of_lt z7) hSv ev (.inr rfl)).mono ?_
    rintro e w12 ⟨rfl, k12⟩
    go_wp2_with fail
    go_ret
    exact ⟨rfl, kv.trans (k12.mono zv)⟩
set_option maxHeartbeats 1000000 in
theorem audl_early (A A' : Option Addr) (c c' : Nat) (p : List Pk) (per : Int) (l : List Sn) (f lo hi : Int) (S : Nat → Addr) (w : World) (h' : RdS w w.heap.size A' l) (hS : All9 w w.heap.size S) (hl : p.length ≤ 9223372036854775807) (hl' : l.length ≤ 9223372036854775807)
    (hx : fitB p.length 60 = false ∨ (fitB p.length 60 = true ∧ 80 < l.length) ∨ (fitB p.length 60 = true ∧ l.length ≤ 80 ∧ tameB l = false)) :
    Calls Tryd.prog 4 #[.slice A p.length c, .int .i64 per, .slice A' l.length c', .int .i64 f, .int .i64 lo, .int .i64 hi] w fun e w' => e = .returned (.bool true) ∧ Below w.heap.size w w' := by
  rcases hx with hx | ⟨hx, h1⟩ | ⟨hx, h1, h3⟩
  all_goals
    have Hfit := Lib.hid hx
    clear hx
  · go_enter Tryd.func4, Tryd.ntmps4
    go_wp2_with fail
    refine (audited_any S w hS).mono ?_
    rintro e w1 ⟨rfl, k1⟩
    go_wp2_with fail
    refine (fit_any A c p.length 60 _ hl).mono ?_
    rintro e wx ⟨rfl, rfl⟩
    rw [Hfit.out]
    go_wp2_with fail
    go_ret
    exact ⟨rfl, k1⟩
  · go_enter Tryd.func4, Tryd.ntmps4
    go_wp2_with fail
    refine (audited_any S w hS).mono ?_
    rintro e w1 ⟨rfl, k1⟩
    go_wp2_with fail
    refine (fit_any A c p.length 60 _ hl).mono ?_
    rintro e wx ⟨rfl, rfl⟩
    rw [Hfit.out]
    go_wp2_with fail
    go_ret
    exact ⟨rfl, k1⟩
  · have Htm := Lib.hid (tameN_no h3)
    clear h3
    go_enter Tryd.func4, Tryd.ntmps4
    go_wp2_with fail
    refine (audited_any S w hS).mono ?_
    rintro e w1 ⟨rfl, k1⟩
    go_wp2_with fail
    refine (fit_any A c p.length 60 _ hl).mono ?_
    rintro e wx ⟨rfl, rfl⟩
    rw [Hfit.out]
    go_wp2_with fail
    refine (tame_any A' c' l _ _ (h'.below k1) (by omega)).mono ?_
    rintro e wx ⟨rfl, rfl⟩
    rw [Htm.out]
    go_wp2_with fail
    go_ret
    exact ⟨rfl, k1⟩
theorem auditChecks_any (A : Option Addr) (c : Nat) (p : List Pk) (per : Int) (A' : Option Addr) (c' : Nat) (l : List Sn) (f lo hi : Int) (S : Nat → Addr) (w : World) (h : RdP w w.heap.size A p) (h' : RdS w w.heap.size A' l) (hS : All9 w w.heap.size S) (hl : p.length ≤ 9223372036854775807) (hl' : l.length ≤ 9223372036854775807) :
    Calls Tryd.prog 4 #[.slice A p.length c, .int .i64 per, .slice A' l.length c', .int .i64 f, .int .i64 lo, .int .i64 hi] w fun e w' => e = .returned (.bool true) ∧ Below w.heap.size w w' := by
  cases hfit : fitB p.length 60
  · exact audl_early A A' c c' p per l f lo hi S w h' hS hl hl' (.inl hfit)
  · by_cases h1 : l.length ≤ 80
    · cases h3 : tameB l
      · exact audl_early A A' c c' p per l f lo hi S w h' hS hl hl' (.inr (.inr ⟨hfit, h1, h3⟩))
      · exact audl_main A A' c c' p per l f lo hi S w h h' hS hfit h1 h3
    · exact audl_early A A' c c' p per l f lo hi S w h' hS hl hl' (.inr (.inl ⟨hfit, by omega⟩))
end Go.Proofs.YthgpbdlmadjndaaDoor
