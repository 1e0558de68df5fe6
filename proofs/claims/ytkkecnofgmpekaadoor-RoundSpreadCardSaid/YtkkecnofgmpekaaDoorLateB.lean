/- floodgatelaw2.lateOf. Conditions: packets and numbers in bounds, ticks not too great. The law RankLate returns true, whatever its arguments, and changes nothing that was there. Condition: the nine sentinels lie in their variables, apart; errors.errorType holds the type error. -/
import Derived.Test.YtkkecnofgmpekaaDoorSentRef
import Derived.Test.YtkkecnofgmpekaaDoorPkRefB
import Derived.Test.YtkkecnofgmpekaaDoorCoded2
namespace Go.Proofs.YtkkecnofgmpekaaDoor
open Go.RowKit
set_option maxRecDepth 100000
set_option maxHeartbeats 2000000 in
theorem lateOf_any (A A' A'' : Option Addr) (c c' c'' : Nat) (p : List Pk) (l : List Sn) (dues : List Int) (w : World) (B : Nat) (hB : B ≤ w.heap.size) (h : RdP w B A p) (h' : RdS w B A' l) (h'' : RdI w B A'' dues) (hl : p.length ≤ 9223372036854775807) (hl' : l.length ≤ 4294967296)
    (hpk : ∀ x ∈ p, okPk x) (h8 : dues.length = 8) (hdu : ∀ n ∈ dues, 0 ≤ n ∧ n ≤ 1099511627776) (hsp : ∀ x ∈ l, 0 ≤ x.p ∧ x.p < p.length) (ht : ∀ x ∈ l, tame50 x.t) :
    Calls Tryd.prog 44 #[.slice A p.length c, .slice A' l.length c', .slice A'' dues.length c''] w fun e w' => e = .returned (.int .i64 (lateGo p dues 0 l)) ∧ Below w.heap.size w w' := by
  have H8 := Lib.hid h8
  clear h8
  go_enter Tryd.func44, Tryd.ntmps44
  go_wp2_with fail
  go_loopw [7, 8] (fun n i wr => ∃ (k : Nat) (m : Int), k ≤ l.length ∧ i = .int .i64 k ∧ n = .int .i64 m ∧ lateGo p dues 0 l = lateGo p dues m (l.drop k) ∧ Below w.heap.size w wr) (fun _ i _ => l.length - (intOf i).toNat)
  case atStart => exact ⟨0, 0, Nat.zero_le _, rfl, rfl, rfl, Below.refl _ _⟩
  case round =>
    obtain ⟨k, m, hk, rfl, rfl, hg, hbw⟩ := hrel
    have zw := hbw.size
    by_cases hlt : k < l.length
    · have hdr : l.drop k = l[k] :: l.drop (k + 1) := List.drop_eq_getElem_cons hlt
      obtain ⟨b, o, rfl, hb, d0, d1, d2⟩ := RdS.get (h'.below (hbw.mono hB)) hlt
      have hx := hsp _ (List.getElem_mem hlt)
      obtain ⟨n, hn⟩ : ∃ n : Nat, l[k].p = n := ⟨l[k].p.toNat, by omega⟩
      have hnl : n < p.length := by omega
      obtain ⟨b1, o1, rfl, hb1, e0, e1, e2⟩ := RdP.get (h.below (hbw.mono hB)) hnl
      have hok := hpk _ (List.getElem_mem hnl)
      obtain ⟨f, hf⟩ : ∃ f : Nat, p[n].f = f := ⟨p[n].f.toNat, by have := hok.1; omega⟩
      have hfl : f < dues.length := by rw [H8.out]; have := hok.2.1; omega
      obtain ⟨b2, o2, rfl, hb2, f0⟩ := RdI.get (h''.below (hbw.mono hB)) hfl
      rw [hn] at d0
      rw [hf] at e0
      have t1 := ht _ (List.getElem_mem hlt)
      have t2 := hok.2.2.2.2
      have t3 := hdu _ (List.getElem_mem hfl)
      unfold tame50 at t1
      obtain ⟨t11, t12⟩ := t1
      obtain ⟨t21, t22⟩ := t2
      obtain ⟨t31, t32⟩ := t3
      have hy : lateY p dues l[k] = l[k].t - p[n].a - dues[f] := by
        unfold lateY
        rw [hn, Int.toNat_natCast, aOf_of hnl, fOf_of hnl, hf, Int.toNat_natCast]
        simp [List.getD, hfl]
      have hg2 : lateGo p dues 0 l = lateGo p dues (if m < l[k].t - p[n].a - dues[f] then l[k].t - p[n].a - dues[f] else m) (l.drop (k + 1)) := by
        rw [hg, hdr, ← hy]; rfl
      have q1 : (0 : Int) ≤ (n : Int) := by omega
      have q2 : (n : Int) < (p.length : Int) := by omega
      have q3 : (0 : Int) ≤ (f : Int) := by omega
      have q4 : (f : Int) < (dues.length : Int) := by omega
      have q5 : (k : Int) < (l.length : Int) := by omega
      have q6 : (0 : Int) ≤ (k : Int) := by omega
      clear hg hdr hx hn hok hy
      obtain ⟨v, hv⟩ : ∃ v : World, v = wr.alloc (.cells #[.int .i64 f, .int .i64 p[n].s, .int .i64 p[n].a] 32) := ⟨_, rfl⟩
      have kv : Below wr.heap.size wr v := by rw [hv]; exact (Below.refl _ _).alloc (Nat.le_refl _) _
      have x0 : v.cell? ⟨wr.heap.size, 0, none⟩ = some (.int .i64 f) := by rw [hv]; exact (Blk.new wr 32 #[.int .i64 f, .int .i64 p[n].s, .int .i64 p[n].a]).cell 0
      have x2 : v.cell? ⟨wr.heap.size, 2, none⟩ = some (.int .i64 p[n].a) := by rw [hv]; exact (Blk.new wr 32 #[.int .i64 f, .int .i64 p[n].s, .int .i64 p[n].a]).cell 2
      have m1 : v.cell? ⟨b, o + k * 3 + 2, none⟩ = some (.int .i64 l[k].t) := (kv.cell (p := ⟨b, o + k * 3 + 2, none⟩) (by simp only; omega)).trans d2
      have m2 : v.cell? ⟨b2, o2 + f, none⟩ = some (.int .i64 dues[f]) := (kv.cell (p := ⟨b2, o2 + f, none⟩) (by simp only; omega)).trans f0
      have Hv2 := Lib.hid hv
      have Hf := Lib.hid hf
      clear hv hf
      by_cases hc : m < l[k].t - p[n].a - dues[f]
      · rw [if_pos hc] at hg2
        have Hg := Lib.hid hg2
        clear hg2
        go_wp2_with fail
        rw [← Hv2.out]
        go_quiet (fail)
        go_wp2_with fail
        go_quiet (fail)
        go_wp2_with fail
        go_roundw
        case rel => exact ⟨k + 1, _, hlt, by go_num, rfl, Hg.out, below_drewN (hbw.trans (kv.mono zw)) _⟩
        case measure => simp [intOf]; omega
      · rw [if_neg hc] at hg2
        have Hg := Lib.hid hg2
        have hc2 : l[k].t - p[n].a - dues[f] ≤ m := by omega
        clear hg2 hc
        go_wp2_with fail
        rw [← Hv2.out]
        go_quiet (fail)
        go_wp2_with fail
        go_roundw
        case rel => exact ⟨k + 1, m, hlt, by go_num, rfl, Hg.out, below_drewN (hbw.trans (kv.mono zw)) _⟩
        case measure => simp [intOf]; omega
    · rw [List.drop_eq_nil_of_le (by omega)] at hg
      have Hg := Lib.hid hg
      clear hg
      go_wp2_with fail
      go_ret
      exact ⟨ret_int Hg.out.symm, hbw⟩
end Go.Proofs.YtkkecnofgmpekaaDoor
namespace Go.Proofs.YtkkecnofgmpekaaDoor
open Go.RowKit
set_option maxRecDepth 100000
theorem tameN_of {l : List Sn} (h : tameB l = true) : tameN l = 1 := by unfold tameN; rw [h]; rfl
theorem tameN_off {l : List Sn} (h : tameB l = false) : tameN l = 0 := by unfold tameN; rw [h]; rfl
/-- A fault in a block of its own, turned. -/
theorem fv_store {w : World} {g : Nat} {k a k' a' : Int} (h : Blk w g 48 #[.int .i64 k, .int .i64 a]) : Blk ((w.setCell ⟨g, 0, none⟩ (.int .i64 k')).setCell ⟨g, 1, none⟩ (.int .i64 a')) g 48 #[.int .i64 k', .int .i64 a'] := (h.set_ 0 (.int .i64 k')).set_ 1 (.int .i64 a')
theorem fv_below {B : Nat} {w w1 : World} {g : Nat} {k a : Int} (h : Below B w w1) (hg : B ≤ g) : Below B w ((w1.setCell ⟨g, 0, none⟩ (.int .i64 k)).setCell ⟨g, 1, none⟩ (.int .i64 a)) := (h.setCell (p := ⟨g, 0, none⟩) hg _).setCell (p := ⟨g, 1, none⟩) hg _
theorem fv_size (w : World) (g : Nat) (k a : Int) : ((w.setCell ⟨g, 0, none⟩ (.int .i64 k)).setCell ⟨g, 1, none⟩ (.int .i64 a)).heap.size = w.heap.size := by rw [setCell_size, setCell_size]
set_option maxHeartbeats 4000000 in
theorem latel_main (A A' A'' : Option Addr) (c c' c'' : Nat) (p : List Pk) (l : List Sn) (dues : List Int) (S : Nat → Addr) (w : World) (h : RdP w w.heap.size A p) (h' : RdS w w.heap.size A' l) (h'' : RdI w w.heap.size A'' dues) (hS : All9 w w.heap.size S) (hfit : fitB p.length 80 = true) (hl1 : l.length ≤ 100) (h30 : dues.length ≤ 30) (htm : tameB l = true) :
    Calls Tryd.prog 11 #[.slice A p.length c, .slice A' l.length c', .slice A'' dues.length c''] w fun e w' => e = .returned (.bool true) ∧ Below w.heap.size w w' := by
  have hle : p.length ≤ 301 := by have := of_decide_eq_true hfit; omega
  have hl : p.length ≤ 9223372036854775807 := by omega
  have Hfit := Lib.hid hfit
  have Htm := Lib.hid (tameN_of htm)
  have Ht := Lib.hid (tameB_of htm)
  obtain ⟨i0, hi0, hz0, hz1, hz2⟩ := info_parts infoInt
  clear hfit htm
  go_enter Tryd.func11, Tryd.ntmps11
  go_wp2_with fail
  refine (sends_any S w _ (Nat.le_refl _) (hS.s.sub (by simp))).mono ?_
  rintro e w1 ⟨rfl, k1⟩
  go_wp2_with fail
  refine (fit_any A c p.length 80 _ hl).mono ?_
  rintro e wx ⟨rfl, rfl⟩
  rw [Hfit.out]
  go_wp2_with fail
  refine (tame_any A' c' l _ _ (h'.below k1) (by omega)).mono ?_
  rintro e wx ⟨rfl, rfl⟩
  rw [Htm.out]
  go_wp2_with fail
  refine (ownPackets_any A c p w1 _ (h.below k1) (by omega)).mono ?_
  rintro e w2 ⟨A2, c2, rfl, o2, k2⟩
  have r2 := RdP.of_own o2
  have k2' := k1.trans (k2.mono k1.size)
  clear o2
  go_wp2_with fail
  refine (ownSent_any A' c' l w2 _ (h'.below k2') (by omega)).mono ?_
  rintro e w3 ⟨A3, c3, rfl, o3, k3⟩
  have r3 := RdS.of_own o3
  have k3' := k2'.trans (k3.mono k2'.size)
  clear o3
  go_wp2_with (at_builtin; refine wpList_append_rd _ iCs rfl (.tmp 41) (.tmp 42) 35 rfl w3.heap.size 3 i0 (.int .i64 0) 1 8 Tryd.underlying35 hi0 hz0 hz1 hz2 rfl (by omega) iCs_len iCs_one (.slice none 0 0) 0 [] rfl ⟨by simp, .inl ⟨rfl, rfl⟩⟩ w.heap.size A'' c'' dues rfl (h''.below k3') (by simp only [maxLen]; omega) (by omega) (Nat.le_refl _) ?_; intro v4 w4 row4 g4 at4; simp only [Nat.zero_add, List.nil_append] at row4; obtain ⟨A4, c4, rfl⟩ := own_slice row4 (by omega); have k4 : Below w3.heap.size w3 w4 := (Below.refl _ _).grown g4 (Nat.le_refl _) (by simp [Value.ownBlock]))
  have k4' := k3'.trans (k4.mono k3'.size)
  have r4 : RdI w4 w4.heap.size A4 dues := Rd.of_own row4 (by omega) iCs_len
  refine (late_any A2 A3 A4 c2 c3 c4 p l dues S w4 _ (Nat.le_refl _) ((r2.below (k3.trans (k4.mono k3.size))).more (Nat.le_trans k3.size k4.size)) ((r3.below k4).more k4.size) r4 (((hS.s.below k4').more k4'.size).sub (by simp)) hl (by omega) (by omega) Ht.out).mono ?_
  rintro e w5 ⟨v5, rfl, e5, k5⟩
  have k5' := k4'.trans (k5.mono k4'.size)
  clear r2 r3 r4 row4
  go_wp2_with fail
  refine (packetsFault_any A c p w5 _ k5'.size (h.below k5') hl).mono ?_
  rintro e w6 ⟨rfl, k6⟩
  have k6' := k5'.trans (k6.mono k5'.size)
  have e6 := e5.below k6
  have z6 := k6'.size
  have z56 := k6.size
  clear e5
  unfold fv
  obtain ⟨v, hv⟩ : ∃ v : World, v = w6.alloc (.cells #[.int .i64 (pktErr p).1, .int .i64 (pktErr p).2] 48) := ⟨_, rfl⟩
  have b7 : Blk v w6.heap.size 48 #[.int .i64 (pktErr p).1, .int .i64 (pktErr p).2] := by rw [hv]; exact Blk.new _ _ _
  have k7 : Below w6.heap.size w6 v := by rw [hv]; exact (Below.refl _ _).alloc (Nat.le_refl _) _
  have z7 : w6.heap.size < v.heap.size := b7.lt
  have k7' := k6'.trans (k7.mono z6)
  have x0 : v.cell? ⟨w6.heap.size, 0, none⟩ = some (.int .i64 (pktErr p).1) := b7.cell 0
  have x1 : v.cell? ⟨w6.heap.size, 1, none⟩ = some (.int .i64 (pktErr p).2) := b7.cell 1
  have y0 := b7.frozen 0
  have y1 := b7.frozen 1
  have Hv := Lib.hid hv
  have B7 := Lib.hid b7
  have e7 : Er v w6.heap.size S v5 (lateErr p l dues).1 (lateErr p l dues).2 := (e6.more z56).below k7
  clear hv b7 e6
  by_cases h1 : (pktErr p).1 = 0
  · have hpk := pktErr_okPk h1
    have hc := pktErr_nil h1
    rw [hc] at x0 x1 ⊢
    have Hv2 := Lib.hid (show v = w6.alloc (.cells #[.int .i64 0, .int .i64 (-1)] 48) by rw [Hv.out, hc]; rfl)
    have B72 := Lib.hid (show Blk v w6.heap.size 48 #[.int .i64 0, .int .i64 (-1)] by have := B7.out; rw [hc] at this; exact this)
    clear hc
    obtain ⟨en, hen⟩ : ∃ en, en = numErr dues 1099511627776 := ⟨_, rfl⟩
    have Hen := Lib.hid hen
    have Hen2 := Lib.hid (show numE dues 0 1099511627776 = en by rw [hen, numE_eq])
    clear hen
    have hen0 : 0 ≤ (en : Int) := Int.natCast_nonneg en
    go_wp2_with fail
    rw [← Hv2.out]
    refine (numbersError_any A'' c'' dues 0 1099511627776 v _ (h''.below k7') (by omega)).mono ?_
    rintro e wx ⟨rfl, rfl⟩
    rw [Hen2.out]
    go_wp2_with fail
    refine (bare_any en v).mono ?_
    rintro e w8 ⟨rfl, k8⟩
    have b8 := B72.out.below k8 z7
    have c80 := b8.cell 0
    have c81 := b8.cell 1
    have f80 := b8.frozen 0
    have f81 := b8.frozen 1
    simp only [List.getElem?_toArray, List.getElem?_cons_zero, List.getElem?_cons_succ] at c80 c81
    obtain ⟨w9, hw9⟩ : ∃ w9, w9 = (w8.setCell ⟨w6.heap.size, 0, none⟩ (.int .i64 en)).setCell ⟨w6.heap.size, 1, none⟩ (.int .i64 (-1)) := ⟨_, rfl⟩
    have b9 : Blk w9 w6.heap.size 48 #[.int .i64 en, .int .i64 (-1)] := by rw [hw9]; exact fv_store b8
    have k9 : Below w6.heap.size v w9 := by rw [hw9]; exact fv_below (k8.mono (Nat.le_of_lt z7)) (Nat.le_refl _)
    have k9' := k7'.trans (k9.mono z6)
    have z9 : w6.heap.size < w9.heap.size := b9.lt
    have z9' := k9'.size
    have e9 := e7.below k9
    have c90 : w9.cell? ⟨w6.heap.size, 0, none⟩ = some (.int .i64 en) := b9.cell 0
    have c91 : w9.cell? ⟨w6.heap.size, 1, none⟩ = some (.int .i64 (-1)) := b9.cell 1
    have hS9' := (hS.below k9').more z6
    have Hw9 := Lib.hid hw9
    have B9 := Lib.hid b9
    unfold fv
    clear hw9 b9 b8
    by_cases hz : en = 0
    · subst hz
      have hn0 : numErr dues 1099511627776 = 0 := Hen.out.symm
      obtain ⟨h8, hdu⟩ := numErr_ok hn0
      have H8 := Lib.hid h8
      have He := Lib.hid (show lateErr p l dues = delErr p.length l by unfold lateErr; rw [if_neg (by omega), if_neg (by omega)])
      clear h8 hn0
      have c90' : ((w8.setCell ⟨w6.heap.size, 0, none⟩ (.int .i64 0)).setCell ⟨w6.heap.size, 1, none⟩ (.int .i64 (-1))).cell? ⟨w6.heap.size, 0, none⟩ = some (.int .i64 0) := by have := c90; rw [Hw9.out] at this; exact this
      go_wp2_with fail
      have Hw90 := Lib.hid (show w9 = (w8.setCell ⟨w6.heap.size, 0, none⟩ (.int .i64 0)).setCell ⟨w6.heap.size, 1, none⟩ (.int .i64 (-1)) from Hw9.out)
      rw [← Hw90.out]
      refine (sentFault_any A A' c c' p.length l w9 _ z9' (h'.below k9') hl (by omega)).mono ?_
      rintro e w10 ⟨rfl, k10⟩
      have b10 := B9.out.below k10 z9
      have c10 := b10.cell 0
      have c11 := b10.cell 1
      have f10 := b10.frozen 0
      have f11 := b10.frozen 1
      simp only [List.getElem?_toArray, List.getElem?_cons_zero, List.getElem?_cons_succ] at c10 c11
      have b11 : Blk ((w10.setCell ⟨w6.heap.size, 0, none⟩ (.int .i64 (delErr p.length l).1)).setCell ⟨w6.heap.size, 1, none⟩ (.int .i64 (delErr p.length l).2)) w6.heap.size 48 #[.int .i64 (delErr p.length l).1, .int .i64 (delErr p.length l).2] := fv_store b10
      have k11 : Below w6.heap.size w9 ((w10.setCell ⟨w6.heap.size, 0, none⟩ (.int .i64 (delErr p.length l).1)).setCell ⟨w6.heap.size, 1, none⟩ (.int .i64 (delErr p.length l).2)) := fv_below (k10.mono (Nat.le_of_lt z9)) (Nat.le_refl _)
      obtain ⟨w11, hw11⟩ : ∃ w11, w11 = (w10.setCell ⟨w6.heap.size, 0, none⟩ (.int .i64 (delErr p.length l).1)).setCell ⟨w6.heap.size, 1, none⟩ (.int .i64 (delErr p.length l).2) := ⟨_, rfl⟩
      rw [← hw11] at b11 k11
      have Hw11 := Lib.hid hw11
      have k11' := k9'.trans (k11.mono z6)
      have z11 : w6.heap.size < w11.heap.size := b11.lt
      have z11' := k11'.size
      have e11 := e9.below k11
      have d0 : w11.cell? ⟨w6.heap.size, 0, none⟩ = some (.int .i64 (delErr p.length l).1) := b11.cell 0
      have d1 : w11.cell? ⟨w6.heap.size, 1, none⟩ = some (.int .i64 (delErr p.length l).2) := b11.cell 1
      rw [He.out] at e11
      unfold fv
      clear hw11 b10 b11
      by_cases hd : (delErr p.length l).1 = 0
      · obtain ⟨hbad, hde⟩ := delErr_ok hd
        have hsp := sentBad_ok hbad
        have Hv4 := Lib.hid (show lateV p l dues = lateGo p dues 0 l by unfold lateV; rw [He.out, if_pos hd])
        have Hw11b := Lib.hid (show w11 = (w10.setCell ⟨w6.heap.size, 0, none⟩ (.int .i64 0)).setCell ⟨w6.heap.size, 1, none⟩ (.int .i64 (-1)) by rw [Hw11.out, hde]; rfl)
        rw [hde] at d0 d1 e11 ⊢
        obtain rfl := e11.nil_of rfl
        rw [Hv4.out]
        clear hde hd hbad
        go_wp2_with fail
        first | rw [← Hw11b.out] | skip
        refine (lateOf_any A A' A'' c c' c'' p l dues w11 _ z11' (h.below k11') (h'.below k11') (h''.below k11') hl (by omega) hpk H8.out hdu hsp Ht.out).mono ?_
        rintro e w12 ⟨rfl, k12⟩
        go_wp2_with fail
        go_ret
        exact ⟨by simp, k11'.trans (k12.mono z11')⟩
      · have Hv4 := Lib.hid (show lateV p l dues = 0 by unfold lateV; rw [He.out, if_neg hd])
        have h1' : (0 : Int) < ((delErr p.length l).1 : Int) := by omega
        rw [Hv4.out]
        clear hd
        go_wp2_with fail
        first | rw [← Hw11.out] | skip
        refine (faulted2_any v5 (delErr p.length l).1 (delErr p.length l).2 (delErr p.length l).2 S w11 w6.heap.size (Nat.le_of_lt z11) ((hS.below k11').more z6) e11 (.inr rfl)).mono ?_
        rintro e w12 ⟨rfl, k12⟩
        go_wp2_with fail
        go_ret
        exact ⟨rfl, k11'.trans (k12.mono z11')⟩
    · have He := Lib.hid (show lateErr p l dues = (en, -1) by unfold lateErr; rw [if_neg (by omega), if_pos (by rw [← Hen.out]; exact hz), ← Hen.out])
      have Hv4 := Lib.hid (show lateV p l dues = 0 by unfold lateV; rw [He.out, if_neg hz])
      have h1' : (0 : Int) < (en : Int) := by omega
      have h2' : ((en : Int) == 0) = false := beq_eq_false_iff_ne.2 (by omega)
      rw [Hv4.out]
      rw [He.out] at e9
      clear hz
      go_wp2_with fail
      first | rw [← Hw9.out] | skip
      refine (faulted2_any v5 en (-1) (-1) S w9 w6.heap.size (Nat.le_of_lt z9) hS9' e9 (.inr rfl)).mono ?_
      rintro e w12 ⟨rfl, k12⟩
      go_wp2_with fail
      go_ret
      exact ⟨rfl, k9'.trans (k12.mono z9')⟩
  · have He := Lib.hid (show lateErr p l dues = pktErr p by unfold lateErr; rw [if_pos h1])
    have Hv4 := Lib.hid (show lateV p l dues = 0 by unfold lateV; rw [He.out, if_neg h1])
    have h1' : (0 : Int) < ((pktErr p).1 : Int) := by omega
    have h2' : (((pktErr p).1 : Int) == 0) = false := beq_eq_false_iff_ne.2 (by omega)
    rw [Hv4.out]
    rw [He.out] at e7
    clear h1
    go_wp2_with fail
    first | rw [← Hv.out] | skip
    refine (faulted2_any v5 (pktErr p).1 (pktErr p).2 (pktErr p).2 S v w6.heap.size (Nat.le_of_lt z7) ((hS.below k7').more z6) e7 (.inr rfl)).mono ?_
    rintro e w12 ⟨rfl, k12⟩
    go_wp2_with fail
    go_ret
    exact ⟨rfl, k7'.trans (k12.mono k7'.size)⟩
set_option maxHeartbeats 1000000 in
theorem latel_early (A A' A'' : Option Addr) (c c' c'' : Nat) (p : List Pk) (l : List Sn) (dues : List Int) (S : Nat → Addr) (w : World) (h' : RdS w w.heap.size A' l) (hS : All9 w w.heap.size S) (hl : p.length ≤ 9223372036854775807) (hl' : l.length ≤ 9223372036854775807) (hl'' : dues.length ≤ 9223372036854775807)
    (hx : fitB p.length 80 = false ∨ (fitB p.length 80 = true ∧ 100 < l.length) ∨ (fitB p.length 80 = true ∧ l.length ≤ 100 ∧ 30 < dues.length) ∨ (fitB p.length 80 = true ∧ l.length ≤ 100 ∧ dues.length ≤ 30 ∧ tameB l = false)) :
    Calls Tryd.prog 11 #[.slice A p.length c, .slice A' l.length c', .slice A'' dues.length c''] w fun e w' => e = .returned (.bool true) ∧ Below w.heap.size w w' := by
  rcases hx with hx | ⟨hx, h1⟩ | ⟨hx, h1, h2⟩ | ⟨hx, h1, h2, h3⟩
  all_goals
    have Hfit := Lib.hid hx
    clear hx
  · go_enter Tryd.func11, Tryd.ntmps11
    go_wp2_with fail
    refine (sends_any S w _ (Nat.le_refl _) (hS.s.sub (by simp))).mono ?_
    rintro e w1 ⟨rfl, k1⟩
    go_wp2_with fail
    refine (fit_any A c p.length 80 _ hl).mono ?_
    rintro e wx ⟨rfl, rfl⟩
    rw [Hfit.out]
    go_wp2_with fail
    go_ret
    exact ⟨rfl, k1⟩
  · go_enter Tryd.func11, Tryd.ntmps11
    go_wp2_with fail
    refine (sends_any S w _ (Nat.le_refl _) (hS.s.sub (by simp))).mono ?_
    rintro e w1 ⟨rfl, k1⟩
    go_wp2_with fail
    refine (fit_any A c p.length 80 _ hl).mono ?_
    rintro e wx ⟨rfl, rfl⟩
    rw [Hfit.out]
    go_wp2_with fail
    go_ret
    exact ⟨rfl, k1⟩
  · go_enter Tryd.func11, Tryd.ntmps11
    go_wp2_with fail
    refine (sends_any S w _ (Nat.le_refl _) (hS.s.sub (by simp))).mono ?_
    rintro e w1 ⟨rfl, k1⟩
    go_wp2_with fail
    refine (fit_any A c p.length 80 _ hl).mono ?_
    rintro e wx ⟨rfl, rfl⟩
    rw [Hfit.out]
    go_wp2_with fail
    go_ret
    exact ⟨rfl, k1⟩
  · have Htm := Lib.hid (tameN_off h3)
    clear h3
    go_enter Tryd.func11, Tryd.ntmps11
    go_wp2_with fail
    refine (sends_any S w _ (Nat.le_refl _) (hS.s.sub (by simp))).mono ?_
    rintro e w1 ⟨rfl, k1⟩
    go_wp2_with fail
    refine (fit_any A c p.length 80 _ hl).mono ?_
    rintro e wx ⟨rfl, rfl⟩
    rw [Hfit.out]
    go_wp2_with fail
    refine (tame_any A' c' l _ _ (h'.below k1) (by omega)).mono ?_
    rintro e wx ⟨rfl, rfl⟩
    rw [Htm.out]
    go_wp2_with fail
    go_ret
    exact ⟨rfl, k1⟩
theorem rankLate_any (A : Option Addr) (c : Nat) (p : List Pk) (A' : Option Addr) (c' : Nat) (l : List Sn) (A'' : Option Addr) (c'' : Nat) (dues : List Int) (S : Nat → Addr) (w : World) (h : RdP w w.heap.size A p) (h' : RdS w w.heap.size A' l) (h'' : RdI w w.heap.size A'' dues) (hS : All9 w w.heap.size S) (hl : p.length ≤ 9223372036854775807) (hl' : l.length ≤ 9223372036854775807) (hl'' : dues.length ≤ 9223372036854775807) :
    Calls Tryd.prog 11 #[.slice A p.length c, .slice A' l.length c', .slice A'' dues.length c''] w fun e w' => e = .returned (.bool true) ∧ Below w.heap.size w w' := by
  cases hfit : fitB p.length 80
  · exact latel_early A A' A'' c c' c'' p l dues S w h' hS hl hl' hl'' (.inl hfit)
  · by_cases h1 : l.length ≤ 100
    · by_cases h2 : dues.length ≤ 30
      · cases h3 : tameB l
        · exact latel_early A A' A'' c c' c'' p l dues S w h' hS hl hl' hl'' (.inr (.inr (.inr ⟨hfit, h1, h2, h3⟩)))
        · exact latel_main A A' A'' c c' c'' p l dues S w h h' h'' hS hfit h1 h2 h3
      · exact latel_early A A' A'' c c' c'' p l dues S w h' hS hl hl' hl'' (.inr (.inr (.inl ⟨hfit, h1, by omega⟩)))
    · exact latel_early A A' A'' c c' c'' p l dues S w h' hS hl hl' hl'' (.inr (.inl ⟨hfit, by omega⟩))
end Go.Proofs.YtkkecnofgmpekaaDoor
