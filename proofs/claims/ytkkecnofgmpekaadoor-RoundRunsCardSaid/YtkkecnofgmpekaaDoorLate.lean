/- Package rank's Late. Conditions: ticks are not too great; the sentinels that it names lie in their variables. -/
import Derived.Test.YtkkecnofgmpekaaDoorDelays
import Derived.StillTailTactics
namespace Go.Proofs.YtkkecnofgmpekaaDoor
open Go.RowKit
set_option maxRecDepth 100000
def lateY (p : List Pk) (dues : List Int) (x : Sn) : Int := x.t - aOf p x.p.toNat - dues.getD (fOf p x.p.toNat).toNat 0
def lateGo (p : List Pk) (dues : List Int) : Int → List Sn → Int
  | n, [] => n
  | n, x :: r => lateGo p dues (if n < lateY p dues x then lateY p dues x else n) r
def lateErr (p : List Pk) (l : List Sn) (dues : List Int) : Nat × Int := if (pktErr p).1 ≠ 0 then pktErr p else if numErr dues 1099511627776 ≠ 0 then (numErr dues 1099511627776, -1) else delErr p.length l
def lateV (p : List Pk) (l : List Sn) (dues : List Int) : Int := if (lateErr p l dues).1 = 0 then lateGo p dues 0 l else 0
theorem numErr_ok {l : List Int} {most : Int} (h : numErr l most = 0) : l.length = 8 ∧ ∀ n ∈ l, 0 ≤ n ∧ n ≤ most := by
  unfold numErr at h
  by_cases h8 : l.length = 8
  · rw [if_pos h8] at h
    by_cases ho : 0 ≤ outIdx most l 0
    · rw [if_pos ho] at h; omega
    · exact ⟨h8, outIdx_none ho⟩
  · rw [if_neg h8] at h; omega
set_option maxHeartbeats 2000000 in
theorem late_any (A A' A'' : Option Addr) (c c' c'' : Nat) (p : List Pk) (l : List Sn) (dues : List Int) (S : Nat → Addr) (w : World) (B : Nat) (hB : B ≤ w.heap.size) (h : RdP w B A p) (h' : RdS w B A' l) (h'' : RdI w B A'' dues) (hS : Snt w B S [2, 3, 4, 5]) (hl : p.length ≤ 9223372036854775807) (hl' : l.length ≤ 4294967296) (hl'' : dues.length ≤ 9223372036854775807)
    (ht : ∀ x ∈ l, tame50 x.t) :
    Calls Tryd.prog 25 #[.slice A p.length c, .slice A' l.length c', .slice A'' dues.length c''] w (EndVEr (.int .i64 (lateV p l dues)) S (lateErr p l dues).1 (lateErr p l dues).2 w) := by
  by_cases h1 : (pktErr p).1 = 0
  · have hpk := pktErr_okPk h1
    have Hc := Lib.hid (pktErr_nil h1)
    by_cases h2 : numErr dues 1099511627776 = 0
    · obtain ⟨h8, hdu⟩ := numErr_ok h2
      have Hn := Lib.hid h2
      have He := Lib.hid (show lateErr p l dues = delErr p.length l by unfold lateErr; rw [if_neg (by omega), if_neg (by omega)])
      have hta : ∀ x ∈ p, tame50 x.a := fun x hx => by
        have := (hpk x hx).2.2.2.2
        unfold tame50
        omega
      have H8 := Lib.hid h8
      clear h1 h2 h8
      by_cases h3 : (delErr p.length l).1 = 0
      · obtain ⟨hbad, hd0⟩ := delErr_ok h3
        have hsp := sentBad_ok hbad
        have Hd := Lib.hid hd0
        have Hv := Lib.hid (show lateV p l dues = lateGo p dues 0 l by unfold lateV; rw [He.out, hd0]; rfl)
        have Ho := Lib.hid (show delOut p l = delL p l from if_pos hbad)
        have Hdl := Lib.hid (show (delL p l).length = l.length by simp [delL])
        clear h3 hbad hd0
        go_enter Tryd.func25, Tryd.ntmps25
        go_wp2_with fail
        refine (pcheck_any A c p S _ B hB h (hS.sub (by simp)) hl).mono ?_
        rintro e w1 ⟨v, rfl, hv, k1⟩
        obtain rfl := hv.nil_of (by rw [Hc.out])
        have z1 := k1.size
        go_wp2_with fail
        refine (rnumbers_any A'' c'' dues 1099511627776 S w1 B (by omega) (h''.below (k1.mono hB)) ((hS.below (k1.mono hB)).sub (by simp)) hl'').mono ?_
        rintro e w2 ⟨v, rfl, hv, k2⟩
        obtain rfl := hv.nil_of Hn.out
        have k2' := k1.trans (k2.mono z1)
        have z2 := k2'.size
        go_wp2_with fail
        refine (delays_any A A' c c' p l S w2 B (by omega) (h.below (k2'.mono hB)) (h'.below (k2'.mono hB)) ((hS.below (k2'.mono hB)).sub (by simp)) hl hl' ht hta).mono ?_
        rintro e w3 ⟨A3, c3, v, rfl, o3, hv, k3⟩
        obtain rfl := hv.nil_of (by rw [Hd.out])
        have k3' := k2'.trans (k3.mono z2)
        have z3 := k3'.size
        rw [Ho.out] at o3 ⊢
        have r3 : RdI w3 w3.heap.size A3 (delL p l) := Rd.of_own o3 (by omega) iCs_len
        rw [Hdl.out]
        clear o3 hv
        go_wp2_with fail
        go_loopw [12, 36] (fun n i wr => ∃ (k : Nat) (m : Int), k ≤ l.length ∧ i = .int .i64 k ∧ n = .int .i64 m ∧ lateGo p dues 0 l = lateGo p dues m (l.drop k) ∧ Below w3.heap.size w3 wr) (fun _ i _ => l.length - (intOf i).toNat)
        case atStart => exact ⟨0, 0, Nat.zero_le _, rfl, rfl, rfl, Below.refl _ _⟩
        case round =>
          obtain ⟨k, m, hk, rfl, rfl, hg, hbw⟩ := hrel
          have kw := k3'.trans (hbw.mono z3)
          have zw := hbw.size
          by_cases hlt : k < l.length
          · have hdr : l.drop k = l[k] :: l.drop (k + 1) := List.drop_eq_getElem_cons hlt
            obtain ⟨b, o, rfl, hb, d0, d1, d2⟩ := RdS.get (h'.below (kw.mono hB)) hlt
            have hx := hsp _ (List.getElem_mem hlt)
            obtain ⟨n, hn⟩ : ∃ n : Nat, l[k].p = n := ⟨l[k].p.toNat, by omega⟩
            have hnl : n < p.length := by omega
            obtain ⟨b1, o1, rfl, hb1, e0, e1, e2⟩ := RdP.get (h.below (kw.mono hB)) hnl
            have hok := hpk _ (List.getElem_mem hnl)
            obtain ⟨f, hf⟩ : ∃ f : Nat, p[n].f = f := ⟨p[n].f.toNat, by have := hok.1; omega⟩
            have hfl : f < dues.length := by rw [H8.out]; have := hok.2.1; omega
            obtain ⟨b2, o2, rfl, hb2, f0⟩ := RdI.get (h''.below (kw.mono hB)) hfl
            have hdl2 : k < (delL p l).length := by rw [Hdl.out]; exact hlt
            obtain ⟨b3, o3, rfl, hb3, g0⟩ := RdI.get (r3.below hbw) hdl2
            have hdv : (delL p l)[k] = l[k].t - p[n].a := by simp only [delL, List.getElem_map]; rw [hn, Int.toNat_natCast, aOf_of hnl]
            rw [hdv] at g0
            rw [hn] at d0
            rw [hf] at e0
            have t1 := ht _ (List.getElem_mem hlt)
            have t2 := hta _ (List.getElem_mem hnl)
            have t3 := hdu _ (List.getElem_mem hfl)
            unfold tame50 at t1 t2
            obtain ⟨t11, t12⟩ := t1
            obtain ⟨t21, t22⟩ := t2
            obtain ⟨t31, t32⟩ := t3
            have hy : lateY p dues l[k] = l[k].t - p[n].a - dues[f] := by
              unfold lateY
              rw [hn, Int.toNat_natCast, aOf_of hnl, fOf_of hnl, hf, Int.toNat_natCast]
              simp [List.getD, hfl]
            have hg2 : lateGo p dues 0 l = lateGo p dues (if m < l[k].t - p[n].a - dues[f] then l[k].t - p[n].a - dues[f] else m) (l.drop (k + 1)) := by
              rw [hg, hdr, ← hy]; rfl
            have q1 : (0 : Int) ≤ (n : Int) := by omega
            have q2 : (n : Int) < (p.length : Int) := by omega
            have q3 : (0 : Int) ≤ (f : Int) := by omega
            have q4 : (f : Int) < (dues.length : Int) := by omega
            have q5 : (k : Int) < (l.length : Int) := by omega
            have q6 : (0 : Int) ≤ (k : Int) := by omega
            have q7 : (k : Int) < ((delL p l).length : Int) := by omega
            have Hdl2 := Lib.hid hdl2
            clear hg hdr hx hn hok hf hdv hy hdl2
            obtain ⟨y, hy⟩ : ∃ y, y = l[k].t - p[n].a - dues[f] := ⟨_, rfl⟩
            rw [← hy] at hg2
            have Hy := Lib.hid hy
            have y1 : -9223372036854775808 ≤ l[k].t - p[n].a - dues[f] := by omega
            have y2 : l[k].t - p[n].a - dues[f] ≤ 9223372036854775807 := by omega
            clear hy
            obtain ⟨v, hv⟩ : ∃ v : World, v = wr.alloc (.cells #[.int .i64 n, .int .i64 l[k].f, .int .i64 l[k].t] 34) := ⟨_, rfl⟩
            have kv : Below wr.heap.size wr v := by rw [hv]; exact (Below.refl _ _).alloc (Nat.le_refl _) _
            have x0 : v.cell? ⟨wr.heap.size, 0, none⟩ = some (.int .i64 n) := by rw [hv]; exact (Blk.new wr 34 #[.int .i64 n, .int .i64 l[k].f, .int .i64 l[k].t]).cell 0
            have m0 : v.cell? ⟨b1, o1 + n * 3, none⟩ = some (.int .i64 f) := (kv.cell (p := ⟨b1, o1 + n * 3, none⟩) (by simp only; omega)).trans e0
            have m1 : v.cell? ⟨b2, o2 + f, none⟩ = some (.int .i64 dues[f]) := (kv.cell (p := ⟨b2, o2 + f, none⟩) (by simp only; omega)).trans f0
            have m2 : v.cell? ⟨b3, o3 + k, none⟩ = some (.int .i64 (l[k].t - p[n].a)) := (kv.cell (p := ⟨b3, o3 + k, none⟩) (by simp only; omega)).trans g0
            have Hv2 := Lib.hid hv
            clear hv
            by_cases hc : m < y
            · rw [if_pos hc] at hg2
              have Hg := Lib.hid hg2
              have hc2 : m < l[k].t - p[n].a - dues[f] := by rw [← Hy.out]; exact hc
              clear hg2 hc
              go_wp2_with fail
              rw [← Hv2.out]
              go_still_tail 15, (by kernel_rfl)
              go_wp2_with fail
              go_roundw
              case rel => exact ⟨k + 1, y, hlt, by go_num, by rw [Hy.out, Int.max_eq_right (Int.le_of_lt hc2)], Hg.out, (hbw.trans (kv.mono zw)).drew⟩
              case measure => simp [intOf]; omega
            · rw [if_neg hc] at hg2
              have Hg := Lib.hid hg2
              have hc2 : l[k].t - p[n].a - dues[f] ≤ m := by rw [← Hy.out]; omega
              clear hg2 hc
              go_wp2_with fail
              rw [← Hv2.out]
              go_still_tail 15, (by kernel_rfl)
              go_wp2_with fail
              go_roundw
              case rel => exact ⟨k + 1, m, hlt, by go_num, by rw [Int.max_eq_left hc2], Hg.out, (hbw.trans (kv.mono zw)).drew⟩
              case measure => simp [intOf]; omega
          · rw [List.drop_eq_nil_of_le (by omega)] at hg
            have Hg := Lib.hid hg
            clear hg
            go_wp2_with fail
            go_ret2
            refine ⟨.nilIface, ?_, ?_, kw⟩
            · rw [Hv.out, Hg.out]; rfl
            · rw [He.out, Hd.out]; exact .nil
      · have Hd := Lib.hid h3
        have Hv := Lib.hid (show lateV p l dues = 0 by unfold lateV; rw [He.out, if_neg h3])
        clear h3
        go_enter Tryd.func25, Tryd.ntmps25
        go_wp2_with fail
        refine (pcheck_any A c p S _ B hB h (hS.sub (by simp)) hl).mono ?_
        rintro e w1 ⟨v, rfl, hv, k1⟩
        obtain rfl := hv.nil_of (by rw [Hc.out])
        have z1 := k1.size
        go_wp2_with fail
        refine (rnumbers_any A'' c'' dues 1099511627776 S w1 B (by omega) (h''.below (k1.mono hB)) ((hS.below (k1.mono hB)).sub (by simp)) hl'').mono ?_
        rintro e w2 ⟨v, rfl, hv, k2⟩
        obtain rfl := hv.nil_of Hn.out
        have k2' := k1.trans (k2.mono z1)
        have z2 := k2'.size
        go_wp2_with fail
        refine (delays_any A A' c c' p l S w2 B (by omega) (h.below (k2'.mono hB)) (h'.below (k2'.mono hB)) ((hS.below (k2'.mono hB)).sub (by simp)) hl hl' ht hta).mono ?_
        rintro e w3 ⟨A3, c3, v, rfl, o3, hv, k3⟩
        obtain ⟨T, a, rfl⟩ := hv.some_of Hd.out
        go_wp2_with fail
        go_ret2
        rw [Hv.out, He.out]
        exact ⟨_, rfl, hv, k2'.trans (k3.mono z2)⟩
    · have Hn := Lib.hid h2
      have He := Lib.hid (show lateErr p l dues = (numErr dues 1099511627776, -1) by unfold lateErr; rw [if_neg (by omega), if_pos h2])
      have Hv := Lib.hid (show lateV p l dues = 0 by unfold lateV; rw [He.out]; exact if_neg h2)
      clear h1 h2
      go_enter Tryd.func25, Tryd.ntmps25
      go_wp2_with fail
      refine (pcheck_any A c p S _ B hB h (hS.sub (by simp)) hl).mono ?_
      rintro e w1 ⟨v, rfl, hv, k1⟩
      obtain rfl := hv.nil_of (by rw [Hc.out])
      have z1 := k1.size
      go_wp2_with fail
      refine (rnumbers_any A'' c'' dues 1099511627776 S w1 B (by omega) (h''.below (k1.mono hB)) ((hS.below (k1.mono hB)).sub (by simp)) hl'').mono ?_
      rintro e w2 ⟨v, rfl, hv, k2⟩
      obtain ⟨T, a, rfl⟩ := hv.some_of Hn.out
      go_wp2_with fail
      go_ret2
      rw [Hv.out, He.out]
      exact ⟨_, rfl, hv, k1.trans (k2.mono z1)⟩
  · have Hn := Lib.hid h1
    have He := Lib.hid (show lateErr p l dues = pktErr p by unfold lateErr; rw [if_pos h1])
    have Hv := Lib.hid (show lateV p l dues = 0 by unfold lateV; rw [He.out]; exact if_neg h1)
    clear h1
    go_enter Tryd.func25, Tryd.ntmps25
    go_wp2_with fail
    refine (pcheck_any A c p S _ B hB h (hS.sub (by simp)) hl).mono ?_
    rintro e w1 ⟨v, rfl, hv, k1⟩
    obtain ⟨T, a, rfl⟩ := hv.some_of Hn.out
    go_wp2_with fail
    go_ret2
    rw [Hv.out, He.out]
    exact ⟨_, rfl, hv, k1⟩
end Go.Proofs.YtkkecnofgmpekaaDoor
