/- floodgatelaw2.lateOf. Conditions: packets and numbers in bounds, ticks not too great. -/
import Derived.Test.YtkkecnofgmpekaaDoorSentRef
namespace Go.Proofs.YtkkecnofgmpekaaDoor
open Go.RowKit
set_option maxRecDepth 100000
set_option maxHeartbeats 2000000 in
theorem lateOf_any (A A' A'' : Option Addr) (c c' c'' : Nat) (p : List Pk) (l : List Sn) (dues : List Int) (w : World) (B : Nat) (hB : B ≤ w.heap.size) (h : RdP w B A p) (h' : RdS w B A' l) (h'' : RdI w B A'' dues) (hl : p.length ≤ 9223372036854775807) (hl' : l.length ≤ 4294967296)
    (hpk : ∀ x ∈ p, okPk x) (h8 : dues.length = 8) (hdu : ∀ n ∈ dues, 0 ≤ n ∧ n ≤ 1099511627776) (hsp : ∀ x ∈ l, 0 ≤ x.p ∧ x.p < p.length) (ht : ∀ x ∈ l, tame50 x.t) :
    Calls Tryd.prog 44 #[.slice A p.length c, .slice A' l.length c', .slice A'' dues.length c''] w fun e w' => e = .returned (.int .i64 (lateGo p dues 0 l)) ∧ Below w.heap.size w w' := by
  have H8 := Lib.hid h8
  clear h8
  go_enter Tryd.func44, Tryd.ntmps44
  go_wp2_with fail
  go_loopw [7, 8] (fun n i wr => ∃ (k : Nat) (m : Int), k ≤ l.length ∧ i = .int .i64 k ∧ n = .int .i64 m ∧ lateGo p dues 0 l = lateGo p dues m (l.drop k) ∧ Below w.heap.size w wr) (fun _ i _ => l.length - (intOf i).toNat)
  case atStart => exact ⟨0, 0, Nat.zero_le _, rfl, rfl, rfl, Below.refl _ _⟩
  case round =>
    obtain ⟨k, m, hk, rfl, rfl, hg, hbw⟩ := hrel
    have zw := hbw.size
    by_cases hlt : k < l.length
    · have hdr : l.drop k = l[k] :: l.drop (k + 1) := List.drop_eq_getElem_cons hlt
      obtain ⟨b, o, rfl, hb, d0, d1, d2⟩ := RdS.get (h'.below (hbw.mono hB)) hlt
      have hx := hsp _ (List.getElem_mem hlt)
      obtain ⟨n, hn⟩ : ∃ n : Nat, l[k].p = n := ⟨l[k].p.toNat, by omega⟩
      have hnl : n < p.length := by omega
      obtain ⟨b1, o1, rfl, hb1, e0, e1, e2⟩ := RdP.get (h.below (hbw.mono hB)) hnl
      have hok := hpk _ (List.getElem_mem hnl)
      obtain ⟨f, hf⟩ : ∃ f : Nat, p[n].f = f := ⟨p[n].f.toNat, by have := hok.1; omega⟩
      have hfl : f < dues.length := by rw [H8.out]; have := hok.2.1; omega
      obtain ⟨b2, o2, rfl, hb2, f0⟩ := RdI.get (h''.below (hbw.mono hB)) hfl
      rw [hn] at d0
      rw [hf] at e0
      have t1 := ht _ (List.getElem_mem hlt)
      have t2 := hok.2.2.2.2
      have t3 := hdu _ (List.getElem_mem hfl)
      unfold tame50 at t1
      obtain ⟨t11, t12⟩ := t1
      obtain ⟨t21, t22⟩ := t2
      obtain ⟨t31, t32⟩ := t3
      have hy : lateY p dues l[k] = l[k].t - p[n].a - dues[f] := by
        unfold lateY
        rw [hn, Int.toNat_natCast, aOf_of hnl, fOf_of hnl, hf, Int.toNat_natCast]
        simp [List.getD, hfl]
      have hg2 : lateGo p dues 0 l = lateGo p dues (if m < l[k].t - p[n].a - dues[f] then l[k].t - p[n].a - dues[f] else m) (l.drop (k + 1)) := by
        rw [hg, hdr, ← hy]; rfl
      have q1 : (0 : Int) ≤ (n : Int) := by omega
      have q2 : (n : Int) < (p.length : Int) := by omega
      have q3 : (0 : Int) ≤ (f : Int) := by omega
      have q4 : (f : Int) < (dues.length : Int) := by omega
      have q5 : (k : Int) < (l.length : Int) := by omega
      have q6 : (0 : Int) ≤ (k : Int) := by omega
      clear hg hdr hx hn hok hy
      obtain ⟨v, hv⟩ : ∃ v : World, v = wr.alloc (.cells #[.int .i64 f, .int .i64 p[n].s, .int .i64 p[n].a] 32) := ⟨_, rfl⟩
      have kv : Below wr.heap.size wr v := by rw [hv]; exact (Below.refl _ _).alloc (Nat.le_refl _) _
      have x0 : v.cell? ⟨wr.heap.size, 0, none⟩ = some (.int .i64 f) := by rw [hv]; exact (Blk.new wr 32 #[.int .i64 f, .int .i64 p[n].s, .int .i64 p[n].a]).cell 0
      have x2 : v.cell? ⟨wr.heap.size, 2, none⟩ = some (.int .i64 p[n].a) := by rw [hv]; exact (Blk.new wr 32 #[.int .i64 f, .int .i64 p[n].s, .int .i64 p[n].a]).cell 2
      have m1 : v.cell? ⟨b, o + k * 3 + 2, none⟩ = some (.int .i64 l[k].t) := (kv.cell (p := ⟨b, o + k * 3 + 2, none⟩) (by simp only; omega)).trans d2
      have m2 : v.cell? ⟨b2, o2 + f, none⟩ = some (.int .i64 dues[f]) := (kv.cell (p := ⟨b2, o2 + f, none⟩) (by simp only; omega)).trans f0
      have Hv2 := Lib.hid hv
      have Hf := Lib.hid hf
      clear hv hf
      by_cases hc : m < l[k].t - p[n].a - dues[f]
      · rw [if_pos hc] at hg2
        have Hg := Lib.hid hg2
        clear hg2
        go_wp2_with fail
        rw [← Hv2.out]
        go_quiet (fail)
        go_wp2_with fail
        go_quiet (fail)
        go_wp2_with fail
        go_roundw
        case rel => exact ⟨k + 1, _, hlt, by go_num, rfl, Hg.out, below_drewN (hbw.trans (kv.mono zw)) _⟩
        case measure => simp [intOf]; omega
      · rw [if_neg hc] at hg2
        have Hg := Lib.hid hg2
        have hc2 : l[k].t - p[n].a - dues[f] ≤ m := by omega
        clear hg2 hc
        go_wp2_with fail
        rw [← Hv2.out]
        go_quiet (fail)
        go_wp2_with fail
        go_roundw
        case rel => exact ⟨k + 1, m, hlt, by go_num, rfl, Hg.out, below_drewN (hbw.trans (kv.mono zw)) _⟩
        case measure => simp [intOf]; omega
    · rw [List.drop_eq_nil_of_le (by omega)] at hg
      have Hg := Lib.hid hg
      clear hg
      go_wp2_with fail
      go_ret
      exact ⟨ret_int Hg.out.symm, hbw⟩
end Go.Proofs.YtkkecnofgmpekaaDoor
