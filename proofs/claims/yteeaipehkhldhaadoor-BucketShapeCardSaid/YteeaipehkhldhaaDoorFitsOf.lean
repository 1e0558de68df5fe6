/- The document's FitsOf computes what Fits does. Conditions: right packets, a right curve. -/
import Derived.Test.YteeaipehkhldhaaDoorFits
import Derived.Test.YteeaipehkhldhaaDoorCvRef
namespace Go.Proofs.YteeaipehkhldhaaDoor
open Go.RowKit
set_option maxRecDepth 100000
set_option maxHeartbeats 4000000 in
theorem fitsOf_any (A A' : Option Addr) (c c' : Nat) (l : List Ln) (p : List Pk) (w : World) (B : Nat) (hB : B ≤ w.heap.size) (h : RdL w B A l) (h' : RdP w B A' p) (hl : l.length ≤ 9223372036854775807) (h1 : (pktErr p).1 = 0) (h2 : (crvErr l).1 = 0) :
    Calls Tryd.prog 49 #[.slice A l.length c, .slice A' p.length c'] w fun e w' => e = .returned (.bool (fitsL l p)) ∧ Below w.heap.size w w' := by
  have hpk := pktErr_okPk h1
  have hs := pktErr_sorted' h1
  have h300 : p.length ≤ 300 := by
    unfold pktErr at h1
    by_cases h4 : 300 < p.length
    · rw [if_pos h4] at h1; simp at h1
    · omega
  obtain ⟨l1, l6, hok, _⟩ := crvErr_ok h2
  have Hp := Lib.hid hpk
  have Hs := Lib.hid hs
  have Hok := Lib.hid hok
  clear h1 h2 hpk hs hok
  go_enter Tryd.func49, Tryd.ntmps49
  go_wp2_with fail
  go_loopw [5] (fun iv wr => ∃ i : Nat, i ≤ p.length ∧ iv = .int .i64 i ∧ fitsL l p = fitsL l (p.drop i) ∧ Below w.heap.size w wr) (fun iv _ => p.length - (intOf iv).toNat)
  case atStart => exact ⟨0, Nat.zero_le _, rfl, rfl, Below.refl _ _⟩
  case round =>
    obtain ⟨i, hi, rfl, hfi, hbi⟩ := hrel
    have Hfi := Lib.hid hfi
    have zi := hbi.size
    clear hfi
    by_cases hil : i < p.length
    · obtain ⟨wi, rfl⟩ : ∃ wi : World, wi = wr := ⟨_, rfl⟩
      have hdi : p.drop i = p[i] :: p.drop (i + 1) := List.drop_eq_getElem_cons hil
      have Hdi := Lib.hid hdi
      clear hdi
      have q1 : (i : Int) < (p.length : Int) := by omega
      have q2 : (0 : Int) ≤ (i : Int) := by omega
      go_wp2_with fail
      go_loopw [6, 7] (fun nv kv wr => ∃ (k : Nat) (n : Int), i ≤ k ∧ k ≤ p.length ∧ kv = .int .i64 k ∧ nv = .int .i64 n ∧ 0 ≤ n ∧ n ≤ 1500 * k ∧ fitsGo l p[i].a 0 (p.drop i) = fitsGo l p[i].a n (p.drop k) ∧ Below w.heap.size w wr) (fun _ kv _ => p.length - (intOf kv).toNat)
      case atStart => exact ⟨i, 0, Nat.le_refl _, hi, rfl, rfl, Int.le_refl _, by omega, rfl, hbi⟩
      case round =>
        obtain ⟨k, n, hik, hk, rfl, rfl, hn0, hn1, hgo, hbw⟩ := hrel
        have Hgo := Lib.hid hgo
        have zw := hbw.size
        clear hgo
        by_cases hkl : k < p.length
        · have hdk : p.drop k = p[k] :: p.drop (k + 1) := List.drop_eq_getElem_cons hkl
          have Hdk := Lib.hid hdk
          clear hdk
          obtain ⟨b, o, rfl, hb, d0, d1, d2⟩ := RdP.get (h'.below (hbw.mono hB)) hkl
          obtain ⟨b2, o2, he, hb2, e0, e1, e2⟩ := RdP.get (h'.below (hbw.mono hB)) hil
          simp only [Option.some.injEq, Addr.mk.injEq, and_true] at he
          obtain ⟨rfl, rfl⟩ := he
          have hokk := Hp.out _ (List.getElem_mem hkl)
          have hoki := Hp.out _ (List.getElem_mem hil)
          have a1 : p[i].a ≤ p[k].a := by
            rcases Nat.eq_or_lt_of_le hik with h9 | h9
            · subst h9; exact Int.le_refl _
            · exact List.pairwise_iff_getElem.1 Hs.out i k hil hkl h9
          obtain ⟨_, _, s1, s2, t1, t2⟩ := hokk
          obtain ⟨_, _, _, _, t3, t4⟩ := hoki
          have q3 : (k : Int) < (p.length : Int) := by omega
          have q4 : (0 : Int) ≤ (k : Int) := by omega
          have hwr : IntKind.i64.wrap (p[k].a - p[i].a) = p[k].a - p[i].a := by rw [IntKind.wrap_i64]; omega
          have hk1500 : (1500 : Int) * ((k : Nat) : Int) ≤ 450000 := by omega
          have Ld := Lib.hid (show RdL wr.drew w.heap.size A l from (h.below ((hbw.mono hB).drew)).more hB)
          obtain ⟨y, hy⟩ : ∃ y, y = valueL l (p[k].a - p[i].a) := ⟨_, rfl⟩
          have Hat := Lib.hid (show Calls Tryd.prog 27 #[.slice A l.length c, .int .i64 (IntKind.i64.wrap (p[k].a - p[i].a))] wr.drew fun e w' => e = .returned (.int .i64 y) ∧ Below wr.drew.heap.size wr.drew w' by
            rw [hwr, hy]
            exact atOf_any A c l (p[k].a - p[i].a) wr.drew w.heap.size zw Ld.out hl l1 Hok.out (by omega) (by omega))
          have Hy := Lib.hid hy
          clear hy hwr
          by_cases hc : y < n + p[k].s
          · have Hf := Lib.hid (show fitsL l p = false by
              rw [Hfi.out, Hdi.out]
              show (if fitsGo l p[i].a 0 (p[i] :: p.drop (i + 1)) then _ else false) = false
              rw [← Hdi.out, Hgo.out, Hdk.out]
              show (if (if valueL l (p[k].a - p[i].a) < n + p[k].s then false else _) then _ else false) = false
              rw [← Hy.out, if_pos hc]; rfl)
            go_wp2_with fail
            go_region_held3 (fun w' => w'.cell? ⟨b, o + k * 3 + 2, none⟩ = some (.int .i64 p[k].a) ∧ w'.cell? ⟨b, o + i * 3 + 2, none⟩ = some (.int .i64 p[i].a))
              (first
                | go_keep
                | exact ⟨(k5.cell (p := ⟨b, o + k * 3 + 2, none⟩) (Nat.lt_of_lt_of_le hb (Nat.le_trans hB zw))).trans d2, (k5.cell (p := ⟨b, o + i * 3 + 2, none⟩) (Nat.lt_of_lt_of_le hb (Nat.le_trans hB zw))).trans e2⟩)
              (first
               | (go_at_call 27; refine Hat.out.mono ?_; rintro e w5 ⟨rfl, k5d⟩; have k5 := below_undrew' k5d))
            have k5' := hbw.trans (k5.mono zw)
            go_wp2_with fail
            go_ret
            rw [Hf.out]
            exact ⟨rfl, k5'⟩
          · have hc2 : n + p[k].s ≤ y := by omega
            have Hgo2 := Lib.hid (show fitsGo l p[i].a 0 (p.drop i) = fitsGo l p[i].a (n + p[k].s) (p.drop (k + 1)) by
              rw [Hgo.out, Hdk.out]
              show (if valueL l (p[k].a - p[i].a) < n + p[k].s then false else _) = _
              rw [← Hy.out, if_neg hc])
            clear hc
            go_wp2_with fail
            go_region_held3 (fun w' => w'.cell? ⟨b, o + k * 3 + 2, none⟩ = some (.int .i64 p[k].a) ∧ w'.cell? ⟨b, o + i * 3 + 2, none⟩ = some (.int .i64 p[i].a))
              (first
                | go_keep
                | exact ⟨(k5.cell (p := ⟨b, o + k * 3 + 2, none⟩) (Nat.lt_of_lt_of_le hb (Nat.le_trans hB zw))).trans d2, (k5.cell (p := ⟨b, o + i * 3 + 2, none⟩) (Nat.lt_of_lt_of_le hb (Nat.le_trans hB zw))).trans e2⟩)
              (first
               | (go_at_call 27; refine Hat.out.mono ?_; rintro e w5 ⟨rfl, k5d⟩; have k5 := below_undrew' k5d))
            have k5' := hbw.trans (k5.mono zw)
            go_wp2_with fail
            go_roundw
            case rel => exact ⟨k + 1, n + p[k].s, by omega, hkl, by go_num, rfl, by omega, by simp only [Int.natCast_add]; omega, Hgo2.out, k5'⟩
            case measure => simp [intOf]; omega
        · have Hf := Lib.hid (show fitsL l p = fitsL l (p.drop (i + 1)) by
            rw [Hfi.out, Hdi.out]
            show (if fitsGo l p[i].a 0 (p[i] :: p.drop (i + 1)) then _ else false) = _
            rw [← Hdi.out, Hgo.out, List.drop_eq_nil_of_le (by omega)]; rfl)
          go_wp2_with fail
          go_roundw
          case rel => exact ⟨i + 1, hil, by go_num, Hf.out, hbw⟩
          case measure => simp [intOf]; omega
    · have Hf := Lib.hid (show fitsL l p = true by rw [Hfi.out, List.drop_eq_nil_of_le (by omega)]; rfl)
      go_wp2_with fail
      go_ret
      rw [Hf.out]
      exact ⟨rfl, hbi⟩
end Go.Proofs.YteeaipehkhldhaaDoor
