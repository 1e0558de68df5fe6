/- Package bucket's Fits. Conditions: the lists fit memory; the sentinels that it names lie in their variables. -/
import Derived.Test.YteeaipehkhldhaaDoorPkA
import Derived.Test.YteeaipehkhldhaaDoorCvP
import Derived.Test.YteeaipehkhldhaaDoorWhen
import Derived.Deep.RegionHeld3
namespace Go.Proofs.YteeaipehkhldhaaDoor
open Go.RowKit
set_option maxRecDepth 100000
theorem below_undrew' {w w1 : World} (h : Below w.drew.heap.size w.drew w1) : Below w.heap.size w w1 := ((Below.refl _ _).drew).trans h
def fitsGo (l : List Ln) (ai : Int) : Int → List Pk → Bool
  | _, [] => true
  | n, x :: r => if valueL l (x.a - ai) < n + x.s then false else fitsGo l ai (n + x.s) r
def fitsL (l : List Ln) : List Pk → Bool
  | [] => true
  | x :: r => if fitsGo l x.a 0 (x :: r) then fitsL l r else false
def fitsErr (l : List Ln) (p : List Pk) : Nat × Int := if (pktErr p).1 ≠ 0 then pktErr p else crvErr l
def fitsV (l : List Ln) (p : List Pk) : Bool := if (fitsErr l p).1 = 0 then fitsL l p else false
set_option maxHeartbeats 4000000 in
theorem fits_ok (A A' : Option Addr) (c c' : Nat) (l : List Ln) (p : List Pk) (S : Nat → Addr) (w : World) (B : Nat) (hB : B ≤ w.heap.size) (h : RdL w B A l) (h' : RdP w B A' p) (hS : Snt w B S [2, 3, 5]) (hl : l.length ≤ 9223372036854775807) (hl' : p.length ≤ 9223372036854775807) (h1 : (pktErr p).1 = 0) (h2 : (crvErr l).1 = 0) :
    Calls Tryd.prog 35 #[.slice A l.length c, .slice A' p.length c'] w fun e w' => e = .returned (.tuple #[.bool (fitsL l p), .nilIface]) ∧ Below w.heap.size w w' := by
  have hpk := pktErr_okPk h1
  have hs := pktErr_sorted' h1
  have h300 : p.length ≤ 300 := by
    unfold pktErr at h1
    by_cases h4 : 300 < p.length
    · rw [if_pos h4] at h1; simp at h1
    · omega
  have Hc := Lib.hid (pktErr_nil h1)
  have Hl := Lib.hid h2
  have Hp := Lib.hid hpk
  have Hs := Lib.hid hs
  clear h1 h2 hpk hs
  go_enter Tryd.func35, Tryd.ntmps35
  go_wp2_with fail
  refine (pcheck_any A' c' p S _ B hB h' (hS.sub (by simp)) hl').mono ?_
  rintro e w1 ⟨v, rfl, hv, k1⟩
  obtain rfl := hv.nil_of (by rw [Hc.out])
  have z1 := k1.size
  go_wp2_with fail
  refine (check_any A c l S w1 B (by omega) (h.below (k1.mono hB)) ((hS.below (k1.mono hB)).sub (by simp)) hl).mono ?_
  rintro e w2 ⟨v, rfl, hv, k2⟩
  obtain rfl := hv.nil_of Hl.out
  have k2' := k1.trans (k2.mono z1)
  have z2 := k2'.size
  clear hv
  go_wp2_with fail
  go_loopw [25] (fun iv wr => ∃ i : Nat, i ≤ p.length ∧ iv = .int .i64 i ∧ fitsL l p = fitsL l (p.drop i) ∧ Below w.heap.size w wr) (fun iv _ => p.length - (intOf iv).toNat)
  case atStart => exact ⟨0, Nat.zero_le _, rfl, rfl, k2'⟩
  case round =>
    obtain ⟨i, hi, rfl, hfi, hbi⟩ := hrel
    have Hfi := Lib.hid hfi
    have zi := hbi.size
    clear hfi
    by_cases hil : i < p.length
    · obtain ⟨wi, rfl⟩ : ∃ wi : World, wi = wr := ⟨_, rfl⟩
      have hdi : p.drop i = p[i] :: p.drop (i + 1) := List.drop_eq_getElem_cons hil
      have Hdi := Lib.hid hdi
      clear hdi
      have q1 : (i : Int) < (p.length : Int) := by omega
      have q2 : (0 : Int) ≤ (i : Int) := by omega
      go_wp2_with fail
      go_loopw [9, 10] (fun nv kv wr => ∃ (k : Nat) (n : Int), i ≤ k ∧ k ≤ p.length ∧ kv = .int .i64 k ∧ nv = .int .i64 n ∧ 0 ≤ n ∧ n ≤ 1500 * k ∧ fitsGo l p[i].a 0 (p.drop i) = fitsGo l p[i].a n (p.drop k) ∧ Below w.heap.size w wr) (fun _ kv _ => p.length - (intOf kv).toNat)
      case atStart => exact ⟨i, 0, Nat.le_refl _, hi, rfl, rfl, Int.le_refl _, by omega, rfl, hbi⟩
      case round =>
        obtain ⟨k, n, hik, hk, rfl, rfl, hn0, hn1, hgo, hbw⟩ := hrel
        have Hgo := Lib.hid hgo
        have zw := hbw.size
        clear hgo
        by_cases hkl : k < p.length
        · have hdk : p.drop k = p[k] :: p.drop (k + 1) := List.drop_eq_getElem_cons hkl
          have Hdk := Lib.hid hdk
          clear hdk
          obtain ⟨b, o, rfl, hb, d0, d1, d2⟩ := RdP.get (h'.below (hbw.mono hB)) hkl
          obtain ⟨b2, o2, he, hb2, e0, e1, e2⟩ := RdP.get (h'.below (hbw.mono hB)) hil
          simp only [Option.some.injEq, Addr.mk.injEq, and_true] at he
          obtain ⟨rfl, rfl⟩ := he
          have hokk := Hp.out _ (List.getElem_mem hkl)
          have hoki := Hp.out _ (List.getElem_mem hil)
          have a1 : p[i].a ≤ p[k].a := by
            rcases Nat.eq_or_lt_of_le hik with h9 | h9
            · subst h9; exact Int.le_refl _
            · exact List.pairwise_iff_getElem.1 Hs.out i k hil hkl h9
          obtain ⟨_, _, s1, s2, t1, t2⟩ := hokk
          obtain ⟨_, _, _, _, t3, t4⟩ := hoki
          have q3 : (k : Int) < (p.length : Int) := by omega
          have q4 : (0 : Int) ≤ (k : Int) := by omega
          have hwr : IntKind.i64.wrap (p[k].a - p[i].a) = p[k].a - p[i].a := by rw [IntKind.wrap_i64]; omega
          have hat := atErr_of Hl.out (t := p[k].a - p[i].a) (by omega) (by omega)
          have hav := atVal_of Hl.out (t := p[k].a - p[i].a) (by omega) (by omega)
          rw [← hwr] at hat
          have Hat := Lib.hid hat
          have hk1500 : (1500 : Int) * ((k : Nat) : Int) ≤ 450000 := by omega
          have Sd := Lib.hid (show Snt wr.drew w.heap.size S [2, 3] from ((hS.below ((hbw.mono hB).drew)).more hB).sub (by simp))
          have Ld := Lib.hid (show RdL wr.drew w.heap.size A l from (h.below ((hbw.mono hB).drew)).more hB)
          obtain ⟨y, hy⟩ : ∃ y, y = valueL l (p[k].a - p[i].a) := ⟨_, rfl⟩
          have Hav := Lib.hid (show atVal l (IntKind.i64.wrap (p[k].a - p[i].a)) = y by rw [hwr, hav, hy])
          have Hy := Lib.hid hy
          clear hat hav hy hwr
          by_cases hc : y < n + p[k].s
          · have Hf := Lib.hid (show fitsL l p = false by
              rw [Hfi.out, Hdi.out]
              show (if fitsGo l p[i].a 0 (p[i] :: p.drop (i + 1)) then _ else false) = false
              rw [← Hdi.out, Hgo.out, Hdk.out]
              show (if (if valueL l (p[k].a - p[i].a) < n + p[k].s then false else _) then _ else false) = false
              rw [← Hy.out, if_pos hc]; rfl)
            go_wp2_with fail
            go_region_held3 (fun w' => w'.cell? ⟨b, o + k * 3 + 2, none⟩ = some (.int .i64 p[k].a) ∧ w'.cell? ⟨b, o + i * 3 + 2, none⟩ = some (.int .i64 p[i].a))
              (first
                | go_keep
                | exact ⟨(k5.cell (p := ⟨b, o + k * 3 + 2, none⟩) (Nat.lt_of_lt_of_le hb (Nat.le_trans hB zw))).trans d2, (k5.cell (p := ⟨b, o + i * 3 + 2, none⟩) (Nat.lt_of_lt_of_le hb (Nat.le_trans hB zw))).trans e2⟩)
              (first
               | (go_at_call 17; refine (at_any A c l (IntKind.i64.wrap (p[k].a - p[i].a)) S wr.drew w.heap.size zw Ld.out Sd.out hl).mono ?_; rintro e w5 ⟨v5, rfl, e5, k5d⟩; obtain rfl := e5.nil_of (by rw [Hat.out]); have k5 := below_undrew' k5d; rw [Hav.out]))
            have k5' := hbw.trans (k5.mono zw)
            go_wp2_with fail
            go_ret2
            rw [Hf.out]
            exact ⟨rfl, k5'⟩
          · have hc2 : n + p[k].s ≤ y := by omega
            have Hgo2 := Lib.hid (show fitsGo l p[i].a 0 (p.drop i) = fitsGo l p[i].a (n + p[k].s) (p.drop (k + 1)) by
              rw [Hgo.out, Hdk.out]
              show (if valueL l (p[k].a - p[i].a) < n + p[k].s then false else _) = _
              rw [← Hy.out, if_neg hc])
            clear hc
            go_wp2_with fail
            go_region_held3 (fun w' => w'.cell? ⟨b, o + k * 3 + 2, none⟩ = some (.int .i64 p[k].a) ∧ w'.cell? ⟨b, o + i * 3 + 2, none⟩ = some (.int .i64 p[i].a))
              (first
                | go_keep
                | exact ⟨(k5.cell (p := ⟨b, o + k * 3 + 2, none⟩) (Nat.lt_of_lt_of_le hb (Nat.le_trans hB zw))).trans d2, (k5.cell (p := ⟨b, o + i * 3 + 2, none⟩) (Nat.lt_of_lt_of_le hb (Nat.le_trans hB zw))).trans e2⟩)
              (first
               | (go_at_call 17; refine (at_any A c l (IntKind.i64.wrap (p[k].a - p[i].a)) S wr.drew w.heap.size zw Ld.out Sd.out hl).mono ?_; rintro e w5 ⟨v5, rfl, e5, k5d⟩; obtain rfl := e5.nil_of (by rw [Hat.out]); have k5 := below_undrew' k5d; rw [Hav.out]))
            have k5' := hbw.trans (k5.mono zw)
            go_wp2_with fail
            go_roundw
            case rel => exact ⟨k + 1, n + p[k].s, by omega, hkl, by go_num, rfl, by omega, by simp only [Int.natCast_add]; omega, Hgo2.out, k5'⟩
            case measure => simp [intOf]; omega
        · have Hf := Lib.hid (show fitsL l p = fitsL l (p.drop (i + 1)) by
            rw [Hfi.out, Hdi.out]
            show (if fitsGo l p[i].a 0 (p[i] :: p.drop (i + 1)) then _ else false) = _
            rw [← Hdi.out, Hgo.out, List.drop_eq_nil_of_le (by omega)]; rfl)
          go_wp2_with fail
          go_roundw
          case rel => exact ⟨i + 1, hil, by go_num, Hf.out, hbw⟩
          case measure => simp [intOf]; omega
    · have Hf := Lib.hid (show fitsL l p = true by rw [Hfi.out, List.drop_eq_nil_of_le (by omega)]; rfl)
      go_wp2_with fail
      go_ret2
      rw [Hf.out]
      exact ⟨rfl, hbi⟩
end Go.Proofs.YteeaipehkhldhaaDoor
