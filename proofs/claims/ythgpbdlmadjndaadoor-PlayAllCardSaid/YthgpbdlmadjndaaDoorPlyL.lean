/- The law PlayAll returns true, whatever its arguments, and changes nothing that was there. Conditions: the sentinels that a gate names lie in their variables; errors.errorType holds the type error. -/
import Derived.Test.YthgpbdlmadjndaaDoorGwM
import Derived.Test.YthgpbdlmadjndaaDoorPlM
namespace Go.Proofs.YthgpbdlmadjndaaDoor
open Go.RowKit
set_option maxRecDepth 100000
theorem sentBad_none {n : Nat} {l : List Sn} (h : ∀ x ∈ l, 0 ≤ x.p ∧ x.p.toNat < n) (k : Nat) : sentBad n l k = -1 := by
  induction l generalizing k with
  | nil => rfl
  | cons x r ih =>
    have := h x List.mem_cons_self
    unfold sentBad
    rw [if_pos ⟨by omega, by omega⟩]
    exact ih (fun y hy => h y (List.mem_cons_of_mem _ hy)) (k + 1)
theorem delErr_none {n : Nat} {l : List Sn} (h : ∀ x ∈ l, 0 ≤ x.p ∧ x.p.toNat < n) : (delErr n l).1 = 0 := by
  unfold delErr
  rw [if_pos (sentBad_none h 0)]
theorem run_link {cs : List (List Ln)} {n : Nat} {per : Int} {ns : List Int} {p : List Pk} (h : (runErr cs n per ns p).1 = 0) : runQ cs n per ns p = gOut p (gFold cs p 8).1 ∧ LinkIs (runQ cs n per ns p) per (runL cs n per ns p) ∧ (pktErr (runQ cs n per ns p)).1 = 0 := by
  obtain ⟨h1, h2, h3, h4, h5, h6⟩ := runErr_ok h
  have hq : runQ cs n per ns p = gOut p (gFold cs p 8).1 := if_pos h
  have hl : runL cs n per ns p = linkV n (gOut p (gFold cs p 8).1) per ns := if_pos h
  rw [hq, hl]
  exact ⟨rfl, link_is (by rw [h6]), h5⟩
theorem sumZ_take {p : List Pk} {k : Nat} (h : k < p.length) : sumZ (p.take (k + 1)) = sumZ (p.take k) + p[k].s := by
  rw [List.take_succ_eq_append_getElem h]
  have : ∀ (l : List Pk) (x : Pk), sumZ (l ++ [x]) = sumZ l + x.s := fun l x => by
    induction l with
    | nil => unfold sumZ; unfold sumZ; show x.s + 0 = 0 + x.s; omega
    | cons y r ih => show y.s + sumZ (r ++ [x]) = y.s + sumZ r + x.s; rw [ih]; omega
  exact this _ _
theorem sumZ_le {p : List Pk} (hp : ∀ x ∈ p, okPk x) (k : Nat) : 0 ≤ sumZ (p.take k) ∧ sumZ (p.take k) ≤ 1500 * (k : Int) := by
  induction k with
  | zero => exact ⟨Int.le_refl _, Int.le_refl _⟩
  | succ k ih =>
    by_cases h : k < p.length
    · rw [sumZ_take h]
      have := hp _ (List.getElem_mem h)
      have := this.2.2.1
      have := (hp _ (List.getElem_mem h)).2.2.2.1
      omega
    · rw [List.take_of_length_le (by omega)]
      rw [List.take_of_length_le (by omega)] at ih
      omega
theorem tB_nn {p : List Pk} (hp : ∀ x ∈ p, okPk x) (f : Nat) (l : List Sn) (h : ∀ x ∈ l, x.p.toNat < p.length) : 0 ≤ tB p f 0 l ∧ tB p f 0 l ≤ 1500 * (l.length : Int) := by
  induction l with
  | nil => exact ⟨Int.le_refl _, Int.le_refl _⟩
  | cons x r ih =>
    obtain ⟨i1, i2⟩ := ih fun y hy => h y (List.mem_cons_of_mem _ hy)
    have hx := h x List.mem_cons_self
    have hs := sOf_of hx
    have := hp _ (List.getElem_mem hx)
    have a1 := this.2.2.1
    have a2 := this.2.2.2.1
    show 0 ≤ tB p f (if flT p x = f then 0 + sOf p x.p.toNat else 0) r ∧ tB p f (if flT p x = f then 0 + sOf p x.p.toNat else 0) r ≤ _
    rw [tB_add]
    simp only [List.length_cons]
    split <;> constructor <;> omega
theorem sB_le {p : List Pk} (hp : ∀ x ∈ p, okPk x) (l : List Sn) (h : ∀ x ∈ l, x.p.toNat < p.length) (h3 : l.length ≤ 300) (f : Nat) : 0 ≤ sB p l f ∧ sB p l f ≤ 450000 * (f : Int) := by
  induction f with
  | zero => exact ⟨Int.le_refl _, by unfold sB; omega⟩
  | succ f ih =>
    have := tB_nn hp f l h
    unfold sB
    omega
/-- The packets of a script, and what a gate makes of them. -/
theorem roll_right (s : List Int) (h : s.length ≤ 150) : (pktErr (rollL s)).1 = 0 := by
  obtain ⟨t, h1, h2⟩ := rollL_ok s
  exact rollOk_good h1 (by omega)
set_option maxHeartbeats 8000000 in
theorem play_main (Ac An A' : Option Addr) (cc cn c' : Nat) (cs : List (List Ln)) (K : ByteArray) (per : Int) (ns : List Int) (s : List Int) (S : Nat → Addr) (w : World) (h : RdLL w w.heap.size Ac cs) (h' : RdI w w.heap.size An ns) (hs : RdI w w.heap.size A' s) (hS : GS w w.heap.size S) (hl : ∀ l ∈ cs, l.length ≤ 9223372036854775807) (hcl : cs.length ≤ 9223372036854775807) (hl' : ns.length ≤ 9223372036854775807) (hK : K.size ≤ 9223372036854775807) (hw : wideB cs K ns = false) (h150 : s.length ≤ 150) (hws : ∀ v ∈ s, v ≤ 9223372036854775807) :
    Calls Tryd.prog 8 #[.agg #[.slice Ac cs.length cc, .string K, .int .i64 per, .slice An ns.length cn], .slice A' s.length c'] w fun e w' => e = .returned (.bool true) ∧ Below w.heap.size w w' := by
  obtain ⟨w1', w2', w3', w4'⟩ := wideB_ok hw
  have Hw := Lib.hid hw
  have Hl := Lib.hid hl
  have H20 := Lib.hid w4'
  have Hws := Lib.hid hws
  have hrr := roll_right s h150
  have HRR := Lib.hid hrr
  have hr300 : (rollL s).length ≤ 300 := pktErr_len hrr
  have b0 : Below w.heap.size w (w.alloc (.cells #[.slice Ac cs.length cc, .string K, .int .i64 per, .slice An ns.length cn] 67)) := (Below.refl _ _).alloc (Nat.le_refl _) _
  have x0 : Blk (w.alloc (.cells #[.slice Ac cs.length cc, .string K, .int .i64 per, .slice An ns.length cn] 67)) w.heap.size 67 #[.slice Ac cs.length cc, .string K, .int .i64 per, .slice An ns.length cn] := Blk.new _ _ _
  obtain ⟨W, hW⟩ : ∃ W : World, W = w.alloc (.cells #[.slice Ac cs.length cc, .string K, .int .i64 per, .slice An ns.length cn] 67) := ⟨_, rfl⟩
  rw [← hW] at b0 x0
  obtain ⟨gb, hgb⟩ : ∃ gb, gb = w.heap.size := ⟨_, rfl⟩
  have HW := Lib.hid hW
  have HGB := Lib.hid hgb
  rw [← hgb] at x0
  have B0 := Lib.hid b0
  have X0 := Lib.hid x0
  have hgbl : gb < W.heap.size := x0.lt
  have z0 := b0.size
  clear hw hl w4' hws hW hgb b0 x0 hrr
  go_enter Tryd.func8, Tryd.ntmps8
  go_wp2_with fail
  rw [← HGB.out, ← HW.out]
  refine (rolled_any W).mono ?_
  rintro e w1 ⟨rfl, k1⟩
  have x1 := X0.out.below k1 hgbl
  have c0 := x1.cell 0
  have c1 := x1.cell 1
  have c2 := x1.cell 2
  have c3 := x1.cell 3
  simp at c0 c1 c2 c3
  have K1 := Lib.hid (B0.out.trans (k1.mono z0))
  have X1 := Lib.hid x1
  have z1 : w.heap.size ≤ w1.heap.size := K1.out.size
  clear k1 x1
  go_wp2_with fail
  refine (wide_any Ac An cc cn cs K per ns w1 w.heap.size z1 (h.below K1.out) Hl.out hcl hl' hK).mono ?_
  rintro e w2 ⟨rfl, k2⟩
  rw [Hw.out]
  have K2 := Lib.hid (K1.out.trans (k2.mono z1))
  have z2 : w.heap.size ≤ w2.heap.size := K2.out.size
  have X2 := Lib.hid (X1.out.below k2 X1.out.lt)
  have v1 : ¬ (150 : Int) < (s.length : Int) := by omega
  clear k2 c0 c1 c2 c3
  go_wp2_with fail
  refine (packets_any A' c' s w2 w.heap.size z2 (hs.below K2.out) (by omega) Hws.out).mono ?_
  rintro e w3 ⟨Ap, cp, rfl, op, k3⟩
  have x3 := X2.out.below k3 X2.out.lt
  have c0 := x3.cell 0
  have c1 := x3.cell 1
  have c2 := x3.cell 2
  have c3 := x3.cell 3
  simp at c0 c1 c2 c3
  have OP := Lib.hid op
  have K3 := Lib.hid (K2.out.trans (k3.mono z2))
  have z3 : w.heap.size ≤ w3.heap.size := K3.out.size
  clear op k3 x3
  go_wp2_with fail
  refine (ownGate_any Ac An cc cn cs K per ns w3 w.heap.size z3 (h.below K3.out) (h'.below K3.out) H20.out w1' w2').mono ?_
  rintro e w4 ⟨Ac4, cc4, An4, cn4, rfl, ll4, ri4, k4⟩
  have K4 := Lib.hid (K3.out.trans (k4.mono z3))
  have z4 : w.heap.size ≤ w4.heap.size := K4.out.size
  have OP4 := Lib.hid (own_below OP.out k4 (Nat.le_refl _))
  have LL4 := Lib.hid ll4
  have RI4 := Lib.hid ri4
  clear k4 ll4 ri4 c0 c1 c2 c3
  go_wp2_with fail
  refine (grun_any Ac4 An4 Ap cc4 cn4 cp cs K per ns (rollL s) S w4 w4.heap.size (Nat.le_refl _) LL4.out RI4.out (RdP.of_own OP4.out) ((hS.below K4.out).more z4) Hl.out hl' (by omega)).mono ?_
  rintro e w5 ⟨A5, c5, A6, c6, v, rfl, o5, o6, hv, k5⟩
  have K5 := Lib.hid (K4.out.trans (k5.mono z4))
  have z5 : w.heap.size ≤ w5.heap.size := K5.out.size
  by_cases hr : (runErr cs (kindN K) per ns (rollL s)).1 = 0
  · obtain rfl := hv.nil_of hr
    obtain ⟨r1, r2, r3⟩ := run_link hr
    have hsum := sB_link r2
    have hzz : sumZ (runQ cs (kindN K) per ns (rollL s)) = sumZ (rollL s) := by rw [r1, sumZ_gOut]
    have hql : (runQ cs (kindN K) per ns (rollL s)).length = (rollL s).length := by rw [r1, gOut_len]
    obtain ⟨q, hq⟩ : ∃ q, q = runQ cs (kindN K) per ns (rollL s) := ⟨_, rfl⟩
    obtain ⟨l, hl9⟩ : ∃ l, l = runL cs (kindN K) per ns (rollL s) := ⟨_, rfl⟩
    rw [← hq] at o5 r2 r3 hsum hzz hql ⊢
    rw [← hl9] at o6 r2 hsum ⊢
    have O5 := Lib.hid (RdP.of_own o5)
    have O6 := Lib.hid (RdS.of_own o6)
    have R2 := Lib.hid r2
    have R3 := Lib.hid r3
    have HSUM := Lib.hid hsum
    have HZZ := Lib.hid hzz
    have OP5 := Lib.hid (own_below OP4.out k5 (Nat.le_refl _))
    have hq3 : q.length ≤ 300 := by omega
    have hl3 : l.length ≤ 300 := by have := r2.len; omega
    clear o5 o6 hv k5 hr r1 r2 r3 hsum hzz hql hq hl9
    go_wp2_with fail
    refine (tallies_ok A5 A6 c5 c6 q l S w5 w5.heap.size (Nat.le_refl _) O5.out O6.out (((hS.s.below K5.out).more z5).sub (by simp)) hq3 (by omega) R2.out.tame' R3.out (delErr_none fun x hx => ⟨(R2.out.each x hx).1, (R2.out.each x hx).2.1⟩)).mono ?_
    rintro e w6 ⟨g6, cs6, hb, hm, hlf, rfl, tm, htt, k6, hg6⟩
    have TM := Lib.hid tm
    have HTT := Lib.hid htt
    have K6 := Lib.hid (K5.out.trans (k6.mono z5))
    have z6 : w.heap.size ≤ w6.heap.size := K6.out.size
    have RP := Lib.hid (RdP.of_own (own_below OP5.out k6 (Nat.le_refl _)))
    clear tm htt k6
    go_wp2_with fail
    go_loopw [11, 12] (fun sv iv wr => ∃ k m : Nat, k ≤ (rollL s).length ∧ iv = .int .i64 k ∧ sv = .int .i64 (sumZ ((rollL s).take k)) ∧ wr = w6.drewN m) (fun _ iv _ => (rollL s).length - (intOf iv).toNat)
    case atStart => exact ⟨0, 0, Nat.zero_le _, rfl, rfl, rfl⟩
    case round =>
      obtain ⟨k, m0, hk, rfl, rfl, rfl⟩ := hrel
      have hpk := pktErr_okPk HRR.out
      have hsle := sumZ_le hpk k
      obtain ⟨t, ht⟩ : ∃ t, t = sumZ ((rollL s).take k) := ⟨_, rfl⟩
      have HT := Lib.hid ht
      rw [← ht] at hsle ⊢
      by_cases hlt : k < (rollL s).length
      · obtain ⟨b, o, hAp, hb', e0, e1, e2⟩ := RdP.get (show RdP (w6.drewN m0) _ _ _ from RP.out) hlt
        subst hAp
        have hok := hpk _ (List.getElem_mem hlt)
        obtain ⟨x1, x2, x3, x4, x5, x6⟩ := hok
        have hst := sumZ_take hlt
        obtain ⟨y, hy⟩ : ∃ y, y = (rollL s)[k].s := ⟨_, rfl⟩
        rw [← hy] at e1 hst x3 x4
        rw [← ht] at hst
        have HST := Lib.hid hst
        have u1 : (0 : Int) ≤ (k : Int) := by omega
        have u2 : (k : Int) < ((rollL s).length : Int) := by omega
        have u3 : -9223372036854775808 ≤ t + y := by omega
        have u4 : t + y ≤ 9223372036854775807 := by omega
        clear hst hy ht hpk x1 x2 x5 x6 e0 e2
        go_wp2_with fail
        go_roundw
        case rel => exact ⟨k + 1, m0, hlt, by go_num, by rw [HST.out], rfl⟩
        case measure => simp [intOf]; omega
      · have hfull : t = sumZ (rollL s) := by rw [HT.out, List.take_of_length_le (by omega)]
        have HFULL := Lib.hid hfull
        have hpq := pktErr_okPk R3.out
        have HPQ := Lib.hid hpq
        clear hfull ht hpk hpq
        go_wp2_with fail
        go_loopw [11, 13] (fun sv iv wr => ∃ f m : Nat, f ≤ 8 ∧ iv = .int .i64 f ∧ sv = .int .i64 (t - sB q l f) ∧ wr = w6.drewN m) (fun _ iv _ => 8 - (intOf iv).toNat)
        case atStart => exact ⟨0, m0, Nat.zero_le _, rfl, by unfold sB; rw [Int.sub_zero], rfl⟩
        case round =>
          obtain ⟨f, m, hf, rfl, rfl, rfl⟩ := hrel
          by_cases hf8 : f < 8
          · have tmw : TalMem (w6.drewN m) g6 cs6 hb hm hlf := TM.out.same rfl
            obtain ⟨e1, e2, e3⟩ := HTT.out f hf8
            obtain ⟨l1, l2⟩ := tal_link R2.out f
            rw [← e1, ← e2] at l1
            rw [← e2, ← e3] at l2
            have hbd := tB_nn HPQ.out f l (fun x hx => (R2.out.each x hx).2.1)
            rw [← e1] at hbd
            have hsb := sB_le HPQ.out l (fun x hx => (R2.out.each x hx).2.1) hl3 f
            have hst : sB q l (f + 1) = sB q l f + hb f := by rw [e1]; rfl
            obtain ⟨y, hy⟩ : ∃ y, y = t - sB q l f := ⟨_, rfl⟩
            have HST := Lib.hid (show y - hb f = t - sB q l (f + 1) by rw [hst, hy]; omega)
            have d0 : (w6.drewN m).cell? ⟨g6, f * 3, none⟩ = some (.int .i64 (hb f)) := (tmw.blk.cell _).trans (tmw.cb f hf8)
            have d1 : (w6.drewN m).cell? ⟨g6, f * 3 + 1, none⟩ = some (.int .i64 (hm f)) := (tmw.blk.cell _).trans (tmw.cm f hf8)
            have d2 : (w6.drewN m).cell? ⟨g6, f * 3 + 2, none⟩ = some (.int .i64 (hlf f)) := (tmw.blk.cell _).trans (tmw.cl f hf8)
            have c0 : w6.cell? ⟨g6, f * 3, none⟩ = some (.int .i64 (hb f)) := (TM.out.blk.cell _).trans (TM.out.cb f hf8)
            have c1 : w6.cell? ⟨g6, f * 3 + 1, none⟩ = some (.int .i64 (hm f)) := (TM.out.blk.cell _).trans (TM.out.cm f hf8)
            have c2 : w6.cell? ⟨g6, f * 3 + 2, none⟩ = some (.int .i64 (hlf f)) := (TM.out.blk.cell _).trans (TM.out.cl f hf8)
            have t0 : 0 ≤ t ∧ t ≤ 450000 := by have := sumZ_le (pktErr_okPk HRR.out) (rollL s).length; rw [List.take_length, ← HFULL.out] at this; omega
            have u3 : -9223372036854775808 ≤ y - hb f := by omega
            have u4 : y - hb f ≤ 9223372036854775807 := by omega
            rw [← hy]
            obtain ⟨B, hB⟩ : ∃ B, B = hb f := ⟨_, rfl⟩
            obtain ⟨M, hM⟩ : ∃ M, M = hm f := ⟨_, rfl⟩
            obtain ⟨L, hL⟩ : ∃ L, L = hlf f := ⟨_, rfl⟩
            rw [← hB] at d0 c0 l1 hbd u3 u4 HST
            rw [← hM] at d1 c1 l1 l2
            rw [← hL] at d2 c2 l2
            have u1 : (0 : Int) ≤ (f : Int) := by omega
            have u2 : (f : Int) < 8 := by omega
            have l3 : ¬ L < M := by omega
            clear e1 e2 e3 hst hy hB hM hL hbd hsb t0 tmw l2
            by_cases hB0 : 0 < B
            · have l4 : ¬ M < 1 := by have := l1 hB0; omega
              have k1 : decide (0 < B) = true := decide_eq_true hB0
              have k2 : decide (M < 1) = false := decide_eq_false l4
              have k3 : decide (L < M) = false := decide_eq_false l3
              clear l1
              go_wp2_with fail
              go_quiet (fail)
              rename_i nq1
              go_wp2_with fail
              go_roundw
              case rel => exact ⟨f + 1, _, hf8, by go_num, by rw [HST.out], rfl⟩
              case measure => simp [intOf]; omega
            · have k1 : decide (0 < B) = false := decide_eq_false hB0
              clear l1
              go_wp2_with fail
              go_quiet (fail)
              rename_i nq1
              go_wp2_with fail
              go_roundw
              case rel => exact ⟨f + 1, _, hf8, by go_num, by rw [HST.out], rfl⟩
              case measure => simp [intOf]; omega
          · obtain rfl : f = 8 := by omega
            have hz : t - sB q l 8 = 0 := by rw [HSUM.out, HZZ.out, HFULL.out]; omega
            rw [hz]
            clear hz
            go_wp2_with fail
            go_ret
            exact ⟨rfl, below_drewN K6.out m⟩
  · have hq : runQ cs (kindN K) per ns (rollL s) = [] := if_neg hr
    have hls : runL cs (kindN K) per ns (rollL s) = [] := if_neg hr
    rw [hq, hls]
    obtain ⟨T, ad, rfl⟩ := hv.some_of hr
    clear o5 o6 hv k5 hq hls hr
    go_wp2_with fail
    go_ret
    exact ⟨rfl, K5.out⟩
set_option maxHeartbeats 2000000 in
theorem playAll_any (Ac : Option Addr) (cc : Nat) (cs : List (List Ln)) (K : ByteArray) (per : Int) (An : Option Addr) (cn : Nat) (ns : List Int) (A' : Option Addr) (c' : Nat) (s : List Int) (S : Nat → Addr) (w : World) (h : RdLL w w.heap.size Ac cs) (h' : RdI w w.heap.size An ns) (hs : RdI w w.heap.size A' s) (hS : GS w w.heap.size S) (hl : ∀ l ∈ cs, l.length ≤ 9223372036854775807) (hcl : cs.length ≤ 9223372036854775807) (hl' : ns.length ≤ 9223372036854775807) (hK : K.size ≤ 9223372036854775807) (hls : s.length ≤ 9223372036854775807) (hws : ∀ v ∈ s, v ≤ 9223372036854775807) :
    Calls Tryd.prog 8 #[.agg #[.slice Ac cs.length cc, .string K, .int .i64 per, .slice An ns.length cn], .slice A' s.length c'] w fun e w' => e = .returned (.bool true) ∧ Below w.heap.size w w' := by
  have main : wideB cs K ns = false → s.length ≤ 150 → _ := fun a b => play_main Ac An A' cc cn c' cs K per ns s S w h h' hs hS hl hcl hl' hK a b hws
  by_cases hq : wideB cs K ns = false ∧ s.length ≤ 150
  · exact main hq.1 hq.2
  · have Hl := Lib.hid hl
    have HQ := Lib.hid hq
    obtain ⟨W, hW⟩ : ∃ W : World, W = w.alloc (.cells #[.slice Ac cs.length cc, .string K, .int .i64 per, .slice An ns.length cn] 67) := ⟨_, rfl⟩
    have b0 : Below w.heap.size w W := by rw [hW]; exact (Below.refl _ _).alloc (Nat.le_refl _) _
    obtain ⟨gb, hgb⟩ : ∃ gb, gb = w.heap.size := ⟨_, rfl⟩
    have x0 : Blk W gb 67 #[.slice Ac cs.length cc, .string K, .int .i64 per, .slice An ns.length cn] := by rw [hW, hgb]; exact Blk.new _ _ _
    have HW := Lib.hid hW
    have HGB := Lib.hid hgb
    have B0 := Lib.hid b0
    have X0 := Lib.hid x0
    have z0 := b0.size
    clear main hl hws hW hgb b0 x0 hq
    cases hw : wideB cs K ns
    · have h9 : ¬ s.length ≤ 150 := fun e => HQ.out ⟨hw, e⟩
      have v1 : (150 : Int) < (s.length : Int) := by omega
      have Hw := Lib.hid hw
      clear hw h9
      go_enter Tryd.func8, Tryd.ntmps8
      go_wp2_with fail
      rw [← HGB.out, ← HW.out]
      refine (rolled_any W).mono ?_
      rintro e w1 ⟨rfl, k1⟩
      have x1 := X0.out.below k1 X0.out.lt
      have c0 := x1.cell 0
      have c1 := x1.cell 1
      have c2 := x1.cell 2
      have c3 := x1.cell 3
      simp at c0 c1 c2 c3
      have K1 := Lib.hid (B0.out.trans (k1.mono z0))
      have z1 : w.heap.size ≤ w1.heap.size := K1.out.size
      clear k1 x1
      go_wp2_with fail
      refine (wide_any Ac An cc cn cs K per ns w1 w.heap.size z1 (h.below K1.out) Hl.out hcl hl' hK).mono ?_
      rintro e w2 ⟨rfl, k2⟩
      rw [Hw.out]
      have K2 := Lib.hid (K1.out.trans (k2.mono z1))
      clear k2 c0 c1 c2 c3
      go_wp2_with fail
      go_ret
      exact ⟨rfl, K2.out⟩
    · have Hw := Lib.hid hw
      clear hw
      go_enter Tryd.func8, Tryd.ntmps8
      go_wp2_with fail
      rw [← HGB.out, ← HW.out]
      refine (rolled_any W).mono ?_
      rintro e w1 ⟨rfl, k1⟩
      have x1 := X0.out.below k1 X0.out.lt
      have c0 := x1.cell 0
      have c1 := x1.cell 1
      have c2 := x1.cell 2
      have c3 := x1.cell 3
      simp at c0 c1 c2 c3
      have K1 := Lib.hid (B0.out.trans (k1.mono z0))
      have z1 : w.heap.size ≤ w1.heap.size := K1.out.size
      clear k1 x1
      go_wp2_with fail
      refine (wide_any Ac An cc cn cs K per ns w1 w.heap.size z1 (h.below K1.out) Hl.out hcl hl' hK).mono ?_
      rintro e w2 ⟨rfl, k2⟩
      rw [Hw.out]
      have K2 := Lib.hid (K1.out.trans (k2.mono z1))
      clear k2 c0 c1 c2 c3
      go_wp2_with fail
      go_ret
      exact ⟨rfl, K2.out⟩
end Go.Proofs.YthgpbdlmadjndaaDoor
