/- floodgateref2.RoundOf: it computes what a link round by round does. Conditions: packets in bounds and in order, quanta in bounds. -/
import Derived.Test.YthgpbdlmadjndaaGreatDoorRndM
import Derived.Deep.RegionHeld
import Derived.Deep.CutRange
namespace Go.Proofs.YthgpbdlmadjndaaGreatDoor
open Go.RowKit
set_option maxRecDepth 100000
theorem infoBoolR : (Tryz.prog.info? 4).map (fun i => (i.zero, i.size, i.bytes)) = some (some (.bool false), 1, 1) := by kernel_rfl
theorem mem_take_succ {l : List Nat} {j f : Nat} (h : j < l.length) : decide (f ∈ l.take (j + 1)) = (decide (f ∈ l.take j) || l[j] == f) := by
  have e : f ∈ l.take (j + 1) ↔ (f ∈ l.take j ∨ l[j] = f) := by
    rw [List.take_succ_eq_append_getElem h, List.mem_append, List.mem_singleton]
    exact ⟨fun h => h.imp id Eq.symm, fun h => h.imp id Eq.symm⟩
  rw [Bool.eq_iff_iff, decide_eq_true_iff, Bool.or_eq_true, decide_eq_true_iff, beq_iff_eq]
  exact e
theorem svV_num (o : Option Nat) : ∃ sn : Int, svV o = .int .i64 sn ∧ (∀ g : Nat, (g : Int) = sn ↔ o = some g) ∧ (sn < 0 ↔ o = none) ∧ -1 ≤ sn := by
  cases o with
  | none => exact ⟨-1, rfl, fun g => ⟨fun h => by omega, fun h => by cases h⟩, ⟨fun _ => rfl, fun _ => by omega⟩, by omega⟩
  | some x => exact ⟨x, rfl, fun g => ⟨fun h => by congr 1; omega, fun h => by injection h with h; rw [h]⟩, ⟨fun h => by omega, fun h => by cases h⟩, by omega⟩
theorem lst_mem {s : RS} {f : Nat} : f ∈ lst s ↔ (s.sv = some f ∨ f ∈ s.row) := by
  unfold lst
  split
  · rename_i g h
    rw [h, List.mem_cons]
    exact ⟨fun h => h.imp (fun e => by rw [e]) id, fun h => h.imp (fun e => by injection e with e; exact e.symm) id⟩
  · rename_i h
    rw [h]
    simp
theorem MRow.rdN {w : World} {base : Nat} {e : TypeId} {A : Option Addr} {c : Nat} {s : List Nat} (h : MRow w base e (.slice A s.length c) s) : Rd w w.heap.size 1 nCs A s := fun h0 => by
  obtain ⟨b, o, c', hv, _, hb, hc⟩ := h.at_ h0
  simp only [Value.slice.injEq, true_and] at hv
  refine ⟨b, o, hv.1, hb, fun i x hx j v hj => ?_⟩
  obtain ⟨hi, e1⟩ := List.getElem?_eq_some_iff.1 hx
  have hj0 : j = 0 := by
    have := (List.getElem?_eq_some_iff.1 hj).1
    simp [nCs] at this
    exact this
  subst hj0
  simp only [nCs, List.getElem?_cons_zero, Option.some.injEq] at hj
  rw [Nat.mul_one, Nat.add_zero, hc i hi, e1, hj]
theorem rMu_congr {s s' : RS} (hc : s'.c = s.c) (hv : s'.sv = s.sv) : rMu s' = rMu s := by
  have : lack s' = lack s := by funext g; unfold lack; rw [hc]
  unfold rMu
  rw [this, hv]
set_option maxHeartbeats 16000000 in
theorem roundOf_any (A A' : Option Addr) (c c' : Nat) (p : List Pk) (per : Int) (qs : List Int) (w : World) (B : Nat) (hB : B ≤ w.heap.size) (h : RdP w B A p) (h' : RdI w B A' qs) (hp : ∀ x ∈ p, okPk x) (hs : p.Pairwise (fun x y => x.a ≤ y.a)) (hl : p.length ≤ 300) (h0 : 1 ≤ per) (h1 : per ≤ 1000) (h8 : qs.length = 8) (hqn : ∀ n ∈ qs, 1 ≤ n ∧ n ≤ 3000) :
    Calls Tryz.prog 75 #[.slice A p.length c, .int .i64 per, .slice A' qs.length c'] w (EndOwn Sn.cs 3 62 (roundL p per qs) w) := by
  obtain ⟨iI, hI, hI0, hI1, hI2⟩ := info_parts infoInt
  obtain ⟨iB, hBo, hB0, hB1, hB2⟩ := info_parts infoBoolR
  obtain ⟨iS, hSn, hS0, hS1, hS2⟩ := info_parts infoSn
  have hqq : ∀ g, g < 8 → 1 ≤ qu qs g ∧ qu qs g ≤ 3000 := fun g hg => by
    unfold qu
    have hgl : g < qs.length := by omega
    simp only [List.getD, List.getElem?_eq_getElem hgl, Option.getD_some]
    exact hqn _ (List.getElem_mem hgl)
  have hq0 : ∀ g, 0 ≤ qu qs g := fun g => by
    by_cases hg : g < 8
    · have := (hqq g hg).1; omega
    · unfold qu
      simp only [List.getD, List.getElem?_eq_none (show qs.length ≤ g by omega), Option.getD_none]
      omega
  have HQQ := Lib.hid hqq
  have HQ0 := Lib.hid hq0
  have HQ1 := Lib.hid (show ∀ g, g < 8 → 1 ≤ qu qs g from fun g hg => (hqq g hg).1)
  have H8 := Lib.hid h8
  have HS := Lib.hid hs
  have HP := Lib.hid hp
  clear h8 hs hp hqq hq0 hqn
  go_enter Tryz.func75, Tryz.ntmps75
  go_wp2_with (first
    | (at_make; refine wpList_make_full _ rfl (.tmp 24) (.tmp 24) 104 rfl w.heap.size 4 iB (.bool false) 1 Tryz.underlying104 hBo hB0 hB1 .i64 .i64 p.length p.length p.length rfl rfl rfl rfl (by rw [hB2]; omega) (by simp only [maxLen]; omega) (Nat.le_refl _) ?_; intro wB rowB gB; rw [bool_newR] at rowB)
    | (at_make; refine wpList_make_full _ rfl (.tmp 27) (.tmp 27) 104 rfl wB.heap.size 4 iB (.bool false) 1 Tryz.underlying104 hBo hB0 hB1 .i64 .i64 p.length p.length p.length rfl rfl rfl rfl (by rw [hB2]; omega) (by simp only [maxLen]; omega) (Nat.le_refl _) ?_; intro wC rowC gC; rw [bool_newR] at rowC)
    | (at_make; refine wpList_make_full _ rfl (.const (.int .i64 8)) (.const (.int .i64 8)) 23 rfl wC.heap.size 3 iI (.int .i64 0) 1 Tryz.underlying23 hI hI0 hI1 .i64 .i64 8 8 8 rfl rfl rfl rfl (by rw [hI2]; omega) (by simp only [maxLen]; omega) (Nat.le_refl _) ?_; intro wD rowD gD; rw [int_newR] at rowD))
  obtain ⟨qD, egD⟩ : ∃ qD, qD = w.heap.size := ⟨_, rfl⟩
  obtain ⟨qC, egC⟩ : ∃ qC, qC = wB.heap.size := ⟨_, rfl⟩
  obtain ⟨qR, egR⟩ : ∃ qR, qR = wC.heap.size := ⟨_, rfl⟩
  have aD : Arw wB qD 4 p.length fun j => .bool (dnB [] j) := by rw [egD]; exact Arw.of_own rowB fun _ _ => rfl
  have aC : Arw wC qC 4 p.length fun j => .bool (decide (j < 0)) := by rw [egC]; exact Arw.of_own rowC fun _ _ => rfl
  have aR : Arw wD qR 3 8 fun j => .int .i64 (rs0.c j) := by rw [egR]; exact Arw.of_own rowD fun _ _ => rfl
  have lD := aD.lt
  have lC := aC.lt
  have lR := aR.lt
  have kB : Below w.heap.size w wB := (Below.refl _ _).grown gB (Nat.le_refl _) (by simp)
  have sB := gB.size
  have sC := gC.size
  have sD := gD.size
  have kC : Below w.heap.size w wC := kB.grown gC (by omega) (by simp)
  have kD : Below w.heap.size w wD := kC.grown gD (by omega) (by simp)
  have mem0 : RRow p [] w.heap.size wD.heap.size wD qC qD qR none 0 0 rs0 none 0 wD :=
    { cm := aC.grown gD (by simp), dn := (aD.grown gC (by simp)).grown gD (by simp), cr := aR, row := ⟨by simp, .inl ⟨rfl, rfl⟩⟩, rl := .inl ⟨rfl, rfl⟩, bel := Below.refl _ _, ge := ⟨by omega, by omega, by omega⟩, lo := ⟨by omega, by omega, by omega⟩, n1 := ⟨by omega, by omega, by omega⟩, bs := Nat.le_refl _, rn := fun b e => by simp [Value.ownBlock] at e }
  have hbw : w.heap.size ≤ wD.heap.size := kD.size
  rw [← egD, ← egC, ← egR]
  have M0 := Lib.hid mem0
  have KD := Lib.hid kD
  clear aC aD aR lC lD lR kB kC kD sB sC sD egC egD egR rowB rowC rowD gB gC gD mem0
  go_loopg [7, 11, 12, 13] (mu p (⟨[], 0, 0, rs0⟩ : St RS) * 30000 + 24002) (fun n v rv sv nw wr => ∃ (f : Nat) (t : St RS) (A5 : Option Addr) (c5 : Nat) (A6 : Option Addr) (c6 : Nat), v = .slice A5 t.out.length c5 ∧ rv = .slice A6 t.s.row.length c6 ∧ sv = svV t.s.sv ∧ nw = .int .i64 t.now ∧ ROut p per qs f t ∧ RRow p t.out w.heap.size wD.heap.size wD qC qD qR A5 c5 t.next t.s A6 c6 wr ∧ mu p t * 30000 + rMu t.s ≤ n)
  case atStart => exact ⟨_, ⟨[], 0, 0, rs0⟩, none, 0, none, 0, rfl, rfl, rfl, rfl, ⟨rfl, mu_start p rs0, inv_start (M := roundM p qs) (s0 := rs0) p rs0_wait (rs0_ok p qs), fun j hj => absurd hj (Nat.not_lt_zero _)⟩, M0.out, Nat.add_le_add_left (rMu_le (rs0_ok p qs)) _⟩
  case round =>
    obtain ⟨f, t, A5, c5, A6, c6, rfl, rfl, rfl, rfl, hR, hm0, hmu⟩ := hrel
    have n0 := hR.inv.now0
    have n1 := hR.inv.now1
    have HR := Lib.hid hR
    have HM0 := Lib.hid hm0
    have HMU := Lib.hid hmu
    clear hR M0 hm0 hmu
    obtain ⟨n, rfl⟩ : ∃ n, gk = n + 1 := ⟨gk - 1, by have := HMU.out; unfold rMu at this; omega⟩
    by_cases hlt : t.out.length < p.length
    · have HLT := Lib.hid hlt
      obtain ⟨sn, hsv, hsg, hsn, hs1⟩ := svV_num t.s.sv
      rw [hsv]
      have HSG := Lib.hid hsg
      have HSN := Lib.hid hsn
      have HSV := Lib.hid hsv
      clear hsv hsg hsn
      go_wp2_with fail
      go_loopw [11, 14] (fun rv iv wr => ∃ (i k : Nat) (s : RS) (A6 : Option Addr) (c6 : Nat), i ≤ p.length ∧ iv = .int .i64 i ∧ rv = .slice A6 s.row.length c6 ∧ CAt (roundM p qs) p t i k s ∧ s.c = t.s.c ∧ s.sv = t.s.sv ∧ RRow p t.out w.heap.size wD.heap.size wD qC qD qR A5 c5 k s A6 c6 wr) (fun _ iv _ => p.length - (intOf iv).toNat)
      case atStart => exact ⟨0, t.next, t.s, A6, c6, Nat.zero_le _, rfl, rfl, CAt.start HR.out.inv, rfl, rfl, HM0.out⟩
      case round =>
        obtain ⟨i, k, s, A7, c7, hi, rfl, rfl, hC, hsc, hss, hm⟩ := hrel
        have HC := Lib.hid hC
        have HM := Lib.hid hm
        have HSC := Lib.hid hsc
        have HSS := Lib.hid hss
        clear hC hm hsc hss
        by_cases hil : i < p.length
        · as_aux_lemma =>
          have kw := KD.out.trans HM.out.bel
          have KW := Lib.hid kw
          obtain ⟨b, o, rfl, hbb, d0, d1, d2⟩ := RdP.get (h.below (kw.mono hB)) hil
          have c0 : wr.cell? ⟨qC, i, none⟩ = some (.bool (decide (i < k))) := HM.out.cm.cell hil
          have f0 := HM.out.cm.frozen i
          have q1 : (0 : Int) ≤ (i : Int) := by omega
          have q2 : (i : Int) < (p.length : Int) := by omega
          have q3 : ¬ (i : Int) < 0 := by omega
          clear kw hi
          by_cases hik : i < k
          · obtain ⟨cat2, hai⟩ := HC.out.old HR.out.cm hik
            have CT := Lib.hid cat2
            rw [decide_eq_true hik] at c0
            clear cat2 hai hik
            go_wp2_with fail
            go_roundw
            case rel => exact ⟨i + 1, k, s, A7, c7, hil, by go_num, rfl, CT.out, HSC.out, HSS.out, HM.out⟩
            case measure => simp [intOf]; omega
          · have hki : k ≤ i := by omega
            rw [decide_eq_false hik] at c0
            obtain ⟨pa, hpa⟩ : ∃ pa, pa = p[i].a := ⟨_, rfl⟩
            have haa : aOf p i = pa := by rw [aOf_of hil, hpa]
            rw [← hpa] at d2
            have HAA := Lib.hid haa
            clear hik hpa haa
            by_cases hlate : t.now < pa
            · have CT := Lib.hid (HC.out.late hki (by rw [HAA.out]; exact hlate))
              clear hki
              go_wp2_with fail
              go_roundw
              case rel => exact ⟨i + 1, k, s, A7, c7, hil, by go_num, rfl, CT.out, HSC.out, HSS.out, HM.out⟩
              case measure => simp [intOf]; omega
            · have hle : pa ≤ t.now := by omega
              have hki2 : k = i := HC.out.now_ HS.out hki hil (by rw [HAA.out]; exact hle)
              subst hki2
              have hok := HP.out _ (List.getElem_mem hil)
              obtain ⟨fl, hf⟩ : ∃ fl : Nat, p[k].f = fl := ⟨p[k].f.toNat, by have := hok.1; omega⟩
              have hfl : flN p k = fl := by unfold flN; rw [fOf_of hil, hf]; simp
              rw [hf] at d0
              have CT := Lib.hid (HC.out.come (roundOk HP.out HQ0.out HQ1.out) hil (by rw [HAA.out]; exact hle))
              have HFL := Lib.hid hfl
              have hMc := HM.out.cm
              clear hok hf hfl hlate hki hMc
              have m0 := HM.out.rl.slice
              obtain ⟨W1, hW1⟩ : ∃ W1 : World, W1 = wr.setCell ⟨qC, k, none⟩ (.bool true) := ⟨_, rfl⟩
              have HW1 := Lib.hid hW1
              have rl1 : MRow W1 wD.heap.size 3 (.slice A7 s.row.length c7) s.row := by
                rw [hW1]
                exact HM.out.rl.set_ (a := ⟨qC, k, none⟩) (fun e => by have h9 : wD.heap.size ≤ qC := (HM.out.rl.lt _ e).1; have := HM.out.lo.1; omega) _
              have bw1 : Below B wr W1 := by rw [hW1]; exact (Below.refl _ _).setCell (p := ⟨qC, k, none⟩) (Nat.le_trans hB HM.out.ge.1) _
              have d01 : (wr.setCell ⟨qC, k, none⟩ (.bool true)).cell? ⟨b, o + k * 3, none⟩ = some (.int .i64 (fl : Int)) := by rw [← hW1]; exact (bw1.cell (p := ⟨b, o + k * 3, none⟩) hbb).trans d0
              have hrl : s.row.length ≤ 8 := by
                have h9 := rlst_len HP.out HC.out.inv.ok
                have : s.row.length ≤ (lst s).length := by unfold lst; split <;> simp
                omega
              obtain ⟨b0, hb0⟩ : ∃ b0, b0 = ((fl : Int) == sn) := ⟨_, rfl⟩
              have hb0' : b0 = decide (s.sv = some fl) := by rw [hb0, HSS.out, Bool.eq_iff_iff, beq_iff_eq, decide_eq_true_iff]; exact HSG.out fl
              have HB0 := Lib.hid hb0
              have HB0' := Lib.hid hb0'
              have HRL1 := Lib.hid rl1
              clear hW1 rl1 d0 d1 bw1 m0 hb0 hb0'
              go_wp2_with fail
              rw [← HW1.out, ← HB0.out]
              clear d01 c0 f0 d2
              go_loopw [16, 17] (fun isv jv wr => ∃ j : Nat, j ≤ s.row.length ∧ jv = .int .i64 j ∧ isv = .bool (b0 || decide (fl ∈ s.row.take j)) ∧ wr = W1) (fun _ jv _ => s.row.length - (intOf jv).toNat)
              case atStart => exact ⟨0, Nat.zero_le _, rfl, by simp, rfl⟩
              case round =>
                obtain ⟨j, hj, rfl, rfl, hwr⟩ := hrel
                obtain rfl : W1 = wr := hwr.symm
                clear hwr
                by_cases hjl : j < s.row.length
                · obtain ⟨b7, o7, c8, e7, hcl, hb7, hcell⟩ := HRL1.out.at_ (by omega)
                  simp only [Value.slice.injEq, true_and] at e7
                  obtain ⟨rfl, rfl⟩ := e7
                  have cj := hcell j hjl
                  have HT := Lib.hid (mem_take_succ (f := fl) hjl)
                  have r1 : (0 : Int) ≤ (j : Int) := by omega
                  have r2 : (j : Int) < (s.row.length : Int) := by omega
                  obtain ⟨x, hx⟩ : ∃ x, x = s.row[j] := ⟨_, rfl⟩
                  rw [← hx] at cj HT
                  clear hcell hx
                  by_cases hxf : x = fl
                  · subst hxf
                    have hxx : ((x : Int) == (x : Int)) = true := by simp
                    have HT2 := Lib.hid (show (b0 || decide (x ∈ s.row.take (j + 1))) = true by rw [HT.out]; simp)
                    clear HT
                    go_wp2_with fail
                    go_roundw
                    case rel => exact ⟨j + 1, hjl, by go_num, by rw [HT2.out], by first | rfl | trivial⟩
                    case measure => simp [intOf]; omega
                  · have hxx : ((x : Int) == (fl : Int)) = false := by simp; omega
                    have HT2 := Lib.hid (show (b0 || decide (fl ∈ s.row.take (j + 1))) = (b0 || decide (fl ∈ s.row.take j)) by rw [HT.out, beq_eq_false_iff_ne.2 hxf, Bool.or_false])
                    clear HT
                    go_wp2_with fail
                    go_roundw
                    case rel => exact ⟨j + 1, hjl, by go_num, by rw [HT2.out], by first | rfl | trivial⟩
                    case measure => simp [intOf]; omega
                · have hje : s.row.take j = s.row := List.take_of_length_le (by omega)
                  rw [hje, HB0'.out]
                  have hml : (decide (s.sv = some fl) || decide (fl ∈ s.row)) = decide (fl ∈ lst s) := by
                    rw [Bool.eq_iff_iff, Bool.or_eq_true, decide_eq_true_iff, decide_eq_true_iff, decide_eq_true_iff]
                    exact lst_mem.symm
                  rw [hml]
                  clear hje hml
                  by_cases hm : fl ∈ lst s
                  · rw [decide_eq_true hm]
                    have HM2 := Lib.hid (show RRow p t.out w.heap.size wD.heap.size wD qC qD qR A5 c5 (k + 1) (rCome p s k) A7 c7 W1 by rw [HW1.out]; exact HM.out.come0 (by rw [HFL.out]; exact hm))
                    have hrow : (rCome p s k).row = s.row := if_pos (by rw [HFL.out]; exact hm)
                    have HRW := Lib.hid hrow
                    clear hm hrow
                    go_wp2_with fail
                    go_roundw
                    case rel => exact ⟨k + 1, k + 1, rCome p s k, A7, c7, hil, by go_num, by rw [HRW.out], CT.out, HSC.out, HSS.out, HM2.out⟩
                    case measure => simp [intOf]; omega
                  · rw [decide_eq_false hm]
                    have HMN := Lib.hid hm
                    clear hm
                    go_wp2_with (at_builtin; refine wpList_append_mid _ rfl (.tmp 79) (.tmp 81) 23 rfl wD.heap.size 3 iI Tryz.underlying23 hI hI0 hI1 hI2 (.slice A7 s.row.length c7) s.row rfl (HRL1.out.alloc _) ⟨W1.heap.size, 0, none⟩ fl rfl (cell_blk (heap_alloc_new _ _) 0) (by omega) (by have := HM.out.bs; rw [HW1.out]; simp; omega) ?_; intro v3 w3 row3 g3 at3)
                    obtain ⟨A8, c8, hv8, m8⟩ := HM.out.come1 (by rw [HFL.out]; exact HMN.out) (by rw [HFL.out]; exact row3) (by rw [← HW1.out]; exact g3) (by rw [← HW1.out]; exact at3)
                    refine ⟨⟨k + 1, k + 1, rCome p s k, A8, c8, hil, by go_num, hv8, CT.out, HSC.out, HSS.out, m8⟩, ?_⟩
                    simp [intOf]
                    omega
        · have hend : comeL (roundM p qs) t.now (p.drop t.next) t.next t.s = (k, s) := by
            have h9 := HC.out
            rw [show i = p.length by omega] at h9
            exact h9.end_
          have hri : RI p qs k s := HC.out.inv.ok
          have HEND := Lib.hid hend
          have HRI := Lib.hid hri
          have hkp := hri.le
          clear hend hri hi
          by_cases hidle : s.sv = none ∧ s.row = []
          · as_aux_lemma =>
            obtain ⟨hsv, hrow⟩ := hidle
            have sn0 : sn < 0 := HSN.out.2 (by rw [← HSS.out]; exact hsv)
            have HSVN := Lib.hid hsv
            clear hsv
            have hturn : rTurn qs s = none := by unfold rTurn; rw [HSVN.out, hrow]
            obtain ⟨ik, idn, idl, est⟩ := HR.out.idle HP.out HQ0.out HQ1.out HLT.out HEND.out hturn
            obtain ⟨hro, hmu2⟩ := HR.out.step HP.out HS.out h0 h1 HQ0.out HQ1.out HLT.out
            rw [est] at hro hmu2
            have HRO := Lib.hid hro
            have HMU2 := Lib.hid hmu2
            have IDN := Lib.hid idn
            have IDL := Lib.hid idl
            have hz : s.row.length = 0 := by rw [hrow]; rfl
            have HZ := Lib.hid hz
            rw [hz]
            obtain ⟨W1, hW1⟩ : ∃ W1 : World, W1 = wr := ⟨_, rfl⟩
            have HM1 := Lib.hid (show RRow p t.out w.heap.size wD.heap.size wD qC qD qR A5 c5 k s A7 c7 W1 by rw [hW1]; exact HM.out)
            rw [← hW1]
            clear hro hmu2 idn idl est hturn hrow hW1 hz
            go_wp2_with fail
            clear hil
            go_loopw [18] (fun iv wr => ∃ i : Nat, i ≤ k ∧ iv = .int .i64 i ∧ wr = W1) (fun iv _ => k - (intOf iv).toNat)
            case atStart => exact ⟨0, Nat.zero_le _, rfl, rfl⟩
            case round =>
              obtain ⟨i, hi, rfl, hwr⟩ := hrel
              obtain rfl : W1 = wr := hwr.symm
              clear hwr
              have hil2 : i < p.length := by omega
              have e0 : W1.cell? ⟨qD, i, none⟩ = some (.bool (dnB t.out i)) := HM1.out.dn.cell hil2
              have q1 : (0 : Int) ≤ (i : Int) := by omega
              have q2 : (i : Int) < (p.length : Int) := by omega
              by_cases hik : i < k
              · rw [IDL.out i hik] at e0
                go_wp2_with fail
                go_roundw
                case rel => exact ⟨i + 1, hik, by go_num, by first | rfl | trivial⟩
                case measure => simp [intOf]; omega
              · obtain rfl : i = k := by omega
                rw [IDN.out] at e0
                have kw := KD.out.trans HM1.out.bel
                obtain ⟨b, o, rfl, hbb, d0, d1, d2⟩ := RdP.get (h.below (kw.mono hB)) hil2
                have haa : aOf p i = p[i].a := aOf_of hil2
                rw [← haa] at d2
                have HAA := Lib.hid haa
                have hrm := rMu_le HRI.out
                have HRM := Lib.hid hrm
                clear kw haa hrm hik hi
                go_wp2_with fail
                go_roundg n
                case rel => exact ⟨_, ⟨t.out, aOf p i, i, s⟩, A5, c5, A7, c7, rfl, by rw [HZ.out], by rw [HSS.out, HSV.out], rfl, HRO.out, HM1.out, by have := HRM.out; have := HMU.out; have := HMU2.out; show _ * 30000 + rMu s ≤ n; omega⟩
                case measure => exact Nat.lt_succ_self _
          · have ways : (∃ g r, s.sv = none ∧ s.row = g :: r) ∨ ∃ g, s.sv = some g := by
              cases hsv : s.sv with
              | some g => exact .inr ⟨g, rfl⟩
              | none =>
                cases hrow : s.row with
                | nil => exact absurd ⟨hsv, hrow⟩ hidle
                | cons g r => exact .inl ⟨g, r, rfl, rfl⟩
            clear hidle
            rcases ways with ⟨g, r, hsv, hrow⟩ | ⟨g, hsv⟩
            focus
              have sn0 : sn < 0 := HSN.out.2 (by rw [← HSS.out]; exact hsv)
              have HSVN := Lib.hid hsv
              clear hsv
              have hqg : s.q g ≠ [] := (HRI.out.mem g).1 (lst_mem.2 (.inr (by rw [hrow]; exact List.mem_cons_self)))
              have g8 := HRI.out.g8 HP.out hqg
              obtain ⟨x0, hx0⟩ : ∃ x0, x0 = s.c g := ⟨_, rfl⟩
              obtain ⟨y0, hy0⟩ : ∃ y0, y0 = qu qs g := ⟨_, rfl⟩
              have hturn : rTurn qs s = some (g, { s with row := r, sv := some g, c := upd s.c g (x0 + y0) }) := by unfold rTurn; rw [HSVN.out, hrow, hx0, hy0]
              have hcb := rc_bd HP.out HQQ.out HRI.out g8
              have hqb := HQQ.out g g8
              rw [← hx0] at hcb
              rw [← hy0] at hqb
              obtain ⟨hcb1, hcb2⟩ := hcb
              obtain ⟨hqb1, hqb2⟩ := hqb
              have hrl := HM.out.rl
              rw [hrow] at hrl
              obtain ⟨b7, o7, c8, e7, hcl, e0⟩ := hrl.head_
              simp only [Value.slice.injEq, true_and, List.length_cons] at e7
              obtain ⟨rfl, rfl⟩ := e7
              have htl := hrl.tail
              have ec : wr.cell? ⟨qR, g, none⟩ = some (.int .i64 x0) := by rw [hx0]; exact HM.out.cr.cell g8
              have fc := HM.out.cr.frozen g
              have kw := KD.out.trans HM.out.bel
              have hgq : g < qs.length := by rw [H8.out]; exact g8
              obtain ⟨b2, o2, rfl, hb2, k0⟩ := RdI.get (h'.below (kw.mono hB)) hgq
              have hqe : qs[g] = y0 := by rw [hy0]; unfold qu; simp [List.getD, hgq]
              rw [hqe] at k0
              have q1 : (0 : Int) ≤ (g : Int) := by omega
              have q2 : (g : Int) < 8 := by omega
              have q3 : (g : Int) < (qs.length : Int) := by omega
              have q4 : ¬ (g : Int) < 0 := by omega
              obtain ⟨N, hN⟩ : ∃ N, N = (g :: r).length := ⟨_, rfl⟩
              have hN1 : N = r.length + 1 := by rw [hN]; rfl
              have hz : ((N : Int) == 0) = false := beq_eq_false_iff_ne.2 (by omega)
              have q5 : (0 : Int) < (N : Int) := by omega
              have q6 : (1 : Int) ≤ (N : Int) := by omega
              have q7 : (N : Int) ≤ (c7 : Int) := by omega
              rw [hrow, ← hN]
              have HN1 := Lib.hid hN1
              obtain ⟨s1, hs1⟩ : ∃ s1 : RS, s1 = { s with row := r, sv := some g, c := upd s.c g (x0 + y0) } := ⟨_, rfl⟩
              rw [← hs1] at hturn
              have HS1 := Lib.hid hs1
              have HTURN := Lib.hid hturn
              have HTL := Lib.hid htl
              have HRW := Lib.hid hrow
              clear hqg hx0 hy0 hturn hrl htl kw hgq hqe hrow hs1 hN hN1 hcl
              by_cases hc8 : c7 = 1
              focus
                subst hc8
                go_wp2_with fail
                go_still_tail 12, (by kernel_rfl)
                go_wp2_with fail
                obtain ⟨W1, hW1⟩ : ∃ W1 : World, W1 = (wr.setCell ⟨qR, g, none⟩ (.int .i64 (x0 + y0))).drew := ⟨_, rfl⟩
                obtain ⟨V6, hV6⟩ : ∃ V6, V6 = Value.slice (some ⟨b7, o7, none⟩) (N - 1) 0 := ⟨_, rfl⟩
                have hv : ∃ A8 c8, V6 = .slice A8 s1.row.length c8 ∧ RRow p t.out w.heap.size wD.heap.size wD qC qD qR A5 c5 k s1 A8 c8 W1 := by
                  have hsr : s1.row = r := by rw [HS1.out]
                  have h9 := HTL.out
                  simp only [ite_true] at h9
                  refine ⟨(some ⟨b7, o7, none⟩), 0, by rw [hV6, hsr, HN1.out]; rfl, ?_⟩
                  rw [hW1, HS1.out]
                  exact (((HM.out.setRow h9 (by rfl) (some g)).setC g (x0 + y0)).drewN 1)
                rw [← hW1, ← hV6]
                have HVV := Lib.hid hv
                have G8 := Lib.hid g8
                clear hv hW1 hV6 ec fc e0 k0 hz q5 q6 q7 hcb1 hcb2 hqb1 hqb2 HTL HRW HN1 HS1 
              rotate_left
              focus
                go_wp2_with fail
                go_still_tail 12, (by kernel_rfl)
                go_wp2_with fail
                obtain ⟨W1, hW1⟩ : ∃ W1 : World, W1 = (wr.setCell ⟨qR, g, none⟩ (.int .i64 (x0 + y0))).drew := ⟨_, rfl⟩
                obtain ⟨V6, hV6⟩ : ∃ V6, V6 = Value.slice (some ⟨b7, o7 + 1, none⟩) (N - 1) (c7 - 1) := ⟨_, rfl⟩
                have hv : ∃ A8 c8, V6 = .slice A8 s1.row.length c8 ∧ RRow p t.out w.heap.size wD.heap.size wD qC qD qR A5 c5 k s1 A8 c8 W1 := by
                  have hsr : s1.row = r := by rw [HS1.out]
                  have h9 := HTL.out
                  rw [if_neg hc8] at h9
                  refine ⟨(some ⟨b7, o7 + 1, none⟩), (c7 - 1), by rw [hV6, hsr, HN1.out]; rfl, ?_⟩
                  rw [hW1, HS1.out]
                  exact (((HM.out.setRow h9 (by rfl) (some g)).setC g (x0 + y0)).drewN 1)
                rw [← hW1, ← hV6]
                have HVV := Lib.hid hv
                have G8 := Lib.hid g8
                clear hv hW1 hV6 ec fc e0 k0 hz q5 q6 q7 hcb1 hcb2 hqb1 hqb2 HTL HRW HN1 HS1 hc8
            rotate_left 2
            focus
              have hsg : (g : Int) = sn := (HSG.out g).2 (by rw [← HSS.out]; exact hsv)
              have g8 := HRI.out.g8 HP.out ((HRI.out.mem g).1 (lst_mem.2 (.inl hsv)))
              have HTURN := Lib.hid (show rTurn qs s = some (g, s) by unfold rTurn; rw [hsv])
              have q4 : ¬ (g : Int) < 0 := by omega
              subst hsg
              obtain ⟨W1, hW1⟩ : ∃ W1 : World, W1 = wr := ⟨_, rfl⟩
              obtain ⟨V6, hV6⟩ : ∃ V6, V6 = Value.slice A7 s.row.length c7 := ⟨_, rfl⟩
              obtain ⟨s1, hs1⟩ : ∃ s1, s1 = s := ⟨_, rfl⟩
              have hv : ∃ A8 c8, V6 = .slice A8 s1.row.length c8 ∧ RRow p t.out w.heap.size wD.heap.size wD qC qD qR A5 c5 k s1 A8 c8 W1 := by
                rw [hs1, hW1]
                exact ⟨A7, c7, hV6, HM.out⟩
              rw [← hW1]
              have HVV := Lib.hid hv
              have G8 := Lib.hid g8
              have HV6 := Lib.hid hV6
              have HTURN := Lib.hid (show rTurn qs s = some (g, s1) by rw [hs1]; exact HTURN.out)
              clear hv hW1 hV6 hs1 hsv
              go_wp2_with fail
              rw [← HV6.out]
            all_goals
              obtain ⟨A8, c8, rfl, hm1⟩ := HVV.out
              have HM1 := Lib.hid hm1
              obtain ⟨hri1, hsv1, hq1, hl1, hne, _⟩ := HRI.out.turn HQ0.out HTURN.out
              obtain ⟨kk, tl, hqk⟩ : ∃ kk tl, s.q g = kk :: tl := by
                cases hq : s.q g with
                | nil => exact absurd hq hne
                | cons kk tl => exact ⟨kk, tl, rfl⟩
              have hwt := HR.out.wait HP.out HS.out HQ0.out HQ1.out HEND.out
              have hwq := (wait_q HRI.out hwt G8.out).trans hqk
              have hkp : kk < p.length := by have := (HRI.out.fl g kk (by rw [hqk]; exact List.mem_cons_self)).1; have := HRI.out.le; omega
              have hhd : rHead s1 g = kk := by unfold rHead; rw [hq1, hqk]; rfl
              have kw1 := KD.out.trans hm1.bel
              have HQK := Lib.hid hqk
              have HWT := Lib.hid hwt
              have HHD := Lib.hid hhd
              have HRI1 := Lib.hid hri1
              have HSV1 := Lib.hid hsv1
              have HQ1E := Lib.hid hq1
              have HWQ := Lib.hid hwq
              have KW1 := Lib.hid kw1
              have hda := hm1.dn
              clear HVV hri1 hsv1 hq1 hl1 hne hwt hwq hhd hqk hm1
              refine (waiting_any A c p qD (dnB t.out) g t.now W1 _ (Nat.le_trans hB kw1.size) (h.below (kw1.mono hB)) HP.out hl hda).mono ?_
              rw [HWQ.out]
              rintro e w2 ⟨A9, c9, rfl, o9, k9⟩
              have hm2 := HM1.out.below_ k9
              have HM2 := Lib.hid hm2
              have HK9 := Lib.hid k9
              obtain ⟨b9, o9', c9', e9, hc9, e90⟩ := (MRow.of_own o9).head_
              simp only [Value.slice.injEq, true_and, List.length_cons] at e9
              obtain ⟨rfl, rfl⟩ := e9
              obtain ⟨N9, hN9⟩ : ∃ N9, N9 = (kk :: tl).length := ⟨_, rfl⟩
              rw [← hN9]
              have n9 : (0 : Int) < (N9 : Int) := by rw [hN9]; simp only [List.length_cons]; omega
              have kw2 := KD.out.trans hm2.bel
              obtain ⟨b, o, rfl, hbb, d0, d1, d2⟩ := RdP.get (h.below (kw2.mono hB)) hkp
              have hok := HP.out _ (List.getElem_mem hkp)
              obtain ⟨z, hz⟩ : ∃ z, z = p[kk].s := ⟨_, rfl⟩
              obtain ⟨cr, hcr⟩ : ∃ cr, cr = s1.c g := ⟨_, rfl⟩
              have ec : w2.cell? ⟨qR, g, none⟩ = some (.int .i64 cr) := by rw [hcr]; exact hm2.cr.cell G8.out
              have hzk : sOf p kk = z := by rw [sOf_of hkp, hz]
              have hcb := rc_bd HP.out HQQ.out HRI1.out G8.out
              rw [← hcr] at hcb
              obtain ⟨hcb1, hcb2⟩ := hcb
              have z1 : 1 ≤ z := by rw [hz]; exact hok.2.2.1
              have z2 : z ≤ 1500 := by rw [hz]; exact hok.2.2.2.1
              rw [← hz] at d1
              have HZK := Lib.hid hzk
              have HCR := Lib.hid hcr
              have KW2 := Lib.hid kw2
              have HD1 := Lib.hid d1
              have p1 : (0 : Int) ≤ (kk : Int) := by omega
              have p2 : (kk : Int) < (p.length : Int) := by omega
              have p3 : (0 : Int) ≤ (g : Int) := by omega
              have p4 : (g : Int) < 8 := by have := G8.out; omega
              have p5 : ¬ (kk : Int) < 0 := by omega
              clear kw1 hda o9 hm2 k9 hc9 hN9 hok hz hcr hzk kw2 d0 d2
              by_cases hfit : z ≤ cr
              · as_aux_lemma =>
                have hft : sOf p (rHead s1 g) ≤ s1.c g := by rw [HHD.out, HZK.out, ← HCR.out]; exact hfit
                have est : stepS (roundM p qs) p per t = ⟨t.out ++ [⟨kk, t.now, t.now + per * z⟩], t.now + per * z, k, rSend p s1 g⟩ := by
                  have h9 := step_some (M := roundM p qs) (p := p) (per := per) (t := t) HEND.out (show (roundM p qs).pick s = _ from rPick_fit HTURN.out hft)
                  rw [HHD.out, HZK.out] at h9
                  exact h9
                obtain ⟨hro, hmu2⟩ := HR.out.step HP.out HS.out h0 h1 HQ0.out HQ1.out HLT.out
                rw [est] at hro hmu2
                have HRO := Lib.hid hro
                have HMU2 := Lib.hid hmu2
                have hrm := rMu_le (show RI p qs k (rSend p s1 g) from hro.inv.ok)
                have HRM := Lib.hid hrm
                have m1 : 0 ≤ per * z := Int.mul_nonneg (by omega) (by omega)
                have m2 : per * z ≤ 1000 * 1500 := Int.mul_le_mul h1 z2 (by omega) (by omega)
                have hol : t.out.length ≤ 300 := by have := HLT.out; omega
                have n2 : t.now ≤ 1099961627776 := by omega
                have hnn : decide (cr < z) = false := decide_eq_false (by omega)
                have HNN := Lib.hid hnn
                clear hft est hro hmu2 hrm hfit hnn
                go_wp2_with fail
                have hnn := HNN.out
                go_quiet (fail)
                rename Nat => nq
                obtain ⟨X, hX⟩ : ∃ X : World, X = w2.drewN nq := ⟨_, rfl⟩
                have HMX := Lib.hid (show RRow p t.out w.heap.size wD.heap.size wD qC qD qR A5 c5 k s1 A8 c8 X by rw [hX]; exact HM2.out.drewN nq)
                have ecX : X.cell? ⟨qR, g, none⟩ = some (.int .i64 cr) := by rw [hX]; exact ec
                have dX : X.cell? ⟨b, o + kk * 3 + 1, none⟩ = some (.int .i64 z) := by rw [hX]; exact d1
                have fX := HMX.out.cr.frozen g
                rw [← hX]
                clear hX ec d1 e90
                have y1 : -9223372036854775808 ≤ cr - z := by omega
                have y2 : cr - z ≤ 9223372036854775807 := by omega
                clear hnn HNN
                go_upto_region 38 with fail
                go_cut [] from 30 to 188 (fun wx => RRow p t.out w.heap.size wD.heap.size wD qC qD qR A5 c5 k { s1 with c := upd s1.c g (cr - z) } A8 c8 wx ∧ wx.cell? ⟨b, o + kk * 3 + 1, none⟩ = some (.int .i64 z))
                case first => as_aux_lemma =>
                  have HMY := Lib.hid (show RRow p t.out w.heap.size wD.heap.size wD qC qD qR A5 c5 k { s1 with c := upd s1.c g (cr - z) } A8 c8 (X.setCell ⟨qR, g, none⟩ (.int .i64 (cr - z))).drew from (HMX.out.setC g (cr - z)).drewN 1)
                  have HdY := Lib.hid (show (X.setCell ⟨qR, g, none⟩ (.int .i64 (cr - z))).drew.cell? ⟨b, o + kk * 3 + 1, none⟩ = some (.int .i64 z) from (World.cell?_setCell_far X ⟨qR, g, none⟩ ⟨b, o + kk * 3 + 1, none⟩ (.int .i64 (cr - z)) (by have hg3 := HMX.out.ge; show qR ≠ b; omega)).trans dX)
                  go_region
                  go_wp2_with fail
                  go_meet
                  exact ⟨HMY.out, HdY.out⟩
                case rest =>
                rename World => Y
                have HMY := Lib.hid hcut.1
                have fD := hcut.1.dn.frozen kk
                have cD := hcut.1.dn.cell hkp
                have HdZ := Lib.hid (show (Y.setCell ⟨qD, kk, none⟩ (.bool true)).cell? ⟨b, o + kk * 3 + 1, none⟩ = some (.int .i64 z) from (World.cell?_setCell_far Y ⟨qD, kk, none⟩ ⟨b, o + kk * 3 + 1, none⟩ (.bool true) (by have hg3 := hcut.1.ge; show qD ≠ b; omega)).trans hcut.2)
                clear hcut HMX ecX dX fX X
                go_upto_region 39 with fail
                go_cut [] from 30 to 188 (fun wx => wx = Y.setCell ⟨qD, kk, none⟩ (.bool true))
                case first => as_aux_lemma =>
                  go_wp2_with fail
                  go_meet
                  rfl
                case rest =>
                rename World => Z
                have HZ := Lib.hid hcut
                have dZ : Z.cell? ⟨b, o + kk * 3 + 1, none⟩ = some (.int .i64 z) := by rw [HZ.out]; exact HdZ.out
                have rowZ : Z.ownsRow wD.heap.size 62 3 (.slice A5 t.out.length c5) t.out.length (t.out.flatMap Sn.cs) := by
                  rw [HZ.out]
                  exact row_sameR HMY.out.row fun b' hb' => Below.heap_setCell Y ⟨qD, kk, none⟩ (.bool true) b' (fun e => by have h9 := own_ge HMY.out.row b' hb'; have := HMY.out.lo; simp only at e; omega)
                have hZs : wD.heap.size ≤ Z.heap.size := by rw [HZ.out, setCell_size]; exact HMY.out.bs
                obtain ⟨x, hx⟩ : ∃ x : Sn, x = ⟨kk, t.now, t.now + per * z⟩ := ⟨_, rfl⟩
                have Hx := Lib.hid hx
                have hq3 : t.out.length + [x].length ≤ maxLen := by simp only [maxLen, List.length_cons, List.length_nil]; omega
                have hq4 : (t.out.length + [x].length) * 24 ≤ 140737488355328 := by simp only [List.length_cons, List.length_nil]; omega
                have hq5 : wD.heap.size ≤ ((Z.alloc (.cells #[.int .i64 kk, .int .i64 t.now, .int .i64 (t.now + per * z)] 62)).alloc (.cells #[.int .i64 kk, .int .i64 t.now, .int .i64 (t.now + per * z)] 62)).heap.size := by simp; omega
                have HROW := Lib.hid rowZ
                clear hcut hx rowZ fD cD
                rw [← Hx.out] at HRO HMU2
                obtain ⟨out', ho⟩ : ∃ out', out' = t.out ++ [x] := ⟨_, rfl⟩
                rw [← ho] at HRO HMU2
                have Ho := Lib.hid ho
                clear ho
                have hxp : x.p = kk := by rw [Hx.out]
                have HXP := Lib.hid hxp
                clear hxp
                go_upto_region 41 with fail
                go_cut [7] from 30 to 188 (fun s7 wx => ∃ A6 c6, s7 = .slice A6 out'.length c6 ∧ RRow p out' w.heap.size wD.heap.size wD qC qD qR A6 c6 k { s1 with c := upd s1.c g (cr - z) } A8 c8 wx ∧ Blk wx Z.heap.size 62 #[.int .i64 kk, .int .i64 t.now, .int .i64 (t.now + per * z)] ∧ Z.heap.size < wx.heap.size)
                case first => as_aux_lemma =>
                  go_wp2_with (at_builtin; refine wpList_append_rd _ Sn.cs rfl (.tmp 172) (.tmp 174) 39 rfl wD.heap.size 62 iS (.agg #[.int .i64 0, .int .i64 0, .int .i64 0]) 3 24 Tryz.underlying39 hSn hS0 hS1 hS2 rfl (by omega) Sn.cs_len Sn.cs_one (.slice A5 t.out.length c5) t.out.length (t.out.flatMap Sn.cs) rfl ((HROW.out.alloc _).alloc _) (Z.heap.size + 2) (some ⟨Z.heap.size + 1, 0, none⟩) 1 [x] rfl (Rd.of_block (heap_alloc_new2 _ _ _) ((congrArg (fun y => [y].flatMap Sn.cs) Hx.out).symm) (Nat.lt_succ_self _) (by omega) Sn.cs_len) hq3 hq4 hq5 ?_; intro v3 w3 row3 g3 at3)
                  go_meet
                  obtain ⟨A6, c6, hv6, row3⟩ := own_app row3 (by omega)
                  have hb3 := new_grown g3 (own_lt HROW.out)
                  have hs3 : Z.heap.size < w3.heap.size := by have := g3.size; simp at this; omega
                  rw [hv6] at at3
                  rw [HZ.out] at g3 at3
                  have m4 := HMY.out.sent HXP.out row3 g3 at3
                  rw [← Ho.out] at hv6 m4
                  exact ⟨A6, c6, hv6, m4, hb3, hs3⟩
                case rest =>
                rename World => V
                obtain ⟨A6, c6, rfl, hm7, hb7, hs7⟩ := hcut
                have HM7 := Lib.hid hm7
                have HB7 := Lib.hid hb7
                have kw7 := KD.out.trans hm7.bel
                have hd7 := hm7.dn
                have htl := wait_tail HRI.out HWT.out G8.out HQK.out (d' := dnB out') (fun j => by
                  rw [Ho.out, dnB_add, HXP.out]
                  congr 1
                  rw [Bool.eq_iff_iff, beq_iff_eq, beq_iff_eq]
                  omega)
                have HTL := Lib.hid htl
                clear hm7 hb7 htl dZ hq3 hq4 hq5
                go_wp2_with fail
                refine (waiting_any (some ⟨b, o, none⟩) c p qD (dnB out') g t.now V _ (Nat.le_trans hB kw7.size) (h.below (kw7.mono hB)) HP.out hl hd7).mono ?_
                rw [HTL.out]
                rintro e w4 ⟨A11, c11, rfl, o11, k11⟩
                have HM4 := Lib.hid (HM7.out.below_ k11)
                have hb4 := HB7.out.below k11 hs7
                have hge := HM7.out.lo
                have hgx : Z.heap.size ≠ qR := by omega
                obtain ⟨N11, hN11⟩ : ∃ N11, N11 = tl.length := ⟨_, rfl⟩
                rw [← hN11]
                have HN11 := Lib.hid hN11
                clear hd7 o11 k11 hN11 hge
                by_cases hN0 : N11 = 0
                · have hz0 : ((N11 : Int) == 0) = true := by simp [hN0]
                  have htn : tl = [] := List.eq_nil_of_length_eq_zero (by rw [← HN11.out]; exact hN0)
                  have cR := HM4.out.cr.cell G8.out
                  have fR := HM4.out.cr.frozen g
                  have xT : (w4.setCell ⟨qR, g, none⟩ (.int .i64 0)).cell? ⟨Z.heap.size, 2, none⟩ = some (.int .i64 (t.now + per * z)) := (hb4.far (p := ⟨qR, g, none⟩) hgx (.int .i64 0)).cell 2
                  have hst : (s1.q g).tail = [] := by rw [HQ1E.out, HQK.out]; exact htn
                  have HST := Lib.hid (show rSend p s1 g = { s1 with q := upd s1.q g [], c := upd s1.c g 0, sv := none } from if_pos hst)
                  have HMS := Lib.hid (show RRow p out' w.heap.size wD.heap.size wD qC qD qR A6 c6 k (rSend p s1 g) A8 c8 (w4.setCell ⟨qR, g, none⟩ (.int .i64 0)) from (HM4.out.setC g 0).congr_ (by rw [HST.out]; funext j; show upd s1.c g 0 j = upd (upd s1.c g (cr - z)) g 0 j; unfold upd; split <;> rfl) (by rw [HST.out]))
                  clear hb4 hgx htn hst hN0
                  go_wp2_with fail
                  go_roundg n
                  case rel => exact ⟨f - 1, ⟨out', t.now + per * z, k, rSend p s1 g⟩, A6, c6, A8, c8, rfl, by rw [HST.out], by rw [HST.out]; rfl, rfl, HRO.out, HMS.out, by have := HMU.out; have := HMU2.out; have := HRM.out; show mu p _ * 30000 + rMu (rSend p s1 g) ≤ n; omega⟩
                  case measure => exact Nat.lt_succ_self _
                · have hz0 : ((N11 : Int) == 0) = false := beq_eq_false_iff_ne.2 (by omega)
                  have xT : w4.cell? ⟨Z.heap.size, 2, none⟩ = some (.int .i64 (t.now + per * z)) := hb4.cell 2
                  have hst : (s1.q g).tail ≠ [] := by rw [HQ1E.out, HQK.out]; intro e; exact hN0 (by rw [HN11.out, show tl = [] from e]; rfl)
                  have HST := Lib.hid (show rSend p s1 g = { s1 with q := upd s1.q g (s1.q g).tail, c := upd s1.c g (s1.c g - sOf p (rHead s1 g)) } from if_neg hst)
                  have HMS := Lib.hid (show RRow p out' w.heap.size wD.heap.size wD qC qD qR A6 c6 k (rSend p s1 g) A8 c8 w4 from HM4.out.congr_ (by rw [HST.out]; show upd s1.c g (s1.c g - sOf p (rHead s1 g)) = upd s1.c g (cr - z); rw [HHD.out, HZK.out, ← HCR.out]) (by rw [HST.out]))
                  clear hb4 hgx hst hN0
                  go_wp2_with fail
                  go_roundg n
                  case rel => exact ⟨f - 1, ⟨out', t.now + per * z, k, rSend p s1 g⟩, A6, c6, A8, c8, rfl, by rw [HST.out], by rw [HST.out]; show Value.int .i64 (g : Int) = svV s1.sv; rw [HSV1.out]; rfl, rfl, HRO.out, HMS.out, by have := HMU.out; have := HMU2.out; have := HRM.out; show mu p _ * 30000 + rMu (rSend p s1 g) ≤ n; omega⟩
                  case measure => exact Nat.lt_succ_self _
              · as_aux_lemma =>
                have hnf : ¬ sOf p (rHead s1 g) ≤ s1.c g := by rw [HHD.out, HZK.out, ← HCR.out]; exact hfit
                have hro := HR.out.fail HP.out HS.out HQ0.out HQ1.out HLT.out HEND.out HTURN.out hnf
                have hmf := (fail_mu HP.out HQ0.out HQ1.out HRI.out HTURN.out hnf).2
                rw [rMu_congr HSC.out HSS.out] at hmf
                have HRO := Lib.hid hro
                have HMF := Lib.hid hmf
                have hnz : cr < z := by omega
                have hrl8 : s1.row.length ≤ 8 := by
                  have h9 := rlst_len HP.out HRI1.out
                  have : s1.row.length ≤ (lst s1).length := by unfold lst; split <;> simp
                  omega
                clear hnf hro hmf hfit
                go_wp2_with fail
                go_quiet (fail)
                rename Nat => nq
                obtain ⟨X, hX⟩ : ∃ X : World, X = w2.drewN nq := ⟨_, rfl⟩
                have HMX := Lib.hid (show RRow p t.out w.heap.size wD.heap.size wD qC qD qR A5 c5 k s1 A8 c8 X by rw [hX]; exact HM2.out.drewN nq)
                rw [← hX]
                clear hX ec d1 e90
                go_wp2_with (first
                  | (at_builtin; refine wpList_append_rd _ nCs rfl (.tmp 137) (.tmp 138) 23 rfl wD.heap.size 3 iI (.int .i64 0) 1 8 Tryz.underlying23 hI hI0 hI1 hI2 rfl (by omega) nCs_len nCs_one (.slice none 0 0) 0 [] rfl ⟨by simp, .inl ⟨rfl, rfl⟩⟩ X.heap.size A8 c8 s1.row rfl HMX.out.rl.rdN (by simp only [maxLen]; omega) (by omega) HMX.out.bs ?_; intro v3 w3 row3 g3 at3; simp only [Nat.zero_add, List.nil_append] at row3)
                  | (at_builtin; refine wpList_append_mid _ rfl (.tmp 140) (.tmp 142) 23 rfl wD.heap.size 3 iI Tryz.underlying23 hI hI0 hI1 hI2 v3 s1.row rfl ((MRow.of_own row3).alloc _) ⟨w3.heap.size, 0, none⟩ g rfl (cell_blk (heap_alloc_new _ _) 0) (by omega) (by have := HMX.out.bs; have := g3.size; simp; omega) ?_; intro v4 w4 row4 g4 at4))
                obtain ⟨A10, c10, hv4⟩ := row4.slice
                have k3 : Below X.heap.size X w3 := (Below.refl _ _).grown g3 (Nat.le_refl _) (by simp [Value.ownBlock])
                have ho3 : ∀ b, v3.ownBlock = some b → X.heap.size ≤ b := fun b hb => by
                  rcases at3 with e | e
                  · rw [hb] at e; simp [Value.ownBlock] at e
                  · rw [hb] at e; injection e with e; omega
                have k4 : Below X.heap.size X w4 := (k3.alloc k3.size _).grown g4 (le_alloc k3.size _) ho3
                have ho4 : ∀ b, (Value.slice A10 (s1.row ++ [g]).length c10).ownBlock = some b → X.heap.size ≤ b := fun b hb => by
                  rw [← hv4] at hb
                  rcases at4 with e | ⟨g', e, e'⟩
                  · exact ho3 b (by rw [← e]; exact hb)
                  · rw [hb] at e
                    injection e with e
                    have := k3.size
                    simp at e'
                    omega
                rw [hv4] at row4
                have HN := Lib.hid (show RRow p t.out w.heap.size wD.heap.size wD qC qD qR A5 c5 k (rEnd s1 g) A10 c10 w4 from HMX.out.newRow k4 row4 ho4 none)
                clear k3 ho3 k4 ho4 row4 row3 g3 g4 at3 at4
                go_roundg n
                case rel => exact ⟨f, ⟨t.out, t.now, k, rEnd s1 g⟩, A5, c5, A10, c10, rfl, hv4, rfl, rfl, HRO.out, HN.out, by have := HMU.out; have := HMF.out; show mu p t * 30000 + rMu (rEnd s1 g) ≤ n; omega⟩
                case measure => exact Nat.lt_succ_self _
    · have e := HR.out.run.trans (runS_done (roundM p qs) p per f t hlt)
      have eL := Lib.hid (show roundL p per qs = t.out by unfold roundL; rw [e])
      clear e
      go_wp2_with fail
      go_ret
      rw [eL.out]
      exact ⟨A5, c5, rfl, own_mono HM0.out.row hbw, KD.out.trans HM0.out.bel⟩
end Go.Proofs.YthgpbdlmadjndaaGreatDoor
