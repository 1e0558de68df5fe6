/- The law PlayPackets returns true, whatever its arguments, and changes nothing that was there. Condition: the nine sentinels lie in their variables, apart; errors.errorType holds the type error. -/
import Derived.Test.YthgpbdlmadjndaaDoorPlayP
import Derived.Deep.RegionLaw
namespace Go.Proofs.YthgpbdlmadjndaaDoor
open Go.RowKit
set_option maxRecDepth 100000
theorem tameN_of' {l : List Sn} (h : tameB l = true) : tameN l = 1 := by unfold tameN; rw [h]; rfl
theorem tameN_off' {l : List Sn} (h : tameB l = false) : tameN l = 0 := by unfold tameN; rw [h]; rfl
/-- What holds at each round's head of the inner loop. -/
structure PlAt (p : List Pk) (f : Nat) (l : List Sn) (i : Nat) (n m t : Int) : Prop where
  b : tB p f 0 l = tB p f n (l.drop i)
  m_ : tM p f 0 l = tM p f m (l.drop i)
  l_ : tL p f 0 l = tL p f t (l.drop i)
  b0 : 0 ≤ n
  b1 : n ≤ 1500 * (i : Int)
theorem PlAt.skip {p : List Pk} {f : Nat} {l : List Sn} {i : Nat} {n m t : Int} (h : PlAt p f l i n m t) (hi : i < l.length) (hf : flT p l[i] ≠ f) : PlAt p f l (i + 1) n m t := by
  have hd := List.drop_eq_getElem_cons hi
  obtain ⟨h1, h2, h3, h4, h5⟩ := h
  rw [hd] at h1 h2 h3
  refine ⟨?_, ?_, ?_, h4, by omega⟩
  · rw [h1]; show tB p f (if flT p l[i] = f then _ else n) _ = _; rw [if_neg hf]
  · rw [h2]; show tM p f (if flT p l[i] = f then _ else m) _ = _; rw [if_neg hf]
  · rw [h3]; show tL p f (if flT p l[i] = f then _ else t) _ = _; rw [if_neg hf]
theorem PlAt.take {p : List Pk} {f : Nat} {l : List Sn} {i : Nat} {n m t z m' t' : Int} (h : PlAt p f l i n m t) (hi : i < l.length) (hf : flT p l[i] = f) (hz : sOf p l[i].p.toNat = z) (z0 : 0 ≤ z) (z1 : z ≤ 1500) (hm : m' = max m (l[i].t - aOf p l[i].p.toNat)) (ht : t' = max t l[i].t) : PlAt p f l (i + 1) (n + z) m' t' := by
  have hd := List.drop_eq_getElem_cons hi
  obtain ⟨h1, h2, h3, h4, h5⟩ := h
  rw [hd] at h1 h2 h3
  refine ⟨?_, ?_, ?_, by omega, by omega⟩
  · rw [h1]; show tB p f (if flT p l[i] = f then n + sOf p l[i].p.toNat else n) _ = _; rw [if_pos hf, hz]
  · rw [h2]; show tM p f (if flT p l[i] = f then max m (l[i].t - aOf p l[i].p.toNat) else m) _ = _; rw [if_pos hf, hm]
  · rw [h3]; show tL p f (if flT p l[i] = f then max t l[i].t else t) _ = _; rw [if_pos hf, ht]
set_option maxHeartbeats 4000000 in
theorem play_main (A A' : Option Addr) (c c' : Nat) (s : List Int) (l : List Sn) (S : Nat → Addr) (w : World) (h : RdI w w.heap.size A s) (h' : RdS w w.heap.size A' l) (hS : All9 w w.heap.size S) (hl1 : s.length ≤ 320) (hl2 : l.length ≤ 100) (htm : tameB l = true) (hw : ∀ v ∈ s, v ≤ 9223372036854775807) :
    Calls Tryd.prog 3 #[.slice A s.length c, .slice A' l.length c'] w fun e w' => e = .returned (.bool true) ∧ Below w.heap.size w w' := by
  have Htm := Lib.hid (tameN_of' htm)
  have Ht := Lib.hid (tameB_of htm)
  obtain ⟨i0, hi0, hz0, hz1, hz2⟩ := info_parts infoInt
  obtain ⟨P, hP⟩ : ∃ P, P = rollL s := ⟨_, rfl⟩
  obtain ⟨t9, hro, ht9⟩ := rollL_ok s
  have hpe := rollOk_good hro (by omega)
  have hpl := hro.len
  rw [← hP] at hpe hpl
  have hpk := pktErr_okPk hpe
  have HP := Lib.hid hP
  have Hpe := Lib.hid hpe
  clear htm hP hro hpe
  go_enter Tryd.func3, Tryd.ntmps3
  go_wp2_with fail
  refine (rolled_any w).mono ?_
  rintro e w1 ⟨rfl, k1⟩
  have z1 := k1.size
  go_wp2_with fail
  refine (tame_any A' c' l _ _ (h'.below k1) (by omega)).mono ?_
  rintro e wx ⟨rfl, rfl⟩
  rw [Htm.out]
  go_wp2_with (at_builtin; refine wpList_append_rd _ iCs rfl (.tmp 35) (.tmp 36) 22 rfl w1.heap.size 3 i0 (.int .i64 0) 1 8 Tryd.underlying22 hi0 hz0 hz1 hz2 rfl (by omega) iCs_len iCs_one (.slice none 0 0) 0 [] rfl ⟨by simp, .inl ⟨rfl, rfl⟩⟩ w.heap.size A c s rfl (h.below k1) (by simp only [maxLen]; omega) (by omega) (Nat.le_refl _) ?_; intro v4 w4 row4 g4 at4; simp only [Nat.zero_add, List.nil_append] at row4; obtain ⟨A4, c4, rfl⟩ := own_slice row4 (by omega); have k4 : Below w1.heap.size w1 w4 := (Below.refl _ _).grown g4 (Nat.le_refl _) (by simp [Value.ownBlock]))
  have k4' := k1.trans (k4.mono z1)
  have z4 := k4'.size
  have r4 : RdI w4 w4.heap.size A4 s := Rd.of_own row4 (by omega) iCs_len
  refine (packets_any A4 c4 s w4 _ (Nat.le_refl _) r4 (by omega) hw).mono ?_
  rintro e w5 ⟨A5, c5, rfl, o5, k5⟩
  rw [← HP.out] at o5 ⊢
  have r5 := RdP.of_own o5
  have k5' := k4'.trans (k5.mono z4)
  have z5 := k5'.size
  clear r4 row4 o5
  go_wp2_with fail
  refine (packetsOf_any A c s w5 _ z5 (h.below k5') (by omega) hw).mono ?_
  rintro e w6 ⟨A6, c6, rfl, o6, k6⟩
  rw [← HP.out] at o6 ⊢
  have r6 := RdP.of_own o6
  have k6' := k5'.trans (k6.mono z5)
  have z6 := k6'.size
  have r5' := (r5.below k6).more k6.size
  clear o6 r5
  go_wp2_with fail
  refine (samePk_any A5 A6 c5 c6 P P w6 w6.heap.size r5' r6 (by omega) (by omega)).mono ?_
  rintro e w7 ⟨rfl, m7, hm7⟩
  have k7 : Below w6.heap.size w6 w7 := by rw [hm7]; exact below_drewN (Below.refl _ _) m7
  have k7' := k6'.trans (k7.mono z6)
  have z7 := k7'.size
  rw [show decide (P = P) = true from decide_eq_true rfl]
  have r5'' := (r5'.below k7).more k7.size
  have r6'' := (r6.below k7).more k7.size
  clear hm7 r5' r6
  go_wp2_with fail
  refine (ownSent_any A' c' l w7 _ (h'.below k7') (by omega)).mono ?_
  rintro e w8 ⟨A8, c8, rfl, o8, k8⟩
  have r8 := RdS.of_own o8
  have k8' := k7'.trans (k8.mono z7)
  have z8 := k8'.size
  have r5a := (r5''.below k8).more k8.size
  have r6a := (r6''.below k8).more k8.size
  clear o8 r5'' r6''
  by_cases hde : (delErr P.length l).1 = 0
  · obtain ⟨hbad, hd0⟩ := delErr_ok hde
    have hsp : ∀ y ∈ l, 0 ≤ y.p ∧ y.p.toNat < P.length := fun y hy => by
      have := sentBad_ok hbad y hy
      omega
    have Hd := Lib.hid hd0
    have Hde := Lib.hid hde
    clear hbad hd0 hde
    go_wp2_with fail
    refine (tallies_ok A5 A8 c5 c8 P l S w8 _ (Nat.le_refl _) r5a r8 ((hS.s.below k8').more z8 |>.sub (by simp)) hpl (by omega) Ht.out Hpe.out Hde.out).mono ?_
    rintro e w9 ⟨gt, cs, hb, hm, hlf, rfl, tm, hfin, k9, hgt⟩
    have k9' := k8'.trans (k9.mono z8)
    have z9 := k9'.size
    have lgt := tm.blk.lt
    have r6b := (r6a.below k9).more k9.size
    clear r5a r6a r8
    go_wp2_with fail
    refine (sentFault_any A6 A' c6 c' P.length l w9 _ z9 (h'.below k9') (by omega) (by omega)).mono ?_
    rintro e w10 ⟨rfl, k10⟩
    rw [Hd.out]
    have k10' := k9'.trans (k10.mono z9)
    have z10 := k10'.size
    have tm10 := tm.same (k10.block gt lgt)
    have r6c := (r6b.below k10).more k10.size
    have lgt10 : gt < w10.heap.size := Nat.lt_of_lt_of_le lgt k10.size
    have kf := (Below.refl w10.heap.size w10).alloc (Nat.le_refl _) (.cells #[.int .i64 0, .int .i64 (-1)] 36)
    obtain ⟨w11, hw11⟩ : ∃ w11 : World, w11 = w10.alloc (.cells #[.int .i64 0, .int .i64 (-1)] 36) := ⟨_, rfl⟩
    rw [← hw11] at kf
    have k11' := k10'.trans (kf.mono z10)
    have z11 := k11'.size
    have tm11 := tm10.same (kf.block gt lgt10)
    have r6d := (r6c.below kf).more kf.size
    have lgt11 : gt < w11.heap.size := Nat.lt_of_lt_of_le lgt10 kf.size
    have TM := Lib.hid tm11
    have Hfin := Lib.hid hfin
    have Hw11 := Lib.hid hw11
    unfold fv
    clear tm tm10 tm11 hfin hw11 r6b r6c
    go_wp2_with fail
    rw [← Hw11.out]
    go_loopw [12] (fun fv wr => ∃ f : Nat, f ≤ 8 ∧ fv = .int .i64 f ∧ Below w11.heap.size w11 wr) (fun fv _ => 8 - (intOf fv).toNat)
    case atStart => exact ⟨0, Nat.zero_le _, rfl, Below.refl _ _⟩
    case round =>
      obtain ⟨f, hf, rfl, hbo⟩ := hrel
      have zo := hbo.size
      have ko := k11'.trans (hbo.mono z11)
      by_cases hf8 : f < 8
      · have pf1 : (f : Int) < 8 := by omega
        obtain ⟨wo, rfl⟩ : ∃ wo : World, wo = wr := ⟨_, rfl⟩
        go_wp2_with fail
        go_loopw [14] (fun iv wr => ∃ (i : Nat) (n m t : Int), i ≤ l.length ∧ iv = .int .i64 i ∧ Blk wr wo.heap.size 40 #[.int .i64 n, .int .i64 m, .int .i64 t] ∧ PlAt P f l i n m t ∧ Below wo.heap.size wo wr) (fun iv _ => l.length - (intOf iv).toNat)
        case atStart => exact ⟨0, 0, 0, 0, Nat.zero_le _, rfl, Blk.new _ _ _, ⟨rfl, rfl, rfl, Int.le_refl _, by omega⟩, (Below.refl _ _).alloc (Nat.le_refl _) _⟩
        case round =>
          obtain ⟨i, n, m, t, hi, rfl, hblk, hat, hbw⟩ := hrel
          have HB := Lib.hid hblk
          have HAT := Lib.hid hat
          have zw : wo.heap.size < wr.heap.size := hblk.lt
          have kw := ko.trans (hbw.mono (by omega))
          clear hblk hat
          by_cases hlt : i < l.length
          · obtain ⟨q, o, rfl, hqq, d0, d1, d2⟩ := RdS.get (h'.below kw) hlt
            have hsk := hsp _ (List.getElem_mem hlt)
            obtain ⟨k, hn⟩ : ∃ k : Nat, l[i].p = k := ⟨l[i].p.toNat, by omega⟩
            have hnl : k < P.length := by omega
            obtain ⟨b1, o1, rfl, hb1, f0, f1, f2⟩ := RdP.get (r6d.below (hbo.trans (hbw.mono zo))) hnl
            have hok := hpk _ (List.getElem_mem hnl)
            have hti := Ht.out _ (List.getElem_mem hlt)
            unfold tame50 at hti
            obtain ⟨ti1, ti2⟩ := hti
            obtain ⟨g, hg⟩ : ∃ g : Nat, P[k].f = g := ⟨P[k].f.toNat, by have := hok.1; omega⟩
            obtain ⟨z, hz⟩ : ∃ z, z = P[k].s := ⟨_, rfl⟩
            obtain ⟨pa, hpa⟩ : ∃ pa, pa = P[k].a := ⟨_, rfl⟩
            have hz1 : 1 ≤ z := by rw [hz]; exact hok.2.2.1
            have hz2 : z ≤ 1500 := by rw [hz]; exact hok.2.2.2.1
            have ha1 : 0 ≤ pa := by rw [hpa]; exact hok.2.2.2.2.1
            have ha2 : pa ≤ 1099511627776 := by rw [hpa]; exact hok.2.2.2.2.2
            have hfl : flT P l[i] = g := by unfold flT; rw [hn, Int.toNat_natCast, fOf_of hnl, hg, Int.toNat_natCast]
            have hsz : sOf P l[i].p.toNat = z := by rw [hn, Int.toNat_natCast, sOf_of hnl, hz]
            have haz : aOf P l[i].p.toNat = pa := by rw [hn, Int.toNat_natCast, aOf_of hnl, hpa]
            obtain ⟨T, hT⟩ : ∃ T, T = l[i].t := ⟨_, rfl⟩
            rw [hn] at d0
            rw [← hT] at d2 ti1 ti2
            rw [hg] at f0
            rw [← hz] at f1
            rw [← hpa] at f2
            obtain ⟨X, hX⟩ : ∃ X : World, X = wr.alloc (.cells #[.int .i64 (g : Int), .int .i64 z, .int .i64 pa] 42) := ⟨_, rfl⟩
            have bx : Below wr.heap.size wr X := by rw [hX]; exact (Below.refl _ _).alloc (Nat.le_refl _) _
            have bX : Blk X wo.heap.size 40 #[.int .i64 n, .int .i64 m, .int .i64 t] := by rw [hX]; exact HB.out.alloc _
            have kX := hbw.trans (bx.mono (Nat.le_of_lt zw))
            have p1 : (0 : Int) ≤ (i : Int) := by omega
            have p2 : (i : Int) < (l.length : Int) := by omega
            have p3 : (0 : Int) ≤ (k : Int) := by omega
            have p4 : (k : Int) < (P.length : Int) := by omega
            by_cases hgf : g = f
            · have e0 := bX.cell 0
              have x0' : (wr.alloc (.cells #[.int .i64 (g : Int), .int .i64 z, .int .i64 pa] 42)).cell? ⟨wo.heap.size, 0, none⟩ = some (.int .i64 n) := by rw [← hX]; exact e0
              have z0' : (wr.alloc (.cells #[.int .i64 (g : Int), .int .i64 z, .int .i64 pa] 42)).frozen? ⟨wo.heap.size, 0, none⟩ = false := by rw [← hX]; exact bX.frozen 0
              have hj : ((g : Int) != (f : Int)) = false := by simp [hgf]
              have bb := HAT.out.b0
              have bb1 := HAT.out.b1
              have s1 : -9223372036854775808 ≤ n + z := by omega
              have s2 : n + z ≤ 9223372036854775807 := by omega
              have s3 : -9223372036854775808 ≤ T - pa := by omega
              have s4 : T - pa ≤ 9223372036854775807 := by omega
              obtain ⟨Y, hY⟩ : ∃ Y : World, Y = (wr.setCell ⟨wo.heap.size, 0, none⟩ (.int .i64 (n + z))).alloc (.cells #[.int .i64 (g : Int), .int .i64 z, .int .i64 pa] 42) := ⟨_, rfl⟩
              have sW : (wr.setCell ⟨wo.heap.size, 0, none⟩ (.int .i64 (n + z))).heap.size = wr.heap.size := setCell_size _ _ _
              have bY : Blk Y wo.heap.size 40 #[.int .i64 (n + z), .int .i64 m, .int .i64 t] := by rw [hY]; exact (HB.out.set_ 0 _).alloc _
              have kY : Below wo.heap.size wo Y := by rw [hY]; exact (hbw.setCell (p := ⟨wo.heap.size, 0, none⟩) (Nat.le_refl _) _).alloc (by rw [sW]; omega) _
              have oldY : ∀ (q : Addr) (u : Value), q.block ≠ wo.heap.size → wr.cell? q = some u → Y.cell? q = some u := fun q u hq hu => by
                have h1 : (wr.setCell ⟨wo.heap.size, 0, none⟩ (.int .i64 (n + z))).cell? q = some u := by
                  rw [World.cell?_setCell_other _ _ _ _ (fun e => hq (congrArg Addr.block e).symm)]
                  exact hu
                rw [hY]
                exact ((Below.refl _ _).alloc (Nat.le_refl _) (.cells #[.int .i64 (g : Int), .int .i64 z, .int .i64 pa] 42)).cell (p := q) (World.block_lt_of_cell? _ _ h1) |>.trans h1
              have zwo : w.heap.size ≤ wo.heap.size := ko.size
              have y2 : Y.cell? ⟨q, o + i * 3 + 2, none⟩ = some (.int .i64 T) := oldY _ _ (by simp only; omega) d2
              have yq : Y.cell? ⟨wr.heap.size, 2, none⟩ = some (.int .i64 pa) := by
                rw [hY, ← sW]
                exact (Blk.new (wr.setCell ⟨wo.heap.size, 0, none⟩ (.int .i64 (n + z))) 42 #[.int .i64 (g : Int), .int .i64 z, .int .i64 pa]).cell 2
              have y1 : Y.cell? ⟨wo.heap.size, 1, none⟩ = some (.int .i64 m) := bY.cell 1
              have yl : Y.cell? ⟨wo.heap.size, 2, none⟩ = some (.int .i64 t) := bY.cell 2
              have yz := bY.frozen 1
              have yz2 := bY.frozen 2
              have Hgf := Lib.hid hgf
              have Hfl := Lib.hid hfl
              have Hsz := Lib.hid hsz
              have Haz := Lib.hid haz
              have HT := Lib.hid hT
              have HY := Lib.hid hY
              have BY := Lib.hid bY
              clear hgf hn hok hg hz hpa hfl hsz haz hT hX hY bX bY oldY e0 bb bb1 hsk sW
              by_cases hm1 : m < T - pa
              · have hmx : T - pa = max m (T - pa) := by omega
                have Hmx := Lib.hid hmx
                clear hmx
                go_wp2_with fail
                rw [← HY.out]
                go_quiet (fail)
                rename Nat => nq1
                obtain ⟨V, hV⟩ : ∃ V : World, V = Y.drewN nq1 := ⟨_, rfl⟩
                have v2 : V.cell? ⟨q, o + i * 3 + 2, none⟩ = some (.int .i64 T) := by rw [hV]; exact y2
                have vq : V.cell? ⟨wr.heap.size, 2, none⟩ = some (.int .i64 pa) := by rw [hV]; exact yq
                have bV : Blk V wo.heap.size 40 #[.int .i64 (n + z), .int .i64 m, .int .i64 t] := by rw [hV]; exact BY.out.drewN nq1
                have kV : Below wo.heap.size wo V := by rw [hV]; exact below_drewN kY nq1
                have v1 : V.cell? ⟨wo.heap.size, 1, none⟩ = some (.int .i64 m) := bV.cell 1
                have vz := bV.frozen 1
                have BV := Lib.hid bV
                have HV := Lib.hid hV
                rw [← hV]
                clear bV hV
                go_wp2_with fail
                go_still_tail 9, (by kernel_rfl)
                go_wp2_with fail
                obtain ⟨U, hU⟩ : ∃ U : World, U = (V.setCell ⟨wo.heap.size, 1, none⟩ (.int .i64 (T - pa))).drew := ⟨_, rfl⟩
                have bU : Blk U wo.heap.size 40 #[.int .i64 (n + z), .int .i64 (T - pa), .int .i64 t] := by rw [hU]; exact BV.out.set_ 1 _
                have kU : Below wo.heap.size wo U := by rw [hU]; exact (kV.setCell (p := ⟨wo.heap.size, 1, none⟩) (Nat.le_refl _) _).drew
                have u2 : U.cell? ⟨q, o + i * 3 + 2, none⟩ = some (.int .i64 T) := by
                  rw [hU]
                  show (V.setCell ⟨wo.heap.size, 1, none⟩ (.int .i64 (T - pa))).cell? ⟨q, o + i * 3 + 2, none⟩ = _
                  rw [World.cell?_setCell_other _ _ _ _ (fun e => by have := congrArg Addr.block e; simp only at this; omega)]
                  exact v2
                have ul : U.cell? ⟨wo.heap.size, 2, none⟩ = some (.int .i64 t) := bU.cell 2
                have uz := bU.frozen 2
                have BU := Lib.hid bU
                rw [← hU]
                clear hU bU y2 yq y1 yl yz yz2 v2 vq v1 vz
                by_cases ht1 : t < T
                · have htx : T = max t T := by omega
                  have Htx := Lib.hid htx
                  clear htx
                  go_quiet (fail)
                  rename Nat => nq2
                  go_wp2_with fail
                  go_roundw
                  case rel => exact ⟨i + 1, n + z, (T - pa), T, hlt, by go_num, (BU.out.drewN nq2).set_ 2 _, HAT.out.take hlt (by rw [Hfl.out]; exact Hgf.out) Hsz.out (by omega) hz2 (by rw [Haz.out, ← HT.out]; exact Hmx.out) (by rw [← HT.out]; exact Htx.out), (below_drewN kU nq2).setCell (p := ⟨wo.heap.size, 2, none⟩) (Nat.le_refl _) _⟩
                  case measure => simp [intOf]; omega
                · have htx : t = max t T := by omega
                  have Htx := Lib.hid htx
                  clear htx
                  go_quiet (fail)
                  rename Nat => nq2
                  go_wp2_with fail
                  go_roundw
                  case rel => exact ⟨i + 1, n + z, (T - pa), t, hlt, by go_num, BU.out.drewN nq2, HAT.out.take hlt (by rw [Hfl.out]; exact Hgf.out) Hsz.out (by omega) hz2 (by rw [Haz.out, ← HT.out]; exact Hmx.out) (by rw [← HT.out]; exact Htx.out), below_drewN kU nq2⟩
                  case measure => simp [intOf]; omega
              · have hmx : m = max m (T - pa) := by omega
                have Hmx := Lib.hid hmx
                clear hmx
                go_wp2_with fail
                rw [← HY.out]
                go_quiet (fail)
                rename Nat => nq1
                obtain ⟨U, hU⟩ : ∃ U : World, U = Y.drewN nq1 := ⟨_, rfl⟩
                have bU : Blk U wo.heap.size 40 #[.int .i64 (n + z), .int .i64 m, .int .i64 t] := by rw [hU]; exact BY.out.drewN nq1
                have kU : Below wo.heap.size wo U := by rw [hU]; exact below_drewN kY nq1
                have u2 : U.cell? ⟨q, o + i * 3 + 2, none⟩ = some (.int .i64 T) := by rw [hU]; exact y2
                have ul : U.cell? ⟨wo.heap.size, 2, none⟩ = some (.int .i64 t) := bU.cell 2
                have uz := bU.frozen 2
                have BU := Lib.hid bU
                rw [← hU]
                clear hU bU y2 yq y1 yl yz yz2
                go_wp2_with fail
                by_cases ht1 : t < T
                · have htx : T = max t T := by omega
                  have Htx := Lib.hid htx
                  clear htx
                  go_quiet (fail)
                  rename Nat => nq2
                  go_wp2_with fail
                  go_roundw
                  case rel => exact ⟨i + 1, n + z, m, T, hlt, by go_num, (BU.out.drewN nq2).set_ 2 _, HAT.out.take hlt (by rw [Hfl.out]; exact Hgf.out) Hsz.out (by omega) hz2 (by rw [Haz.out, ← HT.out]; exact Hmx.out) (by rw [← HT.out]; exact Htx.out), (below_drewN kU nq2).setCell (p := ⟨wo.heap.size, 2, none⟩) (Nat.le_refl _) _⟩
                  case measure => simp [intOf]; omega
                · have htx : t = max t T := by omega
                  have Htx := Lib.hid htx
                  clear htx
                  go_quiet (fail)
                  rename Nat => nq2
                  go_wp2_with fail
                  go_roundw
                  case rel => exact ⟨i + 1, n + z, m, t, hlt, by go_num, BU.out.drewN nq2, HAT.out.take hlt (by rw [Hfl.out]; exact Hgf.out) Hsz.out (by omega) hz2 (by rw [Haz.out, ← HT.out]; exact Hmx.out) (by rw [← HT.out]; exact Htx.out), below_drewN kU nq2⟩
                  case measure => simp [intOf]; omega
            · have hj : ((g : Int) != (f : Int)) = true := by simp; omega
              have Hn := Lib.hid (HAT.out.skip hlt (by rw [hfl]; exact hgf))
              have BX := Lib.hid bX
              have HX := Lib.hid hX
              clear hgf hn hok hg hz hpa hfl hsz haz hT hX bX hsk
              go_wp2_with fail
              rw [← HX.out]
              go_roundw
              case rel => exact ⟨i + 1, n, m, t, hlt, by go_num, BX.out, Hn.out, kX⟩
              case measure => simp [intOf]; omega
          · have e : l.drop i = [] := List.drop_eq_nil_of_le (by omega)
            obtain ⟨a1, a2, a3, _, _⟩ := HAT.out
            rw [e] at a1 a2 a3
            have b1 : tB P f 0 l = n := a1
            have b2 : tM P f 0 l = m := a2
            have b3 : tL P f 0 l = t := a3
            obtain ⟨c1, c2, c3⟩ := Hfin.out f hf8
            have tmr := TM.out.same ((hbo.trans (hbw.mono zo)).block gt lgt11)
            have y0 : wr.cell? ⟨gt, f * 3, none⟩ = some (.int .i64 n) := (tmr.blk.cell _).trans ((tmr.cb f hf8).trans (by rw [c1, b1]))
            have y1 : wr.cell? ⟨gt, f * 3 + 1, none⟩ = some (.int .i64 m) := (tmr.blk.cell _).trans ((tmr.cm f hf8).trans (by rw [c2, b2]))
            have y2 : wr.cell? ⟨gt, f * 3 + 2, none⟩ = some (.int .i64 t) := (tmr.blk.cell _).trans ((tmr.cl f hf8).trans (by rw [c3, b3]))
            have x0 : wr.cell? ⟨wo.heap.size, 0, none⟩ = some (.int .i64 n) := HB.out.cell 0
            have x1 : wr.cell? ⟨wo.heap.size, 1, none⟩ = some (.int .i64 m) := HB.out.cell 1
            have x2 : wr.cell? ⟨wo.heap.size, 2, none⟩ = some (.int .i64 t) := HB.out.cell 2
            have p1 : (0 : Int) ≤ (f : Int) := by omega
            have kw2 := hbo.trans (hbw.mono zo)
            clear a1 a2 a3 b1 b2 b3 c1 c2 c3 e tmr
            go_wp2_with fail
            go_quiet (fail)
            rename Nat => nq
            go_wp2_with fail
            go_roundw
            case rel => exact ⟨f + 1, by omega, by go_num, below_drewN kw2 nq⟩
            case measure => simp [intOf]; omega
      · go_wp2_with fail
        go_ret
        exact ⟨rfl, ko⟩
  · have Hde := Lib.hid hde
    have h1' : (0 : Int) < ((delErr P.length l).1 : Int) := by omega
    clear hde
    go_wp2_with fail
    refine (tallies_bad A5 A8 c5 c8 P l S w8 _ (Nat.le_refl _) r5a r8 ((hS.s.below k8').more z8 |>.sub (by simp)) hpl (by omega) Ht.out Hpe.out Hde.out).mono ?_
    rintro e w9 ⟨v, rfl, hv, k9⟩
    have k9' := k8'.trans (k9.mono z8)
    have z9 := k9'.size
    clear r5a r6a r8
    go_wp2_with fail
    refine (sentFault_any A6 A' c6 c' P.length l w9 _ z9 (h'.below k9') (by omega) (by omega)).mono ?_
    rintro e w10 ⟨rfl, k10⟩
    have k10' := k9'.trans (k10.mono z9)
    have z10 := k10'.size
    have kf := (Below.refl w10.heap.size w10).alloc (Nat.le_refl _) (.cells #[.int .i64 (delErr P.length l).1, .int .i64 (delErr P.length l).2] 36)
    obtain ⟨w11, hw11⟩ : ∃ w11 : World, w11 = w10.alloc (.cells #[.int .i64 (delErr P.length l).1, .int .i64 (delErr P.length l).2] 36) := ⟨_, rfl⟩
    rw [← hw11] at kf
    have k11' := k10'.trans (kf.mono z10)
    have z11 := k11'.size
    have e11 : Er w11 w11.heap.size S v (delErr P.length l).1 (delErr P.length l).2 := ((hv.below k10).below (kf.mono k10.size)).more (Nat.le_trans k10.size kf.size)
    have Hw11 := Lib.hid hw11
    unfold fv
    clear hw11
    go_wp2_with fail
    first | rw [← Hw11.out] | skip
    refine (faulted2_any v (delErr P.length l).1 (delErr P.length l).2 (delErr P.length l).2 S w11 w11.heap.size (Nat.le_refl _) ((hS.below k11').more z11) e11 (.inr rfl)).mono ?_
    rintro e w12 ⟨rfl, k12⟩
    go_wp2_with fail
    go_ret
    exact ⟨rfl, k11'.trans (k12.mono z11)⟩
set_option maxHeartbeats 1000000 in
theorem play_early (A A' : Option Addr) (c c' : Nat) (s : List Int) (l : List Sn) (w : World) (h' : RdS w w.heap.size A' l) (hl1 : s.length ≤ 9223372036854775807) (hl2 : l.length ≤ 9223372036854775807)
    (hx : 320 < s.length ∨ (s.length ≤ 320 ∧ 100 < l.length) ∨ (s.length ≤ 320 ∧ l.length ≤ 100 ∧ tameB l = false)) :
    Calls Tryd.prog 3 #[.slice A s.length c, .slice A' l.length c'] w fun e w' => e = .returned (.bool true) ∧ Below w.heap.size w w' := by
  rcases hx with h1 | ⟨h1, h2⟩ | ⟨h1, h2, h3⟩
  · go_enter Tryd.func3, Tryd.ntmps3
    go_wp2_with fail
    refine (rolled_any w).mono ?_
    rintro e w1 ⟨rfl, k1⟩
    go_wp2_with fail
    go_ret
    exact ⟨rfl, k1⟩
  · go_enter Tryd.func3, Tryd.ntmps3
    go_wp2_with fail
    refine (rolled_any w).mono ?_
    rintro e w1 ⟨rfl, k1⟩
    go_wp2_with fail
    go_ret
    exact ⟨rfl, k1⟩
  · have Htm := Lib.hid (tameN_off' h3)
    clear h3
    go_enter Tryd.func3, Tryd.ntmps3
    go_wp2_with fail
    refine (rolled_any w).mono ?_
    rintro e w1 ⟨rfl, k1⟩
    go_wp2_with fail
    refine (tame_any A' c' l _ _ (h'.below k1) (by omega)).mono ?_
    rintro e wx ⟨rfl, rfl⟩
    rw [Htm.out]
    go_wp2_with fail
    go_ret
    exact ⟨rfl, k1⟩
theorem playPackets_any (A : Option Addr) (c : Nat) (s : List Int) (A' : Option Addr) (c' : Nat) (l : List Sn) (S : Nat → Addr) (w : World) (h : RdI w w.heap.size A s) (h' : RdS w w.heap.size A' l) (hS : All9 w w.heap.size S) (hl1 : s.length ≤ 9223372036854775807) (hl2 : l.length ≤ 9223372036854775807) (hw : ∀ v ∈ s, v ≤ 9223372036854775807) :
    Calls Tryd.prog 3 #[.slice A s.length c, .slice A' l.length c'] w fun e w' => e = .returned (.bool true) ∧ Below w.heap.size w w' := by
  by_cases h1 : s.length ≤ 320
  · by_cases h2 : l.length ≤ 100
    · cases h3 : tameB l
      · exact play_early A A' c c' s l w h' hl1 hl2 (.inr (.inr ⟨h1, h2, h3⟩))
      · exact play_main A A' c c' s l S w h h' hS h1 h2 h3 hw
    · exact play_early A A' c c' s l w h' hl1 hl2 (.inr (.inl ⟨h1, by omega⟩))
  · exact play_early A A' c c' s l w h' hl1 hl2 (.inl (by omega))
end Go.Proofs.YthgpbdlmadjndaaDoor
