/- floodgateref2.RunOf at a right gate and right packets. Conditions: as for a gate in memory. (Printed by genrunof.py.) -/
import Derived.Test.YthgpbdlmadjndaaGreatDoorLrM
import Derived.Test.YthgpbdlmadjndaaGreatDoorBrM
import Derived.Test.YthgpbdlmadjndaaGreatDoorGrM
namespace Go.Proofs.YthgpbdlmadjndaaGreatDoor
open Go.RowKit
set_option maxRecDepth 100000
theorem RdP.prefixG {w : World} {B : Nat} {A : Option Addr} {l : List Pk} (h : RdP w B A l) (j : Nat) : RdP w B A (l.take j) := fun h0 => by
  obtain ⟨b, o, e, hb, hc⟩ := h (by rw [List.length_take] at h0; omega)
  refine ⟨b, o, e, hb, fun i x hx => hc i x ?_⟩
  rw [List.getElem?_take] at hx
  by_cases hi : i < j
  · rw [if_pos hi] at hx; exact hx
  · rw [if_neg hi] at hx; cases hx
theorem RdP.suffixG {w : World} {B b o : Nat} {l : List Pk} (h : RdP w B (some ⟨b, o, none⟩) l) (j : Nat) : RdP w B (some ⟨b, o + j * 3, none⟩) (l.drop j) := fun h0 => by
  obtain ⟨b', o', e, hb, hc⟩ := h (by rw [List.length_drop] at h0; omega)
  simp only [Option.some.injEq, Addr.mk.injEq, and_true] at e
  obtain ⟨rfl, rfl⟩ := e
  refine ⟨b, o + j * 3, rfl, hb, fun i x hx q v hv => ?_⟩
  rw [List.getElem?_drop] at hx
  have := hc (j + i) x hx q v hv
  rw [show o + (j + i) * 3 + q = o + j * 3 + i * 3 + q by omega] at this
  exact this
theorem own_capG {w : World} {base : Nat} {e : TypeId} {sz : Nat} {A : Option Addr} {n c : Nat} {xs : List Value} (h : w.ownsRow base e sz (.slice A n c) n xs) : n ≤ c := by
  obtain ⟨_, ⟨h1, h2⟩ | ⟨g, cap, cur, hv, hg, hh, hn, hc, hs, ht⟩⟩ := h
  · omega
  · simp only [Value.slice.injEq, true_and] at hv
    omega
theorem onlyG_drew {g : Nat} {w w' : World} (h : OnlyG g w w') : OnlyG g w w'.drew := ⟨h.bel.drew, h.blk⟩
section
variable (Ac An A : Option Addr) (cc cn c : Nat) (cs : List (List Ln)) (K : ByteArray) (per : Int) (ns : List Int) (p : List Pk) (w : World) (B : Nat) (hB : B ≤ w.heap.size) (h : RdLL w B Ac cs) (h' : RdI w B An ns) (hp : RdP w B A p) (hl : ∀ l ∈ cs, l.length ≤ 9223372036854775807) (hl' : ns.length ≤ 9223372036854775807)
include hB h h' hp hl hl'
set_option maxHeartbeats 16000000 in
theorem runOf_main (h1 : (gateErr cs (kindN K) per ns).1 = 0) (h2 : (pktErr p).1 = 0) : Calls Tryz.prog 15 #[.agg #[.slice Ac cs.length cc, .string K, .int .i64 per, .slice An ns.length cn], .slice A p.length c] w (EndRunOf (runQ cs (kindN K) per ns p) (runL cs (kindN K) per ns p) (runErr cs (kindN K) per ns p).1 (runErr cs (kindN K) per ns p).2 w) := by
  have h300 := pktErr_len h2
  obtain ⟨h8, hcs, hlk, hg⟩ := gateErr_ok h1
  have H1 := Lib.hid h1
  have H2p := Lib.hid (pktErr_nil h2)
  have HPK := Lib.hid h2
  have H8 := Lib.hid h8
  have HCS := Lib.hid hcs
  obtain ⟨i0, hi0, hz0, hz1, hz2⟩ := info_parts infoPk
  obtain ⟨i1, hi1, hy0, hy1, hy2⟩ := info_parts infoInt
  obtain ⟨W, hW⟩ : ∃ W : World, W = (w.alloc (.cells #[.slice Ac 8 cc, .string K, .int .i64 per, .slice An ns.length cn] 25)).alloc (.cells #[.int .i64 0, .int .i64 0] 37) := ⟨_, rfl⟩
  have b0 : Below w.heap.size w W := by rw [hW]; exact ((Below.refl _ _).alloc (Nat.le_refl _) _).alloc (by simp) _
  have y0 : Blk W (w.heap.size + 1) 37 #[.int .i64 0, .int .i64 0] := by
    have := Blk.new (w.alloc (.cells #[.slice Ac 8 cc, .string K, .int .i64 per, .slice An ns.length cn] 25)) 37 #[.int .i64 0, .int .i64 0]
    rw [hW]
    simpa using this
  have g0 : Blk W w.heap.size 25 #[.slice Ac 8 cc, .string K, .int .i64 per, .slice An ns.length cn] := by rw [hW]; exact (Blk.new _ _ _).below ((Below.refl _ _).alloc (Nat.le_refl _) _) (by simp)
  have zW2 : W.heap.size = w.heap.size + 2 := by rw [hW]; simp
  have hf := gfault_any Ac An cc cn cs K per ns W B (Nat.le_trans hB b0.size) (h.below (b0.mono hB)) (h'.below (b0.mono hB)) hl hl'
  rw [hg, h8] at hf
  rw [h8]
  obtain ⟨gb, hgb⟩ : ∃ gb, gb = w.heap.size := ⟨_, rfl⟩
  have HGB := Lib.hid hgb
  rw [← hgb] at y0 g0 zW2
  have HF := Lib.hid hf
  have HW := Lib.hid hW
  have B0 := Lib.hid b0
  have Y0 := Lib.hid y0
  have G0 := Lib.hid g0
  clear hW b0 y0 g0 h1 h2 h8 hcs hlk hg hf hgb
  go_enter Tryz.func15, Tryz.ntmps15
  go_wp2_with fail
  rw [← HGB.out]
  rw [HGB.out, ← HW.out, ← HGB.out]
  refine (HF.out).mono ?_
  rintro e w1 ⟨rfl, k1⟩
  have y1 := Y0.out.below k1 Y0.out.lt
  have g1 := G0.out.below k1 G0.out.lt
  obtain ⟨X, hX⟩ : ∃ X : World, X = w1.alloc (.cells #[.int .i64 0, .int .i64 (-1)] 37) := ⟨_, rfl⟩
  have yX : Blk X (gb + 1) 37 #[.int .i64 0, .int .i64 0] := by rw [hX]; exact y1.below ((Below.refl _ _).alloc (Nat.le_refl _) _) y1.lt
  have gX : Blk X gb 25 #[.slice Ac 8 cc, .string K, .int .i64 per, .slice An ns.length cn] := by rw [hX]; exact g1.below ((Below.refl _ _).alloc (Nat.le_refl _) _) g1.lt
  have fX : Blk X w1.heap.size 37 #[.int .i64 0, .int .i64 (-1)] := by rw [hX]; exact Blk.new _ _ _
  have kX : Below w.heap.size w X := by rw [hX]; exact (B0.out.trans (k1.mono B0.out.size)).alloc (B0.out.trans (k1.mono B0.out.size)).size _
  have z1w : gb + 2 ≤ w1.heap.size := by have := k1.size; omega
  have x0 := fX.cell 0
  simp only [List.getElem?_toArray, List.getElem?_cons_zero, List.getElem?_cons_succ] at x0
  have HX := Lib.hid hX
  have YX := Lib.hid yX
  have GX := Lib.hid gX
  have FX := Lib.hid fX
  have KX := Lib.hid kX
  obtain ⟨fb, hfb⟩ : ∃ fb, fb = w1.heap.size := ⟨_, rfl⟩
  unfold fv
  clear hX yX fX gX kX k1 y1 g1
  go_upto_region 2 with fail
  rw [← HX.out]
  rw [← hfb] at x0 z1w FX ⊢
  clear hfb
  go_wp2_with fail
  refine (packetsFault_any A c p X B (Nat.le_trans hB KX.out.size) (hp.below (KX.out.mono hB)) (by omega)).mono ?_
  rintro e w2 ⟨rfl, k2⟩
  rw [H2p.out]
  have y2 := YX.out.below k2 YX.out.lt
  have g2 := GX.out.below k2 GX.out.lt
  have f2 := FX.out.below k2 FX.out.lt
  have hBg : w.heap.size ≤ fb := by have := HGB.out; omega
  obtain ⟨V, hV⟩ : ∃ V : World, V = (w2.setCell ⟨fb, 0, none⟩ (.int .i64 0)).setCell ⟨fb, 1, none⟩ (.int .i64 (-1)) := ⟨_, rfl⟩
  have fV : Blk V fb 37 #[.int .i64 0, .int .i64 (-1)] := by rw [hV]; exact (f2.set_ 0 (.int .i64 0)).set_ 1 (.int .i64 (-1))
  have yV : Blk V (gb + 1) 37 #[.int .i64 0, .int .i64 0] := by rw [hV]; exact y2.same (((Below.heap_setCell _ ⟨fb, 1, none⟩ _ _ (by show gb + 1 ≠ fb; omega)).trans (Below.heap_setCell _ ⟨fb, 0, none⟩ _ _ (by show gb + 1 ≠ fb; omega))))
  have gV : Blk V gb 25 #[.slice Ac 8 cc, .string K, .int .i64 per, .slice An ns.length cn] := by rw [hV]; exact g2.same (((Below.heap_setCell _ ⟨fb, 1, none⟩ _ _ (by show gb ≠ fb; omega)).trans (Below.heap_setCell _ ⟨fb, 0, none⟩ _ _ (by show gb ≠ fb; omega))))
  have kV : Below w.heap.size w V := by rw [hV]; exact ((KX.out.trans (k2.mono KX.out.size)).setCell (p := ⟨fb, 0, none⟩) hBg _).setCell (p := ⟨fb, 1, none⟩) hBg _
  have q0 := f2.cell 0
  have q1 := f2.cell 1
  have r0 := f2.frozen 0
  have r1 := f2.frozen 1
  have x0 := fV.cell 0
  simp only [List.getElem?_toArray, List.getElem?_cons_zero, List.getElem?_cons_succ] at q0 q1 x0
  have HV := Lib.hid hV
  have YV := Lib.hid yV
  have GV := Lib.hid gV
  have FV := Lib.hid fV
  have KV := Lib.hid kV
  have zgV := gV.lt
  have zfV := fV.lt
  have zyV := yV.lt
  unfold fv
  clear hV yV kV gV fV k2 y2 f2 g2
  go_upto_region 4 with fail
  rw [← HV.out]
  clear q0 q1 r0 r1
  go_wp2_with (at_make; refine wpList_make_full _ rfl (.tmp 35) (.tmp 35) 23 rfl V.heap.size 3 i1 (.int .i64 0) 1 Tryz.underlying23 hi1 hy0 hy1 .i64 .i64 p.length p.length p.length rfl rfl rfl rfl (by rw [hy2]; omega) (by simp only [maxLen]; omega) (Nat.le_refl _) ?_; intro w3 row3 g3; rw [intRow_new] at row3)
  have ia3 : IA w3 V.heap.size p.length (gFold cs p 0).1 := Arw.of_own row3 fun k _ => rfl
  have k3 : Below V.heap.size V w3 := (Below.refl _ _).grown g3 (Nat.le_refl _) (by simp)
  obtain ⟨g, hg⟩ : ∃ g, g = V.heap.size := ⟨_, rfl⟩
  rw [← hg] at ia3 zgV zfV zyV ⊢
  have G3 := Lib.hid (GV.out.below k3 GV.out.lt)
  have Y3 := Lib.hid (YV.out.below k3 YV.out.lt)
  have F3 := Lib.hid (FV.out.below k3 FV.out.lt)
  have K3 := Lib.hid (KV.out.trans (k3.mono KV.out.size))
  have I3 := Lib.hid ia3
  have hwg : w.heap.size ≤ g := by rw [hg]; exact KV.out.size
  have hBg2 : B ≤ g := Nat.le_trans hB hwg
  have ngb : gb ≠ g := by omega
  have nyb : gb + 1 ≠ g := by omega
  have nfb : fb ≠ g := by omega
  clear row3 g3 ia3 k3 x0 hg
  go_loopw [8, 10] (fun nv iv wr => ∃ f : Nat, f ≤ 8 ∧ nv = .int .i64 (gFold cs p f).2 ∧ iv = .int .i64 f ∧ IA wr g p.length (gFold cs p f).1 ∧ But g w3 wr) (fun _ iv _ => 8 - (intOf iv).toNat)
  case atStart => exact ⟨0, Nat.zero_le _, rfl, rfl, I3.out, But.refl _ _⟩
  case round =>
    obtain ⟨f, hf, rfl, rfl, hia, hbut⟩ := hrel
    have c0 := (G3.out.but hbut ngb).cell 0
    simp only [List.getElem?_toArray, List.getElem?_cons_zero] at c0
    have hgbY := (G3.out.but hbut ngb).lt
    have hgY := hia.lt
    obtain ⟨a, ha⟩ : ∃ a, a = (gFold cs p f).1 := ⟨_, rfl⟩
    have HA := Lib.hid ha.symm
    rw [← ha] at hia
    have IAY := Lib.hid hia
    have BT := Lib.hid hbut
    have kr : Below B w wr := (K3.out.mono hB).trans (hbut.below hBg2 (Nat.le_trans hB K3.out.size))
    have hBY : B ≤ wr.heap.size := Nat.le_trans hB kr.size
    have KR := Lib.hid kr
    obtain ⟨Y, hY⟩ : ∃ Y : World, Y = wr := ⟨_, rfl⟩
    subst hY
    clear hia hbut kr ha
    by_cases hf8 : f < 8
    · skip
      have u1 : (0 : Int) ≤ (f : Int) := by omega
      have u2 : (f : Int) < 8 := by omega
      go_wp2_with fail
      go_loopw [11, 12, 13] (fun v1 v2 iv wx => ∃ (k : Nat) (A1 : Option Addr) (c1 : Nat) (A2 : Option Addr) (c2 : Nat), k ≤ p.length ∧ v1 = .slice A1 (ownK p f k).length c1 ∧ v2 = .slice A2 (numsK p f k).length c2 ∧ iv = .int .i64 k ∧ TwoR wx Y.heap.size A1 c1 (ownK p f k) A2 c2 (numsK p f k) ∧ Below Y.heap.size Y wx) (fun _ _ iv _ => p.length - (intOf iv).toNat)
      case atStart => exact ⟨0, none, 0, none, 0, Nat.zero_le _, rfl, rfl, rfl, TwoR.nil_ _ _, Below.refl _ _⟩
      case round =>
        obtain ⟨k, A1, c1, A2, c2, hk, rfl, rfl, rfl, h2, hbw⟩ := hrel
        have zw := hbw.size
        have kw := KR.out.trans (hbw.mono hBY)
        have H2 := Lib.hid h2
        clear h2
        by_cases hlt : k < p.length
        · obtain ⟨b1, o1, rfl, hb1, e0, e1, e2⟩ := RdP.get (hp.below kw) hlt
          obtain ⟨x, hx⟩ : ∃ x : Pk, x = p[k] := ⟨_, rfl⟩
          have hxf : fOf p k = x.f := by rw [fOf_of hlt, hx]
          have hxd : p.getD k ⟨0, 0, 0⟩ = x := by rw [getD_of hlt, hx]
          rw [← hx] at e0 e1 e2
          have HXD := Lib.hid hxd
          have v1 : (0 : Int) ≤ (k : Int) := by omega
          have v2 : (k : Int) < (p.length : Int) := by omega
          clear hx hxd
          by_cases hxe : x.f = (f : Int)
          · have HO := Lib.hid (ownK_yes (p := p) (f := f) (k := k) (hxf.trans hxe))
            have HN := Lib.hid (numsK_yes (p := p) (f := f) (k := k) (hxf.trans hxe))
            have hlo : (ownK p f k).length ≤ k := by rw [ownK_len]; exact numsK_len p f k
            have hln := numsK_len p f k
            obtain ⟨ow, how⟩ : ∃ ow, ow = ownK p f k := ⟨_, rfl⟩
            obtain ⟨nu, hnu⟩ : ∃ nu, nu = numsK p f k := ⟨_, rfl⟩
            obtain ⟨ow', how'⟩ : ∃ ow', ow' = ow ++ [x] := ⟨_, rfl⟩
            obtain ⟨nu', hnu'⟩ : ∃ nu', nu' = nu ++ [k] := ⟨_, rfl⟩
            rw [← how] at hlo HO H2 ⊢
            rw [← hnu] at hln HN H2 ⊢
            rw [HXD.out, ← how'] at HO
            rw [← hnu'] at HN
            have HOW := Lib.hid how'
            have HNU := Lib.hid hnu'
            rw [hxe] at e0
            have q1 : ow.length + [x].length ≤ maxLen := by simp only [maxLen, List.length_cons, List.length_nil]; omega
            have q2 : (ow.length + [x].length) * 24 ≤ 140737488355328 := by simp only [List.length_cons, List.length_nil]; omega
            have q3 : nu.length + [k].length ≤ maxLen := by simp only [maxLen, List.length_cons, List.length_nil]; omega
            have q4 : (nu.length + [k].length) * 8 ≤ 140737488355328 := by simp only [List.length_cons, List.length_nil]; omega
            have hnewP : RdP (wr.alloc (.cells #[.int .i64 x.f, .int .i64 x.s, .int .i64 x.a] 58)) (wr.heap.size + 1) (some ⟨wr.heap.size, 0, none⟩) [x] := RdP.new_ x
            rw [hxe] at hnewP
            have HnP := Lib.hid hnewP
            clear hxf how hnu how' hnu' hnewP hxe
            go_wp2_with (first
              | (at_builtin; refine wpList_append_rd _ Pk.cs rfl (.tmp 54) (.tmp 59) 26 rfl Y.heap.size 58 i0 (.agg #[.int .i64 0, .int .i64 0, .int .i64 0]) 3 24 Tryz.underlying26 hi0 hz0 hz1 hz2 rfl (by omega) Pk.cs_len Pk.cs_one (.slice A1 ow.length c1) ow.length (ow.flatMap Pk.cs) rfl (H2.out.r1.alloc _) (wr.heap.size + 1) (some ⟨wr.heap.size, 0, none⟩) 1 [x] rfl HnP.out q1 q2 (le_alloc zw _) ?_; intro v3 w3 row3 g3 at3; obtain ⟨A5, c5, hv5, row3⟩ := own_app row3 (by omega); rw [← HOW.out] at hv5 row3; rw [hv5] at at3 ⊢; clear hv5; have r2' := own_keep H2.out.r2 g3 (fun b hb e => H2.out.ne b e hb); have z3 : Y.heap.size ≤ w3.heap.size := Nat.le_trans (le_alloc zw _) g3.size)
              | (at_builtin; refine wpList_append_rd _ nCs rfl (.tmp 61) (.tmp 63) 23 rfl Y.heap.size 3 i1 (.int .i64 0) 1 8 Tryz.underlying23 hi1 hy0 hy1 hy2 rfl (by omega) nCs_len nCs_one (.slice A2 nu.length c2) nu.length (nu.flatMap nCs) rfl (r2'.alloc _) (w3.heap.size + 1) (some ⟨w3.heap.size, 0, none⟩) 1 [k] rfl (Rd.new_ rfl (by omega) nCs_len) q3 q4 (le_alloc z3 _) ?_; intro v4 w4 row4 g4 at4; obtain ⟨A6, c6, hv6, row4⟩ := own_app row4 (by omega); rw [← HNU.out] at hv6 row4; rw [hv6] at at4 ⊢; clear hv6))
            have k3 := below_app (hbw.alloc zw _) (H2.out.r1.alloc _) g3 (Nat.le_refl _) (le_alloc zw _)
            have k4 := below_app (k3.alloc z3 _) (r2'.alloc _) g4 (Nat.le_refl _) (le_alloc z3 _)
            have t4 := H2.out.step row3 g3 at3 row4 g4 at4
            go_roundw
            case rel => exact ⟨k + 1, A5, c5, A6, c6, hlt, by rw [HO.out], by rw [HN.out], by go_num, by rw [HO.out, HN.out]; exact t4, k4⟩
            case measure => simp [intOf]; omega
          · have hne : ¬ fOf p k = (f : Int) := by rw [hxf]; exact hxe
            have HO := Lib.hid (ownK_no (p := p) hne)
            have HN := Lib.hid (numsK_no (p := p) hne)
            clear hne hxf
            go_wp2_with fail
            go_roundw
            case rel => exact ⟨k + 1, A1, c1, A2, c2, hlt, by rw [HO.out], by rw [HN.out], by go_num, by rw [HO.out, HN.out]; exact H2.out, hbw⟩
            case measure => simp [intOf]; omega
        · obtain rfl : k = p.length := by omega
          have haw : IA wr g p.length a := IAY.out.same (hbw.block g hgY)
          have HAW := Lib.hid haw
          obtain ⟨ow, how⟩ : ∃ ow, ow = ownK p f p.length := ⟨_, rfl⟩
          obtain ⟨nu, hnu⟩ : ∃ nu, nu = numsK p f p.length := ⟨_, rfl⟩
          have hlen : ow.length = nu.length := by rw [how, hnu]; exact ownK_len _ _ _
          have hpo : (pktErr ow).1 = 0 := by rw [how]; exact pktErr_sub HPK.out (ownK_sub p f)
          have h2 := H2.out
          rw [← how, ← hnu] at h2
          rw [← how, ← hnu]
          have HOW := Lib.hid how
          have HNU := Lib.hid hnu
          have RN0 := Lib.hid h2.r2
          have RO0 := Lib.hid h2.r1
          have HPO := Lib.hid hpo
          have hn300 : nu.length ≤ 300 := by rw [HNU.out]; have := numsK_len p f p.length; omega
          have x0 : wr.cell? ⟨gb, 0, none⟩ = some (.slice Ac 8 cc) := (hbw.cell (p := ⟨gb, 0, none⟩) hgbY).trans c0
          have hfl : f < cs.length := by rw [H8.out]; exact hf8
          have hgd : cs.getD f [] = cs[f] := by simp [List.getD, hfl]
          obtain ⟨b, o, ac, cl, rfl, hb, d0, hrd⟩ := (h.below (KR.out)) f hfl
          have hll := hl _ (List.getElem_mem hfl)
          have hcl := HCS.out cs[f] (List.getElem_mem hfl)
          obtain ⟨l, hle⟩ : ∃ l, l = cs[f] := ⟨_, rfl⟩
          rw [← hle] at d0 hrd hll hcl
          have HGD := Lib.hid (hgd.trans hle.symm)
          have HCL := Lib.hid hcl
          have HRD := Lib.hid hrd
          have d0' : wr.cell? ⟨b, o + f, none⟩ = some (.slice ac l.length cl) := (hbw.cell (p := ⟨b, o + f, none⟩) (by show b < Y.heap.size; omega)).trans d0
          clear how hnu hpo h2 haw d0 hk hlt hcl hgd hle hrd c0
          by_cases h0 : l = []
          · have hfb : flowBad l p f = -1 := by unfold flowBad shpR; rw [if_pos h0, if_pos rfl]
            obtain ⟨OS, hOS⟩ : ∃ OS, OS = ow := ⟨_, rfl⟩
            have HSH := Lib.hid (show (shpR l p f).1 = OS by unfold shpR; rw [if_pos h0, hOS, HOW.out])
            have hl0 : l.length = 0 := by rw [h0]; rfl
            have HN9 := Lib.hid (show gFold cs p (f + 1) = (atS a nu OS, (gFold cs p f).2) by rw [gFold_ok1 (by rw [HGD.out]; exact hfb), HGD.out, HSH.out, HNU.out, HA.out])
            rw [hl0] at d0'
            rw [← hOS] at RO0 hlen ⊢
            have HL := Lib.hid hlen
            have RO := Lib.hid RO0.out
            have RN := Lib.hid RN0.out
            have KZ := Lib.hid (BT.out.trans (But.of_below (g := g) hbw))
            have IZ := Lib.hid HAW.out
            obtain ⟨wz, hwz⟩ : ∃ wz : World, wz = wr := ⟨_, rfl⟩
            subst hwz
            clear hfb hOS hlen hl0 h0
            go_wp2_with fail
            go_loopw [16] (fun iv wx => ∃ (k : Nat) (a' : Nat → Int), k ≤ nu.length ∧ iv = .int .i64 k ∧ IA wx g p.length a' ∧ atS a nu OS = atS a' (nu.drop k) (OS.drop k) ∧ OnlyG g wz wx) (fun iv _ => nu.length - (intOf iv).toNat)
            case atStart => exact ⟨0, a, Nat.zero_le _, rfl, IZ.out, rfl, OnlyG.refl _ _⟩
            case round =>
              obtain ⟨k, a', hk, rfl, hia, hat, hon⟩ := hrel
              have HIA := Lib.hid hia
              have HAT := Lib.hid hat
              have HON := Lib.hid hon
              clear hia hat hon
              by_cases hlt : k < nu.length
              · have hltO : k < OS.length := by rw [HL.out]; exact hlt
                have rO := own_sameG RO.out (fun b hb => HON.out.blk b (fun e => by have := own_ge RO.out b hb; omega))
                have rN := own_sameG RN.out (fun b hb => HON.out.blk b (fun e => by have := own_ge RN.out b hb; omega))
                obtain ⟨b2, hA2, _, _, y0⟩ := own_get rO (by omega) Pk.cs_len hltO
                obtain ⟨b3, hA3, _, _, y1⟩ := own_get rN (by omega) nCs_len hlt
                have z0 := y0 2 _ rfl
                have z1 := y1 0 _ rfl
                simp only [Nat.mul_one, Nat.add_zero] at z1
                subst hA2
                subst hA3
                have hst := atS_drop (a := a) hlt hltO a'
                have hmm : nu[k] ∈ numsK p f p.length := by rw [← HNU.out]; exact List.getElem_mem hlt
                have hm : nu[k] < p.length := (numsK_mem.1 hmm).1
                obtain ⟨m, hme⟩ : ∃ m, m = nu[k] := ⟨_, rfl⟩
                obtain ⟨t, hte⟩ : ∃ t, t = OS[k].a := ⟨_, rfl⟩
                rw [← hme, ← hte] at hst
                rw [← hme] at z1 hm
                rw [← hte] at z0
                have c0 := HIA.out.cell (k := m) hm
                have f0 := HIA.out.frozen m
                have HST := Lib.hid hst
                have q1 : (0 : Int) ≤ (k : Int) := by omega
                have q2 : (k : Int) < (nu.length : Int) := by omega
                have q3 : (k : Int) < (OS.length : Int) := by omega
                have q4 : (0 : Int) ≤ (m : Int) := by omega
                have q5 : (m : Int) < (p.length : Int) := by omega
                have hia2 : IA (wr.setCell ⟨g, m, none⟩ (.int .i64 t)) g p.length (upA a' m t) := HIA.out.set_ (k := m) (.int .i64 t) fun j _ => by
                  show Value.int .i64 (upA a' m t j) = if j = m then .int .i64 t else .int .i64 (a' j)
                  unfold upA
                  split <;> rfl
                have HIA2 := Lib.hid hia2
                clear hst hme hte hia2 y0 y1 rO rN hmm
                go_wp2_with fail
                go_region
                all_goals
                  go_wp2_with fail
                  go_roundw
                  case rel => exact ⟨k + 1, upA a' m t, hlt, by go_num, HIA2.out, by rw [HAT.out]; exact HST.out, onlyG_drew (HON.out.set_ m _)⟩
                  case measure => simp [intOf]; omega
              · have hfin : atS a nu OS = a' := by
                  rw [HAT.out, List.drop_eq_nil_of_le (by omega)]
                  cases OS.drop k <;> rfl
                have HF := Lib.hid hfin
                have hq : ¬ (k : Int) < (OS.length : Int) := by rw [HL.out]; omega
                clear hfin
                go_wp2_with fail
                go_roundw
                case rel => exact ⟨f + 1, hf8, by rw [HN9.out], by go_num, by rw [HN9.out]; rw [HF.out]; exact HIA.out, KZ.out.trans (But.of_only HON.out)⟩
                case measure => simp [intOf]; omega
          · have h1 : (crvErr l).1 = 0 := HCL.out.resolve_left h0
            have hl0 : (0 : Int) < (l.length : Int) := by have := List.length_pos_iff.2 h0; omega
            have HSR := Lib.hid (show shpR l p f = shapeR l ow by unfold shpR; rw [if_neg h0, HOW.out])
            have HLEN := Lib.hid hlen
            have HSO := Lib.hid (shapeOf_any ac A1 cl c1 l ow wr wr.heap.size (Nat.le_refl _) ((HRD.out.below (hbw.mono hBY)).more (Nat.le_trans hBY zw)) (RdP.of_own RO0.out) hll HPO.out h1)
            by_cases hbad : (shapeR l ow).2 = -1
            · have hfb : flowBad l p f = -1 := by unfold flowBad; rw [HSR.out, if_pos hbad]
              obtain ⟨OS, hOS⟩ : ∃ OS, OS = (shapeR l ow).1 := ⟨_, rfl⟩
              have HSH := Lib.hid (show (shpR l p f).1 = OS by rw [HSR.out, hOS])
              have hlen2 : OS.length = nu.length := by
                have := (shp_ok (l := l) (f := f) HPK.out (by rcases HCL.out with e | e; exact .inl e; exact .inr (crvErr_ok e).2.2.1) (by rw [HSR.out]; exact hbad)).len
                rw [HSH.out, ← HNU.out] at this
                exact this
              have HN9 := Lib.hid (show gFold cs p (f + 1) = (atS a nu OS, (gFold cs p f).2) by rw [gFold_ok1 (by rw [HGD.out]; exact hfb), HGD.out, HSH.out, HNU.out, HA.out])
              have HL := Lib.hid hlen2
              rw [hbad, ← hOS] at HSO
              clear hfb hbad hOS hlen2 hlen h1 h0
              go_wp2_with fail
              refine (HSO.out).mono ?_
              rintro e wz ⟨AO, cO, rfl, ro, kz⟩
              have RO := Lib.hid (own_mono ro zw)
              have RN := Lib.hid (own_below RN0.out kz (Nat.le_refl _))
              have KZ := Lib.hid (BT.out.trans (But.of_below (g := g) (hbw.trans (kz.mono zw))))
              have IZ := Lib.hid (HAW.out.same (kz.block g (Nat.lt_of_lt_of_le hgY zw)))
              clear ro kz x0 d0' HSO
              go_wp2_with fail
              go_loopw [16] (fun iv wx => ∃ (k : Nat) (a' : Nat → Int), k ≤ nu.length ∧ iv = .int .i64 k ∧ IA wx g p.length a' ∧ atS a nu OS = atS a' (nu.drop k) (OS.drop k) ∧ OnlyG g wz wx) (fun iv _ => nu.length - (intOf iv).toNat)
              case atStart => exact ⟨0, a, Nat.zero_le _, rfl, IZ.out, rfl, OnlyG.refl _ _⟩
              case round =>
                obtain ⟨k, a', hk, rfl, hia, hat, hon⟩ := hrel
                have HIA := Lib.hid hia
                have HAT := Lib.hid hat
                have HON := Lib.hid hon
                clear hia hat hon
                by_cases hlt : k < nu.length
                · have hltO : k < OS.length := by rw [HL.out]; exact hlt
                  have rO := own_sameG RO.out (fun b hb => HON.out.blk b (fun e => by have := own_ge RO.out b hb; omega))
                  have rN := own_sameG RN.out (fun b hb => HON.out.blk b (fun e => by have := own_ge RN.out b hb; omega))
                  obtain ⟨b2, hA2, _, _, y0⟩ := own_get rO (by omega) Pk.cs_len hltO
                  obtain ⟨b3, hA3, _, _, y1⟩ := own_get rN (by omega) nCs_len hlt
                  have z0 := y0 2 _ rfl
                  have z1 := y1 0 _ rfl
                  simp only [Nat.mul_one, Nat.add_zero] at z1
                  subst hA2
                  subst hA3
                  have hst := atS_drop (a := a) hlt hltO a'
                  have hmm : nu[k] ∈ numsK p f p.length := by rw [← HNU.out]; exact List.getElem_mem hlt
                  have hm : nu[k] < p.length := (numsK_mem.1 hmm).1
                  obtain ⟨m, hme⟩ : ∃ m, m = nu[k] := ⟨_, rfl⟩
                  obtain ⟨t, hte⟩ : ∃ t, t = OS[k].a := ⟨_, rfl⟩
                  rw [← hme, ← hte] at hst
                  rw [← hme] at z1 hm
                  rw [← hte] at z0
                  have c0 := HIA.out.cell (k := m) hm
                  have f0 := HIA.out.frozen m
                  have HST := Lib.hid hst
                  have q1 : (0 : Int) ≤ (k : Int) := by omega
                  have q2 : (k : Int) < (nu.length : Int) := by omega
                  have q3 : (k : Int) < (OS.length : Int) := by omega
                  have q4 : (0 : Int) ≤ (m : Int) := by omega
                  have q5 : (m : Int) < (p.length : Int) := by omega
                  have hia2 : IA (wr.setCell ⟨g, m, none⟩ (.int .i64 t)) g p.length (upA a' m t) := HIA.out.set_ (k := m) (.int .i64 t) fun j _ => by
                    show Value.int .i64 (upA a' m t j) = if j = m then .int .i64 t else .int .i64 (a' j)
                    unfold upA
                    split <;> rfl
                  have HIA2 := Lib.hid hia2
                  clear hst hme hte hia2 y0 y1 rO rN hmm
                  go_wp2_with fail
                  go_region
                  all_goals
                    go_wp2_with fail
                    go_roundw
                    case rel => exact ⟨k + 1, upA a' m t, hlt, by go_num, HIA2.out, by rw [HAT.out]; exact HST.out, onlyG_drew (HON.out.set_ m _)⟩
                    case measure => simp [intOf]; omega
                · have hfin : atS a nu OS = a' := by
                    rw [HAT.out, List.drop_eq_nil_of_le (by omega)]
                    cases OS.drop k <;> rfl
                  have HF := Lib.hid hfin
                  have hq : ¬ (k : Int) < (OS.length : Int) := by rw [HL.out]; omega
                  clear hfin
                  go_wp2_with fail
                  go_roundw
                  case rel => exact ⟨f + 1, hf8, by rw [HN9.out], by go_num, by rw [HN9.out]; rw [HF.out]; exact HIA.out, KZ.out.trans (But.of_only HON.out)⟩
                  case measure => simp [intOf]; omega
            · obtain ⟨m, hm⟩ : ∃ m : Nat, (shapeR l ow).2 = (m : Int) := by
                rcases shapeGo_bad ow (l.map newB) 0 0 with h9 | h9
                · exact absurd h9 hbad
                · exact ⟨(shapeR l ow).2.toNat, by unfold shapeR; omega⟩
              have hml : m < nu.length := by
                have h9 := (shapeGo_bad ow (l.map newB) 0 0).resolve_left hbad
                have e : (shapeGo ow (l.map newB) 0 0).2 = (m : Int) := hm
                have e2 := HLEN.out
                omega
              obtain ⟨t, ht⟩ : ∃ t, t = nu[m] := ⟨_, rfl⟩
              have hfb : flowBad l p f = (t : Int) := by
                unfold flowBad
                rw [HSR.out, if_neg hbad, hm, Int.toNat_natCast, ← HNU.out, ht]
                simp [List.getD, hml]
              obtain ⟨fi, hfi⟩ : ∃ fi, fi = (gFold cs p f).2 := ⟨_, rfl⟩
              have hnn := gFold_nn cs p f
              rw [← hfi] at hnn ⊢
              have HN9 := Lib.hid (show gFold cs p (f + 1) = (a, firstU fi (t : Int)) by rw [gFold_bad1 (by rw [HGD.out, hfb]; omega), HGD.out, hfb, HA.out, hfi])
              have HT := Lib.hid ht
              rw [hm] at HSO
              clear hfb hfi hbad hm ht hlen h1 h0
              go_wp2_with fail
              refine (HSO.out).mono ?_
              rintro e wz ⟨AO, cO, rfl, -, kz⟩
              have hrn := own_below RN0.out kz (Nat.le_refl _)
              obtain ⟨b3, hA3, _, hb3, y1⟩ := own_get hrn (by omega) nCs_len hml
              have z1 := y1 0 _ rfl
              simp only [Nat.mul_one, Nat.add_zero] at z1
              subst hA3
              rw [← HT.out] at z1
              have KZ := Lib.hid (BT.out.trans (But.of_below (g := g) (hbw.trans (kz.mono zw))))
              have IZ := Lib.hid (HAW.out.same (kz.block g (Nat.lt_of_lt_of_le hgY zw)))
              have q1 : (0 : Int) ≤ (m : Int) := by omega
              have q2 : (m : Int) < (nu.length : Int) := by omega
              clear x0 d0' HSO y1 hrn
              by_cases hf1 : fi = -1
              · have HU := Lib.hid (show firstU fi (t : Int) = (t : Int) from if_pos (.inl hf1))
                have t1 : fi < 0 := by omega
                clear hf1
                go_wp2_with fail
                go_roundw
                case rel => exact ⟨f + 1, hf8, by rw [HN9.out]; exact congrArg (Value.int .i64) HU.out.symm, by go_num, by rw [HN9.out]; exact IZ.out, KZ.out⟩
                case measure => simp [intOf]; omega
              · have t1 : ¬ fi < 0 := by omega
                by_cases hlt2 : (t : Int) < fi
                · have HU := Lib.hid (show firstU fi (t : Int) = (t : Int) from if_pos (.inr hlt2))
                  clear hf1
                  go_wp2_with fail
                  go_roundw
                  case rel => exact ⟨f + 1, hf8, by rw [HN9.out]; exact congrArg (Value.int .i64) HU.out.symm, by go_num, by rw [HN9.out]; exact IZ.out, KZ.out⟩
                  case measure => simp [intOf]; omega
                · have HU := Lib.hid (show firstU fi (t : Int) = fi from if_neg (by omega))
                  clear hf1
                  go_wp2_with fail
                  go_roundw
                  case rel => exact ⟨f + 1, hf8, by rw [HN9.out]; exact congrArg (Value.int .i64) HU.out.symm, by go_num, by rw [HN9.out]; exact IZ.out, KZ.out⟩
                  case measure => simp [intOf]; omega

    · obtain rfl : f = 8 := by omega
      have yY := Y3.out.but BT.out nyb
      have gY := G3.out.but BT.out ngb
      have fY := F3.out.but BT.out nfb
      have kY : Below w.heap.size w Y := K3.out.trans (BT.out.below hwg K3.out.size)
      have YY := Lib.hid yY
      have FY := Lib.hid fY
      have KY := Lib.hid kY
      have yYl := yY.lt
      have fYl := fY.lt
      have gYl := gY.lt
      by_cases hff : (gFold cs p 8).2 = -1
      · skip
        have HFF := Lib.hid hff
        rw [hff, show ((8 : Nat) : Int) = 8 from rfl]
        clear hff
        go_wp2_with fail
        go_loopw [17, 18] (fun ov iv wx => ∃ (i : Nat) (out : List Pk) (Ao : Option Addr) (co : Nat), i ≤ p.length ∧ out = outO p a i ∧ ov = .slice Ao out.length co ∧ iv = .int .i64 i ∧ (out = [] → Ao = none ∧ co = 0) ∧ wx.ownsRow Y.heap.size 58 3 (.slice Ao out.length co) out.length (out.flatMap Pk.cs) ∧ Below Y.heap.size Y wx) (fun _ iv _ => p.length - (intOf iv).toNat)
        case atStart => exact ⟨0, [], none, 0, Nat.zero_le _, rfl, rfl, rfl, fun _ => ⟨rfl, rfl⟩, ⟨by simp, .inl ⟨rfl, rfl⟩⟩, Below.refl _ _⟩
        case round =>
          obtain ⟨i, out, Ao, co, hi, hout, rfl, rfl, hnil, row, hbw⟩ := hrel
          have zw := hbw.size
          have HOUT := Lib.hid hout
          have HNIL := Lib.hid hnil
          have ROW := Lib.hid row
          have hn : out.length = i := by rw [hout]; exact outO_len _ _ _
          have kw := KR.out.trans (hbw.mono hBY)
          clear hout hnil row
          by_cases hin : i < p.length
          · obtain ⟨b1, o1, rfl, hb1, e0, e1, e2⟩ := RdP.get (hp.below kw) hin
            obtain ⟨x, hx⟩ : ∃ x : Pk, x = p[i] := ⟨_, rfl⟩
            have cA := (IAY.out.same (hbw.block g hgY)).cell hin
            obtain ⟨t, ht⟩ : ∃ t, t = a i := ⟨_, rfl⟩
            have HPK2 := Lib.hid (show pkO p a i = ⟨x.f, x.s, t⟩ by unfold pkO; rw [fOf_of hin, sOf_of hin, ← hx, ht])
            rw [← hx] at e0 e1 e2
            simp only [← ht] at cA
            have q1 : (0 : Int) ≤ (i : Int) := by omega
            have q2 : (i : Int) < (p.length : Int) := by omega
            have HT := Lib.hid ht
            have hcap := own_capG ROW.out
            clear hx ht
            obtain ⟨V, hV⟩ : ∃ V : World, V = wr.alloc (.cells #[.int .i64 x.f, .int .i64 x.s, .int .i64 x.a] 58) := ⟨_, rfl⟩
            have bV : Below wr.heap.size wr V := by rw [hV]; exact (Below.refl _ _).alloc (Nat.le_refl _) _
            have xV : Blk V wr.heap.size 58 #[.int .i64 x.f, .int .i64 x.s, .int .i64 x.a] := by rw [hV]; exact Blk.new _ _ _
            obtain ⟨qb, hqb⟩ : ∃ qb, qb = wr.heap.size := ⟨_, rfl⟩
            rw [← hqb] at xV bV
            have cV : V.cell? ⟨g, i, none⟩ = some (.int .i64 t) := (bV.cell (p := ⟨g, i, none⟩) (by show g < qb; omega)).trans cA
            have y2 := xV.cell 2
            have f2 := xV.frozen 2
            simp only [List.getElem?_toArray, List.getElem?_cons_zero, List.getElem?_cons_succ] at y2
            obtain ⟨V2, hV2⟩ : ∃ V2 : World, V2 = V.setCell ⟨qb, 2, none⟩ (.int .i64 t) := ⟨_, rfl⟩
            have xV2 : Blk V2 qb 58 #[.int .i64 x.f, .int .i64 x.s, .int .i64 t] := by rw [hV2]; exact xV.set_ 2 (.int .i64 t)
            have b2 : Below qb wr V2 := by rw [hV2]; exact bV.setCell (p := ⟨qb, 2, none⟩) (Nat.le_refl _) _
            have row2 : V2.ownsRow Y.heap.size 58 3 (.slice Ao out.length co) out.length (out.flatMap Pk.cs) := own_sameG ROW.out fun q hq => b2.block q (by rw [hqb]; exact own_lt' ROW.out q hq)
            have XV2 := Lib.hid xV2
            have ROW2 := Lib.hid row2
            have w0 := xV2.cell 0
            have w1' := xV2.cell 1
            have w2' := xV2.cell 2
            simp only [List.getElem?_toArray, List.getElem?_cons_zero, List.getElem?_cons_succ] at w0 w1' w2'
            have k2' : Below Y.heap.size Y V2 := hbw.trans (b2.mono (by omega))
            have hqV := xV2.lt
            have HV := Lib.hid hV
            have HV2 := Lib.hid hV2
            have HQB := Lib.hid hqb
            obtain ⟨n, hnn⟩ : ∃ n, n = out.length := ⟨_, rfl⟩
            rw [← hnn] at hcap hn ⊢
            have HN := Lib.hid hnn
            have hn3 : n ≤ 300 := by omega
            have HNI := Lib.hid hn
            clear hV hV2 hqb bV xV xV2 b2 row2 hnn hn
            go_upto_region 36 with fail
            rw [← HV.out, ← HQB.out]
            go_wp2_with fail
            rw [← HV2.out]
            clear y2 f2 cV cA e0 e1 e2
            go_loopw [20] (fun jv wx => ∃ (j q : Nat), j ≤ n ∧ jv = .int .i64 j ∧ (∀ m (h : m < out.length), j ≤ m → t < out[m].a) ∧ wx = V2.drewN q) (fun jv _ => (intOf jv).toNat)
            case atStart => exact ⟨n, 0, Nat.le_refl _, rfl, fun m hm hj => absurd hm (by rw [← HN.out]; omega), rfl⟩
            case round =>
              obtain ⟨j, q, hj, rfl, hpre, rfl⟩ := hrel
              have HPRE := Lib.hid hpre
              have hj9 : j ≤ out.length := by rw [← HN.out]; exact hj
              have g0 : (V2.drewN q).cell? ⟨qb, 2, none⟩ = some (.int .i64 t) := w2'
              clear hpre
              by_cases hj0 : 0 < j
              · have hjo : j - 1 < out.length := by omega
                obtain ⟨b3, o3, rfl, hb3, t0, t1, t2⟩ := RdP.get (RdP.of_own ROW2.out) hjo
                obtain ⟨y, hy⟩ : ∃ y, y = out[j - 1] := ⟨_, rfl⟩
                rw [← hy] at t0 t1 t2
                have j0 : (0 : Int) < (j : Int) := by omega
                have HY := Lib.hid hy
                clear hy
                have J1 := Lib.hid (show IntKind.i64.wrap ((j : Int) - 1) = (j : Int) - 1 from IntWalk.i64_in _ (by omega))
                by_cases hr : t < y.a
                · have HP2 := Lib.hid (show ∀ m (h : m < out.length), j - 1 ≤ m → t < out[m].a from fun m hm hmj => by
                    by_cases e : m = j - 1
                    · subst e; rw [← HY.out]; exact hr
                    · exact HPRE.out m hm (by omega))
                  go_wp2_with fail
                  go_quiet (fail)
                  rename Nat => nq
                  go_wp2_with fail
                  go_roundw
                  case rel => exact ⟨j - 1, q + nq, by omega, congrArg (Value.int .i64) (by omega), HP2.out, rfl⟩
                  case measure => simp [intOf]; omega
                · have hr2 : ¬ t < y.a := hr
                  have HS := Lib.hid (outO_next HOUT.out hj9 (fun m h hm => by rw [← HT.out]; exact HPRE.out m h hm) (fun h h0 => by rw [← HT.out, ← HY.out]; omega))
                  clear hr
                  have j5 : (j : Int) - 1 < (n : Int) := by omega
                  have j6 : (0 : Int) ≤ (j : Int) - 1 := by omega
                  have j1 := J1.out
                  go_wp2_with fail
                  go_quiet (fail)
                  rename Nat => nq
                  clear j1 j5 j6
                  rcases Nat.lt_or_ge j n with hjn | hjn
                  · have hdl : (out.drop j).length = n - j := by rw [List.length_drop, ← HN.out]
                    obtain ⟨X, hX⟩ : ∃ X : World, X = (V2.drewN q).drewN nq := ⟨_, rfl⟩
                    first | rw [← hX] | rw [show V2.drewN (q + nq) = X from hX.symm]
                    have ROWX := Lib.hid (show X.ownsRow Y.heap.size 58 3 (.slice (some ⟨b3, o3, none⟩) out.length co) out.length (out.flatMap Pk.cs) by rw [hX]; exact own_sameG ROW2.out fun q hq => rfl)
                    obtain ⟨z, hz⟩ : ∃ z : Pk, z = ⟨x.f, x.s, t⟩ := ⟨_, rfl⟩
                    have XX := Lib.hid (show Blk X qb 58 #[.int .i64 z.f, .int .i64 z.s, .int .i64 z.a] by rw [hX, hz]; exact XV2.out)
                    have HZ := Lib.hid (show pkO p a i = z by rw [hz]; exact HPK2.out)
                    have kX : Below Y.heap.size Y X := by rw [hX]; exact below_drewN (below_drewN k2' q) nq
                    have zX := kX.size
                    have HO := Lib.hid (RdP.of_own ROWX.out)
                    have hqX : qb < X.heap.size := XX.out.lt
                    have j2 : (j : Int) ≤ (n : Int) := by omega
                    have hjc : j ≤ co := by omega
                    have j3 : (j : Int) ≤ (co : Int) := by omega
                    have htl : (out.take j).length = j := by rw [List.length_take]; have := HN.out; omega
                    clear hX hz w0 w1' w2'
                    go_upto_region 42 with (at_builtin; refine wpList_append_rd _ Pk.cs rfl (.tmp 152) (.tmp 155) 26 rfl X.heap.size 58 i0 (.agg #[.int .i64 0, .int .i64 0, .int .i64 0]) 3 24 Tryz.underlying26 hi0 hz0 hz1 hz2 rfl (by omega) Pk.cs_len Pk.cs_one (.slice none 0 0) 0 [] rfl ⟨by simp, .inl ⟨rfl, rfl⟩⟩ X.heap.size (some ⟨b3, o3, none⟩) co (out.take j) (by rw [htl]; rfl) (HO.out.prefixG j) (by simp only [maxLen]; omega) (by omega) (Nat.le_refl _) ?_; intro v3 w3 row3 g3 at3; simp only [Nat.zero_add, List.nil_append] at row3; obtain ⟨A4, c4, rfl⟩ := own_slice row3 (by omega); have k3 : Below X.heap.size X w3 := (Below.refl _ _).grown g3 (Nat.le_refl _) (by simp [Value.ownBlock]); have z3 := k3.size; have ROW3 := Lib.hid row3; clear row3; have e0 := (XX.out.below k3 hqX).cell 0; have e1 := (XX.out.below k3 hqX).cell 1; have e2 := (XX.out.below k3 hqX).cell 2; simp only [List.getElem?_toArray, List.getElem?_cons_zero, List.getElem?_cons_succ] at e0 e1 e2; clear at3)
                    rename y.a ≤ t => hq9
                    clear hq9
                    go_upto_region 43 with (at_builtin; refine wpList_append_rd _ Pk.cs rfl (.tmp 157) (.tmp 159) 26 rfl X.heap.size 58 i0 (.agg #[.int .i64 0, .int .i64 0, .int .i64 0]) 3 24 Tryz.underlying26 hi0 hz0 hz1 hz2 rfl (by omega) Pk.cs_len Pk.cs_one (.slice A4 (out.take j).length c4) (out.take j).length ((out.take j).flatMap Pk.cs) (by rw [htl]; rfl) (ROW3.out.alloc _) (w3.heap.size + 1) (some ⟨w3.heap.size, 0, none⟩) 1 [z] rfl (RdP.new_ z) (by simp only [maxLen, List.length_cons, List.length_nil] <;> omega) (by simp only [List.length_cons, List.length_nil] <;> omega) (by simp <;> omega) ?_; intro v5 w5 row5 g5 at5; obtain ⟨A6, c6, hv6, row6⟩ := own_app row5 (by omega); subst hv6; have ROW6 := Lib.hid row6; have k5 := below_app (k3.alloc z3 _) (ROW3.out.alloc _) g5 (Nat.le_refl _) (by simp <;> omega); have z5 := k5.size; clear row5 row6 at5 e0 e1 e2)
                    have hxl : (out.take j ++ [z]).length = j + 1 := by rw [List.length_append, htl]; rfl
                    have M1 := Lib.hid (show (out.take j ++ [z]).length + (out.drop j).length ≤ maxLen by simp only [maxLen]; omega)
                    have M2 := Lib.hid (show ((out.take j ++ [z]).length + (out.drop j).length) * 24 ≤ 140737488355328 by omega)
                    have HXL := Lib.hid hxl
                    have HDL := Lib.hid hdl
                    have HTL := Lib.hid htl
                    clear hxl hdl htl
                    go_wp2_with (at_builtin; (refine wpList_append_rd _ Pk.cs rfl (.tmp 161) (.tmp 164) 26 rfl X.heap.size 58 i0 (.agg #[.int .i64 0, .int .i64 0, .int .i64 0]) 3 24 Tryz.underlying26 hi0 hz0 hz1 hz2 rfl (by omega) Pk.cs_len Pk.cs_one (.slice A6 (out.take j ++ [z]).length c6) (out.take j ++ [z]).length ((out.take j ++ [z]).flatMap Pk.cs) (by rw [HXL.out]; rfl) ROW6.out X.heap.size (some ⟨b3, o3 + j * 3, none⟩) (co - j) (out.drop j) (by rw [HDL.out]; rfl) ((HO.out.suffixG j).below k5) M1.out M2.out z5 ?_; intro v7 w7 row7 g7 at7; obtain ⟨A8, c8, hv8, row8⟩ := own_app row7 (by omega); subst hv8; have ROW8 := Lib.hid row8; have k7 := below_app k5 ROW6.out g7 (Nat.le_refl _) z5; clear row7 row8 at7))
                    have HINS := Lib.hid (show out.take j ++ [z] ++ out.drop j = outO p a (i + 1) by rw [HS.out, HZ.out, List.append_assoc, List.singleton_append])
                    have HLL9 := Lib.hid (show (outO p a (i + 1)).length = i + 1 from outO_len _ _ _)
                    have ROW9 := Lib.hid (show w7.ownsRow X.heap.size 58 3 (.slice A8 (outO p a (i + 1)).length c8) (outO p a (i + 1)).length ((outO p a (i + 1)).flatMap Pk.cs) by rw [← HINS.out]; exact ROW8.out)
                    have HLN := Lib.hid (show (outO p a (i + 1)).length = (out.take j ++ [z]).length + (out.drop j).length by rw [← HINS.out, List.length_append])
                    go_roundw
                    case rel => exact ⟨i + 1, outO p a (i + 1), A8, c8, hin, rfl, congrArg (fun k => Value.slice A8 k c8) (by have := HLL9.out; have := HN.out; have := HNI.out; have := HLN.out; have := HXL.out; have := HDL.out; omega), by go_num, fun e => absurd (congrArg List.length e) (by rw [HLL9.out]; simp), own_mono ROW9.out zX, kX.trans (k7.mono zX)⟩
                    case measure => simp [intOf]; omega
                  · obtain rfl : j = n := by omega
                    have hdl : (out.drop j).length = 0 := by rw [List.length_drop, ← HN.out, Nat.sub_self]
                    have HDN := Lib.hid (show out.drop j = [] from List.length_eq_zero_iff.1 hdl)
                    rcases Nat.lt_or_ge j co with hcl | hcl
                    · skip
                      obtain ⟨X, hX⟩ : ∃ X : World, X = (V2.drewN q).drewN nq := ⟨_, rfl⟩
                      first | rw [← hX] | rw [show V2.drewN (q + nq) = X from hX.symm]
                      have ROWX := Lib.hid (show X.ownsRow Y.heap.size 58 3 (.slice (some ⟨b3, o3, none⟩) out.length co) out.length (out.flatMap Pk.cs) by rw [hX]; exact own_sameG ROW2.out fun q hq => rfl)
                      obtain ⟨z, hz⟩ : ∃ z : Pk, z = ⟨x.f, x.s, t⟩ := ⟨_, rfl⟩
                      have XX := Lib.hid (show Blk X qb 58 #[.int .i64 z.f, .int .i64 z.s, .int .i64 z.a] by rw [hX, hz]; exact XV2.out)
                      have HZ := Lib.hid (show pkO p a i = z by rw [hz]; exact HPK2.out)
                      have kX : Below Y.heap.size Y X := by rw [hX]; exact below_drewN (below_drewN k2' q) nq
                      have zX := kX.size
                      have HO := Lib.hid (RdP.of_own ROWX.out)
                      have hqX : qb < X.heap.size := XX.out.lt
                      have hjc : j ≤ co := by omega
                      have j3 : (j : Int) ≤ (co : Int) := by omega
                      have j4 : (j : Int) < (co : Int) := by omega
                      have htl : (out.take j).length = j := by rw [List.length_take]; have := HN.out; omega
                      clear hX hz w0 w1' w2'
                      go_upto_region 42 with (at_builtin; refine wpList_append_rd _ Pk.cs rfl (.tmp 152) (.tmp 155) 26 rfl X.heap.size 58 i0 (.agg #[.int .i64 0, .int .i64 0, .int .i64 0]) 3 24 Tryz.underlying26 hi0 hz0 hz1 hz2 rfl (by omega) Pk.cs_len Pk.cs_one (.slice none 0 0) 0 [] rfl ⟨by simp, .inl ⟨rfl, rfl⟩⟩ X.heap.size (some ⟨b3, o3, none⟩) co (out.take j) (by rw [htl]; rfl) (HO.out.prefixG j) (by simp only [maxLen]; omega) (by omega) (Nat.le_refl _) ?_; intro v3 w3 row3 g3 at3; simp only [Nat.zero_add, List.nil_append] at row3; obtain ⟨A4, c4, rfl⟩ := own_slice row3 (by omega); have k3 : Below X.heap.size X w3 := (Below.refl _ _).grown g3 (Nat.le_refl _) (by simp [Value.ownBlock]); have z3 := k3.size; have ROW3 := Lib.hid row3; clear row3; have e0 := (XX.out.below k3 hqX).cell 0; have e1 := (XX.out.below k3 hqX).cell 1; have e2 := (XX.out.below k3 hqX).cell 2; simp only [List.getElem?_toArray, List.getElem?_cons_zero, List.getElem?_cons_succ] at e0 e1 e2; clear at3)
                      rename y.a ≤ t => hq9
                      clear hq9
                      go_upto_region 43 with (at_builtin; refine wpList_append_rd _ Pk.cs rfl (.tmp 157) (.tmp 159) 26 rfl X.heap.size 58 i0 (.agg #[.int .i64 0, .int .i64 0, .int .i64 0]) 3 24 Tryz.underlying26 hi0 hz0 hz1 hz2 rfl (by omega) Pk.cs_len Pk.cs_one (.slice A4 (out.take j).length c4) (out.take j).length ((out.take j).flatMap Pk.cs) (by rw [htl]; rfl) (ROW3.out.alloc _) (w3.heap.size + 1) (some ⟨w3.heap.size, 0, none⟩) 1 [z] rfl (RdP.new_ z) (by simp only [maxLen, List.length_cons, List.length_nil] <;> omega) (by simp only [List.length_cons, List.length_nil] <;> omega) (by simp <;> omega) ?_; intro v5 w5 row5 g5 at5; obtain ⟨A6, c6, hv6, row6⟩ := own_app row5 (by omega); subst hv6; have ROW6 := Lib.hid row6; have k5 := below_app (k3.alloc z3 _) (ROW3.out.alloc _) g5 (Nat.le_refl _) (by simp <;> omega); have z5 := k5.size; clear row5 row6 at5 e0 e1 e2)
                      have hxl : (out.take j ++ [z]).length = j + 1 := by rw [List.length_append, htl]; rfl
                      have M1 := Lib.hid (show (out.take j ++ [z]).length + (out.drop j).length ≤ maxLen by simp only [maxLen]; omega)
                      have M2 := Lib.hid (show ((out.take j ++ [z]).length + (out.drop j).length) * 24 ≤ 140737488355328 by omega)
                      have HXL := Lib.hid hxl
                      have HDL := Lib.hid hdl
                      have HTL := Lib.hid htl
                      clear hxl hdl htl
                      go_wp2_with (at_builtin; (refine wpList_append_rd _ Pk.cs rfl (.tmp 161) (.tmp 164) 26 rfl X.heap.size 58 i0 (.agg #[.int .i64 0, .int .i64 0, .int .i64 0]) 3 24 Tryz.underlying26 hi0 hz0 hz1 hz2 rfl (by omega) Pk.cs_len Pk.cs_one (.slice A6 (out.take j ++ [z]).length c6) (out.take j ++ [z]).length ((out.take j ++ [z]).flatMap Pk.cs) (by rw [HXL.out]; rfl) ROW6.out X.heap.size (some ⟨b3, o3 + j * 3, none⟩) (co - j) (out.drop j) (by rw [HDL.out]; rfl) (by rw [HDN.out]; exact fun h0 => absurd h0 (by simp)) M1.out M2.out z5 ?_; intro v7 w7 row7 g7 at7; obtain ⟨A8, c8, hv8, row8⟩ := own_app row7 (by omega); subst hv8; have ROW8 := Lib.hid row8; have k7 := below_app k5 ROW6.out g7 (Nat.le_refl _) z5; clear row7 row8 at7))
                      have HINS := Lib.hid (show out.take j ++ [z] ++ out.drop j = outO p a (i + 1) by rw [HS.out, HZ.out, List.append_assoc, List.singleton_append])
                      have HLL9 := Lib.hid (show (outO p a (i + 1)).length = i + 1 from outO_len _ _ _)
                      have ROW9 := Lib.hid (show w7.ownsRow X.heap.size 58 3 (.slice A8 (outO p a (i + 1)).length c8) (outO p a (i + 1)).length ((outO p a (i + 1)).flatMap Pk.cs) by rw [← HINS.out]; exact ROW8.out)
                      have HLN := Lib.hid (show (outO p a (i + 1)).length = (out.take j ++ [z]).length + (out.drop j).length by rw [← HINS.out, List.length_append])
                      go_roundw
                      case rel => exact ⟨i + 1, outO p a (i + 1), A8, c8, hin, rfl, congrArg (fun k => Value.slice A8 k c8) (by have := HLL9.out; have := HN.out; have := HNI.out; have := HLN.out; have := HXL.out; have := HDL.out; omega), by go_num, fun e => absurd (congrArg List.length e) (by rw [HLL9.out]; simp), own_mono ROW9.out zX, kX.trans (k7.mono zX)⟩
                      case measure => simp [intOf]; omega
                    · obtain rfl : co = j := by omega
                      obtain ⟨X, hX⟩ : ∃ X : World, X = (V2.drewN q).drewN nq := ⟨_, rfl⟩
                      first | rw [← hX] | rw [show V2.drewN (q + nq) = X from hX.symm]
                      have ROWX := Lib.hid (show X.ownsRow Y.heap.size 58 3 (.slice (some ⟨b3, o3, none⟩) out.length co) out.length (out.flatMap Pk.cs) by rw [hX]; exact own_sameG ROW2.out fun q hq => rfl)
                      obtain ⟨z, hz⟩ : ∃ z : Pk, z = ⟨x.f, x.s, t⟩ := ⟨_, rfl⟩
                      have XX := Lib.hid (show Blk X qb 58 #[.int .i64 z.f, .int .i64 z.s, .int .i64 z.a] by rw [hX, hz]; exact XV2.out)
                      have HZ := Lib.hid (show pkO p a i = z by rw [hz]; exact HPK2.out)
                      have kX : Below Y.heap.size Y X := by rw [hX]; exact below_drewN (below_drewN k2' q) nq
                      have zX := kX.size
                      have HO := Lib.hid (RdP.of_own ROWX.out)
                      have hqX : qb < X.heap.size := XX.out.lt
                      have j3 : (co : Int) ≤ (co : Int) := by omega
                      have htl : (out.take co).length = co := by rw [List.length_take]; have := HN.out; omega
                      clear hX hz w0 w1' w2'
                      go_upto_region 42 with (at_builtin; refine wpList_append_rd _ Pk.cs rfl (.tmp 152) (.tmp 155) 26 rfl X.heap.size 58 i0 (.agg #[.int .i64 0, .int .i64 0, .int .i64 0]) 3 24 Tryz.underlying26 hi0 hz0 hz1 hz2 rfl (by omega) Pk.cs_len Pk.cs_one (.slice none 0 0) 0 [] rfl ⟨by simp, .inl ⟨rfl, rfl⟩⟩ X.heap.size (some ⟨b3, o3, none⟩) co (out.take co) (by rw [htl]; rfl) (HO.out.prefixG co) (by simp only [maxLen]; omega) (by omega) (Nat.le_refl _) ?_; intro v3 w3 row3 g3 at3; simp only [Nat.zero_add, List.nil_append] at row3; obtain ⟨A4, c4, rfl⟩ := own_slice row3 (by omega); have k3 : Below X.heap.size X w3 := (Below.refl _ _).grown g3 (Nat.le_refl _) (by simp [Value.ownBlock]); have z3 := k3.size; have ROW3 := Lib.hid row3; clear row3; have e0 := (XX.out.below k3 hqX).cell 0; have e1 := (XX.out.below k3 hqX).cell 1; have e2 := (XX.out.below k3 hqX).cell 2; simp only [List.getElem?_toArray, List.getElem?_cons_zero, List.getElem?_cons_succ] at e0 e1 e2; clear at3)
                      rename y.a ≤ t => hq9
                      clear hq9
                      go_upto_region 43 with (at_builtin; refine wpList_append_rd _ Pk.cs rfl (.tmp 157) (.tmp 159) 26 rfl X.heap.size 58 i0 (.agg #[.int .i64 0, .int .i64 0, .int .i64 0]) 3 24 Tryz.underlying26 hi0 hz0 hz1 hz2 rfl (by omega) Pk.cs_len Pk.cs_one (.slice A4 (out.take co).length c4) (out.take co).length ((out.take co).flatMap Pk.cs) (by rw [htl]; rfl) (ROW3.out.alloc _) (w3.heap.size + 1) (some ⟨w3.heap.size, 0, none⟩) 1 [z] rfl (RdP.new_ z) (by simp only [maxLen, List.length_cons, List.length_nil] <;> omega) (by simp only [List.length_cons, List.length_nil] <;> omega) (by simp <;> omega) ?_; intro v5 w5 row5 g5 at5; obtain ⟨A6, c6, hv6, row6⟩ := own_app row5 (by omega); subst hv6; have ROW6 := Lib.hid row6; have k5 := below_app (k3.alloc z3 _) (ROW3.out.alloc _) g5 (Nat.le_refl _) (by simp <;> omega); have z5 := k5.size; clear row5 row6 at5 e0 e1 e2)
                      have hxl : (out.take co ++ [z]).length = co + 1 := by rw [List.length_append, htl]; rfl
                      have M1 := Lib.hid (show (out.take co ++ [z]).length + (out.drop co).length ≤ maxLen by simp only [maxLen]; omega)
                      have M2 := Lib.hid (show ((out.take co ++ [z]).length + (out.drop co).length) * 24 ≤ 140737488355328 by omega)
                      have HXL := Lib.hid hxl
                      have HDL := Lib.hid hdl
                      have HTL := Lib.hid htl
                      clear hxl hdl htl
                      go_wp2_with (at_builtin; (refine wpList_append_rd _ Pk.cs rfl (.tmp 161) (.tmp 164) 26 rfl X.heap.size 58 i0 (.agg #[.int .i64 0, .int .i64 0, .int .i64 0]) 3 24 Tryz.underlying26 hi0 hz0 hz1 hz2 rfl (by omega) Pk.cs_len Pk.cs_one (.slice A6 (out.take co ++ [z]).length c6) (out.take co ++ [z]).length ((out.take co ++ [z]).flatMap Pk.cs) (by rw [HXL.out]; rfl) ROW6.out X.heap.size (some ⟨b3, o3, none⟩) 0 (out.drop co) (by rw [HDL.out]; rfl) (by rw [HDN.out]; exact fun h0 => absurd h0 (by simp)) M1.out M2.out z5 ?_; intro v7 w7 row7 g7 at7; obtain ⟨A8, c8, hv8, row8⟩ := own_app row7 (by omega); subst hv8; have ROW8 := Lib.hid row8; have k7 := below_app k5 ROW6.out g7 (Nat.le_refl _) z5; clear row7 row8 at7))
                      have HINS := Lib.hid (show out.take co ++ [z] ++ out.drop co = outO p a (i + 1) by rw [HS.out, HZ.out, List.append_assoc, List.singleton_append])
                      have HLL9 := Lib.hid (show (outO p a (i + 1)).length = i + 1 from outO_len _ _ _)
                      have ROW9 := Lib.hid (show w7.ownsRow X.heap.size 58 3 (.slice A8 (outO p a (i + 1)).length c8) (outO p a (i + 1)).length ((outO p a (i + 1)).flatMap Pk.cs) by rw [← HINS.out]; exact ROW8.out)
                      have HLN := Lib.hid (show (outO p a (i + 1)).length = (out.take co ++ [z]).length + (out.drop co).length by rw [← HINS.out, List.length_append])
                      go_roundw
                      case rel => exact ⟨i + 1, outO p a (i + 1), A8, c8, hin, rfl, congrArg (fun k => Value.slice A8 k c8) (by have := HLL9.out; have := HN.out; have := HNI.out; have := HLN.out; have := HXL.out; have := HDL.out; omega), by go_num, fun e => absurd (congrArg List.length e) (by rw [HLL9.out]; simp), own_mono ROW9.out zX, kX.trans (k7.mono zX)⟩
                      case measure => simp [intOf]; omega
              · have gf : decide ((0 : Int) < (j : Int)) = false := decide_eq_false (by omega)
                have HS := Lib.hid (outO_next HOUT.out hj9 (fun m h hm => by rw [← HT.out]; exact HPRE.out m h hm) (fun h h0 => absurd h0 hj0))
                go_wp2_with fail
                go_quiet (fail)
                rename Nat => nq
                cases Ao with
                | none =>
                  have ho0 : out = [] ∧ co = 0 := by
                    cases out with
                    | nil => exact ⟨rfl, (HNIL.out rfl).2⟩
                    | cons a0 r0 => exact absurd (RdP.get (RdP.of_own ROW2.out) (i := 0) (by simp)) (by rintro ⟨b, o, e, -⟩; cases e)
                  obtain ⟨ho1, rfl⟩ := ho0
                  obtain rfl : j = 0 := by omega
                  have hdl : (out.drop 0).length = 0 := by rw [ho1]; rfl
                  have HDN := Lib.hid (show out.drop 0 = [] by rw [ho1]; rfl)
                  obtain ⟨X, hX⟩ : ∃ X : World, X = (V2.drewN q).drewN nq := ⟨_, rfl⟩
                  first | rw [← hX] | rw [show V2.drewN (q + nq) = X from hX.symm]
                  have ROWX := Lib.hid (show X.ownsRow Y.heap.size 58 3 (.slice none out.length 0) out.length (out.flatMap Pk.cs) by rw [hX]; exact own_sameG ROW2.out fun q hq => rfl)
                  obtain ⟨z, hz⟩ : ∃ z : Pk, z = ⟨x.f, x.s, t⟩ := ⟨_, rfl⟩
                  have XX := Lib.hid (show Blk X qb 58 #[.int .i64 z.f, .int .i64 z.s, .int .i64 z.a] by rw [hX, hz]; exact XV2.out)
                  have HZ := Lib.hid (show pkO p a i = z by rw [hz]; exact HPK2.out)
                  have kX : Below Y.heap.size Y X := by rw [hX]; exact below_drewN (below_drewN k2' q) nq
                  have zX := kX.size
                  have HO := Lib.hid (RdP.of_own ROWX.out)
                  have hqX : qb < X.heap.size := XX.out.lt
                  have hoz : out.length = 0 := by rw [ho1]; rfl
                  have htl : (out.take 0).length = 0 := by rw [List.length_take]; have := HN.out; omega
                  clear hX hz w0 w1' w2'
                  go_upto_region 42 with (at_builtin; refine wpList_append_rd _ Pk.cs rfl (.tmp 152) (.tmp 155) 26 rfl X.heap.size 58 i0 (.agg #[.int .i64 0, .int .i64 0, .int .i64 0]) 3 24 Tryz.underlying26 hi0 hz0 hz1 hz2 rfl (by omega) Pk.cs_len Pk.cs_one (.slice none 0 0) 0 [] rfl ⟨by simp, .inl ⟨rfl, rfl⟩⟩ X.heap.size none 0 (out.take 0) (by rw [htl]; rfl) (HO.out.prefixG 0) (by simp only [maxLen]; omega) (by omega) (Nat.le_refl _) ?_; intro v3 w3 row3 g3 at3; simp only [Nat.zero_add, List.nil_append] at row3; obtain ⟨A4, c4, rfl⟩ := own_slice row3 (by omega); have k3 : Below X.heap.size X w3 := (Below.refl _ _).grown g3 (Nat.le_refl _) (by simp [Value.ownBlock]); have z3 := k3.size; have ROW3 := Lib.hid row3; clear row3; have e0 := (XX.out.below k3 hqX).cell 0; have e1 := (XX.out.below k3 hqX).cell 1; have e2 := (XX.out.below k3 hqX).cell 2; simp only [List.getElem?_toArray, List.getElem?_cons_zero, List.getElem?_cons_succ] at e0 e1 e2; clear at3)
                  skip
                  go_upto_region 43 with (at_builtin; refine wpList_append_rd _ Pk.cs rfl (.tmp 157) (.tmp 159) 26 rfl X.heap.size 58 i0 (.agg #[.int .i64 0, .int .i64 0, .int .i64 0]) 3 24 Tryz.underlying26 hi0 hz0 hz1 hz2 rfl (by omega) Pk.cs_len Pk.cs_one (.slice A4 (out.take 0).length c4) (out.take 0).length ((out.take 0).flatMap Pk.cs) (by rw [htl]; rfl) (ROW3.out.alloc _) (w3.heap.size + 1) (some ⟨w3.heap.size, 0, none⟩) 1 [z] rfl (RdP.new_ z) (by simp only [maxLen, List.length_cons, List.length_nil] <;> omega) (by simp only [List.length_cons, List.length_nil] <;> omega) (by simp <;> omega) ?_; intro v5 w5 row5 g5 at5; obtain ⟨A6, c6, hv6, row6⟩ := own_app row5 (by omega); subst hv6; have ROW6 := Lib.hid row6; have k5 := below_app (k3.alloc z3 _) (ROW3.out.alloc _) g5 (Nat.le_refl _) (by simp <;> omega); have z5 := k5.size; clear row5 row6 at5 e0 e1 e2)
                  have hxl : (out.take 0 ++ [z]).length = 0 + 1 := by rw [List.length_append, htl]; rfl
                  have M1 := Lib.hid (show (out.take 0 ++ [z]).length + (out.drop 0).length ≤ maxLen by simp only [maxLen]; omega)
                  have M2 := Lib.hid (show ((out.take 0 ++ [z]).length + (out.drop 0).length) * 24 ≤ 140737488355328 by omega)
                  have HXL := Lib.hid hxl
                  have HDL := Lib.hid hdl
                  have HTL := Lib.hid htl
                  clear hxl hdl htl
                  go_wp2_with (at_builtin; (refine wpList_append_rd _ Pk.cs rfl (.tmp 161) (.tmp 164) 26 rfl X.heap.size 58 i0 (.agg #[.int .i64 0, .int .i64 0, .int .i64 0]) 3 24 Tryz.underlying26 hi0 hz0 hz1 hz2 rfl (by omega) Pk.cs_len Pk.cs_one (.slice A6 (out.take 0 ++ [z]).length c6) (out.take 0 ++ [z]).length ((out.take 0 ++ [z]).flatMap Pk.cs) (by rw [HXL.out]; rfl) ROW6.out X.heap.size _ _ (out.drop 0) (by rw [HDL.out]; rfl) (by rw [HDN.out]; exact fun h0 => absurd h0 (by simp)) M1.out M2.out z5 ?_; intro v7 w7 row7 g7 at7; obtain ⟨A8, c8, hv8, row8⟩ := own_app row7 (by omega); subst hv8; have ROW8 := Lib.hid row8; have k7 := below_app k5 ROW6.out g7 (Nat.le_refl _) z5; clear row7 row8 at7))
                  have HINS := Lib.hid (show out.take 0 ++ [z] ++ out.drop 0 = outO p a (i + 1) by rw [HS.out, HZ.out, List.append_assoc, List.singleton_append])
                  have HLL9 := Lib.hid (show (outO p a (i + 1)).length = i + 1 from outO_len _ _ _)
                  have ROW9 := Lib.hid (show w7.ownsRow X.heap.size 58 3 (.slice A8 (outO p a (i + 1)).length c8) (outO p a (i + 1)).length ((outO p a (i + 1)).flatMap Pk.cs) by rw [← HINS.out]; exact ROW8.out)
                  have HLN := Lib.hid (show (outO p a (i + 1)).length = (out.take 0 ++ [z]).length + (out.drop 0).length by rw [← HINS.out, List.length_append])
                  go_roundw
                  case rel => exact ⟨i + 1, outO p a (i + 1), A8, c8, hin, rfl, congrArg (fun k => Value.slice A8 k c8) (by have := HLL9.out; have := HN.out; have := HNI.out; have := HLN.out; have := HXL.out; have := HDL.out; omega), by go_num, fun e => absurd (congrArg List.length e) (by rw [HLL9.out]; simp), own_mono ROW9.out zX, kX.trans (k7.mono zX)⟩
                  case measure => simp [intOf]; omega
                | some p3 =>
                  have ho1 : out ≠ [] := fun e => by cases (HNIL.out e).1
                  have ho2 : 0 < out.length := List.length_pos_iff.2 ho1
                  obtain ⟨b3, o3, e3, hb3, -, -, -⟩ := RdP.get (RdP.of_own ROW2.out) ho2
                  cases e3
                  have hjn : j < n := by rw [HN.out]; omega
                  have hdl : (out.drop j).length = n - j := by rw [List.length_drop, ← HN.out]
                  obtain ⟨X, hX⟩ : ∃ X : World, X = (V2.drewN q).drewN nq := ⟨_, rfl⟩
                  first | rw [← hX] | rw [show V2.drewN (q + nq) = X from hX.symm]
                  have ROWX := Lib.hid (show X.ownsRow Y.heap.size 58 3 (.slice (some ⟨b3, o3, none⟩) out.length co) out.length (out.flatMap Pk.cs) by rw [hX]; exact own_sameG ROW2.out fun q hq => rfl)
                  obtain ⟨z, hz⟩ : ∃ z : Pk, z = ⟨x.f, x.s, t⟩ := ⟨_, rfl⟩
                  have XX := Lib.hid (show Blk X qb 58 #[.int .i64 z.f, .int .i64 z.s, .int .i64 z.a] by rw [hX, hz]; exact XV2.out)
                  have HZ := Lib.hid (show pkO p a i = z by rw [hz]; exact HPK2.out)
                  have kX : Below Y.heap.size Y X := by rw [hX]; exact below_drewN (below_drewN k2' q) nq
                  have zX := kX.size
                  have HO := Lib.hid (RdP.of_own ROWX.out)
                  have hqX : qb < X.heap.size := XX.out.lt
                  have j2 : (j : Int) ≤ (n : Int) := by omega
                  have hjc : j ≤ co := by omega
                  have j3 : (j : Int) ≤ (co : Int) := by omega
                  have htl : (out.take j).length = j := by rw [List.length_take]; have := HN.out; omega
                  clear hX hz w0 w1' w2'
                  go_upto_region 42 with (at_builtin; refine wpList_append_rd _ Pk.cs rfl (.tmp 152) (.tmp 155) 26 rfl X.heap.size 58 i0 (.agg #[.int .i64 0, .int .i64 0, .int .i64 0]) 3 24 Tryz.underlying26 hi0 hz0 hz1 hz2 rfl (by omega) Pk.cs_len Pk.cs_one (.slice none 0 0) 0 [] rfl ⟨by simp, .inl ⟨rfl, rfl⟩⟩ X.heap.size (some ⟨b3, o3, none⟩) co (out.take j) (by rw [htl]; rfl) (HO.out.prefixG j) (by simp only [maxLen]; omega) (by omega) (Nat.le_refl _) ?_; intro v3 w3 row3 g3 at3; simp only [Nat.zero_add, List.nil_append] at row3; obtain ⟨A4, c4, rfl⟩ := own_slice row3 (by omega); have k3 : Below X.heap.size X w3 := (Below.refl _ _).grown g3 (Nat.le_refl _) (by simp [Value.ownBlock]); have z3 := k3.size; have ROW3 := Lib.hid row3; clear row3; have e0 := (XX.out.below k3 hqX).cell 0; have e1 := (XX.out.below k3 hqX).cell 1; have e2 := (XX.out.below k3 hqX).cell 2; simp only [List.getElem?_toArray, List.getElem?_cons_zero, List.getElem?_cons_succ] at e0 e1 e2; clear at3)
                  skip
                  go_upto_region 43 with (at_builtin; refine wpList_append_rd _ Pk.cs rfl (.tmp 157) (.tmp 159) 26 rfl X.heap.size 58 i0 (.agg #[.int .i64 0, .int .i64 0, .int .i64 0]) 3 24 Tryz.underlying26 hi0 hz0 hz1 hz2 rfl (by omega) Pk.cs_len Pk.cs_one (.slice A4 (out.take j).length c4) (out.take j).length ((out.take j).flatMap Pk.cs) (by rw [htl]; rfl) (ROW3.out.alloc _) (w3.heap.size + 1) (some ⟨w3.heap.size, 0, none⟩) 1 [z] rfl (RdP.new_ z) (by simp only [maxLen, List.length_cons, List.length_nil] <;> omega) (by simp only [List.length_cons, List.length_nil] <;> omega) (by simp <;> omega) ?_; intro v5 w5 row5 g5 at5; obtain ⟨A6, c6, hv6, row6⟩ := own_app row5 (by omega); subst hv6; have ROW6 := Lib.hid row6; have k5 := below_app (k3.alloc z3 _) (ROW3.out.alloc _) g5 (Nat.le_refl _) (by simp <;> omega); have z5 := k5.size; clear row5 row6 at5 e0 e1 e2)
                  have hxl : (out.take j ++ [z]).length = j + 1 := by rw [List.length_append, htl]; rfl
                  have M1 := Lib.hid (show (out.take j ++ [z]).length + (out.drop j).length ≤ maxLen by simp only [maxLen]; omega)
                  have M2 := Lib.hid (show ((out.take j ++ [z]).length + (out.drop j).length) * 24 ≤ 140737488355328 by omega)
                  have HXL := Lib.hid hxl
                  have HDL := Lib.hid hdl
                  have HTL := Lib.hid htl
                  clear hxl hdl htl
                  go_wp2_with (at_builtin; (refine wpList_append_rd _ Pk.cs rfl (.tmp 161) (.tmp 164) 26 rfl X.heap.size 58 i0 (.agg #[.int .i64 0, .int .i64 0, .int .i64 0]) 3 24 Tryz.underlying26 hi0 hz0 hz1 hz2 rfl (by omega) Pk.cs_len Pk.cs_one (.slice A6 (out.take j ++ [z]).length c6) (out.take j ++ [z]).length ((out.take j ++ [z]).flatMap Pk.cs) (by rw [HXL.out]; rfl) ROW6.out X.heap.size (some ⟨b3, o3 + j * 3, none⟩) (co - j) (out.drop j) (by rw [HDL.out]; rfl) ((HO.out.suffixG j).below k5) M1.out M2.out z5 ?_; intro v7 w7 row7 g7 at7; obtain ⟨A8, c8, hv8, row8⟩ := own_app row7 (by omega); subst hv8; have ROW8 := Lib.hid row8; have k7 := below_app k5 ROW6.out g7 (Nat.le_refl _) z5; clear row7 row8 at7))
                  have HINS := Lib.hid (show out.take j ++ [z] ++ out.drop j = outO p a (i + 1) by rw [HS.out, HZ.out, List.append_assoc, List.singleton_append])
                  have HLL9 := Lib.hid (show (outO p a (i + 1)).length = i + 1 from outO_len _ _ _)
                  have ROW9 := Lib.hid (show w7.ownsRow X.heap.size 58 3 (.slice A8 (outO p a (i + 1)).length c8) (outO p a (i + 1)).length ((outO p a (i + 1)).flatMap Pk.cs) by rw [← HINS.out]; exact ROW8.out)
                  have HLN := Lib.hid (show (outO p a (i + 1)).length = (out.take j ++ [z]).length + (out.drop j).length by rw [← HINS.out, List.length_append])
                  go_roundw
                  case rel => exact ⟨i + 1, outO p a (i + 1), A8, c8, hin, rfl, congrArg (fun k => Value.slice A8 k c8) (by have := HLL9.out; have := HN.out; have := HNI.out; have := HLN.out; have := HXL.out; have := HDL.out; omega), by go_num, fun e => absurd (congrArg List.length e) (by rw [HLL9.out]; simp), own_mono ROW9.out zX, kX.trans (k7.mono zX)⟩
                  case measure => simp [intOf]; omega
          · obtain rfl : i = p.length := by omega
            have hre : runErr cs (kindN K) per ns p = (0, -1) := (if_neg (fun h9 => h9 H1.out)).trans ((if_neg (fun h9 => h9 HPK.out)).trans (if_neg (fun h9 => h9 HFF.out)))
            obtain ⟨-, -, -, -, -, r6⟩ := runErr_ok (show (runErr cs (kindN K) per ns p).1 = 0 by rw [hre])
            have hqo : out = gOut p (gFold cs p 8).1 := by rw [HOUT.out, HA.out]; rfl
            have HQ := Lib.hid (show runQ cs (kindN K) per ns p = out from (if_pos (by rw [hre])).trans hqo.symm)
            have HL := Lib.hid (show runL cs (kindN K) per ns p = linkV (kindN K) out per ns from (if_pos (by rw [hre])).trans (by rw [← hqo]))
            have HRE := Lib.hid hre
            rw [← hqo] at r6
            have HLK := Lib.hid (linkOf_any Ac An Ao 8 cc cn co K per ns out wr wr.heap.size (Nat.le_refl _) (RdP.of_own ROW.out) ((h'.below kw).more (Nat.le_trans hB kw.size)) (by rw [r6]))
            obtain ⟨lv, hlv⟩ : ∃ lv, lv = linkV (kindN K) out per ns := ⟨_, rfl⟩
            rw [← hlv] at HLK HL
            have gW := gY.below hbw gYl
            have m0 := gW.cell 0
            have m1 := gW.cell 1
            have m2 := gW.cell 2
            have m3 := gW.cell 3
            simp only [List.getElem?_toArray, List.getElem?_cons_zero, List.getElem?_cons_succ] at m0 m1 m2 m3
            have hnp : ¬ ((p.length : Int) < (p.length : Int)) := by omega
            clear hre r6 hqo hlv gW hn
            go_wp2_with fail
            refine (HLK.out).mono ?_
            rintro e w1 ⟨A1, c1, rfl, o1, k1⟩
            have k1' : Below Y.heap.size Y w1 := hbw.trans (k1.mono zw)
            have yv := YY.out.below k1' yYl
            have fw := FY.out.below k1' fYl
            have s0 := yv.cell 0
            have s1 := yv.cell 1
            have s2 := yv.frozen 0
            have s3 := yv.frozen 1
            have s4 := fw.cell 0
            have s5 := fw.cell 1
            simp only [List.getElem?_toArray, List.getElem?_cons_zero, List.getElem?_cons_succ] at s0 s1 s4 s5
            have hge : w.heap.size ≤ gb + 1 := by rw [← HGB.out]; exact Nat.le_succ _
            have hk9 : Below w.heap.size w ((w1.setCell ⟨gb + 1, 0, none⟩ (.int .i64 0)).setCell ⟨gb + 1, 1, none⟩ (.int .i64 (-1))) := ((KY.out.trans (k1'.mono KY.out.size)).setCell (p := ⟨gb + 1, 0, none⟩) hge _).setCell (p := ⟨gb + 1, 1, none⟩) hge _
            have hfar : ∀ b, b ≠ gb + 1 → ((w1.setCell ⟨gb + 1, 0, none⟩ (.int .i64 0)).setCell ⟨gb + 1, 1, none⟩ (.int .i64 (-1))).heap[b]? = w1.heap[b]? := fun b hb => (Below.heap_setCell _ ⟨gb + 1, 1, none⟩ _ b hb).trans (Below.heap_setCell _ ⟨gb + 1, 0, none⟩ _ b hb)
            have hq9 : RdP ((w1.setCell ⟨gb + 1, 0, none⟩ (.int .i64 0)).setCell ⟨gb + 1, 1, none⟩ (.int .i64 (-1))) _ Ao out := RdP.of_own (own_sameG (own_below ROW.out k1 (Nat.le_refl _)) fun b hb => hfar b (fun e => by have := own_ge ROW.out b hb; omega))
            have hs9 : RdS ((w1.setCell ⟨gb + 1, 0, none⟩ (.int .i64 0)).setCell ⟨gb + 1, 1, none⟩ (.int .i64 (-1))) _ A1 lv := RdS.of_own (own_sameG o1 fun b hb => hfar b (fun e => by have := own_ge o1 b hb; omega))
            have hb9 := (yv.set_ 0 (.int .i64 0)).set_ 1 (.int .i64 (-1))
            have K9 := Lib.hid hk9
            have Q9 := Lib.hid hq9
            have S9 := Lib.hid hs9
            have B9 := Lib.hid hb9
            clear o1 k1 k1' yv fw hk9 hfar hq9 hs9 hb9 m0 m1 m2 m3 hge HLK
            go_wp2_with fail
            go_region
            all_goals
              go_wp2_with fail
              rw [HRE.out, HQ.out, HL.out]
              exact bodyPost_ret (v := .tuple #[.slice Ao out.length co, .slice A1 lv.length c1, fv 0 (-1)]) (results_two_cell (t := 4) (u := 5) (p := 6) rfl _ _ (gb + 1) 37 #[.int .i64 0, .int .i64 (-1)] (0, 0) _ rfl B9.out Tryz.underlying37 rfl infoFv) rfl ⟨Ao, co, A1, c1, rfl, Q9.out, S9.out, K9.out.drew⟩
      · have hnn := (gFold_nn cs p 8).resolve_left hff
        have hre : runErr cs (kindN K) per ns p = (4, (gFold cs p 8).2) := (if_neg (fun h9 => h9 H1.out)).trans ((if_neg (fun h9 => h9 HPK.out)).trans (if_pos hff))
        have HQ := Lib.hid (show runQ cs (kindN K) per ns p = [] from if_neg (by rw [hre]; simp))
        have HL := Lib.hid (show runL cs (kindN K) per ns p = [] from if_neg (by rw [hre]; simp))
        have HRE := Lib.hid hre
        have d0 := yY.cell 0
        have d1 := yY.cell 1
        have z0 := yY.frozen 0
        have z1 := yY.frozen 1
        simp only [List.getElem?_toArray, List.getElem?_cons_zero, List.getElem?_cons_succ] at d0 d1
        obtain ⟨nv, hnv⟩ : ∃ nv, nv = (gFold cs p 8).2 := ⟨_, rfl⟩
        rw [← hnv] at hnn HRE ⊢
        clear yY gY fY kY hff hre hnv
        go_wp2_with fail
        rw [HRE.out, HQ.out, HL.out]
        exact bodyPost_ret (v := .tuple #[.slice none 0 0, .slice none 0 0, fv 4 nv]) (results_two_cell (t := 4) (u := 5) (p := 6) rfl _ _ (gb + 1) 37 #[.int .i64 4, .int .i64 nv] (0, 0) _ rfl ((YY.out.set_ 0 (.int .i64 4)).set_ 1 (.int .i64 nv)) Tryz.underlying37 rfl infoFv) rfl ⟨none, 0, none, 0, rfl, Rd.nil_, Rd.nil_, (KY.out.setCell (p := ⟨gb + 1, 0, none⟩) (by rw [← HGB.out]; exact Nat.le_succ _) _).setCell (p := ⟨gb + 1, 1, none⟩) (by rw [← HGB.out]; exact Nat.le_succ _) _⟩
theorem runOf_any (hlp : p.length ≤ 9223372036854775807) : Calls Tryz.prog 15 #[.agg #[.slice Ac cs.length cc, .string K, .int .i64 per, .slice An ns.length cn], .slice A p.length c] w (EndRunOf (runQ cs (kindN K) per ns p) (runL cs (kindN K) per ns p) (runErr cs (kindN K) per ns p).1 (runErr cs (kindN K) per ns p).2 w) := by
  by_cases h1 : (gateErr cs (kindN K) per ns).1 = 0
  · by_cases h2 : (pktErr p).1 = 0
    · exact runOf_main Ac An A cc cn c cs K per ns p w B hB h h' hp hl hl' h1 h2
    · exact runOf_pkt Ac An A cc cn c cs K per ns p w B hB h h' hl hl' hp hlp h1 h2
  · exact runOf_gate Ac An A cc cn c cs K per ns p w B hB h h' hl hl' h1
end
end Go.Proofs.YthgpbdlmadjndaaGreatDoor
