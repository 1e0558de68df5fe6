/- floodgateref2.RunOf where the gate or the packets are wrong. Conditions: as for a gate in memory. floodgateref2.LinkOf. Conditions: right packets and a right gate's numbers, in memory. -/
import Derived.Test.YthgpbdlmadjndaaGreatDoorGfl
import Derived.Test.YthgpbdlmadjndaaGreatDoorDocPl
import Derived.Test.YthgpbdlmadjndaaGreatDoorPkRefB
import Derived.Test.YthgpbdlmadjndaaGreatDoorGrM
import Derived.RegionTactic
import Derived.BigRegion
import Derived.Test.YthgpbdlmadjndaaGreatDoorLoM
import Derived.Test.YthgpbdlmadjndaaGreatDoorRndOf
import Derived.Test.YthgpbdlmadjndaaGreatDoorFoM
namespace Go.Proofs.YthgpbdlmadjndaaGreatDoor
open Go.RowKit
set_option maxRecDepth 100000
theorem results_two_cell {P : Program} {fn : Func} {t u p : Tmp} {ty : TypeId} (h : fn.results = #[.tmp t, .tmp u, .cell p ty]) (tmps : Array Value) (w : World) (g : Nat) (T : TypeId) (cs : Array Value) (fr : Nat × Nat) (d : TypeDesc)
    (hp : tmps.getD p undef = .pointer (some ⟨g, 0, none⟩)) (hg : w.heap[g]? = some (.cells cs T fr))
    (hu : P.underlying ty = some d) (hd : (match d with | .struct _ | .array _ _ => true | _ => false) = true) (hi : (P.info? ty).map (·.size) = some cs.size) :
    (results fn tmps).run P w = .ok (.tuple #[tmps.getD t undef, tmps.getD u undef, .agg cs]) w := by
  have hp' : tmps[p]?.getD undef = .pointer (some ⟨g, 0, none⟩) := by simpa using hp
  simp [results, h, hp', asAddr, run_loadVar_row w g T ty cs fr d hg hu hd hi]
/-- What a call of RunOf leaves. -/
def EndRunOf (q : List Pk) (l : List Sn) (k : Nat) (a : Int) (w : World) (e : Ending) (w' : World) : Prop :=
  ∃ A1 c1 A2 c2, e = .returned (.tuple #[.slice A1 q.length c1, .slice A2 l.length c2, fv k a]) ∧ RdP w' w'.heap.size A1 q ∧ RdS w' w'.heap.size A2 l ∧ Below w.heap.size w w'
section
variable (Ac An A : Option Addr) (cc cn c : Nat) (cs : List (List Ln)) (K : ByteArray) (per : Int) (ns : List Int) (p : List Pk) (w : World) (B : Nat) (hB : B ≤ w.heap.size) (h : RdLL w B Ac cs) (h' : RdI w B An ns) (hl : ∀ l ∈ cs, l.length ≤ 9223372036854775807) (hl' : ns.length ≤ 9223372036854775807)
include hB h h' hl hl'
set_option maxHeartbeats 8000000 in
theorem runOf_gate (h1 : ¬ (gateErr cs (kindN K) per ns).1 = 0) : Calls Tryz.prog 15 #[.agg #[.slice Ac cs.length cc, .string K, .int .i64 per, .slice An ns.length cn], .slice A p.length c] w (EndRunOf (runQ cs (kindN K) per ns p) (runL cs (kindN K) per ns p) (runErr cs (kindN K) per ns p).1 (runErr cs (kindN K) per ns p).2 w) := by
  have He := Lib.hid (show runErr cs (kindN K) per ns p = gateErr cs (kindN K) per ns from if_pos h1)
  have Hq := Lib.hid (show runQ cs (kindN K) per ns p = [] from if_neg (by rw [He.out]; exact h1))
  have Hl := Lib.hid (show runL cs (kindN K) per ns p = [] from if_neg (by rw [He.out]; exact h1))
  rw [He.out, Hq.out, Hl.out]
  obtain ⟨W, hW⟩ : ∃ W : World, W = (w.alloc (.cells #[.slice Ac cs.length cc, .string K, .int .i64 per, .slice An ns.length cn] 25)).alloc (.cells #[.int .i64 0, .int .i64 0] 37) := ⟨_, rfl⟩
  have b0 : Below w.heap.size w W := by rw [hW]; exact ((Below.refl _ _).alloc (Nat.le_refl _) _).alloc (by simp) _
  have y0 : Blk W (w.heap.size + 1) 37 #[.int .i64 0, .int .i64 0] := by
    have := Blk.new (w.alloc (.cells #[.slice Ac cs.length cc, .string K, .int .i64 per, .slice An ns.length cn] 25)) 37 #[.int .i64 0, .int .i64 0]
    rw [hW]
    simpa using this
  have HF := Lib.hid (gfault_any Ac An cc cn cs K per ns W B (Nat.le_trans hB b0.size) (h.below (b0.mono hB)) (h'.below (b0.mono hB)) hl hl')
  have HW := Lib.hid hW
  have B0 := Lib.hid b0
  have Y0 := Lib.hid y0
  obtain ⟨k, hk⟩ : ∃ k, k = (gateErr cs (kindN K) per ns).1 := ⟨_, rfl⟩
  obtain ⟨a, ha⟩ : ∃ a, a = (gateErr cs (kindN K) per ns).2 := ⟨_, rfl⟩
  rw [← hk] at h1
  rw [← hk, ← ha] at HF ⊢
  have u1 : ((k : Int) == 0) = false := by rw [beq_eq_false_iff_ne]; omega
  have u2 : (0 : Int) < (k : Int) := by omega
  clear hW b0 y0 h1 hk ha
  go_enter Tryz.func15, Tryz.ntmps15
  go_wp2_with fail
  rw [← HW.out]
  refine (HF.out).mono ?_
  rintro e w1 ⟨rfl, k1⟩
  have y1 := Y0.out.below k1 Y0.out.lt
  obtain ⟨V, hV⟩ : ∃ V : World, V = w1.alloc (.cells #[.int .i64 k, .int .i64 a] 37) := ⟨_, rfl⟩
  have yV : Blk V (w.heap.size + 1) 37 #[.int .i64 0, .int .i64 0] := by rw [hV]; exact y1.below ((Below.refl _ _).alloc (Nat.le_refl _) _) y1.lt
  have fV : Blk V w1.heap.size 37 #[.int .i64 k, .int .i64 a] := by rw [hV]; exact Blk.new _ _ _
  have kV : Below w.heap.size w V := by rw [hV]; exact (B0.out.trans (k1.mono B0.out.size)).alloc (B0.out.trans (k1.mono B0.out.size)).size _
  have x0 := fV.cell 0
  have x1 := fV.cell 1
  have c0 := yV.cell 0
  have c1 := yV.cell 1
  have z0 := yV.frozen 0
  have z1 := yV.frozen 1
  simp only [List.getElem?_toArray, List.getElem?_cons_zero, List.getElem?_cons_succ] at x0 x1 c0 c1
  have HV := Lib.hid hV
  have YV := Lib.hid yV
  have KV := Lib.hid kV
  unfold fv
  clear hV yV kV k1 y1
  go_upto_region 2 with fail
  rw [← HV.out]
  go_wp2_with fail
  go_region
  all_goals
    go_wp2_with fail
    exact bodyPost_ret (v := .tuple #[.slice none 0 0, .slice none 0 0, fv k a]) (results_two_cell (t := 4) (u := 5) (p := 6) rfl _ _ (w.heap.size + 1) 37 #[.int .i64 k, .int .i64 a] (0, 0) _ rfl ((YV.out.set_ 0 (.int .i64 k)).set_ 1 (.int .i64 a)) Tryz.underlying37 rfl infoFv) rfl ⟨none, 0, none, 0, rfl, Rd.nil_, Rd.nil_, ((KV.out.setCell (p := ⟨w.heap.size + 1, 0, none⟩) (Nat.le_succ _) _).setCell (p := ⟨w.heap.size + 1, 1, none⟩) (Nat.le_succ _) _).drew⟩
set_option maxHeartbeats 8000000 in
theorem runOf_pkt (hp : RdP w B A p) (hlp : p.length ≤ 9223372036854775807) (h1 : (gateErr cs (kindN K) per ns).1 = 0) (h2 : ¬ (pktErr p).1 = 0) : Calls Tryz.prog 15 #[.agg #[.slice Ac cs.length cc, .string K, .int .i64 per, .slice An ns.length cn], .slice A p.length c] w (EndRunOf (runQ cs (kindN K) per ns p) (runL cs (kindN K) per ns p) (runErr cs (kindN K) per ns p).1 (runErr cs (kindN K) per ns p).2 w) := by
  have He := Lib.hid (show runErr cs (kindN K) per ns p = pktErr p from (if_neg (fun h9 => h9 h1)).trans (if_pos h2))
  have Hq := Lib.hid (show runQ cs (kindN K) per ns p = [] from if_neg (by rw [He.out]; exact h2))
  have Hl := Lib.hid (show runL cs (kindN K) per ns p = [] from if_neg (by rw [He.out]; exact h2))
  have hg := (gateErr_ok h1).2.2.2
  rw [He.out, Hq.out, Hl.out]
  obtain ⟨W, hW⟩ : ∃ W : World, W = (w.alloc (.cells #[.slice Ac cs.length cc, .string K, .int .i64 per, .slice An ns.length cn] 25)).alloc (.cells #[.int .i64 0, .int .i64 0] 37) := ⟨_, rfl⟩
  have b0 : Below w.heap.size w W := by rw [hW]; exact ((Below.refl _ _).alloc (Nat.le_refl _) _).alloc (by simp) _
  have y0 : Blk W (w.heap.size + 1) 37 #[.int .i64 0, .int .i64 0] := by
    have := Blk.new (w.alloc (.cells #[.slice Ac cs.length cc, .string K, .int .i64 per, .slice An ns.length cn] 25)) 37 #[.int .i64 0, .int .i64 0]
    rw [hW]
    simpa using this
  have hf := gfault_any Ac An cc cn cs K per ns W B (Nat.le_trans hB b0.size) (h.below (b0.mono hB)) (h'.below (b0.mono hB)) hl hl'
  rw [hg] at hf
  have HF := Lib.hid hf
  have HW := Lib.hid hW
  have B0 := Lib.hid b0
  have Y0 := Lib.hid y0
  obtain ⟨k, hk⟩ : ∃ k, k = (pktErr p).1 := ⟨_, rfl⟩
  obtain ⟨a, ha⟩ : ∃ a, a = (pktErr p).2 := ⟨_, rfl⟩
  have HK := Lib.hid hk
  have HA := Lib.hid ha
  rw [← hk] at h2
  rw [← hk, ← ha]
  have u2 : (0 : Int) < (k : Int) := by omega
  clear hW b0 y0 h1 h2 hk ha hg hf
  go_enter Tryz.func15, Tryz.ntmps15
  go_wp2_with fail
  rw [← HW.out]
  refine (HF.out).mono ?_
  rintro e w1 ⟨rfl, k1⟩
  have y1 := Y0.out.below k1 Y0.out.lt
  obtain ⟨X, hX⟩ : ∃ X : World, X = w1.alloc (.cells #[.int .i64 0, .int .i64 (-1)] 37) := ⟨_, rfl⟩
  have yX : Blk X (w.heap.size + 1) 37 #[.int .i64 0, .int .i64 0] := by rw [hX]; exact y1.below ((Below.refl _ _).alloc (Nat.le_refl _) _) y1.lt
  have fX : Blk X w1.heap.size 37 #[.int .i64 0, .int .i64 (-1)] := by rw [hX]; exact Blk.new _ _ _
  have kX : Below w.heap.size w X := by rw [hX]; exact (B0.out.trans (k1.mono B0.out.size)).alloc (B0.out.trans (k1.mono B0.out.size)).size _
  have z1w : w.heap.size + 2 ≤ w1.heap.size := by
    have e1 := k1.size
    have e2 := HW.out
    rw [e2] at e1
    simpa using e1
  have x0 := fX.cell 0
  simp only [List.getElem?_toArray, List.getElem?_cons_zero, List.getElem?_cons_succ] at x0
  have HX := Lib.hid hX
  have YX := Lib.hid yX
  have FX := Lib.hid fX
  have KX := Lib.hid kX
  obtain ⟨fb, hfb⟩ : ∃ fb, fb = w1.heap.size := ⟨_, rfl⟩
  have HFB := Lib.hid hfb
  unfold fv
  clear hX yX fX kX k1 y1
  go_upto_region 2 with fail
  rw [← HX.out]
  rw [← hfb] at x0 z1w FX ⊢
  clear hfb
  go_wp2_with fail
  refine (packetsFault_any A c p X B (Nat.le_trans hB KX.out.size) (hp.below (KX.out.mono hB)) hlp).mono ?_
  rintro e w2 ⟨rfl, k2⟩
  rw [← HK.out, ← HA.out]
  have y2 := YX.out.below k2 YX.out.lt
  have f2 := FX.out.below k2 FX.out.lt
  obtain ⟨V, hV⟩ : ∃ V : World, V = (w2.setCell ⟨fb, 0, none⟩ (.int .i64 k)).setCell ⟨fb, 1, none⟩ (.int .i64 a) := ⟨_, rfl⟩
  have fV : Blk V fb 37 #[.int .i64 k, .int .i64 a] := by rw [hV]; exact (f2.set_ 0 (.int .i64 k)).set_ 1 (.int .i64 a)
  have yV : Blk V (w.heap.size + 1) 37 #[.int .i64 0, .int .i64 0] := by rw [hV]; exact y2.same (((Below.heap_setCell _ ⟨fb, 1, none⟩ _ _ (by show w.heap.size + 1 ≠ fb; omega)).trans (Below.heap_setCell _ ⟨fb, 0, none⟩ _ _ (by show w.heap.size + 1 ≠ fb; omega))))
  have kV : Below w.heap.size w V := by rw [hV]; exact ((KX.out.trans (k2.mono KX.out.size)).setCell (p := ⟨fb, 0, none⟩) (by show w.heap.size ≤ fb; omega) _).setCell (p := ⟨fb, 1, none⟩) (by show w.heap.size ≤ fb; omega) _
  have q0 := f2.cell 0
  have q1 := f2.cell 1
  have r0 := f2.frozen 0
  have r1 := f2.frozen 1
  have x0 := fV.cell 0
  have x1 := fV.cell 1
  have c0 := yV.cell 0
  have c1 := yV.cell 1
  have z0 := yV.frozen 0
  have z1 := yV.frozen 1
  simp only [List.getElem?_toArray, List.getElem?_cons_zero, List.getElem?_cons_succ] at q0 q1 x0 x1 c0 c1
  have HV := Lib.hid hV
  have YV := Lib.hid yV
  have KV := Lib.hid kV
  unfold fv
  clear hV yV kV k2 y2 f2
  go_upto_region 4 with fail
  rw [← HV.out]
  go_wp2_with fail
  go_region
  all_goals
    go_wp2_with fail
    exact bodyPost_ret (v := .tuple #[.slice none 0 0, .slice none 0 0, fv k a]) (results_two_cell (t := 4) (u := 5) (p := 6) rfl _ _ (w.heap.size + 1) 37 #[.int .i64 k, .int .i64 a] (0, 0) _ rfl ((YV.out.set_ 0 (.int .i64 k)).set_ 1 (.int .i64 a)) Tryz.underlying37 rfl infoFv) rfl ⟨none, 0, none, 0, rfl, Rd.nil_, Rd.nil_, ((KV.out.setCell (p := ⟨w.heap.size + 1, 0, none⟩) (Nat.le_succ _) _).setCell (p := ⟨w.heap.size + 1, 1, none⟩) (Nat.le_succ _) _).drew⟩
end
end Go.Proofs.YthgpbdlmadjndaaGreatDoor
namespace Go.Proofs.YthgpbdlmadjndaaGreatDoor
open Go.RowKit
set_option maxRecDepth 100000
set_option maxHeartbeats 8000000 in
theorem linkOf_any (Ac An A : Option Addr) (m cc cn c : Nat) (K : ByteArray) (per : Int) (ns : List Int) (p : List Pk) (w : World) (B : Nat) (hB : B ≤ w.heap.size) (h : RdP w B A p) (h' : RdI w B An ns) (he : (linkErr (kindN K) p per ns).1 = 0) :
    Calls Tryz.prog 44 #[.agg #[.slice Ac m cc, .string K, .int .i64 per, .slice An ns.length cn], .slice A p.length c] w (EndOwn Sn.cs 3 62 (linkV (kindN K) p per ns) w) := by
  have k0 : Below w.heap.size w (w.alloc (.cells #[.slice Ac m cc, .string K, .int .i64 per, .slice An ns.length cn] 25)) := (Below.refl _ _).alloc (Nat.le_refl _) _
  have hB0 : B ≤ (w.alloc (.cells #[.slice Ac m cc, .string K, .int .i64 per, .slice An ns.length cn] 25)).heap.size := Nat.le_trans hB k0.size
  have hr := h.below (k0.mono hB)
  have hr' := h'.below (k0.mono hB)
  have K0 := Lib.hid k0
  have HR := Lib.hid hr
  have HR' := Lib.hid hr'
  have x0 : Blk (w.alloc (.cells #[.slice Ac m cc, .string K, .int .i64 per, .slice An ns.length cn] 25)) w.heap.size 25 #[.slice Ac m cc, .string K, .int .i64 per, .slice An ns.length cn] := Blk.new _ _ _
  have e1 := x0.cell 1
  have e2 := x0.cell 2
  have e3 := x0.cell 3
  simp only [List.getElem?_toArray, List.getElem?_cons_zero, List.getElem?_cons_succ] at e1 e2 e3
  clear x0 k0 hr hr' h h'
  rcases kind_cases K with ⟨s0, s1, s2, s3, s4, hn⟩ | ⟨s0, s1, s2, s3, s4, hn⟩ | ⟨s0, s1, s2, s3, s4, hn⟩ | ⟨s0, s1, s2, s3, s4, hn⟩ | ⟨s0, s1, s2, s3, s4, hn⟩ | ⟨s0, s1, s2, s3, s4, hn⟩
  · rw [hn] at he ⊢
    clear hn
    have hlk : (lookErr p per).1 = 0 := by
      by_cases h9 : (lookErr p per).1 = 0
      · exact h9
      · unfold linkErr at he; rw [if_pos h9] at he; exact absurd he h9
    have HV := Lib.hid (show linkV 0 p per ns = fifoL p per from if_pos he)
    obtain ⟨_, l3, l4, l5, l6⟩ := lookErr_ok hlk
    have hs := lookErr_sorted hlk
    have HL := Lib.hid (fifoOf_any A c p per _ B hB0 HR.out l4 hs l3 l5 l6)
    clear hs l4 hlk he
    go_enter Tryz.func44, Tryz.ntmps44
    go_wp2_with fail
    refine (HL.out).mono ?_
    rintro e w1 ⟨A1, c1, rfl, o1, k1⟩
    have k2 := K0.out.trans (k1.mono K0.out.size)
    have z0 := K0.out.size
    clear e1 e2 e3
    go_wp2_with fail
    go_ret
    rw [HV.out]
    exact ⟨A1, c1, rfl, own_mono o1 z0, k2⟩
  · rw [hn] at he ⊢
    clear hn
    obtain ⟨hlk, hnum, h8, hb, -⟩ := rankErr_ok (show (rankErr p per ns 100).1 = 0 from he)
    have HV := Lib.hid (show linkV 1 p per ns = leastL p per (rankKey p ns) from if_pos he)
    obtain ⟨_, l3, l4, l5, l6⟩ := lookErr_ok hlk
    have hs := lookErr_sorted hlk
    have HL := Lib.hid (rankOf_any A An c cn p per ns _ B hB0 HR.out HR'.out l4 hs l3 l5 l6 h8)
    clear hs l4 hlk he hnum h8 hb
    go_enter Tryz.func44, Tryz.ntmps44
    go_wp2_with fail
    refine (HL.out).mono ?_
    rintro e w1 ⟨A1, c1, rfl, o1, k1⟩
    have k2 := K0.out.trans (k1.mono K0.out.size)
    have z0 := K0.out.size
    clear e1 e2 e3
    go_wp2_with fail
    go_ret
    rw [HV.out]
    exact ⟨A1, c1, rfl, own_mono o1 z0, k2⟩
  · rw [hn] at he ⊢
    clear hn
    obtain ⟨hlk, hnum, h8, hb, -⟩ := rankErr_ok (show (rankErr p per ns 1099511627776).1 = 0 from he)
    have HV := Lib.hid (show linkV 2 p per ns = leastL p per (dueKey p ns) from if_pos he)
    obtain ⟨_, l3, l4, l5, l6⟩ := lookErr_ok hlk
    have hs := lookErr_sorted hlk
    have HL := Lib.hid (duesOf_any A An c cn p per ns _ B hB0 HR.out HR'.out l4 hs l3 l5 l6 h8 hb)
    clear hs l4 hlk he hnum h8 hb
    go_enter Tryz.func44, Tryz.ntmps44
    go_wp2_with fail
    refine (HL.out).mono ?_
    rintro e w1 ⟨A1, c1, rfl, o1, k1⟩
    have k2 := K0.out.trans (k1.mono K0.out.size)
    have z0 := K0.out.size
    clear e1 e2 e3
    go_wp2_with fail
    go_ret
    rw [HV.out]
    exact ⟨A1, c1, rfl, own_mono o1 z0, k2⟩
  · rw [hn] at he ⊢
    clear hn
    obtain ⟨hlk, hnum, h8, hb, -⟩ := roundErr_ok (show (roundErr p per ns).1 = 0 from he)
    have HV := Lib.hid (show linkV 3 p per ns = roundL p per ns from if_pos he)
    obtain ⟨_, l3, l4, l5, l6⟩ := lookErr_ok hlk
    have hs := lookErr_sorted hlk
    have HL := Lib.hid (roundOf_any A An c cn p per ns _ B hB0 HR.out HR'.out l4 hs l3 l5 l6 h8 hb)
    clear hs l4 hlk he hnum h8 hb
    go_enter Tryz.func44, Tryz.ntmps44
    go_wp2_with fail
    refine (HL.out).mono ?_
    rintro e w1 ⟨A1, c1, rfl, o1, k1⟩
    have k2 := K0.out.trans (k1.mono K0.out.size)
    have z0 := K0.out.size
    clear e1 e2 e3
    go_wp2_with fail
    go_ret
    rw [HV.out]
    exact ⟨A1, c1, rfl, own_mono o1 z0, k2⟩
  · rw [hn] at he ⊢
    clear hn
    obtain ⟨hlk, hnum, h8, hb, -⟩ := fairErr_ok (show (fairErr p per ns).1 = 0 from he)
    have HV := Lib.hid (show linkV 4 p per ns = fairL p per ns from if_pos he)
    obtain ⟨_, l3, l4, l5, l6⟩ := lookErr_ok hlk
    have hs := lookErr_sorted hlk
    have HL := Lib.hid (fairOf_any A An c cn p per ns _ B hB0 HR.out HR'.out l4 hs l3 l5 l6 h8 (weIdx_none hb))
    clear hs l4 hlk he hnum h8 hb
    go_enter Tryz.func44, Tryz.ntmps44
    go_wp2_with fail
    refine (HL.out).mono ?_
    rintro e w1 ⟨A1, c1, A2, c2, rfl, o1, -, k1⟩
    have k2 := K0.out.trans (k1.mono K0.out.size)
    have z0 := K0.out.size
    clear e1 e2 e3
    go_wp2_with fail
    go_ret
    rw [HV.out]
    exact ⟨A1, c1, rfl, own_mono o1 z0, k2⟩
  · rw [hn] at he
    exact absurd he (by simp [linkErr])
end Go.Proofs.YthgpbdlmadjndaaGreatDoor
