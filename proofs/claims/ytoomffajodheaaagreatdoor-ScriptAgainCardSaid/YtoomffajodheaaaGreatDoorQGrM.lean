/- gate.Run. Conditions: as for a gate in memory. gate.Run at a right gate and right packets. Conditions: as for a gate in memory. -/
import Derived.Test.YtoomffajodheaaaGreatDoorQGtM
import Derived.Test.YtoomffajodheaaaGreatDoorQGsh
import Derived.Test.YtoomffajodheaaaGreatDoorQFrC
set_option linter.all false
namespace Go.Proofs.YtoomffajodheaaaGreatDoor
open Go.RowKit
set_option maxRecDepth 100000
def runErr (cs : List (List Ln)) (n : Nat) (per : Int) (ns : List Int) (p : List Pk) : Nat × Int :=
  if (gateErr cs n per ns).1 ≠ 0 then gateErr cs n per ns else if (pktErr p).1 ≠ 0 then pktErr p else if (gFold cs p 8).2 ≠ -1 then (4, (gFold cs p 8).2) else (0, -1)
def runQ (cs : List (List Ln)) (n : Nat) (per : Int) (ns : List Int) (p : List Pk) : List Pk := if (runErr cs n per ns p).1 = 0 then gOut p (gFold cs p 8).1 else []
def runL (cs : List (List Ln)) (n : Nat) (per : Int) (ns : List Int) (p : List Pk) : List Sn := if (runErr cs n per ns p).1 = 0 then linkV n (gOut p (gFold cs p 8).1) per ns else []
/-- A gate that is right, and packets that are: what comes of them. -/
theorem runErr_ok {cs : List (List Ln)} {n : Nat} {per : Int} {ns : List Int} {p : List Pk} (h : (runErr cs n per ns p).1 = 0) : (gateErr cs n per ns).1 = 0 ∧ (pktErr p).1 = 0 ∧ (gFold cs p 8).2 = -1 ∧ runErr cs n per ns p = (0, -1) ∧ (pktErr (gOut p (gFold cs p 8).1)).1 = 0 ∧ linkErr n (gOut p (gFold cs p 8).1) per ns = (0, -1) := by
  unfold runErr at h ⊢
  by_cases h1 : (gateErr cs n per ns).1 ≠ 0
  · rw [if_pos h1] at h; exact absurd h h1
  · rw [if_neg h1] at h ⊢
    by_cases h2 : (pktErr p).1 ≠ 0
    · rw [if_pos h2] at h; exact absurd h h2
    · rw [if_neg h2] at h ⊢
      by_cases h3 : (gFold cs p 8).2 ≠ -1
      · rw [if_pos h3] at h; simp at h
      · rw [if_neg h3]
        obtain ⟨g1, g2, g3, g4⟩ := gateErr_ok (show (gateErr cs n per ns).1 = 0 by omega)
        have ho := gOut_ok (show (pktErr p).1 = 0 by omega) g2 (show (gFold cs p 8).2 = -1 by omega)
        refine ⟨by omega, by omega, by omega, rfl, ho, ?_⟩
        rw [link_same ho]
        exact Prod.ext g3 link_snd
/-- The end of a run of a gate: packets as they came to the link, what was sent, an error. -/
def EndGate (q : List Pk) (l : List Sn) (S : Nat → Addr) (k : Nat) (a : Int) (w : World) (e : Ending) (w' : World) : Prop :=
  ∃ A c A' c' v, e = .returned (.tuple #[.slice A q.length c, .slice A' l.length c', v]) ∧ w'.ownsRow w.heap.size 53 3 (.slice A q.length c) q.length (q.flatMap Pk.cs) ∧ w'.ownsRow w.heap.size 64 3 (.slice A' l.length c') l.length (l.flatMap Sn.cs) ∧ Er w' w'.heap.size S v k a ∧ Below w.heap.size w w'
/-- The first fault of flows so far. -/
def FirstEr (m : Int) (S : Nat → Addr) (v : Value) (w : World) : Prop := Er w w.heap.size S v (if m = -1 then 0 else 4) m
theorem FirstEr.nil_ (S : Nat → Addr) (w : World) : FirstEr (-1) S .nilIface w := .nil
theorem FirstEr.to {m : Int} {S : Nat → Addr} {v : Value} {w w' : World} (h : FirstEr m S v w) (hb : Below w.heap.size w w') : FirstEr m S v w' := (Er.below h hb).more hb.size
section
variable (Ac An A : Option Addr) (cc cn c : Nat) (cs : List (List Ln)) (K : ByteArray) (per : Int) (ns : List Int) (p : List Pk) (S : Nat → Addr) (w : World) (B : Nat) (hB : B ≤ w.heap.size) (h : RdLL w B Ac cs) (h' : RdI w B An ns) (hp : RdP w B A p) (hS : GS w B S) (hl : ∀ l ∈ cs, l.length ≤ 9223372036854775807) (hl' : ns.length ≤ 9223372036854775807) (hlp : p.length ≤ 9223372036854775807)
include hB h h' hp hS hl hl' hlp
omit hlp hp in
set_option maxHeartbeats 1000000 in
theorem grun_gate (h1 : (gateErr cs (kindN K) per ns).1 ≠ 0) : Calls Tryz.prog 99 #[.agg #[.slice Ac cs.length cc, .string K, .int .i64 per, .slice An ns.length cn], .slice A p.length c] w (EndGate (runQ cs (kindN K) per ns p) (runL cs (kindN K) per ns p) S (runErr cs (kindN K) per ns p).1 (runErr cs (kindN K) per ns p).2 w) := by
  have He := Lib.hid (show runErr cs (kindN K) per ns p = gateErr cs (kindN K) per ns from if_pos h1)
  have Hq := Lib.hid (show runQ cs (kindN K) per ns p = [] by unfold runQ; rw [He.out, if_neg h1])
  have Hl := Lib.hid (show runL cs (kindN K) per ns p = [] by unfold runL; rw [He.out, if_neg h1])
  have H1 := Lib.hid h1
  have b0 : Below w.heap.size w (w.alloc (.cells #[.slice Ac cs.length cc, .string K, .int .i64 per, .slice An ns.length cn] 66)) := (Below.refl _ _).alloc (Nat.le_refl _) _
  clear h1
  go_enter Tryz.func99, Tryz.ntmps99
  go_wp2_with fail
  refine (gcheck_any Ac An cc cn cs K per ns S _ B (Nat.le_trans hB b0.size) (h.below (b0.mono hB)) (h'.below (b0.mono hB)) (hS.below (b0.mono hB)) hl hl').mono ?_
  rintro e w1 ⟨v, rfl, hv, k1⟩
  have HV := Lib.hid hv
  obtain ⟨T, ad, rfl⟩ := hv.some_of H1.out
  have K1 := Lib.hid (b0.trans (k1.mono b0.size))
  clear hv k1 b0
  go_wp2_with fail
  go_ret3
  rw [Hq.out, Hl.out, He.out]
  exact ⟨none, 0, none, 0, _, rfl, ⟨by simp, .inl ⟨rfl, rfl⟩⟩, ⟨by simp, .inl ⟨rfl, rfl⟩⟩, HV.out, K1.out⟩
set_option maxHeartbeats 1000000 in
theorem grun_pkt (h1 : (gateErr cs (kindN K) per ns).1 = 0) (h2 : (pktErr p).1 ≠ 0) : Calls Tryz.prog 99 #[.agg #[.slice Ac cs.length cc, .string K, .int .i64 per, .slice An ns.length cn], .slice A p.length c] w (EndGate (runQ cs (kindN K) per ns p) (runL cs (kindN K) per ns p) S (runErr cs (kindN K) per ns p).1 (runErr cs (kindN K) per ns p).2 w) := by
  have He := Lib.hid (show runErr cs (kindN K) per ns p = pktErr p by unfold runErr; rw [if_neg (by omega), if_pos h2])
  have Hq := Lib.hid (show runQ cs (kindN K) per ns p = [] by unfold runQ; rw [He.out, if_neg h2])
  have Hl := Lib.hid (show runL cs (kindN K) per ns p = [] by unfold runL; rw [He.out, if_neg h2])
  have H1 := Lib.hid h1
  have H2 := Lib.hid h2
  have b0 : Below w.heap.size w (w.alloc (.cells #[.slice Ac cs.length cc, .string K, .int .i64 per, .slice An ns.length cn] 66)) := (Below.refl _ _).alloc (Nat.le_refl _) _
  clear h1 h2
  go_enter Tryz.func99, Tryz.ntmps99
  go_wp2_with fail
  refine (gcheck_any Ac An cc cn cs K per ns S _ B (Nat.le_trans hB b0.size) (h.below (b0.mono hB)) (h'.below (b0.mono hB)) (hS.below (b0.mono hB)) hl hl').mono ?_
  rintro e w1 ⟨v, rfl, hv, k1⟩
  obtain rfl := hv.nil_of H1.out
  have k1' := b0.trans (k1.mono b0.size)
  clear hv k1 b0
  go_wp2_with fail
  refine (pcheck_any A c p S w1 B (Nat.le_trans hB k1'.size) (hp.below (k1'.mono hB)) ((hS.s.below (k1'.mono hB)).sub (by simp)) hlp).mono ?_
  rintro e w2 ⟨v, rfl, hv, k2⟩
  have HV := Lib.hid hv
  obtain ⟨T, ad, rfl⟩ := hv.some_of H2.out
  have K2 := Lib.hid (k1'.trans (k2.mono k1'.size))
  clear hv k2 k1'
  go_wp2_with fail
  go_ret3
  rw [Hq.out, Hl.out, He.out]
  exact ⟨none, 0, none, 0, _, rfl, ⟨by simp, .inl ⟨rfl, rfl⟩⟩, ⟨by simp, .inl ⟨rfl, rfl⟩⟩, HV.out, K2.out⟩
end
end Go.Proofs.YtoomffajodheaaaGreatDoor
namespace Go.Proofs.YtoomffajodheaaaGreatDoor
open Go.RowKit
set_option maxRecDepth 100000
theorem Er.but {w w' : World} {S : Nat → Addr} {v : Value} {k : Nat} {a : Int} {g n : Nat} {d : Nat → Value} (h : Er w w.heap.size S v k a) (hg : Arw w g 3 n d) (hb : But g w w') : Er w' w'.heap.size S v k a := by
  cases h with
  | nil => exact .nil
  | bare k h1 h9 => exact .bare _ h1 h9
  | fault k h1 h9 b a hlt hk =>
    have hne : b ≠ g := fun e => by
      subst e
      obtain ⟨tc, h2, _⟩ := hg
      have h3 : w.heap[b]? = some (.cells tc 3 (0, 0)) := h2
      rw [hk] at h3
      injection h3 with h3
      injection h3 with _ h4
      exact absurd h4 (by decide)
    exact .fault _ h1 h9 b a (Nat.lt_of_lt_of_le hlt hb.size) ((hb.blk b hlt hne).trans hk)
theorem FirstEr.but {m : Int} {S : Nat → Addr} {v : Value} {w w' : World} {g n : Nat} {d : Nat → Value} (h : FirstEr m S v w) (hg : Arw w g 3 n d) (hb : But g w w') : FirstEr m S v w' := Er.but h hg hb
theorem flowBad_nn {l : List Ln} {p : List Pk} {f : Nat} (h : flowBad l p f ≠ -1) : 0 ≤ flowBad l p f := by
  unfold flowBad at h ⊢
  by_cases h1 : (shpR l p f).2 = -1
  · rw [if_pos h1] at h; exact absurd rfl h
  · rw [if_neg h1]; omega
theorem gFold_nn (cs : List (List Ln)) (p : List Pk) (f : Nat) : (gFold cs p f).2 = -1 ∨ 0 ≤ (gFold cs p f).2 := by
  induction f with
  | zero => exact .inl rfl
  | succ f ih =>
    unfold gFold gStep
    by_cases hb : flowBad (cs.getD f []) p f = -1
    · rw [if_pos hb]; exact ih
    · rw [if_neg hb]
      have := flowBad_nn hb
      right
      show 0 ≤ firstU _ _
      unfold firstU
      split
      · exact this
      · rename_i h9; omega
theorem gFold_ok1 {cs : List (List Ln)} {p : List Pk} {f : Nat} (h : flowBad (cs.getD f []) p f = -1) : gFold cs p (f + 1) = (atS (gFold cs p f).1 (numsK p f p.length) (shpR (cs.getD f []) p f).1, (gFold cs p f).2) := by
  show gStep cs p f _ = _
  unfold gStep
  rw [if_pos h]
theorem gFold_bad1 {cs : List (List Ln)} {p : List Pk} {f : Nat} (h : flowBad (cs.getD f []) p f ≠ -1) : gFold cs p (f + 1) = ((gFold cs p f).1, firstU (gFold cs p f).2 (flowBad (cs.getD f []) p f)) := by
  show gStep cs p f _ = _
  unfold gStep
  rw [if_neg h]
section
variable (Ac An A : Option Addr) (cc cn c : Nat) (cs : List (List Ln)) (K : ByteArray) (per : Int) (ns : List Int) (p : List Pk) (S : Nat → Addr) (w : World) (B : Nat) (hB : B ≤ w.heap.size) (h : RdLL w B Ac cs) (h' : RdI w B An ns) (hp : RdP w B A p) (hS : GS w B S) (hl : ∀ l ∈ cs, l.length ≤ 9223372036854775807) (hl' : ns.length ≤ 9223372036854775807)
include hB h h' hp hS hl hl'
set_option maxHeartbeats 8000000 in
theorem grun_main (h1 : (gateErr cs (kindN K) per ns).1 = 0) (h2 : (pktErr p).1 = 0) : Calls Tryz.prog 99 #[.agg #[.slice Ac cs.length cc, .string K, .int .i64 per, .slice An ns.length cn], .slice A p.length c] w (EndGate (runQ cs (kindN K) per ns p) (runL cs (kindN K) per ns p) S (runErr cs (kindN K) per ns p).1 (runErr cs (kindN K) per ns p).2 w) := by
  have h300 := pktErr_len h2
  have hlp : p.length ≤ 9223372036854775807 := by omega
  obtain ⟨h8, hcs, hlk, -⟩ := gateErr_ok h1
  have H1 := Lib.hid h1
  have H2 := Lib.hid (pktErr_nil h2)
  have H8 := Lib.hid h8
  have HCS := Lib.hid hcs
  obtain ⟨i1, hi1, hy0, hy1, hy2⟩ := info_parts infoInt
  obtain ⟨W, hW⟩ : ∃ W : World, W = w.alloc (.cells #[.slice Ac 8 cc, .string K, .int .i64 per, .slice An ns.length cn] 66) := ⟨_, rfl⟩
  have bW : Below w.heap.size w W := by rw [hW]; exact (Below.refl _ _).alloc (Nat.le_refl _) _
  obtain ⟨gb, hgb⟩ : ∃ gb, gb = w.heap.size := ⟨_, rfl⟩
  have xW : Blk W gb 66 #[.slice Ac 8 cc, .string K, .int .i64 per, .slice An ns.length cn] := by rw [hW, hgb]; exact Blk.new _ _ _
  have HW := Lib.hid hW
  have BW := Lib.hid bW
  have XW := Lib.hid xW
  have HGB := Lib.hid hgb
  have HP := Lib.hid h2
  have zW : w.heap.size ≤ W.heap.size := bW.size
  rw [h8]
  have hcheck := gcheck_any Ac An cc cn cs K per ns S W B (Nat.le_trans hB bW.size) (h.below (bW.mono hB)) (h'.below (bW.mono hB)) (hS.below (bW.mono hB)) hl hl'
  rw [h8] at hcheck
  have HCK := Lib.hid hcheck
  clear h1 h2 h8 hcs hlk hW bW xW hcheck hgb
  go_enter Tryz.func99, Tryz.ntmps99
  go_wp2_with fail
  rw [← HGB.out, ← HW.out]
  refine (HCK.out).mono ?_
  rintro e w1 ⟨v, rfl, hv, k1⟩
  obtain rfl := hv.nil_of H1.out
  have k1' := BW.out.trans (k1.mono zW)
  have x1 := XW.out.below k1 XW.out.lt
  clear hv
  go_wp2_with fail
  refine (pcheck_any A c p S w1 B (Nat.le_trans hB k1'.size) (hp.below (k1'.mono hB)) ((hS.s.below (k1'.mono hB)).sub (by simp)) hlp).mono ?_
  rintro e w2 ⟨v, rfl, hv, k2⟩
  obtain rfl := hv.nil_of (by rw [H2.out])
  have k2' := k1'.trans (k2.mono k1'.size)
  have x2 := x1.below k2 x1.lt
  have X2 := Lib.hid x2
  have zg2 := x2.lt
  have K2 := Lib.hid k2'
  have z2 := k2'.size
  clear hv k1 k2 x1 x2 k1' k2'
  go_wp2_with (at_make; refine wpList_make_full _ rfl (.tmp 32) (.tmp 32) 27 rfl w2.heap.size 3 i1 (.int .i64 0) 1 Tryz.underlying27 hi1 hy0 hy1 .i64 .i64 p.length p.length p.length rfl rfl rfl rfl (by rw [hy2]; omega) (by simp only [maxLen]; omega) (Nat.le_refl _) ?_; intro w3 row3 g3; rw [intRow_new] at row3)
  have ia3 : IA w3 w2.heap.size p.length (gFold cs p 0).1 := Arw.of_own row3 fun k _ => rfl
  have k3 : Below w2.heap.size w2 w3 := (Below.refl _ _).grown g3 (Nat.le_refl _) (by simp)
  have zg3 := ia3.lt
  obtain ⟨g, hg⟩ : ∃ g, g = w2.heap.size := ⟨_, rfl⟩
  obtain ⟨bA, hbA⟩ : ∃ bA, bA = w3.heap.size := ⟨_, rfl⟩
  rw [← hg] at ia3 zg3 ⊢
  rw [← hbA] at zg3
  obtain ⟨X, hX⟩ : ∃ X : World, X = w3.alloc (.cells #[.slice (some ⟨g, 0, none⟩) p.length p.length] 27) := ⟨_, rfl⟩
  have bX : Below w3.heap.size w3 X := by rw [hX]; exact (Below.refl _ _).alloc (Nat.le_refl _) _
  have yX : Blk X bA 27 #[.slice (some ⟨g, 0, none⟩) p.length p.length] := by rw [hX, hbA]; exact Blk.new _ _ _
  rw [← hX, ← hbA]
  have iaX : IA X g p.length (gFold cs p 0).1 := ia3.same (bX.block g (by rw [← hbA]; exact zg3))
  have xX : Blk X gb 66 #[.slice Ac 8 cc, .string K, .int .i64 per, .slice An ns.length cn] := ((X2.out.below k3 zg2)).below bX (Nat.lt_of_lt_of_le zg2 k3.size)
  have kX : Below w.heap.size w X := K2.out.trans ((k3.mono z2).trans (bX.mono (Nat.le_trans z2 k3.size)))
  have hBg : B ≤ g := by rw [hg]; exact Nat.le_trans hB z2
  have hgb : gb ≠ g := by rw [hg]; omega
  have hAg : bA ≠ g := by omega
  have hAb : bA ≠ gb := by have := k3.size; omega
  have IX := Lib.hid iaX
  have XX := Lib.hid xX
  have YX := Lib.hid yX
  have KX := Lib.hid kX
  have hwg : w.heap.size ≤ g := by rw [hg]; exact z2
  clear row3 g3 ia3 k3 hX bX yX iaX xX kX X2 K2 z2 hg zg2 hbA
  go_loopw [10, 34] (fun fv iv wr => ∃ f : Nat, f ≤ 8 ∧ iv = .int .i64 f ∧ FirstEr (gFold cs p f).2 S fv wr ∧ IA wr g p.length (gFold cs p f).1 ∧ But g X wr) (fun _ iv _ => 8 - (intOf iv).toNat)
  case atStart => exact ⟨0, Nat.zero_le _, rfl, FirstEr.nil_ _ _, IX.out, But.refl _ _⟩
  case round =>
    obtain ⟨f, hf, rfl, hfe, hia, hbut⟩ := hrel
    have hxr := XX.out.but hbut hgb
    have hyr := YX.out.but hbut hAg
    have e0 := hyr.cell 0
    have c0 := hxr.cell 0
    have c1 := hxr.cell 1
    have c2 := hxr.cell 2
    have c3 := hxr.cell 3
    simp at e0 c0 c1 c2 c3
    have kr : Below B w wr := (KX.out.mono hB).trans (hbut.below hBg (Nat.le_trans hB KX.out.size))
    have FE := Lib.hid hfe
    have IA1 := Lib.hid hia
    have BT := Lib.hid hbut
    have KR := Lib.hid kr
    have hBr : B ≤ wr.heap.size := Nat.le_trans hB kr.size
    clear hfe hia hbut kr hxr hyr
    by_cases hf8 : f < 8
    · have u1 : (0 : Int) ≤ (f : Int) := by omega
      have u2 : (f : Int) < 8 := by omega
      have HIF := Lib.hid hf8
      go_wp2_with fail
      refine (gshape_any Ac An A cc ns.length cn c cs K per p f g (gFold cs p f).1 S wr B hBr hBg (h.below KR.out) (hp.below KR.out) (hS.below KR.out) H8.out hf8 HP.out HCS.out hl IA1.out).mono ?_
      rintro e wv ⟨v, rfl, hev, hia2, hb2⟩
      have fe2 := FE.out.but IA1.out hb2
      have bt2 := BT.out.trans hb2
      by_cases hfb : flowBad (cs.getD f []) p f = -1
      · rw [if_pos hfb, hfb] at hev
        rw [if_pos hfb] at hia2
        have HN := Lib.hid (gFold_ok1 hfb)
        obtain rfl := hev.nil_of rfl
        have HI2 := Lib.hid hia2
        clear hev hia2 hfb e0 c0 c1 c2 c3
        go_wp2_with fail
        go_roundw
        case rel => exact ⟨f + 1, hf8, by go_num, by rw [HN.out]; exact fe2, by rw [HN.out]; exact HI2.out, bt2⟩
        case measure => simp [intOf]; omega
      · rw [if_neg hfb] at hev
        rw [if_neg hfb] at hia2
        have HN := Lib.hid (gFold_bad1 hfb)
        have HNN := Lib.hid (flowBad_nn hfb)
        have HEV := Lib.hid hev
        obtain ⟨T, ad, rfl⟩ := hev.some_of (by simp)
        have HI2 := Lib.hid hia2
        obtain ⟨bd, hbd⟩ : ∃ bd, bd = flowBad (cs.getD f []) p f := ⟨_, rfl⟩
        obtain ⟨fi, hfi⟩ : ∃ fi, fi = (gFold cs p f).2 := ⟨_, rfl⟩
        have hnn := gFold_nn cs p f
        rw [← hbd] at HNN HEV HN
        rw [← hfi] at fe2 hnn HN
        have bd0 : 0 ≤ bd := HNN.out
        clear hev hia2 hfb e0 c0 c1 c2 c3 hbd hfi
        by_cases hf1 : fi = -1
        · subst hf1
          obtain rfl : u10 = .nilIface := Er.nil_of fe2 rfl
          have HFI := Lib.hid (show (gFold cs p (f + 1)).2 = bd by rw [HN.out]; show firstU (-1) bd = bd; exact if_pos (Or.inl rfl))
          have hfe3 : FirstEr bd S (.iface T (.pointer (some ad))) wv := by
            unfold FirstEr
            rw [if_neg (by omega)]
            exact HEV.out
          clear fe2 hnn
          go_wp2_with fail
          go_roundw
          case rel => exact ⟨f + 1, hf8, by go_num, by rw [HFI.out]; exact hfe3, by rw [HN.out]; exact HI2.out, bt2⟩
          case measure => simp [intOf]; omega
        · have hf0 : 0 ≤ fi := by omega
          have he2 : Er wv wv.heap.size S u10 4 fi := by have := fe2; unfold FirstEr at this; rw [if_neg hf1] at this; exact this
          have HE2 := Lib.hid he2
          have FE2 := Lib.hid fe2
          obtain ⟨T2, ad2, rfl⟩ := he2.some_of (by simp)
          have KV := Lib.hid ((KX.out.mono hB).trans (bt2.below hBg (Nat.le_trans hB KX.out.size)))
          have hBv : B ≤ wv.heap.size := Nat.le_trans hBr hb2.size
          have BT2 := Lib.hid bt2
          clear fe2 hnn he2 hf1 hb2 bt2
          go_wp2_with fail
          refine (place_any _ 4 bd S wv B hBv (hS.below KV.out) HEV.out bd0).mono ?_
          rintro e w6 ⟨rfl, k6⟩
          have hB6 : B ≤ w6.heap.size := Nat.le_trans hBv k6.size
          go_wp2_with fail
          refine (place_any _ 4 fi S w6 B hB6 (hS.below (KV.out.trans (k6.mono hBv))) ((HE2.out.below k6).more k6.size) hf0).mono ?_
          rintro e w7 ⟨rfl, k7⟩
          have k67 := k6.trans (k7.mono k6.size)
          have bt7 := BT2.out.trans (But.of_below (g := g) k67)
          have fe7 := FE2.out.to k67
          have ia7 := HI2.out.same (k67.block g HI2.out.lt)
          by_cases hlt : bd < fi
          · have HFI := Lib.hid (show (gFold cs p (f + 1)).2 = bd by rw [HN.out]; show firstU fi bd = bd; exact if_pos (Or.inr hlt))
            have hfe3 : FirstEr bd S (.iface T (.pointer (some ad))) w7 := by
              unfold FirstEr
              rw [if_neg (by omega)]
              exact (HEV.out.below k67).more k67.size
            clear k6 k7 k67 fe7
            go_wp2_with fail
            go_roundw
            case rel => exact ⟨f + 1, hf8, by go_num, by rw [HFI.out]; exact hfe3, by rw [HN.out]; exact ia7, bt7⟩
            case measure => simp [intOf]; omega
          · have HFI := Lib.hid (show (gFold cs p (f + 1)).2 = fi by rw [HN.out]; show firstU fi bd = fi; exact if_neg (by omega))
            clear k6 k7 k67
            go_wp2_with fail
            go_roundw
            case rel => exact ⟨f + 1, hf8, by go_num, by rw [HFI.out]; exact fe7, by rw [HN.out]; exact ia7, bt7⟩
            case measure => simp [intOf]; omega
    · obtain rfl : f = 8 := by omega
      by_cases hff : (gFold cs p 8).2 = -1
      · have HFF := Lib.hid hff
        have fe := FE.out
        rw [hff] at fe
        obtain rfl : u10 = .nilIface := Er.nil_of fe rfl
        obtain ⟨at_, hat⟩ : ∃ at_, at_ = (gFold cs p 8).1 := ⟨_, rfl⟩
        have ia := IA1.out
        rw [← hat] at ia
        have IA2 := Lib.hid ia
        have HAT := Lib.hid hat
        obtain ⟨g2, hg2⟩ : ∃ g2, g2 = wr.heap.size := ⟨_, rfl⟩
        have hgl : g < g2 := by rw [hg2]; exact ia.lt
        have hAl : bA < g2 := by rw [hg2]; exact World.block_lt_of_cell? _ _ e0
        have hbl : gb < g2 := by rw [hg2]; exact World.block_lt_of_cell? _ _ c0
        have HG2 := Lib.hid hg2
        clear hff fe ia hat hg2
        go_wp2_with (at_make; refine wpList_make_full _ rfl (.tmp 61) (.tmp 61) 27 rfl wr.heap.size 3 i1 (.int .i64 0) 1 Tryz.underlying27 hi1 hy0 hy1 .i64 .i64 p.length p.length p.length rfl rfl rfl rfl (by rw [hy2]; omega) (by simp only [maxLen]; omega) (Nat.le_refl _) ?_; intro w5 row5 g5; rw [intRow_new] at row5)
        rw [← HG2.out] at row5 ⊢
        have ia5 : IA w5 g2 p.length (fun k => if k < 0 then (k : Int) else 0) := Arw.of_own row5 fun k _ => rfl
        have k5 : Below g2 wr w5 := by rw [HG2.out]; exact (Below.refl _ _).grown g5 (Nat.le_refl _) (by simp)
        have I5 := Lib.hid ia5
        have K5 := Lib.hid k5
        have A5 := Lib.hid (IA2.out.same (K5.out.block g hgl))
        have E5 := Lib.hid ((K5.out.cell (p := ⟨bA, 0, none⟩) hAl).trans e0)
        have X5 := Lib.hid ((XX.out.but BT.out hgb).below K5.out hbl)
        have hw2 : w.heap.size ≤ g2 := by omega
        have W5 := Lib.hid ((KX.out.trans (BT.out.below hwg KX.out.size)).trans (K5.out.mono hw2))
        clear row5 g5 ia5 k5 e0 c0 c1 c2 c3
        go_loopw [65] (fun iv wx => ∃ i : Nat, i ≤ p.length ∧ iv = .int .i64 i ∧ IA wx g2 p.length (fun k => if k < i then (k : Int) else 0) ∧ OnlyG g2 w5 wx) (fun iv _ => p.length - (intOf iv).toNat)
        case atStart => exact ⟨0, Nat.zero_le _, rfl, I5.out, OnlyG.refl _ _⟩
        case round =>
          obtain ⟨i, hi, rfl, hia, hon⟩ := hrel
          have HIA := Lib.hid hia
          have HON := Lib.hid hon
          by_cases hin : i < p.length
          · have d0 := hia.cell hin
            have z0 := hia.frozen i
            have hia2 : IA (wr.setCell ⟨g2, i, none⟩ (.int .i64 (i : Int))) g2 p.length (fun k => if k < i + 1 then (k : Int) else 0) := HIA.out.set_ (k := i) (.int .i64 (i : Int)) fun j _ => by
              show Value.int .i64 (if j < i + 1 then (j : Int) else 0) = if j = i then .int .i64 (i : Int) else .int .i64 (if j < i then (j : Int) else 0)
              by_cases hj : j = i
              · subst hj; rw [if_pos rfl, if_pos (Nat.lt_succ_self _)]
              · rw [if_neg hj]; congr 1
                by_cases hj2 : j < i
                · rw [if_pos hj2, if_pos (by omega)]
                · rw [if_neg hj2, if_neg (by omega)]
            have HI2 := Lib.hid hia2
            simp only [Nat.lt_irrefl, if_false] at d0
            have r0 : (0 : Int) ≤ (i : Int) := by omega
            have r1 : (i : Int) < (p.length : Int) := by omega
            clear hia hon hia2
            go_wp2_with fail
            go_roundw
            case rel => exact ⟨i + 1, hin, by go_num, HI2.out, HON.out.set_ i _⟩
            case measure => simp [intOf]; omega
          · obtain rfl : i = p.length := by omega
            clear hia hon
            have hkey : IA wr g p.length (fun k => (fun x : Int => at_ x.toNat) (k : Int)) := A5.out.same (HON.out.blk g (by omega))
            have hid0 : IA wr g2 p.length (fun k => (k : Int)) := HIA.out.congr fun k hk => by simp only [if_pos hk]
            have hcel : wr.cell? ⟨bA, 0, none⟩ = some (.slice (some ⟨g, 0, none⟩) p.length p.length) := (World.cell?_of_block (a := ⟨bA, 0, none⟩) (HON.out.blk bA (by omega))).trans E5.out
            have HSS := Lib.hid (sortStable_any (fun x : Int => at_ x.toNat) g2 p.length bA g p.length wr hcel (by omega) (by omega) hkey (by omega) hid0)
            clear hkey hid0 hcel
            go_wp2_with fail
            refine (HSS.out).mono ?_
            rintro e w6 ⟨rfl, f', hf1, hf2, hf3, hf4⟩
            obtain ⟨L, hL⟩ : ∃ L, L = ordL at_ p.length := ⟨_, rfl⟩
            have hLl : L.length = p.length := by rw [hL]; exact ordL_len _ _
            have hfL : ∀ j (hj : j < L.length), f' j = (L[j] : Int) ∧ L[j] < p.length := fun j hj => by
              have e1 : (List.range p.length).map (fun k => (f' k).toNat) = L := by rw [hL]; exact hf3
              have h9 : (f' j).toNat = L[j] := by
                have : L[j]? = some (f' j).toNat := by rw [← e1, List.getElem?_map, List.getElem?_range (by omega)]; rfl
                rw [List.getElem?_eq_getElem hj] at this
                injection this with this
                exact this.symm
              have := hf4 j (by omega)
              exact ⟨by omega, ordL_lt (by rw [← hL]; exact List.getElem_mem hj)⟩
            have hgo : gOut p at_ = L.map fun k => (⟨fOf p k, sOf p k, at_ k⟩ : Pk) := by rw [hL]; rfl
            have on6 : OnlyG g2 w5 w6 := HON.out.trans hf2
            have HLL := Lib.hid hLl
            have HFL := Lib.hid hfL
            have HGO := Lib.hid hgo
            have HF1 := Lib.hid hf1
            have A6 := Lib.hid (A5.out.same (on6.blk g (by omega)))
            have E6 := Lib.hid ((World.cell?_of_block (a := ⟨bA, 0, none⟩) (on6.blk bA (by omega))).trans E5.out)
            have X6 := Lib.hid (X5.out.same (on6.blk gb (by omega)))
            have z56 := on6.bel.size
            have W6 := Lib.hid (W5.out.trans (on6.bel.mono hw2))
            have zl6 : g2 < w6.heap.size := hf1.lt
            obtain ⟨i0, hi0, hz0, hz1, hz2⟩ := info_parts infoPk
            clear hf1 hf2 hf3 hf4 hL hLl hfL hgo on6 HSS
            go_wp2_with fail
            go_loopw [15, 78] (fun ov iv wx => ∃ (j : Nat) (acc : List Pk) (Ao : Option Addr) (co : Nat), j ≤ p.length ∧ acc.length = j ∧ ov = .slice Ao acc.length co ∧ iv = .int .i64 j ∧ acc = (gOut p at_).take j ∧ wx.ownsRow w6.heap.size 53 3 (.slice Ao acc.length co) acc.length (acc.flatMap Pk.cs) ∧ Below w6.heap.size w6 wx) (fun _ iv _ => p.length - (intOf iv).toNat)
            case atStart => exact ⟨0, [], none, 0, Nat.zero_le _, rfl, rfl, rfl, rfl, ⟨by simp, .inl ⟨rfl, rfl⟩⟩, Below.refl _ _⟩
            case round =>
              obtain ⟨j, acc, Ao, co, hj, hacc, rfl, rfl, htk, row, hbw⟩ := hrel
              have zw := hbw.size
              have ROW := Lib.hid row
              have HTK := Lib.hid htk
              have HACC := Lib.hid hacc
              have hal : acc.length ≤ 300 := by omega
              clear row htk hacc
              have a6 := A6.out.same (hbw.block g (by omega))
              have o6 := HF1.out.same (hbw.block g2 zl6)
              have kw := W6.out.trans (hbw.mono W6.out.size)
              by_cases hjn : j < p.length
              · have hjL : j < L.length := by rw [HLL.out]; exact hjn
                obtain ⟨q1, q2⟩ := HFL.out j hjL
                have d0 := o6.cell hjn
                rw [q1] at d0
                obtain ⟨m, hm⟩ : ∃ m, m = L[j] := ⟨_, rfl⟩
                rw [← hm] at d0 q2
                have d1 := a6.cell q2
                obtain ⟨t, ht⟩ : ∃ t, t = at_ m := ⟨_, rfl⟩
                rw [← ht] at d1
                have e0 : wr.cell? ⟨bA, 0, none⟩ = some (.slice (some ⟨g, 0, none⟩) p.length p.length) := (hbw.cell (p := ⟨bA, 0, none⟩) (by show bA < _; omega)).trans E6.out
                obtain ⟨b1, o1, rfl, hb1, s0, s1, s2⟩ := RdP.get (hp.below (kw.mono hB)) q2
                obtain ⟨x, hx⟩ : ∃ x : Pk, x = p[m] := ⟨_, rfl⟩
                rw [← hx] at s0 s1 s2
                have hnx : (gOut p at_).take (j + 1) = acc ++ [⟨x.f, x.s, t⟩] := by
                  have hjg : j < (gOut p at_).length := by rw [gOut_len]; exact hjn
                  rw [List.take_succ_eq_append_getElem hjg, HTK.out]
                  congr 1
                  simp only [HGO.out, List.getElem_map, ← hm]
                  rw [fOf_of q2, sOf_of q2, ← hx, ← ht]
                have HNX := Lib.hid hnx
                have v0 : (0 : Int) ≤ (j : Int) := by omega
                have v1 : (j : Int) < (p.length : Int) := by omega
                have v2 : (0 : Int) ≤ (m : Int) := by omega
                have v3 : (m : Int) < (p.length : Int) := by omega
                have l0 := World.block_lt_of_cell? wr _ e0
                have l1 := World.block_lt_of_cell? wr _ d1
                simp only at l0 l1
                clear hnx hx ht hm q1 a6 o6
                obtain ⟨V, hV⟩ : ∃ V : World, V = wr.alloc (.cells #[.int .i64 x.f, .int .i64 x.s, .int .i64 t] 53) := ⟨_, rfl⟩
                have bV : Below wr.heap.size wr V := by rw [hV]; exact (Below.refl _ _).alloc (Nat.le_refl _) _
                have xV : Blk V wr.heap.size 53 #[.int .i64 x.f, .int .i64 x.s, .int .i64 t] := by rw [hV]; exact Blk.new _ _ _
                have y0 : V.cell? ⟨wr.heap.size, 0, none⟩ = some (.int .i64 x.f) := xV.cell 0
                have y1 : V.cell? ⟨wr.heap.size, 1, none⟩ = some (.int .i64 x.s) := xV.cell 1
                have y2 : V.cell? ⟨wr.heap.size, 2, none⟩ = some (.int .i64 t) := xV.cell 2
                have RV := Lib.hid (show V.ownsRow w6.heap.size 53 3 (.slice Ao acc.length co) acc.length (acc.flatMap Pk.cs) by rw [hV]; exact ROW.out.alloc _)
                have HV := Lib.hid hV
                have KV := Lib.hid (hbw.trans (bV.mono zw))
                have zV : w6.heap.size ≤ V.heap.size := KV.out.size
                have w1' : acc.length + [(⟨x.f, x.s, t⟩ : Pk)].length ≤ maxLen := by simp only [maxLen, List.length_cons, List.length_nil]; omega
                have w2' : (acc.length + [(⟨x.f, x.s, t⟩ : Pk)].length) * 24 ≤ 140737488355328 := by simp only [List.length_cons, List.length_nil]; omega
                obtain ⟨acc', hacc'⟩ : ∃ acc', acc' = acc ++ [(⟨x.f, x.s, t⟩ : Pk)] := ⟨_, rfl⟩
                have hal' : acc'.length = j + 1 := by rw [hacc']; simp; exact HACC.out
                have HAL := Lib.hid hal'
                have HA' := Lib.hid hacc'
                clear hV bV xV hacc' hal'
                go_upto_region 31 with fail
                rw [← HV.out]
                clear s0 s1 s2 d0 d1 e0 l0 l1
                go_wp2_with (at_builtin; refine wpList_append_rd _ Pk.cs rfl (.tmp 91) (.tmp 93) 46 rfl w6.heap.size 53 i0 (.agg #[.int .i64 0, .int .i64 0, .int .i64 0]) 3 24 Tryz.underlying46 hi0 hz0 hz1 hz2 rfl (by omega) Pk.cs_len Pk.cs_one (.slice Ao acc.length co) acc.length (acc.flatMap Pk.cs) rfl (RV.out.alloc _) (V.heap.size + 1) (some ⟨V.heap.size, 0, none⟩) 1 [⟨x.f, x.s, t⟩] rfl (RdP.new_ ⟨x.f, x.s, t⟩) w1' w2' (le_alloc zV _) ?_; intro v3 w7 row7 g7 at7; obtain ⟨A7, c7, hv7, row7⟩ := own_app row7 (by omega); rw [← HA'.out] at hv7 row7; rw [hv7]; clear hv7)
                have k7 := below_app (KV.out.alloc zV _) (RV.out.alloc _) g7 (Nat.le_refl _) (le_alloc zV _)
                clear at7 g7
                go_roundw
                case rel => exact ⟨j + 1, acc', A7, c7, hjn, HAL.out, rfl, by go_num, by rw [HA'.out]; exact HNX.out.symm, row7, k7⟩
                case measure => simp [intOf]; omega
              · obtain rfl : j = p.length := by omega
                have htk2 : acc = gOut p at_ := by rw [HTK.out, List.take_of_length_le (by rw [gOut_len]; exact Nat.le_refl _)]
                have HACQ := Lib.hid htk2
                have hxr := X6.out.below hbw (Nat.lt_trans hbl zl6)
                have c1 := hxr.cell 1
                have c2 := hxr.cell 2
                have c3 := hxr.cell 3
                simp at c1 c2 c3
                have hgbl : gb < wr.heap.size := hxr.lt
                have KW := Lib.hid kw
                have hre : runErr cs (kindN K) per ns p = (0, -1) := by
                  unfold runErr
                  rw [if_neg (by rw [H1.out]; simp), if_neg (by rw [HP.out]; simp), if_neg (by rw [HFF.out]; simp)]
                have hq2 : runQ cs (kindN K) per ns p = acc := by
                  unfold runQ
                  rw [hre, if_pos rfl, ← HAT.out, htk2]
                have hl2 : runL cs (kindN K) per ns p = linkV (kindN K) acc per ns := by
                  unfold runL
                  rw [hre, if_pos rfl, ← HAT.out, htk2]
                have hle : linkErr (kindN K) acc per ns = (0, -1) := by
                  rw [htk2, HAT.out]
                  exact (runErr_ok (by rw [hre])).2.2.2.2.2
                have hn : kindN K < 5 := by
                  have h9 := kindN_le K
                  have h7 : kindN K ≠ 5 := fun e => by rw [e] at hle; simp [linkErr] at hle
                  omega
                have HRE := Lib.hid hre
                have HQ := Lib.hid hq2
                have HL2 := Lib.hid hl2
                have HLE := Lib.hid hle
                have HN := Lib.hid hn
                obtain ⟨F, hF⟩ : ∃ F, F = fnOf (kindN K) := ⟨_, rfl⟩
                have HF := Lib.hid hF
                have hce : ∀ args w, (callFunc F args).run Tryz.prog w = .ok (.enter F args) w := fun args w => by rw [hF]; exact fn_enter _ hn args w
                have hrow := RdP.of_own ROW.out
                have HROW := Lib.hid hrow
                have HLK := Lib.hid (show ∀ w7 : World, Below wr.heap.size wr w7 → Calls Tryz.prog F #[.slice Ao acc.length co, .int .i64 per, .slice An ns.length cn] w7 (EndOwnEr Sn.cs 3 64 (linkV (kindN K) acc per ns) S 0 (-1) w7) from fun w7 k7 => by
                  have kk := KW.out.trans (k7.mono KW.out.size)
                  have h9 := linkRun_any Ao An co cn acc per ns S w7 w7.heap.size (Nat.le_refl _) ((HROW.out.below k7).more k7.size) ((h'.below (kk.mono hB)).more (Nat.le_trans hB kk.size)) (((hS.s.below (kk.mono hB)).more (Nat.le_trans hB kk.size)).sub (by simp)) (by omega) hl' (kindN K) HN.out
                  rw [HLE.out] at h9
                  rw [HF.out]
                  exact h9)
                clear htk2 hxr a6 o6 kw hre hq2 hl2 hle hn hF hrow hjn
                go_wp2_with fail
                go_region_held3 (fun w' => w'.cell? ⟨gb, 1, none⟩ = some (.string K) ∧ w'.cell? ⟨gb, 2, none⟩ = some (.int .i64 per) ∧ w'.cell? ⟨gb, 3, none⟩ = some (.slice An ns.length cn))
                  (first
                    | go_keep
                    | exact ⟨(k78.cell (p := ⟨gb, 1, none⟩) hgbl).trans c1, (k78.cell (p := ⟨gb, 2, none⟩) hgbl).trans c2, (k78.cell (p := ⟨gb, 3, none⟩) hgbl).trans c3⟩
                    | exact ⟨(k7.cell (p := ⟨gb, 1, none⟩) hgbl).trans c1, (k7.cell (p := ⟨gb, 2, none⟩) hgbl).trans c2, (k7.cell (p := ⟨gb, 3, none⟩) hgbl).trans c3⟩)
                  (first
                   | (go_at_call 122; refine (links_any _).mono ?_; rintro e w7 ⟨rfl, hw7⟩; have hb7 : w7.heap[wr.heap.size]? = some lnkMap := by { rw [hw7]; exact heap_alloc_new _ _ }; have k7 : Below wr.heap.size wr w7 := by { rw [hw7]; exact ((Below.refl _ _).drew).alloc (Nat.le_refl _) _ }; have hlk : (Instr.lookup 207 (.map (some wr.heap.size)) (.string K) false).run Tryz.prog w7 = .ok (.func (.func F) #[] #[]) w7 := by { rw [HF.out]; exact look_kind w7 _ K false hb7 HN.out }; clear hw7)
                   | ((with_reducible show Calls _ F _ _ _); refine (HLK.out w7 k7).mono ?_; rintro e w8 ⟨A8, c8, v8, rfl, o8, e8, k8⟩; obtain rfl := e8.nil_of rfl; have k78 := k7.trans (k8.mono k7.size)))
                all_goals
                  have RQ := Lib.hid (own_below ROW.out k78 (Nat.le_refl _))
                  have O8 := Lib.hid o8
                  have K8 := Lib.hid (KW.out.trans (k78.mono KW.out.size))
                  have zk8 : w.heap.size ≤ w7.heap.size := Nat.le_trans KW.out.size k7.size
                  clear hlk hb7 c1 c2 c3 k7 k8 k78 o8 e8
                  go_wp2_with fail
                  go_ret3
                  rw [HQ.out, HL2.out, HRE.out]
                  exact ⟨Ao, co, A8, c8, _, rfl, own_mono RQ.out W6.out.size, own_mono O8.out zk8, .nil, K8.out⟩
      · have he2 := FE.out
        unfold FirstEr at he2
        rw [if_neg hff] at he2
        have HE2 := Lib.hid he2
        obtain ⟨T2, ad2, rfl⟩ := he2.some_of (by simp)
        have He := Lib.hid (show runErr cs (kindN K) per ns p = (4, (gFold cs p 8).2) by unfold runErr; rw [if_neg (by rw [H1.out]; simp), if_neg (by rw [HP.out]; simp), if_pos hff])
        have Hq := Lib.hid (show runQ cs (kindN K) per ns p = [] by unfold runQ; rw [He.out]; rfl)
        have Hl := Lib.hid (show runL cs (kindN K) per ns p = [] by unfold runL; rw [He.out]; rfl)
        have KF := Lib.hid (KX.out.trans (BT.out.below hwg KX.out.size))
        clear he2 hff e0 c0 c1 c2 c3
        go_wp2_with fail
        go_ret3
        rw [Hq.out, Hl.out, He.out]
        exact ⟨none, 0, none, 0, _, rfl, ⟨by simp, .inl ⟨rfl, rfl⟩⟩, ⟨by simp, .inl ⟨rfl, rfl⟩⟩, HE2.out, KF.out⟩
theorem grun_any (hlp : p.length ≤ 9223372036854775807) : Calls Tryz.prog 99 #[.agg #[.slice Ac cs.length cc, .string K, .int .i64 per, .slice An ns.length cn], .slice A p.length c] w (EndGate (runQ cs (kindN K) per ns p) (runL cs (kindN K) per ns p) S (runErr cs (kindN K) per ns p).1 (runErr cs (kindN K) per ns p).2 w) := by
  by_cases h1 : (gateErr cs (kindN K) per ns).1 = 0
  · by_cases h2 : (pktErr p).1 = 0
    · exact grun_main Ac An A cc cn c cs K per ns p S w B hB h h' hp hS hl hl' h1 h2
    · exact grun_pkt Ac An A cc cn c cs K per ns p S w B hB h h' hp hS hl hl' hlp h1 h2
  · exact grun_gate Ac An A cc cn c cs K per ns p S w B hB h h' hS hl hl' h1
end
end Go.Proofs.YtoomffajodheaaaGreatDoor
