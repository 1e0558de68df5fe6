/- play.Tallies: tallies of flows. Conditions: packets are right, ticks are not too great, few are sent; the sentinels that it names lie in their variables. -/
import Derived.Test.YthgpbdlmadjndaaDoorRoll
import Derived.Test.YthgpbdlmadjndaaDoorSentRef
import Derived.Lib.MinMax
import Derived.StillTailTactics
namespace Go.Proofs.YthgpbdlmadjndaaDoor
open Go.RowKit
set_option maxRecDepth 100000
def flT (p : List Pk) (x : Sn) : Nat := (fOf p x.p.toNat).toNat
def tB (p : List Pk) (f : Nat) : Int → List Sn → Int
  | n, [] => n
  | n, x :: r => tB p f (if flT p x = f then n + sOf p x.p.toNat else n) r
def tM (p : List Pk) (f : Nat) : Int → List Sn → Int
  | n, [] => n
  | n, x :: r => tM p f (if flT p x = f then max n (x.t - aOf p x.p.toNat) else n) r
def tL (p : List Pk) (f : Nat) : Int → List Sn → Int
  | n, [] => n
  | n, x :: r => tL p f (if flT p x = f then max n x.t else n) r
def upi (h : Nat → Int) (g : Nat) (x : Int) : Nat → Int := fun f => if f = g then x else h f
/-- Tallies in memory. -/
structure TalMem (w : World) (g : Nat) (cs : Array Value) (hb hm hl : Nat → Int) : Prop where
  blk : Blk w g 80 cs
  size : cs.size = 24
  cb : ∀ f, f < 8 → cs[f * 3]? = some (.int .i64 (hb f))
  cm : ∀ f, f < 8 → cs[f * 3 + 1]? = some (.int .i64 (hm f))
  cl : ∀ f, f < 8 → cs[f * 3 + 2]? = some (.int .i64 (hl f))
theorem ta_get {cs : Array Value} {i j : Nat} {u : Value} (h : j ≠ i) : (cs.setIfInBounds i u)[j]? = cs[j]? := by rw [Array.getElem?_setIfInBounds, if_neg (fun e => h e.symm)]
theorem ta_get_same {cs : Array Value} {i : Nat} {u : Value} (h : i < cs.size) : (cs.setIfInBounds i u)[i]? = some u := by rw [Array.getElem?_setIfInBounds, if_pos rfl, if_pos h]
section
variable {w : World} {g : Nat} {cs : Array Value} {hb hm hl : Nat → Int}
theorem TalMem.setB (h : TalMem w g cs hb hm hl) {f : Nat} (hf : f < 8) (x : Int) : TalMem (w.setCell ⟨g, f * 3, none⟩ (.int .i64 x)) g (cs.setIfInBounds (f * 3) (.int .i64 x)) (upi hb f x) hm hl where
  blk := h.blk.set_ _ _
  size := by rw [Array.size_setIfInBounds]; exact h.size
  cb := fun f' hf' => by
    unfold upi
    by_cases he : f' = f
    · subst he; rw [if_pos rfl]; exact ta_get_same (by rw [h.size]; omega)
    · rw [if_neg he]; exact (ta_get (by omega)).trans (h.cb f' hf')
  cm := fun f' hf' => (ta_get (by omega)).trans (h.cm f' hf')
  cl := fun f' hf' => (ta_get (by omega)).trans (h.cl f' hf')
theorem TalMem.setM (h : TalMem w g cs hb hm hl) {f : Nat} (hf : f < 8) (x : Int) : TalMem (w.setCell ⟨g, f * 3 + 1, none⟩ (.int .i64 x)) g (cs.setIfInBounds (f * 3 + 1) (.int .i64 x)) hb (upi hm f x) hl where
  blk := h.blk.set_ _ _
  size := by rw [Array.size_setIfInBounds]; exact h.size
  cm := fun f' hf' => by
    unfold upi
    by_cases he : f' = f
    · subst he; rw [if_pos rfl]; exact ta_get_same (by rw [h.size]; omega)
    · rw [if_neg he]; exact (ta_get (by omega)).trans (h.cm f' hf')
  cb := fun f' hf' => (ta_get (by omega)).trans (h.cb f' hf')
  cl := fun f' hf' => (ta_get (by omega)).trans (h.cl f' hf')
theorem TalMem.setL (h : TalMem w g cs hb hm hl) {f : Nat} (hf : f < 8) (x : Int) : TalMem (w.setCell ⟨g, f * 3 + 2, none⟩ (.int .i64 x)) g (cs.setIfInBounds (f * 3 + 2) (.int .i64 x)) hb hm (upi hl f x) where
  blk := h.blk.set_ _ _
  size := by rw [Array.size_setIfInBounds]; exact h.size
  cl := fun f' hf' => by
    unfold upi
    by_cases he : f' = f
    · subst he; rw [if_pos rfl]; exact ta_get_same (by rw [h.size]; omega)
    · rw [if_neg he]; exact (ta_get (by omega)).trans (h.cl f' hf')
  cb := fun f' hf' => (ta_get (by omega)).trans (h.cb f' hf')
  cm := fun f' hf' => (ta_get (by omega)).trans (h.cm f' hf')
theorem TalMem.same {w' : World} (h : TalMem w g cs hb hm hl) (hs : w'.heap[g]? = w.heap[g]?) : TalMem w' g cs hb hm hl := { h with blk := h.blk.same hs }
end
/-- What holds at each round's head. -/
structure TalAt (p : List Pk) (l : List Sn) (k : Nat) (hb hm hl : Nat → Int) : Prop where
  b : ∀ f, f < 8 → tB p f 0 l = tB p f (hb f) (l.drop k)
  m : ∀ f, f < 8 → tM p f 0 l = tM p f (hm f) (l.drop k)
  l : ∀ f, f < 8 → tL p f 0 l = tL p f (hl f) (l.drop k)
  b0 : ∀ f, f < 8 → 0 ≤ hb f ∧ hb f ≤ 1500 * (k : Int)
theorem TalAt.step {p : List Pk} {l : List Sn} {k : Nat} {hb hm hl : Nat → Int} (h : TalAt p l k hb hm hl) (hk : k < l.length) {f : Nat} (hf : flT p l[k] = f) {z : Int} (hz : sOf p l[k].p.toNat = z) (z0 : 0 ≤ z) (z1 : z ≤ 1500) :
    TalAt p l (k + 1) (upi hb f (hb f + z)) (upi hm f (max (hm f) (l[k].t - aOf p l[k].p.toNat))) (upi hl f (max (hl f) l[k].t)) := by
  have hd := List.drop_eq_getElem_cons hk
  refine ⟨fun g hg => ?_, fun g hg => ?_, fun g hg => ?_, fun g hg => ?_⟩
  · rw [h.b g hg, hd]
    show tB p g (if flT p l[k] = g then hb g + sOf p l[k].p.toNat else hb g) _ = _
    rw [hf, hz]
    unfold upi
    by_cases he : f = g
    · subst he; rw [if_pos rfl]
      try rw [if_pos rfl]
    · rw [if_neg he, if_neg (fun e => he e.symm)]
  · rw [h.m g hg, hd]
    show tM p g (if flT p l[k] = g then max (hm g) (l[k].t - aOf p l[k].p.toNat) else hm g) _ = _
    rw [hf]
    unfold upi
    by_cases he : f = g
    · subst he; rw [if_pos rfl]
      try rw [if_pos rfl]
    · rw [if_neg he, if_neg (fun e => he e.symm)]
  · rw [h.l g hg, hd]
    show tL p g (if flT p l[k] = g then max (hl g) l[k].t else hl g) _ = _
    rw [hf]
    unfold upi
    by_cases he : f = g
    · subst he; rw [if_pos rfl]
      try rw [if_pos rfl]
    · rw [if_neg he, if_neg (fun e => he e.symm)]
  · have := h.b0 g hg
    unfold upi
    by_cases he : g = f
    · subst he; rw [if_pos rfl]; omega
    · rw [if_neg he]; omega
def zero24 : Array Value := #[.int .i64 0, .int .i64 0, .int .i64 0, .int .i64 0, .int .i64 0, .int .i64 0, .int .i64 0, .int .i64 0, .int .i64 0, .int .i64 0, .int .i64 0, .int .i64 0, .int .i64 0, .int .i64 0, .int .i64 0, .int .i64 0, .int .i64 0, .int .i64 0, .int .i64 0, .int .i64 0, .int .i64 0, .int .i64 0, .int .i64 0, .int .i64 0]
theorem ta_lt8 {P : Nat → Prop} (h0 : P 0) (h1 : P 1) (h2 : P 2) (h3 : P 3) (h4 : P 4) (h5 : P 5) (h6 : P 6) (h7 : P 7) (f : Nat) (hf : f < 8) : P f := by
  have h : f = 0 ∨ f = 1 ∨ f = 2 ∨ f = 3 ∨ f = 4 ∨ f = 5 ∨ f = 6 ∨ f = 7 := by omega
  rcases h with rfl | rfl | rfl | rfl | rfl | rfl | rfl | rfl <;> assumption
theorem tal_new (w : World) : TalMem (w.alloc (.cells zero24 80)) w.heap.size zero24 (fun _ => 0) (fun _ => 0) (fun _ => 0) :=
  ⟨Blk.new _ _ _, rfl, ta_lt8 rfl rfl rfl rfl rfl rfl rfl rfl, ta_lt8 rfl rfl rfl rfl rfl rfl rfl rfl, ta_lt8 rfl rfl rfl rfl rfl rfl rfl rfl⟩
set_option maxHeartbeats 4000000 in
theorem tallies_ok (A A' : Option Addr) (c c' : Nat) (p : List Pk) (l : List Sn) (S : Nat → Addr) (w : World) (B : Nat) (hB : B ≤ w.heap.size) (h : RdP w B A p) (h' : RdS w B A' l) (hS : Snt w B S [2, 3, 4, 5]) (hl : p.length ≤ 300) (hl' : l.length ≤ 1000)
    (ht : ∀ x ∈ l, tame50 x.t) (h1 : (pktErr p).1 = 0) (h3 : (delErr p.length l).1 = 0) :
    Calls Tryd.prog 14 #[.slice A p.length c, .slice A' l.length c'] w fun e w' => ∃ g cs hb hm hl, e = .returned (.tuple #[.slice (some ⟨g, 0, none⟩) 8 8, .nilIface]) ∧ TalMem w' g cs hb hm hl ∧ (∀ f, f < 8 → hb f = tB p f 0 l ∧ hm f = tM p f 0 l ∧ hl f = tL p f 0 l) ∧ Below w.heap.size w w' ∧ w.heap.size ≤ g := by
  have hpk := pktErr_okPk h1
  have Hc := Lib.hid (pktErr_nil h1)
  have hta : ∀ x ∈ p, tame50 x.a := fun x hx => by
    have := (hpk x hx).2.2.2.2
    unfold tame50
    omega
  obtain ⟨hbad, hd0⟩ := delErr_ok h3
  have hsp : ∀ y ∈ l, 0 ≤ y.p ∧ y.p.toNat < p.length := fun y hy => by
    have := sentBad_ok hbad y hy
    omega
  have Hd := Lib.hid hd0
  have Ho := Lib.hid (show delOut p l = delL p l from if_pos hbad)
  have Hdl := Lib.hid (show (delL p l).length = l.length by simp [delL])
  clear h1 h3 hbad hd0
  go_enter Tryd.func14, Tryd.ntmps14
  go_wp2_with fail
  refine (pcheck_any A c p S _ B hB h (hS.sub (by simp)) (by omega)).mono ?_
  rintro e w1 ⟨v, rfl, hv, k1⟩
  obtain rfl := hv.nil_of (by rw [Hc.out])
  have z1 := k1.size
  go_wp2_with fail
  refine (delays_any A A' c c' p l S w1 B (by omega) (h.below (k1.mono hB)) (h'.below (k1.mono hB)) ((hS.below (k1.mono hB)).sub (by simp)) (by omega) (by omega) ht hta).mono ?_
  rintro e w2 ⟨A3, c3, v, rfl, o3, hv, k2⟩
  obtain rfl := hv.nil_of (by rw [Hd.out])
  have k2' := k1.trans (k2.mono z1)
  have z2 := k2'.size
  rw [Ho.out] at o3 ⊢
  have r3 : RdI w2 w2.heap.size A3 (delL p l) := Rd.of_own o3 (by omega) iCs_len
  rw [Hdl.out]
  clear o3 hv
  have tn := tal_new w2
  go_wp2_with fail
  go_loopw [29] (fun iv wr => ∃ (k : Nat) (cs : Array Value) (hb hm hl : Nat → Int), k ≤ l.length ∧ iv = .int .i64 k ∧ TalMem wr w2.heap.size cs hb hm hl ∧ TalAt p l k hb hm hl ∧ Below w2.heap.size w2 wr) (fun iv _ => l.length - (intOf iv).toNat)
  case atStart => exact ⟨0, zero24, fun _ => 0, fun _ => 0, fun _ => 0, Nat.zero_le _, rfl, tn, ⟨fun _ _ => rfl, fun _ _ => rfl, fun _ _ => rfl, fun _ _ => ⟨by omega, by omega⟩⟩, (Below.refl _ _).alloc (Nat.le_refl _) _⟩
  case round =>
    obtain ⟨k, cs, hb, hm, hlf, hk, rfl, tm, hat, hbw⟩ := hrel
    have TM := Lib.hid tm
    have HAT := Lib.hid hat
    have zw : w2.heap.size < wr.heap.size := tm.blk.lt
    have kw := k2'.trans (hbw.mono z2)
    clear tm hat tn
    by_cases hlt : k < l.length
    · obtain ⟨q, o, rfl, hqq, d0, d1, d2⟩ := RdS.get (h'.below (kw.mono hB)) hlt
      have hsk := hsp _ (List.getElem_mem hlt)
      obtain ⟨n, hn⟩ : ∃ n : Nat, l[k].p = n := ⟨l[k].p.toNat, by omega⟩
      have hnl : n < p.length := by omega
      obtain ⟨b1, o1, rfl, hb1, f0, f1, f2⟩ := RdP.get (h.below (kw.mono hB)) hnl
      have hok := hpk _ (List.getElem_mem hnl)
      obtain ⟨f, hg⟩ : ∃ f : Nat, p[n].f = f := ⟨p[n].f.toNat, by have := hok.1; omega⟩
      have f8 : f < 8 := by have := hok.2.1; omega
      obtain ⟨z, hz⟩ : ∃ z, z = p[n].s := ⟨_, rfl⟩
      have hz1 : 1 ≤ z := by rw [hz]; exact hok.2.2.1
      have hz2 : z ≤ 1500 := by rw [hz]; exact hok.2.2.2.1
      have hfl : flT p l[k] = f := by unfold flT; rw [hn, Int.toNat_natCast, fOf_of hnl, hg, Int.toNat_natCast]
      have hsz : sOf p l[k].p.toNat = z := by rw [hn, Int.toNat_natCast, sOf_of hnl, hz]
      have haz : aOf p l[k].p.toNat = p[n].a := by rw [hn, Int.toNat_natCast, aOf_of hnl]
      have hstep := HAT.out.step hlt hfl hsz (by omega) hz2
      have hdl2 : k < (delL p l).length := by rw [Hdl.out]; exact hlt
      obtain ⟨b3, o3, rfl, hb3, g0⟩ := RdI.get (r3.below hbw) hdl2
      have hdv : (delL p l)[k] = l[k].t - aOf p l[k].p.toNat := by simp only [delL, List.getElem_map]
      rw [hdv] at g0
      obtain ⟨y, hy⟩ : ∃ y, y = l[k].t - aOf p l[k].p.toNat := ⟨_, rfl⟩
      rw [← hy] at g0 hstep
      obtain ⟨x, hx⟩ : ∃ x : Sn, x = l[k] := ⟨_, rfl⟩
      rw [hn] at d0
      rw [← hx] at d1 d2 hstep
      rw [hg] at f0
      rw [← hz] at f1
      have hbb := HAT.out.b0 f f8
      obtain ⟨X, hX⟩ : ∃ X : World, X = wr.alloc (.cells #[.int .i64 (n : Int), .int .i64 x.f, .int .i64 x.t] 44) := ⟨_, rfl⟩
      have bx : Below wr.heap.size wr X := by rw [hX]; exact (Below.refl _ _).alloc (Nat.le_refl _) _
      have old : ∀ (q : Addr) (u : Value), wr.cell? q = some u → X.cell? q = some u := fun q u hq => (bx.cell (p := q) (World.block_lt_of_cell? _ _ hq)).trans hq
      have u0 := old _ _ f0
      have u1 := old _ _ f1
      have ug := old _ _ g0
      have x0 : X.cell? ⟨wr.heap.size, 0, none⟩ = some (.int .i64 (n : Int)) := by rw [hX]; exact (Blk.new wr 44 #[.int .i64 (n : Int), .int .i64 x.f, .int .i64 x.t]).cell 0
      have x2 : X.cell? ⟨wr.heap.size, 2, none⟩ = some (.int .i64 x.t) := by rw [hX]; exact (Blk.new wr 44 #[.int .i64 (n : Int), .int .i64 x.f, .int .i64 x.t]).cell 2
      have tX : TalMem X w2.heap.size cs hb hm hlf := TM.out.same (bx.block _ zw)
      have c0 : X.cell? ⟨w2.heap.size, f * 3, none⟩ = some (.int .i64 (hb f)) := (tX.blk.cell _).trans (tX.cb f f8)
      have c1 : X.cell? ⟨w2.heap.size, f * 3 + 1, none⟩ = some (.int .i64 (hm f)) := (tX.blk.cell _).trans (tX.cm f f8)
      have c2 : X.cell? ⟨w2.heap.size, f * 3 + 2, none⟩ = some (.int .i64 (hlf f)) := (tX.blk.cell _).trans (tX.cl f f8)
      have z0 := tX.blk.frozen (f * 3)
      have u0' := u0
      have x0' := x0
      rw [hX] at u0' x0'
      have p1 : (0 : Int) ≤ (k : Int) := by omega
      have p2 : (k : Int) < (l.length : Int) := by omega
      have p3 : (0 : Int) ≤ (n : Int) := by omega
      have p4 : (n : Int) < (p.length : Int) := by omega
      have p5 : (0 : Int) ≤ (f : Int) := by omega
      have p6 : (f : Int) < 8 := by omega
      have s1 : -9223372036854775808 ≤ hb f + z := by omega
      have s2 : hb f + z ≤ 9223372036854775807 := by omega
      have kX := hbw.trans (bx.mono (Nat.le_of_lt zw))
      have TX := Lib.hid tX
      have HX := Lib.hid hX
      have Hst := Lib.hid hstep
      clear hn hok hg hz hfl hsz haz hstep hdv hy hx hX tX hsk f0 f1 f2 g0 old hdl2
      go_wp2_with fail
      rw [← HX.out]
      clear u0' x0' d0 d1 d2
      go_still_tail 13, (by kernel_rfl)
      go_wp2_with fail
      obtain ⟨Y, hY⟩ : ∃ Y : World, Y = (X.setCell ⟨w2.heap.size, f * 3, none⟩ (.int .i64 (hb f + z))).drew := ⟨_, rfl⟩
      have tY : TalMem Y w2.heap.size _ (upi hb f (hb f + z)) hm hlf := (TX.out.setB f8 (hb f + z)).same (by rw [hY]; rfl)
      have kY : Below w2.heap.size w2 Y := by rw [hY]; exact (kX.setCell (p := ⟨w2.heap.size, f * 3, none⟩) (Nat.le_refl _) _).drew
      have sx : ∀ (q : Addr) (u : Value), q.block ≠ w2.heap.size → X.cell? q = some u → Y.cell? q = some u := fun q u hq hu => by
        rw [hY]
        show (X.setCell ⟨w2.heap.size, f * 3, none⟩ (.int .i64 (hb f + z))).cell? q = some u
        rw [World.cell?_setCell_other _ _ _ _ (fun e => hq (congrArg Addr.block e).symm)]
        exact hu
      have c1' : Y.cell? ⟨w2.heap.size, f * 3 + 1, none⟩ = some (.int .i64 (hm f)) := (tY.blk.cell _).trans (tY.cm f f8)
      have c2' : Y.cell? ⟨w2.heap.size, f * 3 + 2, none⟩ = some (.int .i64 (hlf f)) := (tY.blk.cell _).trans (tY.cl f f8)
      have z1' := tY.blk.frozen (f * 3 + 1)
      have z2' := tY.blk.frozen (f * 3 + 2)
      have x2' : Y.cell? ⟨wr.heap.size, 2, none⟩ = some (.int .i64 x.t) := sx _ _ (by simp only; omega) x2
      have ug' : Y.cell? ⟨b3, o3 + k, none⟩ = some (.int .i64 y) := sx _ _ (by simp only; omega) ug
      have p9 : (k : Int) < ((delL p l).length : Int) := by rw [Hdl.out]; exact p2
      have TY := Lib.hid tY
      have KY := Lib.hid kY
      rw [← hY]
      clear hY tY kY sx c0 c1 c2 z0 x2 ug u0 u1 x0
      go_region
      go_wp2_with fail
      go_roundw
      case rel => exact ⟨k + 1, _, _, _, _, hlt, by go_num, ((TY.out.setM f8 (max (hm f) y)).setL f8 (max (hlf f) x.t)).same rfl, Hst.out, ((KY.out.setCell (p := ⟨w2.heap.size, f * 3 + 1, none⟩) (Nat.le_refl _) _).setCell (p := ⟨w2.heap.size, f * 3 + 2, none⟩) (Nat.le_refl _) _).drew⟩
      case measure => simp [intOf]; omega
    · have e : l.drop k = [] := List.drop_eq_nil_of_le (by omega)
      have Hfin := Lib.hid (show ∀ f, f < 8 → hb f = tB p f 0 l ∧ hm f = tM p f 0 l ∧ hlf f = tL p f 0 l from fun f hf => by
        have h1 := HAT.out.b f hf
        have h2 := HAT.out.m f hf
        have h3 := HAT.out.l f hf
        rw [e] at h1 h2 h3
        exact ⟨h1.symm, h2.symm, h3.symm⟩)
      clear e
      go_wp2_with fail
      go_ret2
      exact ⟨w2.heap.size, cs, hb, hm, hlf, rfl, TM.out, Hfin.out, kw, z2⟩
end Go.Proofs.YthgpbdlmadjndaaDoor
