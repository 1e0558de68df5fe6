/- gate.shape: one flow's packets through its shaper, their ticks written. Conditions: as for a gate in memory; packets and curves are right; ticks lie in a row of their own. -/
import Derived.Test.YtoomffajodheaaaGreatDoorQGtM
import Derived.Test.YtoomffajodheaaaGreatDoorQShB
import Derived.Test.YtoomffajodheaaaGreatDoorQSrM
import Derived.Test.YtoomffajodheaaaGreatDoorQRkM
set_option linter.all false
namespace Go.Proofs.YtoomffajodheaaaGreatDoor
open Go.RowKit
set_option maxRecDepth 100000
theorem own_sameG {w w' : World} {base : Nat} {e : TypeId} {size : Nat} {v : Value} {n : Nat} {xs : List Value} (h : w.ownsRow base e size v n xs) (hs : ∀ g, v.ownBlock = some g → w'.heap[g]? = w.heap[g]?) : w'.ownsRow base e size v n xs := by
  obtain ⟨h1, h2⟩ := h
  refine ⟨h1, ?_⟩
  rcases h2 with h2 | ⟨g, cap, cur, hv, hg, hh, r⟩
  · exact .inl h2
  · exact .inr ⟨g, cap, cur, hv, hg, (hs g (by rw [hv]; rfl)).trans hh, r⟩
/-- Two rows apart: one grows, the other stays. -/
theorem own_keep {w w' : World} {o : Obj} {row : Option Nat} {base : Nat} {e : TypeId} {size : Nat} {v : Value} {n : Nat} {xs : List Value} (h : w.ownsRow base e size v n xs) (hg : (w.alloc o).grownBy w' row) (hne : ∀ b, v.ownBlock = some b → row ≠ some b) : w'.ownsRow base e size v n xs :=
  own_sameG h fun b hb => by
    have hlt := own_lt' h b hb
    exact (hg.block b (by simp; omega) (fun e => hne b hb e.symm)).trans (Below.heap_alloc w o b hlt)
/-- Two rows of the call's own, apart. -/
structure TwoR (w : World) (B : Nat) (A1 : Option Addr) (c1 : Nat) (l1 : List Pk) (A2 : Option Addr) (c2 : Nat) (l2 : List Nat) : Prop where
  r1 : w.ownsRow B 53 3 (.slice A1 l1.length c1) l1.length (l1.flatMap Pk.cs)
  r2 : w.ownsRow B 3 1 (.slice A2 l2.length c2) l2.length (l2.flatMap nCs)
  ne : ∀ b, (Value.slice A1 l1.length c1).ownBlock = some b → (Value.slice A2 l2.length c2).ownBlock ≠ some b
theorem TwoR.nil_ (w : World) (B : Nat) : TwoR w B none 0 [] none 0 [] := ⟨⟨by simp, .inl ⟨rfl, rfl⟩⟩, ⟨by simp, .inl ⟨rfl, rfl⟩⟩, by simp [Value.ownBlock]⟩
theorem TwoR.alloc {w : World} {B : Nat} {A1 : Option Addr} {c1 : Nat} {l1 : List Pk} {A2 : Option Addr} {c2 : Nat} {l2 : List Nat} (h : TwoR w B A1 c1 l1 A2 c2 l2) (o : Obj) : TwoR (w.alloc o) B A1 c1 l1 A2 c2 l2 := ⟨h.r1.alloc o, h.r2.alloc o, h.ne⟩
theorem TwoR.step {V w3 w4 : World} {B : Nat} {o1 o2 : Obj} {A1 A2 A5 A6 : Option Addr} {c1 c2 c5 c6 : Nat} {l1 l1' : List Pk} {l2 l2' : List Nat} (h : TwoR V B A1 c1 l1 A2 c2 l2)
    (row3 : w3.ownsRow B 53 3 (.slice A5 l1'.length c5) l1'.length (l1'.flatMap Pk.cs)) (g3 : (V.alloc o1).grownBy w3 (Value.slice A1 l1.length c1).ownBlock) (at3 : (Value.slice A5 l1'.length c5).ownBlock = (Value.slice A1 l1.length c1).ownBlock ∨ (Value.slice A5 l1'.length c5).ownBlock = some (V.alloc o1).heap.size)
    (row4 : w4.ownsRow B 3 1 (.slice A6 l2'.length c6) l2'.length (l2'.flatMap nCs)) (g4 : (w3.alloc o2).grownBy w4 (Value.slice A2 l2.length c2).ownBlock) (at4 : (Value.slice A6 l2'.length c6).ownBlock = (Value.slice A2 l2.length c2).ownBlock ∨ (Value.slice A6 l2'.length c6).ownBlock = some (w3.alloc o2).heap.size) : TwoR w4 B A5 c5 l1' A6 c6 l2' := by
  have z3 := g3.size
  have ne5 : ∀ b, (Value.slice A5 l1'.length c5).ownBlock = some b → (Value.slice A2 l2.length c2).ownBlock ≠ some b := fun b hb e => by
    have hlt := own_lt' h.r2 b e
    rcases at3 with h9 | h9
    · rw [h9] at hb; exact h.ne b hb e
    · rw [h9] at hb
      injection hb with hb
      simp at hb
      omega
  refine ⟨own_keep row3 g4 ne5, row4, fun b hb e => ?_⟩
  have hlt := own_lt' row3 b hb
  rcases at4 with h9 | h9
  · rw [h9] at e; exact ne5 b hb e
  · rw [h9] at e
    injection e with e
    simp at e
    omega
theorem own_get {α : Type} {w : World} {base : Nat} {e : TypeId} {sz : Nat} {fc : α → List Value} {A : Option Addr} {c : Nat} {l : List α} (h : w.ownsRow base e sz (.slice A l.length c) l.length (l.flatMap fc)) (hsz : 0 < sz) (hf : ∀ x, (fc x).length = sz) {i : Nat} (hi : i < l.length) :
    ∃ b, A = some ⟨b, 0, none⟩ ∧ base ≤ b ∧ b < w.heap.size ∧ ∀ (j : Nat) (v : Value), (fc l[i])[j]? = some v → w.cell? ⟨b, i * sz + j, none⟩ = some v := by
  obtain ⟨g, cap, hv, hg, hlt⟩ := h.form (by omega)
  have hA : A = some ⟨g, 0, none⟩ := by injection hv
  subst hA
  refine ⟨g, rfl, hg, hlt, fun j v hj => ?_⟩
  have hjl : j < sz := by have := (List.getElem?_eq_some_iff.1 hj).1; rw [hf] at this; exact this
  have h9 := h.cells (g := g) rfl (i * sz + j) v (by
    rw [flat_get fc sz hsz hf]
    have e1 : (i * sz + j) / sz = i := by rw [Nat.mul_comm, Nat.mul_add_div hsz, Nat.div_eq_of_lt hjl, Nat.add_zero]
    have e2 : (i * sz + j) % sz = j := by rw [Nat.mul_comm, Nat.mul_add_mod, Nat.mod_eq_of_lt hjl]
    rw [e1, e2, List.getElem?_eq_getElem hi]; exact hj)
  rw [add_mk] at h9
  simpa using h9
theorem shapeGo_bad (p : List Pk) (ss : List Bu) (last : Int) (i : Nat) : (shapeGo p ss last i).2 = -1 ∨ ((i : Int) ≤ (shapeGo p ss last i).2 ∧ (shapeGo p ss last i).2 < i + p.length) := by
  induction p generalizing ss last i with
  | nil => exact .inl rfl
  | cons x r ih =>
    unfold shapeGo
    split
    · right
      simp only [List.length_cons]
      omega
    · rename_i T hT
      split
      · exact .inl rfl
      · rename_i h
        rcases ih (ss.map fun s => tookB s T x.s) T (i + 1) with h9 | h9
        · exact absurd h9 h
        · right
          simp only [List.length_cons]
          omega
theorem atS_drop {a : Nat → Int} {ns : List Nat} {os : List Pk} {k : Nat} (h1 : k < ns.length) (h2 : k < os.length) (b : Nat → Int) : atS b (ns.drop k) (os.drop k) = atS (upA b ns[k] os[k].a) (ns.drop (k + 1)) (os.drop (k + 1)) := by
  rw [List.drop_eq_getElem_cons h1, List.drop_eq_getElem_cons h2]
  rfl
/-- What a call of gate.shape leaves. -/
def GshPost (l : List Ln) (p : List Pk) (f g : Nat) (a : Nat → Int) (S : Nat → Addr) (w : World) (e : Ending) (w' : World) : Prop :=
  ∃ v, e = .returned v ∧ Er w' w'.heap.size S v (if flowBad l p f = -1 then 0 else 4) (flowBad l p f) ∧ IA w' g p.length (if flowBad l p f = -1 then atS a (numsK p f p.length) (shpR l p f).1 else a) ∧ But g w w'
section
variable (Ac An A : Option Addr) (cc nn cn c : Nat) (cs : List (List Ln)) (K : ByteArray) (per : Int) (p : List Pk) (f g : Nat) (a : Nat → Int) (S : Nat → Addr) (w : World) (B : Nat) (hB : B ≤ w.heap.size) (hBg : B ≤ g) (h : RdLL w B Ac cs) (hp : RdP w B A p) (hS : GS w B S) (h8 : cs.length = 8) (hf : f < 8) (hpk : (pktErr p).1 = 0) (hc : CsOk cs) (hl : ∀ l ∈ cs, l.length ≤ 9223372036854775807) (ha : IA w g p.length a)
include hB hBg h hp hS h8 hf hpk hc hl ha
set_option maxHeartbeats 4000000 in
theorem gshape_any : Calls Tryz.prog 124 #[.agg #[.slice Ac 8 cc, .string K, .int .i64 per, .slice An nn cn], .slice A p.length c, .int .i64 f, .slice (some ⟨g, 0, none⟩) p.length p.length] w (GshPost (cs.getD f []) p f g a S w) := by
  have h300 := pktErr_len hpk
  have hfl : f < cs.length := by omega
  have hgd : cs.getD f [] = cs[f] := by simp [List.getD, hfl]
  obtain ⟨b, o, ac, cl, rfl, hb, d0, hrd⟩ := h f hfl
  have hll := hl _ (List.getElem_mem hfl)
  obtain ⟨l, hle⟩ : ∃ l, l = cs[f] := ⟨_, rfl⟩
  have hcl := hc cs[f] (List.getElem_mem hfl)
  rw [← hle] at hcl
  rw [hgd, ← hle]
  rw [← hle] at d0 hrd hll
  obtain ⟨i0, hi0, hz0, hz1, hz2⟩ := info_parts infoPk
  obtain ⟨i1, hi1, hy0, hy1, hy2⟩ := info_parts infoInt
  have HA := Lib.hid ha
  have HCL := Lib.hid hcl
  have HPK := Lib.hid hpk
  have HRD := Lib.hid hrd
  have hgl := ha.lt
  clear h hc hl hcl hgd hle hpk ha hrd h8 hfl
  obtain ⟨W, hW⟩ : ∃ W : World, W = w.alloc (.cells #[.slice (some ⟨b, o, none⟩) 8 cc, .string K, .int .i64 per, .slice An nn cn] 66) := ⟨_, rfl⟩
  have bW : Below w.heap.size w W := by rw [hW]; exact (Below.refl _ _).alloc (Nat.le_refl _) _
  have xW : Blk W w.heap.size 66 #[.slice (some ⟨b, o, none⟩) 8 cc, .string K, .int .i64 per, .slice An nn cn] := by rw [hW]; exact Blk.new _ _ _
  have HW := Lib.hid hW
  have BW := Lib.hid bW
  have XW := Lib.hid xW
  have zW : w.heap.size ≤ W.heap.size := bW.size
  clear hW bW xW
  go_enter Tryz.func124, Tryz.ntmps124
  go_wp2_with fail
  rw [← HW.out]
  go_loopw [9, 10, 19] (fun v1 v2 iv wr => ∃ (k : Nat) (A1 : Option Addr) (c1 : Nat) (A2 : Option Addr) (c2 : Nat), k ≤ p.length ∧ v1 = .slice A1 (ownK p f k).length c1 ∧ v2 = .slice A2 (numsK p f k).length c2 ∧ iv = .int .i64 k ∧ TwoR wr W.heap.size A1 c1 (ownK p f k) A2 c2 (numsK p f k) ∧ Below W.heap.size W wr) (fun _ _ iv _ => p.length - (intOf iv).toNat)
  case atStart => exact ⟨0, none, 0, none, 0, Nat.zero_le _, rfl, rfl, rfl, TwoR.nil_ _ _, Below.refl _ _⟩
  case round =>
    obtain ⟨k, A1, c1, A2, c2, hk, rfl, rfl, rfl, h2, hbw⟩ := hrel
    have zw := hbw.size
    have kw := BW.out.trans (hbw.mono zW)
    have H2 := Lib.hid h2
    clear h2
    by_cases hlt : k < p.length
    · obtain ⟨b1, o1, rfl, hb1, e0, e1, e2⟩ := RdP.get (hp.below (kw.mono hB)) hlt
      obtain ⟨x, hx⟩ : ∃ x : Pk, x = p[k] := ⟨_, rfl⟩
      have hxf : fOf p k = x.f := by rw [fOf_of hlt, hx]
      have hxd : p.getD k ⟨0, 0, 0⟩ = x := by rw [getD_of hlt, hx]
      rw [← hx] at e0 e1 e2
      have HXD := Lib.hid hxd
      have u1 : (0 : Int) ≤ (k : Int) := by omega
      have u2 : (k : Int) < (p.length : Int) := by omega
      obtain ⟨V, hV⟩ : ∃ V : World, V = wr.alloc (.cells #[.int .i64 x.f, .int .i64 x.s, .int .i64 x.a] 53) := ⟨_, rfl⟩
      have bV : Below wr.heap.size wr V := by rw [hV]; exact (Below.refl _ _).alloc (Nat.le_refl _) _
      have xV : Blk V wr.heap.size 53 #[.int .i64 x.f, .int .i64 x.s, .int .i64 x.a] := by rw [hV]; exact Blk.new _ _ _
      have tV : TwoR V W.heap.size A1 c1 (ownK p f k) A2 c2 (numsK p f k) := by rw [hV]; exact H2.out.alloc _
      have y0 : V.cell? ⟨wr.heap.size, 0, none⟩ = some (.int .i64 x.f) := xV.cell 0
      have y1 : V.cell? ⟨wr.heap.size, 1, none⟩ = some (.int .i64 x.s) := xV.cell 1
      have y2 : V.cell? ⟨wr.heap.size, 2, none⟩ = some (.int .i64 x.a) := xV.cell 2
      have HV := Lib.hid hV
      have TV := Lib.hid tV
      have zV := bV.size
      have kV := hbw.trans (bV.mono zw)
      clear hx hxd hV bV xV tV
      by_cases hxe : x.f = (f : Int)
      · have HO := Lib.hid (ownK_yes (p := p) (f := f) (k := k) (hxf.trans hxe))
        have HN := Lib.hid (numsK_yes (p := p) (f := f) (k := k) (hxf.trans hxe))
        have hlo : (ownK p f k).length ≤ k := by rw [ownK_len]; exact numsK_len p f k
        have hln := numsK_len p f k
        obtain ⟨ow, how⟩ : ∃ ow, ow = ownK p f k := ⟨_, rfl⟩
        obtain ⟨nu, hnu⟩ : ∃ nu, nu = numsK p f k := ⟨_, rfl⟩
        obtain ⟨ow', how'⟩ : ∃ ow', ow' = ow ++ [x] := ⟨_, rfl⟩
        obtain ⟨nu', hnu'⟩ : ∃ nu', nu' = nu ++ [k] := ⟨_, rfl⟩
        rw [← how] at hlo HO TV ⊢
        rw [← hnu] at hln HN TV ⊢
        rw [HXD.out, ← how'] at HO
        rw [← hnu'] at HN
        have HOW := Lib.hid how'
        have HNU := Lib.hid hnu'
        rw [hxe] at y0
        have q1 : ow.length + [x].length ≤ maxLen := by simp only [maxLen, List.length_cons, List.length_nil]; omega
        have q2 : (ow.length + [x].length) * 24 ≤ 140737488355328 := by simp only [List.length_cons, List.length_nil]; omega
        have q3 : nu.length + [k].length ≤ maxLen := by simp only [maxLen, List.length_cons, List.length_nil]; omega
        have q4 : (nu.length + [k].length) * 8 ≤ 140737488355328 := by simp only [List.length_cons, List.length_nil]; omega
        have zWV : W.heap.size ≤ V.heap.size := kV.size
        have hnewP : RdP (V.alloc (.cells #[.int .i64 x.f, .int .i64 x.s, .int .i64 x.a] 53)) (V.heap.size + 1) (some ⟨V.heap.size, 0, none⟩) [x] := RdP.new_ x
        rw [hxe] at hnewP
        have HnP := Lib.hid hnewP
        clear hxf how hnu how' hnu' hnewP hxe
        go_upto_region 6 with fail
        rw [← HV.out]
        go_wp2_with (first
          | (at_builtin; refine wpList_append_rd _ Pk.cs rfl (.tmp 28) (.tmp 30) 46 rfl W.heap.size 53 i0 (.agg #[.int .i64 0, .int .i64 0, .int .i64 0]) 3 24 Tryz.underlying46 hi0 hz0 hz1 hz2 rfl (by omega) Pk.cs_len Pk.cs_one (.slice A1 ow.length c1) ow.length (ow.flatMap Pk.cs) rfl (TV.out.r1.alloc _) (V.heap.size + 1) (some ⟨V.heap.size, 0, none⟩) 1 [x] rfl HnP.out q1 q2 (le_alloc zWV _) ?_; intro v3 w3 row3 g3 at3; obtain ⟨A5, c5, hv5, row3⟩ := own_app row3 (by omega); rw [← HOW.out] at hv5 row3; rw [hv5] at at3 ⊢; clear hv5; have r2' := own_keep TV.out.r2 g3 (fun b hb e => TV.out.ne b e hb); have z3 : W.heap.size ≤ w3.heap.size := Nat.le_trans (le_alloc zWV _) g3.size)
          | (at_builtin; refine wpList_append_rd _ nCs rfl (.tmp 32) (.tmp 34) 27 rfl W.heap.size 3 i1 (.int .i64 0) 1 8 Tryz.underlying27 hi1 hy0 hy1 hy2 rfl (by omega) nCs_len nCs_one (.slice A2 nu.length c2) nu.length (nu.flatMap nCs) rfl (r2'.alloc _) (w3.heap.size + 1) (some ⟨w3.heap.size, 0, none⟩) 1 [k] rfl (Rd.new_ rfl (by omega) nCs_len) q3 q4 (le_alloc z3 _) ?_; intro v4 w4 row4 g4 at4; obtain ⟨A6, c6, hv6, row4⟩ := own_app row4 (by omega); rw [← HNU.out] at hv6 row4; rw [hv6] at at4 ⊢; clear hv6))
        have k3 := below_app (kV.alloc zWV _) (TV.out.r1.alloc _) g3 (Nat.le_refl _) (le_alloc zWV _)
        have k4 := below_app (k3.alloc z3 _) (r2'.alloc _) g4 (Nat.le_refl _) (le_alloc z3 _)
        have t4 := TV.out.step row3 g3 at3 row4 g4 at4
        go_roundw
        case rel => exact ⟨k + 1, A5, c5, A6, c6, hlt, by rw [HO.out], by rw [HN.out], by go_num, by rw [HO.out, HN.out]; exact t4, k4⟩
        case measure => simp [intOf]; omega
      · have hne : ¬ fOf p k = (f : Int) := by rw [hxf]; exact hxe
        have HO := Lib.hid (ownK_no (p := p) hne)
        have HN := Lib.hid (numsK_no (p := p) hne)
        clear hne hxf
        go_upto_region 6 with fail
        rw [← HV.out]
        go_wp2_with fail
        go_roundw
        case rel => exact ⟨k + 1, A1, c1, A2, c2, hlt, by rw [HO.out], by rw [HN.out], by go_num, by rw [HO.out, HN.out]; exact TV.out, kV⟩
        case measure => simp [intOf]; omega
    · obtain rfl : k = p.length := by omega
      have zWg : g < W.heap.size := Nat.lt_of_lt_of_le hgl zW
      have haw : IA wr g p.length a := HA.out.same (kw.block g hgl)
      have HAW := Lib.hid haw
      obtain ⟨ow, how⟩ : ∃ ow, ow = ownK p f p.length := ⟨_, rfl⟩
      obtain ⟨nu, hnu⟩ : ∃ nu, nu = numsK p f p.length := ⟨_, rfl⟩
      have hlen : ow.length = nu.length := by rw [how, hnu]; exact ownK_len _ _ _
      have hpo : (pktErr ow).1 = 0 := by rw [how]; exact pktErr_sub HPK.out (ownK_sub p f)
      have h2 := H2.out
      rw [← how, ← hnu] at h2
      rw [← how, ← hnu]
      have HOW := Lib.hid how
      have HNU := Lib.hid hnu
      have RN0 := Lib.hid h2.r2
      have RO0 := Lib.hid h2.r1
      have HPO := Lib.hid hpo
      have hn300 : nu.length ≤ 300 := by rw [HNU.out]; have := numsK_len p f p.length; omega
      have x0 : wr.cell? ⟨w.heap.size, 0, none⟩ = some (.slice (some ⟨b, o, none⟩) 8 cc) := ((XW.out.below hbw XW.out.lt).cell 0).trans rfl
      have d0' : wr.cell? ⟨b, o + f, none⟩ = some (.slice ac l.length cl) := (kw.cell (p := ⟨b, o + f, none⟩) (by show b < w.heap.size; omega)).trans d0
      have r1 : (0 : Int) ≤ (f : Int) := by omega
      have r2 : (f : Int) < 8 := by omega
      clear how hnu hpo h2 haw d0 hk hlt
      by_cases h0 : l = []
      · have hfb : flowBad l p f = -1 := by unfold flowBad shpR; rw [if_pos h0, if_pos rfl]
        have HFB := Lib.hid hfb
        obtain ⟨OS, hOS⟩ : ∃ OS, OS = ow := ⟨_, rfl⟩
        have HSH := Lib.hid (show (shpR l p f).1 = OS by unfold shpR; rw [if_pos h0, hOS, HOW.out])
        have hl0 : l.length = 0 := by rw [h0]; rfl
        rw [hl0] at d0'
        rw [← hOS] at RO0 hlen ⊢
        have HL := Lib.hid hlen
        have RO := Lib.hid RO0.out
        have RN := Lib.hid RN0.out
        have KZ := Lib.hid kw
        have IZ := Lib.hid HAW.out
        obtain ⟨wz, hwz⟩ : ∃ wz : World, wz = wr := ⟨_, rfl⟩
        subst hwz
        clear hfb hOS hlen hl0 h0
        go_wp2_with fail
        go_loopw [68] (fun iv wx => ∃ (k : Nat) (a' : Nat → Int), k ≤ nu.length ∧ iv = .int .i64 k ∧ IA wx g p.length a' ∧ atS a nu OS = atS a' (nu.drop k) (OS.drop k) ∧ OnlyG g wz wx) (fun iv _ => nu.length - (intOf iv).toNat)
        case atStart => exact ⟨0, a, Nat.zero_le _, rfl, IZ.out, rfl, OnlyG.refl _ _⟩
        case round =>
          obtain ⟨k, a', hk, rfl, hia, hat, hon⟩ := hrel
          have HIA := Lib.hid hia
          have HAT := Lib.hid hat
          have HON := Lib.hid hon
          clear hia hat hon
          by_cases hlt : k < nu.length
          · have hltO : k < OS.length := by rw [HL.out]; exact hlt
            have rO := own_sameG RO.out (fun b hb => HON.out.blk b (fun e => by have := own_ge RO.out b hb; omega))
            have rN := own_sameG RN.out (fun b hb => HON.out.blk b (fun e => by have := own_ge RN.out b hb; omega))
            obtain ⟨b2, hA2, _, _, y0⟩ := own_get rO (by omega) Pk.cs_len hltO
            obtain ⟨b3, hA3, _, _, y1⟩ := own_get rN (by omega) nCs_len hlt
            have z0 := y0 2 _ rfl
            have z1 := y1 0 _ rfl
            simp only [Nat.mul_one, Nat.add_zero] at z1
            subst hA2
            subst hA3
            have hst := atS_drop (a := a) hlt hltO a'
            have hmm : nu[k] ∈ numsK p f p.length := by rw [← HNU.out]; exact List.getElem_mem hlt
            have hm : nu[k] < p.length := (numsK_mem.1 hmm).1
            obtain ⟨m, hme⟩ : ∃ m, m = nu[k] := ⟨_, rfl⟩
            obtain ⟨t, hte⟩ : ∃ t, t = OS[k].a := ⟨_, rfl⟩
            rw [← hme, ← hte] at hst
            rw [← hme] at z1 hm
            rw [← hte] at z0
            have c0 := HIA.out.cell (k := m) hm
            have f0 := HIA.out.frozen m
            have HST := Lib.hid hst
            have q1 : (0 : Int) ≤ (k : Int) := by omega
            have q2 : (k : Int) < (nu.length : Int) := by omega
            have q3 : (k : Int) < (OS.length : Int) := by omega
            have q4 : (0 : Int) ≤ (m : Int) := by omega
            have q5 : (m : Int) < (p.length : Int) := by omega
            have hia2 : IA (wr.setCell ⟨g, m, none⟩ (.int .i64 t)) g p.length (upA a' m t) := HIA.out.set_ (k := m) (.int .i64 t) fun j _ => by
              show Value.int .i64 (upA a' m t j) = if j = m then .int .i64 t else .int .i64 (a' j)
              unfold upA
              split <;> rfl
            have HIA2 := Lib.hid hia2
            clear hst hme hte hia2 y0 y1 rO rN hmm
            go_wp2_with fail
            go_roundw
            case rel => exact ⟨k + 1, upA a' m t, hlt, by go_num, HIA2.out, by rw [HAT.out]; exact HST.out, HON.out.set_ m _⟩
            case measure => simp [intOf]; omega
          · have hfin : atS a nu OS = a' := by
              rw [HAT.out, List.drop_eq_nil_of_le (by omega)]
              cases OS.drop k <;> rfl
            have HF := Lib.hid hfin
            clear hfin
            go_wp2_with fail
            go_ret
            unfold GshPost
            rw [HFB.out, if_pos rfl, if_pos rfl]
            refine ⟨_, rfl, .nil, ?_, (But.of_below KZ.out).trans (But.of_only HON.out)⟩
            rw [HSH.out, ← HNU.out, HF.out]
            exact HIA.out
      · have h1 : (crvErr l).1 = 0 := HCL.out.resolve_left h0
        have hl0 : (0 : Int) < (l.length : Int) := by have := List.length_pos_iff.2 h0; omega
        have HSR := Lib.hid (show shpR l p f = shapeR l ow by unfold shpR; rw [if_neg h0, HOW.out])
        have HSE := Lib.hid (show shapeErr l ow = if (shapeR l ow).2 = -1 then (0, -1) else (4, (shapeR l ow).2) by unfold shapeErr; rw [if_neg (by rw [HPO.out]; simp), if_neg (by rw [h1]; simp)])
        have hrd2 := ((HRD.out.below (kw.mono hB)).more (Nat.le_trans hB kw.size))
        have hpd2 : RdP wr wr.heap.size A1 ow := RdP.of_own RO0.out
        have hS2 := (((hS.s.below (kw.mono hB)).more (Nat.le_trans hB kw.size)).sub (ks' := [2, 3, 4, 5]) (by simp))
        have HLEN := Lib.hid hlen
        clear h0 h1 hlen
        by_cases hbad : (shapeR l ow).2 = -1
        · have HFB := Lib.hid (show flowBad l p f = -1 by unfold flowBad; rw [HSR.out, if_pos hbad])
          have HE := Lib.hid (show shapeErr l ow = (0, -1) by rw [HSE.out, if_pos hbad])
          obtain ⟨OS, hOS⟩ : ∃ OS, OS = shapeV l ow := ⟨_, rfl⟩
          have hOS2 : OS = (shapeR l ow).1 := by rw [hOS]; unfold shapeV; rw [HE.out]; rfl
          have HSH := Lib.hid (show (shpR l p f).1 = OS by rw [HSR.out, hOS2])
          have hlen2 : OS.length = nu.length := by
            have := (shp_ok (l := l) (f := f) HPK.out (by rcases HCL.out with e | e; exact .inl e; exact .inr (crvErr_ok e).2.2.1) (by rw [HSR.out]; exact hbad)).len
            rw [HSH.out, ← HNU.out] at this
            exact this
          have HL := Lib.hid hlen2
          have HOS := Lib.hid hOS
          clear hbad hOS hOS2 hlen2
          go_wp2_with fail
          refine (shape_any ac A1 cl c1 l ow S wr wr.heap.size (Nat.le_refl _) hrd2 hpd2 hS2 hll (by rw [HLEN.out]; omega)).mono ?_
          rintro e wz ⟨AO, cO, v, rfl, ro, hv, kz⟩
          obtain rfl := hv.nil_of (by rw [HE.out])
          rw [← HOS.out] at ro ⊢
          have kz' := kw.trans (kz.mono kw.size)
          have RO := Lib.hid (own_mono ro (Nat.le_trans zw (Nat.le_refl _)))
          have RN := Lib.hid (own_below RN0.out kz (Nat.le_refl _))
          have KZ := Lib.hid kz'
          have IZ := Lib.hid (HAW.out.same (kz.block g (Nat.lt_of_lt_of_le zWg zw)))
          clear ro hv x0 d0' hrd2 hpd2 hS2 kz'
          go_wp2_with fail
          go_loopw [68] (fun iv wx => ∃ (k : Nat) (a' : Nat → Int), k ≤ nu.length ∧ iv = .int .i64 k ∧ IA wx g p.length a' ∧ atS a nu OS = atS a' (nu.drop k) (OS.drop k) ∧ OnlyG g wz wx) (fun iv _ => nu.length - (intOf iv).toNat)
          case atStart => exact ⟨0, a, Nat.zero_le _, rfl, IZ.out, rfl, OnlyG.refl _ _⟩
          case round =>
            obtain ⟨k, a', hk, rfl, hia, hat, hon⟩ := hrel
            have HIA := Lib.hid hia
            have HAT := Lib.hid hat
            have HON := Lib.hid hon
            clear hia hat hon
            by_cases hlt : k < nu.length
            · have hltO : k < OS.length := by rw [HL.out]; exact hlt
              have rO := own_sameG RO.out (fun b hb => HON.out.blk b (fun e => by have := own_ge RO.out b hb; omega))
              have rN := own_sameG RN.out (fun b hb => HON.out.blk b (fun e => by have := own_ge RN.out b hb; omega))
              obtain ⟨b2, hA2, _, _, y0⟩ := own_get rO (by omega) Pk.cs_len hltO
              obtain ⟨b3, hA3, _, _, y1⟩ := own_get rN (by omega) nCs_len hlt
              have z0 := y0 2 _ rfl
              have z1 := y1 0 _ rfl
              simp only [Nat.mul_one, Nat.add_zero] at z1
              subst hA2
              subst hA3
              have hst := atS_drop (a := a) hlt hltO a'
              have hmm : nu[k] ∈ numsK p f p.length := by rw [← HNU.out]; exact List.getElem_mem hlt
              have hm : nu[k] < p.length := (numsK_mem.1 hmm).1
              obtain ⟨m, hme⟩ : ∃ m, m = nu[k] := ⟨_, rfl⟩
              obtain ⟨t, hte⟩ : ∃ t, t = OS[k].a := ⟨_, rfl⟩
              rw [← hme, ← hte] at hst
              rw [← hme] at z1 hm
              rw [← hte] at z0
              have c0 := HIA.out.cell (k := m) hm
              have f0 := HIA.out.frozen m
              have HST := Lib.hid hst
              have q1 : (0 : Int) ≤ (k : Int) := by omega
              have q2 : (k : Int) < (nu.length : Int) := by omega
              have q3 : (k : Int) < (OS.length : Int) := by omega
              have q4 : (0 : Int) ≤ (m : Int) := by omega
              have q5 : (m : Int) < (p.length : Int) := by omega
              have hia2 : IA (wr.setCell ⟨g, m, none⟩ (.int .i64 t)) g p.length (upA a' m t) := HIA.out.set_ (k := m) (.int .i64 t) fun j _ => by
                show Value.int .i64 (upA a' m t j) = if j = m then .int .i64 t else .int .i64 (a' j)
                unfold upA
                split <;> rfl
              have HIA2 := Lib.hid hia2
              clear hst hme hte hia2 y0 y1 rO rN hmm
              go_wp2_with fail
              go_roundw
              case rel => exact ⟨k + 1, upA a' m t, hlt, by go_num, HIA2.out, by rw [HAT.out]; exact HST.out, HON.out.set_ m _⟩
              case measure => simp [intOf]; omega
            · have hfin : atS a nu OS = a' := by
                rw [HAT.out, List.drop_eq_nil_of_le (by omega)]
                cases OS.drop k <;> rfl
              have HF := Lib.hid hfin
              clear hfin
              go_wp2_with fail
              go_ret
              unfold GshPost
              rw [HFB.out, if_pos rfl, if_pos rfl]
              refine ⟨_, rfl, .nil, ?_, (But.of_below KZ.out).trans (But.of_only HON.out)⟩
              rw [HSH.out, ← HNU.out, HF.out]
              exact HIA.out
        · obtain ⟨m, hm⟩ : ∃ m : Nat, (shapeR l ow).2 = (m : Int) := by
            rcases shapeGo_bad ow (l.map newB) 0 0 with h9 | h9
            · exact absurd h9 hbad
            · exact ⟨(shapeR l ow).2.toNat, by unfold shapeR; omega⟩
          have hml : m < nu.length := by
            have h9 := (shapeGo_bad ow (l.map newB) 0 0).resolve_left hbad
            have e : (shapeGo ow (l.map newB) 0 0).2 = (m : Int) := hm
            have e2 := HLEN.out
            omega
          obtain ⟨t, ht⟩ : ∃ t, t = nu[m] := ⟨_, rfl⟩
          have HFB := Lib.hid (show flowBad l p f = (t : Int) by
            unfold flowBad
            rw [HSR.out, if_neg hbad, hm, Int.toNat_natCast, ← HNU.out, ht]
            simp [List.getD, hml])
          have HE := Lib.hid (show shapeErr l ow = (4, (m : Int)) by rw [HSE.out, if_neg hbad, hm])
          have HT := Lib.hid ht
          clear hbad hm ht
          go_wp2_with fail
          refine (shape_any ac A1 cl c1 l ow S wr wr.heap.size (Nat.le_refl _) hrd2 hpd2 hS2 hll (by rw [HLEN.out]; omega)).mono ?_
          rintro e wz ⟨AO, cO, v, rfl, -, hv, kz⟩
          rw [HE.out] at hv
          have HV := Lib.hid hv
          obtain ⟨T, ad, rfl⟩ := hv.some_of (by simp)
          have kz' := kw.trans (kz.mono kw.size)
          have hrn := own_below RN0.out kz (Nat.le_refl _)
          obtain ⟨b3, hA3, _, hb3, y1⟩ := own_get hrn (by omega) nCs_len hml
          have z1 := y1 0 _ rfl
          simp only [Nat.mul_one, Nat.add_zero] at z1
          subst hA3
          rw [← HT.out] at z1
          have KZ := Lib.hid kz'
          have HIZ := Lib.hid (HAW.out.same (kz.block g (Nat.lt_of_lt_of_le zWg zw)))
          have g4 : wz.cell? ⟨G 4, 0, none⟩ = some (sv S 4) := ((hS.s.below (kz'.mono hB)) 4 (by simp)).2.2
          have l4 := World.block_lt_of_cell? wz _ g4
          simp only [G, sv] at g4 l4
          have zz := kz'.size
          have q1 : (0 : Int) ≤ (m : Int) := by omega
          have q2 : (m : Int) < (nu.length : Int) := by omega
          clear hv x0 d0' hrd2 hpd2 hS2 kz' kz y1 hrn
          go_wp2_with fail
          go_region_held3 (fun w' => w'.cell? ⟨b3, m, none⟩ = some (.int .i64 (t : Int)) ∧ w'.cell? ⟨3, 0, none⟩ = some (.iface 242 (.pointer (some (S 4)))))
            (first
              | go_keep
              | exact ⟨(k6.cell (p := ⟨b3, m, none⟩) hb3).trans z1, (k6.cell (p := ⟨3, 0, none⟩) l4).trans g4⟩)
            (first
             | (go_at_call 125; refine (place_any _ 4 (m : Int) S wz.drew B (Nat.le_trans hB zz) (hS.below ((KZ.out.drew).mono hB)) (HV.out.below (Below.refl _ _).drew) (by omega)).mono ?_; rintro e w6 ⟨rfl, k6d⟩; have k6 := below_undrewR k6d))
          all_goals
            have k6' := (But.of_below (g := g) KZ.out).trans (But.of_below k6)
            have hia := HIZ.out.same (k6.block g HIZ.out.lt)
            have HIA := Lib.hid hia
            have K6 := Lib.hid k6'
            clear z1 g4 k6 k6' hia
            go_wp2_with fail
            go_ret
            unfold GshPost
            rw [HFB.out]
            rw [if_neg (show ¬ (t : Int) = -1 by omega), if_neg (show ¬ (t : Int) = -1 by omega)]
            exact ⟨_, rfl, .fault 4 (by omega) (by omega) _ _ (by simp) (heap_alloc_new _ _), HIA.out.alloc _, K6.out.trans (But.of_below ((Below.refl _ _).alloc (Nat.le_refl _) _))⟩
end
end Go.Proofs.YtoomffajodheaaaGreatDoor
