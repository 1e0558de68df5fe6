/- The document's link round by round in memory: three rows of the call's own, the row of flows, what is sent; those that wait. Conditions written at each. -/
import Derived.Test.YthgpbdlmadjndaaGreatDoorDocPl
import Derived.Test.YthgpbdlmadjndaaGreatDoorBaseM
import Derived.Test.YthgpbdlmadjndaaGreatDoorRdM
import Derived.Test.YthgpbdlmadjndaaGreatDoorBools
namespace Go.Proofs.YthgpbdlmadjndaaGreatDoor
open Go.RowKit
set_option maxRecDepth 100000
theorem row_sameR {w w' : World} {base : Nat} {e : TypeId} {size : Nat} {v : Value} {n : Nat} {xs : List Value} (h : w.ownsRow base e size v n xs) (hs : ∀ g, v.ownBlock = some g → w'.heap[g]? = w.heap[g]?) : w'.ownsRow base e size v n xs := by
  obtain ⟨h1, h2⟩ := h
  refine ⟨h1, ?_⟩
  rcases h2 with h2 | ⟨g, cap, cur, hv, hg, hh, r⟩
  · exact .inl h2
  · exact .inr ⟨g, cap, cur, hv, hg, (hs g (by rw [hv]; rfl)).trans hh, r⟩
theorem bool_newR (n : Nat) : (madeCells (Value.cells (.bool false)) (n * 1)).toList = List.replicate n (.bool false) := by
  rw [show Value.cells (.bool false) = #[.bool false] from rfl, toList_madeCells_one, Nat.mul_one]
theorem int_newR (n : Nat) : (madeCells (Value.cells (.int .i64 0)) (n * 1)).toList = List.replicate n (.int .i64 0) := by
  rw [show Value.cells (.int .i64 0) = #[.int .i64 0] from rfl, toList_madeCells_one, Nat.mul_one]
theorem waitB_no1 {p : List Pk} {d : Nat → Bool} {g : Nat} {now : Int} {j : Nat} (h : flN p j ≠ g) : waitB p d g now j = false := by unfold waitB; rw [decide_eq_false h]; rfl
theorem waitB_no2 {p : List Pk} {d : Nat → Bool} {g : Nat} {now : Int} {j : Nat} (h : d j = true) : waitB p d g now j = false := by unfold waitB; rw [h]; simp
theorem waitB_no3 {p : List Pk} {d : Nat → Bool} {g : Nat} {now : Int} {j : Nat} (h : ¬ aOf p j ≤ now) : waitB p d g now j = false := by unfold waitB; rw [decide_eq_false h]; simp
theorem waitB_yes {p : List Pk} {d : Nat → Bool} {g : Nat} {now : Int} {j : Nat} (h1 : flN p j = g) (h2 : d j = false) (h3 : aOf p j ≤ now) : waitB p d g now j = true := by unfold waitB; rw [decide_eq_true h1, h2, decide_eq_true h3]; rfl
theorem filt_no {P : Nat → Bool} {k : Nat} (h : P k = false) : (List.range (k + 1)).filter P = (List.range k).filter P := by
  rw [List.range_succ, List.filter_append]
  simp [List.filter, h]
theorem filt_yes {P : Nat → Bool} {k : Nat} (h : P k = true) : (List.range (k + 1)).filter P = (List.range k).filter P ++ [k] := by
  rw [List.range_succ, List.filter_append]
  simp [List.filter, h]
set_option maxHeartbeats 2000000 in
theorem waiting_any (A : Option Addr) (c : Nat) (p : List Pk) (gD : Nat) (d : Nat → Bool) (g : Nat) (now : Int) (w : World) (B : Nat) (hB : B ≤ w.heap.size) (h : RdP w B A p) (hp : ∀ x ∈ p, okPk x) (hl : p.length ≤ 300) (hd : Arw w gD 4 p.length (fun j => .bool (d j))) :
    Calls Tryz.prog 106 #[.slice A p.length c, .slice (some ⟨gD, 0, none⟩) p.length p.length, .int .i64 (g : Int), .int .i64 now] w (EndOwn nCs 1 3 (waitL p d g now) w) := by
  obtain ⟨i0, hi0, hz0, hz1, hz2⟩ := info_parts infoInt
  go_enter Tryz.func106, Tryz.ntmps106
  go_wp2_with fail
  go_loopw [9, 10] (fun ov iv wr => ∃ (k : Nat) (acc : List Nat) (A1 : Option Addr) (c1 : Nat), k ≤ p.length ∧ iv = .int .i64 k ∧ ov = .slice A1 acc.length c1 ∧ acc = (List.range k).filter (waitB p d g now) ∧ acc.length ≤ k ∧ wr.ownsRow w.heap.size 3 1 (.slice A1 acc.length c1) acc.length (acc.flatMap nCs) ∧ Below w.heap.size w wr) (fun _ iv _ => p.length - (intOf iv).toNat)
  case atStart => exact ⟨0, [], none, 0, Nat.zero_le _, rfl, rfl, rfl, Nat.le_refl _, ⟨by simp, .inl ⟨rfl, rfl⟩⟩, Below.refl _ _⟩
  case round =>
    obtain ⟨k, acc, A1, c1, hk, rfl, rfl, hacc, hal, row, hbw⟩ := hrel
    have Row := Lib.hid row
    have zw := hbw.size
    have Hacc := Lib.hid hacc
    clear row hacc
    by_cases hlt : k < p.length
    · obtain ⟨b, o, rfl, hb, d0, d1, d2⟩ := RdP.get (h.below (hbw.mono hB)) hlt
      have hok := hp _ (List.getElem_mem hlt)
      obtain ⟨f, hf⟩ : ∃ f : Nat, p[k].f = f := ⟨p[k].f.toNat, by have := hok.1; omega⟩
      obtain ⟨pa, hpa⟩ : ∃ pa, pa = p[k].a := ⟨_, rfl⟩
      have hfl : flN p k = f := by unfold flN; rw [fOf_of hlt, hf]; simp
      have haa : aOf p k = pa := by rw [aOf_of hlt, hpa]
      rw [hf] at d0
      rw [← hpa] at d2
      have e0 : wr.cell? ⟨gD, k, none⟩ = some (.bool (d k)) := (hbw.cell (p := ⟨gD, k, none⟩) hd.lt).trans (hd.cell hlt)
      have q1 : (0 : Int) ≤ (k : Int) := by omega
      have q2 : (k : Int) < (p.length : Int) := by omega
      have q3 : ¬ (k : Int) < 0 := by omega
      clear hok hf hpa
      by_cases hgf : f = g
      · subst hgf
        have b1' : ((f : Int) == (f : Int)) = true := by simp
        cases hdk : d k with
        | true =>
          rw [hdk] at e0
          have Hn := Lib.hid (filt_no (P := waitB p d f now) (waitB_no2 hdk))
          clear hdk
          go_wp2_with fail
          go_roundw
          case rel => exact ⟨k + 1, acc, A1, c1, hlt, by go_num, rfl, by rw [Hn.out]; exact Hacc.out, by omega, Row.out, hbw⟩
          case measure => simp [intOf]; omega
        | false =>
          rw [hdk] at e0
          by_cases hle : pa ≤ now
          · have Hn := Lib.hid (filt_yes (P := waitB p d f now) (waitB_yes hfl hdk (by rw [haa]; exact hle)))
            have Hnew := Lib.hid (show Rd (wr.alloc (.cells #[.int .i64 (k : Int)] 3)) (wr.heap.size + 1) 1 nCs (some ⟨wr.heap.size, 0, none⟩) [k] from Rd.of_block (heap_alloc_new _ _) rfl (Nat.lt_succ_self _) (by omega) nCs_len)
            clear hdk
            go_wp2_with (at_builtin; refine wpList_append_rd _ nCs rfl (.tmp 40) (.tmp 42) 23 rfl w.heap.size 3 i0 (.int .i64 0) 1 8 Tryz.underlying23 hi0 hz0 hz1 hz2 rfl (by omega) nCs_len nCs_one (.slice A1 acc.length c1) acc.length (acc.flatMap nCs) rfl (Row.out.alloc _) (wr.heap.size + 1) (some ⟨wr.heap.size, 0, none⟩) 1 [k] rfl Hnew.out (by simp only [maxLen, List.length_cons, List.length_nil]; omega) (by simp only [List.length_cons, List.length_nil]; omega) (by simp; omega) ?_; intro v3 w3 row3 g3 at3; obtain ⟨A3, c3, hv3, row3⟩ := own_app (l := acc) (l' := [k]) row3 (by omega); rw [hv3] at at3 ⊢; clear hv3)
            have k3 : Below w.heap.size w w3 := below_app (hbw.alloc zw _) (Row.out.alloc _) g3 (Nat.le_refl _) (le_alloc zw _)
            refine ⟨⟨k + 1, acc ++ [k], A3, c3, hlt, by go_num, by rw [List.length_append]; rfl, by rw [Hn.out, ← Hacc.out], by simp; omega, row3, k3⟩, ?_⟩
            simp [intOf]; omega
          · have Hn := Lib.hid (filt_no (P := waitB p d f now) (waitB_no3 (by rw [haa]; exact hle)))
            clear hdk
            go_wp2_with fail
            go_roundw
            case rel => exact ⟨k + 1, acc, A1, c1, hlt, by go_num, rfl, by rw [Hn.out]; exact Hacc.out, by omega, Row.out, hbw⟩
            case measure => simp [intOf]; omega
      · have b1' : ((f : Int) == (g : Int)) = false := by simp; omega
        have Hn := Lib.hid (filt_no (P := waitB p d g now) (waitB_no1 (by rw [hfl]; exact hgf)))
        go_wp2_with fail
        go_roundw
        case rel => exact ⟨k + 1, acc, A1, c1, hlt, by go_num, rfl, by rw [Hn.out]; exact Hacc.out, by omega, Row.out, hbw⟩
        case measure => simp [intOf]; omega
    · have hke : k = p.length := by omega
      have Hw := Lib.hid (show waitL p d g now = acc by rw [Hacc.out, hke]; rfl)
      clear hke
      go_wp2_with fail
      go_ret
      rw [Hw.out]
      exact ⟨A1, c1, rfl, Row.out, hbw⟩
/-- The link in memory. -/
structure RRow (p : List Pk) (out : List Sn) (B base : Nat) (w1 : World) (gC gD gR : Nat) (A5 : Option Addr) (c5 k : Nat) (s : RS) (A6 : Option Addr) (c6 : Nat) (wr : World) : Prop where
  cm : Arw wr gC 4 p.length fun j => .bool (decide (j < k))
  dn : Arw wr gD 4 p.length fun j => .bool (dnB out j)
  cr : Arw wr gR 3 8 fun j => .int .i64 (s.c j)
  row : wr.ownsRow base 62 3 (.slice A5 out.length c5) out.length (out.flatMap Sn.cs)
  rl : MRow wr base 3 (.slice A6 s.row.length c6) s.row
  bel : Below B w1 wr
  ge : B ≤ gC ∧ B ≤ gD ∧ B ≤ gR
  lo : gC < base ∧ gD < base ∧ gR < base
  n1 : gC ≠ gD ∧ gC ≠ gR ∧ gD ≠ gR
  bs : base ≤ wr.heap.size
  rn : ∀ b, (Value.slice A6 s.row.length c6).ownBlock = some b → (Value.slice A5 out.length c5).ownBlock ≠ some b
section
variable {p : List Pk} {out : List Sn} {B base : Nat} {w1 : World} {gC gD gR : Nat} {A5 : Option Addr} {c5 k : Nat} {s : RS} {A6 : Option Addr} {c6 : Nat} {wr : World}
theorem RRow.drewN (h : RRow p out B base w1 gC gD gR A5 c5 k s A6 c6 wr) (m : Nat) : RRow p out B base w1 gC gD gR A5 c5 k s A6 c6 (wr.drewN m) := { h with cm := h.cm, dn := h.dn, cr := h.cr, row := h.row, rl := h.rl, bel := below_drewN h.bel m, bs := h.bs }
theorem RRow.size_ (h : RRow p out B base w1 gC gD gR A5 c5 k s A6 c6 wr) : B ≤ wr.heap.size := Nat.le_trans h.ge.1 (Nat.le_of_lt h.cm.lt)
/-- Whatever leaves all that was there as it was. -/
theorem RRow.below_ (h : RRow p out B base w1 gC gD gR A5 c5 k s A6 c6 wr) {w' : World} (hb : Below wr.heap.size wr w') : RRow p out B base w1 gC gD gR A5 c5 k s A6 c6 w' :=
  { h with cm := h.cm.same (hb.block _ h.cm.lt), dn := h.dn.same (hb.block _ h.dn.lt), cr := h.cr.same (hb.block _ h.cr.lt), row := row_sameR h.row fun b hh => hb.block b (own_lt h.row b hh), rl := h.rl.same fun b hh => hb.block b (h.rl.lt b hh).2, bel := h.bel.trans (hb.mono h.size_), bs := Nat.le_trans h.bs hb.size }
/-- A packet comes whose flow is in the row, or is served. -/
theorem RRow.come0 (h : RRow p out B base w1 gC gD gR A5 c5 k s A6 c6 wr) (hm : flN p k ∈ lst s) : RRow p out B base w1 gC gD gR A5 c5 (k + 1) (rCome p s k) A6 c6 (wr.setCell ⟨gC, k, none⟩ (.bool true)) := by
  obtain ⟨a1, a2, a3⟩ := h.n1
  have hr : (rCome p s k).row = s.row := if_pos hm
  have hs : ∀ b, b ≠ gC → (wr.setCell ⟨gC, k, none⟩ (.bool true)).heap[b]? = wr.heap[b]? := fun b hb => Below.heap_setCell wr ⟨gC, k, none⟩ _ b hb
  refine { h with cm := ?_, dn := h.dn.same (hs _ a1.symm), cr := h.cr.same (hs _ a2.symm), row := row_sameR h.row fun b hb => hs b ?_, rl := ?_, bel := h.bel.setCell (p := ⟨gC, k, none⟩) h.ge.1 _, bs := by rw [setCell_size]; exact h.bs, rn := by rw [hr]; exact h.rn }
  · exact h.cm.set_ (k := k) (.bool true) fun j _ => by
      by_cases hj : j = k
      · subst hj; rw [if_pos rfl]; simp
      · rw [if_neg hj]; congr 1; exact decide_eq_decide.2 (by omega)
  · have := own_ge h.row b hb; have := h.lo; omega
  · rw [hr]
    exact h.rl.same fun b hb => hs b (by have := (h.rl.lt b hb).1; have := h.lo; omega)
/-- A packet comes whose flow comes into the row. -/
theorem RRow.come1 (h : RRow p out B base w1 gC gD gR A5 c5 k s A6 c6 wr) (hm : ¬ flN p k ∈ lst s) {o : Obj} {w3 : World} {v3 : Value} (hr3 : MRow w3 base 3 v3 (s.row ++ [flN p k])) (hg : ((wr.setCell ⟨gC, k, none⟩ (.bool true)).alloc o).grownBy w3 (Value.slice A6 s.row.length c6).ownBlock) (ha : v3.ownBlock = (Value.slice A6 s.row.length c6).ownBlock ∨ ∃ g, v3.ownBlock = some g ∧ ((wr.setCell ⟨gC, k, none⟩ (.bool true)).alloc o).heap.size ≤ g) :
    ∃ A7 c7, v3 = .slice A7 (rCome p s k).row.length c7 ∧ RRow p out B base w1 gC gD gR A5 c5 (k + 1) (rCome p s k) A7 c7 w3 := by
  obtain ⟨a1, a2, a3⟩ := h.n1
  have hr : (rCome p s k).row = s.row ++ [flN p k] := if_neg hm
  obtain ⟨A7, c7, hv⟩ := hr3.slice
  refine ⟨A7, c7, by rw [hr]; exact hv, ?_⟩
  have hsz : ((wr.setCell ⟨gC, k, none⟩ (.bool true)).alloc o).heap.size = wr.heap.size + 1 := by simp
  have hs : ∀ b, b ≠ gC → b < wr.heap.size → (Value.slice A6 s.row.length c6).ownBlock ≠ some b → w3.heap[b]? = wr.heap[b]? := fun b hb hl hne =>
    (hg.block b (by omega) (fun e => hne e.symm)).trans ((Below.heap_alloc _ o b (by rw [setCell_size]; exact hl)).trans (Below.heap_setCell wr ⟨gC, k, none⟩ _ b hb))
  have hne : ∀ b, b < base → (Value.slice A6 s.row.length c6).ownBlock ≠ some b := fun b hb e => by have := (h.rl.lt b e).1; omega
  have hlo := h.lo
  have hbs := h.bs
  refine { h with cm := ?_, dn := h.dn.same (hs _ a1.symm (by omega) (hne _ hlo.2.1)), cr := h.cr.same (hs _ a2.symm (by omega) (hne _ hlo.2.2)), row := row_sameR h.row fun b hb => hs b ?_ (own_lt h.row b hb) (fun e => h.rn b e hb), rl := ?_, bel := ?_, bs := by have := hg.size; omega, rn := ?_ }
  · have h1 : Arw (wr.setCell ⟨gC, k, none⟩ (.bool true)) gC 4 p.length fun j => .bool (decide (j < k + 1)) := h.cm.set_ (k := k) (.bool true) fun j _ => by
      by_cases hj : j = k
      · subst hj; rw [if_pos rfl]; simp
      · rw [if_neg hj]; congr 1; exact decide_eq_decide.2 (by omega)
    exact (h1.alloc o).grown hg (fun e => hne _ hlo.1 e.symm)
  · have := own_ge h.row b hb; omega
  · rw [hr, ← hv]; exact hr3
  · have hB := h.size_
    exact ((h.bel.setCell (p := ⟨gC, k, none⟩) h.ge.1 (.bool true)).alloc (by rw [setCell_size]; exact hB) o).grown hg (by omega) fun b hb => by have := (h.rl.lt b hb).1; have := h.ge; omega
  · intro b hb e
    rw [hr, ← hv] at hb
    rcases ha with h9 | ⟨g', h9, h8⟩
    · exact h.rn b (by rw [← h9]; exact hb) e
    · have := own_lt h.row b e
      rw [hb] at h9
      injection h9 with h9
      omega
theorem RRow.congr_ (h : RRow p out B base w1 gC gD gR A5 c5 k s A6 c6 wr) {s' : RS} (hc : s'.c = s.c) (hr : s'.row = s.row) : RRow p out B base w1 gC gD gR A5 c5 k s' A6 c6 wr :=
  { h with cr := by rw [hc]; exact h.cr, rl := by rw [hr]; exact h.rl, rn := by rw [hr]; exact h.rn }
/-- A credit is set. -/
theorem RRow.setC (h : RRow p out B base w1 gC gD gR A5 c5 k s A6 c6 wr) (g : Nat) (x : Int) : RRow p out B base w1 gC gD gR A5 c5 k { s with c := upd s.c g x } A6 c6 (wr.setCell ⟨gR, g, none⟩ (.int .i64 x)) := by
  obtain ⟨a1, a2, a3⟩ := h.n1
  have hs : ∀ b, b ≠ gR → (wr.setCell ⟨gR, g, none⟩ (.int .i64 x)).heap[b]? = wr.heap[b]? := fun b hb => Below.heap_setCell wr ⟨gR, g, none⟩ _ b hb
  refine { h with cm := h.cm.same (hs _ a2), dn := h.dn.same (hs _ a3), cr := ?_, row := row_sameR h.row fun b hb => hs b ?_, rl := h.rl.same fun b hb => hs b ?_, bel := h.bel.setCell (p := ⟨gR, g, none⟩) h.ge.2.2 _, bs := by rw [setCell_size]; exact h.bs }
  · exact h.cr.set_ (k := g) (.int .i64 x) fun j _ => by
      show Value.int .i64 (upd s.c g x j) = _
      by_cases hj : j = g
      · subst hj; rw [upd_same, if_pos rfl]
      · rw [upd_other _ _ hj, if_neg hj]
  · have := own_ge h.row b hb; have := h.lo; omega
  · have := (h.rl.lt b hb).1; have := h.lo; omega
/-- The row without its head. -/
theorem RRow.setRow (h : RRow p out B base w1 gC gD gR A5 c5 k s A6 c6 wr) {r : List Nat} {A7 : Option Addr} {c7 : Nat} (hr : MRow wr base 3 (.slice A7 r.length c7) r) (hb : (Value.slice A7 r.length c7).ownBlock = (Value.slice A6 s.row.length c6).ownBlock) (o : Option Nat) : RRow p out B base w1 gC gD gR A5 c5 k { s with row := r, sv := o } A7 c7 wr :=
  { h with rl := hr, rn := fun b e => h.rn b (by rw [← hb]; exact e) }
/-- Another row of flows. -/
theorem RRow.newRow (h : RRow p out B base w1 gC gD gR A5 c5 k s A6 c6 wr) {w' : World} (hw : Below wr.heap.size wr w') {r : List Nat} {A7 : Option Addr} {c7 : Nat} (hr : MRow w' base 3 (.slice A7 r.length c7) r) (hb : ∀ b, (Value.slice A7 r.length c7).ownBlock = some b → wr.heap.size ≤ b) (o : Option Nat) : RRow p out B base w1 gC gD gR A5 c5 k { s with row := r, sv := o } A7 c7 w' := by
  have h1 := h.below_ hw
  exact { h1 with rl := hr, rn := fun b e e2 => by have := hb b e; have := own_lt h.row b e2; omega }
/-- One is sent. -/
theorem RRow.sent (h : RRow p out B base w1 gC gD gR A5 c5 k s A6 c6 wr) {b : Nat} {o o2 : Obj} {w3 : World} {A8 : Option Addr} {c8 : Nat} {x : Sn} (hx : x.p = b)
    (hr : w3.ownsRow base 62 3 (.slice A8 (out ++ [x]).length c8) (out ++ [x]).length ((out ++ [x]).flatMap Sn.cs)) (hg : (((wr.setCell ⟨gD, b, none⟩ (.bool true)).alloc o).alloc o2).grownBy w3 (Value.slice A5 out.length c5).ownBlock)
    (ha : (Value.slice A8 (out ++ [x]).length c8).ownBlock = (Value.slice A5 out.length c5).ownBlock ∨ (Value.slice A8 (out ++ [x]).length c8).ownBlock = some (((wr.setCell ⟨gD, b, none⟩ (.bool true)).alloc o).alloc o2).heap.size) :
    RRow p (out ++ [x]) B base w1 gC gD gR A8 c8 k s A6 c6 w3 := by
  obtain ⟨a1, a2, a3⟩ := h.n1
  have hsz : (((wr.setCell ⟨gD, b, none⟩ (.bool true)).alloc o).alloc o2).heap.size = wr.heap.size + 2 := by simp
  have hlo := h.lo
  have hbs := h.bs
  have hs : ∀ g, g ≠ gD → g < wr.heap.size → (Value.slice A5 out.length c5).ownBlock ≠ some g → w3.heap[g]? = wr.heap[g]? := fun g hgd hl hne =>
    (hg.block g (by omega) (fun e => hne e.symm)).trans ((Below.heap_alloc _ o2 g (by simp; omega)).trans ((Below.heap_alloc _ o g (by rw [setCell_size]; exact hl)).trans (Below.heap_setCell wr ⟨gD, b, none⟩ _ g hgd)))
  have hne : ∀ g, g < base → (Value.slice A5 out.length c5).ownBlock ≠ some g := fun g hgb e => by have := own_ge h.row g e; omega
  refine { h with cm := h.cm.same (hs _ a1 (by omega) (hne _ hlo.1)), dn := ?_, cr := h.cr.same (hs _ a3.symm (by omega) (hne _ hlo.2.2)), row := hr, rl := h.rl.same fun g e => hs g (by have := (h.rl.lt g e).1; omega) (h.rl.lt g e).2 (h.rn g e), bel := ?_, bs := by have := hg.size; omega, rn := ?_ }
  · have h1 : Arw (wr.setCell ⟨gD, b, none⟩ (.bool true)) gD 4 p.length fun j => .bool (dnB (out ++ [x]) j) := h.dn.set_ (k := b) (.bool true) fun j _ => by
      rw [dnB_add, hx]
      by_cases hj : j = b
      · subst hj; rw [if_pos rfl]; simp
      · rw [if_neg hj]
        have : ((b : Int) == (j : Int)) = false := beq_eq_false_iff_ne.2 (by omega)
        rw [this, Bool.or_false]
    exact ((h1.alloc o).alloc o2).grown hg (fun e => hne _ hlo.2.1 e.symm)
  · have hB := h.size_
    have hB1 : B ≤ (wr.setCell ⟨gD, b, none⟩ (.bool true)).heap.size := by rw [setCell_size]; exact hB
    exact ((((h.bel.setCell (p := ⟨gD, b, none⟩) h.ge.2.1 (.bool true)).alloc hB1 o).alloc (le_alloc hB1 o) o2)).grown hg (le_alloc (le_alloc hB1 o) o2) fun g e => by have := own_ge h.row g e; have := h.ge; omega
  · intro g e e2
    rcases ha with h9 | h9
    · exact h.rn g e (by rw [← h9]; exact e2)
    · have := (h.rl.lt g e).2
      rw [e2] at h9
      injection h9 with h9
      omega
end
end Go.Proofs.YthgpbdlmadjndaaGreatDoor
