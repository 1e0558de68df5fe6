/- Package bucket's Shape. Conditions: the lists fit memory; the sentinels that it names lie in their variables. Package bucket's Shape and Fits, whatever the lists. Conditions: the lists fit memory; the sentinels that are named lie in their variables. -/
import Derived.Test.YtoomffajodheaaaGreatDoorQFifoM2
import Derived.Test.YtoomffajodheaaaGreatDoorQShA
import Derived.Deep.RegionHeld3
import Derived.Laws.OwnMore
import Derived.Lib.MinMax
set_option linter.all false
namespace Go.Proofs.YtoomffajodheaaaGreatDoor
open Go.RowKit
set_option maxRecDepth 100000
theorem infoPt : (Tryz.prog.info? 266).map (fun i => (i.zero, i.size, i.bytes)) = some (some (.pointer none), 1, 8) := by kernel_rfl
theorem BsMem.below {base : Nat} {w w' : World} {A : Option Addr} {c : Nat} {bs : List (Nat × Bu)} (h : BsMem base w A c bs) (hb : Below w.heap.size w w') : BsMem base w' A c bs :=
  ⟨own_below h.row hb (Nat.le_refl _), fun x hx => (h.bk x hx).below hb (h.bk x hx).lt, h.nd, h.ge, h.far⟩
theorem BsMem.drew {base : Nat} {w : World} {A : Option Addr} {c : Nat} {bs : List (Nat × Bu)} (h : BsMem base w A c bs) : BsMem base w.drew A c bs := ⟨h.row, h.bk, h.nd, h.ge, h.far⟩
theorem BsMem.set_ {base : Nat} {w : World} {A : Option Addr} {c : Nat} {bs : List (Nat × Bu)} (h : BsMem base w A c bs) {a : Addr} (h1 : ∀ x ∈ bs, x.1 ≠ a.block) (h2 : (Value.slice A bs.length c).ownBlock ≠ some a.block) (u : Value) : BsMem base (w.setCell a u) A c bs :=
  ⟨ownsRow_setCell_other h.row h2 u, fun x hx => (h.bk x hx).far (h1 x hx) u, h.nd, h.ge, h.far⟩
theorem BsMem.nil_ (base : Nat) (w : World) : BsMem base w none 0 [] := ⟨⟨by simp, .inl ⟨rfl, rfl⟩⟩, by simp, List.nodup_nil, by simp, by simp⟩
theorem bs_app {base : Nat} {w1 w2 w3 : World} {A A' : Option Addr} {c c' : Nat} {bs : List (Nat × Bu)} {y : Nat × Bu} {o : Obj} (h : BsMem base w1 A c bs) (k : Below w1.heap.size w1 w2) (hy : w1.heap.size ≤ y.1) (hb : Blk w2 y.1 288 y.2.cells) (hbase : base ≤ w1.heap.size)
    (row : w3.ownsRow base 266 1 (.slice A' (bs ++ [y]).length c') (bs ++ [y]).length ((bs ++ [y]).flatMap pC)) (g : (w2.alloc o).grownBy w3 (Value.slice A bs.length c).ownBlock) (at3 : (Value.slice A' (bs ++ [y]).length c').ownBlock = (Value.slice A bs.length c).ownBlock ∨ (Value.slice A' (bs ++ [y]).length c').ownBlock = some (w2.alloc o).heap.size) : BsMem base w3 A' c' (bs ++ [y]) := by
  have hlt : ∀ x ∈ bs, x.1 < w1.heap.size := fun x hx => (h.bk x hx).lt
  have hrow : ∀ b, (Value.slice A bs.length c).ownBlock = some b → b < w1.heap.size := fun b hb => own_lt' h.row b hb
  have hyl : y.1 < w2.heap.size := hb.lt
  have z := k.size
  refine ⟨row, fun x hx => ?_, ?_, fun x hx => ?_, fun x hx => ?_⟩
  · rcases List.mem_append.1 hx with hx | hx
    · exact (((h.bk x hx).below k (hlt x hx)).alloc o).grown g (fun e => h.far x hx e.symm)
    · rw [List.mem_singleton.1 hx]
      exact (hb.alloc o).grown g (fun e => by have := hrow _ e.symm; omega)
  · rw [List.map_append]
    refine List.nodup_append.2 ⟨h.nd, by simp, fun a ha b hb => ?_⟩
    obtain ⟨x, hx, rfl⟩ := List.mem_map.1 ha
    simp only [List.map_cons, List.map_nil, List.mem_singleton] at hb
    have := hlt x hx
    omega
  · rcases List.mem_append.1 hx with hx | hx
    · exact h.ge x hx
    · rw [List.mem_singleton.1 hx]; omega
  · intro e
    rcases at3 with h9 | h9
    · rw [h9] at e
      rcases List.mem_append.1 hx with hx | hx
      · exact h.far x hx e
      · rw [List.mem_singleton.1 hx] at e
        have := hrow _ e
        omega
    · rw [h9] at e
      injection e with e
      have hs : (w2.alloc o).heap.size = w2.heap.size + 1 := by simp
      rcases List.mem_append.1 hx with hx | hx
      · have := hlt x hx; omega
      · rw [List.mem_singleton.1 hx] at e; omega
theorem OnlyGs.row {base base3 : Nat} {bs : List (Nat × Bu)} {w w' : World} (h : OnlyGs base bs w w') {e : TypeId} {size n : Nat} {v : Value} {xs : List Value} (hr : w.ownsRow base3 e size v n xs) (hlt : ∀ x ∈ bs, x.1 < base3) : w'.ownsRow base3 e size v n xs := by
  obtain ⟨h1, h2⟩ := hr
  refine ⟨h1, ?_⟩
  rcases h2 with h2 | ⟨g', cap, cur, hv, hg', hh, r⟩
  · exact .inl h2
  · exact .inr ⟨g', cap, cur, hv, hg', (h.blk g' (fun x hx e => by have := hlt x hx; omega)).trans hh, r⟩
set_option maxHeartbeats 4000000 in
theorem shape_ok (A A' : Option Addr) (c c' : Nat) (l : List Ln) (p : List Pk) (S : Nat → Addr) (w : World) (B : Nat) (hB : B ≤ w.heap.size) (h : RdL w B A l) (h' : RdP w B A' p) (hS : Snt w B S [2, 3, 4, 5]) (hl : l.length ≤ 9223372036854775807) (hl' : p.length ≤ 9223372036854775807) (h1 : (pktErr p).1 = 0) (h2 : (crvErr l).1 = 0) :
    Calls Tryz.prog 150 #[.slice A l.length c, .slice A' p.length c'] w (EndOwnEr Pk.cs 3 53 (shapeV l p) S (shapeErr l p).1 (shapeErr l p).2 w) := by
  have hpk := pktErr_okPk h1
  have h300 := pktErr_len h1
  obtain ⟨l1, l6, hlo, _⟩ := crvErr_ok h2
  have He := Lib.hid (show shapeErr l p = if (shapeR l p).2 = -1 then (0, -1) else (4, (shapeR l p).2) by unfold shapeErr; rw [if_neg (by omega), if_neg (by omega)])
  have Hc := Lib.hid (pktErr_nil h1)
  have Hl := Lib.hid h2
  have Hp := Lib.hid hpk
  have Hlo := Lib.hid hlo
  obtain ⟨i0, hi0, hz0, hz1, hz2⟩ := info_parts infoPt
  clear h1 h2 hpk hlo
  go_enter Tryz.func150, Tryz.ntmps150
  go_wp2_with fail
  refine (pcheck_any A' c' p S _ B hB h' (hS.sub (by simp)) hl').mono ?_
  rintro e w1 ⟨v, rfl, hv, k1⟩
  obtain rfl := hv.nil_of (by rw [Hc.out])
  have z1 := k1.size
  go_wp2_with fail
  refine (check_any A c l S w1 B (by omega) (h.below (k1.mono hB)) ((hS.below (k1.mono hB)).sub (by simp)) hl).mono ?_
  rintro e w2 ⟨v, rfl, hv, k2⟩
  obtain rfl := hv.nil_of Hl.out
  have k2' := k1.trans (k2.mono z1)
  have z2 := k2'.size
  clear hv
  go_wp2_with fail
  go_loopw [8, 30] (fun av iv wr => ∃ (k : Nat) (A5 : Option Addr) (c5 : Nat) (bs : List (Nat × Bu)), k ≤ l.length ∧ bs.length = k ∧ av = .slice A5 bs.length c5 ∧ iv = .int .i64 k ∧ bs.map (·.2) = (l.take k).map newB ∧ BsMem w2.heap.size wr A5 c5 bs ∧ Below w.heap.size w wr ∧ w2.heap.size ≤ wr.heap.size) (fun _ iv _ => l.length - (intOf iv).toNat)
  case atStart => exact ⟨0, none, 0, [], Nat.zero_le _, rfl, rfl, rfl, rfl, BsMem.nil_ _ _, k2', Nat.le_refl _⟩
  case round =>
    obtain ⟨k, A5, c5, bs, hk, hbl, rfl, rfl, hsnd, hm, hbw, hzw⟩ := hrel
    have Hm := Lib.hid hm
    have Hsnd := Lib.hid hsnd
    have zw := hbw.size
    clear hm hsnd
    by_cases hlt : k < l.length
    · obtain ⟨b, o, rfl, hb, d0, d1⟩ := RdL.get (h.below (hbw.mono hB)) hlt
      obtain ⟨x, hx⟩ : ∃ x, x = l[k] := ⟨_, rfl⟩
      rw [← hx] at d0 d1
      have hxo : okLn x := by rw [hx]; exact Hlo.out _ (List.getElem_mem hlt)
      have Hx := Lib.hid hx
      have Hxo := Lib.hid hxo
      have Hbl := Lib.hid hbl
      have q1 : bs.length + 1 ≤ maxLen := by simp only [maxLen]; omega
      have q2 : (bs.length + 1) * 8 ≤ 140737488355328 := by omega
      obtain ⟨wv, hwv⟩ : ∃ wv : World, wv = wr.alloc (.cells #[.int .i64 x.b, .int .i64 x.r] 75) := ⟨_, rfl⟩
      have kv : Below wr.heap.size wr wv := by rw [hwv]; exact (Below.refl _ _).alloc (Nat.le_refl _) _
      have kv' := hbw.trans (kv.mono zw)
      have zv := kv'.size
      have Hwv := Lib.hid hwv
      clear hx hxo hbl hwv
      go_wp2_with fail
      rw [← Hwv.out]
      refine (new_ok x S wv B (Nat.le_trans hB zv) (((hS.below (kv'.mono hB))).sub (by simp)) Hxo.out).mono ?_
      rintro e w4 ⟨g, rfl, b4, hg, k4⟩
      have kw4 : Below wr.heap.size wr w4 := kv.trans (k4.mono kv.size)
      have kw4' := hbw.trans (kw4.mono zw)
      have hgr : wr.heap.size ≤ g := Nat.le_trans kv.size hg
      have hz4 : w2.heap.size ≤ w4.heap.size := Nat.le_trans hzw kw4.size
      have B4 := Lib.hid b4
      have hrow4 := own_below Hm.out.row kw4 (Nat.le_refl _)
      have Row4 := Lib.hid hrow4
      obtain ⟨bs', hbs'⟩ : ∃ bs', bs' = bs ++ [(g, newB x)] := ⟨_, rfl⟩
      have Hbs := Lib.hid hbs'
      clear b4 hrow4 hbs'
      go_wp2_with (at_builtin; refine wpList_append_rd _ pC rfl (.tmp 42) (.tmp 44) 265 rfl w2.heap.size 266 i0 (.pointer none) 1 8 Tryz.underlying265 hi0 hz0 hz1 hz2 rfl (by omega) pC_len pC_one (.slice A5 bs.length c5) bs.length (bs.flatMap pC) rfl (Row4.out.alloc _) (w4.heap.size + 1) (some ⟨w4.heap.size, 0, none⟩) 1 [(g, newB x)] rfl (Rd.new_ rfl (by omega) pC_len) q1 q2 (le_alloc hz4 _) ?_; intro v12 w12 row12 g12 at12; obtain ⟨A12, c12, hv12, row12⟩ := own_app row12 (by omega); rw [hv12] at at12 ⊢; rw [← Hbs.out] at row12 at12 ⊢; clear hv12)
      have hm12 : BsMem w2.heap.size w12 A12 c12 bs' := by
        rw [Hbs.out] at row12 at12 ⊢
        exact bs_app Hm.out kw4 hgr B4.out hzw row12 g12 at12
      have k12 : Below w.heap.size w w12 := below_app (kw4'.alloc kw4'.size _) (Row4.out.alloc _) g12 z2 (le_alloc kw4'.size _)
      have hz12 : w2.heap.size ≤ w12.heap.size := Nat.le_trans (le_alloc hz4 _) g12.size
      go_roundw
      case rel => exact ⟨k + 1, A12, c12, bs', hlt, by rw [Hbs.out]; simp; exact Hbl.out, rfl, by go_num, by rw [Hbs.out, List.map_append, Hsnd.out, List.take_succ_eq_append_getElem hlt, List.map_append, ← Hx.out]; rfl, hm12, k12, hz12⟩
      case measure => simp [intOf]; omega
    · have hke : k = l.length := by omega
      have Hs2 := Lib.hid (show bs.map (·.2) = l.map newB by rw [Hsnd.out, List.take_of_length_le (by omega)])
      have hb6 : bs.length ≤ 1000 := by omega
      obtain ⟨wo, rfl⟩ : ∃ wo : World, wo = wr := ⟨_, rfl⟩
      clear hke hbl
      go_wp2_with fail
      refine (clonePk_any A' c' p wo B (Nat.le_trans hB zw) (h'.below (hbw.mono hB)) (by omega)).mono ?_
      rintro e w5 ⟨A6, c6, rfl, o6, k6⟩
      have k6' := hbw.trans (k6.mono zw)
      have hm6 := Hm.out.below k6
      have hlt6 : ∀ x ∈ bs, x.1 < wo.heap.size := fun x hx => (Hm.out.bk x hx).lt
      have hrl6 : ∀ b, (Value.slice A5 bs.length c5).ownBlock = some b → b < wo.heap.size := fun b hb => own_lt' Hm.out.row b hb
      have hbsok : BsOk bs 0 := fun x hx => by
        have : x.2 ∈ bs.map (·.2) := List.mem_map.2 ⟨x, hx, rfl⟩
        rw [Hs2.out] at this
        obtain ⟨y, hy, e⟩ := List.mem_map.1 this
        rw [← e]
        exact ⟨newB_ok (Hlo.out y hy), Int.le_refl _⟩
      have heq0 : shapeR l p = glue [] (shapeGo p (bs.map (·.2)) 0 0) := by
        rw [Hs2.out]
        unfold shapeR glue
        split
        · rename_i h9; exact Prod.ext rfl h9
        · rename_i h9
          have key : ∀ (p : List Pk) (ss : List Bu) (last : Int) (i : Nat), (shapeGo p ss last i).2 ≠ -1 → (shapeGo p ss last i).1 = [] := fun p => by
            induction p with
            | nil => intro ss last i h8; exact absurd rfl h8
            | cons x r ih =>
              intro ss last i h8
              unfold shapeGo at h8 ⊢
              split
              · rfl
              · rename_i T hT
                rw [hT] at h8
                simp only at h8
                split
                · rename_i h7; rw [if_pos h7] at h8; exact absurd rfl h8
                · rfl
          exact Prod.ext (key p _ 0 0 h9) rfl
      have Heq0 := Lib.hid heq0
      have Hm6 := Lib.hid hm6
      have Hok0 := Lib.hid hbsok
      have Hlt6 := Lib.hid hlt6
      have Hrl6 := Lib.hid hrl6
      have O6 := Lib.hid o6
      have hzo : wo.heap.size ≤ w5.heap.size := k6.size
      clear heq0 hm6 hbsok hlt6 hrl6 o6
      go_wp2_with fail
      go_loopw [14, 51] (fun lv iv wr => ∃ (k : Nat) (acc : List Pk) (bs2 : List (Nat × Bu)) (last : Int), k ≤ p.length ∧ acc.length = k ∧ iv = .int .i64 k ∧ lv = .int .i64 last ∧ bs2.length = bs.length ∧ bs2.map (·.1) = bs.map (·.1) ∧ BsOk bs2 last ∧ 0 ≤ last ∧ last ≤ 1099511627776 ∧ shapeR l p = glue acc (shapeGo (p.drop k) (bs2.map (·.2)) last k) ∧ BsMem w2.heap.size wr A5 c5 bs2 ∧ wr.ownsRow wo.heap.size 53 3 (.slice A6 p.length c6) p.length ((acc ++ p.drop k).flatMap Pk.cs) ∧ Below w.heap.size w wr ∧ wo.heap.size ≤ wr.heap.size) (fun _ iv _ => p.length - (intOf iv).toNat)
      case atStart => exact ⟨0, [], bs, 0, Nat.zero_le _, rfl, rfl, rfl, rfl, rfl, Hok0.out, Int.le_refl _, by omega, Heq0.out, Hm6.out, O6.out, k6', hzo⟩
      case round =>
        obtain ⟨k, acc, bs2, last, hk, hacc, rfl, rfl, hb2l, hb2f, hok2, hla0, hla1, heq, hm2, row2, kb2, hz2'⟩ := hrel
        have zw2 := kb2.size
        have Hm2 := Lib.hid hm2
        have Row2 := Lib.hid row2
        have Hok2 := Lib.hid hok2
        have Heq := Lib.hid heq
        have Hb2f := Lib.hid hb2f
        have Hacc := Lib.hid hacc
        have hlt2 : ∀ x ∈ bs2, x.1 < wo.heap.size := fun x hx => by
          have : x.1 ∈ bs2.map (·.1) := List.mem_map.2 ⟨x, hx, rfl⟩
          rw [Hb2f.out] at this
          obtain ⟨y, hy, e⟩ := List.mem_map.1 this
          rw [← e]; exact Hlt6.out y hy
        have Hlt2 := Lib.hid hlt2
        have Hb2l := Lib.hid hb2l
        clear hm2 row2 hok2 heq hb2f hacc hlt2 hb2l
        by_cases hlt : k < p.length
        · obtain ⟨x, hx⟩ : ∃ x, x = p[k] := ⟨_, rfl⟩
          have hd : p.drop k = x :: p.drop (k + 1) := by rw [hx]; exact List.drop_eq_getElem_cons hlt
          have Hd := Lib.hid hd
          have hpo : okPk x := by rw [hx]; exact Hp.out _ (List.getElem_mem hlt)
          obtain ⟨g, cap, hv6, hg6, hgl⟩ := Row2.out.form (by omega)
          cases hv6
          have hcell : ∀ j, j < 3 → (w' : World) → w'.ownsRow wo.heap.size 53 3 (.slice (some ⟨g, 0, none⟩) p.length c6) p.length ((acc ++ p.drop k).flatMap Pk.cs) → w'.cell? ⟨g, k * 3 + j, none⟩ = x.cs[j]? := fun j hj w' hr => by
            rw [hr.cellAt _ (by omega), Hd.out, flat_get Pk.cs 3 (by omega) Pk.cs_len]
            have e1 : (k * 3 + j) / 3 = k := by omega
            have e2 : (k * 3 + j) % 3 = j := by omega
            rw [e1, e2, List.getElem?_append_right (by rw [Hacc.out]; exact Nat.le_refl _), Hacc.out, Nat.sub_self]
            rfl
          have Hcell := Lib.hid hcell
          have d1 : wr.cell? ⟨g, k * 3 + 1, none⟩ = some (.int .i64 x.s) := Hcell.out 1 (by omega) wr Row2.out
          have d2 : wr.cell? ⟨g, k * 3 + 2, none⟩ = some (.int .i64 x.a) := Hcell.out 2 (by omega) wr Row2.out
          have r1 : (k : Int) < (p.length : Int) := by omega
          have r2 : (0 : Int) ≤ (k : Int) := by omega
          obtain ⟨p1, p2, p3, p4, p5, p6⟩ := hpo
          have hfr := fr_ge last x.a
          have hmax : max last x.a = fr last x.a := by unfold fr; rw [Int.max_def]; split <;> split <;> omega
          have Hmax := Lib.hid hmax
          have hf2 : fr last x.a ≤ 1099511627776 := by omega
          have Sd := Lib.hid (show Snt wr.drew B S [2, 4, 5] from (hS.below ((kb2.drew).mono hB)).sub (by simp))
          have Mw := Lib.hid Hm2.out.drew
          have Bok := Lib.hid (show ∀ x ∈ bs2, BuOk x.2 from fun x hx => (Hok2.out x hx).1)
          have hb26 : bs2.length ≤ 1000 := by rw [Hb2l.out]; exact hb6
          have z20 : B ≤ w2.heap.size := Nat.le_trans hB z2
          clear hd hcell hx hfr hmax
          cases hlv : leaveT bs2 (fr last x.a) x.s (fr last x.a) with
          | none =>
            have Hlv := Lib.hid hlv
            have Hsh := Lib.hid (show shapeR l p = ([], (k : Int)) by rw [Heq.out, Hd.out]; exact glue_none (by rw [← leaveT_eq]; exact Hlv.out))
            have Hce := Lib.hid (leave_none A5 c5 bs2 (fr last x.a) x.s S wr.drew B w2.heap.size z20 Sd.out Mw.out Bok.out hb26 Hlv.out)
            rw [← Hmax.out, Hb2l.out] at Hce
            clear hlv
            go_wp2_with fail
            go_region_held3 (fun w' => w'.cell? ⟨g, k * 3 + 1, none⟩ = some (.int .i64 x.s) ∧ w'.cell? ⟨g, k * 3 + 2, none⟩ = some (.int .i64 x.a))
              (first
                | go_keep)
              (first
               | (go_at_call 181; refine (Hce.out).mono ?_; rintro e w9 ⟨⟨T, a, rfl⟩, m9, rfl⟩))
            all_goals
              obtain ⟨v2, hv2⟩ : ∃ v2 : World, v2 = wr.drewN (1 + m9) := ⟨_, rfl⟩
              have k9 : Below w.heap.size w v2 := by rw [hv2]; exact below_drewN kb2 _
              have g4 : v2.cell? ⟨G 4, 0, none⟩ = some (sv S 4) := ((hS.below (k9.mono hB)) 4 (by simp)).2.2
              have l4 := World.block_lt_of_cell? v2 _ g4
              simp only [G, sv] at g4 l4
              have Hv0 := Lib.hid (show shapeV l p = [] by unfold shapeV; rw [He.out, Hsh.out]; rw [if_neg (show ¬ (k : Int) = -1 by omega)]; rfl)
              have He2 := Lib.hid (show shapeErr l p = (4, (k : Int)) by rw [He.out, Hsh.out]; exact if_neg (show ¬ (k : Int) = -1 by omega))
              rw [← hv2]
              clear hv2 d1 d2
              go_wp2_with fail
              go_region
              all_goals
                go_wp2_with fail
                go_ret2
                rw [Hv0.out, He2.out]
                exact ⟨none, 0, _, rfl, ⟨by simp, .inl ⟨rfl, rfl⟩⟩, .fault 4 (by omega) (by omega) _ _ (by simp) (heap_alloc_new _ _), (k9.alloc k9.size _).drew⟩
          | some T =>
            have Hlv := Lib.hid hlv
            obtain ⟨s1, s2, s3, s4⟩ := bsOk_step Hok2.out ⟨p5, p6⟩ hla1 hlv
            have Hs1 := Lib.hid s1
            have Hsh := Lib.hid (show shapeR l p = glue (acc ++ [⟨x.f, x.s, T⟩]) (shapeGo (p.drop (k + 1)) ((bs2.map (tookP T x.s)).map (·.2)) T (k + 1)) by rw [Heq.out, Hd.out, glue_some (by rw [← leaveT_eq]; exact Hlv.out), map_took])
            have Hce := Lib.hid (leave_some A5 c5 bs2 (fr last x.a) x.s T S wr.drew B w2.heap.size z20 Sd.out Mw.out Bok.out hb26 hf2 Hlv.out)
            rw [← Hmax.out, Hb2l.out] at Hce
            obtain ⟨bs3, hbs3⟩ : ∃ bs3, bs3 = bs2.map (tookP T x.s) := ⟨_, rfl⟩
            rw [← hbs3] at Hce Hs1 Hsh
            have Hbs3 := Lib.hid hbs3
            have hgx : ∀ y ∈ bs2, y.1 ≠ g := fun y hy => by have := Hlt2.out y hy; omega
            have Hgx := Lib.hid hgx
            clear hlv s1 hbs3 hgx
            go_wp2_with fail
            go_region_held3 (fun w' => w'.cell? ⟨g, k * 3 + 1, none⟩ = some (.int .i64 x.s) ∧ w'.cell? ⟨g, k * 3 + 2, none⟩ = some (.int .i64 x.a))
              (first
                | go_keep
                | exact ⟨(World.cell?_of_block (a := ⟨g, k * 3 + 1, none⟩) (on9.blk g Hgx.out)).trans d1, (World.cell?_of_block (a := ⟨g, k * 3 + 2, none⟩) (on9.blk g Hgx.out)).trans d2⟩)
              (first
               | (go_at_call 181; refine (Hce.out).mono ?_; rintro e w9 ⟨rfl, m9, on9⟩))
            all_goals
              have hlt3 : ∀ y ∈ bs2, y.1 < wo.heap.size := Hlt2.out
              have row9 := on9.row (show wr.drew.ownsRow wo.heap.size 53 3 (.slice (some ⟨g, 0, none⟩) p.length c6) p.length ((acc ++ p.drop k).flatMap Pk.cs) from Row2.out) hlt3
              have f9 := row9.frozenAt (k * 3 + 2)
              have c9 : w9.cell? ⟨g, k * 3 + 2, none⟩ = some (.int .i64 x.a) := Hcell.out 2 (by omega) w9 row9
              have Row9 := Lib.hid row9
              have M9 := Lib.hid m9
              clear row9 m9
              go_wp2_with fail
              have row6 : (w9.setCell ⟨g, k * 3 + 2, none⟩ (.int .i64 T)).ownsRow wo.heap.size 53 3 (.slice (some ⟨g, 0, none⟩) p.length c6) p.length (((acc ++ [(⟨x.f, x.s, T⟩ : Pk)]) ++ p.drop (k + 1)).flatMap Pk.cs) := by
                have h9 := (Row9.out.stored (k * 3 + 2) (.int .i64 T)).1
                have e9 := pk_set acc x (p.drop (k + 1)) T
                rw [Hacc.out] at e9
                rw [Hd.out, e9] at h9
                exact h9
              have hf3 : bs3.map (·.1) = bs.map (·.1) := by rw [Hbs3.out, List.map_map, ← Hb2f.out]; rfl
              have hm6 : BsMem w2.heap.size (w9.setCell ⟨g, k * 3 + 2, none⟩ (.int .i64 T)) A5 c5 bs3 := M9.out.set_ (a := ⟨g, k * 3 + 2, none⟩) (fun y hy => by
                  have : y.1 ∈ bs3.map (·.1) := List.mem_map.2 ⟨y, hy, rfl⟩
                  rw [hf3] at this
                  obtain ⟨z, hz, e⟩ := List.mem_map.1 this
                  have := Hlt6.out z hz
                  show y.1 ≠ g
                  omega) (fun e => by
                  have e2 : (Value.slice A5 bs.length c5).ownBlock = some g := by cases A5 <;> exact e
                  have := Hrl6.out g e2
                  omega) _
              go_roundw
              case rel => exact ⟨k + 1, acc ++ [⟨x.f, x.s, T⟩], bs3, T, hlt, by simp; exact Hacc.out, by go_num, rfl, by rw [Hbs3.out, List.length_map]; exact Hb2l.out, hf3, Hs1.out, by omega, s4, Hsh.out, hm6, row6, (kb2.drew.trans (on9.bel.mono z2)).setCell (p := ⟨g, k * 3 + 2, none⟩) (Nat.le_trans zw hg6) _, by rw [setCell_size]; exact Nat.le_trans hz2' on9.bel.size⟩
              case measure => simp [intOf]; omega
        · have hd : p.drop k = [] := List.drop_eq_nil_of_le (by omega)
          have hsh : shapeR l p = (acc, -1) := by
            rw [Heq.out, hd]
            show glue acc ([], -1) = _
            unfold glue
            rw [if_pos rfl, List.append_nil]
          have Hv0 := Lib.hid (show shapeV l p = acc by unfold shapeV; rw [He.out, hsh]; rfl)
          have He2 := Lib.hid (show shapeErr l p = (0, -1) by rw [He.out, hsh]; rfl)
          have hpl : p.length = acc.length := by rw [Hacc.out]; omega
          have hr := Row2.out
          rw [hd, List.append_nil] at hr
          have Hr := Lib.hid hr
          have Hpl := Lib.hid hpl
          clear hd hsh hpl hr
          go_wp2_with fail
          go_ret2
          rw [Hv0.out, He2.out]
          have hr2 := Hr.out
          rw [Hpl.out] at hr2 ⊢
          exact ⟨A6, c6, .nilIface, rfl, own_mono hr2 zw, .nil, kb2⟩
end Go.Proofs.YtoomffajodheaaaGreatDoor
namespace Go.Proofs.YtoomffajodheaaaGreatDoor
open Go.RowKit
set_option maxRecDepth 100000
set_option maxHeartbeats 1000000 in
theorem shape_any (A A' : Option Addr) (c c' : Nat) (l : List Ln) (p : List Pk) (S : Nat → Addr) (w : World) (B : Nat) (hB : B ≤ w.heap.size) (h : RdL w B A l) (h' : RdP w B A' p) (hS : Snt w B S [2, 3, 4, 5]) (hl : l.length ≤ 9223372036854775807) (hl' : p.length ≤ 9223372036854775807) :
    Calls Tryz.prog 150 #[.slice A l.length c, .slice A' p.length c'] w (EndOwnEr Pk.cs 3 53 (shapeV l p) S (shapeErr l p).1 (shapeErr l p).2 w) := by
  by_cases h1 : (pktErr p).1 = 0
  · by_cases h2 : (crvErr l).1 = 0
    · exact shape_ok A A' c c' l p S w B hB h h' hS hl hl' h1 h2
    · have He := Lib.hid (show shapeErr l p = crvErr l by unfold shapeErr; rw [if_neg (by omega), if_pos h2])
      have Hv := Lib.hid (show shapeV l p = [] by unfold shapeV; rw [He.out, if_neg h2])
      have Hc := Lib.hid (pktErr_nil h1)
      have H2 := Lib.hid h2
      clear h1 h2
      go_enter Tryz.func150, Tryz.ntmps150
      go_wp2_with fail
      refine (pcheck_any A' c' p S _ B hB h' (hS.sub (by simp)) hl').mono ?_
      rintro e w1 ⟨v, rfl, hv, k1⟩
      obtain rfl := hv.nil_of (by rw [Hc.out])
      have z1 := k1.size
      go_wp2_with fail
      refine (check_any A c l S w1 B (by omega) (h.below (k1.mono hB)) ((hS.below (k1.mono hB)).sub (by simp)) hl).mono ?_
      rintro e w2 ⟨v, rfl, hv, k2⟩
      obtain ⟨T, a, rfl⟩ := hv.some_of H2.out
      have k2' := k1.trans (k2.mono z1)
      go_wp2_with fail
      go_ret2
      rw [Hv.out, He.out]
      exact ⟨none, 0, _, rfl, ⟨by simp, .inl ⟨rfl, rfl⟩⟩, hv, k2'⟩
  · have He := Lib.hid (show shapeErr l p = pktErr p by unfold shapeErr; rw [if_pos h1])
    have Hv := Lib.hid (show shapeV l p = [] by unfold shapeV; rw [He.out, if_neg h1])
    have H1 := Lib.hid h1
    clear h1
    go_enter Tryz.func150, Tryz.ntmps150
    go_wp2_with fail
    refine (pcheck_any A' c' p S _ B hB h' (hS.sub (by simp)) hl').mono ?_
    rintro e w1 ⟨v, rfl, hv, k1⟩
    obtain ⟨T, a, rfl⟩ := hv.some_of H1.out
    go_wp2_with fail
    go_ret2
    rw [Hv.out, He.out]
    exact ⟨none, 0, _, rfl, ⟨by simp, .inl ⟨rfl, rfl⟩⟩, hv, k1⟩
end Go.Proofs.YtoomffajodheaaaGreatDoor
