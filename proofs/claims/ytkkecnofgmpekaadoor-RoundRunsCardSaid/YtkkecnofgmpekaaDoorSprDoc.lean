/- floodgateref2: waits, SpreadOf. Conditions: what was sent names packets that there are; sums are small. floodgateref2.SpreadOf. Conditions: what was sent names packets that there are; few are sent. -/
import Derived.Test.YtkkecnofgmpekaaDoorSpread
import Derived.Test.YtkkecnofgmpekaaDoorSprPlain
namespace Go.Proofs.YtkkecnofgmpekaaDoor
open Go.RowKit
set_option maxRecDepth 100000
theorem wtD_split (p : List Pk) (f i : Nat) (l : List Sn) (hi : i < l.length) : wtD p f l i = (l.drop (i + 1)).any (wtY p f l[i].f) := by
  unfold wtD snAt
  simp only [List.getD, List.getElem?_eq_getElem hi, Option.getD_some]
  rfl
set_option maxHeartbeats 1000000 in
theorem mwaits_any (f i : Nat) (A A' : Option Addr) (c c' : Nat) (p : List Pk) (l : List Sn) (w : World) (B : Nat) (hB : B ≤ w.heap.size) (hp : RdP w B A p) (hl : RdS w B A' l) (hpk : ∀ x ∈ p, okPk x) (hy : ∀ y ∈ l, 0 ≤ y.p ∧ y.p.toNat < p.length) (hll : l.length ≤ 1000) (hi : i < l.length) :
    Calls Tryd.prog 67 #[.slice A p.length c, .slice A' l.length c', .int .i64 (f : Int), .int .i64 (i : Int)] w fun e w' => e = .returned (.bool (wtD p f l i)) ∧ Below w.heap.size w w' := by
  have Hw := Lib.hid (wtD_split p f i l hi)
  obtain ⟨qi, oi, rfl, hqi, i0, i1, i2⟩ := RdS.get hl hi
  have j1 : (0 : Int) ≤ (i : Int) := by omega
  have j2 : (i : Int) < (l.length : Int) := by omega
  go_enter Tryd.func67, Tryd.ntmps67
  go_wp2
  go_loopw [9] (fun kv wr => ∃ k : Nat, k ≤ l.length ∧ i + 1 ≤ k ∧ kv = .int .i64 k ∧ wtD p f l i = (l.drop k).any (wtY p f l[i].f) ∧ Below w.heap.size w wr) (fun kv _ => l.length - (intOf kv).toNat)
  case atStart => exact ⟨i + 1, hi, Nat.le_refl _, by go_num, Hw.out, Below.refl _ _⟩
  case round =>
    obtain ⟨k, hk, hik, rfl, hany, hbw⟩ := hrel
    by_cases hlt : k < l.length
    · obtain ⟨q, o, e9, hq, d0, d1, d2⟩ := RdS.get (hl.below (hbw.mono hB)) hlt
      simp only [Option.some.injEq, Addr.mk.injEq, and_true] at e9
      obtain ⟨rfl, rfl⟩ := e9
      rw [List.drop_eq_getElem_cons hlt, List.any_cons] at hany
      have hyk := hy _ (List.getElem_mem hlt)
      obtain ⟨n, hn⟩ : ∃ n : Nat, l[k].p = n := ⟨l[k].p.toNat, by omega⟩
      have hnl : n < p.length := by omega
      obtain ⟨b1, o1, rfl, hb1, f0, f1, f2⟩ := RdP.get (hp.below (hbw.mono hB)) hnl
      have hok := hpk _ (List.getElem_mem hnl)
      obtain ⟨g, hg⟩ : ∃ g : Nat, p[n].f = g := ⟨p[n].f.toNat, by have := hok.1; omega⟩
      have hwt : wtY p f l[i].f l[k] = decide (g = f ∧ p[n].a ≤ l[i].f) := by
        unfold wtY flS
        rw [hn, Int.toNat_natCast, aOf_of hnl, fOf_of hnl, hg, Int.toNat_natCast]
      rw [hwt] at hany
      rw [hn] at d0
      rw [hg] at f0
      obtain ⟨xf, hxf⟩ : ∃ xf, xf = l[i].f := ⟨_, rfl⟩
      obtain ⟨pa, hpa⟩ : ∃ pa, pa = p[n].a := ⟨_, rfl⟩
      obtain ⟨ps, hps⟩ : ∃ ps, ps = p[n].s := ⟨_, rfl⟩
      rw [← hpa] at f2 hany
      rw [← hps] at f1
      have q1 : (0 : Int) ≤ (k : Int) := by omega
      have q2 : (k : Int) < (l.length : Int) := by omega
      have q3 : (0 : Int) ≤ (n : Int) := by omega
      have q4 : (n : Int) < (p.length : Int) := by omega
      have bq := (Below.refl wr.heap.size wr).alloc (Nat.le_refl _) (.cells #[.int .i64 (g : Int), .int .i64 ps, .int .i64 pa] 32)
      obtain ⟨X, hX⟩ : ∃ X : World, X = wr.alloc (.cells #[.int .i64 (g : Int), .int .i64 ps, .int .i64 pa] 32) := ⟨_, rfl⟩
      rw [← hX] at bq
      have v0 : X.cell? ⟨wr.heap.size, 0, none⟩ = some (.int .i64 (g : Int)) := by rw [hX]; exact (Blk.new wr 32 #[.int .i64 (g : Int), .int .i64 ps, .int .i64 pa]).cell 0
      have v2 : X.cell? ⟨wr.heap.size, 2, none⟩ = some (.int .i64 pa) := by rw [hX]; exact (Blk.new wr 32 #[.int .i64 (g : Int), .int .i64 ps, .int .i64 pa]).cell 2
      have v3 : X.cell? ⟨qi, oi + i * 3 + 1, none⟩ = some (.int .i64 xf) := by
        have h8 : wr.cell? ⟨qi, oi + i * 3 + 1, none⟩ = some (.int .i64 l[i].f) := (hbw.cell (p := ⟨qi, oi + i * 3 + 1, none⟩) (World.block_lt_of_cell? _ _ i1)).trans i1
        rw [hxf]
        exact (bq.cell (p := ⟨qi, oi + i * 3 + 1, none⟩) (World.block_lt_of_cell? _ _ h8)).trans h8
      rw [← hxf] at hany
      have kX := hbw.trans (bq.mono hbw.size)
      have Hxf := Lib.hid hxf
      have HX := Lib.hid hX
      have Hany := Lib.hid hany
      clear hany hX hxf hpa hps hwt hn hok hg hyk
      by_cases hgf : g = f
      · subst hgf
        have b1' : ((g : Int) == (g : Int)) = true := by simp
        by_cases hle : pa ≤ xf
        · have Hd := Lib.hid (show wtD p g l i = true by rw [Hany.out]; simp [hle])
          go_wp2_with fail
          rw [← HX.out]
          go_quiet (fail)
          rename Nat => nq
          go_wp2_with fail
          go_ret
          exact ⟨ret_bool (by rw [Hd.out]), below_drewN kX nq⟩
        · have Hd := Lib.hid (show wtD p g l i = (l.drop (k + 1)).any (wtY p g l[i].f) by rw [Hany.out, ← Hxf.out]; simp [hle])
          go_wp2_with fail
          rw [← HX.out]
          go_quiet (fail)
          rename Nat => nq
          go_wp2_with fail
          go_roundw
          case rel => exact ⟨k + 1, hlt, by omega, by go_num, Hd.out, below_drewN kX nq⟩
          case measure => simp [intOf]; omega
      · have b1' : ((g : Int) == (f : Int)) = false := by simp; omega
        have Hd := Lib.hid (show wtD p f l i = (l.drop (k + 1)).any (wtY p f l[i].f) by rw [Hany.out, ← Hxf.out]; simp [hgf])
        go_wp2_with fail
        rw [← HX.out]
        go_quiet (fail)
        rename Nat => nq
        go_wp2_with fail
        go_roundw
        case rel => exact ⟨k + 1, hlt, by omega, by go_num, Hd.out, below_drewN kX nq⟩
        case measure => simp [intOf]; omega
    · rw [List.drop_eq_nil_of_le (by omega)] at hany
      have Hany := Lib.hid hany
      clear hany
      go_wp2_with fail
      go_ret
      exact ⟨ret_bool (by rw [Hany.out]; rfl), hbw⟩
end Go.Proofs.YtkkecnofgmpekaaDoor
namespace Go.Proofs.YtkkecnofgmpekaaDoor
open Go.RowKit
set_option maxRecDepth 100000
/-- What holds at each round's head of the inner loop. -/
structure DocAt (p : List Pk) (qa qb : Int) (a b : Nat) (l : List Sn) (i k : Nat) (M X Y : Int) : Prop where
  eq : docOut p qa qb a b 0 l = docOut p qa qb a b (docIn p qa qb a b M (X * qb - Y * qa) (l.drop k)) (l.drop (i + 1))
  x0 : 0 ≤ X
  x1 : X ≤ 1500 * (k : Int)
  y0 : 0 ≤ Y
  y1 : Y ≤ 1500 * (k : Int)
theorem DocAt.out {p : List Pk} {qa qb : Int} {a b : Nat} {l : List Sn} {i k : Nat} {M X Y : Int} (h : DocAt p qa qb a b l i k M X Y) (hw : ¬ (k < l.length ∧ wtD p a l k = true ∧ wtD p b l k = true)) : docOut p qa qb a b 0 l = docOut p qa qb a b M (l.drop (i + 1)) := by
  rw [h.eq]
  by_cases hk : k < l.length
  · have he : snAt l k = l[k] := by simp [snAt, List.getD, hk]
    unfold wtD at hw
    rw [he] at hw
    rw [List.drop_eq_getElem_cons hk, docIn, if_neg (fun e => hw ⟨hk, e⟩)]
  · rw [List.drop_eq_nil_of_le (by omega)]; rfl
theorem DocAt.in_ {p : List Pk} {qa qb : Int} {a b : Nat} {l : List Sn} {i k : Nat} {M X Y X' Y' : Int} (h : DocAt p qa qb a b l i k M X Y) (hk : k < l.length) (hw : wtD p a l k = true ∧ wtD p b l k = true) (hx : X' * qb - Y' * qa = X * qb - Y * qa + cnt p qa qb a b l[k]) (x0 : 0 ≤ X') (x1 : X' ≤ 1500 * ((k + 1 : Nat) : Int)) (y0 : 0 ≤ Y') (y1 : Y' ≤ 1500 * ((k + 1 : Nat) : Int)) {M' : Int} (hM : M' = if M < iabs (X' * qb - Y' * qa) then iabs (X' * qb - Y' * qa) else M) :
    DocAt p qa qb a b l i (k + 1) M' X' Y' := by
  refine ⟨?_, x0, x1, y0, y1⟩
  have he : snAt l k = l[k] := by simp [snAt, List.getD, hk]
  unfold wtD at hw
  rw [he] at hw
  rw [h.eq, List.drop_eq_getElem_cons hk, docIn, if_pos hw, ← hx, ← hM]
theorem DocAt.start {p : List Pk} {qa qb : Int} {a b : Nat} {l : List Sn} {i : Nat} {M : Int} (hi : i < l.length) (h : docOut p qa qb a b 0 l = docOut p qa qb a b M (l.drop i)) : DocAt p qa qb a b l i i M 0 0 := by
  refine ⟨?_, by omega, by omega, by omega, by omega⟩
  rw [h, show (0 : Int) * qb - 0 * qa = 0 by omega, List.drop_eq_getElem_cons hi]
  rfl
set_option maxHeartbeats 4000000 in
theorem spreadOf_any (a b : Nat) (A A' A'' : Option Addr) (c c' c'' : Nat) (p : List Pk) (l : List Sn) (qs : List Int) (w : World) (B : Nat) (hB : B ≤ w.heap.size) (hp : RdP w B A p) (hl : RdS w B A' l) (hqs : RdI w B A'' qs) (hpk : ∀ x ∈ p, okPk x) (hy : ∀ y ∈ l, 0 ≤ y.p ∧ y.p.toNat < p.length) (hll : l.length ≤ 1000) (h8 : qs.length = 8) (hq1 : ∀ g, g < 8 → 1 ≤ qu qs g ∧ qu qs g ≤ 3000) (ha : a < 8) (hb : b < 8) :
    Calls Tryd.prog 46 #[.slice A p.length c, .slice A' l.length c', .slice A'' qs.length c'', .int .i64 (a : Int), .int .i64 (b : Int)] w fun e w' => e = .returned (.int .i64 (sprL p (qu qs a) (qu qs b) a b l)) ∧ Below w.heap.size w w' := by
  have hqa := hq1 a ha
  have hqbb := hq1 b hb
  obtain ⟨qa, eqa⟩ : ∃ qa, qa = qu qs a := ⟨_, rfl⟩
  obtain ⟨qb, eqb⟩ : ∃ qb, qb = qu qs b := ⟨_, rfl⟩
  have Hfin := Lib.hid (docOut_eq p qa qb a b l)
  rw [← eqa] at hqa ⊢
  rw [← eqb] at hqbb ⊢
  obtain ⟨qa1, qa2⟩ := hqa
  obtain ⟨qb1, qb2⟩ := hqbb
  have EQA := Lib.hid eqa
  have EQB := Lib.hid eqb
  have H8 := Lib.hid h8
  clear eqa eqb h8 hq1
  go_enter Tryd.func46, Tryd.ntmps46
  go_wp2
  go_loopw [11, 12] (fun m iv wr => ∃ (i : Nat) (M : Int), i ≤ l.length ∧ iv = .int .i64 i ∧ m = .int .i64 M ∧ docOut p qa qb a b 0 l = docOut p qa qb a b M (l.drop i) ∧ Below w.heap.size w wr) (fun _ iv _ => l.length - (intOf iv).toNat)
  case atStart => exact ⟨0, 0, Nat.zero_le _, rfl, rfl, rfl, Below.refl _ _⟩
  case round =>
    obtain ⟨i, M0, hi, rfl, rfl, hdoc, hbw0⟩ := hrel
    by_cases hlt0 : i < l.length
    · have Hst := Lib.hid (DocAt.start hlt0 hdoc)
      clear hdoc
      go_wp2_with fail
      go_loopw [11, 13, 14, 15] (fun m xv yv kv wr => ∃ (k : Nat) (M X Y : Int), k ≤ l.length ∧ kv = .int .i64 k ∧ m = .int .i64 M ∧ xv = .int .i64 X ∧ yv = .int .i64 Y ∧ DocAt p qa qb a b l i k M X Y ∧ Below w.heap.size w wr) (fun _ _ _ kv _ => l.length - (intOf kv).toNat)
      case atStart => exact ⟨i, M0, 0, 0, hi, rfl, rfl, rfl, rfl, Hst.out, hbw0⟩
      case round =>
        obtain ⟨k, M, X, Y, hk, rfl, rfl, rfl, rfl, hat, hbw⟩ := hrel
        have zw := hbw.size
        by_cases hlt : k < l.length
        · have HAT := Lib.hid hat
          clear hat
          go_wp2_with fail
          refine (mwaits_any a k A A' c c' p l wr B (Nat.le_trans hB zw) (hp.below (hbw.mono hB)) (hl.below (hbw.mono hB)) hpk hy hll hlt).mono ?_
          rintro e w1 ⟨rfl, k1⟩
          have k1' := hbw.trans (k1.mono zw)
          have z1 := k1'.size
          cases hwa : wtD p a l k
          · have Hn := Lib.hid (DocAt.out HAT.out (fun e => by rw [hwa] at e; simp at e))
            clear hwa
            go_wp2_with fail
            go_roundw
            case rel => exact ⟨i + 1, M, hlt0, by go_num, rfl, Hn.out, k1'⟩
            case measure => simp [intOf]; omega
          · have Hwa := Lib.hid hwa
            clear hwa
            go_wp2_with fail
            refine (mwaits_any b k A A' c c' p l w1 B (Nat.le_trans hB z1) (hp.below (k1'.mono hB)) (hl.below (k1'.mono hB)) hpk hy hll hlt).mono ?_
            rintro e w2 ⟨rfl, k2⟩
            have k2' := k1'.trans (k2.mono z1)
            have z2 := k2'.size
            cases hwb : wtD p b l k
            · have Hn := Lib.hid (DocAt.out HAT.out (fun e => by rw [hwb] at e; simp at e))
              clear hwb
              go_wp2_with fail
              go_roundw
              case rel => exact ⟨i + 1, M, hlt0, by go_num, rfl, Hn.out, k2'⟩
              case measure => simp [intOf]; omega
            · have Hwb := Lib.hid hwb
              clear hwb
              obtain ⟨q, o, rfl, hqq, d0, d1, d2⟩ := RdS.get (hl.below (k2'.mono hB)) hlt
              have hsk := hy _ (List.getElem_mem hlt)
              obtain ⟨n, hn⟩ : ∃ n : Nat, l[k].p = n := ⟨l[k].p.toNat, by omega⟩
              have hnl : n < p.length := by omega
              obtain ⟨b1, o1, rfl, hb1, f0, f1, f2⟩ := RdP.get (hp.below (k2'.mono hB)) hnl
              have hok := hpk _ (List.getElem_mem hnl)
              obtain ⟨g, hg⟩ : ∃ g : Nat, p[n].f = g := ⟨p[n].f.toNat, by have := hok.1; omega⟩
              obtain ⟨z, hz⟩ : ∃ z, z = p[n].s := ⟨_, rfl⟩
              have hz1 : 1 ≤ z := by rw [hz]; exact hok.2.2.1
              have hz2 : z ≤ 1500 := by rw [hz]; exact hok.2.2.2.1
              have hfl : flS p l[k] = g := by unfold flS; rw [hn, Int.toNat_natCast, fOf_of hnl, hg, Int.toNat_natCast]
              have hsz : sOf p l[k].p.toNat = z := by rw [hn, Int.toNat_natCast, sOf_of hnl, hz]
              rw [hn] at d0
              rw [hg] at f0
              rw [← hz] at f1
              obtain ⟨pa, hpa⟩ : ∃ pa, pa = p[n].a := ⟨_, rfl⟩
              rw [← hpa] at f2
              obtain ⟨b2, o2, rfl, hb2, ga0⟩ := RdI.get (hqs.below (k2'.mono hB)) (show a < qs.length by rw [H8.out]; exact ha)
              have gb0 : w2.cell? ⟨b2, o2 + b, none⟩ = some (.int .i64 qb) := by
                obtain ⟨b3, o3, e3, _, e5⟩ := RdI.get (hqs.below (k2'.mono hB)) (show b < qs.length by rw [H8.out]; exact hb)
                simp only [Option.some.injEq, Addr.mk.injEq, and_true] at e3
                obtain ⟨rfl, rfl⟩ := e3
                rw [e5, EQB.out]
                unfold qu
                simp [List.getD, show b < qs.length by rw [H8.out]; exact hb]
              have ga1 : w2.cell? ⟨b2, o2 + a, none⟩ = some (.int .i64 qa) := by
                rw [ga0, EQA.out]
                unfold qu
                simp [List.getD, show a < qs.length by rw [H8.out]; exact ha]
              have bq := (Below.refl w2.heap.size w2).alloc (Nat.le_refl _) (.cells #[.int .i64 (g : Int), .int .i64 z, .int .i64 pa] 32)
              obtain ⟨V, hV⟩ : ∃ V : World, V = w2.alloc (.cells #[.int .i64 (g : Int), .int .i64 z, .int .i64 pa] 32) := ⟨_, rfl⟩
              rw [← hV] at bq
              have wa : V.cell? ⟨b2, o2 + a, none⟩ = some (.int .i64 qa) := (bq.cell (p := ⟨b2, o2 + a, none⟩) (World.block_lt_of_cell? _ _ ga1)).trans ga1
              have wb : V.cell? ⟨b2, o2 + b, none⟩ = some (.int .i64 qb) := (bq.cell (p := ⟨b2, o2 + b, none⟩) (World.block_lt_of_cell? _ _ gb0)).trans gb0
              have p1 : (0 : Int) ≤ (k : Int) := by omega
              have p2 : (k : Int) < (l.length : Int) := by omega
              have p3 : (0 : Int) ≤ (n : Int) := by omega
              have p4 : (n : Int) < (p.length : Int) := by omega
              have p5 : (0 : Int) ≤ (a : Int) := by omega
              have p6 : (a : Int) < (qs.length : Int) := by rw [H8.out]; omega
              have p7 : (0 : Int) ≤ (b : Int) := by omega
              have p8 : (b : Int) < (qs.length : Int) := by rw [H8.out]; omega
              have kV := k2'.trans (bq.mono z2)
              obtain ⟨_, x0, x1, y0, y1⟩ := HAT.out
              have Hfl := Lib.hid hfl
              have Hsz := Lib.hid hsz
              have HV := Lib.hid hV
              clear hn hok hg hz hfl hsz hpa hV ga0 ga1 gb0 hsk
              have X9 : X ≤ 1500000 := by omega
              have Y9 : Y ≤ 1500000 := by omega
              have mul9 : ∀ (u v : Int), 0 ≤ u → u ≤ 1510000 → 1 ≤ v → v ≤ 3000 → 0 ≤ u * v ∧ u * v ≤ 5000000000 := fun u v h1 h2 h3 h4 => by
                have e1 := Int.mul_le_mul h2 h4 (by omega) (by omega : (0:Int) ≤ 1510000)
                exact ⟨Int.mul_nonneg h1 (by omega), by omega⟩
              by_cases hga : g = a
              · have j1 : ((g : Int) == (a : Int)) = true := by simp [hga]
                have Hga := Lib.hid hga
                clear hga
                by_cases hgb : g = b
                · have j2 : ((g : Int) == (b : Int)) = true := by simp [hgb]
                  have Hgb := Lib.hid hgb
                  clear hgb
                  obtain ⟨u0, u1⟩ := mul9 (X + z) qb (by omega) (by omega) qb1 qb2
                  obtain ⟨v0, v1⟩ := mul9 (Y + z) qa (by omega) (by omega) qa1 qa2
                  have hstep : (X + z) * qb - (Y + z) * qa = X * qb - Y * qa + cnt p qa qb a b l[k] := by
                    unfold cnt
                    rw [Hfl.out, Hsz.out, if_pos Hga.out, if_pos Hgb.out]
                    try simp only [Int.add_mul]
                    omega
                  have Hstep := Lib.hid hstep
                  clear hstep mul9
                  by_cases hneg : (X + z) * qb - (Y + z) * qa < 0
                  · by_cases hM : M < -((X + z) * qb - (Y + z) * qa)
                    · have HM := Lib.hid (show -((X + z) * qb - (Y + z) * qa) = if M < iabs ((X + z) * qb - (Y + z) * qa) then iabs ((X + z) * qb - (Y + z) * qa) else M by unfold iabs; rw [if_pos hneg, if_pos hM])
                      go_wp2_with fail
                      rw [← HV.out]
                      go_quiet (fail)
                      rename Nat => nq
                      go_wp2_with fail
                      go_roundw
                      case rel => exact ⟨k + 1, _, X + z, Y + z, hlt, by go_num, rfl, rfl, rfl, DocAt.in_ HAT.out hlt ⟨Hwa.out, Hwb.out⟩ Hstep.out (by omega) (by omega) (by omega) (by omega) HM.out, below_drewN kV nq⟩
                      case measure => simp [intOf]; omega
                    · have HM := Lib.hid (show M = if M < iabs ((X + z) * qb - (Y + z) * qa) then iabs ((X + z) * qb - (Y + z) * qa) else M by unfold iabs; rw [if_pos hneg, if_neg hM])
                      go_wp2_with fail
                      rw [← HV.out]
                      go_quiet (fail)
                      rename Nat => nq
                      go_wp2_with fail
                      go_roundw
                      case rel => exact ⟨k + 1, _, X + z, Y + z, hlt, by go_num, rfl, rfl, rfl, DocAt.in_ HAT.out hlt ⟨Hwa.out, Hwb.out⟩ Hstep.out (by omega) (by omega) (by omega) (by omega) HM.out, below_drewN kV nq⟩
                      case measure => simp [intOf]; omega
                  · by_cases hM : M < (X + z) * qb - (Y + z) * qa
                    · have HM := Lib.hid (show (X + z) * qb - (Y + z) * qa = if M < iabs ((X + z) * qb - (Y + z) * qa) then iabs ((X + z) * qb - (Y + z) * qa) else M by unfold iabs; rw [if_neg hneg, if_pos hM])
                      go_wp2_with fail
                      rw [← HV.out]
                      go_quiet (fail)
                      rename Nat => nq
                      go_wp2_with fail
                      go_roundw
                      case rel => exact ⟨k + 1, _, X + z, Y + z, hlt, by go_num, rfl, rfl, rfl, DocAt.in_ HAT.out hlt ⟨Hwa.out, Hwb.out⟩ Hstep.out (by omega) (by omega) (by omega) (by omega) HM.out, below_drewN kV nq⟩
                      case measure => simp [intOf]; omega
                    · have HM := Lib.hid (show M = if M < iabs ((X + z) * qb - (Y + z) * qa) then iabs ((X + z) * qb - (Y + z) * qa) else M by unfold iabs; rw [if_neg hneg, if_neg hM])
                      go_wp2_with fail
                      rw [← HV.out]
                      go_quiet (fail)
                      rename Nat => nq
                      go_wp2_with fail
                      go_roundw
                      case rel => exact ⟨k + 1, _, X + z, Y + z, hlt, by go_num, rfl, rfl, rfl, DocAt.in_ HAT.out hlt ⟨Hwa.out, Hwb.out⟩ Hstep.out (by omega) (by omega) (by omega) (by omega) HM.out, below_drewN kV nq⟩
                      case measure => simp [intOf]; omega
                · have j2 : ((g : Int) == (b : Int)) = false := by simp; omega
                  obtain ⟨u0, u1⟩ := mul9 (X + z) qb (by omega) (by omega) qb1 qb2
                  obtain ⟨v0, v1⟩ := mul9 (Y) qa (by omega) (by omega) qa1 qa2
                  have hstep : (X + z) * qb - (Y) * qa = X * qb - Y * qa + cnt p qa qb a b l[k] := by
                    unfold cnt
                    rw [Hfl.out, Hsz.out, if_pos Hga.out, if_neg hgb]
                    try simp only [Int.add_mul]
                    omega
                  have Hstep := Lib.hid hstep
                  clear hstep mul9
                  by_cases hneg : (X + z) * qb - (Y) * qa < 0
                  · by_cases hM : M < -((X + z) * qb - (Y) * qa)
                    · have HM := Lib.hid (show -((X + z) * qb - (Y) * qa) = if M < iabs ((X + z) * qb - (Y) * qa) then iabs ((X + z) * qb - (Y) * qa) else M by unfold iabs; rw [if_pos hneg, if_pos hM])
                      go_wp2_with fail
                      rw [← HV.out]
                      go_quiet (fail)
                      rename Nat => nq
                      go_wp2_with fail
                      go_roundw
                      case rel => exact ⟨k + 1, _, X + z, Y, hlt, by go_num, rfl, rfl, rfl, DocAt.in_ HAT.out hlt ⟨Hwa.out, Hwb.out⟩ Hstep.out (by omega) (by omega) (by omega) (by omega) HM.out, below_drewN kV nq⟩
                      case measure => simp [intOf]; omega
                    · have HM := Lib.hid (show M = if M < iabs ((X + z) * qb - (Y) * qa) then iabs ((X + z) * qb - (Y) * qa) else M by unfold iabs; rw [if_pos hneg, if_neg hM])
                      go_wp2_with fail
                      rw [← HV.out]
                      go_quiet (fail)
                      rename Nat => nq
                      go_wp2_with fail
                      go_roundw
                      case rel => exact ⟨k + 1, _, X + z, Y, hlt, by go_num, rfl, rfl, rfl, DocAt.in_ HAT.out hlt ⟨Hwa.out, Hwb.out⟩ Hstep.out (by omega) (by omega) (by omega) (by omega) HM.out, below_drewN kV nq⟩
                      case measure => simp [intOf]; omega
                  · by_cases hM : M < (X + z) * qb - (Y) * qa
                    · have HM := Lib.hid (show (X + z) * qb - (Y) * qa = if M < iabs ((X + z) * qb - (Y) * qa) then iabs ((X + z) * qb - (Y) * qa) else M by unfold iabs; rw [if_neg hneg, if_pos hM])
                      go_wp2_with fail
                      rw [← HV.out]
                      go_quiet (fail)
                      rename Nat => nq
                      go_wp2_with fail
                      go_roundw
                      case rel => exact ⟨k + 1, _, X + z, Y, hlt, by go_num, rfl, rfl, rfl, DocAt.in_ HAT.out hlt ⟨Hwa.out, Hwb.out⟩ Hstep.out (by omega) (by omega) (by omega) (by omega) HM.out, below_drewN kV nq⟩
                      case measure => simp [intOf]; omega
                    · have HM := Lib.hid (show M = if M < iabs ((X + z) * qb - (Y) * qa) then iabs ((X + z) * qb - (Y) * qa) else M by unfold iabs; rw [if_neg hneg, if_neg hM])
                      go_wp2_with fail
                      rw [← HV.out]
                      go_quiet (fail)
                      rename Nat => nq
                      go_wp2_with fail
                      go_roundw
                      case rel => exact ⟨k + 1, _, X + z, Y, hlt, by go_num, rfl, rfl, rfl, DocAt.in_ HAT.out hlt ⟨Hwa.out, Hwb.out⟩ Hstep.out (by omega) (by omega) (by omega) (by omega) HM.out, below_drewN kV nq⟩
                      case measure => simp [intOf]; omega
              · have j1 : ((g : Int) == (a : Int)) = false := by simp; omega
                by_cases hgb : g = b
                · have j2 : ((g : Int) == (b : Int)) = true := by simp [hgb]
                  have Hgb := Lib.hid hgb
                  clear hgb
                  obtain ⟨u0, u1⟩ := mul9 (X) qb (by omega) (by omega) qb1 qb2
                  obtain ⟨v0, v1⟩ := mul9 (Y + z) qa (by omega) (by omega) qa1 qa2
                  have hstep : (X) * qb - (Y + z) * qa = X * qb - Y * qa + cnt p qa qb a b l[k] := by
                    unfold cnt
                    rw [Hfl.out, Hsz.out, if_neg hga, if_pos Hgb.out]
                    try simp only [Int.add_mul]
                    omega
                  have Hstep := Lib.hid hstep
                  clear hstep mul9
                  by_cases hneg : (X) * qb - (Y + z) * qa < 0
                  · by_cases hM : M < -((X) * qb - (Y + z) * qa)
                    · have HM := Lib.hid (show -((X) * qb - (Y + z) * qa) = if M < iabs ((X) * qb - (Y + z) * qa) then iabs ((X) * qb - (Y + z) * qa) else M by unfold iabs; rw [if_pos hneg, if_pos hM])
                      go_wp2_with fail
                      rw [← HV.out]
                      go_quiet (fail)
                      rename Nat => nq
                      go_wp2_with fail
                      go_roundw
                      case rel => exact ⟨k + 1, _, X, Y + z, hlt, by go_num, rfl, rfl, rfl, DocAt.in_ HAT.out hlt ⟨Hwa.out, Hwb.out⟩ Hstep.out (by omega) (by omega) (by omega) (by omega) HM.out, below_drewN kV nq⟩
                      case measure => simp [intOf]; omega
                    · have HM := Lib.hid (show M = if M < iabs ((X) * qb - (Y + z) * qa) then iabs ((X) * qb - (Y + z) * qa) else M by unfold iabs; rw [if_pos hneg, if_neg hM])
                      go_wp2_with fail
                      rw [← HV.out]
                      go_quiet (fail)
                      rename Nat => nq
                      go_wp2_with fail
                      go_roundw
                      case rel => exact ⟨k + 1, _, X, Y + z, hlt, by go_num, rfl, rfl, rfl, DocAt.in_ HAT.out hlt ⟨Hwa.out, Hwb.out⟩ Hstep.out (by omega) (by omega) (by omega) (by omega) HM.out, below_drewN kV nq⟩
                      case measure => simp [intOf]; omega
                  · by_cases hM : M < (X) * qb - (Y + z) * qa
                    · have HM := Lib.hid (show (X) * qb - (Y + z) * qa = if M < iabs ((X) * qb - (Y + z) * qa) then iabs ((X) * qb - (Y + z) * qa) else M by unfold iabs; rw [if_neg hneg, if_pos hM])
                      go_wp2_with fail
                      rw [← HV.out]
                      go_quiet (fail)
                      rename Nat => nq
                      go_wp2_with fail
                      go_roundw
                      case rel => exact ⟨k + 1, _, X, Y + z, hlt, by go_num, rfl, rfl, rfl, DocAt.in_ HAT.out hlt ⟨Hwa.out, Hwb.out⟩ Hstep.out (by omega) (by omega) (by omega) (by omega) HM.out, below_drewN kV nq⟩
                      case measure => simp [intOf]; omega
                    · have HM := Lib.hid (show M = if M < iabs ((X) * qb - (Y + z) * qa) then iabs ((X) * qb - (Y + z) * qa) else M by unfold iabs; rw [if_neg hneg, if_neg hM])
                      go_wp2_with fail
                      rw [← HV.out]
                      go_quiet (fail)
                      rename Nat => nq
                      go_wp2_with fail
                      go_roundw
                      case rel => exact ⟨k + 1, _, X, Y + z, hlt, by go_num, rfl, rfl, rfl, DocAt.in_ HAT.out hlt ⟨Hwa.out, Hwb.out⟩ Hstep.out (by omega) (by omega) (by omega) (by omega) HM.out, below_drewN kV nq⟩
                      case measure => simp [intOf]; omega
                · have j2 : ((g : Int) == (b : Int)) = false := by simp; omega
                  obtain ⟨u0, u1⟩ := mul9 (X) qb (by omega) (by omega) qb1 qb2
                  obtain ⟨v0, v1⟩ := mul9 (Y) qa (by omega) (by omega) qa1 qa2
                  have hstep : (X) * qb - (Y) * qa = X * qb - Y * qa + cnt p qa qb a b l[k] := by
                    unfold cnt
                    rw [Hfl.out, Hsz.out, if_neg hga, if_neg hgb]
                    try simp only [Int.add_mul]
                    omega
                  have Hstep := Lib.hid hstep
                  clear hstep mul9
                  by_cases hneg : (X) * qb - (Y) * qa < 0
                  · by_cases hM : M < -((X) * qb - (Y) * qa)
                    · have HM := Lib.hid (show -((X) * qb - (Y) * qa) = if M < iabs ((X) * qb - (Y) * qa) then iabs ((X) * qb - (Y) * qa) else M by unfold iabs; rw [if_pos hneg, if_pos hM])
                      go_wp2_with fail
                      rw [← HV.out]
                      go_quiet (fail)
                      rename Nat => nq
                      go_wp2_with fail
                      go_roundw
                      case rel => exact ⟨k + 1, _, X, Y, hlt, by go_num, rfl, rfl, rfl, DocAt.in_ HAT.out hlt ⟨Hwa.out, Hwb.out⟩ Hstep.out (by omega) (by omega) (by omega) (by omega) HM.out, below_drewN kV nq⟩
                      case measure => simp [intOf]; omega
                    · have HM := Lib.hid (show M = if M < iabs ((X) * qb - (Y) * qa) then iabs ((X) * qb - (Y) * qa) else M by unfold iabs; rw [if_pos hneg, if_neg hM])
                      go_wp2_with fail
                      rw [← HV.out]
                      go_quiet (fail)
                      rename Nat => nq
                      go_wp2_with fail
                      go_roundw
                      case rel => exact ⟨k + 1, _, X, Y, hlt, by go_num, rfl, rfl, rfl, DocAt.in_ HAT.out hlt ⟨Hwa.out, Hwb.out⟩ Hstep.out (by omega) (by omega) (by omega) (by omega) HM.out, below_drewN kV nq⟩
                      case measure => simp [intOf]; omega
                  · by_cases hM : M < (X) * qb - (Y) * qa
                    · have HM := Lib.hid (show (X) * qb - (Y) * qa = if M < iabs ((X) * qb - (Y) * qa) then iabs ((X) * qb - (Y) * qa) else M by unfold iabs; rw [if_neg hneg, if_pos hM])
                      go_wp2_with fail
                      rw [← HV.out]
                      go_quiet (fail)
                      rename Nat => nq
                      go_wp2_with fail
                      go_roundw
                      case rel => exact ⟨k + 1, _, X, Y, hlt, by go_num, rfl, rfl, rfl, DocAt.in_ HAT.out hlt ⟨Hwa.out, Hwb.out⟩ Hstep.out (by omega) (by omega) (by omega) (by omega) HM.out, below_drewN kV nq⟩
                      case measure => simp [intOf]; omega
                    · have HM := Lib.hid (show M = if M < iabs ((X) * qb - (Y) * qa) then iabs ((X) * qb - (Y) * qa) else M by unfold iabs; rw [if_neg hneg, if_neg hM])
                      go_wp2_with fail
                      rw [← HV.out]
                      go_quiet (fail)
                      rename Nat => nq
                      go_wp2_with fail
                      go_roundw
                      case rel => exact ⟨k + 1, _, X, Y, hlt, by go_num, rfl, rfl, rfl, DocAt.in_ HAT.out hlt ⟨Hwa.out, Hwb.out⟩ Hstep.out (by omega) (by omega) (by omega) (by omega) HM.out, below_drewN kV nq⟩
                      case measure => simp [intOf]; omega
        · have Hn := Lib.hid (DocAt.out hat (fun e => hlt e.1))
          clear hat
          go_wp2_with fail
          go_roundw
          case rel => exact ⟨i + 1, M, hlt0, by go_num, rfl, Hn.out, hbw⟩
          case measure => simp [intOf]; omega
    · rw [List.drop_eq_nil_of_le (by omega)] at hdoc
      have Hd := Lib.hid (show docOut p qa qb a b 0 l = M0 from hdoc)
      clear hdoc
      go_wp2_with fail
      go_ret
      exact ⟨ret_int (by rw [← Hfin.out, Hd.out]), hbw0⟩
end Go.Proofs.YtkkecnofgmpekaaDoor
