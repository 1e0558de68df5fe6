/- Package round: Spread. Conditions: few are sent, ticks are not too great; the sentinels that it names lie in their variables. -/
import Derived.Test.YtkkecnofgmpekaaDoorRWait
import Derived.Test.YtkkecnofgmpekaaDoorRoundG
import Derived.Lib.MinMax
import Derived.StillTailTactics
namespace Go.Proofs.YtkkecnofgmpekaaDoor
open Go.RowKit
set_option maxRecDepth 100000
def sprErr (p : List Pk) (l : List Sn) (qs : List Int) (a b : Int) : Nat × Int := if qs.length ≠ 8 then (3, -1) else if (a < 0 ∨ 8 ≤ a ∨ b < 0 ∨ 8 ≤ b) ∨ quErr qs ≠ 0 then (2, -1) else if (pktErr p).1 ≠ 0 then pktErr p else delErr p.length l
def sprV (p : List Pk) (l : List Sn) (qs : List Int) (a b : Int) : Int := if (sprErr p l qs a b).1 = 0 then sprL p (qu qs a.toNat) (qu qs b.toNat) a.toNat b.toNat l else 0
theorem quErr_ok {l : List Int} (h : quErr l = 0) : l.length = 8 ∧ ∀ n ∈ l, 1 ≤ n ∧ n ≤ 3000 := by
  unfold quErr at h
  by_cases h8 : l.length = 8
  · rw [if_pos h8] at h
    by_cases ho : 0 ≤ qIdx l 0
    · rw [if_pos ho] at h; omega
    · exact ⟨h8, qIdx_none ho⟩
  · rw [if_neg h8] at h; omega
/-- What holds at each round's head of Spread's loop. -/
structure SprAt (p : List Pk) (qa qb : Int) (a b : Nat) (l : List Sn) (k : Nat) (M S L H : Int) : Prop where
  eq : sprL p qa qb a b l = sprGo p qa qb a b M S L H (l.drop k)
  s1 : -(5000000 * (k : Int)) ≤ S
  s2 : S ≤ 5000000 * (k : Int)
  l1 : -(5000000 * (k : Int)) ≤ L
  l2 : L ≤ 5000000 * (k : Int)
  h1 : -(5000000 * (k : Int)) ≤ H
  h2 : H ≤ 5000000 * (k : Int)
theorem SprAt.out {p : List Pk} {qa qb : Int} {a b : Nat} {l : List Sn} {k : Nat} {M S L H : Int} (h : SprAt p qa qb a b l k M S L H) (hk : k < l.length) (hw : ¬ (wtD p a l k = true ∧ wtD p b l k = true)) : SprAt p qa qb a b l (k + 1) M 0 0 0 := by
  have hd := List.drop_eq_getElem_cons hk
  have he : snAt l k = l[k] := by simp [snAt, List.getD, hk]
  refine ⟨?_, by omega, by omega, by omega, by omega, by omega, by omega⟩
  rw [h.eq, hd]
  unfold wtD at hw
  rw [he] at hw
  rw [sprGo, if_neg hw]
theorem mx3 (M x y : Int) : (if (if M < x then x else M) < y then y else if M < x then x else M) = max (max M x) y := by
  split <;> split <;> (try split at *) <;> omega
theorem SprAt.in_ {p : List Pk} {qa qb : Int} {a b : Nat} {l : List Sn} {k : Nat} {M S L H x T : Int} (h : SprAt p qa qb a b l k M S L H) (hk : k < l.length) (hw : wtD p a l k = true ∧ wtD p b l k = true) (hx : x = cnt p qa qb a b l[k]) (x1 : -5000000 ≤ x) (x2 : x ≤ 5000000) (hT : T = S + x) :
    SprAt p qa qb a b l (k + 1) (if (if M < T - L then T - L else M) < H - T then H - T else if M < T - L then T - L else M) T (min L T) (max H T) := by
  rw [mx3]
  have hd := List.drop_eq_getElem_cons hk
  have he : snAt l k = l[k] := by simp [snAt, List.getD, hk]
  obtain ⟨h0, h1, h2, h3, h4, h5, h6⟩ := h
  subst hT
  refine ⟨?_, by omega, by omega, by omega, by omega, by omega, by omega⟩
  rw [h0, hd]
  unfold wtD at hw
  rw [he] at hw
  rw [sprGo, if_pos hw, ← hx]
set_option maxHeartbeats 4000000 in
theorem spread_ok (A A' A'' : Option Addr) (c c' c'' a b : Nat) (p : List Pk) (l : List Sn) (qs : List Int) (S : Nat → Addr) (w : World) (B : Nat) (hB : B ≤ w.heap.size) (h : RdP w B A p) (h' : RdS w B A' l) (h'' : RdI w B A'' qs) (hS : Snt w B S [2, 3, 4, 5]) (hl : p.length ≤ 9223372036854775807) (hl' : l.length ≤ 1000) (hl'' : qs.length ≤ 9223372036854775807) (hc : l.length ≤ c')
    (ht : ∀ x ∈ l, tame50 x.t) (ha8 : a < 8) (hb8 : b < 8) (hq : quErr qs = 0) (h1 : (pktErr p).1 = 0) (h3 : (delErr p.length l).1 = 0) :
    Calls Tryd.prog 22 #[.slice A p.length c, .slice A' l.length c', .slice A'' qs.length c'', .int .i64 (a : Int), .int .i64 (b : Int)] w (EndVEr (.int .i64 (sprL p (qu qs a) (qu qs b) a b l)) S 0 (-1) w) := by
  have hpk := pktErr_okPk h1
  have Hc := Lib.hid (pktErr_nil h1)
  obtain ⟨h8, hqu⟩ := quErr_ok hq
  have hta : ∀ x ∈ p, tame50 x.a := fun x hx => by
    have := (hpk x hx).2.2.2.2
    unfold tame50
    omega
  obtain ⟨hbad, hd0⟩ := delErr_ok h3
  have hsp : ∀ y ∈ l, 0 ≤ y.p ∧ y.p.toNat < p.length := fun y hy => by
    have := sentBad_ok hbad y hy
    omega
  have Hd := Lib.hid hd0
  have Ho := Lib.hid (show delOut p l = delL p l from if_pos hbad)
  have hqb := qu_bd h8 hqu
  have H8 := Lib.hid h8
  have Hq := Lib.hid hq
  have hb1 : ((qs.length : Int) != 8) = false := by rw [h8]; rfl
  have q1 : ¬ (a : Int) < 0 := by omega
  have q2 : ¬ (8 : Int) ≤ (a : Int) := by omega
  have q3 : ¬ (b : Int) < 0 := by omega
  have q4 : ¬ (8 : Int) ≤ (b : Int) := by omega
  clear h1 h3 h8 hbad hd0 hq
  go_enter Tryd.func22, Tryd.ntmps22
  go_wp2_with fail
  refine (qnumbers_any A'' c'' qs S w B hB h'' (hS.sub (by simp)) hl'').mono ?_
  rintro e w0 ⟨v, rfl, hv, k0⟩
  obtain rfl := hv.nil_of Hq.out
  have z0 := k0.size
  go_wp2_with fail
  refine (pcheck_any A c p S _ B (Nat.le_trans hB z0) (h.below (k0.mono hB)) ((hS.below (k0.mono hB)).sub (by simp)) hl).mono ?_
  rintro e w1 ⟨v, rfl, hv, k1⟩
  obtain rfl := hv.nil_of (by rw [Hc.out])
  have k1' := k0.trans (k1.mono z0)
  have z1 := k1'.size
  go_wp2_with fail
  refine (delays_any A A' c c' p l S w1 B (by omega) (h.below (k1'.mono hB)) (h'.below (k1'.mono hB)) ((hS.below (k1'.mono hB)).sub (by simp)) hl (by omega) ht hta).mono ?_
  rintro e w2 ⟨A3, c3, v, rfl, o3, hv, k2⟩
  obtain rfl := hv.nil_of (by rw [Hd.out])
  have k2' := k1'.trans (k2.mono z1)
  have z2 := k2'.size
  clear o3 hv
  go_wp2_with fail
  refine (rwaits_any a A A' c c' p l w2 B (by omega) (h.below (k2'.mono hB)) (h'.below (k2'.mono hB)) hpk hsp (by omega) hc).mono ?_
  rintro e w3 ⟨ga, rfl, ra, k3⟩
  have k3' := k2'.trans (k3.mono z2)
  have z3 := k3'.size
  have lga : ga < w3.heap.size := own_lt ra _ rfl
  go_wp2_with fail
  refine (rwaits_any b A A' c c' p l w3 B (by omega) (h.below (k3'.mono hB)) (h'.below (k3'.mono hB)) hpk hsp (by omega) hc).mono ?_
  rintro e w4 ⟨gb, rfl, rb, k4⟩
  have k4' := k3'.trans (k4.mono z3)
  have z4 := k4'.size
  have lgb : gb < w4.heap.size := own_lt rb _ rfl
  have lga' : ga < w4.heap.size := Nat.lt_of_lt_of_le lga k4.size
  have ra' : BRow w4 w2.heap.size 4 ga l.length (wtD p a l) := own_same ra fun g hg => by
    have hlt := own_lt ra g hg
    exact k4.block g hlt
  have RA := Lib.hid ra'
  have RB := Lib.hid rb
  have hqa := hqb a ha8
  have hqbb := hqb b hb8
  obtain ⟨qa, eqa⟩ : ∃ qa, qa = qu qs a := ⟨_, rfl⟩
  obtain ⟨qb, eqb⟩ : ∃ qb, qb = qu qs b := ⟨_, rfl⟩
  rw [← eqa] at hqa ⊢
  rw [← eqb] at hqbb ⊢
  obtain ⟨qa1, qa2⟩ := hqa
  obtain ⟨qb1, qb2⟩ := hqbb
  have EQA := Lib.hid eqa
  have EQB := Lib.hid eqb
  clear ra ra' rb eqa eqb hqb hqu q1 q2 q3 q4 hb1
  go_wp2_with fail
  go_loopw [17, 18, 19, 20, 72] (fun m s lo hi i wr => ∃ (k : Nat) (M S L H : Int), k ≤ l.length ∧ i = .int .i64 k ∧ m = .int .i64 M ∧ s = .int .i64 S ∧ lo = .int .i64 L ∧ hi = .int .i64 H ∧ SprAt p qa qb a b l k M S L H ∧ Below w4.heap.size w4 wr) (fun _ _ _ _ i _ => l.length - (intOf i).toNat)
  case atStart => exact ⟨0, 0, 0, 0, 0, Nat.zero_le _, rfl, rfl, rfl, rfl, rfl, ⟨rfl, by omega, by omega, by omega, by omega, by omega, by omega⟩, Below.refl _ _⟩
  case round =>
    obtain ⟨k, M, T, L, H, hk, rfl, rfl, rfl, rfl, rfl, hat, hbw⟩ := hrel
    have kw := k4'.trans (hbw.mono z4)
    have zw := hbw.size
    by_cases hlt : k < l.length
    · obtain ⟨q, o, rfl, hqq, d0, d1, d2⟩ := RdS.get (h'.below (kw.mono hB)) hlt
      have e0 : wr.cell? ⟨ga, k, none⟩ = some (.bool (wtD p a l k)) := (hbw.cell (p := ⟨ga, k, none⟩) lga').trans (BRow.cell RA.out hlt)
      have e1 : wr.cell? ⟨gb, k, none⟩ = some (.bool (wtD p b l k)) := (hbw.cell (p := ⟨gb, k, none⟩) lgb).trans (BRow.cell RB.out hlt)
      have p1 : (0 : Int) ≤ (k : Int) := by omega
      have p2 : (k : Int) < (l.length : Int) := by omega
      have bx := (Below.refl wr.heap.size wr).alloc (Nat.le_refl _) (.cells #[.int .i64 l[k].p, .int .i64 l[k].f, .int .i64 l[k].t] 34)
      have e0' : (wr.alloc (.cells #[.int .i64 l[k].p, .int .i64 l[k].f, .int .i64 l[k].t] 34)).cell? ⟨ga, k, none⟩ = some (.bool (wtD p a l k)) := (bx.cell (p := ⟨ga, k, none⟩) (by simp only; omega)).trans e0
      have e1' : (wr.alloc (.cells #[.int .i64 l[k].p, .int .i64 l[k].f, .int .i64 l[k].t] 34)).cell? ⟨gb, k, none⟩ = some (.bool (wtD p b l k)) := (bx.cell (p := ⟨gb, k, none⟩) (by simp only; omega)).trans e1
      have HAT := Lib.hid hat
      clear hat e0 e1
      cases hwa : wtD p a l k
      · have Hn := Lib.hid (SprAt.out HAT.out hlt (by rw [hwa]; simp))
        rw [hwa] at e0'
        clear hwa e1'
        go_wp2_with fail
        go_roundw
        case rel => exact ⟨k + 1, M, 0, 0, 0, hlt, by go_num, rfl, rfl, rfl, rfl, Hn.out, hbw.trans (bx.mono zw)⟩
        case measure => simp [intOf]; omega
      · cases hwb : wtD p b l k
        · have Hn := Lib.hid (SprAt.out HAT.out hlt (by rw [hwb]; simp))
          rw [hwa] at e0'
          rw [hwb] at e1'
          clear hwa hwb
          go_wp2_with fail
          go_roundw
          case rel => exact ⟨k + 1, M, 0, 0, 0, hlt, by go_num, rfl, rfl, rfl, rfl, Hn.out, hbw.trans (bx.mono zw)⟩
          case measure => simp [intOf]; omega
        · have Hw := Lib.hid (And.intro hwa hwb)
          rw [hwa] at e0'
          rw [hwb] at e1'
          clear hwa hwb
          have hsk := hsp _ (List.getElem_mem hlt)
          obtain ⟨n, hn⟩ : ∃ n : Nat, l[k].p = n := ⟨l[k].p.toNat, by omega⟩
          have hnl : n < p.length := by omega
          obtain ⟨b1, o1, rfl, hb1, f0, f1, f2⟩ := RdP.get (h.below (kw.mono hB)) hnl
          have hok := hpk _ (List.getElem_mem hnl)
          obtain ⟨g, hg⟩ : ∃ g : Nat, p[n].f = g := ⟨p[n].f.toNat, by have := hok.1; omega⟩
          obtain ⟨z, hz⟩ : ∃ z, z = p[n].s := ⟨_, rfl⟩
          have hz1 : 1 ≤ z := by rw [hz]; exact hok.2.2.1
          have hz2 : z ≤ 1500 := by rw [hz]; exact hok.2.2.2.1
          have hfl : flS p l[k] = g := by unfold flS; rw [hn, Int.toNat_natCast, fOf_of hnl, hg, Int.toNat_natCast]
          have hsz : sOf p l[k].p.toNat = z := by rw [hn, Int.toNat_natCast, sOf_of hnl, hz]
          rw [hn] at d0
          rw [hg] at f0
          rw [← hz] at f1
          obtain ⟨x, hx⟩ : ∃ x : Sn, x = l[k] := ⟨_, rfl⟩
          have hxp : x.p = n := by rw [hx]; exact hn
          rw [← hx] at d1 d2 hfl hsz
          rw [hn, ← hx] at bx e0' e1'
          obtain ⟨pa, hpa⟩ : ∃ pa, pa = p[n].a := ⟨_, rfl⟩
          rw [← hpa] at f2
          obtain ⟨b2, o2, rfl, hb2, ga0⟩ := RdI.get (h''.below (kw.mono hB)) (show a < qs.length by rw [H8.out]; exact ha8)
          have gb0 : wr.cell? ⟨b2, o2 + b, none⟩ = some (.int .i64 qb) := by
            obtain ⟨b3, o3, e3, _, e5⟩ := RdI.get (h''.below (kw.mono hB)) (show b < qs.length by rw [H8.out]; exact hb8)
            simp only [Option.some.injEq, Addr.mk.injEq, and_true] at e3
            obtain ⟨rfl, rfl⟩ := e3
            rw [e5, EQB.out]
            unfold qu
            simp [List.getD, show b < qs.length by rw [H8.out]; exact hb8]
          have ga1 : wr.cell? ⟨b2, o2 + a, none⟩ = some (.int .i64 qa) := by
            rw [ga0, EQA.out]
            unfold qu
            simp [List.getD, show a < qs.length by rw [H8.out]; exact ha8]
          have bq := bx.alloc (by simp) (.cells #[.int .i64 (g : Int), .int .i64 z, .int .i64 pa] 32)
          obtain ⟨X, hX⟩ : ∃ X : World, X = wr.alloc (.cells #[.int .i64 (n : Int), .int .i64 x.f, .int .i64 x.t] 34) := ⟨_, rfl⟩
          rw [← hX] at bx bq
          have sX : X.heap.size = wr.heap.size + 1 := by rw [hX]; simp
          obtain ⟨Y, hY⟩ : ∃ Y : World, Y = X.alloc (.cells #[.int .i64 (g : Int), .int .i64 z, .int .i64 pa] 32) := ⟨_, rfl⟩
          rw [← hY] at bq
          have oldX : ∀ (q : Addr) (u : Value), wr.cell? q = some u → X.cell? q = some u := fun q u hq => (bx.cell (p := q) (World.block_lt_of_cell? _ _ hq)).trans hq
          have oldY : ∀ (q : Addr) (u : Value), wr.cell? q = some u → Y.cell? q = some u := fun q u hq => (bq.cell (p := q) (World.block_lt_of_cell? _ _ hq)).trans hq
          have u0 := oldX _ _ f0
          have u1 := oldX _ _ f1
          have u2 := oldX _ _ f2
          have u3 : X.cell? ⟨wr.heap.size, 0, none⟩ = some (.int .i64 (n : Int)) := by rw [hX]; exact (Blk.new wr 34 #[.int .i64 (n : Int), .int .i64 x.f, .int .i64 x.t]).cell 0
          have u4 : X.cell? ⟨wr.heap.size, 1, none⟩ = some (.int .i64 x.f) := by rw [hX]; exact (Blk.new wr 34 #[.int .i64 (n : Int), .int .i64 x.f, .int .i64 x.t]).cell 1
          have u5 : X.cell? ⟨wr.heap.size, 2, none⟩ = some (.int .i64 x.t) := by rw [hX]; exact (Blk.new wr 34 #[.int .i64 (n : Int), .int .i64 x.f, .int .i64 x.t]).cell 2
          have v0 : Y.cell? ⟨X.heap.size, 0, none⟩ = some (.int .i64 (g : Int)) := by rw [hY]; exact (Blk.new X 32 #[.int .i64 (g : Int), .int .i64 z, .int .i64 pa]).cell 0
          have v1 : Y.cell? ⟨X.heap.size, 1, none⟩ = some (.int .i64 z) := by rw [hY]; exact (Blk.new X 32 #[.int .i64 (g : Int), .int .i64 z, .int .i64 pa]).cell 1
          have wa := oldY _ _ ga1
          have wb := oldY _ _ gb0
          have p3 : (0 : Int) ≤ (n : Int) := by omega
          have p4 : (n : Int) < (p.length : Int) := by omega
          have p5 : (0 : Int) ≤ (a : Int) := by omega
          have p6 : (a : Int) < (qs.length : Int) := by rw [H8.out]; omega
          have p7 : (0 : Int) ≤ (b : Int) := by omega
          have p8 : (b : Int) < (qs.length : Int) := by rw [H8.out]; omega
          have mb0 : 0 ≤ z * qb := Int.mul_nonneg (by omega) (by omega)
          have mb1 : z * qb ≤ 4500000 := by
            have := Int.mul_le_mul hz2 qb2 (by omega) (by omega : (0:Int) ≤ 1500)
            omega
          have ma0 : 0 ≤ z * qa := Int.mul_nonneg (by omega) (by omega)
          have ma1 : z * qa ≤ 4500000 := by
            have := Int.mul_le_mul hz2 qa2 (by omega) (by omega : (0:Int) ≤ 1500)
            omega
          obtain ⟨_, t1, t2, t3, t4, t5, t6⟩ := HAT.out
          have Hfl := Lib.hid hfl
          have Hsz := Lib.hid hsz
          have Hx := Lib.hid hx
          have u0' := u0
          have u1' := u1
          have u2' := u2
          have u3' := u3
          have v0' := v0
          have sY : Y.heap.size = wr.heap.size + 2 := by rw [hY]; simp [sX]
          rw [sX] at v0 v1 v0'
          rw [hY] at v0'
          rw [hX] at u0' u1' u2' u3' v0'
          have HX := Lib.hid hX
          have HY := Lib.hid hY
          have HsX := Lib.hid sX
          clear hn hok hg hz hfl hsz hx hxp hpa hX hY sX sY f0 f1 f2 ga0 ga1 gb0 oldX oldY hsk u0 u1 u2 u3 u4 u5
          have kY : Below w4.heap.size w4 Y := hbw.trans (bq.mono zw)
          by_cases hga : g = a
          · subst hga
            by_cases hgb : g = b
            · subst hgb
              have j1 : ((g : Int) == (g : Int)) = true := by simp
              go_wp2_with fail
              rw [← HX.out, ← HY.out]
              clear e0' e1' u0' u1' u2' u3' v0' d0 d1 d2
              go_quiet (fail)
              rename Nat => nq1
              go_wp2_with fail
              go_quiet (fail)
              rename Nat => nq2
              go_wp2_with fail
              go_roundw
              case rel => exact ⟨k + 1, _, T, _, _, hlt, by go_num, rfl, rfl, rfl, rfl, SprAt.in_ (x := 0) (T := T) HAT.out hlt Hw.out (by rw [← Hx.out]; unfold cnt; rw [Hfl.out, Hsz.out, if_pos rfl, if_pos rfl, show qb = qa by rw [EQA.out, EQB.out]]; omega) (by omega) (by omega) (by omega), below_drewN kY (nq1 + nq2)⟩
              case measure => simp [intOf]; omega
            · have j1 : ((g : Int) == (g : Int)) = true := by simp
              have j2 : ((g : Int) == (b : Int)) = false := by simp; omega
              go_wp2_with fail
              rw [← HX.out, ← HY.out]
              clear e0' e1' u0' u1' u2' u3' v0' d0 d1 d2
              go_quiet (fail)
              rename Nat => nq1
              go_wp2_with fail
              go_roundw
              case rel => exact ⟨k + 1, _, T + z * qb, _, _, hlt, by go_num, rfl, rfl, rfl, rfl, SprAt.in_ (x := z * qb) (T := T + z * qb) HAT.out hlt Hw.out (by rw [← Hx.out]; unfold cnt; rw [Hfl.out, Hsz.out, if_pos rfl, if_neg hgb]; try omega) (by omega) (by omega) (by omega), below_drewN kY nq1⟩
              case measure => simp [intOf]; omega
          · have j1 : ((g : Int) == (a : Int)) = false := by simp; omega
            by_cases hgb : g = b
            · subst hgb
              have j2 : ((g : Int) == (g : Int)) = true := by simp
              go_wp2_with fail
              rw [← HX.out, ← HY.out]
              clear e0' e1' u0' u1' u2' u3' v0' d0 d1 d2
              go_quiet (fail)
              rename Nat => nq1
              go_wp2_with fail
              go_roundw
              case rel => exact ⟨k + 1, _, T - z * qa, _, _, hlt, by go_num, rfl, rfl, rfl, rfl, SprAt.in_ (x := - (z * qa)) (T := T - z * qa) HAT.out hlt Hw.out (by rw [← Hx.out]; unfold cnt; rw [Hfl.out, Hsz.out, if_neg hga, if_pos rfl]; try omega) (by omega) (by omega) (by omega), below_drewN kY nq1⟩
              case measure => simp [intOf]; omega
            · have j2 : ((g : Int) == (b : Int)) = false := by simp; omega
              go_wp2_with fail
              rw [← HX.out, ← HY.out]
              go_roundw
              case rel => exact ⟨k + 1, _, T, _, _, hlt, by go_num, rfl, rfl, rfl, rfl, SprAt.in_ (x := 0) (T := T) HAT.out hlt Hw.out (by rw [← Hx.out]; unfold cnt; rw [Hfl.out, Hsz.out, if_neg hga, if_neg hgb]; try omega) (by omega) (by omega) (by omega), kY⟩
              case measure => simp [intOf]; omega
    · have hat' := hat.eq
      rw [List.drop_eq_nil_of_le (by omega)] at hat'
      have Hat := Lib.hid (show sprL p qa qb a b l = M from hat')
      clear hat hat'
      go_wp2_with fail
      go_ret2
      rw [show sprL p (qu qs a) (qu qs b) a b l = M by rw [← EQA.out, ← EQB.out]; exact Hat.out]
      exact ⟨.nilIface, rfl, .nil, kw⟩
end Go.Proofs.YtkkecnofgmpekaaDoor
