/- Package curve: Busy of whatever is asked. Conditions: the sentinels that it names lie in their variables. -/
import Derived.Test.YteeaipehkhldhaaDoorDlyM
import Derived.Test.YteeaipehkhldhaaDoorBzyP
import Derived.Test.YteeaipehkhldhaaDoorShelf
import Derived.Deep.CutRange
namespace Go.Proofs.YteeaipehkhldhaaDoor
open Go.RowKit
set_option maxRecDepth 100000
def busyErr (l : List Ln) (per : Int) : Nat × Int := if (dlkErr l per).1 ≠ 0 then dlkErr l per else if bzV per l = 0 ∨ 1099511627776 < bzV per l then (4, -1) else (0, -1)
def busyV (l : List Ln) (per : Int) : Int := if (busyErr l per).1 = 0 then bzV per l else 0
theorem bzy1_any (gx g3 : Nat) (x : Ln) (per : Int) (k : Nat) (w : World) (x0 : w.cell? ⟨gx, 0, none⟩ = some (.int .i64 x.b)) (x1 : w.cell? ⟨gx, 1, none⟩ = some (.int .i64 x.r)) (x3 : w.cell? ⟨g3, 0, none⟩ = some (.int .i64 per)) (hok : okLn x) (p0 : 1 ≤ per) (p1 : per ≤ 1000) (hr : x.r * per < 1000) (hk : k < 68719476736) :
    Calls Tryd.prog 72 #[.int .i64 (k : Int), .pointer (some ⟨gx, 0, none⟩), .pointer (some ⟨g3, 0, none⟩)] w fun e w' => e = .returned (.bool (bzP per x k)) ∧ w' = w := by
  obtain ⟨r1, r2, r3, r4⟩ := hok
  have m0 : 0 ≤ per * (x.b + k) := Int.mul_nonneg (by omega) (by omega)
  have m1 : per * (x.b + k) ≤ 1000 * 68719496736 := Int.mul_le_mul p1 (by omega) (by omega) (by omega)
  have n0 : 0 ≤ x.r * (per * (x.b + k)) := Int.mul_nonneg r3 m0
  have n1 : x.r * (per * (x.b + k)) ≤ 1000 * 68719496736 := by
    rw [← Int.mul_assoc]
    exact Int.mul_le_mul (by omega) (by omega) (by omega) (by omega)
  have HB := Lib.hid (show bzP per x k = decide (x.r * (per * (x.b + k)) / 1000 ≤ k) from rfl)
  go_enter Tryd.func72, Tryd.ntmps72
  go_wp2_with fail
  go_ret
  exact ⟨by rw [HB.out]; rfl, rfl⟩
set_option maxHeartbeats 4000000 in
theorem busy_main (A : Option Addr) (c : Nat) (l : List Ln) (per : Int) (S : Nat → Addr) (w : World) (B : Nat) (hB : B ≤ w.heap.size) (h : RdL w B A l) (hS : Snt w B S [2, 3, 4]) (hl : l.length ≤ 9223372036854775807) (hk : (dlkErr l per).1 = 0) :
    Calls Tryd.prog 44 #[.slice A l.length c, .int .i64 per] w (EndVEr (.int .i64 (busyV l per)) S (busyErr l per).1 (busyErr l per).2 w) := by
  obtain ⟨hc, p0, p1, hke⟩ := dlkErr_ok hk
  obtain ⟨l1, l6, hok, _⟩ := crvErr_ok hc
  have HK := Lib.hid hk
  have HOK := Lib.hid hok
  have HS := Lib.hid hS
  clear hk hc hke hok
  go_enter Tryd.func44, Tryd.ntmps44
  go_wp2_with fail
  refine (clook_any A c l per S (w.alloc (.cells #[.int .i64 per] 3)) B (by simp; omega) (h.below ((Below.refl _ _).alloc hB _)) ((HS.out.below ((Below.refl _ _).alloc hB _)).sub (by simp)) hl).mono ?_
  rintro e wl ⟨v, rfl, hv, kl⟩
  obtain rfl := hv.nil_of HK.out
  have bl : Blk wl w.heap.size 3 #[.int .i64 per] := (Blk.new w _ _).below kl (by simp)
  have kl' : Below w.heap.size w wl := ((Below.refl _ _).alloc (Nat.le_refl _) _).trans (kl.mono (by simp))
  obtain ⟨g3, hg3⟩ : ∃ g3, g3 = w.heap.size := ⟨_, rfl⟩
  rw [← hg3] at bl ⊢
  have BL := Lib.hid bl
  have KL := Lib.hid kl'
  clear bl kl kl' hv hg3
  go_wp2_with fail
  go_loopw [7, 20] (fun tv iv wr => ∃ (k : Nat) (t : Int), k ≤ l.length ∧ iv = .int .i64 k ∧ tv = .int .i64 t ∧ 0 ≤ t ∧ t ≤ 20000000000 ∧ bzV per l = bzF per t (l.drop k) ∧ Blk wr g3 3 #[.int .i64 per] ∧ Below w.heap.size w wr) (fun _ iv _ => l.length - (intOf iv).toNat)
  case atStart => exact ⟨0, 0, Nat.zero_le _, rfl, rfl, by omega, by omega, rfl, BL.out, KL.out⟩
  case round =>
    obtain ⟨k, t, hk, rfl, rfl, t0, t1, hbz, b3, hbw⟩ := hrel
    have B3 := Lib.hid b3
    have HBZ := Lib.hid hbz
    clear BL KL b3 hbz
    by_cases hlt : k < l.length
    · as_aux_lemma =>
      have hokk := HOK.out _ (List.getElem_mem hlt)
      have OKK := Lib.hid hokk
      obtain ⟨r1, r2, r3, r4⟩ := hokk
      have m0 : 0 ≤ l[k].r * per := Int.mul_nonneg r3 (by omega)
      have m1 : l[k].r * per ≤ 100000 * 1000 := Int.mul_le_mul r4 p1 (by omega) (by omega)
      obtain ⟨b, o, rfl, hb, d0, d1⟩ := RdL.get (h.below (hbw.mono hB)) hlt
      have hd : l.drop k = l[k] :: l.drop (k + 1) := List.drop_eq_getElem_cons hlt
      have HD := Lib.hid hd
      clear hd
      go_upto_region 8 with fail
      obtain ⟨V, hV⟩ : ∃ V : World, V = wr.alloc (.cells #[.int .i64 l[k].b, .int .i64 l[k].r] 24) := ⟨_, rfl⟩
      have bx : Blk V wr.heap.size 24 #[.int .i64 l[k].b, .int .i64 l[k].r] := by rw [hV]; exact Blk.new _ _ _
      have b3V : Blk V g3 3 #[.int .i64 per] := by rw [hV]; exact B3.out.alloc _
      have kV : Below w.heap.size w V := by rw [hV]; exact hbw.alloc hbw.size _
      obtain ⟨gx, hgx⟩ : ∃ gx, gx = wr.heap.size := ⟨_, rfl⟩
      rw [← hV, ← hgx]
      rw [← hgx] at bx
      have x0 : V.cell? ⟨gx, 0, none⟩ = some (.int .i64 l[k].b) := bx.cell 0
      have x1 : V.cell? ⟨gx, 1, none⟩ = some (.int .i64 l[k].r) := bx.cell 1
      have x3 : V.cell? ⟨g3, 0, none⟩ = some (.int .i64 per) := b3V.cell 0
      have BX := Lib.hid bx
      have B3V := Lib.hid b3V
      clear hV hgx bx b3V d0 d1
      by_cases hs : 1000 ≤ l[k].r * per
      · have E := Lib.hid (show bzV per l = bzF per t (l.drop (k + 1)) by rw [HBZ.out, HD.out, bzF, if_pos hs])
        go_wp2_with fail
        go_roundw
        case rel => exact ⟨k + 1, t, hlt, by go_num, rfl, t0, t1, E.out, B3V.out, kV⟩
        case measure => simp [intOf]; omega
      · have hs1 : l[k].r * per < 1000 := by omega
        have E := Lib.hid (show bzV per l = bzF per (if t = 0 ∨ bzT per l[k] < t then bzT per l[k] else t) (l.drop (k + 1)) by rw [HBZ.out, HD.out, bzF, if_neg hs])
        obtain ⟨_, q2, q3⟩ := bzK_spec p0 OKK.out hs1
        have qb := bzT_big p0 p1 OKK.out hs1
        have qp := (bzT_pos p0 OKK.out).2
        obtain ⟨n, hn⟩ : ∃ n, n = bzK per l[k] := ⟨bzK per l[k], rfl⟩
        have hT : bzT per l[k] = per * (l[k].b + n) := by unfold bzT; rw [hn]
        rw [← hn] at q3
        rw [hT] at qb qp
        have HT := Lib.hid hT
        have mT0 : 0 ≤ per * (l[k].b + n) := by omega
        have eg : ∀ args w, (callFunc 72 args).run Tryd.prog w = .ok (.enter 72 args) w := enters_of Tryd.func72 (by kernel_rfl) rfl
        obtain ⟨M, hM⟩ : ∃ M : Nat, M = 68719476736 := ⟨_, rfl⟩
        have hMi : (M : Int) = 68719476736 := by omega
        have hSe := Any.sort_Search Tryd.search 72 #[.pointer (some ⟨gx, 0, none⟩), .pointer (some ⟨g3, 0, none⟩)] M (bzP per l[k]) V eg (by omega)
          (fun m os i hi => by
            have hg : Grew V (Go.Sort.grow (V.drewN m) os) := ⟨m, os, rfl⟩
            have hb := hg.below (Nat.le_refl _)
            refine (bzy1_any gx g3 l[k] per i _ ((BX.out.below hb BX.out.lt).cell 0) ((BX.out.below hb BX.out.lt).cell 1) ((B3V.out.below hb B3V.out.lt).cell 0) OKK.out p0 p1 hs1 (by omega)).mono ?_
            rintro e w' ⟨rfl, rfl⟩
            exact ⟨rfl, 0, #[], by rw [Go.Sort.grow_empty]; rfl⟩)
          (fun a b hab hb hp => by
            obtain ⟨d, rfl⟩ : ∃ d, b = a + d := ⟨b - a, by omega⟩
            clear hab hb
            induction d with
            | zero => exact hp
            | succ d ih => exact bzP_mono hs1 _ ih)
        change Calls Tryd.prog 68 _ _ _ at hSe
        have hcn : (List.range M).countP (fun i => !bzP per l[k] i) = n := by rw [hn, hM]; unfold bzK; rfl
        rw [hMi, hcn] at hSe
        have HSE := Lib.hid hSe
        clear hSe eg hn hT hs q2 hcn hMi hM
        go_wp2_with fail
        refine HSE.out.mono ?_
        rintro e W3 ⟨rfl, hg3⟩
        have kg := (show Grew V W3 from hg3).below (Nat.le_refl _)
        have k3 : Below w.heap.size w W3 := kV.trans (kg.mono kV.size)
        have b33 := B3V.out.below kg B3V.out.lt
        have y0 : W3.cell? ⟨gx, 0, none⟩ = some (.int .i64 l[k].b) := (BX.out.below kg BX.out.lt).cell 0
        have y3 : W3.cell? ⟨g3, 0, none⟩ = some (.int .i64 per) := b33.cell 0
        have B33 := Lib.hid b33
        clear hg3 kg HSE x0 x1 x3 b33
        by_cases ht0 : t = 0
        · subst ht0
          have E2 := Lib.hid (show (if (0 : Int) = 0 ∨ bzT per l[k] < 0 then bzT per l[k] else 0) = per * (l[k].b + n) by rw [if_pos (.inl rfl), HT.out])
          go_wp2_with fail
          go_roundw
          case rel => exact ⟨k + 1, per * (l[k].b + n), hlt, by go_num, rfl, by omega, by omega, by rw [E.out, E2.out], B33.out, k3⟩
          case measure => simp [intOf]; omega
        · have hb0 : (t == 0) = false := beq_eq_false_iff_ne.2 ht0
          by_cases hbt : per * (l[k].b + n) < t
          · have E2 := Lib.hid (show (if t = 0 ∨ bzT per l[k] < t then bzT per l[k] else t) = per * (l[k].b + n) by rw [HT.out, if_pos (.inr hbt)])
            clear ht0
            go_wp2_with fail
            go_roundw
            case rel => exact ⟨k + 1, per * (l[k].b + n), hlt, by go_num, rfl, by omega, by omega, by rw [E.out, E2.out], B33.out, k3⟩
            case measure => simp [intOf]; omega
          · have E2 := Lib.hid (show (if t = 0 ∨ bzT per l[k] < t then bzT per l[k] else t) = t by rw [HT.out, if_neg (fun e => e.elim ht0 hbt)])
            clear ht0
            go_wp2_with fail
            go_roundw
            case rel => exact ⟨k + 1, t, hlt, by go_num, rfl, t0, t1, by rw [E.out, E2.out], B33.out, k3⟩
            case measure => simp [intOf]; omega
    · have E := Lib.hid (show bzV per l = t by rw [HBZ.out, List.drop_eq_nil_of_le (by omega)]; rfl)
      have g4 : wr.cell? ⟨G 4, 0, none⟩ = some (sv S 4) := ((HS.out.below (hbw.mono hB)) 4 (by simp)).2.2
      simp only [G, sv] at g4
      clear HBZ
      by_cases ht0 : t = 0
      · have He := Lib.hid (show busyErr l per = (4, -1) by unfold busyErr; rw [if_neg (by rw [HK.out]; omega), if_pos (.inl (by rw [E.out]; exact ht0))])
        have Hv := Lib.hid (show busyV l per = 0 by unfold busyV; rw [He.out]; rfl)
        subst ht0
        clear hS
        go_wp2_with fail
        go_quiet (fail)
        rename Nat => nq
        go_wp2_with fail
        go_ret2
        rw [He.out, Hv.out]
        exact ⟨_, rfl, .bare 4 (by omega) (by omega), below_drewN hbw nq⟩
      · have hb0 : (t == 0) = false := beq_eq_false_iff_ne.2 ht0
        by_cases hbt : 1099511627776 < t
        · omega
        · have He := Lib.hid (show busyErr l per = (0, -1) by unfold busyErr; rw [if_neg (by rw [HK.out]; omega), if_neg (by rw [E.out]; omega)])
          have Hv := Lib.hid (show busyV l per = t by unfold busyV; rw [He.out, ← E.out]; rfl)
          clear ht0
          go_wp2_with fail
          go_ret2
          rw [He.out, Hv.out]
          exact ⟨_, rfl, .nil, hbw⟩
theorem busy_any (A : Option Addr) (c : Nat) (l : List Ln) (per : Int) (S : Nat → Addr) (w : World) (B : Nat) (hB : B ≤ w.heap.size) (h : RdL w B A l) (hS : Snt w B S [2, 3, 4]) (hl : l.length ≤ 9223372036854775807) :
    Calls Tryd.prog 44 #[.slice A l.length c, .int .i64 per] w (EndVEr (.int .i64 (busyV l per)) S (busyErr l per).1 (busyErr l per).2 w) := by
  by_cases hk : (dlkErr l per).1 = 0
  · exact busy_main A c l per S w B hB h hS hl hk
  · have He := Lib.hid (show busyErr l per = dlkErr l per from if_pos hk)
    have Hv := Lib.hid (show busyV l per = 0 by unfold busyV; rw [He.out, if_neg hk])
    have HK := Lib.hid hk
    clear hk
    go_enter Tryd.func44, Tryd.ntmps44
    go_wp2_with fail
    refine (clook_any A c l per S (w.alloc (.cells #[.int .i64 per] 3)) B (by simp; omega) (h.below ((Below.refl _ _).alloc hB _)) ((hS.below ((Below.refl _ _).alloc hB _)).sub (by simp)) hl).mono ?_
    rintro e wl ⟨v, rfl, hv, kl⟩
    have kl' : Below w.heap.size w wl := ((Below.refl _ _).alloc (Nat.le_refl _) _).trans (kl.mono (by simp))
    obtain ⟨T, a, rfl⟩ := hv.some_of HK.out
    go_wp2_with fail
    go_ret2
    rw [Hv.out, He.out]
    exact ⟨_, rfl, hv, kl'⟩
end Go.Proofs.YteeaipehkhldhaaDoor
