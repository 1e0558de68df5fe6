/- The law RoundShares returns true, whatever its arguments, and changes nothing that was there. Condition: the nine sentinels lie in their variables, apart. -/
import Derived.Test.YtkkecnofgmpekaaDoorSpread
import Derived.Test.YtkkecnofgmpekaaDoorSentRef
import Derived.Test.YtkkecnofgmpekaaDoorDuesP
import Derived.Test.YtkkecnofgmpekaaDoorCoded2
import Derived.KernelRfl
namespace Go.Proofs.YtkkecnofgmpekaaDoor
open Go.RowKit
set_option maxRecDepth 100000
theorem own_cap {w : World} {base e sz : Nat} {A : Option Addr} {n c : Nat} {xs : List Value} (h : w.ownsRow base e sz (.slice A n c) n xs) : n ≤ c := by
  obtain ⟨_, h | ⟨g, cap, cur, hv, _, _, hn, _⟩⟩ := h
  · obtain ⟨hv, h0⟩ := h
    simp only [Value.slice.injEq] at hv
    omega
  · simp only [Value.slice.injEq] at hv
    omega
def tp0 : List Pk := [⟨0, 10, 0⟩, ⟨0, 10, 0⟩, ⟨1, 10, 0⟩]
def tq0 : List Int := [10, 10, 10, 10, 10, 10, 10, 10]
theorem turned_any (S : Nat → Addr) (w : World) (B : Nat) (hB : B ≤ w.heap.size) (hS : Snt w B S [2, 3, 5]) :
    Calls Tryd.prog 20 #[] w fun e w' => e = .returned (.bool true) ∧ Below w.heap.size w w' := by
  have He := Lib.hid (show (roundErr tp0 1 tq0).1 = 0 by decide)
  have Hl := Lib.hid (show roundL tp0 1 tq0 = [⟨0, 0, 10⟩, ⟨2, 10, 20⟩, ⟨1, 20, 30⟩] by decide)
  obtain ⟨wa, hwa⟩ : ∃ wa : World, wa = (w.alloc (.cells #[.int .i64 10, .int .i64 10, .int .i64 10, .int .i64 10, .int .i64 10, .int .i64 10, .int .i64 10, .int .i64 10] 3)).alloc (.cells #[.int .i64 0, .int .i64 10, .int .i64 0, .int .i64 0, .int .i64 10, .int .i64 0, .int .i64 1, .int .i64 10, .int .i64 0] 32) := ⟨_, rfl⟩
  have ba : Below w.heap.size w wa := by rw [hwa]; exact ((Below.refl _ _).alloc (Nat.le_refl _) _).alloc (by simp) _
  have sa : wa.heap.size = w.heap.size + 2 := by rw [hwa]; simp
  have hq : RdI wa (w.heap.size + 2) (some ⟨w.heap.size, 0, none⟩) tq0 := by
    refine Rd.of_block (cs := #[.int .i64 10, .int .i64 10, .int .i64 10, .int .i64 10, .int .i64 10, .int .i64 10, .int .i64 10, .int .i64 10]) (T := 3) (z := (0, 0)) ?_ rfl (by omega) (by omega) iCs_len
    rw [hwa]
    exact (Blk.new _ _ _).alloc _
  have hp : RdP wa (w.heap.size + 2) (some ⟨w.heap.size + 1, 0, none⟩) tp0 := by
    refine Rd.of_block (cs := #[.int .i64 0, .int .i64 10, .int .i64 0, .int .i64 0, .int .i64 10, .int .i64 0, .int .i64 1, .int .i64 10, .int .i64 0]) (T := 32) (z := (0, 0)) ?_ rfl (by omega) (by omega) Pk.cs_len
    rw [hwa]
    exact heap_alloc_new2 _ _ _
  have Hwa := Lib.hid hwa
  have Hsa := Lib.hid sa
  clear hwa sa
  go_enter Tryd.func20, Tryd.ntmps20
  go_wp2_with fail
  rw [← Hwa.out]
  refine (roundRun_ok (some ⟨w.heap.size + 1, 0, none⟩) (some ⟨w.heap.size, 0, none⟩) 3 8 tp0 1 tq0 S wa (w.heap.size + 2) (by rw [Hsa.out]; exact Nat.le_refl _) hp hq ((hS.below (ba.mono hB)).more (by omega)) (by decide) (by decide) He.out).mono ?_
  rintro e w1 ⟨A', c', v, rfl, row, hv, hb1⟩
  obtain rfl := hv.nil_of He.out
  rw [Hl.out] at row ⊢
  obtain ⟨b, o, rfl, hb, c0, c1, c2⟩ := RdS.get (RdS.of_own row) (show 1 < [(⟨0, 0, 10⟩ : Sn), ⟨2, 10, 20⟩, ⟨1, 20, 30⟩].length by decide)
  obtain ⟨b', o', e', hb', d0, d1, d2⟩ := RdS.get (RdS.of_own row) (show 2 < [(⟨0, 0, 10⟩ : Sn), ⟨2, 10, 20⟩, ⟨1, 20, 30⟩].length by decide)
  simp only [Option.some.injEq, Addr.mk.injEq, and_true] at e'
  obtain ⟨rfl, rfl⟩ := e'
  simp only [Nat.one_mul, List.getElem_cons_succ, List.getElem_cons_zero] at c0 c1 c2 d0 d1 d2
  clear row
  go_wp2_with fail
  go_ret
  exact ⟨rfl, ba.trans (hb1.mono (by rw [Hsa.out]; omega))⟩
/-- The greatest size. -/
def szGo : Int → List Pk → Int
  | m, [] => m
  | m, x :: r => szGo (if m < x.s then x.s else m) r
theorem szGo_ge (r : List Pk) (m : Int) : m ≤ szGo m r ∧ ∀ x ∈ r, x.s ≤ szGo m r := by
  induction r generalizing m with
  | nil => exact ⟨Int.le_refl _, by simp⟩
  | cons y r ih =>
    obtain ⟨h1, h2⟩ := ih (if m < y.s then y.s else m)
    have h3 : szGo m (y :: r) = szGo (if m < y.s then y.s else m) r := rfl
    rw [h3]
    have h4 : m ≤ (if m < y.s then y.s else m) ∧ y.s ≤ (if m < y.s then y.s else m) := by split <;> omega
    refine ⟨by omega, fun x hx => ?_⟩
    rcases List.mem_cons.1 hx with rfl | hx
    · omega
    · exact h2 x hx
theorem szGo_le (r : List Pk) (m b : Int) (hm : m ≤ b) (h : ∀ x ∈ r, x.s ≤ b) : szGo m r ≤ b := by
  induction r generalizing m with
  | nil => exact hm
  | cons y r ih =>
    have h3 : szGo m (y :: r) = szGo (if m < y.s then y.s else m) r := rfl
    rw [h3]
    refine ih _ ?_ fun x hx => h x (List.mem_cons_of_mem _ hx)
    have := h y List.mem_cons_self
    split <;> omega
theorem shares_plain {p : List Pk} {per : Int} {qs : List Int} (he : (roundErr p per qs).1 = 0) (a b : Nat) :
    (pktErr p).1 = 0 ∧ quErr qs = 0 ∧ (roundL p per qs).length = p.length ∧ (∀ x ∈ roundL p per qs, tame50 x.t) ∧ (delErr p.length (roundL p per qs)).1 = 0 ∧ 0 ≤ szGo 0 p ∧ szGo 0 p ≤ 1500 ∧
      sprL p (qu qs a) (qu qs b) a b (roundL p per qs) ≤ 3 * qu qs a * qu qs b + szGo 0 p * (qu qs a + qu qs b) := by
  obtain ⟨e1, e2, h8, hn, e3⟩ := roundErr_ok he
  obtain ⟨hf, h300, hpk, h0, h1⟩ := lookErr_ok e1
  have hs := lookErr_sorted e1
  have hq1 := qu_bd h8 hn
  have hq0 : ∀ g, 0 ≤ qu qs g := fun g => by
    by_cases h9 : g < 8
    · have := (hq1 g h9).1; omega
    · have : qu qs g = 0 := by unfold qu; simp [List.getD, show ¬ g < qs.length by omega]
      omega
  have hM := roundOk (p := p) (qs := qs) hpk hq0 (fun g hg => (hq1 g hg).1)
  obtain ⟨t1, t2⟩ := srv_top (per := per) hM hpk h0 h1 (s0 := rs0) rs0_wait (rs0_ok p qs)
  obtain ⟨f1, f2, f3, f4⟩ := srv_perm hM hpk h0 h1 (s0 := rs0) rs0_wait (rs0_ok p qs)
  have hpe : (pktErr p).1 = 0 := by
    unfold lookErr at e1
    by_cases h9 : (pktErr p).1 ≠ 0
    · rw [if_pos h9] at e1; exact e1
    · omega
  obtain ⟨g1, g2⟩ := szGo_ge p 0
  have hS : ∀ j, j < p.length → sOf p j ≤ szGo 0 p := fun j hj => by rw [sOf_of hj]; exact g2 _ (List.getElem_mem hj)
  refine ⟨hpe, e2, f1, fun x hx => ?_, ?_, g1, szGo_le p 0 1500 (by omega) fun x hx => (hpk x hx).2.2.2.1, ?_⟩
  · have := t1 x hx
    unfold tame50
    omega
  · have t2' : ∀ x ∈ roundL p per qs, 0 ≤ x.p ∧ x.p.toNat < p.length := t2
    unfold delErr
    rw [if_pos (sentBad_none t2' 0)]
  · have := round_shares (a := a) (b := b) hpk hs h0 h1 hq0 (fun g hg => (hq1 g hg).1) hS (fun hp => by
      have h9 := hS 0 hp
      rw [sOf_of hp] at h9
      have := (hpk _ (List.getElem_mem hp)).2.2.1
      omega) g1
    rw [Int.mul_assoc]
    exact this
set_option maxHeartbeats 4000000 in
theorem shares_main (A A' : Option Addr) (c c' a b : Nat) (p : List Pk) (per : Int) (qs : List Int) (S : Nat → Addr) (w : World) (h : RdP w w.heap.size A p) (h' : RdI w w.heap.size A' qs) (hS : Snt w w.heap.size S [2, 3, 4, 5]) (hfit : fitB p.length 120 = true) (ha : a < 8) (hb : b < 8) (hl' : qs.length ≤ 9223372036854775807) :
    Calls Tryd.prog 5 #[.slice A p.length c, .int .i64 per, .slice A' qs.length c', .int .i64 (a : Int), .int .i64 (b : Int)] w fun e w' => e = .returned (.bool true) ∧ Below w.heap.size w w' := by
  have hle : p.length ≤ 301 := by have := of_decide_eq_true hfit; omega
  have hl : p.length ≤ 9223372036854775807 := by omega
  have Hfit := Lib.hid hfit
  have q1 : ¬ (a : Int) < 0 := by omega
  have q2 : ¬ (8 : Int) ≤ (a : Int) := by omega
  have q3 : ¬ (b : Int) < 0 := by omega
  have q4 : ¬ (8 : Int) ≤ (b : Int) := by omega
  clear hfit
  go_enter Tryd.func5, Tryd.ntmps5
  go_wp2_with fail
  refine (turned_any S w _ (Nat.le_refl _) (hS.sub (by simp))).mono ?_
  rintro e w1 ⟨rfl, k1⟩
  go_wp2_with fail
  refine (fit_any A c p.length 120 _ hl).mono ?_
  rintro e wx ⟨rfl, rfl⟩
  rw [Hfit.out]
  go_wp2_with fail
  refine (ownPackets_any A c p w1 _ (h.below k1) (by omega)).mono ?_
  rintro e w2 ⟨A2, c2, rfl, o2, k2⟩
  have r2 := RdP.of_own o2
  have k2' := k1.trans (k2.mono k1.size)
  have z2 := k2'.size
  clear o2
  by_cases he : (roundErr p per qs).1 = 0
  · obtain ⟨pe, qe, ll, lt, le, s0, s1, hspr⟩ := shares_plain he a b
    obtain ⟨h8, hn⟩ := quErr_ok qe
    have hqb := qu_bd h8 hn
    obtain ⟨qa1, qa2⟩ := hqb a ha
    obtain ⟨qb1, qb2⟩ := hqb b hb
    have He := Lib.hid he
    have H8 := Lib.hid h8
    have Hqe := Lib.hid qe
    have Hpe := Lib.hid pe
    have Hle := Lib.hid le
    have hl9 : p.length ≤ 300 := by
      unfold pktErr at pe
      by_cases h4 : 300 < p.length
      · rw [if_pos h4] at pe; simp at pe
      · omega
    obtain ⟨m, hm⟩ : ∃ m, m = roundL p per qs := ⟨_, rfl⟩
    have Hm := Lib.hid hm
    rw [← hm] at ll lt hspr Hle
    have Hll := Lib.hid ll
    have hml : m.length ≤ 1000 := by omega
    clear he h8 qe pe le hm ll hqb hn
    go_wp2_with fail
    refine (roundRun_ok A2 A' c2 c' p per qs S w2 w2.heap.size (Nat.le_refl _) r2 ((h'.below k2').more z2) (((hS.below k2').more z2).sub (by simp)) hl hl' He.out).mono ?_
    rintro e w3 ⟨A3, c3, v, rfl, row3, hv, k3⟩
    obtain rfl := hv.nil_of He.out
    rw [← Hm.out] at row3 ⊢
    have r3 := RdS.of_own row3
    have k3' := k2'.trans (k3.mono z2)
    have z3 := k3'.size
    clear row3 hv
    go_wp2_with fail
    refine (ownPackets_any A c p w3 _ (h.below k3') (by omega)).mono ?_
    rintro e w4 ⟨A4, c4, rfl, o4, k4⟩
    have r4 := RdP.of_own o4
    have k4' := k3'.trans (k4.mono z3)
    have z4 := k4'.size
    clear o4
    go_wp2_with fail
    refine (ownSent_any A3 c3 m w4 _ (r3.below k4) (by omega)).mono ?_
    rintro e w5 ⟨A5, c5, rfl, o5, k5⟩
    have r5 := RdS.of_own o5
    have hc5 := own_cap o5
    have k5' := k4'.trans (k5.mono z4)
    have z5 := k5'.size
    clear o5
    go_wp2_with fail
    refine (spread_ok A4 A5 A' c4 c5 c' a b p m qs S w5 w5.heap.size (Nat.le_refl _) ((r4.below k5).more k5.size) r5 ((h'.below k5').more z5) (((hS.below k5').more z5).sub (by simp)) hl hml hl' hc5 lt ha hb Hqe.out Hpe.out Hle.out).mono ?_
    rintro e w6 ⟨v, rfl, hv, k6⟩
    obtain rfl := hv.nil_of rfl
    have k6' := k5'.trans (k6.mono z5)
    obtain ⟨n, hn⟩ : ∃ n, n = sprL p (qu qs a) (qu qs b) a b m := ⟨_, rfl⟩
    obtain ⟨qa, eqa⟩ : ∃ qa, qa = qu qs a := ⟨_, rfl⟩
    obtain ⟨qb, eqb⟩ : ∃ qb, qb = qu qs b := ⟨_, rfl⟩
    rw [← hn] at hspr ⊢
    rw [← eqa, ← eqb] at hspr
    rw [← eqa] at qa1 qa2
    rw [← eqb] at qb1 qb2
    have EQA := Lib.hid eqa
    have EQB := Lib.hid eqb
    clear hn eqa eqb hv
    go_wp2_with fail
    go_loopw [15, 16] (fun s i wr => ∃ (k : Nat) (M : Int), k ≤ p.length ∧ i = .int .i64 k ∧ s = .int .i64 M ∧ szGo 0 p = szGo M (p.drop k) ∧ wr = w6) (fun _ i _ => p.length - (intOf i).toNat)
    case atStart => exact ⟨0, 0, Nat.zero_le _, rfl, rfl, rfl, rfl⟩
    case round =>
      obtain ⟨k, M, hk, rfl, rfl, hg, rfl⟩ := hrel
      by_cases hlt : k < p.length
      · rw [List.drop_eq_getElem_cons hlt] at hg
        obtain ⟨q, o, rfl, hq, d0, d1, d2⟩ := RdP.get (h.below k6') hlt
        have Hg := Lib.hid hg
        have j1 : (0 : Int) ≤ (k : Int) := by omega
        have j2 : (k : Int) < (p.length : Int) := by omega
        clear hg
        by_cases hM : M < p[k].s
        · go_wp2_with fail
          go_roundw
          case rel => exact ⟨k + 1, p[k].s, hlt, by go_num, rfl, by rw [Hg.out]; show szGo (if M < p[k].s then p[k].s else M) _ = _; rw [if_pos hM], by trivial⟩
          case measure => simp [intOf]; omega
        · go_wp2_with fail
          go_roundw
          case rel => exact ⟨k + 1, M, hlt, by go_num, rfl, by rw [Hg.out]; show szGo (if M < p[k].s then p[k].s else M) _ = _; rw [if_neg hM], by trivial⟩
          case measure => simp [intOf]; omega
      · rw [List.drop_eq_nil_of_le (by omega)] at hg
        have hg' : szGo 0 p = M := hg
        rw [hg'] at s0 s1 hspr
        clear hg hg'
        obtain ⟨b2, o2, rfl, hb2, ga0⟩ := RdI.get (h'.below k6') (show a < qs.length by rw [H8.out]; exact ha)
        have gb0 : wr.cell? ⟨b2, o2 + b, none⟩ = some (.int .i64 qb) := by
          obtain ⟨b3, o3, e3, _, e5⟩ := RdI.get (h'.below k6') (show b < qs.length by rw [H8.out]; exact hb)
          simp only [Option.some.injEq, Addr.mk.injEq, and_true] at e3
          obtain ⟨rfl, rfl⟩ := e3
          rw [e5, EQB.out]
          unfold qu
          simp [List.getD, show b < qs.length by rw [H8.out]; exact hb]
        have ga1 : wr.cell? ⟨b2, o2 + a, none⟩ = some (.int .i64 qa) := by
          rw [ga0, EQA.out]
          unfold qu
          simp [List.getD, show a < qs.length by rw [H8.out]; exact ha]
        have j1 : (0 : Int) ≤ (a : Int) := by omega
        have j2 : (a : Int) < (qs.length : Int) := by rw [H8.out]; omega
        have j3 : (0 : Int) ≤ (b : Int) := by omega
        have j4 : (b : Int) < (qs.length : Int) := by rw [H8.out]; omega
        have m0 : 0 ≤ 3 * qa * qb := Int.mul_nonneg (by omega) (by omega)
        have m1 : 3 * qa * qb ≤ 27000000 := by
          have := Int.mul_le_mul (show 3 * qa ≤ 9000 by omega) qb2 (by omega) (by omega : (0:Int) ≤ 9000)
          omega
        have m2 : 0 ≤ M * (qa + qb) := Int.mul_nonneg s0 (by omega)
        have m3 : M * (qa + qb) ≤ 9000000 := by
          have := Int.mul_le_mul s1 (show qa + qb ≤ 6000 by omega) (by omega) (by omega : (0:Int) ≤ 1500)
          omega
        clear ga0 q1 q2 q3 q4
        go_wp2_with fail
        go_quiet (fail)
        rename Nat => nq
        go_wp2_with fail
        go_ret
        exact ⟨ret_bool (by first | rfl | (simp; omega)), below_drewN k6' nq⟩
  · have He := Lib.hid he
    clear he
    go_wp2_with fail
    refine (roundRun_bad A2 A' c2 c' p per qs S w2 w2.heap.size (Nat.le_refl _) r2 ((h'.below k2').more z2) (((hS.below k2').more z2).sub (by simp)) hl hl' He.out).mono ?_
    rintro e w3 ⟨A3, c3, v, rfl, row3, hv, k3⟩
    obtain ⟨T, a9, rfl⟩ := hv.some_of He.out
    go_wp2_with fail
    go_ret
    exact ⟨rfl, k2'.trans (k3.mono z2)⟩
/-- Where the law asks nothing. -/
theorem shares_off (A A' : Option Addr) (c c' : Nat) (a b : Int) (p : List Pk) (per : Int) (qs : List Int) (S : Nat → Addr) (w : World) (hS : Snt w w.heap.size S [2, 3, 4, 5]) (hl : p.length ≤ 9223372036854775807) (hoff : fitB p.length 120 = false ∨ (fitB p.length 120 = true ∧ (a < 0 ∨ (0 ≤ a ∧ 8 ≤ a) ∨ (0 ≤ a ∧ a < 8 ∧ b < 0) ∨ (0 ≤ a ∧ a < 8 ∧ 0 ≤ b ∧ 8 ≤ b)))) :
    Calls Tryd.prog 5 #[.slice A p.length c, .int .i64 per, .slice A' qs.length c', .int .i64 a, .int .i64 b] w fun e w' => e = .returned (.bool true) ∧ Below w.heap.size w w' := by
  rcases hoff with hoff | ⟨hfit, hoff | ⟨h1, h2⟩ | ⟨h1, h2, h3⟩ | ⟨h1, h2, h3, h4⟩⟩
  · have Hfit := Lib.hid hoff
    clear hoff
    go_enter Tryd.func5, Tryd.ntmps5
    go_wp2_with fail
    refine (turned_any S w _ (Nat.le_refl _) (hS.sub (by simp))).mono ?_
    rintro e w1 ⟨rfl, k1⟩
    go_wp2_with fail
    refine (fit_any A c p.length 120 _ hl).mono ?_
    rintro e wx ⟨rfl, rfl⟩
    rw [Hfit.out]
    go_wp2_with fail
    go_ret
    exact ⟨rfl, k1⟩
  all_goals
    have Hfit := Lib.hid hfit
    clear hfit
    go_enter Tryd.func5, Tryd.ntmps5
    go_wp2_with fail
    refine (turned_any S w _ (Nat.le_refl _) (hS.sub (by simp))).mono ?_
    rintro e w1 ⟨rfl, k1⟩
    go_wp2_with fail
    refine (fit_any A c p.length 120 _ hl).mono ?_
    rintro e wx ⟨rfl, rfl⟩
    rw [Hfit.out]
    go_wp2_with fail
    go_ret
    exact ⟨rfl, k1⟩
theorem shares_any (A A' : Option Addr) (c c' : Nat) (a b : Int) (p : List Pk) (per : Int) (qs : List Int) (S : Nat → Addr) (w : World) (h : RdP w w.heap.size A p) (h' : RdI w w.heap.size A' qs) (hS : Snt w w.heap.size S [2, 3, 4, 5]) (hl : p.length ≤ 9223372036854775807) (hl' : qs.length ≤ 9223372036854775807) :
    Calls Tryd.prog 5 #[.slice A p.length c, .int .i64 per, .slice A' qs.length c', .int .i64 a, .int .i64 b] w fun e w' => e = .returned (.bool true) ∧ Below w.heap.size w w' := by
  cases hf : fitB p.length 120
  · exact shares_off A A' c c' a b p per qs S w hS hl (.inl hf)
  · by_cases hab : (0 ≤ a ∧ a < 8) ∧ 0 ≤ b ∧ b < 8
    · obtain ⟨n, rfl⟩ : ∃ n : Nat, a = n := ⟨a.toNat, by omega⟩
      obtain ⟨m, rfl⟩ : ∃ m : Nat, b = m := ⟨b.toNat, by omega⟩
      exact shares_main A A' c c' n m p per qs S w h h' hS hf (by omega) (by omega) hl'
    · exact shares_off A A' c c' a b p per qs S w hS hl (.inr ⟨hf, by omega⟩)
theorem roundShares_any (A : Option Addr) (c : Nat) (p : List Pk) (per : Int) (A' : Option Addr) (c' : Nat) (qs : List Int) (a b : Int) (S : Nat → Addr) (w : World) (h : RdP w w.heap.size A p) (h' : RdI w w.heap.size A' qs) (hS : Snt w w.heap.size S [2, 3, 4, 5]) (hl : p.length ≤ 9223372036854775807) (hl' : qs.length ≤ 9223372036854775807) :
    Calls Tryd.prog 5 #[.slice A p.length c, .int .i64 per, .slice A' qs.length c', .int .i64 a, .int .i64 b] w fun e w' => e = .returned (.bool true) ∧ Below w.heap.size w w' := shares_any A A' c c' a b p per qs S w h h' hS hl hl'
end Go.Proofs.YtkkecnofgmpekaaDoor
