/- Package round: Spread of whatever is asked. Conditions: few are sent, ticks are not too great; the sentinels that it names lie in their variables. -/
import Derived.Test.YtkkecnofgmpekaaDoorSpread
import Derived.Test.YtkkecnofgmpekaaDoorSentRef
namespace Go.Proofs.YtkkecnofgmpekaaDoor
open Go.RowKit
set_option maxRecDepth 100000
theorem qIdx_numE (l : List Int) : quErr l = numE l 1 3000 := by
  have key : ∀ (l : List Int) (k : Nat), l.all (fun n => decide (1 ≤ n ∧ n ≤ 3000)) = decide (¬ 0 ≤ qIdx l k) := fun l => by
    induction l with
    | nil => intro k; rfl
    | cons n r ih =>
      intro k
      rw [List.all_cons, ih (k + 1)]
      have hq : qIdx (n :: r) k = if outQ n = true then (k : Int) else qIdx r (k + 1) := rfl
      rw [hq]
      by_cases h : 1 ≤ n ∧ n ≤ 3000
      · have h1 : outQ n = false := by unfold outQ; exact decide_eq_false (by omega)
        rw [h1, decide_eq_true h]
        simp
      · have h1 : outQ n = true := by unfold outQ; exact decide_eq_true (by omega)
        rw [h1, decide_eq_false h]
        simp
  unfold quErr numE
  by_cases h8 : l.length = 8
  · rw [if_pos h8, if_pos h8, key l 0]
    by_cases h : 0 ≤ qIdx l 0
    · rw [if_pos h, if_neg (by simp [h])]
    · rw [if_neg h, if_pos (by simp [h])]
  · rw [if_neg h8, if_neg h8]
set_option maxHeartbeats 2000000 in
theorem spread_any (A A' A'' : Option Addr) (c c' c'' : Nat) (a b : Int) (p : List Pk) (l : List Sn) (qs : List Int) (S : Nat → Addr) (w : World) (B : Nat) (hB : B ≤ w.heap.size) (h : RdP w B A p) (h' : RdS w B A' l) (h'' : RdI w B A'' qs) (hS : Snt w B S [2, 3, 4, 5]) (hl : p.length ≤ 9223372036854775807) (hl' : l.length ≤ 1000) (hl'' : qs.length ≤ 9223372036854775807) (hc : l.length ≤ c')
    (ht : ∀ x ∈ l, tame50 x.t) :
    Calls Tryd.prog 22 #[.slice A p.length c, .slice A' l.length c', .slice A'' qs.length c'', .int .i64 a, .int .i64 b] w (EndVEr (.int .i64 (sprV p l qs a b)) S (sprErr p l qs a b).1 (sprErr p l qs a b).2 w) := by
  have g2 : w.cell? ⟨G 2, 0, none⟩ = some (sv S 2) := (hS 2 (by simp)).2.2
  have g3 : w.cell? ⟨G 3, 0, none⟩ = some (sv S 3) := (hS 3 (by simp)).2.2
  simp only [G, sv] at g2 g3
  by_cases h8 : qs.length = 8
  · have hb1 : ((qs.length : Int) != 8) = false := by rw [h8]; rfl
    by_cases hab : a < 0 ∨ 8 ≤ a ∨ b < 0 ∨ 8 ≤ b
    · have He := Lib.hid (show sprErr p l qs a b = (2, -1) by unfold sprErr; rw [if_neg (by omega), if_pos (.inl hab)])
      have Hv := Lib.hid (show sprV p l qs a b = 0 by unfold sprV; rw [He.out]; rfl)
      have hab4 : a < 0 ∨ (¬ a < 0 ∧ 8 ≤ a) ∨ (¬ a < 0 ∧ ¬ 8 ≤ a ∧ b < 0) ∨ (¬ a < 0 ∧ ¬ 8 ≤ a ∧ ¬ b < 0 ∧ 8 ≤ b) := by omega
      clear hab h8
      rcases hab4 with h1 | ⟨h1, h2⟩ | ⟨h1, h2, h3⟩ | ⟨h1, h2, h3, h4⟩
      all_goals
        go_enter Tryd.func22, Tryd.ntmps22
        go_wp2_with fail
        go_quiet (fail)
        rename Nat => nq
        go_wp2_with fail
        go_ret2
        rw [Hv.out, He.out]
        exact ⟨_, rfl, .bare 2 (by omega) (by omega), below_drewN (Below.refl _ _) nq⟩
    · obtain ⟨n, rfl⟩ : ∃ n : Nat, a = n := ⟨a.toNat, by omega⟩
      obtain ⟨m, rfl⟩ : ∃ m : Nat, b = m := ⟨b.toNat, by omega⟩
      have hn8 : n < 8 := by omega
      have hm8 : m < 8 := by omega
      by_cases hq : quErr qs = 0
      · by_cases h1 : (pktErr p).1 = 0
        · have e1 : sprErr p l qs n m = delErr p.length l := by unfold sprErr; rw [if_neg (by omega), if_neg (by rw [hq]; omega), if_neg (by omega)]
          by_cases h3 : (delErr p.length l).1 = 0
          · have e2 : sprV p l qs n m = sprL p (qu qs n) (qu qs m) n m l := by unfold sprV; rw [e1, if_pos h3]; rfl
            rw [e1, e2, (delErr_ok h3).2]
            exact spread_ok A A' A'' c c' c'' n m p l qs S w B hB h h' h'' hS hl hl' hl'' hc ht hn8 hm8 hq h1 h3
          · have hpk := pktErr_okPk h1
            have Hc := Lib.hid (pktErr_nil h1)
            have hta : ∀ x ∈ p, tame50 x.a := fun x hx => by
              have := (hpk x hx).2.2.2.2
              unfold tame50
              omega
            have Hd := Lib.hid h3
            have Hq := Lib.hid hq
            have He := Lib.hid e1
            have Hv := Lib.hid (show sprV p l qs n m = 0 by unfold sprV; rw [e1, if_neg h3])
            have q1 : ¬ (n : Int) < 0 := by omega
            have q2 : ¬ (8 : Int) ≤ (n : Int) := by omega
            have q3 : ¬ (m : Int) < 0 := by omega
            have q4 : ¬ (8 : Int) ≤ (m : Int) := by omega
            clear h1 h3 hq e1 h8 hab
            go_enter Tryd.func22, Tryd.ntmps22
            go_wp2_with fail
            refine (qnumbers_any A'' c'' qs S w B hB h'' (hS.sub (by simp)) hl'').mono ?_
            rintro e w0 ⟨v, rfl, hv, k0⟩
            obtain rfl := hv.nil_of Hq.out
            have z0 := k0.size
            go_wp2_with fail
            refine (pcheck_any A c p S _ B (Nat.le_trans hB z0) (h.below (k0.mono hB)) ((hS.below (k0.mono hB)).sub (by simp)) hl).mono ?_
            rintro e w1 ⟨v, rfl, hv, k1⟩
            obtain rfl := hv.nil_of (by rw [Hc.out])
            have k1' := k0.trans (k1.mono z0)
            have z1 := k1'.size
            go_wp2_with fail
            refine (delays_any A A' c c' p l S w1 B (by omega) (h.below (k1'.mono hB)) (h'.below (k1'.mono hB)) ((hS.below (k1'.mono hB)).sub (by simp)) hl (by omega) ht hta).mono ?_
            rintro e w2 ⟨A3, c3, v, rfl, o3, hv, k2⟩
            obtain ⟨T, x, rfl⟩ := hv.some_of Hd.out
            go_wp2_with fail
            go_ret2
            rw [Hv.out, He.out]
            exact ⟨_, rfl, hv, k1'.trans (k2.mono z1)⟩
        · have He := Lib.hid (show sprErr p l qs n m = pktErr p by unfold sprErr; rw [if_neg (by omega), if_neg (by rw [hq]; omega), if_pos h1])
          have Hv := Lib.hid (show sprV p l qs n m = 0 by unfold sprV; rw [He.out, if_neg h1])
          have Hq := Lib.hid hq
          have Hn := Lib.hid h1
          have q1 : ¬ (n : Int) < 0 := by omega
          have q2 : ¬ (8 : Int) ≤ (n : Int) := by omega
          have q3 : ¬ (m : Int) < 0 := by omega
          have q4 : ¬ (8 : Int) ≤ (m : Int) := by omega
          clear h1 hq h8 hab
          go_enter Tryd.func22, Tryd.ntmps22
          go_wp2_with fail
          refine (qnumbers_any A'' c'' qs S w B hB h'' (hS.sub (by simp)) hl'').mono ?_
          rintro e w0 ⟨v, rfl, hv, k0⟩
          obtain rfl := hv.nil_of Hq.out
          have z0 := k0.size
          go_wp2_with fail
          refine (pcheck_any A c p S _ B (Nat.le_trans hB z0) (h.below (k0.mono hB)) ((hS.below (k0.mono hB)).sub (by simp)) hl).mono ?_
          rintro e w1 ⟨v, rfl, hv, k1⟩
          obtain ⟨T, x, rfl⟩ := hv.some_of Hn.out
          go_wp2_with fail
          go_ret2
          rw [Hv.out, He.out]
          exact ⟨_, rfl, hv, k0.trans (k1.mono z0)⟩
      · have He := Lib.hid (show sprErr p l qs n m = (2, -1) by unfold sprErr; rw [if_neg (by omega), if_pos (.inr hq)])
        have Hv := Lib.hid (show sprV p l qs n m = 0 by unfold sprV; rw [He.out]; rfl)
        have Hq := Lib.hid hq
        have q1 : ¬ (n : Int) < 0 := by omega
        have q2 : ¬ (8 : Int) ≤ (n : Int) := by omega
        have q3 : ¬ (m : Int) < 0 := by omega
        have q4 : ¬ (8 : Int) ≤ (m : Int) := by omega
        clear hq h8 hab
        go_enter Tryd.func22, Tryd.ntmps22
        go_wp2_with fail
        refine (qnumbers_any A'' c'' qs S w B hB h'' (hS.sub (by simp)) hl'').mono ?_
        rintro e w0 ⟨v, rfl, hv, k0⟩
        obtain ⟨T, x, rfl⟩ := hv.some_of Hq.out
        have y2 : w0.cell? ⟨G 2, 0, none⟩ = some (sv S 2) := ((hS.below (k0.mono hB)) 2 (by simp)).2.2
        simp only [G, sv] at y2
        clear g2 g3
        go_wp2_with fail
        go_quiet (fail)
        rename Nat => nq
        go_wp2_with fail
        go_ret2
        rw [Hv.out, He.out]
        exact ⟨_, rfl, .bare 2 (by omega) (by omega), below_drewN k0 nq⟩
  · have hb1 : ((qs.length : Int) != 8) = true := by simp; omega
    have He := Lib.hid (show sprErr p l qs a b = (3, -1) from if_pos h8)
    have Hv := Lib.hid (show sprV p l qs a b = 0 by unfold sprV; rw [He.out]; rfl)
    clear h8
    go_enter Tryd.func22, Tryd.ntmps22
    go_wp2_with fail
    go_quiet (fail)
    rename Nat => nq
    go_wp2_with fail
    go_ret2
    rw [Hv.out, He.out]
    exact ⟨_, rfl, .bare 3 (by omega) (by omega), below_drewN (Below.refl _ _) nq⟩
end Go.Proofs.YtkkecnofgmpekaaDoor
