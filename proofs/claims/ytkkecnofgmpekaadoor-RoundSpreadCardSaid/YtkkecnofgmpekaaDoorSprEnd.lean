/- Package round: Spread of whatever is asked. Conditions: few are sent, ticks are not too great; the sentinels that it names lie in their variables. The law RoundSpread returns true, whatever its arguments, and changes nothing that was there. Condition: the nine sentinels lie in their variables, apart; errors.errorType holds the type error. -/
import Derived.Test.YtkkecnofgmpekaaDoorSpread
import Derived.Test.YtkkecnofgmpekaaDoorSentRef
import Derived.Test.YtkkecnofgmpekaaDoorSprDoc
import Derived.Test.YtkkecnofgmpekaaDoorShares
import Derived.Test.YtkkecnofgmpekaaDoorLateB
namespace Go.Proofs.YtkkecnofgmpekaaDoor
open Go.RowKit
set_option maxRecDepth 100000
theorem qIdx_numE (l : List Int) : quErr l = numE l 1 3000 := by
  have key : ∀ (l : List Int) (k : Nat), l.all (fun n => decide (1 ≤ n ∧ n ≤ 3000)) = decide (¬ 0 ≤ qIdx l k) := fun l => by
    induction l with
    | nil => intro k; rfl
    | cons n r ih =>
      intro k
      rw [List.all_cons, ih (k + 1)]
      have hq : qIdx (n :: r) k = if outQ n = true then (k : Int) else qIdx r (k + 1) := rfl
      rw [hq]
      by_cases h : 1 ≤ n ∧ n ≤ 3000
      · have h1 : outQ n = false := by unfold outQ; exact decide_eq_false (by omega)
        rw [h1, decide_eq_true h]
        simp
      · have h1 : outQ n = true := by unfold outQ; exact decide_eq_true (by omega)
        rw [h1, decide_eq_false h]
        simp
  unfold quErr numE
  by_cases h8 : l.length = 8
  · rw [if_pos h8, if_pos h8, key l 0]
    by_cases h : 0 ≤ qIdx l 0
    · rw [if_pos h, if_neg (by simp [h])]
    · rw [if_neg h, if_pos (by simp [h])]
  · rw [if_neg h8, if_neg h8]
set_option maxHeartbeats 2000000 in
theorem spread_any (A A' A'' : Option Addr) (c c' c'' : Nat) (a b : Int) (p : List Pk) (l : List Sn) (qs : List Int) (S : Nat → Addr) (w : World) (B : Nat) (hB : B ≤ w.heap.size) (h : RdP w B A p) (h' : RdS w B A' l) (h'' : RdI w B A'' qs) (hS : Snt w B S [2, 3, 4, 5]) (hl : p.length ≤ 9223372036854775807) (hl' : l.length ≤ 1000) (hl'' : qs.length ≤ 9223372036854775807) (hc : l.length ≤ c')
    (ht : ∀ x ∈ l, tame50 x.t) :
    Calls Tryd.prog 22 #[.slice A p.length c, .slice A' l.length c', .slice A'' qs.length c'', .int .i64 a, .int .i64 b] w (EndVEr (.int .i64 (sprV p l qs a b)) S (sprErr p l qs a b).1 (sprErr p l qs a b).2 w) := by
  have g2 : w.cell? ⟨G 2, 0, none⟩ = some (sv S 2) := (hS 2 (by simp)).2.2
  have g3 : w.cell? ⟨G 3, 0, none⟩ = some (sv S 3) := (hS 3 (by simp)).2.2
  simp only [G, sv] at g2 g3
  by_cases h8 : qs.length = 8
  · have hb1 : ((qs.length : Int) != 8) = false := by rw [h8]; rfl
    by_cases hab : a < 0 ∨ 8 ≤ a ∨ b < 0 ∨ 8 ≤ b
    · have He := Lib.hid (show sprErr p l qs a b = (2, -1) by unfold sprErr; rw [if_neg (by omega), if_pos (.inl hab)])
      have Hv := Lib.hid (show sprV p l qs a b = 0 by unfold sprV; rw [He.out]; rfl)
      have hab4 : a < 0 ∨ (¬ a < 0 ∧ 8 ≤ a) ∨ (¬ a < 0 ∧ ¬ 8 ≤ a ∧ b < 0) ∨ (¬ a < 0 ∧ ¬ 8 ≤ a ∧ ¬ b < 0 ∧ 8 ≤ b) := by omega
      clear hab h8
      rcases hab4 with h1 | ⟨h1, h2⟩ | ⟨h1, h2, h3⟩ | ⟨h1, h2, h3, h4⟩
      all_goals
        go_enter Tryd.func22, Tryd.ntmps22
        go_wp2_with fail
        go_quiet (fail)
        rename Nat => nq
        go_wp2_with fail
        go_ret2
        rw [Hv.out, He.out]
        exact ⟨_, rfl, .bare 2 (by omega) (by omega), below_drewN (Below.refl _ _) nq⟩
    · obtain ⟨n, rfl⟩ : ∃ n : Nat, a = n := ⟨a.toNat, by omega⟩
      obtain ⟨m, rfl⟩ : ∃ m : Nat, b = m := ⟨b.toNat, by omega⟩
      have hn8 : n < 8 := by omega
      have hm8 : m < 8 := by omega
      by_cases hq : quErr qs = 0
      · by_cases h1 : (pktErr p).1 = 0
        · have e1 : sprErr p l qs n m = delErr p.length l := by unfold sprErr; rw [if_neg (by omega), if_neg (by rw [hq]; omega), if_neg (by omega)]
          by_cases h3 : (delErr p.length l).1 = 0
          · have e2 : sprV p l qs n m = sprL p (qu qs n) (qu qs m) n m l := by unfold sprV; rw [e1, if_pos h3]; rfl
            rw [e1, e2, (delErr_ok h3).2]
            exact spread_ok A A' A'' c c' c'' n m p l qs S w B hB h h' h'' hS hl hl' hl'' hc ht hn8 hm8 hq h1 h3
          · have hpk := pktErr_okPk h1
            have Hc := Lib.hid (pktErr_nil h1)
            have hta : ∀ x ∈ p, tame50 x.a := fun x hx => by
              have := (hpk x hx).2.2.2.2
              unfold tame50
              omega
            have Hd := Lib.hid h3
            have Hq := Lib.hid hq
            have He := Lib.hid e1
            have Hv := Lib.hid (show sprV p l qs n m = 0 by unfold sprV; rw [e1, if_neg h3])
            have q1 : ¬ (n : Int) < 0 := by omega
            have q2 : ¬ (8 : Int) ≤ (n : Int) := by omega
            have q3 : ¬ (m : Int) < 0 := by omega
            have q4 : ¬ (8 : Int) ≤ (m : Int) := by omega
            clear h1 h3 hq e1 h8 hab
            go_enter Tryd.func22, Tryd.ntmps22
            go_wp2_with fail
            refine (qnumbers_any A'' c'' qs S w B hB h'' (hS.sub (by simp)) hl'').mono ?_
            rintro e w0 ⟨v, rfl, hv, k0⟩
            obtain rfl := hv.nil_of Hq.out
            have z0 := k0.size
            go_wp2_with fail
            refine (pcheck_any A c p S _ B (Nat.le_trans hB z0) (h.below (k0.mono hB)) ((hS.below (k0.mono hB)).sub (by simp)) hl).mono ?_
            rintro e w1 ⟨v, rfl, hv, k1⟩
            obtain rfl := hv.nil_of (by rw [Hc.out])
            have k1' := k0.trans (k1.mono z0)
            have z1 := k1'.size
            go_wp2_with fail
            refine (delays_any A A' c c' p l S w1 B (by omega) (h.below (k1'.mono hB)) (h'.below (k1'.mono hB)) ((hS.below (k1'.mono hB)).sub (by simp)) hl (by omega) ht hta).mono ?_
            rintro e w2 ⟨A3, c3, v, rfl, o3, hv, k2⟩
            obtain ⟨T, x, rfl⟩ := hv.some_of Hd.out
            go_wp2_with fail
            go_ret2
            rw [Hv.out, He.out]
            exact ⟨_, rfl, hv, k1'.trans (k2.mono z1)⟩
        · have He := Lib.hid (show sprErr p l qs n m = pktErr p by unfold sprErr; rw [if_neg (by omega), if_neg (by rw [hq]; omega), if_pos h1])
          have Hv := Lib.hid (show sprV p l qs n m = 0 by unfold sprV; rw [He.out, if_neg h1])
          have Hq := Lib.hid hq
          have Hn := Lib.hid h1
          have q1 : ¬ (n : Int) < 0 := by omega
          have q2 : ¬ (8 : Int) ≤ (n : Int) := by omega
          have q3 : ¬ (m : Int) < 0 := by omega
          have q4 : ¬ (8 : Int) ≤ (m : Int) := by omega
          clear h1 hq h8 hab
          go_enter Tryd.func22, Tryd.ntmps22
          go_wp2_with fail
          refine (qnumbers_any A'' c'' qs S w B hB h'' (hS.sub (by simp)) hl'').mono ?_
          rintro e w0 ⟨v, rfl, hv, k0⟩
          obtain rfl := hv.nil_of Hq.out
          have z0 := k0.size
          go_wp2_with fail
          refine (pcheck_any A c p S _ B (Nat.le_trans hB z0) (h.below (k0.mono hB)) ((hS.below (k0.mono hB)).sub (by simp)) hl).mono ?_
          rintro e w1 ⟨v, rfl, hv, k1⟩
          obtain ⟨T, x, rfl⟩ := hv.some_of Hn.out
          go_wp2_with fail
          go_ret2
          rw [Hv.out, He.out]
          exact ⟨_, rfl, hv, k0.trans (k1.mono z0)⟩
      · have He := Lib.hid (show sprErr p l qs n m = (2, -1) by unfold sprErr; rw [if_neg (by omega), if_pos (.inr hq)])
        have Hv := Lib.hid (show sprV p l qs n m = 0 by unfold sprV; rw [He.out]; rfl)
        have Hq := Lib.hid hq
        have q1 : ¬ (n : Int) < 0 := by omega
        have q2 : ¬ (8 : Int) ≤ (n : Int) := by omega
        have q3 : ¬ (m : Int) < 0 := by omega
        have q4 : ¬ (8 : Int) ≤ (m : Int) := by omega
        clear hq h8 hab
        go_enter Tryd.func22, Tryd.ntmps22
        go_wp2_with fail
        refine (qnumbers_any A'' c'' qs S w B hB h'' (hS.sub (by simp)) hl'').mono ?_
        rintro e w0 ⟨v, rfl, hv, k0⟩
        obtain ⟨T, x, rfl⟩ := hv.some_of Hq.out
        have y2 : w0.cell? ⟨G 2, 0, none⟩ = some (sv S 2) := ((hS.below (k0.mono hB)) 2 (by simp)).2.2
        simp only [G, sv] at y2
        clear g2 g3
        go_wp2_with fail
        go_quiet (fail)
        rename Nat => nq
        go_wp2_with fail
        go_ret2
        rw [Hv.out, He.out]
        exact ⟨_, rfl, .bare 2 (by omega) (by omega), below_drewN k0 nq⟩
  · have hb1 : ((qs.length : Int) != 8) = true := by simp; omega
    have He := Lib.hid (show sprErr p l qs a b = (3, -1) from if_pos h8)
    have Hv := Lib.hid (show sprV p l qs a b = 0 by unfold sprV; rw [He.out]; rfl)
    clear h8
    go_enter Tryd.func22, Tryd.ntmps22
    go_wp2_with fail
    go_quiet (fail)
    rename Nat => nq
    go_wp2_with fail
    go_ret2
    rw [Hv.out, He.out]
    exact ⟨_, rfl, .bare 3 (by omega) (by omega), below_drewN (Below.refl _ _) nq⟩
end Go.Proofs.YtkkecnofgmpekaaDoor
namespace Go.Proofs.YtkkecnofgmpekaaDoor
open Go.RowKit
set_option maxRecDepth 100000
set_option maxHeartbeats 4000000 in
theorem sprl_main (A A' A'' : Option Addr) (c c' c'' : Nat) (p : List Pk) (l : List Sn) (qs : List Int) (a b : Int) (S : Nat → Addr) (w : World) (h : RdP w w.heap.size A p) (h' : RdS w w.heap.size A' l) (h'' : RdI w w.heap.size A'' qs) (hS : All9 w w.heap.size S) (hfit : fitB p.length 60 = true) (hl1 : l.length ≤ 60) (hl2 : qs.length ≤ 30) (htm : tameB l = true) :
    Calls Tryd.prog 12 #[.slice A p.length c, .slice A' l.length c', .slice A'' qs.length c'', .int .i64 a, .int .i64 b] w fun e w' => e = .returned (.bool true) ∧ Below w.heap.size w w' := by
  have hle : p.length ≤ 301 := by have := of_decide_eq_true hfit; omega
  have hl : p.length ≤ 9223372036854775807 := by omega
  have Hfit := Lib.hid hfit
  have Htm := Lib.hid (tameN_of htm)
  have Ht := Lib.hid (tameB_of htm)
  obtain ⟨i0, hi0, hz0, hz1, hz2⟩ := info_parts infoInt
  clear hfit htm
  go_enter Tryd.func12, Tryd.ntmps12
  go_wp2_with fail
  refine (turned_any S w _ (Nat.le_refl _) (hS.s.sub (by simp))).mono ?_
  rintro e w1 ⟨rfl, k1⟩
  go_wp2_with fail
  refine (fit_any A c p.length 60 _ hl).mono ?_
  rintro e wx ⟨rfl, rfl⟩
  rw [Hfit.out]
  go_wp2_with fail
  refine (tame_any A' c' l _ _ (h'.below k1) (by omega)).mono ?_
  rintro e wx ⟨rfl, rfl⟩
  rw [Htm.out]
  go_wp2_with fail
  refine (ownPackets_any A c p w1 _ (h.below k1) (by omega)).mono ?_
  rintro e w2 ⟨A2, c2, rfl, o2, k2⟩
  have r2 := RdP.of_own o2
  have k2' := k1.trans (k2.mono k1.size)
  clear o2
  go_wp2_with fail
  refine (ownSent_any A' c' l w2 _ (h'.below k2') (by omega)).mono ?_
  rintro e w3 ⟨A3, c3, rfl, o3, k3⟩
  have r3 := RdS.of_own o3
  have hc3 := own_cap o3
  have k3' := k2'.trans (k3.mono k2'.size)
  clear o3
  go_wp2_with (at_builtin; refine wpList_append_rd _ iCs rfl (.tmp 45) (.tmp 46) 35 rfl w3.heap.size 3 i0 (.int .i64 0) 1 8 Tryd.underlying35 hi0 hz0 hz1 hz2 rfl (by omega) iCs_len iCs_one (.slice none 0 0) 0 [] rfl ⟨by simp, .inl ⟨rfl, rfl⟩⟩ w.heap.size A'' c'' qs rfl (h''.below k3') (by simp only [maxLen]; omega) (by omega) (Nat.le_refl _) ?_; intro v4 w4 row4 g4 at4; simp only [Nat.zero_add, List.nil_append] at row4; obtain ⟨A4, c4, rfl⟩ := own_slice row4 (by omega); have k4 : Below w3.heap.size w3 w4 := (Below.refl _ _).grown g4 (Nat.le_refl _) (by simp [Value.ownBlock]))
  have k4' := k3'.trans (k4.mono k3'.size)
  have r4 : RdI w4 w4.heap.size A4 qs := Rd.of_own row4 (by omega) iCs_len
  refine (spread_any A2 A3 A4 c2 c3 c4 a b p l qs S w4 _ (Nat.le_refl _) ((r2.below (k3.trans (k4.mono k3.size))).more (Nat.le_trans k3.size k4.size)) ((r3.below k4).more k4.size) r4 (((hS.s.below k4').more k4'.size).sub (by simp)) hl (by omega) (by omega) hc3 Ht.out).mono ?_
  rintro e w5 ⟨v5, rfl, e5, k5⟩
  have k5' := k4'.trans (k5.mono k4'.size)
  clear r2 r3 r4 row4
  go_wp2_with fail
  refine (fine_any w5).mono ?_
  rintro e w6 ⟨rfl, k6⟩
  have k6' := k5'.trans (k6.mono k5'.size)
  have e6 := e5.below k6
  have z6 := k6'.size
  have z56 := k6.size
  clear e5
  unfold fv
  obtain ⟨v, hv⟩ : ∃ v : World, v = w6.alloc (.cells #[.int .i64 0, .int .i64 (-1)] 48) := ⟨_, rfl⟩
  have b7 : Blk v w6.heap.size 48 #[.int .i64 0, .int .i64 (-1)] := by rw [hv]; exact Blk.new _ _ _
  have k7 : Below w6.heap.size w6 v := by rw [hv]; exact (Below.refl _ _).alloc (Nat.le_refl _) _
  have z7 : w6.heap.size < v.heap.size := b7.lt
  have k7' := k6'.trans (k7.mono z6)
  have x0 : v.cell? ⟨w6.heap.size, 0, none⟩ = some (.int .i64 0) := b7.cell 0
  have x1 : v.cell? ⟨w6.heap.size, 1, none⟩ = some (.int .i64 (-1)) := b7.cell 1
  have y0 := b7.frozen 0
  have y1 := b7.frozen 1
  have Hv := Lib.hid hv
  have B7 := Lib.hid b7
  have e7 : Er v w6.heap.size S v5 (sprErr p l qs a b).1 (sprErr p l qs a b).2 := (e6.more z56).below k7
  clear hv b7 e6
  obtain ⟨en, hen⟩ : ∃ en, en = numE qs 1 3000 := ⟨_, rfl⟩
  have Hen := Lib.hid hen
  clear hen
  -- an error of numbers, or of flows: Bare k is stored, and told
  have early : ∀ (k : Int) (w8 : World), Below v.heap.size v w8 → ∃ w9 : World, w9 = (w8.setCell ⟨w6.heap.size, 0, none⟩ (.int .i64 k)).setCell ⟨w6.heap.size, 1, none⟩ (.int .i64 (-1)) ∧ Blk w9 w6.heap.size 48 #[.int .i64 k, .int .i64 (-1)] ∧ Below w6.heap.size v w9 ∧ Blk w8 w6.heap.size 48 #[.int .i64 0, .int .i64 (-1)] := fun k w8 k8 => by
    have b8 := B7.out.below k8 z7
    exact ⟨_, rfl, fv_store b8, fv_below (k8.mono (Nat.le_of_lt z7)) (Nat.le_refl _), b8⟩
  have Early := Lib.hid early
  clear early
  by_cases h8 : qs.length = 8
  · have hb1 : ((qs.length : Int) != 8) = false := by rw [h8]; rfl
    by_cases hab : a < 0 ∨ 8 ≤ a ∨ b < 0 ∨ 8 ≤ b
    · have He := Lib.hid (show sprErr p l qs a b = (2, -1) by unfold sprErr; rw [if_neg (by omega), if_pos (.inl hab)])
      have Hv4 := Lib.hid (show sprV p l qs a b = 0 by unfold sprV; rw [He.out]; rfl)
      have hab4 : a < 0 ∨ (¬ a < 0 ∧ 8 ≤ a) ∨ (¬ a < 0 ∧ ¬ 8 ≤ a ∧ b < 0) ∨ (¬ a < 0 ∧ ¬ 8 ≤ a ∧ ¬ b < 0 ∧ 8 ≤ b) := by omega
      rw [Hv4.out]
      rw [He.out] at e7
      clear hab h8
      rcases hab4 with h1 | ⟨h1, h2⟩ | ⟨h1, h2, h3⟩ | ⟨h1, h2, h3, h4⟩
      all_goals
        go_wp2_with fail
        rw [← Hv.out]
        refine (bare_any 2 v).mono ?_
        rintro e w8 ⟨rfl, k8⟩
        obtain ⟨w9, hw9, b9, k9, b8⟩ := Early.out 2 w8 k8
        have c80 := b8.cell 0
        have c81 := b8.cell 1
        have f80 := b8.frozen 0
        have f81 := b8.frozen 1
        have k9' := k7'.trans (k9.mono z6)
        have e9 := e7.below k9
        have z9 : w6.heap.size < w9.heap.size := b9.lt
        have c90 : w9.cell? ⟨w6.heap.size, 0, none⟩ = some (.int .i64 2) := b9.cell 0
        have c91 : w9.cell? ⟨w6.heap.size, 1, none⟩ = some (.int .i64 (-1)) := b9.cell 1
        have c90' := c90
        have c91' := c91
        rw [hw9] at c90' c91'
        have hS9' := (hS.below k9').more z6
        have Hw9 := Lib.hid hw9
        simp only [List.getElem?_toArray, List.getElem?_cons_zero, List.getElem?_cons_succ] at c80 c81
        unfold fv
        clear hw9 b9 b8
        go_wp2_with fail
        first | rw [← Hw9.out] | skip
        have hfa := faulted2_any v5 2 (-1) (-1) S w9 w6.heap.size (Nat.le_of_lt z9) hS9' e9 (.inr rfl)
        rw [show ((2 : Nat) : Int) = 2 from rfl] at hfa
        refine hfa.mono ?_
        rintro e w12 ⟨rfl, k12⟩
        go_wp2_with fail
        go_ret
        exact ⟨rfl, k9'.trans (k12.mono k9'.size)⟩
    · obtain ⟨n, rfl⟩ : ∃ n : Nat, a = n := ⟨a.toNat, by omega⟩
      obtain ⟨m, rfl⟩ : ∃ m : Nat, b = m := ⟨b.toNat, by omega⟩
      have hn8 : n < 8 := by omega
      have hm8 : m < 8 := by omega
      have q1 : ¬ (n : Int) < 0 := by omega
      have q2 : ¬ (8 : Int) ≤ (n : Int) := by omega
      have q3 : ¬ (m : Int) < 0 := by omega
      have q4 : ¬ (8 : Int) ≤ (m : Int) := by omega
      clear hab
      by_cases hz : en = 0
      · have hq : quErr qs = 0 := by rw [qIdx_numE, ← Hen.out]; exact hz
        have Hen0 := Lib.hid (show numE qs 1 3000 = 0 by rw [← Hen.out]; exact hz)
        have hee1 : (pktErr p).1 = 0 → sprErr p l qs n m = delErr p.length l := fun h1 => by unfold sprErr; rw [if_neg (by omega), if_neg (by rw [hq]; omega), if_neg (by omega)]
        have hee2 : (pktErr p).1 ≠ 0 → sprErr p l qs n m = pktErr p := fun h1 => by unfold sprErr; rw [if_neg (by omega), if_neg (by rw [hq]; omega), if_pos h1]
        have Hee1 := Lib.hid hee1
        have Hee2 := Lib.hid hee2
        have Hq := Lib.hid hq
        have H8 := Lib.hid h8
        clear hz hq h8 hee1 hee2
        go_wp2_with fail
        rw [← Hv.out]
        refine (numbersError_any A'' c'' qs 1 3000 v _ (h''.below k7') (by omega)).mono ?_
        rintro e wx ⟨rfl, rfl⟩
        rw [Hen0.out]
        go_wp2_with fail
        refine (packetsFault_any A c p v _ k7'.size (h.below k7') hl).mono ?_
        rintro e w8 ⟨rfl, k8⟩
        obtain ⟨b8, hb8⟩ : ∃ b8 : Blk w8 w6.heap.size 48 #[.int .i64 0, .int .i64 (-1)], True := ⟨B7.out.below k8 z7, trivial⟩
        have c80 := b8.cell 0
        have c81 := b8.cell 1
        have f80 := b8.frozen 0
        have f81 := b8.frozen 1
        simp only [List.getElem?_toArray, List.getElem?_cons_zero, List.getElem?_cons_succ] at c80 c81
        obtain ⟨w9, hw9⟩ : ∃ w9, w9 = (w8.setCell ⟨w6.heap.size, 0, none⟩ (.int .i64 (pktErr p).1)).setCell ⟨w6.heap.size, 1, none⟩ (.int .i64 (pktErr p).2) := ⟨_, rfl⟩
        have b9 : Blk w9 w6.heap.size 48 #[.int .i64 (pktErr p).1, .int .i64 (pktErr p).2] := by rw [hw9]; exact fv_store b8
        have k9 : Below w6.heap.size v w9 := by rw [hw9]; exact fv_below (k8.mono (Nat.le_of_lt z7)) (Nat.le_refl _)
        have k9' := k7'.trans (k9.mono z6)
        have z9 : w6.heap.size < w9.heap.size := b9.lt
        have z9' := k9'.size
        have e9 := e7.below k9
        have c90 : w9.cell? ⟨w6.heap.size, 0, none⟩ = some (.int .i64 (pktErr p).1) := b9.cell 0
        have c91 : w9.cell? ⟨w6.heap.size, 1, none⟩ = some (.int .i64 (pktErr p).2) := b9.cell 1
        have c90' := c90
        have c91' := c91
        rw [hw9] at c90' c91'
        have hS9' := (hS.below k9').more z6
        have Hw9 := Lib.hid hw9
        have B9 := Lib.hid b9
        unfold fv
        clear hw9 b9 b8 hb8
        by_cases h1 : (pktErr p).1 = 0
        · have hpk := pktErr_okPk h1
          have hc := pktErr_nil h1
          have He := Lib.hid (Hee1.out h1)
          have h1e : ((pktErr p).1 : Int) = 0 := by omega
          rw [hc] at c90 c91 c90' c91' ⊢
          have Hw9b := Lib.hid (show w9 = (w8.setCell ⟨w6.heap.size, 0, none⟩ (.int .i64 0)).setCell ⟨w6.heap.size, 1, none⟩ (.int .i64 (-1)) by rw [Hw9.out, hc]; rfl)
          have Hc := Lib.hid hc
          clear hc h1e h1
          go_wp2_with fail
          first | rw [← Hw9b.out] | skip
          refine (sentFault_any A A' c c' p.length l w9 _ z9' (h'.below k9') hl (by omega)).mono ?_
          rintro e w10 ⟨rfl, k10⟩
          have b10 := B9.out.below k10 z9
          have c10 := b10.cell 0
          have c11 := b10.cell 1
          have f10 := b10.frozen 0
          have f11 := b10.frozen 1
          simp only [List.getElem?_toArray, List.getElem?_cons_zero, List.getElem?_cons_succ] at c10 c11
          obtain ⟨w11, hw11⟩ : ∃ w11, w11 = (w10.setCell ⟨w6.heap.size, 0, none⟩ (.int .i64 (delErr p.length l).1)).setCell ⟨w6.heap.size, 1, none⟩ (.int .i64 (delErr p.length l).2) := ⟨_, rfl⟩
          have b11 : Blk w11 w6.heap.size 48 #[.int .i64 (delErr p.length l).1, .int .i64 (delErr p.length l).2] := by rw [hw11]; exact fv_store b10
          have k11 : Below w6.heap.size w9 w11 := by rw [hw11]; exact fv_below (k10.mono (Nat.le_of_lt z9)) (Nat.le_refl _)
          have Hw11 := Lib.hid hw11
          have k11' := k9'.trans (k11.mono z6)
          have z11 : w6.heap.size < w11.heap.size := b11.lt
          have z11' := k11'.size
          have e11 := e9.below k11
          have d0 : w11.cell? ⟨w6.heap.size, 0, none⟩ = some (.int .i64 (delErr p.length l).1) := b11.cell 0
          have d1 : w11.cell? ⟨w6.heap.size, 1, none⟩ = some (.int .i64 (delErr p.length l).2) := b11.cell 1
          rw [He.out] at e11
          unfold fv
          clear hw11 b10 b11
          by_cases hd : (delErr p.length l).1 = 0
          · obtain ⟨hbad, hde⟩ := delErr_ok hd
            have hsp : ∀ y ∈ l, 0 ≤ y.p ∧ y.p.toNat < p.length := fun y hy => by
              have := sentBad_ok hbad y hy
              omega
            have Hv4 := Lib.hid (show sprV p l qs n m = sprL p (qu qs n) (qu qs m) n m l by unfold sprV; rw [He.out, if_pos hd]; rfl)
            have Hw11b := Lib.hid (show w11 = (w10.setCell ⟨w6.heap.size, 0, none⟩ (.int .i64 0)).setCell ⟨w6.heap.size, 1, none⟩ (.int .i64 (-1)) by rw [Hw11.out, hde]; rfl)
            rw [hde] at d0 d1 e11 ⊢
            obtain rfl := e11.nil_of rfl
            rw [Hv4.out]
            have hqu := (quErr_ok Hq.out).2
            have hq1 := qu_bd H8.out hqu
            have Hq1 := Lib.hid hq1
            have Hsp := Lib.hid hsp
            clear hde hd hbad hq1 hqu hsp
            go_wp2_with fail
            first | rw [← Hw11b.out] | skip
            refine (spreadOf_any n m A A' A'' c c' c'' p l qs w11 _ z11' (h.below k11') (h'.below k11') (h''.below k11') hpk Hsp.out (by omega) H8.out Hq1.out hn8 hm8).mono ?_
            rintro e w12 ⟨rfl, k12⟩
            go_wp2_with fail
            go_ret
            exact ⟨by simp, k11'.trans (k12.mono z11')⟩
          · have Hv4 := Lib.hid (show sprV p l qs n m = 0 by unfold sprV; rw [He.out, if_neg hd])
            have h1' : (0 : Int) < ((delErr p.length l).1 : Int) := by omega
            rw [Hv4.out]
            clear hd
            go_wp2_with fail
            first | rw [← Hw11.out] | skip
            refine (faulted2_any v5 (delErr p.length l).1 (delErr p.length l).2 (delErr p.length l).2 S w11 w6.heap.size (Nat.le_of_lt z11) ((hS.below k11').more z6) e11 (.inr rfl)).mono ?_
            rintro e w12 ⟨rfl, k12⟩
            go_wp2_with fail
            go_ret
            exact ⟨rfl, k11'.trans (k12.mono z11')⟩
        · have He := Lib.hid (Hee2.out h1)
          have Hv4 := Lib.hid (show sprV p l qs n m = 0 by unfold sprV; rw [He.out, if_neg h1])
          have h1' : (0 : Int) < ((pktErr p).1 : Int) := by omega
          have h2' : (((pktErr p).1 : Int) == 0) = false := beq_eq_false_iff_ne.2 (by omega)
          rw [Hv4.out]
          rw [He.out] at e9
          clear h1
          go_wp2_with fail
          first | rw [← Hw9.out] | skip
          refine (faulted2_any v5 (pktErr p).1 (pktErr p).2 (pktErr p).2 S w9 w6.heap.size (Nat.le_of_lt z9) hS9' e9 (.inr rfl)).mono ?_
          rintro e w12 ⟨rfl, k12⟩
          go_wp2_with fail
          go_ret
          exact ⟨rfl, k9'.trans (k12.mono z9')⟩
      · have hq : quErr qs ≠ 0 := by rw [qIdx_numE, ← Hen.out]; exact hz
        have He := Lib.hid (show sprErr p l qs n m = (2, -1) by unfold sprErr; rw [if_neg (by omega), if_pos (.inr hq)])
        have Hv4 := Lib.hid (show sprV p l qs n m = 0 by unfold sprV; rw [He.out]; rfl)
        have h1' : (0 : Int) < (en : Int) := by omega
        rw [Hv4.out]
        rw [He.out] at e7
        clear hz hq h8
        go_wp2_with fail
        rw [← Hv.out]
        refine (numbersError_any A'' c'' qs 1 3000 v _ (h''.below k7') (by omega)).mono ?_
        rintro e wx ⟨rfl, rfl⟩
        rw [← Hen.out]
        go_wp2_with fail
        refine (bare_any 2 v).mono ?_
        rintro e w8 ⟨rfl, k8⟩
        obtain ⟨w9, hw9, b9, k9, b8⟩ := Early.out 2 w8 k8
        have c80 := b8.cell 0
        have c81 := b8.cell 1
        have f80 := b8.frozen 0
        have f81 := b8.frozen 1
        have k9' := k7'.trans (k9.mono z6)
        have e9 := e7.below k9
        have z9 : w6.heap.size < w9.heap.size := b9.lt
        have c90 : w9.cell? ⟨w6.heap.size, 0, none⟩ = some (.int .i64 2) := b9.cell 0
        have c91 : w9.cell? ⟨w6.heap.size, 1, none⟩ = some (.int .i64 (-1)) := b9.cell 1
        have c90' := c90
        have c91' := c91
        rw [hw9] at c90' c91'
        have hS9' := (hS.below k9').more z6
        have Hw9 := Lib.hid hw9
        simp only [List.getElem?_toArray, List.getElem?_cons_zero, List.getElem?_cons_succ] at c80 c81
        unfold fv
        clear hw9 b9 b8
        go_wp2_with fail
        first | rw [← Hw9.out] | skip
        have hfa := faulted2_any v5 2 (-1) (-1) S w9 w6.heap.size (Nat.le_of_lt z9) hS9' e9 (.inr rfl)
        rw [show ((2 : Nat) : Int) = 2 from rfl] at hfa
        refine hfa.mono ?_
        rintro e w12 ⟨rfl, k12⟩
        go_wp2_with fail
        go_ret
        exact ⟨rfl, k9'.trans (k12.mono k9'.size)⟩
  · have hb1 : ((qs.length : Int) != 8) = true := by simp; omega
    have He := Lib.hid (show sprErr p l qs a b = (3, -1) from if_pos h8)
    have Hv4 := Lib.hid (show sprV p l qs a b = 0 by unfold sprV; rw [He.out]; rfl)
    rw [Hv4.out]
    rw [He.out] at e7
    clear h8
    go_wp2_with fail
    first | rw [← Hv.out] | skip
    refine (bare_any 3 v).mono ?_
    rintro e w8 ⟨rfl, k8⟩
    obtain ⟨w9, hw9, b9, k9, b8⟩ := Early.out 3 w8 k8
    have c80 := b8.cell 0
    have c81 := b8.cell 1
    have f80 := b8.frozen 0
    have f81 := b8.frozen 1
    have k9' := k7'.trans (k9.mono z6)
    have e9 := e7.below k9
    have z9 : w6.heap.size < w9.heap.size := b9.lt
    have c90 : w9.cell? ⟨w6.heap.size, 0, none⟩ = some (.int .i64 3) := b9.cell 0
    have c91 : w9.cell? ⟨w6.heap.size, 1, none⟩ = some (.int .i64 (-1)) := b9.cell 1
    have c90' := c90
    have c91' := c91
    rw [hw9] at c90' c91'
    have hS9' := (hS.below k9').more z6
    have Hw9 := Lib.hid hw9
    simp only [List.getElem?_toArray, List.getElem?_cons_zero, List.getElem?_cons_succ] at c80 c81
    unfold fv
    clear hw9 b9 b8
    go_wp2_with fail
    first | rw [← Hw9.out] | skip
    have hfa := faulted2_any v5 3 (-1) (-1) S w9 w6.heap.size (Nat.le_of_lt z9) hS9' e9 (.inr rfl)
    rw [show ((3 : Nat) : Int) = 3 from rfl] at hfa
    refine hfa.mono ?_
    rintro e w12 ⟨rfl, k12⟩
    go_wp2_with fail
    go_ret
    exact ⟨rfl, k9'.trans (k12.mono k9'.size)⟩
set_option maxHeartbeats 1000000 in
theorem sprl_early (A A' A'' : Option Addr) (c c' c'' : Nat) (p : List Pk) (l : List Sn) (qs : List Int) (a b : Int) (S : Nat → Addr) (w : World) (h' : RdS w w.heap.size A' l) (hS : All9 w w.heap.size S) (hl : p.length ≤ 9223372036854775807) (hl' : l.length ≤ 9223372036854775807) (hl'' : qs.length ≤ 9223372036854775807)
    (hx : fitB p.length 60 = false ∨ (fitB p.length 60 = true ∧ 60 < l.length) ∨ (fitB p.length 60 = true ∧ l.length ≤ 60 ∧ 30 < qs.length) ∨ (fitB p.length 60 = true ∧ l.length ≤ 60 ∧ qs.length ≤ 30 ∧ tameB l = false)) :
    Calls Tryd.prog 12 #[.slice A p.length c, .slice A' l.length c', .slice A'' qs.length c'', .int .i64 a, .int .i64 b] w fun e w' => e = .returned (.bool true) ∧ Below w.heap.size w w' := by
  rcases hx with hx | ⟨hx, h1⟩ | ⟨hx, h1, h2⟩ | ⟨hx, h1, h2, h3⟩
  all_goals
    have Hfit := Lib.hid hx
    clear hx
  · go_enter Tryd.func12, Tryd.ntmps12
    go_wp2_with fail
    refine (turned_any S w _ (Nat.le_refl _) (hS.s.sub (by simp))).mono ?_
    rintro e w1 ⟨rfl, k1⟩
    go_wp2_with fail
    refine (fit_any A c p.length 60 _ hl).mono ?_
    rintro e wx ⟨rfl, rfl⟩
    rw [Hfit.out]
    go_wp2_with fail
    go_ret
    exact ⟨rfl, k1⟩
  · go_enter Tryd.func12, Tryd.ntmps12
    go_wp2_with fail
    refine (turned_any S w _ (Nat.le_refl _) (hS.s.sub (by simp))).mono ?_
    rintro e w1 ⟨rfl, k1⟩
    go_wp2_with fail
    refine (fit_any A c p.length 60 _ hl).mono ?_
    rintro e wx ⟨rfl, rfl⟩
    rw [Hfit.out]
    go_wp2_with fail
    go_ret
    exact ⟨rfl, k1⟩
  · go_enter Tryd.func12, Tryd.ntmps12
    go_wp2_with fail
    refine (turned_any S w _ (Nat.le_refl _) (hS.s.sub (by simp))).mono ?_
    rintro e w1 ⟨rfl, k1⟩
    go_wp2_with fail
    refine (fit_any A c p.length 60 _ hl).mono ?_
    rintro e wx ⟨rfl, rfl⟩
    rw [Hfit.out]
    go_wp2_with fail
    go_ret
    exact ⟨rfl, k1⟩
  · have Htm := Lib.hid (tameN_off h3)
    clear h3
    go_enter Tryd.func12, Tryd.ntmps12
    go_wp2_with fail
    refine (turned_any S w _ (Nat.le_refl _) (hS.s.sub (by simp))).mono ?_
    rintro e w1 ⟨rfl, k1⟩
    go_wp2_with fail
    refine (fit_any A c p.length 60 _ hl).mono ?_
    rintro e wx ⟨rfl, rfl⟩
    rw [Hfit.out]
    go_wp2_with fail
    refine (tame_any A' c' l _ _ (h'.below k1) (by omega)).mono ?_
    rintro e wx ⟨rfl, rfl⟩
    rw [Htm.out]
    go_wp2_with fail
    go_ret
    exact ⟨rfl, k1⟩
theorem roundSpread_any (A : Option Addr) (c : Nat) (p : List Pk) (A' : Option Addr) (c' : Nat) (l : List Sn) (A'' : Option Addr) (c'' : Nat) (qs : List Int) (a b : Int) (S : Nat → Addr) (w : World) (h : RdP w w.heap.size A p) (h' : RdS w w.heap.size A' l) (h'' : RdI w w.heap.size A'' qs) (hS : All9 w w.heap.size S) (hl : p.length ≤ 9223372036854775807) (hl' : l.length ≤ 9223372036854775807) (hl'' : qs.length ≤ 9223372036854775807) :
    Calls Tryd.prog 12 #[.slice A p.length c, .slice A' l.length c', .slice A'' qs.length c'', .int .i64 a, .int .i64 b] w fun e w' => e = .returned (.bool true) ∧ Below w.heap.size w w' := by
  cases hfit : fitB p.length 60
  · exact sprl_early A A' A'' c c' c'' p l qs a b S w h' hS hl hl' hl'' (.inl hfit)
  · by_cases h1 : l.length ≤ 60
    · by_cases h2 : qs.length ≤ 30
      · cases h3 : tameB l
        · exact sprl_early A A' A'' c c' c'' p l qs a b S w h' hS hl hl' hl'' (.inr (.inr (.inr ⟨hfit, h1, h2, h3⟩)))
        · exact sprl_main A A' A'' c c' c'' p l qs a b S w h h' h'' hS hfit h1 h2 h3
      · exact sprl_early A A' A'' c c' c'' p l qs a b S w h' hS hl hl' hl'' (.inr (.inr (.inl ⟨hfit, h1, by omega⟩)))
    · exact sprl_early A A' A'' c c' c'' p l qs a b S w h' hS hl hl' hl'' (.inr (.inl ⟨hfit, by omega⟩))
end Go.Proofs.YtkkecnofgmpekaaDoor
