/- The law AuditRuns returns true, whatever its arguments, and changes nothing that was there. Condition: the nine sentinels lie in their variables, apart; errors.errorType holds the type error. -/
import Derived.Test.YthgpbdlmadjndaaDoorAudA
import Derived.Test.YthgpbdlmadjndaaDoorAudR
import Derived.Test.YthgpbdlmadjndaaDoorRankB
import Derived.Test.YthgpbdlmadjndaaDoorRoundG
import Derived.Test.YthgpbdlmadjndaaDoorFairC
import Derived.Deep.RegionHeld3
namespace Go.Proofs.YthgpbdlmadjndaaDoor
open Go.RowKit
set_option maxRecDepth 100000
theorem serve_tame {σ : Type} {M : Pol σ} {p : List Pk} {per : Int} {s0 : σ} (hM : PolOk M p.length) (hp : ∀ x ∈ p, okPk x) (h0 : 1 ≤ per) (h1 : per ≤ 1000) (h300 : p.length ≤ 300) (hw0 : M.wait s0 = []) (ho : M.ok 0 s0) : ∀ x ∈ (serveS M p per s0).out, tame50 x.f := by
  have hJ := run_ind hM hp h0 h1 (fun t => ∀ x ∈ t.out, tame50 x.f) (fun t hi hl hj => by
    cases hq : comeL M t.now (p.drop t.next) t.next t.s with
    | mk k s =>
      cases hpk : M.pick s with
      | none => rw [step_none hq hpk]; exact hj
      | some ks =>
        obtain ⟨j, s'⟩ := ks
        rw [step_some hq hpk]
        intro x hx
        rcases List.mem_append.1 hx with hx | hx
        · exact hj x hx
        · rw [List.mem_singleton.1 hx]
          have a1 := hi.now0
          have a2 := hi.now1
          unfold tame50
          simp only
          omega) (2 * p.length + 1) _ (inv_start p hw0 ho) (by simp)
  exact hJ
/-- What a run of a link answers, for the law. -/
structure RunIs (p : List Pk) (per : Int) (k : Nat) (l : List Sn) : Prop where
  bad : k ≠ 0 → l = []
  len : l.length ≤ 300
  tame : ∀ x ∈ l, tame50 x.f
  good : k = 0 → audErr p per l = (0, -1)
section
variable {p : List Pk} {per : Int}
theorem RunIs.nil {k : Nat} (h : k ≠ 0) : RunIs p per k [] := ⟨fun _ => rfl, by simp, by simp, fun h' => absurd h' h⟩
theorem RunIs.serve {σ : Type} {M : Pol σ} {s0 : σ} {k : Nat} (hk : k = 0) (hlk : (lookErr p per).1 = 0) (hM : PolOk M p.length) (hT : TurnOk M p) (hw0 : M.wait s0 = []) (ho : M.ok 0 s0) : RunIs p per k (serveS M p per s0).out := by
  obtain ⟨hf, h300, hpk, h0, h1⟩ := lookErr_ok hlk
  refine ⟨fun h => absurd hk h, ?_, serve_tame hM hpk h0 h1 h300 hw0 ho, fun _ => ?_⟩
  · rw [(srv_perm hM hpk h0 h1 hw0 ho).1]; exact h300
  · unfold audErr
    rw [if_neg (by omega)]
    exact serve_audit hM hT hpk (lookErr_sorted hlk) h0 h1 hw0 ho
end
def fifoV (p : List Pk) (per : Int) : List Sn := if (lookErr p per).1 = 0 then fifoL p per else []
def rankV (p : List Pk) (per : Int) (ns : List Int) : List Sn := if (rankErr p per ns 100).1 = 0 then leastL p per (rankKey p ns) else []
def dueV (p : List Pk) (per : Int) (ns : List Int) : List Sn := if (rankErr p per ns 1099511627776).1 = 0 then leastL p per (dueKey p ns) else []
def roundV (p : List Pk) (per : Int) (ns : List Int) : List Sn := if (roundErr p per ns).1 = 0 then roundL p per ns else []
theorem fifo_is (p : List Pk) (per : Int) : RunIs p per (lookErr p per).1 (fifoV p per) := by
  unfold fifoV
  by_cases h : (lookErr p per).1 = 0
  · rw [if_pos h]
    exact RunIs.serve h h (fifoOk _) (fifo_turn p) rfl ⟨rfl, Nat.le_refl _⟩
  · rw [if_neg h]; exact RunIs.nil h
theorem rank_is (p : List Pk) (per : Int) (ns : List Int) : RunIs p per (rankErr p per ns 100).1 (rankV p per ns) := by
  unfold rankV
  by_cases h : (rankErr p per ns 100).1 = 0
  · rw [if_pos h]
    exact RunIs.serve h (rankErr_ok h).1 (leastOk _ _) (least_turn fun i j _ _ hf => by unfold rankKey; rw [hf]; exact Int.le_refl _) rfl ⟨by simp, List.Pairwise.nil⟩
  · rw [if_neg h]; exact RunIs.nil h
theorem due_is (p : List Pk) (per : Int) (ns : List Int) : RunIs p per (rankErr p per ns 1099511627776).1 (dueV p per ns) := by
  unfold dueV
  by_cases h : (rankErr p per ns 1099511627776).1 = 0
  · rw [if_pos h]
    have hlk := (rankErr_ok h).1
    exact RunIs.serve h hlk (leastOk _ _) (least_turn fun i j hij hj hf => by
      unfold dueKey
      rw [hf]
      have := aOf_mono (lookErr_sorted hlk) (Nat.le_of_lt hij) hj
      omega) rfl ⟨by simp, List.Pairwise.nil⟩
  · rw [if_neg h]; exact RunIs.nil h
theorem round_is (p : List Pk) (per : Int) (ns : List Int) : RunIs p per (roundErr p per ns).1 (roundV p per ns) := by
  unfold roundV
  by_cases h : (roundErr p per ns).1 = 0
  · rw [if_pos h]
    obtain ⟨hlk, _, h8, hn, _⟩ := roundErr_ok h
    obtain ⟨hf, h300, hpk, h0, h1⟩ := lookErr_ok hlk
    have hq1 : ∀ g, g < 8 → 1 ≤ qu ns g := fun g hg => by
      unfold qu
      have hgl : g < ns.length := by omega
      simp only [List.getD, List.getElem?_eq_getElem hgl, Option.getD_some]
      exact (hn _ (List.getElem_mem hgl)).1
    have hq : ∀ g, 0 ≤ qu ns g := fun g => by
      by_cases hg : g < 8
      · have := hq1 g hg; omega
      · unfold qu
        simp only [List.getD, List.getElem?_eq_none (show ns.length ≤ g by omega), Option.getD_none]
        omega
    exact RunIs.serve h hlk (roundOk hpk hq hq1) (round_turn hpk hq) rs0_wait (rs0_ok p ns)
  · rw [if_neg h]; exact RunIs.nil h
theorem fair_is (p : List Pk) (per : Int) (ns : List Int) : RunIs p per (fairErr p per ns).1 (fairV p per ns) := by
  unfold fairV
  by_cases h : (fairErr p per ns).1 = 0
  · rw [if_pos h]
    obtain ⟨hlk, _, h8, hn, _⟩ := fairErr_ok h
    obtain ⟨hf, h300, hpk, h0, h1⟩ := lookErr_ok hlk
    have hw := wOk_of h8 (weIdx_none hn)
    exact RunIs.serve h hlk (fairOk hpk hw) (fair_turn hpk hw) rfl (fs0_ok p ns)
  · rw [if_neg h]; exact RunIs.nil h
section
variable (A A' : Option Addr) (c c' : Nat) (p : List Pk) (per : Int) (ns : List Int) (S : Nat → Addr) (w : World) (B : Nat) (hB : B ≤ w.heap.size) (h : RdP w B A p) (h' : RdI w B A' ns) (hS : Snt w B S [2, 3, 5]) (hl : p.length ≤ 9223372036854775807) (hl' : ns.length ≤ 9223372036854775807)
include hB h h' hS hl hl'
omit h' hl' in
theorem fifoV_any : Calls Tryd.prog 26 #[.slice A p.length c, .int .i64 per] w (EndOwnEr Sn.cs 3 44 (fifoV p per) S (lookErr p per).1 (lookErr p per).2 w) := by
  unfold fifoV
  by_cases hk : (lookErr p per).1 = 0
  · rw [if_pos hk]; exact fifoRun_ok A c p per S w B hB h (hS.sub (by simp)) hl hk
  · rw [if_neg hk]; exact fifoRun_bad A c p per S w B hB h (hS.sub (by simp)) hl hk
theorem rankV_any : Calls Tryd.prog 27 #[.slice A p.length c, .int .i64 per, .slice A' ns.length c'] w (EndOwnEr Sn.cs 3 44 (rankV p per ns) S (rankErr p per ns 100).1 (rankErr p per ns 100).2 w) := by
  unfold rankV
  by_cases hk : (rankErr p per ns 100).1 = 0
  · rw [if_pos hk]; exact rankRun_ok A A' c c' p per ns S w B hB h h' hS hl hl' hk
  · rw [if_neg hk]; exact rankRun_bad A A' c c' p per ns S w B hB h h' hS hl hl' hk
theorem dueV_any : Calls Tryd.prog 28 #[.slice A p.length c, .int .i64 per, .slice A' ns.length c'] w (EndOwnEr Sn.cs 3 44 (dueV p per ns) S (rankErr p per ns 1099511627776).1 (rankErr p per ns 1099511627776).2 w) := by
  unfold dueV
  by_cases hk : (rankErr p per ns 1099511627776).1 = 0
  · rw [if_pos hk]; exact rankDue_ok A A' c c' p per ns S w B hB h h' hS hl hl' hk
  · rw [if_neg hk]; exact rankDue_bad A A' c c' p per ns S w B hB h h' hS hl hl' hk
theorem roundV_any : Calls Tryd.prog 29 #[.slice A p.length c, .int .i64 per, .slice A' ns.length c'] w (EndOwnEr Sn.cs 3 44 (roundV p per ns) S (roundErr p per ns).1 (roundErr p per ns).2 w) := by
  unfold roundV
  by_cases hk : (roundErr p per ns).1 = 0
  · rw [if_pos hk]; exact roundRun_ok A A' c c' p per ns S w B hB h h' hS hl hl' hk
  · rw [if_neg hk]; exact roundRun_bad A A' c c' p per ns S w B hB h h' hS hl hl' hk
end
/-- An error against nil. -/
theorem Er.neq {w : World} {B : Nat} {S : Nat → Addr} {v : Value} {k : Nat} {a : Int} (h : Er w B S v k a) (w' : World) : (binOp .neq 31 v .nilIface).run Tryd.prog w' = .ok (.bool (decide (k ≠ 0))) w' := by
  by_cases hk : k = 0
  · subst hk
    obtain rfl := h.nil_of rfl
    kernel_rfl
  · obtain ⟨T, a, rfl⟩ := h.some_of hk
    rw [decide_eq_true hk]
    rfl
theorem Er.guard {w : World} {B : Nat} {S : Nat → Addr} {v : Value} {k : Nat} {a : Int} (h : Er w B S v k a) (x : Operand) (w' : World) : (eqGuard .neq 31 x (.const .nilIface) v .nilIface).run Tryd.prog w' = .ok () w' := by
  by_cases hk : k = 0
  · subst hk
    obtain rfl := h.nil_of rfl
    cases x <;> rfl
  · obtain ⟨T, a, rfl⟩ := h.some_of hk
    rfl
/-- What the loop finds at a place. -/
def RunAt (p : List Pk) (per : Int) (w : World) (ba bb : Nat) (k : Nat) : Prop :=
  ∃ (A : Option Addr) (l : List Sn) (c e B : Nat), w.cell? ⟨ba, k, none⟩ = some (.slice A l.length c) ∧ w.cell? ⟨bb, k, none⟩ = some (.bool !decide (e = 0)) ∧ RdS w B A l ∧ B ≤ w.heap.size ∧ RunIs p per e l
theorem below_undrewR {w w1 : World} (h : Below w.drew.heap.size w.drew w1) : Below w.heap.size w w1 := ((Below.refl _ _).drew).trans h
set_option maxHeartbeats 8000000 in
theorem arun_main (A A' : Option Addr) (c c' : Nat) (p : List Pk) (per : Int) (ns : List Int) (S : Nat → Addr) (w : World) (h : RdP w w.heap.size A p) (h' : RdI w w.heap.size A' ns) (hS : All9 w w.heap.size S) (hfit : fitB p.length 80 = true) (h30 : ns.length ≤ 30) :
    Calls Tryd.prog 5 #[.slice A p.length c, .int .i64 per, .slice A' ns.length c'] w fun e w' => e = .returned (.bool true) ∧ Below w.heap.size w w' := by
  have hle : p.length ≤ 301 := by have := of_decide_eq_true hfit; omega
  have hl : p.length ≤ 9223372036854775807 := by omega
  have hl' : ns.length ≤ 9223372036854775807 := by omega
  have Hfit := Lib.hid hfit
  clear hfit
  go_enter Tryd.func5, Tryd.ntmps5
  go_wp2_with fail
  refine (audited_any S w hS).mono ?_
  rintro e w1 ⟨rfl, k1⟩
  go_wp2_with fail
  refine (fit_any A c p.length 80 _ hl).mono ?_
  rintro e wx ⟨rfl, rfl⟩
  rw [Hfit.out]
  go_wp2_with fail
  refine (ownPackets_any A c p w1 _ (h.below k1) (by omega)).mono ?_
  rintro e wo0 ⟨A2, c2, rfl, o2, ko0⟩
  have r2 := RdP.of_own o2
  have ko0' := k1.trans (ko0.mono k1.size)
  clear o2
  go_wp2_with fail
  refine (fifoV_any A2 c2 p per S wo0 _ (Nat.le_refl _) r2 (((hS.s.below ko0').more ko0'.size).sub (by simp)) hl).mono ?_
  rintro e wr0 ⟨B0, d0, v0, rfl, o2, e0, kr0⟩
  have s0 := RdS.of_own o2
  have kr0' := ko0'.trans (kr0.mono ko0'.size)
  obtain ⟨l0, hl0⟩ : ∃ l, l = fifoV p per := ⟨_, rfl⟩
  obtain ⟨n0, hn0⟩ : ∃ n, n = (lookErr p per).1 := ⟨_, rfl⟩
  have hi0 := fifo_is p per
  rw [← hl0, ← hn0] at hi0
  rw [← hl0] at s0 ⊢
  rw [← hn0] at e0
  have I0 := Lib.hid hi0
  have hq0 := e0.neq
  have hg0 := e0.guard
  have zk0 := kr0'.size
  clear o2 r2 hl0 hn0 hi0 e0
  go_wp2_with fail
  refine (ownPackets_any A c p wr0 _ (h.below kr0') (by omega)).mono ?_
  rintro e wo1 ⟨A2, c2, rfl, o2, ko1⟩
  have r2 := RdP.of_own o2
  have ko1' := kr0'.trans (ko1.mono kr0'.size)
  clear o2
  go_wp2_with fail
  refine (rankV_any A2 A' c2 c' p per ns S wo1 _ (Nat.le_refl _) r2 ((h'.below ko1').more ko1'.size) (((hS.s.below ko1').more ko1'.size).sub (by simp)) hl hl').mono ?_
  rintro e wr1 ⟨B1, d1, v1, rfl, o2, e1, kr1⟩
  have s1 := RdS.of_own o2
  have kr1' := ko1'.trans (kr1.mono ko1'.size)
  obtain ⟨l1, hl1⟩ : ∃ l, l = rankV p per ns := ⟨_, rfl⟩
  obtain ⟨n1, hn1⟩ : ∃ n, n = (rankErr p per ns 100).1 := ⟨_, rfl⟩
  have hi1 := rank_is p per ns
  rw [← hl1, ← hn1] at hi1
  rw [← hl1] at s1 ⊢
  rw [← hn1] at e1
  have I1 := Lib.hid hi1
  have hq1 := e1.neq
  have hg1 := e1.guard
  have zk1 := kr1'.size
  clear o2 r2 hl1 hn1 hi1 e1
  go_wp2_with fail
  refine (ownPackets_any A c p wr1 _ (h.below kr1') (by omega)).mono ?_
  rintro e wo2 ⟨A2, c2, rfl, o2, ko2⟩
  have r2 := RdP.of_own o2
  have ko2' := kr1'.trans (ko2.mono kr1'.size)
  clear o2
  go_wp2_with fail
  refine (dueV_any A2 A' c2 c' p per ns S wo2 _ (Nat.le_refl _) r2 ((h'.below ko2').more ko2'.size) (((hS.s.below ko2').more ko2'.size).sub (by simp)) hl hl').mono ?_
  rintro e wr2 ⟨B2, d2, v2, rfl, o2, e2, kr2⟩
  have s2 := RdS.of_own o2
  have kr2' := ko2'.trans (kr2.mono ko2'.size)
  obtain ⟨l2, hl2⟩ : ∃ l, l = dueV p per ns := ⟨_, rfl⟩
  obtain ⟨n2, hn2⟩ : ∃ n, n = (rankErr p per ns 1099511627776).1 := ⟨_, rfl⟩
  have hi2 := due_is p per ns
  rw [← hl2, ← hn2] at hi2
  rw [← hl2] at s2 ⊢
  rw [← hn2] at e2
  have I2 := Lib.hid hi2
  have hq2 := e2.neq
  have hg2 := e2.guard
  have zk2 := kr2'.size
  clear o2 r2 hl2 hn2 hi2 e2
  go_wp2_with fail
  refine (ownPackets_any A c p wr2 _ (h.below kr2') (by omega)).mono ?_
  rintro e wo3 ⟨A2, c2, rfl, o2, ko3⟩
  have r2 := RdP.of_own o2
  have ko3' := kr2'.trans (ko3.mono kr2'.size)
  clear o2
  go_wp2_with fail
  refine (roundV_any A2 A' c2 c' p per ns S wo3 _ (Nat.le_refl _) r2 ((h'.below ko3').more ko3'.size) (((hS.s.below ko3').more ko3'.size).sub (by simp)) hl hl').mono ?_
  rintro e wr3 ⟨B3, d3, v3, rfl, o2, e3, kr3⟩
  have s3 := RdS.of_own o2
  have kr3' := ko3'.trans (kr3.mono ko3'.size)
  obtain ⟨l3, hl3⟩ : ∃ l, l = roundV p per ns := ⟨_, rfl⟩
  obtain ⟨n3, hn3⟩ : ∃ n, n = (roundErr p per ns).1 := ⟨_, rfl⟩
  have hi3 := round_is p per ns
  rw [← hl3, ← hn3] at hi3
  rw [← hl3] at s3 ⊢
  rw [← hn3] at e3
  have I3 := Lib.hid hi3
  have hq3 := e3.neq
  have hg3 := e3.guard
  have zk3 := kr3'.size
  clear o2 r2 hl3 hn3 hi3 e3
  go_wp2_with fail
  refine (ownPackets_any A c p wr3 _ (h.below kr3') (by omega)).mono ?_
  rintro e wo4 ⟨A2, c2, rfl, o2, ko4⟩
  have r2 := RdP.of_own o2
  have ko4' := kr3'.trans (ko4.mono kr3'.size)
  clear o2
  go_wp2_with fail
  refine (fairRun_any (A := A2) (A' := A') (c := c2) (c' := c') (p := p) (per := per) (ws := ns) (S := S) (w := wo4) _ (Nat.le_refl _) r2 ((h'.below ko4').more ko4'.size) (((hS.s.below ko4').more ko4'.size).sub (by simp)) hl hl').mono ?_
  rintro e wr4 ⟨B4, d4, v4, rfl, o2, e4, kr4⟩
  have s4 := RdS.of_own o2
  have kr4' := ko4'.trans (kr4.mono ko4'.size)
  obtain ⟨l4, hl4⟩ : ∃ l, l = fairV p per ns := ⟨_, rfl⟩
  obtain ⟨n4, hn4⟩ : ∃ n, n = (fairErr p per ns).1 := ⟨_, rfl⟩
  have hi4 := fair_is p per ns
  rw [← hl4, ← hn4] at hi4
  rw [← hl4] at s4 ⊢
  rw [← hn4] at e4
  have I4 := Lib.hid hi4
  have hq4 := e4.neq
  have hg4 := e4.guard
  have zk4 := kr4'.size
  clear o2 r2 hl4 hn4 hi4 e4
  go_wp2_with fail
  go_region
  obtain ⟨X, hX⟩ : ∃ X : World, X = ((wr4.alloc (Obj.cells #[Value.slice B0 l0.length d0, Value.slice B1 l1.length d1, Value.slice B2 l2.length d2, Value.slice B3 l3.length d3, Value.slice B4 l4.length d4] 23)).alloc (Obj.cells #[Value.bool !decide (n0 = 0), Value.bool !decide (n1 = 0), Value.bool !decide (n2 = 0), Value.bool !decide (n3 = 0), Value.bool !decide (n4 = 0)] 4)).drew := ⟨_, rfl⟩
  rw [← hX]
  obtain ⟨ba, hba⟩ : ∃ ba, ba = wr4.heap.size := ⟨_, rfl⟩
  have kX : Below wr4.heap.size wr4 X := by rw [hX]; exact (((Below.refl _ _).alloc (Nat.le_refl _) _).alloc (le_alloc (Nat.le_refl _) _) _).drew
  have bA : Blk X ba 23 #[Value.slice B0 l0.length d0, Value.slice B1 l1.length d1, Value.slice B2 l2.length d2, Value.slice B3 l3.length d3, Value.slice B4 l4.length d4] := by rw [hX, hba]; exact (Blk.new wr4 _ _).alloc _
  have bB : Blk X (ba + 1) 4 #[Value.bool !decide (n0 = 0), Value.bool !decide (n1 = 0), Value.bool !decide (n2 = 0), Value.bool !decide (n3 = 0), Value.bool !decide (n4 = 0)] := by rw [hX, hba]; exact heap_alloc_new2 _ _ _
  have q4 : Below wr4.heap.size wr4 X := kX
  have q3 : Below wr3.heap.size wr3 X := ko4.trans ((kr4.mono ko4.size).trans (q4.mono (Nat.le_trans ko4.size kr4.size)))
  have q2 : Below wr2.heap.size wr2 X := ko3.trans ((kr3.mono ko3.size).trans (q3.mono (Nat.le_trans ko3.size kr3.size)))
  have q1 : Below wr1.heap.size wr1 X := ko2.trans ((kr2.mono ko2.size).trans (q2.mono (Nat.le_trans ko2.size kr2.size)))
  have q0 : Below wr0.heap.size wr0 X := ko1.trans ((kr1.mono ko1.size).trans (q1.mono (Nat.le_trans ko1.size kr1.size)))
  have kXw := kr4'.trans (kX.mono kr4'.size)
  have hat : ∀ k, k < 5 → RunAt p per X ba (ba + 1) k := fun k hk => match k, hk with
    | 0, _ => ⟨B0, l0, d0, n0, _, bA.cell 0, bB.cell 0, s0.below q0, q0.size, I0.out⟩
    | 1, _ => ⟨B1, l1, d1, n1, _, bA.cell 1, bB.cell 1, s1.below q1, q1.size, I1.out⟩
    | 2, _ => ⟨B2, l2, d2, n2, _, bA.cell 2, bB.cell 2, s2.below q2, q2.size, I2.out⟩
    | 3, _ => ⟨B3, l3, d3, n3, _, bA.cell 3, bB.cell 3, s3.below q3, q3.size, I3.out⟩
    | 4, _ => ⟨B4, l4, d4, n4, _, bA.cell 4, bB.cell 4, s4.below q4, q4.size, I4.out⟩
    | k + 5, hk => absurd hk (by omega)
  have Hat := Lib.hid hat
  have zX := kXw.size
  rw [← hba]
  clear hat hX hba bA bB q0 q1 q2 q3 q4 kX hq0 hq1 hq2 hq3 hq4 hg0 hg1 hg2 hg3 hg4 I0 I1 I2 I3 I4 s0 s1 s2 s3 s4
  clear ko0' kr0' ko1' kr1' ko2' kr2' ko3' kr3' ko4' kr4' zk0 zk1 zk2 zk3 zk4 ko0 kr0 ko1 kr1 ko2 kr2 ko3 kr3 ko4 kr4
  go_wp2_with fail
  go_loopw [20] (fun iv wr => ∃ k : Nat, k ≤ 5 ∧ iv = .int .i64 k ∧ Below X.heap.size X wr) (fun iv _ => 5 - (intOf iv).toNat)
  case atStart => exact ⟨0, Nat.zero_le _, rfl, Below.refl _ _⟩
  case round =>
    obtain ⟨k, hk, rfl, hbw⟩ := hrel
    have kw := kXw.trans (hbw.mono zX)
    have zw := hbw.size
    have zw' := kw.size
    by_cases hlt : k < 5
    · obtain ⟨A5, l5, c5, e5, BB, hc1, hc2, hr, hBB, hi⟩ := Hat.out k hlt
      have g1 : wr.cell? ⟨ba, k, none⟩ = some (.slice A5 l5.length c5) := (hbw.cell (p := ⟨ba, k, none⟩) (World.block_lt_of_cell? _ _ hc1)).trans hc1
      have g2 : wr.cell? ⟨ba + 1, k, none⟩ = some (.bool !decide (e5 = 0)) := (hbw.cell (p := ⟨ba + 1, k, none⟩) (World.block_lt_of_cell? _ _ hc2)).trans hc2
      have hr2 := (hr.below (hbw.mono hBB))
      have u1 : (k : Int) < 5 := by omega
      have u2 : (0 : Int) ≤ (k : Int) := by omega
      clear hc1 hc2 hr
      by_cases he : e5 = 0
      · rw [decide_eq_true he] at g2
        have g2' : wr.cell? ⟨ba + 1, k, none⟩ = some (.bool false) := g2
        have Hgood := Lib.hid (hi.good he)
        have Htm := Lib.hid hi.tame
        have hlen := hi.len
        clear hi g2 he
        go_wp2_with fail
        go_region_held3 (fun w' => w'.cell? ⟨ba, k, none⟩ = some (.slice A5 l5.length c5))
          (first
            | go_keep
            | exact (k678.cell (p := ⟨ba, k, none⟩) gl).trans g1
            | exact (k67.cell (p := ⟨ba, k, none⟩) gl).trans g1
            | exact (k6.cell (p := ⟨ba, k, none⟩) gl).trans g1)
          (first
           | (go_at_call 21; refine (ownPackets_any A c p wr.drew w.heap.size (h.below kw.drew) (by omega)).mono ?_; rintro e w6 ⟨A6, c6, rfl, o6, k6d⟩; have k6 := below_undrewR k6d; have gl := World.block_lt_of_cell? _ _ g1)
           | (go_at_call 15; refine (ownSent_any A5 c5 l5 w6 BB (hr2.below (k6.mono (Nat.le_trans hBB zw))) (by omega)).mono ?_; rintro e w7 ⟨A7, c7, rfl, o7, k7⟩; have k67 := k6.trans (k7.mono k6.size))
           | (go_at_call 20; refine (audCheck_any A6 A7 c6 c7 p per l5 S w7 w7.heap.size (Nat.le_refl _) (((RdP.of_own o6).below k7).more k7.size) (RdS.of_own o7) (((hS.s.below (kw.trans (k67.mono zw'))).more (kw.trans (k67.mono zw')).size).sub (by simp)) hl (by omega) Htm.out).mono ?_; rintro e w8 ⟨v8, rfl, e8, k8⟩; have k678 := k67.trans (k8.mono k67.size); obtain rfl := e8.nil_of (by rw [Hgood.out])))
        all_goals
          go_wp2_with fail
          go_roundw
          case rel => exact ⟨k + 1, hlt, by go_num, hbw.trans (k678.mono zw)⟩
          case measure => simp [intOf]; omega
      · obtain rfl := hi.bad he
        rw [decide_eq_false he] at g2
        have g2' : wr.cell? ⟨ba + 1, k, none⟩ = some (.bool true) := g2
        clear hi g2 he
        go_wp2_with fail
        go_roundw
        case rel => exact ⟨k + 1, hlt, by go_num, hbw⟩
        case measure => simp [intOf]; omega
    · go_wp2_with fail
      go_ret
      exact ⟨rfl, kw⟩
set_option maxHeartbeats 1000000 in
theorem auditRuns_any (A : Option Addr) (c : Nat) (p : List Pk) (per : Int) (A' : Option Addr) (c' : Nat) (ns : List Int) (S : Nat → Addr) (w : World) (h : RdP w w.heap.size A p) (h' : RdI w w.heap.size A' ns) (hS : All9 w w.heap.size S) (hl : p.length ≤ 9223372036854775807) (hl' : ns.length ≤ 9223372036854775807) :
    Calls Tryd.prog 5 #[.slice A p.length c, .int .i64 per, .slice A' ns.length c'] w fun e w' => e = .returned (.bool true) ∧ Below w.heap.size w w' := by
  cases hfit : fitB p.length 80
  · have Hfit := Lib.hid hfit
    clear hfit
    go_enter Tryd.func5, Tryd.ntmps5
    go_wp2_with fail
    refine (audited_any S w hS).mono ?_
    rintro e w1 ⟨rfl, k1⟩
    go_wp2_with fail
    refine (fit_any A c p.length 80 _ hl).mono ?_
    rintro e wx ⟨rfl, rfl⟩
    rw [Hfit.out]
    go_wp2_with fail
    go_ret
    exact ⟨rfl, k1⟩
  · by_cases h30 : ns.length ≤ 30
    · exact arun_main A A' c c' p per ns S w h h' hS hfit h30
    · have Hfit := Lib.hid hfit
      have h31 : (30 : Int) < (ns.length : Int) := by omega
      clear hfit h30
      go_enter Tryd.func5, Tryd.ntmps5
      go_wp2_with fail
      refine (audited_any S w hS).mono ?_
      rintro e w1 ⟨rfl, k1⟩
      go_wp2_with fail
      refine (fit_any A c p.length 80 _ hl).mono ?_
      rintro e wx ⟨rfl, rfl⟩
      rw [Hfit.out]
      go_wp2_with fail
      go_ret
      exact ⟨rfl, k1⟩
end Go.Proofs.YthgpbdlmadjndaaDoor
