/- What links send, by kinds, whatever is handed in; errors against nil. Conditions: the lists fit memory; the sentinels that are named lie in their variables. The kinds of links, plainly: their errors, what they send, and what holds of all of them. No program in sight. -/
import Derived.Test.YtoomffajodheaaaGreatDoorQAudR
import Derived.Test.YtoomffajodheaaaGreatDoorQMiscM
import Derived.Test.YtoomffajodheaaaGreatDoorQRkM
import Derived.Test.YtoomffajodheaaaGreatDoorQRdM
import Derived.Test.YtoomffajodheaaaGreatDoorQFrC
import Derived.Test.YtoomffajodheaaaGreatDoorQBsM
set_option linter.all false
namespace Go.Proofs.YtoomffajodheaaaGreatDoor
open Go.RowKit
set_option maxRecDepth 100000
theorem serve_tame {σ : Type} {M : Pol σ} {p : List Pk} {per : Int} {s0 : σ} (hM : PolOk M p.length) (hp : ∀ x ∈ p, okPk x) (h0 : 1 ≤ per) (h1 : per ≤ 1000) (h300 : p.length ≤ 300) (hw0 : M.wait s0 = []) (ho : M.ok 0 s0) : ∀ x ∈ (serveS M p per s0).out, tame50 x.f := by
  have hJ := run_ind hM hp h0 h1 (fun t => ∀ x ∈ t.out, tame50 x.f) (fun t hi hl hj => by
    cases hq : comeL M t.now (p.drop t.next) t.next t.s with
    | mk k s =>
      cases hpk : M.pick s with
      | none => rw [step_none hq hpk]; exact hj
      | some ks =>
        obtain ⟨j, s'⟩ := ks
        rw [step_some hq hpk]
        intro x hx
        rcases List.mem_append.1 hx with hx | hx
        · exact hj x hx
        · rw [List.mem_singleton.1 hx]
          have a1 := hi.now0
          have a2 := hi.now1
          unfold tame50
          simp only
          omega) (2 * p.length + 1) _ (inv_start p hw0 ho) (by simp)
  exact hJ
/-- What a run of a link answers, for the law. -/
structure RunIs (p : List Pk) (per : Int) (k : Nat) (l : List Sn) : Prop where
  bad : k ≠ 0 → l = []
  len : l.length ≤ 300
  tame : ∀ x ∈ l, tame50 x.f
  good : k = 0 → audErr p per l = (0, -1)
section
variable {p : List Pk} {per : Int}
theorem RunIs.nil {k : Nat} (h : k ≠ 0) : RunIs p per k [] := ⟨fun _ => rfl, by simp, by simp, fun h' => absurd h' h⟩
theorem RunIs.serve {σ : Type} {M : Pol σ} {s0 : σ} {k : Nat} (hk : k = 0) (hlk : (lookErr p per).1 = 0) (hM : PolOk M p.length) (hT : TurnOk M p) (hw0 : M.wait s0 = []) (ho : M.ok 0 s0) : RunIs p per k (serveS M p per s0).out := by
  obtain ⟨hf, h300, hpk, h0, h1⟩ := lookErr_ok hlk
  refine ⟨fun h => absurd hk h, ?_, serve_tame hM hpk h0 h1 h300 hw0 ho, fun _ => ?_⟩
  · rw [(srv_perm hM hpk h0 h1 hw0 ho).1]; exact h300
  · unfold audErr
    rw [if_neg (by omega)]
    exact serve_audit hM hT hpk (lookErr_sorted hlk) h0 h1 hw0 ho
end
def rankV (p : List Pk) (per : Int) (ns : List Int) : List Sn := if (rankErr p per ns 100).1 = 0 then leastL p per (rankKey p ns) else []
def dueV (p : List Pk) (per : Int) (ns : List Int) : List Sn := if (rankErr p per ns 1099511627776).1 = 0 then leastL p per (dueKey p ns) else []
def roundV (p : List Pk) (per : Int) (ns : List Int) : List Sn := if (roundErr p per ns).1 = 0 then roundL p per ns else []
section
variable (A A' : Option Addr) (c c' : Nat) (p : List Pk) (per : Int) (ns : List Int) (S : Nat → Addr) (w : World) (B : Nat) (hB : B ≤ w.heap.size) (h : RdP w B A p) (h' : RdI w B A' ns) (hS : Snt w B S [2, 3, 5]) (hl : p.length ≤ 9223372036854775807) (hl' : ns.length ≤ 9223372036854775807)
include hB h h' hS hl hl'
theorem rankV_any : Calls Tryz.prog 146 #[.slice A p.length c, .int .i64 per, .slice A' ns.length c'] w (EndOwnEr Sn.cs 3 64 (rankV p per ns) S (rankErr p per ns 100).1 (rankErr p per ns 100).2 w) := by
  unfold rankV
  by_cases hk : (rankErr p per ns 100).1 = 0
  · rw [if_pos hk]; exact rankRun_ok A A' c c' p per ns S w B hB h h' hS hl hl' hk
  · rw [if_neg hk]; exact rankRun_bad A A' c c' p per ns S w B hB h h' hS hl hl' hk
theorem dueV_any : Calls Tryz.prog 147 #[.slice A p.length c, .int .i64 per, .slice A' ns.length c'] w (EndOwnEr Sn.cs 3 64 (dueV p per ns) S (rankErr p per ns 1099511627776).1 (rankErr p per ns 1099511627776).2 w) := by
  unfold dueV
  by_cases hk : (rankErr p per ns 1099511627776).1 = 0
  · rw [if_pos hk]; exact rankDue_ok A A' c c' p per ns S w B hB h h' hS hl hl' hk
  · rw [if_neg hk]; exact rankDue_bad A A' c c' p per ns S w B hB h h' hS hl hl' hk
theorem roundV_any : Calls Tryz.prog 148 #[.slice A p.length c, .int .i64 per, .slice A' ns.length c'] w (EndOwnEr Sn.cs 3 64 (roundV p per ns) S (roundErr p per ns).1 (roundErr p per ns).2 w) := by
  unfold roundV
  by_cases hk : (roundErr p per ns).1 = 0
  · rw [if_pos hk]; exact roundRun_ok A A' c c' p per ns S w B hB h h' hS hl hl' hk
  · rw [if_neg hk]; exact roundRun_bad A A' c c' p per ns S w B hB h h' hS hl hl' hk
end
/-- An error against nil. -/
theorem Er.neq {w : World} {B : Nat} {S : Nat → Addr} {v : Value} {k : Nat} {a : Int} (h : Er w B S v k a) (w' : World) : (binOp .neq 34 v .nilIface).run Tryz.prog w' = .ok (.bool (decide (k ≠ 0))) w' := by
  by_cases hk : k = 0
  · subst hk
    obtain rfl := h.nil_of rfl
    kernel_rfl
  · obtain ⟨T, a, rfl⟩ := h.some_of hk
    rw [decide_eq_true hk]
    rfl
theorem Er.guard {w : World} {B : Nat} {S : Nat → Addr} {v : Value} {k : Nat} {a : Int} (h : Er w B S v k a) (x : Operand) (w' : World) : (eqGuard .neq 34 x (.const .nilIface) v .nilIface).run Tryz.prog w' = .ok () w' := by
  by_cases hk : k = 0
  · subst hk
    obtain rfl := h.nil_of rfl
    cases x <;> rfl
  · obtain ⟨T, a, rfl⟩ := h.some_of hk
    rfl
theorem below_undrewR {w w1 : World} (h : Below w.drew.heap.size w.drew w1) : Below w.heap.size w w1 := ((Below.refl _ _).drew).trans h
end Go.Proofs.YtoomffajodheaaaGreatDoor
namespace Go.Proofs.YtoomffajodheaaaGreatDoor
/-- Kinds: 0 fifo, 1 rank, 2 due, 3 round, 4 fair; else none. -/
def linkErr (n : Nat) (p : List Pk) (per : Int) (ns : List Int) : Nat × Int :=
  match n with
  | 0 => if (lookErr p per).1 ≠ 0 then lookErr p per else if 0 < ns.length then (3, -1) else (0, -1)
  | 1 => rankErr p per ns 100
  | 2 => rankErr p per ns 1099511627776
  | 3 => roundErr p per ns
  | 4 => fairErr p per ns
  | _ => (9, -1)
def linkV (n : Nat) (p : List Pk) (per : Int) (ns : List Int) : List Sn :=
  match n with
  | 0 => if (linkErr 0 p per ns).1 = 0 then fifoL p per else []
  | 1 => rankV p per ns
  | 2 => dueV p per ns
  | 3 => roundV p per ns
  | 4 => fairV p per ns
  | _ => []
theorem linkV_bad {n : Nat} {p : List Pk} {per : Int} {ns : List Int} (h : (linkErr n p per ns).1 ≠ 0) : linkV n p per ns = [] := by
  match n, h with
  | 0, h => exact if_neg h
  | 1, h => exact if_neg h
  | 2, h => exact if_neg h
  | 3, h => exact if_neg h
  | 4, h => exact if_neg h
  | n + 5, h => rfl
/-- What a link sends, whatever its kind. -/
structure LinkIs (p : List Pk) (per : Int) (l : List Sn) : Prop where
  look : (lookErr p per).1 = 0
  len : l.length = p.length
  nd : (l.map fun x => x.p.toNat).Nodup
  each : ∀ x ∈ l, 0 ≤ x.p ∧ x.p.toNat < p.length ∧ aOf p x.p.toNat ≤ x.f ∧ x.t = x.f + per * sOf p x.p.toNat
  tame : ∀ x ∈ l, tame50 x.f
  tame' : ∀ x ∈ l, tame50 x.t
  aud : audErr p per l = (0, -1)
  busy : busyL l = kL per p
theorem auGo_each {p : List Pk} {per : Int} (l : List Sn) (d : Nat → Bool) (tq : Int) (i : Nat) (h : auGo p per d tq l i = (0, -1)) : ∀ x ∈ l, aOf p x.p.toNat ≤ x.f ∧ x.t = x.f + per * sOf p x.p.toNat := by
  induction l generalizing d tq i with
  | nil => simp
  | cons x r ih =>
    unfold auGo at h
    by_cases h1 : auErr p per d tq x ≠ 0
    · rw [if_pos h1] at h
      simp only [Prod.mk.injEq] at h
      exact absurd h.1 h1
    · rw [if_neg h1] at h
      intro y hy
      rcases List.mem_cons.1 hy with rfl | hy
      · have h2 : auErr p per d tq y = 0 := by omega
        unfold auErr at h2
        split at h2
        · simp at h2
        · split at h2
          · simp at h2
          · split at h2
            · simp at h2
            · rename_i a b c
              exact ⟨by omega, by omega⟩
      · exact ih _ _ _ h y hy
theorem serve_tame' {σ : Type} {M : Pol σ} {p : List Pk} {per : Int} {s0 : σ} (hM : PolOk M p.length) (hp : ∀ x ∈ p, okPk x) (h0 : 1 ≤ per) (h1 : per ≤ 1000) (h300 : p.length ≤ 300) (hw0 : M.wait s0 = []) (ho : M.ok 0 s0) : ∀ x ∈ (serveS M p per s0).out, tame50 x.t := by
  have hJ := run_ind hM hp h0 h1 (fun t => ∀ x ∈ t.out, tame50 x.t) (fun t hi hl hj => by
    obtain ⟨hc, -⟩ := comeL_inv hM t.now (p.drop t.next) t.next t.s rfl hi.toC
    cases hq : comeL M t.now (p.drop t.next) t.next t.s with
    | mk k s =>
      rw [hq] at hc
      cases hpk : M.pick s with
      | none => rw [step_none hq hpk]; exact hj
      | some ks =>
        obtain ⟨j, s'⟩ := ks
        have hjk : j < k := hc.pick_lt hM hpk
        have hjl : j < p.length := Nat.lt_of_lt_of_le hjk hc.k_le
        rw [step_some hq hpk]
        intro x hx
        rcases List.mem_append.1 hx with hx | hx
        · exact hj x hx
        · rw [List.mem_singleton.1 hx]
          have a1 := hi.now0
          have a2 := hi.now1
          have hok := hp _ (List.getElem_mem hjl)
          have e1 := sOf_of hjl
          have m1 : 0 ≤ per * sOf p j := Int.mul_nonneg (by omega) (by rw [e1]; have := hok.2.2.1; omega)
          have m2 : per * sOf p j ≤ 1500000 := by
            have := Int.mul_le_mul h1 (by rw [e1]; exact hok.2.2.2.1 : sOf p j ≤ 1500) (by rw [e1]; have := hok.2.2.1; omega) (by omega : (0:Int) ≤ 1000)
            omega
          unfold tame50
          simp only
          omega) (2 * p.length + 1) _ (inv_start p hw0 ho) (by simp)
  exact hJ
theorem LinkIs.serve {σ : Type} {M : Pol σ} {p : List Pk} {per : Int} {s0 : σ} (hlk : (lookErr p per).1 = 0) (hM : PolOk M p.length) (hT : TurnOk M p) (hw0 : M.wait s0 = []) (ho : M.ok 0 s0) : LinkIs p per (serveS M p per s0).out := by
  obtain ⟨hf, h300, hpk, h0, h1⟩ := lookErr_ok hlk
  have hso := lookErr_sorted hlk
  obtain ⟨q1, q2, q3, q4⟩ := srv_perm hM hpk h0 h1 hw0 ho
  have ha : audErr p per (serveS M p per s0).out = (0, -1) := by
    unfold audErr
    rw [if_neg (by omega)]
    exact serve_audit hM hT hpk hso h0 h1 hw0 ho
  have ha2 := ha
  unfold audErr at ha2
  rw [if_neg (by omega)] at ha2
  refine ⟨hlk, q1, q4, fun x hx => ?_, serve_tame hM hpk h0 h1 h300 hw0 ho, serve_tame' hM hpk h0 h1 h300 hw0 ho, ha, kleinrock hM hpk (fun i j hij hj => ?_) h0 h1 hw0 ho⟩
  · obtain ⟨a1, a2⟩ := auGo_each _ _ _ _ ha2 x hx
    exact ⟨q2 x hx, q3 x hx, a1, a2⟩
  · exact aOf_mono hso hij hj
theorem link_is {n : Nat} {p : List Pk} {per : Int} {ns : List Int} (h : (linkErr n p per ns).1 = 0) : LinkIs p per (linkV n p per ns) := by
  match n, h with
  | 0, h =>
    have hlk : (lookErr p per).1 = 0 := by
      unfold linkErr at h
      by_cases h1 : (lookErr p per).1 ≠ 0
      · rw [if_pos h1] at h; exact h
      · omega
    rw [show linkV 0 p per ns = fifoL p per from if_pos h]
    exact LinkIs.serve hlk (fifoOk _) (fifo_turn p) rfl ⟨rfl, Nat.le_refl _⟩
  | 1, h =>
    rw [show linkV 1 p per ns = leastL p per (rankKey p ns) from if_pos h]
    exact LinkIs.serve (rankErr_ok h).1 (leastOk _ _) (least_turn fun i j _ _ hf => by unfold rankKey; rw [hf]; exact Int.le_refl _) rfl ⟨by simp, List.Pairwise.nil⟩
  | 2, h =>
    rw [show linkV 2 p per ns = leastL p per (dueKey p ns) from if_pos h]
    have hlk := (rankErr_ok h).1
    exact LinkIs.serve hlk (leastOk _ _) (least_turn fun i j hij hj hf => by
      unfold dueKey
      rw [hf]
      have := aOf_mono (lookErr_sorted hlk) (Nat.le_of_lt hij) hj
      omega) rfl ⟨by simp, List.Pairwise.nil⟩
  | 3, h =>
    have h' : (roundErr p per ns).1 = 0 := h
    rw [show linkV 3 p per ns = roundL p per ns from if_pos h]
    obtain ⟨hlk, _, h8, hn, _⟩ := roundErr_ok h'
    obtain ⟨hf, h300, hpk, h0, h1⟩ := lookErr_ok hlk
    have hq1 : ∀ g, g < 8 → 1 ≤ qu ns g := fun g hg => by
      unfold qu
      have hgl : g < ns.length := by omega
      simp only [List.getD, List.getElem?_eq_getElem hgl, Option.getD_some]
      exact (hn _ (List.getElem_mem hgl)).1
    have hq : ∀ g, 0 ≤ qu ns g := fun g => by
      by_cases hg : g < 8
      · have := hq1 g hg; omega
      · unfold qu
        simp only [List.getD, List.getElem?_eq_none (show ns.length ≤ g by omega), Option.getD_none]
        omega
    exact LinkIs.serve hlk (roundOk hpk hq hq1) (round_turn hpk hq) rs0_wait (rs0_ok p ns)
  | 4, h =>
    have h' : (fairErr p per ns).1 = 0 := h
    rw [show linkV 4 p per ns = fairL p per ns from if_pos h]
    obtain ⟨hlk, _, h8, hn, _⟩ := fairErr_ok h'
    obtain ⟨hf, h300, hpk, h0, h1⟩ := lookErr_ok hlk
    have hw := wOk_of h8 (weIdx_none hn)
    exact LinkIs.serve hlk (fairOk hpk hw) (fair_turn hpk hw) rfl (fs0_ok p ns)
  | n + 5, h => simp [linkErr] at h
/-- The error of no packets tells the error of right ones. -/
theorem link_same {n : Nat} {p : List Pk} {per : Int} {ns : List Int} (hp : (pktErr p).1 = 0) : linkErr n p per ns = linkErr n [] per ns := by
  have e1 := pktErr_nil hp
  have e2 : lookErr p per = lookErr [] per := by
    unfold lookErr
    rw [e1, show pktErr [] = (0, -1) from rfl]
  match n with
  | 0 =>
    show (if (lookErr p per).1 ≠ 0 then lookErr p per else if 0 < ns.length then (3, -1) else (0, -1)) = (if (lookErr [] per).1 ≠ 0 then lookErr [] per else if 0 < ns.length then (3, -1) else (0, -1) : Nat × Int)
    rw [e2]
  | 1 => show rankErr _ _ _ _ = rankErr _ _ _ _; unfold rankErr; rw [e2]
  | 2 => show rankErr _ _ _ _ = rankErr _ _ _ _; unfold rankErr; rw [e2]
  | 3 => show roundErr _ _ _ = roundErr _ _ _; unfold roundErr; rw [e2]
  | 4 => show fairErr _ _ _ = fairErr _ _ _; unfold fairErr; rw [e2]
  | n + 5 => rfl
theorem link_snd {n : Nat} {per : Int} {ns : List Int} : (linkErr n [] per ns).2 = -1 := by
  have e1 : (lookErr [] per).2 = -1 := by
    unfold lookErr
    rw [show pktErr [] = (0, -1) from rfl]
    split
    · rfl
    · split <;> rfl
  match n with
  | 0 =>
    show (if (lookErr [] per).1 ≠ 0 then lookErr [] per else if 0 < ns.length then (3, -1) else (0, -1) : Nat × Int).2 = -1
    split
    · exact e1
    · split <;> rfl
  | 1 => show (rankErr _ _ _ _).2 = _; unfold rankErr; split; rfl; exact e1
  | 2 => show (rankErr _ _ _ _).2 = _; unfold rankErr; split; rfl; exact e1
  | 3 => show (roundErr _ _ _).2 = _; unfold roundErr; split; rfl; exact e1
  | 4 => show (fairErr _ _ _).2 = _; unfold fairErr; split; rfl; exact e1
  | n + 5 => rfl
end Go.Proofs.YtoomffajodheaaaGreatDoor
