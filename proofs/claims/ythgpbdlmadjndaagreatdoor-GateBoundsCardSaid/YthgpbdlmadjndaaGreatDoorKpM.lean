/- CRUZ at a link, plainly: packets that fit a curve wait no longer than its bounds tell. No program in sight. GateKeeps, plainly: what left the shapers fits all curves together; no packet is longer at the link than the bound. No program in sight. gate.Bound. Conditions: as for a gate in memory. (Printed by genbound.py.) -/
import Derived.Test.YthgpbdlmadjndaaGreatDoorBsM
import Derived.Test.YthgpbdlmadjndaaGreatDoorGrM
import Derived.Test.YthgpbdlmadjndaaGreatDoorDlB
import Derived.Test.YthgpbdlmadjndaaGreatDoorSuM
import Derived.Test.YthgpbdlmadjndaaGreatDoorGtM
namespace Go.Proofs.YthgpbdlmadjndaaGreatDoor
/-- Bytes of the packets from i on, below k. -/
def sumR (p : List Pk) (i : Nat) : Nat → Int
  | 0 => 0
  | k + 1 => if i ≤ k then sumR p i k + sOf p k else 0
/-- Packets fit what a curve tells. -/
def FitsV (p : List Pk) (V : Int → Int) : Prop := ∀ i k, i ≤ k → k < p.length → sumR p i (k + 1) ≤ V (aOf p k - aOf p i)
theorem sumR_self (p : List Pk) (k : Nat) : sumR p k k = 0 := by
  cases k with
  | zero => rfl
  | succ k => exact if_neg (by omega)
theorem sumR_succ {p : List Pk} {i k : Nat} (h : i ≤ k) : sumR p i (k + 1) = sumR p i k + sOf p k := if_pos h
section
variable {p : List Pk} {per : Int} {V : Int → Int}
theorem lind_delay (hp : ∀ x ∈ p, okPk x) (h0 : 1 ≤ per) (hF : FitsV p V) {D : Int} (hD : ∀ t, 0 ≤ t → per * V t - t ≤ D) (hs : ∀ i j, i ≤ j → j < p.length → aOf p i ≤ aOf p j) :
    ∀ (r : List Pk) (k : Nat) (tq : Int), p.drop k = r → (k = 0 ∧ tq = 0 ∨ ∃ i, i < k ∧ tq = aOf p i + per * sumR p i k) → ∀ x ∈ lindL per tq k r, x.t - aOf p x.p.toNat ≤ D := by
  intro r
  induction r with
  | nil => intro k tq _ _ x hx; cases hx
  | cons y r ih =>
    intro k tq hr hto
    have hkl : k < p.length := by
      have := congrArg List.length hr
      simp at this
      omega
    have hd := List.drop_eq_getElem_cons hkl
    rw [hr] at hd
    injection hd with hy hr'
    have ea : aOf p k = y.a := by rw [aOf_of hkl, ← hy]
    have es : sOf p k = y.s := by rw [sOf_of hkl, ← hy]
    have ha0 : 0 ≤ y.a := by rw [hy]; exact (hp _ (List.getElem_mem hkl)).2.2.2.2.1
    have key : ∃ i, i < k + 1 ∧ (if tq < y.a then y.a else tq) + per * y.s = aOf p i + per * sumR p i (k + 1) := by
      by_cases h1 : tq < y.a
      · refine ⟨k, Nat.lt_succ_self _, ?_⟩
        rw [if_pos h1, sumR_succ (Nat.le_refl _), sumR_self, ea, es, Int.zero_add]
      · rw [if_neg h1]
        rcases hto with ⟨rfl, rfl⟩ | ⟨i, hi, e⟩
        · refine ⟨0, Nat.lt_succ_self _, ?_⟩
          rw [sumR_succ (Nat.le_refl _), sumR_self, ea, es, Int.zero_add, Int.zero_add]
          omega
        · refine ⟨i, by omega, ?_⟩
          rw [sumR_succ (by omega), Int.mul_add, es]
          omega
    unfold lindL
    intro x hx
    rcases List.mem_cons.1 hx with rfl | hx
    · obtain ⟨i, hi, e⟩ := key
      simp only [Int.toNat_natCast]
      rw [e]
      have hf := hF i k (by omega) hkl
      have hle := hs i k (by omega) hkl
      have := hD (aOf p k - aOf p i) (by omega)
      have hm := Int.mul_le_mul_of_nonneg_left hf (show 0 ≤ per by omega)
      omega
    · exact ih (k + 1) _ hr'.symm (.inr key) x hx
theorem fifo_delay (hp : ∀ x ∈ p, okPk x) (h0 : 1 ≤ per) (h1 : per ≤ 1000) (hF : FitsV p V) {D : Int} (hD : ∀ t, 0 ≤ t → per * V t - t ≤ D) (hs : ∀ i j, i ≤ j → j < p.length → aOf p i ≤ aOf p j) : ∀ x ∈ fifoL p per, x.t - aOf p x.p.toNat ≤ D := by
  rw [fifoL_eq hp h0 h1]
  exact lind_delay hp h0 hF hD hs p 0 0 rfl (.inl ⟨rfl, rfl⟩)
/-- No busy stretch is longer than what the curve tells. -/
theorem kL_short (hp : ∀ x ∈ p, okPk x) (h0 : 1 ≤ per) (hF : FitsV p V) (hs : ∀ i j, i ≤ j → j < p.length → aOf p i ≤ aOf p j) {B : Int} (hB : per * V B ≤ B) (hB0 : 0 ≤ B) (hV : ∀ s t, 0 ≤ s → s ≤ t → V s ≤ V t) (k : Nat) (hk : k ≤ p.length) :
    kL per (p.take k) = [] ∧ k = 0 ∨ ∃ C b e i, kL per (p.take k) = C ++ [⟨b, e⟩] ∧ i < k ∧ b = aOf p i ∧ e = b + per * sumR p i k ∧ e - b ≤ B := by
  induction k with
  | zero => exact .inl ⟨rfl, rfl⟩
  | succ k ih =>
    have hkl : k < p.length := hk
    have hw : ∀ i, i ≤ k → aOf p k - aOf p i ≤ B → per * sumR p i (k + 1) ≤ B := fun i hi h9 => by
      have hf := hF i k hi hkl
      have hle := hs i k hi hkl
      have hv := hV (aOf p k - aOf p i) B (by omega) h9
      have := Int.mul_le_mul_of_nonneg_left (Int.le_trans hf hv) (show 0 ≤ per by omega)
      omega
    have fresh : (kL per (p.take k) = [] ∨ ∃ C y, kL per (p.take k) = C ++ [y] ∧ y.r < p[k].a) → ∃ C b e i, kL per (p.take (k + 1)) = C ++ [⟨b, e⟩] ∧ i < k + 1 ∧ b = aOf p i ∧ e = b + per * sumR p i (k + 1) ∧ e - b ≤ B := fun h => by
      have hz := hw k (Nat.le_refl _) (by omega)
      have hz1 : sumR p k (k + 1) = sOf p k := by rw [sumR_succ (Nat.le_refl _), sumR_self, Int.zero_add]
      rw [hz1] at hz
      refine ⟨kL per (p.take k), p[k].a, p[k].a + per * p[k].s, k, ?_, Nat.lt_succ_self _, (aOf_of hkl).symm, ?_, ?_⟩
      · rw [kL_succ hkl, kStep_out _ _ h]
      · rw [hz1, sOf_of hkl]
      · rw [← sOf_of hkl]; omega
    right
    rcases ih (by omega) with ⟨e1, -⟩ | ⟨C, b, e, i, e1, e2, e3, e4, e5⟩
    · exact fresh (.inl e1)
    · by_cases hc : p[k].a ≤ e
      · have hz := hw i (by omega) (by rw [aOf_of hkl]; omega)
        refine ⟨C, b, e + per * p[k].s, i, ?_, by omega, e3, ?_, ?_⟩
        · rw [kL_succ hkl, e1, kStep_in C b e _ hc]
        · rw [sumR_succ (by omega), Int.mul_add, sOf_of hkl]; omega
        · rw [sumR_succ (by omega), Int.mul_add, sOf_of hkl] at hz; omega
      · exact fresh (.inr ⟨C, _, e1, by show e < _; omega⟩)
theorem comeL_wait {σ : Type} {M : Pol σ} (hM : PolOk M p.length) {out : List Sn} (now : Int) (r : List Pk) (k : Nat) (s : σ) (hr : p.drop k = r) (h : InvC M p out k s) : ∀ j ∈ M.wait (comeL M now r k s).2, j ∈ M.wait s ∨ k ≤ j := by
  induction r generalizing k s with
  | nil => exact fun j hj => .inl hj
  | cons x r ih =>
    have hkl : k < p.length := by
      have := congrArg List.length hr
      simp at this
      omega
    have hd := List.drop_eq_getElem_cons hkl
    rw [hr] at hd
    injection hd with hx hr'
    unfold comeL
    by_cases hc : x.a ≤ now
    · rw [if_pos hc]
      intro j hj
      rcases ih (k + 1) (M.come s k) hr'.symm (h.come hM hkl) j hj with h9 | h9
      · rcases List.mem_cons.1 ((hM.w_come s k h.ok hkl).mem_iff.1 h9) with rfl | h8
        · exact .inr (Nat.le_refl _)
        · exact .inl h8
      · exact .inr (by omega)
    · rw [if_neg hc]
      exact fun j hj => .inl hj
/-- Those that wait have come since the link is busy; nobody has waited for longer than the bound. -/
def KB {σ : Type} (M : Pol σ) (p : List Pk) (per B : Int) (t : St σ) : Prop :=
  KJ M p per t ∧ (∀ C y, kL per (p.take t.next) = C ++ [y] → ∀ j ∈ M.wait t.s, y.b ≤ aOf p j) ∧ ∀ x ∈ t.out, x.t - aOf p x.p.toNat ≤ B
theorem kb_step {σ : Type} {M : Pol σ} (hM : PolOk M p.length) (hp : ∀ x ∈ p, okPk x) (hs : ∀ i j, i ≤ j → j < p.length → aOf p i ≤ aOf p j) (h0 : 1 ≤ per) (hF : FitsV p V) {B : Int} (hB : per * V B ≤ B) (hB0 : 0 ≤ B) (hV : ∀ s t, 0 ≤ s → s ≤ t → V s ≤ V t)
    (t : St σ) (h : Inv M p t) (hlt : t.out.length < p.length) (hj : KB M p per B t) : KB M p per B (stepS M p per t) := by
  obtain ⟨hkj, hwj, hdj⟩ := hj
  refine ⟨kj_step hM hp hs h0 t h hlt hkj, ?_⟩
  obtain ⟨hc, -⟩ := comeL_inv hM t.now (p.drop t.next) t.next t.s rfl h.toC
  have hcw := comeL_wait hM t.now (p.drop t.next) t.next t.s rfl h.toC
  -- those that wait when one is picked
  have hww : ∀ C y, kL per (p.take (comeL M t.now (p.drop t.next) t.next t.s).1) = C ++ [y] → ∀ j ∈ M.wait (comeL M t.now (p.drop t.next) t.next t.s).2, y.b ≤ aOf p j := by
    intro C y hk j hjm
    have hjl : j < p.length := Nat.lt_of_lt_of_le (hc.wait_lt hjm) hc.k_le
    rcases hkj with ⟨j1, j2, j3, j4⟩ | ⟨C', b, j1, j2⟩
    · have hjn : t.next ≤ j := by
        rcases hcw j hjm with h9 | h9
        · rw [j1] at h9; cases h9
        · exact h9
      rcases comeL_idle hM hp h0 t.now t.next t.s h.toC j1 j3 j4 with ⟨e1, e2⟩ | ⟨e0, e⟩
      · rw [e2, j1] at hjm; cases hjm
      · rw [e] at hk
        have := List.append_inj' hk rfl
        have hy := List.singleton_inj.1 this.2
        rw [← hy]
        exact j4 j hjn hjl
    · have e := comeL_busy hM hp h0 t.now b C' _ t.next t.s rfl h.toC j2
      rw [e] at hk
      have := List.append_inj' hk rfl
      have hy := List.singleton_inj.1 this.2
      rw [← hy]
      rcases hcw j hjm with h9 | h9
      · exact hwj _ _ j2 j h9
      · rcases kL_short hp h0 hF hs hB hB0 hV t.next h.next_le with ⟨e1, -⟩ | ⟨C2, b2, e2, i, k1, k2, k3, k4, k5⟩
        · rw [j2] at e1
          simp at e1
        · rw [j2] at k1
          have := List.append_inj' k1 rfl
          have hy2 := List.singleton_inj.1 this.2
          have hb2 : b = b2 := congrArg Ln.b hy2
          show b ≤ _
          rw [hb2, k3]
          exact hs i j (by omega) hjl
  have hsh := kL_short hp h0 hF hs hB hB0 hV (comeL M t.now (p.drop t.next) t.next t.s).1 hc.k_le
  have hcome : (M.wait (comeL M t.now (p.drop t.next) t.next t.s).2 = []) ∨ ∃ C b, kL per (p.take (comeL M t.now (p.drop t.next) t.next t.s).1) = C ++ [⟨b, t.now + sumW per p (M.wait (comeL M t.now (p.drop t.next) t.next t.s).2)⟩] := by
    rcases hkj with ⟨j1, j2, j3, j4⟩ | ⟨C, b, j1, j2⟩
    · rcases comeL_idle hM hp h0 t.now t.next t.s h.toC j1 j3 j4 with ⟨e1, e2⟩ | ⟨e0, e⟩
      · rw [e2]; exact .inl j1
      · exact .inr ⟨_, _, e⟩
    · exact .inr ⟨C, b, comeL_busy hM hp h0 t.now b C _ t.next t.s rfl h.toC j2⟩
  unfold stepS
  generalize comeL M t.now (p.drop t.next) t.next t.s = q at hc hww hsh hcome
  cases hpk : M.pick q.2 with
  | none =>
    have hw := hM.w_none _ _ hc.ok hpk
    have hwr := hM.w_rest _ _ hc.ok hw
    refine ⟨fun C y _ j hjm => ?_, hdj⟩
    simp only at hjm
    rw [hwr] at hjm
    cases hjm
  | some ks =>
    obtain ⟨k, s'⟩ := ks
    have hsw := hM.w_some _ _ _ _ hc.ok hpk
    refine ⟨fun C y hk j hjm => hww C y hk j (hsw.mem_iff.2 (List.mem_cons_of_mem _ hjm)), fun x hx => ?_⟩
    rcases List.mem_append.1 hx with hx | hx
    · exact hdj x hx
    · rw [List.mem_singleton.1 hx]
      have hkm : k ∈ M.wait q.2 := hsw.mem_iff.2 List.mem_cons_self
      have hn := sumW_nn (per := per) h0 hp (M.wait s')
      have hsum := sumW_perm (per := per) (p := p) hsw
      rw [show sumW per p (k :: M.wait s') = per * sOf p k + sumW per p (M.wait s') from rfl] at hsum
      rcases hcome with h9 | ⟨C, b, e⟩
      · rw [h9] at hkm; cases hkm
      · have hb := hww _ _ e k hkm
        rcases hsh with ⟨e1, -⟩ | ⟨C2, b2, e2, i, k1, k2, k3, k4, k5⟩
        · rw [e] at e1
          simp at e1
        · rw [e] at k1
          have := List.append_inj' k1 rfl
          have hy2 := List.singleton_inj.1 this.2
          have hb2 : b = b2 := congrArg Ln.b hy2
          have he2 : t.now + sumW per p (M.wait q.2) = e2 := congrArg Ln.r hy2
          simp only [Int.toNat_natCast] at hb ⊢
          omega
theorem busy_delay {σ : Type} {M : Pol σ} {s0 : σ} (hM : PolOk M p.length) (hp : ∀ x ∈ p, okPk x) (hs : ∀ i j, i ≤ j → j < p.length → aOf p i ≤ aOf p j) (h0 : 1 ≤ per) (h1 : per ≤ 1000) (hw0 : M.wait s0 = []) (ho : M.ok 0 s0) (hF : FitsV p V) {B : Int} (hB : per * V B ≤ B) (hB0 : 0 ≤ B) (hV : ∀ s t, 0 ≤ s → s ≤ t → V s ≤ V t) :
    ∀ x ∈ (serveS M p per s0).out, x.t - aOf p x.p.toNat ≤ B := by
  have hJ := run_ind hM hp h0 h1 (KB M p per B) (fun t hi hl hj => kb_step hM hp hs h0 hF hB hB0 hV t hi hl hj) (2 * p.length + 1) _ (inv_start p hw0 ho) ⟨.inl ⟨hw0, rfl, .inl rfl, fun j _ h2 => by
    show 0 ≤ _
    rw [aOf_of h2]
    exact (hp _ (List.getElem_mem h2)).2.2.2.2.1⟩, fun C y hk => by simp [kL] at hk, by simp⟩
  exact hJ.2.2
end
end Go.Proofs.YthgpbdlmadjndaaGreatDoor
namespace Go.Proofs.YthgpbdlmadjndaaGreatDoor
/-- All curves together, up to the first empty one. -/
def allGo : List Ln → List (List Ln) → Option (List Ln)
  | all, [] => some all
  | all, l :: r => if l.length = 0 ∨ all.length = 0 then some all else if (sumE all l).1 ≠ 0 then none else allGo (sumV all l) r
def bndAll (cs : List (List Ln)) : Option (List Ln) := allGo (cs.getD 0 []) (cs.drop 1)
def howErr (n : Nat) (l : List Ln) (per : Int) : Nat × Int := if n = 0 then delayErr l per else busyErr l per
def howV (n : Nat) (l : List Ln) (per : Int) : Int := if n = 0 then delayV l per else busyV l per
def allErr (n : Nat) (per : Int) : Option (List Ln) → Nat × Int
  | none => (4, -1)
  | some all => if all.length = 0 then (4, -1) else if (howErr n all per).1 ≠ 0 then (4, -1) else (0, -1)
def allV (n : Nat) (per : Int) : Option (List Ln) → Int
  | none => 0
  | some all => if (allErr n per (some all)).1 = 0 then howV n all per else 0
def bndErr (cs : List (List Ln)) (n : Nat) (per : Int) (ns : List Int) : Nat × Int := if (gateErr cs n per ns).1 ≠ 0 then gateErr cs n per ns else allErr n per (bndAll cs)
def bndV (cs : List (List Ln)) (n : Nat) (per : Int) (ns : List Int) : Int := if (gateErr cs n per ns).1 ≠ 0 then 0 else allV n per (bndAll cs)
theorem bnd_ok {cs : List (List Ln)} {n : Nat} {per : Int} {ns : List Int} (h : (bndErr cs n per ns).1 = 0) : (gateErr cs n per ns).1 = 0 ∧ ∃ all, bndAll cs = some all ∧ 0 < all.length ∧ (howErr n all per).1 = 0 ∧ bndV cs n per ns = howV n all per ∧ bndErr cs n per ns = (0, -1) := by
  unfold bndErr bndV at *
  by_cases h1 : (gateErr cs n per ns).1 ≠ 0
  · rw [if_pos h1] at h; exact absurd h h1
  · rw [if_neg h1] at h ⊢
    rw [if_neg h1]
    refine ⟨by omega, ?_⟩
    cases ha : bndAll cs with
    | none => rw [ha] at h; simp [allErr] at h
    | some all =>
      rw [ha] at h
      have e9 : allErr n per (some all) = if all.length = 0 then (4, -1) else if (howErr n all per).1 ≠ 0 then (4, -1) else (0, -1) := rfl
      have h' := h
      rw [e9] at h'
      by_cases h2 : all.length = 0
      · rw [if_pos h2] at h'; simp at h'
      · rw [if_neg h2] at h'
        by_cases h3 : (howErr n all per).1 ≠ 0
        · rw [if_pos h3] at h'; simp at h'
        · refine ⟨all, rfl, by omega, by omega, ?_, ?_⟩
          · show (if (allErr n per (some all)).1 = 0 then howV n all per else 0) = _
            rw [if_pos h]
          · rw [e9, if_neg h2, if_neg h3]
theorem sum_step {a b : List Ln} (ha : (crvErr a).1 = 0) (hb : (crvErr b).1 = 0) (h : (sumE a b).1 = 0) : (crvErr (sumV a b)).1 = 0 ∧ ∀ t, 0 ≤ t → valueL a t + valueL b t ≤ valueL (sumV a b) t := by
  have hv : sumV a b = tidyRef (sumAll a b) := if_pos h
  have he : sumErr a b = 0 := by
    unfold sumE at h
    rw [if_neg (by omega), if_neg (by omega)] at h
    exact h
  obtain ⟨s1, s2, -⟩ := sum_ok he
  obtain ⟨a1, a2, a3, -⟩ := crvErr_ok ha
  obtain ⟨b1, b2, b3, -⟩ := crvErr_ok hb
  have hr : ∀ y ∈ sumAll a b, 0 ≤ y.r := fun y hy => (s1 y hy).2.2.1
  have hl : 0 < (sumAll a b).length := by rw [sumAll_len]; exact Nat.mul_pos a1 b1
  have hne := tidy_ne hr hl
  rw [hv]
  refine ⟨by rw [crvErr_of hne s2 fun x hx => s1 x (tidy_sub _ x hx)], fun t ht => ?_⟩
  rw [tidy_val hr hl ht]
  exact (sum_val a1 b1 t).1
def sumTo (g : Nat → Int) : Nat → Int
  | 0 => 0
  | n + 1 => sumTo g n + g n
theorem sumTo_le {g h : Nat → Int} {n : Nat} (hh : ∀ i, i < n → g i ≤ h i) : sumTo g n ≤ sumTo h n := by
  induction n with
  | zero => exact Int.le_refl _
  | succ n ih =>
    have := ih fun i hi => hh i (by omega)
    have := hh n (Nat.lt_succ_self _)
    unfold sumTo
    omega
theorem sumTo_add (g h : Nat → Int) (n : Nat) : sumTo (fun i => g i + h i) n = sumTo g n + sumTo h n := by
  induction n with
  | zero => rfl
  | succ n ih => unfold sumTo; rw [ih]; omega
theorem sumTo_zero {g : Nat → Int} {n : Nat} (h : ∀ i, i < n → g i = 0) : sumTo g n = 0 := by
  induction n with
  | zero => rfl
  | succ n ih =>
    unfold sumTo
    rw [ih fun i hi => h i (by omega), h n (Nat.lt_succ_self _)]
    rfl
theorem sumTo_one (x : Int) {f n : Nat} (h : f < n) : sumTo (fun i => if i = f then x else 0) n = x := by
  induction n with
  | zero => omega
  | succ n ih =>
    unfold sumTo
    by_cases e : f = n
    · subst e
      rw [if_pos rfl, sumTo_zero fun i hi => if_neg (by omega)]
      omega
    · rw [ih (by omega), if_neg (fun h9 => e h9.symm)]
      omega
theorem allGo_val {cs : List (List Ln)} (hcs : CsOk cs) : ∀ (r : List (List Ln)) (k : Nat) (all out : List Ln), k ≤ cs.length → cs.drop k = r → (crvErr all).1 = 0 → allGo all r = some out →
    (crvErr out).1 = 0 ∧ ∃ m, k ≤ m ∧ m ≤ cs.length ∧ (m = cs.length ∨ cs.getD m [] = []) ∧ (∀ f, k ≤ f → f < m → cs.getD f [] ≠ []) ∧ ∀ t, 0 ≤ t → valueL all t + (sumTo (fun f => valueL (cs.getD f []) t) m - sumTo (fun f => valueL (cs.getD f []) t) k) ≤ valueL out t := by
  intro r
  induction r with
  | nil =>
    intro k all out hk hd ha h
    simp only [allGo, Option.some.injEq] at h
    subst h
    have := congrArg List.length hd
    simp at this
    exact ⟨ha, k, Nat.le_refl _, hk, .inl (by omega), fun f h1 h2 => by omega, fun t _ => by omega⟩
  | cons l r ih =>
    intro k all out hk hd ha h
    have hkl : k < cs.length := by
      have := congrArg List.length hd
      simp at this
      omega
    have hd2 := List.drop_eq_getElem_cons hkl
    rw [hd] at hd2
    injection hd2 with hl hr
    have hg : cs.getD k [] = l := by rw [hl]; simp [List.getD, hkl]
    unfold allGo at h
    by_cases h1 : l.length = 0 ∨ all.length = 0
    · rw [if_pos h1] at h
      injection h with h
      subst h
      have h0 := (crvErr_ok ha).1
      have hl0 : l = [] := List.length_eq_zero_iff.1 (by omega)
      exact ⟨ha, k, Nat.le_refl _, hk, .inr (hg.trans hl0), fun f h1 h2 => by omega, fun t _ => by omega⟩
    · rw [if_neg h1] at h
      by_cases h2 : (sumE all l).1 ≠ 0
      · rw [if_pos h2] at h; cases h
      · rw [if_neg h2] at h
        have hlne : l ≠ [] := fun e => h1 (.inl (by rw [e]; rfl))
        have hb : (crvErr l).1 = 0 := (hcs l (by rw [hl]; exact List.getElem_mem hkl)).resolve_left hlne
        obtain ⟨s1, s2⟩ := sum_step ha hb (by omega)
        obtain ⟨i1, m, i2, i3, i4, i5, i6⟩ := ih (k + 1) (sumV all l) out hkl hr.symm s1 h
        refine ⟨i1, m, by omega, i3, i4, fun f hf1 hf2 => ?_, fun t ht => ?_⟩
        · by_cases e : f = k
          · subst e; rw [hg]; exact hlne
          · exact i5 f (by omega) hf2
        · have e1 := i6 t ht
          have e2 := s2 t ht
          have e3 : sumTo (fun f => valueL (cs.getD f []) t) (k + 1) = sumTo (fun f => valueL (cs.getD f []) t) k + valueL l t := by
            show _ + valueL (cs.getD k []) t = _
            rw [hg]
          omega
theorem all_val {cs : List (List Ln)} (hcs : CsOk cs) (h8 : cs.length = 8) {all : List Ln} (ha : bndAll cs = some all) (hne : 0 < all.length) : (crvErr all).1 = 0 ∧ ∃ m, 1 ≤ m ∧ m ≤ 8 ∧ (m = 8 ∨ cs.getD m [] = []) ∧ (∀ f, f < m → cs.getD f [] ≠ []) ∧ ∀ t, 0 ≤ t → sumTo (fun f => valueL (cs.getD f []) t) m ≤ valueL all t := by
  have h0 : cs.getD 0 [] ≠ [] := fun e => by
    unfold bndAll at ha
    rw [e] at ha
    cases hd : cs.drop 1 with
    | nil => have := congrArg List.length hd; simp at this; omega
    | cons l r =>
      rw [hd] at ha
      unfold allGo at ha
      rw [if_pos (.inr rfl)] at ha
      injection ha with ha
      rw [← ha] at hne
      simp at hne
  have hc0 : (crvErr (cs.getD 0 [])).1 = 0 := by
    have hm : cs.getD 0 [] ∈ cs := by
      have h9 : (0 : Nat) < cs.length := by omega
      have e : cs.getD 0 [] = cs[0] := by simp [List.getD, h9]
      rw [e]
      exact List.getElem_mem _
    exact (hcs _ hm).resolve_left h0
  obtain ⟨i1, m, i2, i3, i4, i5, i6⟩ := allGo_val hcs (cs.drop 1) 1 _ _ (by omega) rfl hc0 ha
  refine ⟨i1, m, i2, by omega, by rwa [h8] at i4, fun f hf => ?_, fun t ht => ?_⟩
  · by_cases e : f = 0
    · subst e; exact h0
    · exact i5 f (by omega) hf
  · have := i6 t ht
    have e : sumTo (fun f => valueL (cs.getD f []) t) 1 = valueL (cs.getD 0 []) t := by
      show 0 + valueL (cs.getD 0 []) t = _
      omega
    omega
/-- Windows of packets. -/
theorem sumS_app (a b : List Pk) : sumS (a ++ b) = sumS a + sumS b := by
  induction a with
  | nil => show sumS b = 0 + sumS b; omega
  | cons x r ih => show x.s + sumS (r ++ b) = x.s + sumS r + sumS b; rw [ih]; omega
theorem fitsGo_sum {l : List Ln} {ai : Int} (v : List Pk) : ∀ (n : Int) (x : Pk) (w : List Pk), fitsGo l ai n (v ++ x :: w) = true → n + sumS (v ++ [x]) ≤ valueL l (x.a - ai) := by
  induction v with
  | nil =>
    intro n x w h
    rw [List.nil_append] at h
    unfold fitsGo at h
    by_cases h1 : valueL l (x.a - ai) < n + x.s
    · rw [if_pos h1] at h; cases h
    · show n + (x.s + 0) ≤ _
      omega
  | cons y v ih =>
    intro n x w h
    rw [List.cons_append] at h
    unfold fitsGo at h
    by_cases h1 : valueL l (y.a - ai) < n + y.s
    · rw [if_pos h1] at h; cases h
    · rw [if_neg h1] at h
      have := ih _ _ _ h
      show n + (y.s + sumS (v ++ [x])) ≤ _
      omega
theorem fitsL_drop {l : List Ln} (u : List Pk) : ∀ {v : List Pk}, fitsL l (u ++ v) = true → fitsL l v = true := by
  induction u with
  | nil => exact fun h => h
  | cons x u ih =>
    intro v h
    rw [List.cons_append] at h
    unfold fitsL at h
    by_cases h1 : fitsGo l x.a 0 (x :: (u ++ v)) = true
    · rw [if_pos h1] at h; exact ih h
    · rw [if_neg h1] at h; cases h
theorem fits_win {l : List Ln} {u v w : List Pk} (h : fitsL l (u ++ v ++ w) = true) (hv : v ≠ []) : ∃ y ∈ v, ∃ x ∈ v, sumS v ≤ valueL l (x.a - y.a) ∧ (v.Pairwise (fun a b => a.a ≤ b.a) → y.a ≤ x.a) := by
  rw [List.append_assoc] at h
  have h2 := fitsL_drop u h
  have hd : v = v.dropLast ++ [v.getLast hv] := (List.dropLast_concat_getLast hv).symm
  obtain ⟨v', x, e⟩ : ∃ v' x, v = v' ++ [x] := ⟨_, _, hd⟩
  cases hvv : v with
  | nil => exact absurd hvv hv
  | cons y r =>
    refine ⟨y, List.mem_cons_self, x, by rw [← hvv, e]; simp, ?_, fun hp => ?_⟩
    · have h3 : fitsGo l y.a 0 (v ++ w) = true := by
        rw [hvv, List.cons_append] at h2 ⊢
        unfold fitsL at h2
        by_cases h1 : fitsGo l y.a 0 (y :: (r ++ w)) = true
        · exact h1
        · rw [if_neg h1] at h2; cases h2
      rw [e, List.append_assoc] at h3
      have := fitsGo_sum v' 0 x w h3
      rw [← e, hvv] at this
      omega
    · have hx : x ∈ y :: r := by rw [← hvv, e]; simp
      rcases List.mem_cons.1 hx with rfl | hx
      · exact Int.le_refl _
      · exact (List.pairwise_cons.1 hp).1 x hx
def isF (f : Nat) (x : Pk) : Bool := decide (x.f = (f : Int))
theorem sumS_flows (m : Nat) (W : List Pk) (h : ∀ x ∈ W, 0 ≤ x.f ∧ x.f < (m : Int)) : sumS W = sumTo (fun f => sumS (W.filter (isF f))) m := by
  induction W with
  | nil => exact (sumTo_zero fun i _ => rfl).symm
  | cons x W ih =>
    have hx := h x List.mem_cons_self
    have e : (fun f => sumS ((x :: W).filter (isF f))) = fun f => (if f = x.f.toNat then x.s else 0) + sumS (W.filter (isF f)) := funext fun f => by
      by_cases hf : x.f = (f : Int)
      · have h1 : isF f x = true := decide_eq_true hf
        rw [List.filter_cons_of_pos h1, if_pos (by omega)]
        rfl
      · have h1 : ¬ isF f x = true := by unfold isF; rw [decide_eq_false hf]; simp
        rw [List.filter_cons_of_neg h1, if_neg (by omega)]
        omega
    rw [e, sumTo_add, sumTo_one _ (by omega), ← ih fun y hy => h y (List.mem_cons_of_mem _ hy)]
    rfl
theorem sumR_win {q : List Pk} {i : Nat} : ∀ (m : Nat), i ≤ m → m ≤ q.length → sumR q i m = sumS ((q.take m).drop i) := by
  intro m
  induction m with
  | zero => intro hi _; obtain rfl : i = 0 := by omega
            rfl
  | succ m ih =>
    intro hi hm
    have hml : m < q.length := hm
    have ht : q.take (m + 1) = q.take m ++ [q[m]] := by rw [List.take_succ_eq_append_getElem hml]
    by_cases e : i = m + 1
    · subst e
      rw [sumR_self, List.drop_eq_nil_of_le (by rw [List.length_take]; omega)]
      rfl
    · rw [sumR_succ (by omega), ih (by omega) (by omega), ht, List.drop_append_of_le_length (by rw [List.length_take]; omega), sumS_app, sOf_of hml]
      show _ = _ + (q[m].s + 0)
      omega
theorem win_mem {q : List Pk} {i m : Nat} {x : Pk} (hm : m ≤ q.length) (hx : x ∈ (q.take m).drop i) : ∃ j, ∃ (h : j < q.length), i ≤ j ∧ j < m ∧ x = q[j] := by
  obtain ⟨j, hj, e⟩ := List.getElem_of_mem hx
  simp only [List.length_drop, List.length_take] at hj
  refine ⟨i + j, by omega, by omega, by omega, ?_⟩
  rw [← e]
  simp
/-- Of one flow's packets, as they come to the link: what its shaper made. -/
theorem ord_flow {cs : List (List Ln)} {p : List Pk} (hp : (pktErr p).1 = 0) (hc : CsOk cs) {a : Nat → Int} (ha : AtOk cs p 8 a) {f : Nat} (hf : f < 8) : (gOut p a).filter (isF f) = (shpR (cs.getD f []) p f).1 := by
  obtain ⟨q1, q2⟩ := ha.fl f hf
  have hs := shp_ok hp (hc.get f) q1
  have hord : (ordL a p.length).filter (fun k => decide (fOf p k = (f : Int))) = numsK p f p.length := by
    refine List.Perm.eq_of_pairwise (le := LexN a) (fun x y _ _ h1 h2 => by unfold LexN at h1 h2; omega) ((ordL_lex a p.length).sublist List.filter_sublist) ?_ ((ordL_perm a p.length).filter _)
    rw [List.pairwise_iff_getElem]
    intro i j hi hj hij
    have e1 := q2 i hi (by rw [hs.len]; exact hi)
    have e2 := q2 j hj (by rw [hs.len]; exact hj)
    have e3 := List.pairwise_iff_getElem.1 hs.so i j (by rw [hs.len]; exact hi) (by rw [hs.len]; exact hj) hij
    have e4 : (numsK p f p.length)[i] < (numsK p f p.length)[j] := by
      have h9 : (numsK p f p.length).Pairwise (· < ·) := List.pairwise_lt_range.sublist List.filter_sublist
      exact List.pairwise_iff_getElem.1 h9 i j hi hj hij
    unfold LexN
    omega
  have e : (gOut p a).filter (isF f) = ((ordL a p.length).filter (fun k => decide (fOf p k = (f : Int)))).map fun k => ⟨fOf p k, sOf p k, a k⟩ := by
    unfold gOut
    rw [List.filter_map]
    rfl
  rw [e, hord]
  refine List.ext_getElem (by rw [List.length_map, hs.len]) fun j h1 h2 => ?_
  have h1' : j < (numsK p f p.length).length := by simpa using h1
  obtain ⟨t1, t2, -, -⟩ := hs.at_ j h1' h2
  have t3 := q2 j h1' h2
  rw [List.getElem_map]
  cases hx : (shpR (cs.getD f []) p f).1[j]
  rw [hx] at t1 t2 t3
  simp only at t1 t2 t3
  rw [t1, t2, t3]
theorem gate_fits {cs : List (List Ln)} {n : Nat} {per : Int} {ns : List Int} {p : List Pk} (h : (runErr cs n per ns p).1 = 0) {all : List Ln} (ha : bndAll cs = some all) (hne : 0 < all.length) {nn : Nat} (hn8 : nn ≤ 8) (hnn : ∀ f, f < nn → cs.getD f [] ≠ []) (hpf : ∀ x ∈ p, x.f < (nn : Int)) :
    (crvErr all).1 = 0 ∧ FitsV (runQ cs n per ns p) (valueL all) := by
  obtain ⟨r1, r2, r3, -, r5, -⟩ := runErr_ok h
  obtain ⟨h8, hcs, -, -⟩ := gateErr_ok r1
  obtain ⟨hall, m, m1, m2, m3, m4, m5⟩ := all_val hcs h8 ha hne
  have hmn : nn ≤ m := by
    rcases m3 with e | e
    · omega
    · exact Nat.le_of_not_lt fun h9 => hnn m h9 e
  refine ⟨hall, ?_⟩
  rw [show runQ cs n per ns p = gOut p (gFold cs p 8).1 from if_pos h]
  have hat := gFold_ok r2 hcs 8 r3
  have hok := pktErr_okPk r5
  have hso := pktErr_sorted' r5
  have hqf : ∀ x ∈ gOut p (gFold cs p 8).1, x.f < (m : Int) := fun x hx => by
    obtain ⟨k, hk, rfl⟩ := List.mem_map.1 hx
    have hkl := ordL_lt hk
    have := hpf _ (List.getElem_mem hkl)
    simp only [fOf_of hkl]
    omega
  have hflow := fun f (hf : f < 8) => ord_flow r2 hcs hat hf
  have hfit : ∀ f, f < m → fitsL (cs.getD f []) ((gOut p (gFold cs p 8).1).filter (isF f)) = true := fun f hf => by
    rw [hflow f (by omega)]
    exact (shp_ok r2 (hcs.get f) (hat.fl f (by omega)).1).fit (m4 f hf)
  generalize gOut p (gFold cs p 8).1 = q at hok hso hqf hfit
  intro i k hik hk
  have hle : aOf q i ≤ aOf q k := aOf_mono hso hik hk
  rw [sumR_win (k + 1) (by omega) hk]
  have hmem : ∀ x ∈ (q.take (k + 1)).drop i, x ∈ q ∧ aOf q i ≤ x.a ∧ x.a ≤ aOf q k := fun x hx => by
    obtain ⟨j, hj, j1, j2, rfl⟩ := win_mem (by omega) hx
    refine ⟨List.getElem_mem hj, ?_, ?_⟩
    · rw [← aOf_of hj]; exact aOf_mono hso j1 hj
    · rw [← aOf_of hj]; exact aOf_mono hso (by omega) hk
  rw [sumS_flows m _ fun x hx => ⟨(hok x (hmem x hx).1).1, hqf x (hmem x hx).1⟩]
  refine Int.le_trans (sumTo_le fun f hf => ?_) (m5 _ (by omega))
  have hc := hcs.get f
  have hcne := m4 f hf
  have hc0 : 0 < (cs.getD f []).length := List.length_pos_iff.2 hcne
  have hcok := hc.resolve_left hcne
  by_cases hv : ((q.take (k + 1)).drop i).filter (isF f) = []
  · rw [hv]
    have := valueL_pos hc0 hcok (t := aOf q k - aOf q i) (by omega)
    show 0 ≤ _
    omega
  · have hsplit : q = q.take i ++ (q.take (k + 1)).drop i ++ q.drop (k + 1) := by
      have e1 : q.take i ++ (q.take (k + 1)).drop i = q.take (k + 1) := by
        have := List.take_append_drop i (q.take (k + 1))
        rwa [List.take_take, Nat.min_eq_left (by omega)] at this
      rw [e1, List.take_append_drop]
    have hf2 := hfit f hf
    rw [hsplit, List.filter_append, List.filter_append] at hf2
    obtain ⟨y, hy, x, hx, e, e2⟩ := fits_win hf2 hv
    have hy2 := hmem y (List.mem_filter.1 hy).1
    have hx2 := hmem x (List.mem_filter.1 hx).1
    refine Int.le_trans e (valueL_mono hc0 hcok (by omega))
theorem howErr_ok {n : Nat} {l : List Ln} {per : Int} (h : (howErr n l per).1 = 0) : (dlkErr l per).1 = 0 := by
  unfold howErr delayErr busyErr at h
  by_cases h1 : (dlkErr l per).1 ≠ 0
  · rw [if_pos h1, if_pos h1, ite_self] at h; exact h
  · omega
theorem link_delay {n : Nat} {p : List Pk} {per : Int} {ns : List Int} (h : (linkErr n p per ns).1 = 0) {V : Int → Int} (hF : FitsV p V) {B : Int} (hB : per * V B ≤ B) (hB0 : 0 ≤ B) (hV : ∀ s t, 0 ≤ s → s ≤ t → V s ≤ V t) (hn : n ≠ 0) : ∀ x ∈ linkV n p per ns, x.t - aOf p x.p.toNat ≤ B := by
  have hlk := (link_is h).look
  obtain ⟨hf, h300, hpk, h0, h1⟩ := lookErr_ok hlk
  have hso := lookErr_sorted hlk
  have hs : ∀ i j, i ≤ j → j < p.length → aOf p i ≤ aOf p j := fun i j hij hj => aOf_mono hso hij hj
  match n, h, hn with
  | 0, _, hn => exact absurd rfl hn
  | 1, h, _ =>
    rw [show linkV 1 p per ns = leastL p per (rankKey p ns) from if_pos h]
    exact busy_delay (leastOk _ _) hpk hs h0 h1 rfl ⟨by simp, List.Pairwise.nil⟩ hF hB hB0 hV
  | 2, h, _ =>
    rw [show linkV 2 p per ns = leastL p per (dueKey p ns) from if_pos h]
    exact busy_delay (leastOk _ _) hpk hs h0 h1 rfl ⟨by simp, List.Pairwise.nil⟩ hF hB hB0 hV
  | 3, h, _ =>
    have h' : (roundErr p per ns).1 = 0 := h
    rw [show linkV 3 p per ns = roundL p per ns from if_pos h]
    obtain ⟨_, _, h8, hn, _⟩ := roundErr_ok h'
    have hq1 : ∀ g, g < 8 → 1 ≤ qu ns g := fun g hg => by
      unfold qu
      have hgl : g < ns.length := by omega
      simp only [List.getD, List.getElem?_eq_getElem hgl, Option.getD_some]
      exact (hn _ (List.getElem_mem hgl)).1
    have hq : ∀ g, 0 ≤ qu ns g := fun g => by
      by_cases hg : g < 8
      · have := hq1 g hg; omega
      · unfold qu
        simp only [List.getD, List.getElem?_eq_none (show ns.length ≤ g by omega), Option.getD_none]
        omega
    exact busy_delay (s0 := rs0) (roundOk hpk hq hq1) hpk hs h0 h1 rs0_wait (rs0_ok p ns) hF hB hB0 hV
  | 4, h, _ =>
    have h' : (fairErr p per ns).1 = 0 := h
    rw [show linkV 4 p per ns = fairL p per ns from if_pos h]
    obtain ⟨_, _, h8, hn, _⟩ := fairErr_ok h'
    have hw := wOk_of h8 (weIdx_none hn)
    exact busy_delay (fairOk hpk hw) hpk hs h0 h1 rfl (fs0_ok p ns) hF hB hB0 hV
  | n + 5, h, _ => simp [linkErr] at h
/-- CRUZ at a gate: no packet of the flows that are spoken of is longer at the link than the bound. -/
theorem gate_keeps {cs : List (List Ln)} {n : Nat} {per : Int} {ns : List Int} {p : List Pk} (h : (runErr cs n per ns p).1 = 0) (hb : (bndErr cs n per ns).1 = 0) {nn : Nat} (hn8 : nn ≤ 8) (hnn : ∀ f, f < nn → cs.getD f [] ≠ []) (hpf : ∀ x ∈ p, x.f < (nn : Int)) :
    ∀ x ∈ runL cs n per ns p, x.t - aOf (runQ cs n per ns p) x.p.toNat ≤ bndV cs n per ns := by
  obtain ⟨-, all, b1, b2, b3, b4, -⟩ := bnd_ok hb
  obtain ⟨hall, hF⟩ := gate_fits h b1 b2 hn8 hnn hpf
  obtain ⟨-, -, -, -, -, r6⟩ := runErr_ok h
  have hq : runQ cs n per ns p = gOut p (gFold cs p 8).1 := if_pos h
  have hL : runL cs n per ns p = linkV n (gOut p (gFold cs p 8).1) per ns := if_pos h
  rw [b4, hL]
  rw [hq] at hF ⊢
  generalize gOut p (gFold cs p 8).1 = q at hF r6
  have hle : (linkErr n q per ns).1 = 0 := by rw [r6]
  have hlk := (link_is hle).look
  obtain ⟨hf, h300, hpk, h0, h1⟩ := lookErr_ok hlk
  have hso := lookErr_sorted hlk
  obtain ⟨a1, a2, a3, -⟩ := crvErr_ok hall
  have hmono : ∀ s t, 0 ≤ s → s ≤ t → valueL all s ≤ valueL all t := fun s t _ hst => valueL_mono a1 a3 hst
  by_cases hn : n = 0
  · subst hn
    have b3' : (delayErr all per).1 = 0 := b3
    obtain ⟨-, -, -, d4, d5, -⟩ := delay_ok b3'
    rw [show howV 0 all per = delayV all per from rfl, d5, show linkV 0 q per ns = fifoL q per from if_pos hle]
    refine fifo_delay (V := fun t => valueL all (if t ≤ 1099511627776 then t else 1099511627776)) hpk h0 h1 (fun i k hik hk => ?_) (fun t ht => ?_) fun i j hij hj => aOf_mono hso hij hj
    · have h9 := hF i k hik hk
      have e1 := (hpk _ (List.getElem_mem hk)).2.2.2.2.2
      have e2 := (hpk _ (List.getElem_mem (show i < q.length by omega))).2.2.2.2.1
      simp only
      rw [if_pos (by rw [aOf_of hk, aOf_of (show i < q.length by omega)]; omega)]
      exact h9
    · by_cases ht2 : t ≤ 1099511627776
      · rw [if_pos ht2]
        exact delay_top h0 a3 a1 d4 ht ht2
      · rw [if_neg ht2]
        have := delay_top h0 a3 a1 d4 (T := 1099511627776) (by omega) (Int.le_refl _)
        omega
  · have b3' : (busyErr all per).1 = 0 := by unfold howErr at b3; rwa [if_neg hn] at b3
    obtain ⟨z1, z2, z3⟩ := busy_ok (howErr_ok b3) b3'
    rw [show howV n all per = busyV all per from if_neg hn, z3]
    exact link_delay hle hF (bz_end h0 a3 z1) (by omega) hmono hn
end Go.Proofs.YthgpbdlmadjndaaGreatDoor
namespace Go.Proofs.YthgpbdlmadjndaaGreatDoor
open Go.RowKit
set_option maxRecDepth 100000
theorem bfifo_cases (K : ByteArray) : ((K.toList == ([102, 105, 102, 111] : List UInt8)) = true ∧ kindN K = 0) ∨ ((K.toList == ([102, 105, 102, 111] : List UInt8)) = false ∧ kindN K ≠ 0) := by
  rcases kind_cases K with ⟨s0, s1, s2, s3, s4, hn⟩ | ⟨s0, s1, s2, s3, s4, hn⟩ | ⟨s0, s1, s2, s3, s4, hn⟩ | ⟨s0, s1, s2, s3, s4, hn⟩ | ⟨s0, s1, s2, s3, s4, hn⟩ | ⟨s0, s1, s2, s3, s4, hn⟩
  · exact .inl ⟨s0, hn⟩
  all_goals exact .inr ⟨s0, by rw [hn]; decide⟩
theorem allErr_some (n : Nat) (per : Int) (al : List Ln) : allErr n per (some al) = if al.length = 0 then (4, -1) else if (howErr n al per).1 ≠ 0 then (4, -1) else (0, -1) := rfl
theorem allV_some (n : Nat) (per : Int) (al : List Ln) : allV n per (some al) = if (allErr n per (some al)).1 = 0 then howV n al per else 0 := rfl
theorem sumE_ok {a b : List Ln} (h : (sumE a b).1 = 0) : (crvErr a).1 = 0 ∧ (crvErr b).1 = 0 := by
  unfold sumE at h
  by_cases h1 : (crvErr a).1 ≠ 0
  · rw [if_pos h1] at h; exact absurd h h1
  · rw [if_neg h1] at h
    by_cases h2 : (crvErr b).1 ≠ 0
    · rw [if_pos h2] at h; exact absurd h h2
    · exact ⟨by omega, by omega⟩
theorem allGo_step {cs : List (List Ln)} {k : Nat} (hk : k < cs.length) (al : List Ln) : allGo al (cs.drop k) = if cs[k].length = 0 ∨ al.length = 0 then some al else if (sumE al cs[k]).1 ≠ 0 then none else allGo (sumV al cs[k]) (cs.drop (k + 1)) := by
  rw [List.drop_eq_getElem_cons hk]
  rfl
section
variable (Ac An : Option Addr) (cc cn : Nat) (cs : List (List Ln)) (K : ByteArray) (per : Int) (ns : List Int) (S : Nat → Addr) (w : World) (B : Nat) (hB : B ≤ w.heap.size) (h : RdLL w B Ac cs) (h' : RdI w B An ns) (hS : GS w B S) (hl : ∀ l ∈ cs, l.length ≤ 9223372036854775807) (hl' : ns.length ≤ 9223372036854775807) (hcc : cs.length ≤ cc)
include hB h h' hS hl hl' hcc
set_option maxHeartbeats 8000000 in
theorem bound_main (h1 : (gateErr cs (kindN K) per ns).1 = 0) : Calls Tryz.prog 18 #[.agg #[.slice Ac cs.length cc, .string K, .int .i64 per, .slice An ns.length cn]] w (EndVEr (.int .i64 (bndV cs (kindN K) per ns)) S (bndErr cs (kindN K) per ns).1 (bndErr cs (kindN K) per ns).2 w) := by
  obtain ⟨h8, hcs, hlk, -⟩ := gateErr_ok h1
  have HBE := Lib.hid (show bndErr cs (kindN K) per ns = allErr (kindN K) per (bndAll cs) from if_neg (by omega))
  have HBV := Lib.hid (show bndV cs (kindN K) per ns = allV (kindN K) per (bndAll cs) from if_neg (by omega))
  have H1 := Lib.hid h1
  have H8 := Lib.hid h8
  have hcc8 : 8 ≤ cc := by omega
  have hBw : B ≤ w.heap.size := hB
  obtain ⟨W, hW⟩ : ∃ W : World, W = w.alloc (.cells #[.slice Ac 8 cc, .string K, .int .i64 per, .slice An ns.length cn] 34) := ⟨_, rfl⟩
  have bW : Below w.heap.size w W := by rw [hW]; exact (Below.refl _ _).alloc (Nat.le_refl _) _
  obtain ⟨gb, hgb⟩ : ∃ gb, gb = w.heap.size := ⟨_, rfl⟩
  have xW : Blk W gb 34 #[.slice Ac 8 cc, .string K, .int .i64 per, .slice An ns.length cn] := by rw [hW, hgb]; exact Blk.new _ _ _
  have HW := Lib.hid hW
  have BW := Lib.hid bW
  have XW := Lib.hid xW
  have HGB := Lib.hid hgb
  have zW : w.heap.size ≤ W.heap.size := bW.size
  rw [h8]
  have hcheck := gcheck_any Ac An cc cn cs K per ns S W B (Nat.le_trans hB bW.size) (h.below (bW.mono hB)) (h'.below (bW.mono hB)) (hS.below (bW.mono hB)) hl hl'
  rw [h8] at hcheck
  have HCK := Lib.hid hcheck
  have HG4 := Lib.hid (show ∀ v : World, Below B w v → v.cell? ⟨G 4, 0, none⟩ = some (sv S 4) from fun v hv => ((hS.s.below hv) 4 (by simp)).2.2)
  clear h1 h8 hcs hlk hW bW xW hcheck hgb hcc
  go_enter Tryz.func18, Tryz.ntmps18
  go_wp2_with fail
  rw [← HGB.out, ← HW.out]
  refine (HCK.out).mono ?_
  rintro e w1 ⟨v, rfl, hv, k1⟩
  obtain rfl := hv.nil_of H1.out
  have k1' := BW.out.trans (k1.mono zW)
  have x1 := XW.out.below k1 XW.out.lt
  have z1 := k1'.size
  have e0 := x1.cell 0
  simp only [List.getElem?_toArray, List.getElem?_cons_zero, List.getElem?_cons_succ] at e0
  have h08 : 0 < cs.length := by rw [H8.out]; omega
  obtain ⟨b, o, a0, c0, rfl, hb, d0, hrd0⟩ := (h.below (k1'.mono hB)) 0 h08
  have hl0 := hl _ (List.getElem_mem h08)
  have hg0 : cs.getD 0 [] = cs[0] := by simp [List.getD, h08]
  obtain ⟨l0, hl0e⟩ : ∃ l0, l0 = cs[0] := ⟨_, rfl⟩
  rw [← hl0e] at d0 hrd0 hl0 hg0
  have HG0 := Lib.hid hg0
  have HR0 := Lib.hid hrd0
  have X1 := Lib.hid x1
  have K1 := Lib.hid k1'
  simp only [Nat.add_zero] at d0
  clear hv k1 k1' x1 hg0 hl0e hrd0 HCK
  go_wp2_with fail
  go_loopw [5, 26] (fun av iv wr => ∃ (k : Nat) (al : List Ln) (A1 : Option Addr) (c1 : Nat), k ≤ 7 ∧ iv = .int .i64 k ∧ av = .slice A1 al.length c1 ∧ bndAll cs = allGo al (cs.drop (k + 1)) ∧ RdL wr wr.heap.size A1 al ∧ al.length ≤ 9223372036854775807 ∧ Below w.heap.size w wr ∧ Blk wr gb 34 #[.slice (some ⟨b, o, none⟩) 8 cc, .string K, .int .i64 per, .slice An ns.length cn]) (fun _ iv _ => 7 - (intOf iv).toNat)
  case atStart => exact ⟨0, l0, a0, c0, Nat.zero_le _, rfl, rfl, by unfold bndAll; rw [HG0.out], HR0.out.more (Nat.le_trans hBw z1), hl0, K1.out, X1.out⟩
  case round =>
    obtain ⟨k, al, A1, c1, hk, rfl, rfl, hall, hrd, hal, hbw, hx⟩ := hrel
    have HALL0 := Lib.hid hall
    have HRD := Lib.hid hrd
    have HX := Lib.hid hx
    have zw := hbw.size
    clear hall hrd hx
    by_cases hlt : k < 7
    · have hkl : k + 1 < cs.length := by rw [H8.out]; omega
      obtain ⟨b9, o9, a, c, hA9, hb9, d1, hrd⟩ := (h.below (hbw.mono hB)) (k + 1) hkl
      simp only [Option.some.injEq, Addr.mk.injEq, and_true] at hA9
      obtain ⟨rfl, rfl⟩ := hA9
      have hst := allGo_step hkl al
      have hll := hl _ (List.getElem_mem hkl)
      obtain ⟨l, hle⟩ : ∃ l, l = cs[k + 1] := ⟨_, rfl⟩
      rw [← hle] at d1 hrd hst hll
      rw [show o + (k + 1) = o + 1 + k by omega] at d1
      have HST := Lib.hid hst
      have HRL := Lib.hid hrd
      have u1 : (0 : Int) ≤ (k : Int) := by omega
      have u2 : (k : Int) < 7 := by omega
      clear hst hle hrd hb9
      by_cases hl0' : l.length = 0
      · have HALL := Lib.hid (show bndAll cs = some al by rw [HALL0.out, HST.out, if_pos (.inl hl0')])
        rw [hl0'] at d1
        clear hl0'
        have f1 := HX.out.cell 1
        have f2 := HX.out.cell 2
        simp only [List.getElem?_toArray, List.getElem?_cons_zero, List.getElem?_cons_succ] at f1 f2
        by_cases h0 : al.length = 0
        · have g4 := HG4.out wr (hbw.mono hBw)
          simp only [G, sv] at g4
          have HE2 := Lib.hid (show allErr (kindN K) per (some al) = (4, -1) from if_pos h0)
          have HV2 := Lib.hid (show allV (kindN K) per (some al) = 0 by rw [allV_some, HE2.out, if_neg (by simp)])
          rw [h0]
          go_wp2_with fail
          go_region
          all_goals
            go_wp2_with fail
            go_ret2
            rw [HBE.out, HBV.out, HALL.out, HE2.out, HV2.out]
            exact ⟨_, rfl, .bare 4 (by omega) (by omega), hbw.drew⟩
        · have hne : ((al.length : Int) == 0) = false := by rw [beq_eq_false_iff_ne]; omega
          rcases bfifo_cases K with ⟨s0, hn⟩ | ⟨s0, hn⟩
          · have HH := Lib.hid (delay_any A1 c1 al per S wr wr.heap.size (Nat.le_refl _) HRD.out (((hS.s.below (hbw.mono hB)).more (Nat.le_trans hB hbw.size)).sub (by simp)) hal)
            have hhe : howErr (kindN K) al per = delayErr al per := if_pos hn
            have hhv : howV (kindN K) al per = delayV al per := if_pos hn
            clear hS h h' hl hl' hn
            by_cases hw : (delayErr al per).1 = 0
            · have HE2 := Lib.hid (show allErr (kindN K) per (some al) = (0, -1) by rw [allErr_some, if_neg h0, if_neg (by rw [hhe]; omega)])
              have HV2 := Lib.hid (show allV (kindN K) per (some al) = delayV al per by rw [allV_some, HE2.out, if_pos rfl, hhv])
              have HW := Lib.hid hw
              clear hw hhe hhv
              go_wp2_with fail
              refine (HH.out).mono ?_
              rintro e wz ⟨v, rfl, hv, kz⟩
              obtain rfl := hv.nil_of HW.out
              have kz' := hbw.trans (kz.mono hbw.size)
              clear hv kz f1 f2 HH
              go_wp2_with fail
              go_ret2
              rw [HBE.out, HBV.out, HALL.out, HE2.out, HV2.out]
              exact ⟨_, rfl, .nil, kz'⟩
            · have HE2 := Lib.hid (show allErr (kindN K) per (some al) = (4, -1) by rw [allErr_some, if_neg h0, if_pos (by rw [hhe]; omega)])
              have HV2 := Lib.hid (show allV (kindN K) per (some al) = 0 by rw [allV_some, HE2.out, if_neg (by simp)])
              have HW := Lib.hid hw
              clear hw hhe hhv
              go_wp2_with fail
              refine (HH.out).mono ?_
              rintro e wz ⟨v, rfl, hv, kz⟩
              obtain ⟨T, ad, rfl⟩ := hv.some_of HW.out
              have kz' := hbw.trans (kz.mono hbw.size)
              have g4 := HG4.out wz (kz'.mono hBw)
              simp only [G, sv] at g4
              clear hv kz f1 f2 HH
              go_wp2_with fail
              go_region
              all_goals
                go_wp2_with fail
                go_ret2
                rw [HBE.out, HBV.out, HALL.out, HE2.out, HV2.out]
                exact ⟨_, rfl, .bare 4 (by omega) (by omega), kz'.drew⟩
          · have HH := Lib.hid (cbusy_any A1 c1 al per S wr wr.heap.size (Nat.le_refl _) HRD.out (((hS.s.below (hbw.mono hB)).more (Nat.le_trans hB hbw.size)).sub (by simp)) hal)
            have hhe : howErr (kindN K) al per = busyErr al per := if_neg hn
            have hhv : howV (kindN K) al per = busyV al per := if_neg hn
            clear hS h h' hl hl' hn
            by_cases hw : (busyErr al per).1 = 0
            · have HE2 := Lib.hid (show allErr (kindN K) per (some al) = (0, -1) by rw [allErr_some, if_neg h0, if_neg (by rw [hhe]; omega)])
              have HV2 := Lib.hid (show allV (kindN K) per (some al) = busyV al per by rw [allV_some, HE2.out, if_pos rfl, hhv])
              have HW := Lib.hid hw
              clear hw hhe hhv
              go_wp2_with fail
              refine (HH.out).mono ?_
              rintro e wz ⟨v, rfl, hv, kz⟩
              obtain rfl := hv.nil_of HW.out
              have kz' := hbw.trans (kz.mono hbw.size)
              clear hv kz f1 f2 HH
              go_wp2_with fail
              go_ret2
              rw [HBE.out, HBV.out, HALL.out, HE2.out, HV2.out]
              exact ⟨_, rfl, .nil, kz'⟩
            · have HE2 := Lib.hid (show allErr (kindN K) per (some al) = (4, -1) by rw [allErr_some, if_neg h0, if_pos (by rw [hhe]; omega)])
              have HV2 := Lib.hid (show allV (kindN K) per (some al) = 0 by rw [allV_some, HE2.out, if_neg (by simp)])
              have HW := Lib.hid hw
              clear hw hhe hhv
              go_wp2_with fail
              refine (HH.out).mono ?_
              rintro e wz ⟨v, rfl, hv, kz⟩
              obtain ⟨T, ad, rfl⟩ := hv.some_of HW.out
              have kz' := hbw.trans (kz.mono hbw.size)
              have g4 := HG4.out wz (kz'.mono hBw)
              simp only [G, sv] at g4
              clear hv kz f1 f2 HH
              go_wp2_with fail
              go_region
              all_goals
                go_wp2_with fail
                go_ret2
                rw [HBE.out, HBV.out, HALL.out, HE2.out, HV2.out]
                exact ⟨_, rfl, .bare 4 (by omega) (by omega), kz'.drew⟩
      · have hlne : ((l.length : Int) == 0) = false := by rw [beq_eq_false_iff_ne]; omega
        by_cases hal0 : al.length = 0
        · have HALL := Lib.hid (show bndAll cs = some al by rw [HALL0.out, HST.out, if_pos (.inr hal0)])
          clear hl0'
          have g4 := HG4.out wr (hbw.mono hBw)
          simp only [G, sv] at g4
          have HE2 := Lib.hid (show allErr (kindN K) per (some al) = (4, -1) from if_pos hal0)
          have HV2 := Lib.hid (show allV (kindN K) per (some al) = 0 by rw [allV_some, HE2.out, if_neg (by simp)])
          rw [hal0]
          go_wp2_with fail
          go_region
          all_goals
            go_wp2_with fail
            go_ret2
            rw [HBE.out, HBV.out, HALL.out, HE2.out, HV2.out]
            exact ⟨_, rfl, .bare 4 (by omega) (by omega), hbw.drew⟩
        · have halne : ((al.length : Int) == 0) = false := by rw [beq_eq_false_iff_ne]; omega
          have HS2 := Lib.hid (csum_any A1 a c1 c al l S wr wr.heap.size (Nat.le_refl _) HRD.out (HRL.out.more (Nat.le_trans hB zw)) (((hS.s.below (hbw.mono hB)).more (Nat.le_trans hB zw)).sub (by simp)) hal hll)
          by_cases he : (sumE al l).1 = 0
          · have HALL2 := Lib.hid (show bndAll cs = allGo (sumV al l) (cs.drop (k + 1 + 1)) by rw [HALL0.out, HST.out, if_neg (by omega), if_neg (by omega)])
            obtain ⟨q1, q2⟩ := sumE_ok he
            have hlen := (crvErr_ok (sum_step q1 q2 he).1).2.1
            have HE := Lib.hid he
            obtain ⟨sv', hsv⟩ : ∃ sv', sv' = sumV al l := ⟨_, rfl⟩
            rw [← hsv] at HS2 HALL2 hlen
            clear he q1 q2 hsv hl0' hal0
            go_wp2_with fail
            refine (HS2.out).mono ?_
            rintro e wz ⟨AO, cO, v, rfl, ro, hv, kz⟩
            obtain rfl := hv.nil_of HE.out
            have RO := Lib.hid (RdL.of_own ro)
            have KZ := Lib.hid (hbw.trans (kz.mono zw))
            have XZ := Lib.hid (HX.out.below kz HX.out.lt)
            clear hv ro kz d1 HS2
            go_wp2_with fail
            go_roundw
            case rel => exact ⟨k + 1, sv', AO, cO, by omega, by go_num, rfl, HALL2.out, RO.out, by omega, KZ.out, XZ.out⟩
            case measure => simp [intOf]; omega
          · have HALL := Lib.hid (show bndAll cs = none by rw [HALL0.out, HST.out, if_neg (by omega), if_pos he])
            have HE := Lib.hid he
            clear he hl0' hal0
            go_wp2_with fail
            refine (HS2.out).mono ?_
            rintro e wz ⟨AO, cO, v, rfl, -, hv, kz⟩
            obtain ⟨T, ad, rfl⟩ := hv.some_of HE.out
            have kz' := hbw.trans (kz.mono zw)
            have g4 := HG4.out wz (kz'.mono hBw)
            simp only [G, sv] at g4
            clear hv kz d1 HS2
            go_wp2_with fail
            go_region
            all_goals
              go_wp2_with fail
              go_ret2
              rw [HBE.out, HBV.out, HALL.out]
              exact ⟨_, rfl, .bare 4 (by omega) (by omega), kz'.drew⟩
    · have HALL := Lib.hid (show bndAll cs = some al by rw [HALL0.out, List.drop_eq_nil_of_le (by rw [H8.out]; omega)]; rfl)
      have f1 := HX.out.cell 1
      have f2 := HX.out.cell 2
      simp only [List.getElem?_toArray, List.getElem?_cons_zero, List.getElem?_cons_succ] at f1 f2
      by_cases h0 : al.length = 0
      · have g4 := HG4.out wr (hbw.mono hBw)
        simp only [G, sv] at g4
        have HE2 := Lib.hid (show allErr (kindN K) per (some al) = (4, -1) from if_pos h0)
        have HV2 := Lib.hid (show allV (kindN K) per (some al) = 0 by rw [allV_some, HE2.out, if_neg (by simp)])
        rw [h0]
        go_wp2_with fail
        go_region
        all_goals
          go_wp2_with fail
          go_ret2
          rw [HBE.out, HBV.out, HALL.out, HE2.out, HV2.out]
          exact ⟨_, rfl, .bare 4 (by omega) (by omega), hbw.drew⟩
      · have hne : ((al.length : Int) == 0) = false := by rw [beq_eq_false_iff_ne]; omega
        rcases bfifo_cases K with ⟨s0, hn⟩ | ⟨s0, hn⟩
        · have HH := Lib.hid (delay_any A1 c1 al per S wr wr.heap.size (Nat.le_refl _) HRD.out (((hS.s.below (hbw.mono hB)).more (Nat.le_trans hB hbw.size)).sub (by simp)) hal)
          have hhe : howErr (kindN K) al per = delayErr al per := if_pos hn
          have hhv : howV (kindN K) al per = delayV al per := if_pos hn
          clear hS h h' hl hl' hn
          by_cases hw : (delayErr al per).1 = 0
          · have HE2 := Lib.hid (show allErr (kindN K) per (some al) = (0, -1) by rw [allErr_some, if_neg h0, if_neg (by rw [hhe]; omega)])
            have HV2 := Lib.hid (show allV (kindN K) per (some al) = delayV al per by rw [allV_some, HE2.out, if_pos rfl, hhv])
            have HW := Lib.hid hw
            clear hw hhe hhv
            go_wp2_with fail
            refine (HH.out).mono ?_
            rintro e wz ⟨v, rfl, hv, kz⟩
            obtain rfl := hv.nil_of HW.out
            have kz' := hbw.trans (kz.mono hbw.size)
            clear hv kz f1 f2 HH
            go_wp2_with fail
            go_ret2
            rw [HBE.out, HBV.out, HALL.out, HE2.out, HV2.out]
            exact ⟨_, rfl, .nil, kz'⟩
          · have HE2 := Lib.hid (show allErr (kindN K) per (some al) = (4, -1) by rw [allErr_some, if_neg h0, if_pos (by rw [hhe]; omega)])
            have HV2 := Lib.hid (show allV (kindN K) per (some al) = 0 by rw [allV_some, HE2.out, if_neg (by simp)])
            have HW := Lib.hid hw
            clear hw hhe hhv
            go_wp2_with fail
            refine (HH.out).mono ?_
            rintro e wz ⟨v, rfl, hv, kz⟩
            obtain ⟨T, ad, rfl⟩ := hv.some_of HW.out
            have kz' := hbw.trans (kz.mono hbw.size)
            have g4 := HG4.out wz (kz'.mono hBw)
            simp only [G, sv] at g4
            clear hv kz f1 f2 HH
            go_wp2_with fail
            go_region
            all_goals
              go_wp2_with fail
              go_ret2
              rw [HBE.out, HBV.out, HALL.out, HE2.out, HV2.out]
              exact ⟨_, rfl, .bare 4 (by omega) (by omega), kz'.drew⟩
        · have HH := Lib.hid (cbusy_any A1 c1 al per S wr wr.heap.size (Nat.le_refl _) HRD.out (((hS.s.below (hbw.mono hB)).more (Nat.le_trans hB hbw.size)).sub (by simp)) hal)
          have hhe : howErr (kindN K) al per = busyErr al per := if_neg hn
          have hhv : howV (kindN K) al per = busyV al per := if_neg hn
          clear hS h h' hl hl' hn
          by_cases hw : (busyErr al per).1 = 0
          · have HE2 := Lib.hid (show allErr (kindN K) per (some al) = (0, -1) by rw [allErr_some, if_neg h0, if_neg (by rw [hhe]; omega)])
            have HV2 := Lib.hid (show allV (kindN K) per (some al) = busyV al per by rw [allV_some, HE2.out, if_pos rfl, hhv])
            have HW := Lib.hid hw
            clear hw hhe hhv
            go_wp2_with fail
            refine (HH.out).mono ?_
            rintro e wz ⟨v, rfl, hv, kz⟩
            obtain rfl := hv.nil_of HW.out
            have kz' := hbw.trans (kz.mono hbw.size)
            clear hv kz f1 f2 HH
            go_wp2_with fail
            go_ret2
            rw [HBE.out, HBV.out, HALL.out, HE2.out, HV2.out]
            exact ⟨_, rfl, .nil, kz'⟩
          · have HE2 := Lib.hid (show allErr (kindN K) per (some al) = (4, -1) by rw [allErr_some, if_neg h0, if_pos (by rw [hhe]; omega)])
            have HV2 := Lib.hid (show allV (kindN K) per (some al) = 0 by rw [allV_some, HE2.out, if_neg (by simp)])
            have HW := Lib.hid hw
            clear hw hhe hhv
            go_wp2_with fail
            refine (HH.out).mono ?_
            rintro e wz ⟨v, rfl, hv, kz⟩
            obtain ⟨T, ad, rfl⟩ := hv.some_of HW.out
            have kz' := hbw.trans (kz.mono hbw.size)
            have g4 := HG4.out wz (kz'.mono hBw)
            simp only [G, sv] at g4
            clear hv kz f1 f2 HH
            go_wp2_with fail
            go_region
            all_goals
              go_wp2_with fail
              go_ret2
              rw [HBE.out, HBV.out, HALL.out, HE2.out, HV2.out]
              exact ⟨_, rfl, .bare 4 (by omega) (by omega), kz'.drew⟩
theorem bound_any : Calls Tryz.prog 18 #[.agg #[.slice Ac cs.length cc, .string K, .int .i64 per, .slice An ns.length cn]] w (EndVEr (.int .i64 (bndV cs (kindN K) per ns)) S (bndErr cs (kindN K) per ns).1 (bndErr cs (kindN K) per ns).2 w) := by
  by_cases h1 : (gateErr cs (kindN K) per ns).1 = 0
  · exact bound_main Ac An cc cn cs K per ns S w B hB h h' hS hl hl' hcc h1
  · have HBE := Lib.hid (show bndErr cs (kindN K) per ns = gateErr cs (kindN K) per ns from if_pos h1)
    have HBV := Lib.hid (show bndV cs (kindN K) per ns = 0 from if_pos h1)
    have bW : Below w.heap.size w (w.alloc (.cells #[.slice Ac cs.length cc, .string K, .int .i64 per, .slice An ns.length cn] 34)) := (Below.refl _ _).alloc (Nat.le_refl _) _
    have H1 := Lib.hid h1
    have HCK := Lib.hid (gcheck_any Ac An cc cn cs K per ns S _ B (Nat.le_trans hB bW.size) (h.below (bW.mono hB)) (h'.below (bW.mono hB)) (hS.below (bW.mono hB)) hl hl')
    have BW := Lib.hid bW
    clear h1 bW hcc
    go_enter Tryz.func18, Tryz.ntmps18
    go_wp2_with fail
    refine (HCK.out).mono ?_
    rintro e w1 ⟨v, rfl, hv, k1⟩
    have HV := Lib.hid hv
    obtain ⟨T, ad, rfl⟩ := hv.some_of H1.out
    have k1' := BW.out.trans (k1.mono BW.out.size)
    clear hv
    go_wp2_with fail
    go_ret2
    rw [HBE.out, HBV.out]
    exact ⟨_, rfl, HV.out, k1'⟩
end
end Go.Proofs.YthgpbdlmadjndaaGreatDoor
