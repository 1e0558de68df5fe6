/- A link in order, plainly: Lindley's recursion. No program. -/
import Derived.Test.YtkkecnofgmpekaaDoorFifo
namespace Go.Proofs.YtkkecnofgmpekaaDoor
def lindL (per : Int) : Int → Nat → List Pk → List Sn
  | _, _, [] => []
  | to, k, x :: r => ⟨k, if to < x.a then x.a else to, (if to < x.a then x.a else to) + per * x.s⟩ :: lindL per ((if to < x.a then x.a else to) + per * x.s) (k + 1) r
theorem lindL_len (per : Int) (p : List Pk) (to : Int) (k : Nat) : (lindL per to k p).length = p.length := by
  induction p generalizing to k with
  | nil => rfl
  | cons x r ih => unfold lindL; simp [ih]
theorem comeL_fifo (now : Int) (r : List Pk) (k : Nat) (s : Nat × Nat) : (comeL fifoM now r k s).2.2 = s.2 := by
  induction r generalizing k s with
  | nil => rfl
  | cons x r ih =>
    unfold comeL
    split
    · exact ih (k + 1) _
    · rfl
theorem comeL_ge {σ : Type} (M : Pol σ) (now : Int) (r : List Pk) (k : Nat) (s : σ) : k ≤ (comeL M now r k s).1 := by
  induction r generalizing k s with
  | nil => exact Nat.le_refl _
  | cons x r ih =>
    unfold comeL
    split
    · exact Nat.le_trans (Nat.le_succ k) (ih (k + 1) _)
    · exact Nat.le_refl _
/-- What has come by comeL has come by now. -/
theorem comeL_le {σ : Type} (M : Pol σ) (p : List Pk) (now : Int) (r : List Pk) (k : Nat) (s : σ) (hr : p.drop k = r) : ∀ j, k ≤ j → j < (comeL M now r k s).1 → aOf p j ≤ now := by
  induction r generalizing k s with
  | nil => intro j h1 h2; simp only [comeL] at h2; omega
  | cons x r ih =>
    have hk : k < p.length := by
      have := congrArg List.length hr
      simp at this
      omega
    have hd := List.drop_eq_getElem_cons hk
    rw [hr] at hd
    injection hd with hx hr'
    unfold comeL
    by_cases hc : x.a ≤ now
    · rw [if_pos hc]
      intro j h1 h2
      rcases Nat.eq_or_lt_of_le h1 with rfl | h3
      · rw [aOf_of hk, ← hx]; exact hc
      · exact ih (k + 1) (M.come s k) hr'.symm j h3 h2
    · rw [if_neg hc]
      intro j h1 h2
      simp only at h2
      omega
structure FifoJ (p : List Pk) (per : Int) (t : St (Nat × Nat)) : Prop where
  s2 : t.s.2 = t.out.length
  came : ∀ j, j < t.next → aOf p j ≤ t.now
  eq : lindL per 0 0 p = t.out ++ lindL per t.now t.out.length (p.drop t.out.length)
theorem fifo_step {p : List Pk} {per : Int} (hp : ∀ x ∈ p, okPk x) (h0 : 1 ≤ per) (t : St (Nat × Nat)) (h : Inv fifoM p t) (hlt : t.out.length < p.length) (hj : FifoJ p per t) : FifoJ p per (stepS fifoM p per t) := by
  obtain ⟨hc, hlt2⟩ := comeL_inv (fifoOk _) t.now (p.drop t.next) t.next t.s rfl h.toC
  have e2 := comeL_fifo t.now (p.drop t.next) t.next t.s
  have hge := comeL_ge fifoM t.now (p.drop t.next) t.next t.s
  have hle := comeL_le fifoM p t.now (p.drop t.next) t.next t.s rfl
  unfold stepS
  generalize comeL fifoM t.now (p.drop t.next) t.next t.s = q at hc hlt2 e2 hge hle
  have hq1 : q.2.1 = q.1 := hc.ok.1
  have hd := List.drop_eq_getElem_cons hlt
  have eq := hj.eq
  rw [hd] at eq
  have ea := aOf_of hlt
  have es := sOf_of hlt
  have hs2 := hj.s2
  by_cases hpk : q.2.2 = q.2.1
  · have hp2 : fifoM.pick q.2 = none := if_pos hpk
    rw [hp2]
    have hm : q.1 = t.out.length := by omega
    have hnow := hlt2 (by omega)
    refine ⟨by show q.2.2 = t.out.length; omega, ?_, ?_⟩
    · intro j hjj
      show aOf p j ≤ aOf p q.1
      have hj1 : j < q.1 := hjj
      by_cases h9 : j < t.next
      · have := hj.came j h9; omega
      · have := hle j (by omega) hj1; omega
    · show _ = t.out ++ lindL per (aOf p q.1) t.out.length (p.drop t.out.length)
      rw [eq, hd, hm, ea]
      rw [hm, ea] at hnow
      simp only [lindL]
      rw [if_pos hnow, if_neg (Int.lt_irrefl _)]
  · have hp2 : fifoM.pick q.2 = some (q.2.2, (q.2.1, q.2.2 + 1)) := if_neg hpk
    rw [hp2]
    have hok2 := hc.ok.2
    have hm : q.2.2 = t.out.length := by omega
    have hcame : aOf p t.out.length ≤ t.now := by
      by_cases h9 : t.out.length < t.next
      · exact hj.came _ h9
      · exact hle _ (by omega) (by omega)
    have hx := hp _ (List.getElem_mem hlt)
    have m1 : 0 ≤ per * sOf p t.out.length := Int.mul_nonneg (by omega) (by rw [es]; have := hx.2.2.1; omega)
    refine ⟨by show q.2.2 + 1 = _; simp; omega, ?_, ?_⟩
    · intro j hjj
      show aOf p j ≤ t.now + per * sOf p q.2.2
      have hj1 : j < q.1 := hjj
      rw [hm]
      by_cases h9 : j < t.next
      · have := hj.came j h9; omega
      · have := hle j (by omega) hj1; omega
    · show _ = (t.out ++ [⟨(q.2.2 : Int), t.now, t.now + per * sOf p q.2.2⟩]) ++ lindL per (t.now + per * sOf p q.2.2) (t.out ++ [_]).length (p.drop (t.out ++ [_]).length)
      rw [eq, hm, List.append_assoc]
      congr 1
      simp only [lindL, List.length_append, List.length_cons, List.length_nil]
      rw [ea] at hcame
      rw [if_neg (by omega), es]
      rfl
theorem fifoL_eq {p : List Pk} {per : Int} (hp : ∀ x ∈ p, okPk x) (h0 : 1 ≤ per) (h1 : per ≤ 1000) : fifoL p per = lindL per 0 0 p := by
  have hi : Inv fifoM p ⟨[], 0, 0, (0, 0)⟩ := inv_start p rfl ⟨rfl, Nat.le_refl _⟩
  have hj := run_ind (fifoOk _) hp h0 h1 (FifoJ p per) (fun t a b c => fifo_step hp h0 t a b c) (2 * p.length + 1) _ hi ⟨rfl, fun j hj => by simp at hj, rfl⟩
  have hl := (run_all (fifoOk _) hp h0 h1 (2 * p.length + 1) _ hi (mu_start p (0, 0)) (Nat.zero_le _)).2
  have := hj.eq
  rw [hl, List.drop_eq_nil_of_le (Nat.le_refl _)] at this
  show (serveS fifoM p per (0, 0)).out = _
  rw [this]
  simp [serveS, lindL]
end Go.Proofs.YtkkecnofgmpekaaDoor
