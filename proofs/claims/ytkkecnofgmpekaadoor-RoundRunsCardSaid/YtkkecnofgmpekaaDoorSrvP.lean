/- A link that serves packets by a picker: the plain function, its invariant, and that it ends. No program. No condition. -/
import Derived.Test.YtkkecnofgmpekaaDoorPk
namespace Go.Proofs.YtkkecnofgmpekaaDoor

/-- A picker: a packet comes; the next one (none: none waits); the link is idle; those that wait; what holds of its states. -/
structure Pol (σ : Type) where
  come : σ → Nat → σ
  pick : σ → Option (Nat × σ)
  rest : σ → σ
  wait : σ → List Nat
  ok : Nat → σ → Prop
structure PolOk {σ : Type} (M : Pol σ) (n : Nat) : Prop where
  ok_come : ∀ s k, M.ok k s → k < n → M.ok (k + 1) (M.come s k)
  ok_pick : ∀ s m k s', M.ok m s → M.pick s = some (k, s') → M.ok m s'
  ok_rest : ∀ s m, M.ok m s → M.wait s = [] → M.ok m (M.rest s)
  w_come : ∀ s k, M.ok k s → k < n → (M.wait (M.come s k)).Perm (k :: M.wait s)
  w_none : ∀ s m, M.ok m s → M.pick s = none → M.wait s = []
  w_some : ∀ s m k s', M.ok m s → M.pick s = some (k, s') → (M.wait s).Perm (k :: M.wait s')
  w_rest : ∀ s m, M.ok m s → M.wait s = [] → M.wait (M.rest s) = []

def aOf (p : List Pk) (k : Nat) : Int := (p.getD k ⟨0, 0, 0⟩).a
def sOf (p : List Pk) (k : Nat) : Int := (p.getD k ⟨0, 0, 0⟩).s
def fOf (p : List Pk) (k : Nat) : Int := (p.getD k ⟨0, 0, 0⟩).f
theorem getD_of {p : List Pk} {k : Nat} (h : k < p.length) : p.getD k ⟨0, 0, 0⟩ = p[k] := by simp [List.getD, h]
theorem aOf_of {p : List Pk} {k : Nat} (h : k < p.length) : aOf p k = p[k].a := by unfold aOf; rw [getD_of h]
theorem sOf_of {p : List Pk} {k : Nat} (h : k < p.length) : sOf p k = p[k].s := by unfold sOf; rw [getD_of h]
theorem fOf_of {p : List Pk} {k : Nat} (h : k < p.length) : fOf p k = p[k].f := by unfold fOf; rw [getD_of h]

/-- All that have come by now. -/
def comeL {σ : Type} (M : Pol σ) (now : Int) : List Pk → Nat → σ → Nat × σ
  | [], k, s => (k, s)
  | x :: r, k, s => if x.a ≤ now then comeL M now r (k + 1) (M.come s k) else (k, s)
structure St (σ : Type) where
  out : List Sn
  now : Int
  next : Nat
  s : σ
def stepS {σ : Type} (M : Pol σ) (p : List Pk) (per : Int) (t : St σ) : St σ :=
  match M.pick (comeL M t.now (p.drop t.next) t.next t.s).2 with
  | none => { out := t.out, now := aOf p (comeL M t.now (p.drop t.next) t.next t.s).1, next := (comeL M t.now (p.drop t.next) t.next t.s).1, s := M.rest (comeL M t.now (p.drop t.next) t.next t.s).2 }
  | some (k, s') => { out := t.out ++ [⟨k, t.now, t.now + per * sOf p k⟩], now := t.now + per * sOf p k, next := (comeL M t.now (p.drop t.next) t.next t.s).1, s := s' }
def runS {σ : Type} (M : Pol σ) (p : List Pk) (per : Int) : Nat → St σ → St σ
  | 0, t => t
  | f + 1, t => if t.out.length < p.length then runS M p per f (stepS M p per t) else t
def serveS {σ : Type} (M : Pol σ) (p : List Pk) (per : Int) (s0 : σ) : St σ := runS M p per (2 * p.length + 1) ⟨[], 0, 0, s0⟩

/-- What holds at each round's head. -/
structure Inv {σ : Type} (M : Pol σ) (p : List Pk) (t : St σ) : Prop where
  next_le : t.next ≤ p.length
  perm : ((t.out.map fun x => x.p.toNat) ++ M.wait t.s).Perm (List.range t.next)
  pos : ∀ x ∈ t.out, 0 ≤ x.p
  now0 : 0 ≤ t.now
  now1 : t.now ≤ 1099511627776 + 1500000 * t.out.length
  ok : M.ok t.next t.s
/-- What falls. -/
def muV (p : List Pk) (n : Nat) (now : Int) : Nat := 2 * (p.length - n) + if now < aOf p n then 1 else 0
def mu {σ : Type} (p : List Pk) (t : St σ) : Nat := muV p t.out.length t.now

/-- What holds while packets come. -/
structure InvC {σ : Type} (M : Pol σ) (p : List Pk) (out : List Sn) (k : Nat) (s : σ) : Prop where
  k_le : k ≤ p.length
  perm : ((out.map fun x => x.p.toNat) ++ M.wait s).Perm (List.range k)
  ok : M.ok k s
theorem InvC.wait_lt {σ : Type} {M : Pol σ} {p : List Pk} {out : List Sn} {k : Nat} {s : σ} (h : InvC M p out k s) {j : Nat} (hj : j ∈ M.wait s) : j < k :=
  List.mem_range.1 (h.perm.mem_iff.1 (List.mem_append_right _ hj))
theorem InvC.come {σ : Type} {M : Pol σ} {p : List Pk} {out : List Sn} {k : Nat} {s : σ} (hM : PolOk M p.length) (h : InvC M p out k s) (hk : k < p.length) : InvC M p out (k + 1) (M.come s k) := by
  refine ⟨hk, ?_, hM.ok_come s k h.ok hk⟩
  rw [List.range_succ]
  refine ((hM.w_come s k h.ok hk).append_left _).trans ?_
  refine (List.perm_middle).trans ?_
  exact (List.Perm.cons k h.perm).trans (List.perm_append_comm (l₁ := [k]))
theorem comeL_inv {σ : Type} {M : Pol σ} {p : List Pk} (hM : PolOk M p.length) {out : List Sn} (now : Int) (r : List Pk) (k : Nat) (s : σ) (hr : p.drop k = r) (h : InvC M p out k s) :
    InvC M p out (comeL M now r k s).1 (comeL M now r k s).2 ∧ ((comeL M now r k s).1 < p.length → now < aOf p (comeL M now r k s).1) := by
  induction r generalizing k s with
  | nil =>
    have : p.length ≤ k := by have := congrArg List.length hr; simp at this; omega
    exact ⟨h, fun h2 => absurd h2 (by simp only [comeL]; omega)⟩
  | cons x r ih =>
    have hk : k < p.length := by
      have := congrArg List.length hr
      simp at this
      omega
    have hd := List.drop_eq_getElem_cons hk
    rw [hr] at hd
    injection hd with hx hr'
    unfold comeL
    by_cases hc : x.a ≤ now
    · rw [if_pos hc]
      exact ih (k + 1) (M.come s k) hr'.symm (h.come hM hk)
    · rw [if_neg hc]
      refine ⟨h, fun _ => ?_⟩
      rw [aOf_of hk, ← hx]
      omega

theorem Inv.toC {σ : Type} {M : Pol σ} {p : List Pk} {t : St σ} (h : Inv M p t) : InvC M p t.out t.next t.s := ⟨h.next_le, h.perm, h.ok⟩
theorem InvC.cnt {σ : Type} {M : Pol σ} {p : List Pk} {out : List Sn} {k : Nat} {s : σ} (h : InvC M p out k s) : out.length + (M.wait s).length = k := by
  have := h.perm.length_eq
  simpa using this
/-- A picked one has come, and is a packet. -/
theorem InvC.pick_lt {σ : Type} {M : Pol σ} {p : List Pk} (hM : PolOk M p.length) {out : List Sn} {k : Nat} {s : σ} (h : InvC M p out k s) {j : Nat} {s' : σ} (hp : M.pick s = some (j, s')) : j < k :=
  h.wait_lt ((hM.w_some s _ j s' h.ok hp).mem_iff.2 List.mem_cons_self)
theorem InvC.idle {σ : Type} {M : Pol σ} {p : List Pk} (hM : PolOk M p.length) {out : List Sn} {k : Nat} {s : σ} (h : InvC M p out k s) (hp : M.pick s = none) : out.length = k := by
  have h1 := h.cnt
  rw [hM.w_none s _ h.ok hp] at h1
  simpa using h1

theorem step_inv {σ : Type} {M : Pol σ} {p : List Pk} {per : Int} (hM : PolOk M p.length) (hp : ∀ x ∈ p, okPk x) (h0 : 1 ≤ per) (h1 : per ≤ 1000) {t : St σ} (h : Inv M p t) (hl : t.out.length < p.length) :
    Inv M p (stepS M p per t) ∧ mu p (stepS M p per t) < mu p t := by
  obtain ⟨hc, hlt⟩ := comeL_inv hM t.now (p.drop t.next) t.next t.s rfl h.toC
  unfold stepS
  generalize comeL M t.now (p.drop t.next) t.next t.s = q at hc hlt
  cases hpk : M.pick q.2 with
  | none =>
    have hid := hc.idle hM hpk
    have hq : q.1 < p.length := by omega
    have hw := hM.w_none _ _ hc.ok hpk
    have hok := hp _ (List.getElem_mem hq)
    have ha := hlt hq
    refine ⟨⟨hc.k_le, ?_, h.pos, ?_, ?_, hM.ok_rest _ _ hc.ok hw⟩, ?_⟩
    · rw [hM.w_rest _ _ hc.ok hw, ← hw]; exact hc.perm
    · show 0 ≤ aOf p q.1
      rw [aOf_of hq]; exact hok.2.2.2.2.1
    · show aOf p q.1 ≤ _
      rw [aOf_of hq]; have := hok.2.2.2.2.2; simp only; omega
    · unfold mu muV
      simp only
      rw [hid, if_neg (by omega), if_pos ha]
      omega
  | some ks =>
    obtain ⟨k, s'⟩ := ks
    have hk : k < q.1 := hc.pick_lt hM hpk
    have hkl : k < p.length := Nat.lt_of_lt_of_le hk hc.k_le
    have hok := hp _ (List.getElem_mem hkl)
    have e1 := sOf_of hkl
    have m1 : 0 ≤ per * sOf p k := Int.mul_nonneg (by omega) (by rw [e1]; have := hok.2.2.1; omega)
    have m2 : per * sOf p k ≤ 1500000 := by
      have := Int.mul_le_mul h1 (by rw [e1]; exact hok.2.2.2.1 : sOf p k ≤ 1500) (by rw [e1]; have := hok.2.2.1; omega) (by omega : (0:Int) ≤ 1000)
      omega
    have n0 := h.now0
    have n1 := h.now1
    refine ⟨⟨hc.k_le, ?_, ?_, ?_, ?_, hM.ok_pick _ _ _ _ hc.ok hpk⟩, ?_⟩
    · have hperm := hc.perm
      have hw := hM.w_some _ _ _ _ hc.ok hpk
      simp only [List.map_append, List.map_cons, List.map_nil, Int.toNat_natCast]
      rw [List.append_assoc]
      exact ((hw.symm).append_left _).trans hperm
    · intro x hx
      rcases List.mem_append.1 hx with hx | hx
      · exact h.pos x hx
      · rw [List.mem_singleton.1 hx]; exact Int.natCast_nonneg _
    · simp only; omega
    · simp only [List.length_append, List.length_cons, List.length_nil]; omega
    · unfold mu muV
      simp only [List.length_append, List.length_cons, List.length_nil]
      split <;> split <;> omega

theorem comeL_out {σ : Type} (M : Pol σ) (p : List Pk) (now : Int) (k : Nat) (s : σ) (h : k < p.length → now < aOf p k) : comeL M now (p.drop k) k s = (k, s) := by
  by_cases hk : k < p.length
  · rw [List.drop_eq_getElem_cons hk]
    unfold comeL
    have := h hk
    rw [aOf_of hk] at this
    rw [if_neg (by omega)]
  · rw [List.drop_eq_nil_of_le (by omega)]
    rfl
theorem step_none {σ : Type} {M : Pol σ} {p : List Pk} {per : Int} {t : St σ} {k : Nat} {s : σ} (hq : comeL M t.now (p.drop t.next) t.next t.s = (k, s)) (hp : M.pick s = none) : stepS M p per t = ⟨t.out, aOf p k, k, M.rest s⟩ := by
  unfold stepS
  rw [hq, hp]
theorem step_some {σ : Type} {M : Pol σ} {p : List Pk} {per : Int} {t : St σ} {k j : Nat} {s s' : σ} (hq : comeL M t.now (p.drop t.next) t.next t.s = (k, s)) (hp : M.pick s = some (j, s')) :
    stepS M p per t = ⟨t.out ++ [⟨j, t.now, t.now + per * sOf p j⟩], t.now + per * sOf p j, k, s'⟩ := by
  unfold stepS
  rw [hq, hp]
theorem inv_start {σ : Type} {M : Pol σ} (p : List Pk) {s0 : σ} (hw : M.wait s0 = []) (ho : M.ok 0 s0) : Inv M p ⟨[], 0, 0, s0⟩ :=
  ⟨Nat.zero_le _, by simp [hw], by simp, Int.le_refl _, by simp, ho⟩
theorem mu_start {σ : Type} (p : List Pk) (s0 : σ) : mu p (⟨[], 0, 0, s0⟩ : St σ) ≤ 2 * p.length + 1 := by
  unfold mu muV
  simp only [List.length_nil]
  split <;> omega
theorem runS_done {σ : Type} (M : Pol σ) (p : List Pk) (per : Int) (f : Nat) (t : St σ) (h : ¬ t.out.length < p.length) : runS M p per f t = t := by
  cases f with
  | zero => rfl
  | succ f => unfold runS; rw [if_neg h]
theorem runS_step {σ : Type} (M : Pol σ) (p : List Pk) (per : Int) (f : Nat) (t : St σ) (h : t.out.length < p.length) (hf : mu p t ≤ f) : runS M p per f t = runS M p per (f - 1) (stepS M p per t) := by
  cases f with
  | zero => unfold mu muV at hf; omega
  | succ f => show (if _ then _ else _) = _; rw [if_pos h]; rfl
/-- The run ends with all packets sent, and the invariant. -/
theorem run_all {σ : Type} {M : Pol σ} {p : List Pk} {per : Int} (hM : PolOk M p.length) (hp : ∀ x ∈ p, okPk x) (h0 : 1 ≤ per) (h1 : per ≤ 1000) (f : Nat) (t : St σ) (h : Inv M p t) (hf : mu p t ≤ f) (hl : t.out.length ≤ p.length) :
    Inv M p (runS M p per f t) ∧ (runS M p per f t).out.length = p.length := by
  induction f generalizing t with
  | zero =>
    unfold mu muV at hf
    refine ⟨h, ?_⟩
    show t.out.length = _
    omega
  | succ f ih =>
    by_cases hlt : t.out.length < p.length
    · obtain ⟨h2, h3⟩ := step_inv hM hp h0 h1 h hlt
      unfold runS
      rw [if_pos hlt]
      refine ih _ h2 (by omega) ?_
      have hc := h2.toC.cnt
      have := h2.next_le
      omega
    · unfold runS
      rw [if_neg hlt]
      exact ⟨h, by omega⟩
/-- What each step keeps holds at the end. -/
theorem run_ind {σ : Type} {M : Pol σ} {p : List Pk} {per : Int} (hM : PolOk M p.length) (hp : ∀ x ∈ p, okPk x) (h0 : 1 ≤ per) (h1 : per ≤ 1000) (J : St σ → Prop) (hJ : ∀ t, Inv M p t → t.out.length < p.length → J t → J (stepS M p per t)) (f : Nat) (t : St σ) (h : Inv M p t) (hj : J t) : J (runS M p per f t) := by
  induction f generalizing t with
  | zero => exact hj
  | succ f ih =>
    unfold runS
    by_cases hlt : t.out.length < p.length
    · rw [if_pos hlt]
      exact ih _ (step_inv hM hp h0 h1 h hlt).1 (hJ t h hlt hj)
    · rw [if_neg hlt]
      exact hj
end Go.Proofs.YtkkecnofgmpekaaDoor
