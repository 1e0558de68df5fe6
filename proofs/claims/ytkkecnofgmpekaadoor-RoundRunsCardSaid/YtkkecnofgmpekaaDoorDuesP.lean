/- JACKSON's law for whatever order: the plain part. No program. No condition. -/
import Derived.Test.YtkkecnofgmpekaaDoorLeastPl
import Derived.Test.YtkkecnofgmpekaaDoorLate
import Derived.Test.YtkkecnofgmpekaaDoorDue
namespace Go.Proofs.YtkkecnofgmpekaaDoor
structure Oth (p : List Pk) (per a0 : Int) (ol i : Nat) (acc : List Sn) (now : Int) : Prop where
  ch : chain p per a0 acc
  nw : now = endT a0 acc
  nd : (acc.map fun x => x.p.toNat).Nodup
  ok : ∀ x ∈ acc, 0 ≤ x.p ∧ x.p.toNat < p.length
  all : ∀ j, j < p.length → ol + j < i → dnB acc j = true
  len : acc.length ≤ i
  n0 : 0 ≤ now
  n1 : now ≤ 1099511627776 + 1500000 * i
  top : ∀ x ∈ acc, 0 ≤ x.t ∧ x.t ≤ 1099511627776 + 1500000 * i
section
variable {p : List Pk} {per a0 : Int} {ol i : Nat} {acc : List Sn} {now : Int}
theorem oth_start (h0 : 0 ≤ a0) (h1 : a0 ≤ 1099511627776) : Oth p per a0 ol 0 [] a0 :=
  ⟨trivial, rfl, List.nodup_nil, by simp, fun j _ h => absurd h (Nat.not_lt_zero _), Nat.le_refl _, h0, by simpa using h1, by simp⟩
theorem Oth.skip (h : Oth p per a0 ol i acc now) (hs : ∀ j, i = ol + j → dnB acc j = true) : Oth p per a0 ol (i + 1) acc now :=
  ⟨h.ch, h.nw, h.nd, h.ok, fun j hj hi => by
    rcases Nat.lt_succ_iff_lt_or_eq.1 hi with h9 | h9
    · exact h.all j hj h9
    · exact hs j h9.symm, Nat.le_succ_of_le h.len, h.n0, by have := h.n1; omega, fun x hx => by have := h.top x hx; omega⟩
theorem Oth.take_ (h : Oth p per a0 ol i acc now) (hp : ∀ x ∈ p, okPk x) (h0 : 1 ≤ per) (h1 : per ≤ 1000) {k : Nat} (hk : k < p.length) (hd : dnB acc k = false) (hs : ∀ j, i = ol + j → j = k) :
    Oth p per a0 ol (i + 1) (acc ++ [⟨k, now, now + per * p[k].s⟩]) (now + per * p[k].s) := by
  have hok := hp _ (List.getElem_mem hk)
  have m1 : 0 ≤ per * p[k].s := Int.mul_nonneg (by omega) (by have := hok.2.2.1; omega)
  have m2 : per * p[k].s ≤ 1500000 := by
    have := Int.mul_le_mul h1 hok.2.2.2.1 (by have := hok.2.2.1; omega) (by omega : (0:Int) ≤ 1000)
    omega
  have q0 := h.n0
  have q1 := h.n1
  obtain ⟨c1, c2⟩ := chain_add (x := ⟨k, now, now + per * p[k].s⟩) h.ch (by simp only [Int.toNat_natCast]; rw [sOf_of hk, ← h.nw])
  refine ⟨c1, c2.symm, ?_, fun x hx => ?_, fun j hj hi => ?_, ?_, by omega, by omega, fun x hx => ?_⟩
  · rw [List.map_append, List.nodup_append]
    refine ⟨h.nd, by simp, fun a ha b hb e => ?_⟩
    obtain ⟨y, hy, rfl⟩ := List.mem_map.1 ha
    simp at hb
    have := (h.ok y hy).1
    exact dnB_not.1 hd y hy (by omega)
  · rcases List.mem_append.1 hx with hx | hx
    · exact h.ok x hx
    · rw [List.mem_singleton.1 hx]; simp; exact hk
  · rw [dnB_add]
    rcases Nat.lt_succ_iff_lt_or_eq.1 hi with h9 | h9
    · rw [h.all j hj h9]; rfl
    · have := hs j h9.symm
      subst this
      simp
  · simp; have := h.len; omega
  · rcases List.mem_append.1 hx with hx | hx
    · have := h.top x hx; omega
    · rw [List.mem_singleton.1 hx]; simp only; omega
theorem Oth.perm (h : Oth p per a0 ol (ol + p.length) acc now) : (acc.map fun x => x.p.toNat).Perm (List.range p.length) := by
  refine (List.perm_ext_iff_of_nodup h.nd List.nodup_range).2 fun j => ?_
  rw [List.mem_range]
  refine ⟨fun hj => ?_, fun hj => ?_⟩
  · obtain ⟨x, hx, rfl⟩ := List.mem_map.1 hj
    exact (h.ok x hx).2
  · obtain ⟨y, hy, e⟩ := dnB_iff.1 (h.all j hj (by omega))
    exact List.mem_map.2 ⟨y, hy, by omega⟩
end
theorem sentBad_none {n : Nat} {l : List Sn} (h : ∀ x ∈ l, 0 ≤ x.p ∧ x.p.toNat < n) (k : Nat) : sentBad n l k = -1 := by
  induction l generalizing k with
  | nil => rfl
  | cons x r ih =>
    unfold sentBad
    have := h x List.mem_cons_self
    rw [if_pos (by omega)]
    exact ih (fun y hy => h y (List.mem_cons_of_mem _ hy)) _
theorem lateGo_ge (p : List Pk) (dues : List Int) (l : List Sn) (n : Int) : n ≤ lateGo p dues n l ∧ ∀ x ∈ l, lateY p dues x ≤ lateGo p dues n l := by
  induction l generalizing n with
  | nil => exact ⟨Int.le_refl _, by simp⟩
  | cons x r ih =>
    obtain ⟨h1, h2⟩ := ih (if n < lateY p dues x then lateY p dues x else n)
    have h3 : n ≤ (if n < lateY p dues x then lateY p dues x else n) := by split <;> omega
    have h4 : lateY p dues x ≤ (if n < lateY p dues x then lateY p dues x else n) := by split <;> omega
    refine ⟨Int.le_trans h3 h1, fun y hy => ?_⟩
    rcases List.mem_cons.1 hy with rfl | hy
    · exact Int.le_trans h4 h1
    · exact h2 y hy
theorem lateGo_or (p : List Pk) (dues : List Int) (l : List Sn) (n : Int) : lateGo p dues n l = n ∨ ∃ x ∈ l, lateGo p dues n l = lateY p dues x := by
  induction l generalizing n with
  | nil => exact .inl rfl
  | cons x r ih =>
    rcases ih (if n < lateY p dues x then lateY p dues x else n) with h | ⟨y, hy, h⟩
    · by_cases hc : n < lateY p dues x
      · rw [if_pos hc] at h
        exact .inr ⟨x, List.mem_cons_self, by show lateGo p dues (if n < lateY p dues x then lateY p dues x else n) r = _; rw [if_pos hc]; exact h⟩
      · rw [if_neg hc] at h
        exact .inl (by show lateGo p dues (if n < lateY p dues x then lateY p dues x else n) r = _; rw [if_neg hc]; exact h)
    · exact .inr ⟨y, List.mem_cons_of_mem _ hy, h⟩
theorem lateY_key (p : List Pk) (dues : List Int) (x : Sn) : lateY p dues x = x.t - dueKey p dues x.p.toNat := by
  unfold lateY dueKey
  omega
theorem dues_le {p : List Pk} {per a0 : Int} {dues : List Int} (hp : ∀ x ∈ p, okPk x) (hs : p.Pairwise (fun x y => x.a ≤ y.a)) (h0 : 1 ≤ per) (h1 : per ≤ 1000) (ha : ∀ j, j < p.length → aOf p j = a0) (hz : 0 ≤ a0) {ol : Nat} {acc : List Sn} {now : Int} (h : Oth p per a0 ol (ol + p.length) acc now) :
    lateGo p dues 0 (leastL p per (dueKey p dues)) ≤ lateGo p dues 0 acc := by
  rcases lateGo_or p dues (leastL p per (dueKey p dues)) 0 with e | ⟨x, hx, e⟩
  · rw [e]; exact (lateGo_ge p dues acc 0).1
  · rw [e]
    obtain ⟨z, hz1, hz2⟩ := jackson (key := dueKey p dues) hp hs h0 h1 ha hz acc h.ch h.perm x hx
    rw [← lateY_key, ← lateY_key] at hz2
    exact Int.le_trans hz2 ((lateGo_ge p dues acc 0).2 z hz1)
theorem srv_top {σ : Type} {M : Pol σ} {p : List Pk} {per : Int} {s0 : σ} (hM : PolOk M p.length) (hp : ∀ x ∈ p, okPk x) (h0 : 1 ≤ per) (h1 : per ≤ 1000) (hw : M.wait s0 = []) (ho : M.ok 0 s0) :
    (∀ x ∈ (serveS M p per s0).out, 0 ≤ x.f ∧ x.f ≤ x.t ∧ x.t ≤ 1099511627776 + 1500000 * p.length) ∧ (∀ x ∈ (serveS M p per s0).out, 0 ≤ x.p ∧ x.p.toNat < p.length) := by
  have hi := inv_start p hw ho
  have hJ := run_ind hM hp h0 h1 (fun t => ∀ x ∈ t.out, (0 ≤ x.f ∧ x.f ≤ x.t ∧ x.t ≤ t.now) ∧ 0 ≤ x.p ∧ x.p.toNat < p.length) (fun t hInv hlt hj => by
    obtain ⟨hc, hlt2⟩ := comeL_inv hM t.now (p.drop t.next) t.next t.s rfl hInv.toC
    have hn0 := hInv.now0
    unfold stepS
    generalize comeL M t.now (p.drop t.next) t.next t.s = q at hc hlt2
    cases hpk : M.pick q.2 with
    | none =>
      have hid := hc.idle hM hpk
      have h9 := hlt2 (by omega)
      intro x hx
      have := hj x hx
      simp only at hx ⊢
      omega
    | some ks =>
      obtain ⟨k, s'⟩ := ks
      have hk : k < q.1 := hc.pick_lt hM hpk
      have hkl : k < p.length := Nat.lt_of_lt_of_le hk hc.k_le
      have hok := hp _ (List.getElem_mem hkl)
      have m1 : 0 ≤ per * sOf p k := Int.mul_nonneg (by omega) (by rw [sOf_of hkl]; have := hok.2.2.1; omega)
      intro x hx
      simp only at hx ⊢
      rcases List.mem_append.1 hx with hx | hx
      · have := hj x hx; omega
      · rw [List.mem_singleton.1 hx]; simp only [Int.toNat_natCast]; omega) (2 * p.length + 1) _ hi (by simp)
  obtain ⟨hI, hl⟩ := run_all hM hp h0 h1 (2 * p.length + 1) _ hi (mu_start p s0) (Nat.zero_le _)
  have hn := hI.now1
  rw [hl] at hn
  refine ⟨fun x hx => ?_, fun x hx => (hJ x hx).2⟩
  have := (hJ x hx).1
  omega
end Go.Proofs.YtkkecnofgmpekaaDoor
