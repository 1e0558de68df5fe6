/- What each link does is what a link may do, plainly. No program. No condition. -/
import Derived.Test.YtoomffajodheaaaGreatDoorQAudP
import Derived.Test.YtoomffajodheaaaGreatDoorQPlnM
import Derived.Test.YtoomffajodheaaaGreatDoorQFifoM2
set_option linter.all false
namespace Go.Proofs.YtoomffajodheaaaGreatDoor
theorem othGo_false {d P : Nat → Bool} (m k : Nat) (h : ∀ j, k ≤ j → j < k + m → d j = false → P j = false) : othGo d P m k = false := by
  induction m generalizing k with
  | zero => rfl
  | succ m ih =>
    show (!d k && P k || othGo d P m (k + 1)) = false
    rw [ih (k + 1) fun j h1 h2 => h j (by omega) (by omega), Bool.or_false]
    cases hd : d k
    · rw [h k (Nat.le_refl _) (by omega) hd]; rfl
    · rfl
theorem oth_false {n : Nat} {d P : Nat → Bool} (h : ∀ j, j < n → d j = false → P j = false) : oth n d P = false := othGo_false n 0 fun j _ h2 => h j (by omega)
/-- Of a flow the first is picked. -/
def TurnOk {σ : Type} (M : Pol σ) (p : List Pk) : Prop := ∀ m s k s', m ≤ p.length → M.ok m s → M.pick s = some (k, s') → ∀ j ∈ M.wait s, j < k → fOf p j ≠ fOf p k
def lastT (l : List Sn) : Int := l.foldl (fun _ x => x.t) 0
theorem lastT_app (l : List Sn) (x : Sn) : lastT (l ++ [x]) = x.t := by simp [lastT]
theorem dSet_dnB (out : List Sn) (x : Sn) (hx : 0 ≤ x.p) : dSet (dnB out) x.p.toNat = dnB (out ++ [x]) := by
  funext j
  unfold dSet
  rw [dnB_add]
  congr 1
  rw [Bool.eq_iff_iff, beq_iff_eq, beq_iff_eq]
  omega
structure AJ (p : List Pk) (per : Int) {σ : Type} (t : St σ) : Prop where
  go : ∀ r, auGo p per (fun _ => false) 0 (t.out ++ r) 0 = auGo p per (dnB t.out) (lastT t.out) r t.out.length
  le : lastT t.out ≤ t.now
  idle : t.now = lastT t.out ∨ ∀ j, j < p.length → dnB t.out j = false → t.now ≤ aOf p j
  cm : ∀ j, j < t.next → aOf p j ≤ t.now
section
variable {σ : Type} {M : Pol σ} {p : List Pk} {per : Int}
theorem aud_step (hM : PolOk M p.length) (hT : TurnOk M p) (hp : ∀ x ∈ p, okPk x) (hs : p.Pairwise (fun x y => x.a ≤ y.a)) (h0 : 1 ≤ per) (t : St σ) (h : Inv M p t) (hlt : t.out.length < p.length) (hj : AJ p per t) : AJ p per (stepS M p per t) := by
  have hcm := gcame_step hM hp hs h0 h hlt hj.cm
  have hwt := gwait_iff hM hs h hj.cm
  have hall := comeL_all hM hs h hj.cm
  obtain ⟨hc, hlt2⟩ := comeL_inv hM t.now (p.drop t.next) t.next t.s rfl h.toC
  obtain ⟨q, hq⟩ : ∃ q, q = comeL M t.now (p.drop t.next) t.next t.s := ⟨_, rfl⟩
  rw [← hq] at hwt hall hc hlt2
  cases hpk : M.pick q.2 with
  | none =>
    have e := step_none (M := M) (p := p) (per := per) (t := t) (k := q.1) (s := q.2) hq.symm hpk
    have hid := hc.idle hM hpk
    have hkl : q.1 < p.length := by omega
    have hnow := hlt2 hkl
    have hw := hM.w_none _ _ hc.ok hpk
    rw [e] at hcm ⊢
    refine ⟨hj.go, by have := hj.le; show lastT t.out ≤ aOf p q.1; omega, .inr fun j hjl hd => ?_, hcm⟩
    show aOf p q.1 ≤ aOf p j
    refine aOf_mono hs (Nat.not_lt.1 fun h9 => ?_) hjl
    have h8 := (hwt j hjl).2 ⟨hd, (hall j hjl).1 h9⟩
    rw [hw] at h8
    cases h8
  | some ks =>
    obtain ⟨k, s'⟩ := ks
    have e := step_some (M := M) (p := p) (per := per) (t := t) (k := q.1) (s := q.2) hq.symm hpk
    have hk : k < q.1 := hc.pick_lt hM hpk
    have hkl : k < p.length := Nat.lt_of_lt_of_le hk hc.k_le
    have hkw : k ∈ M.wait q.2 := (hM.w_some _ _ _ _ hc.ok hpk).mem_iff.2 List.mem_cons_self
    obtain ⟨hd, ha⟩ := (hwt k hkl).1 hkw
    have hau : auErr p per (dnB t.out) (lastT t.out) ⟨k, t.now, t.now + per * sOf p k⟩ = 0 := by
      unfold auErr
      have hle := hj.le
      simp only [Int.toNat_natCast]
      rw [if_neg (by rw [hd]; simp; omega), if_neg (by omega), if_neg (by simp), if_neg ?_, if_neg ?_]
      · rw [oth_false (fun j hjl hdj => ?_)]
        · simp
        · by_cases hjk : j < k
          · have hw : j ∈ M.wait q.2 := (hwt j hjl).2 ⟨hdj, by have := aOf_mono hs (Nat.le_of_lt hjk) hkl; omega⟩
            have := hT _ _ _ _ hc.k_le hc.ok hpk j hw hjk
            unfold sameFl
            rw [decide_eq_false this, Bool.and_false]
          · rw [decide_eq_false hjk, Bool.false_and]
      · rintro ⟨h1, h2⟩
        rcases hj.idle with h3 | h3
        · omega
        · rw [oth_false (fun j hjl hdj => decide_eq_false (by have := h3 j hjl hdj; omega))] at h2
          cases h2
    rw [e] at hcm ⊢
    refine ⟨fun r => ?_, ?_, .inl ?_, hcm⟩
    · show auGo p per _ 0 ((t.out ++ [_]) ++ r) 0 = auGo p per (dnB (t.out ++ [_])) (lastT (t.out ++ [_])) r (t.out ++ [_]).length
      rw [List.append_assoc, hj.go, List.singleton_append, auGo, if_neg (by rw [hau]; simp), dSet_dnB _ _ (Int.natCast_nonneg k), lastT_app, List.length_append]
      rfl
    · show lastT (t.out ++ [_]) ≤ _
      rw [lastT_app]
      exact Int.le_refl _
    · show _ = lastT (t.out ++ [_])
      rw [lastT_app]
theorem serve_audit {s0 : σ} (hM : PolOk M p.length) (hT : TurnOk M p) (hp : ∀ x ∈ p, okPk x) (hs : p.Pairwise (fun x y => x.a ≤ y.a)) (h0 : 1 ≤ per) (h1 : per ≤ 1000) (hw0 : M.wait s0 = []) (ho : M.ok 0 s0) :
    auGo p per (fun _ => false) 0 (serveS M p per s0).out 0 = (0, -1) := by
  have hJ := run_ind hM hp h0 h1 (AJ p per) (fun t x y z => aud_step hM hT hp hs h0 t x y z) (2 * p.length + 1) _ (inv_start p hw0 ho)
    ⟨fun r => by show auGo p per _ 0 ([] ++ r) 0 = auGo p per (dnB []) (lastT []) r 0; rfl, Int.le_refl _, .inl rfl, fun j hj => absurd hj (Nat.not_lt_zero _)⟩
  obtain ⟨hi, hl⟩ := run_all hM hp h0 h1 (2 * p.length + 1) _ (inv_start p hw0 ho) (mu_start p _) (Nat.zero_le _)
  have h9 := hJ.go []
  rw [List.append_nil] at h9
  show auGo p per _ 0 (runS M p per (2 * p.length + 1) ⟨[], 0, 0, s0⟩).out 0 = _
  rw [h9]
  have hcnt := hi.toC.cnt
  have hnl := hi.next_le
  have hw : M.wait (runS M p per (2 * p.length + 1) ⟨[], 0, 0, s0⟩).s = [] := List.eq_nil_of_length_eq_zero (by omega)
  have hpm := hi.perm
  rw [hw, List.append_nil] at hpm
  rw [auGo, if_neg]
  rw [oth_false (fun j hjl hd => ?_)]
  · simp
  · exfalso
    have h8 := (hpm.mem_iff (a := j)).2 (List.mem_range.2 (by omega))
    obtain ⟨y, hy, e⟩ := List.mem_map.1 h8
    have := hi.pos y hy
    exact dnB_not.1 hd y hy (by omega)
end
theorem fifo_turn (p : List Pk) : TurnOk fifoM p := fun m s k s' _ ⟨h1, h2⟩ hk j hj hlt => by
  simp only [fifoM] at hk hj
  split at hk
  · cases hk
  · simp only [Option.some.injEq, Prod.mk.injEq] at hk
    have := (List.mem_range'_1.1 hj).1
    omega
theorem least_turn {p : List Pk} {key : Nat → Int} (hk : ∀ i j, i < j → j < p.length → fOf p i = fOf p j → key i ≤ key j) : TurnOk (leastM key) p := fun m s k s' hm ⟨h1, h2⟩ hpk j hj hlt hf => by
  simp only [leastM] at hpk hj
  split at hpk
  · cases hpk
  · rename_i hne
    simp only [Option.some.injEq, Prod.mk.injEq] at hpk
    have hB := bestI_ok key s (by omega)
    have hBl := hB.lt
    have eg : s.getD (bestI key s) 0 = s[bestI key s] := by simp [List.getD, hBl]
    rw [eg] at hpk
    obtain ⟨a, ha, ea⟩ := List.getElem_of_mem hj
    have e1 : s.getD a 0 = j := by simp [List.getD, ha, ea]
    have hab : a < bestI key s := by
      refine Nat.not_le.1 fun h9 => ?_
      rcases Nat.eq_or_lt_of_le h9 with h7 | h7
      · have : s[bestI key s] = j := by rw [← ea]; simp only [h7]
        omega
      · have := List.pairwise_iff_getElem.1 h2 _ _ hBl ha h7
        omega
    have h5 := hB.first a hab
    rw [e1, eg, hpk.1] at h5
    have hkm : k < m := by rw [← hpk.1]; exact h1 _ (List.getElem_mem hBl)
    have := hk j k hlt (by omega) hf
    omega
theorem round_head {p : List Pk} {qs : List Int} (hp : ∀ x ∈ p, okPk x) (hq : ∀ g, 0 ≤ qu qs g) (f : Nat) (s : RS) (m k : Nat) (s' : RS) (h : RI p qs m s) (hk : rPick p qs f s = some (k, s')) : ∃ g, s.q g = k :: (s.q g).tail := by
  induction f generalizing s with
  | zero => cases hk
  | succ f ih =>
    unfold rPick at hk
    split at hk
    · cases hk
    · rename_i g s1 ht
      obtain ⟨h1, h2, h3, h4, h5, _⟩ := h.turn hq ht
      split at hk
      · rename_i hc
        simp only [Option.some.injEq, Prod.mk.injEq] at hk
        obtain ⟨e1, _⟩ := hk
        have h6 := rHead_mem (s := s1) (g := g) (by rw [h3]; exact h5)
        rw [e1, h3] at h6
        exact ⟨g, h6⟩
      · rename_i hc
        obtain ⟨h6, _⟩ := h1.end_ h2 hc
        obtain ⟨g', h7⟩ := ih (rEnd s1 g) h6 hk
        have e : (rEnd s1 g).q = s.q := by show s1.q = s.q; exact h3
        rw [e] at h7
        exact ⟨g', h7⟩
theorem round_turn {p : List Pk} {qs : List Int} (hp : ∀ x ∈ p, okPk x) (hq : ∀ g, 0 ≤ qu qs g) : TurnOk (roundM p qs) p := fun m s k s' _ hok hpk j hj hlt hf => by
  have h : RI p qs m s := hok
  obtain ⟨g, hg⟩ := round_head hp hq _ s m k s' h hpk
  obtain ⟨g', _, hj'⟩ := List.mem_flatMap.1 (show j ∈ rWait s from hj)
  have h1 := (h.fl g' j hj').2
  have h2 := (h.fl g k (by rw [hg]; exact List.mem_cons_self)).2
  have h3 : g' = g := by rw [← h1, ← h2]; unfold flN; rw [hf]
  subst h3
  have hso := h.so g'
  rw [hg] at hso hj'
  rcases List.mem_cons.1 hj' with h4 | h4
  · omega
  · have := (List.pairwise_cons.1 hso).1 j h4
    omega
theorem fair_turn {p : List Pk} {ws : List Int} (hp : ∀ x ∈ p, okPk x) (hw : wOk ws) : TurnOk (fairM p ws) p := fun m s k s' _ hok hpk j hj hlt hf => by
  have h : FI p ws m s := hok
  obtain ⟨h0, hkb, _⟩ := fPick_eq (show fPick s = some (k, s') from hpk)
  obtain ⟨w1, w2, e1, e2, e3, e4⟩ := fBest_ok h0
  have hh := fBest_head hp hw h e1 e3
  rw [← hkb] at hh e1
  have hj1 : j ∈ s.w := hj
  have hasc := h.asc
  rw [e1] at hj1 hasc
  rcases List.mem_append.1 hj1 with h4 | h4
  · have h5 : j ∈ fQ p (flN p k) w1 := fQ_mem.2 ⟨h4, by unfold flN; rw [hf]⟩
    rw [hh] at h5
    cases h5
  · rcases List.mem_cons.1 h4 with h5 | h5
    · omega
    · have := (List.pairwise_cons.1 (List.pairwise_append.1 hasc).2.1).1 j h5
      omega
end Go.Proofs.YtoomffajodheaaaGreatDoor
