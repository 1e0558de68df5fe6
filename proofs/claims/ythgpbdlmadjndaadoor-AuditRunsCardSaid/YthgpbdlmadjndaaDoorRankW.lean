/- A link by least keys, plainly: when one is sent, none that had come, and was not sent yet, has a lesser key, or the same one and a lesser number. No program. No condition. -/
import Derived.Test.YthgpbdlmadjndaaDoorRankP
import Derived.Test.YthgpbdlmadjndaaDoorLindP
namespace Go.Proofs.YthgpbdlmadjndaaDoor
theorem pktBad_sorted {l : List Pk} {m : Int} {k : Nat} (h : (pktBad l m k).1 = 0) : (∀ x ∈ l, m ≤ x.a) ∧ l.Pairwise (fun x y => x.a ≤ y.a) := by
  induction l generalizing m k with
  | nil => exact ⟨by simp, List.Pairwise.nil⟩
  | cons x r ih =>
    unfold pktBad at h
    split at h
    · split at h
      · simp at h
      · rename_i h2
        obtain ⟨i1, i2⟩ := ih h
        refine ⟨fun y hy => ?_, List.pairwise_cons.2 ⟨i1, i2⟩⟩
        rcases List.mem_cons.1 hy with rfl | hy
        · omega
        · have := i1 y hy; omega
    · simp at h
theorem pktErr_sorted {l : List Pk} (h : (pktErr l).1 = 0) : l.Pairwise (fun x y => x.a ≤ y.a) := by
  unfold pktErr at h
  by_cases h1 : 300 < l.length
  · rw [if_pos h1] at h; simp at h
  · rw [if_neg h1] at h; exact (pktBad_sorted h).2
theorem lookErr_sorted {p : List Pk} {per : Int} (h : (lookErr p per).1 = 0) : p.Pairwise (fun x y => x.a ≤ y.a) := by
  unfold lookErr at h
  by_cases h1 : (pktErr p).1 ≠ 0
  · rw [if_pos h1] at h; exact absurd h h1
  · exact pktErr_sorted (by omega)
theorem aOf_mono {p : List Pk} (h : p.Pairwise (fun x y => x.a ≤ y.a)) {i j : Nat} (hij : i ≤ j) (hj : j < p.length) : aOf p i ≤ aOf p j := by
  rcases Nat.eq_or_lt_of_le hij with rfl | hlt
  · exact Int.le_refl _
  · rw [aOf_of hj, aOf_of (Nat.lt_trans hlt hj)]
    exact List.pairwise_iff_getElem.1 h i j (Nat.lt_trans hlt hj) hj hlt
/-- All that have come by a tick, and no others. -/
theorem comeL_all {σ : Type} {M : Pol σ} {p : List Pk} (hM : PolOk M p.length) (hs : p.Pairwise (fun x y => x.a ≤ y.a)) {t : St σ} (h : Inv M p t) (hc : ∀ j, j < t.next → aOf p j ≤ t.now) (j : Nat) (hj : j < p.length) :
    j < (comeL M t.now (p.drop t.next) t.next t.s).1 ↔ aOf p j ≤ t.now := by
  obtain ⟨_, hlt2⟩ := comeL_inv hM t.now (p.drop t.next) t.next t.s rfl h.toC
  have hge := comeL_ge M t.now (p.drop t.next) t.next t.s
  have hle := comeL_le M p t.now (p.drop t.next) t.next t.s rfl
  generalize comeL M t.now (p.drop t.next) t.next t.s = q at hlt2 hge hle
  refine ⟨fun h1 => ?_, fun h1 => ?_⟩
  · by_cases h9 : j < t.next
    · exact hc j h9
    · exact hle j (by omega) h1
  · refine Nat.lt_of_not_le fun h2 => ?_
    have h3 := hlt2 (by omega)
    have := aOf_mono hs h2 hj
    omega
structure SentOk (p : List Pk) (key : Nat → Int) (prev : List Sn) (x : Sn) : Prop where
  pos : 0 ≤ x.p
  lt : x.p.toNat < p.length
  fresh : ∀ y ∈ prev, y.p ≠ x.p
  came : aOf p x.p.toNat ≤ x.f
  least : ∀ j, j < p.length → (∀ y ∈ prev, y.p ≠ j) → aOf p j ≤ x.f → key x.p.toNat ≤ key j ∧ (key j = key x.p.toNat → x.p.toNat ≤ j)
structure RankJ (p : List Pk) (key : Nat → Int) (t : St (List Nat)) : Prop where
  came : ∀ j, j < t.next → aOf p j ≤ t.now
  all : ∀ i (h : i < t.out.length), SentOk p key (t.out.take i) t.out[i]
theorem rank_step {p : List Pk} {per : Int} {key : Nat → Int} (hp : ∀ x ∈ p, okPk x) (hs : p.Pairwise (fun x y => x.a ≤ y.a)) (h0 : 1 ≤ per) (t : St (List Nat)) (h : Inv (leastM key) p t) (hlt : t.out.length < p.length) (hj : RankJ p key t) : RankJ p key (stepS (leastM key) p per t) := by
  obtain ⟨hc, hlt2⟩ := comeL_inv (leastOk key _) t.now (p.drop t.next) t.next t.s rfl h.toC
  have hall := comeL_all (leastOk key _) hs h hj.came
  unfold stepS
  generalize comeL (leastM key) t.now (p.drop t.next) t.next t.s = q at hc hlt2 hall
  cases hpk : (leastM key).pick q.2 with
  | none =>
    have hid := hc.idle (leastOk key _) hpk
    refine ⟨fun j hjj => ?_, hj.all⟩
    show aOf p j ≤ aOf p q.1
    exact aOf_mono hs (Nat.le_of_lt hjj) (by omega)
  | some ks =>
    obtain ⟨k, s'⟩ := ks
    have hk : k < q.1 := hc.pick_lt (leastOk key _) hpk
    have hkl : k < p.length := Nat.lt_of_lt_of_le hk hc.k_le
    have hok := hp _ (List.getElem_mem hkl)
    have m1 : 0 ≤ per * sOf p k := Int.mul_nonneg (by omega) (by rw [sOf_of hkl]; have := hok.2.2.1; omega)
    have hnd : ((t.out.map fun x => x.p.toNat) ++ q.2).Nodup := (hc.perm.nodup_iff).2 List.nodup_range
    have hokw := hc.ok.2
    simp only [leastM] at hpk hokw
    split at hpk
    · cases hpk
    · rename_i hne
      simp only [Option.some.injEq, Prod.mk.injEq] at hpk
      obtain ⟨hk1, hs1⟩ := hpk
      have hb := bestI_ok key q.2 (by omega)
      have hbl := hb.lt
      have hkm : k ∈ q.2 := by rw [← hk1]; simp [List.getD, hbl]
      refine ⟨fun j hjj => ?_, fun i hi => ?_⟩
      · show aOf p j ≤ t.now + per * sOf p k
        have hjj' : j < q.1 := hjj
        have := (hall j (Nat.lt_of_lt_of_le hjj' hc.k_le)).1 hjj'
        omega
      · simp only [List.length_append, List.length_cons, List.length_nil] at hi
        rcases Nat.lt_or_ge i t.out.length with h9 | h9
        · have := hj.all i h9
          simp only
          rw [List.take_append_of_le_length (Nat.le_of_lt h9), List.getElem_append_left h9]
          exact this
        · obtain rfl : i = t.out.length := by omega
          simp only
          rw [List.take_left', List.getElem_concat_length rfl]
          · refine ⟨Int.natCast_nonneg _, hkl, fun y hy e => ?_, (hall k hkl).1 hk, fun j hjl hfr hja => ?_⟩
            · have h1 : y.p.toNat = k := by simp only at e; omega
              exact (List.nodup_append.1 hnd).2.2 _ (List.mem_map.2 ⟨y, hy, rfl⟩) _ hkm h1
            · have hjq := (hall j hjl).2 hja
              have hjm : j ∈ q.2 := by
                rcases List.mem_append.1 (hc.perm.mem_iff.2 (List.mem_range.2 hjq)) with h1 | h1
                · obtain ⟨y, hy, e⟩ := List.mem_map.1 h1
                  have := h.pos y hy
                  exact absurd (show y.p = (j : Int) by omega) (hfr y hy)
                · exact h1
              obtain ⟨a, ha, rfl⟩ := List.getElem_of_mem hjm
              have e1 : q.2.getD a 0 = q.2[a] := by simp [List.getD, ha]
              have e2 : q.2.getD (bestI key q.2) 0 = q.2[bestI key q.2] := by simp [List.getD, hbl]
              have h1 := hb.le a ha
              simp only [Int.toNat_natCast]
              rw [hk1, e1] at h1
              refine ⟨h1, fun e => ?_⟩
              rcases Nat.lt_or_ge a (bestI key q.2) with h2 | h2
              · have := hb.first a h2
                rw [hk1, e1] at this
                omega
              · rw [← hk1, e2]
                rcases Nat.eq_or_lt_of_le h2 with h3 | h3
                · simp only [h3]; exact Nat.le_refl _
                · exact Nat.le_of_lt (List.pairwise_iff_getElem.1 hokw _ _ hbl ha h3)
          · rfl
def leastL (p : List Pk) (per : Int) (key : Nat → Int) : List Sn := (serveS (leastM key) p per []).out
theorem least_start (p : List Pk) (key : Nat → Int) : Inv (leastM key) p ⟨[], 0, 0, []⟩ := inv_start p rfl ⟨by simp, List.Pairwise.nil⟩
theorem leastL_len {p : List Pk} {per : Int} {key : Nat → Int} (hp : ∀ x ∈ p, okPk x) (h0 : 1 ≤ per) (h1 : per ≤ 1000) : (leastL p per key).length = p.length :=
  (run_all (leastOk key _) hp h0 h1 (2 * p.length + 1) _ (least_start p key) (mu_start p _) (Nat.zero_le _)).2
theorem leastL_ok {p : List Pk} {per : Int} {key : Nat → Int} (hp : ∀ x ∈ p, okPk x) (hs : p.Pairwise (fun x y => x.a ≤ y.a)) (h0 : 1 ≤ per) (h1 : per ≤ 1000) : ∀ i (h : i < (leastL p per key).length), SentOk p key ((leastL p per key).take i) (leastL p per key)[i] :=
  (run_ind (leastOk key _) hp h0 h1 (RankJ p key) (fun t a b c => rank_step hp hs h0 t a b c) (2 * p.length + 1) _ (least_start p key) ⟨fun j hj => by simp at hj, fun i hi => by simp at hi⟩).all
end Go.Proofs.YthgpbdlmadjndaaDoor
