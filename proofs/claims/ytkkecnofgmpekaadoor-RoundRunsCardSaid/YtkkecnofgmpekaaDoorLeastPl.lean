/- A link by least keys, plainly: when one is sent, none that had come, and was not sent yet, has a lesser key, or the same one and a lesser number. No program. No condition. The document's link by keys (scan for the least), plainly: it takes the same steps as a list of those that wait. No program. No condition. A link by keys that are all the same is a link in order, plainly. No program. No condition. JACKSON: where all come at once, by deadlines nobody can be less late, in whatever order they are sent. Plainly. No program. No condition. -/
import Derived.Test.YtkkecnofgmpekaaDoorRankP
import Derived.Test.YtkkecnofgmpekaaDoorLindP
namespace Go.Proofs.YtkkecnofgmpekaaDoor
theorem pktBad_sorted {l : List Pk} {m : Int} {k : Nat} (h : (pktBad l m k).1 = 0) : (∀ x ∈ l, m ≤ x.a) ∧ l.Pairwise (fun x y => x.a ≤ y.a) := by
  induction l generalizing m k with
  | nil => exact ⟨by simp, List.Pairwise.nil⟩
  | cons x r ih =>
    unfold pktBad at h
    split at h
    · split at h
      · simp at h
      · rename_i h2
        obtain ⟨i1, i2⟩ := ih h
        refine ⟨fun y hy => ?_, List.pairwise_cons.2 ⟨i1, i2⟩⟩
        rcases List.mem_cons.1 hy with rfl | hy
        · omega
        · have := i1 y hy; omega
    · simp at h
theorem pktErr_sorted {l : List Pk} (h : (pktErr l).1 = 0) : l.Pairwise (fun x y => x.a ≤ y.a) := by
  unfold pktErr at h
  by_cases h1 : 300 < l.length
  · rw [if_pos h1] at h; simp at h
  · rw [if_neg h1] at h; exact (pktBad_sorted h).2
theorem lookErr_sorted {p : List Pk} {per : Int} (h : (lookErr p per).1 = 0) : p.Pairwise (fun x y => x.a ≤ y.a) := by
  unfold lookErr at h
  by_cases h1 : (pktErr p).1 ≠ 0
  · rw [if_pos h1] at h; exact absurd h h1
  · exact pktErr_sorted (by omega)
theorem aOf_mono {p : List Pk} (h : p.Pairwise (fun x y => x.a ≤ y.a)) {i j : Nat} (hij : i ≤ j) (hj : j < p.length) : aOf p i ≤ aOf p j := by
  rcases Nat.eq_or_lt_of_le hij with rfl | hlt
  · exact Int.le_refl _
  · rw [aOf_of hj, aOf_of (Nat.lt_trans hlt hj)]
    exact List.pairwise_iff_getElem.1 h i j (Nat.lt_trans hlt hj) hj hlt
/-- All that have come by a tick, and no others. -/
theorem comeL_all {σ : Type} {M : Pol σ} {p : List Pk} (hM : PolOk M p.length) (hs : p.Pairwise (fun x y => x.a ≤ y.a)) {t : St σ} (h : Inv M p t) (hc : ∀ j, j < t.next → aOf p j ≤ t.now) (j : Nat) (hj : j < p.length) :
    j < (comeL M t.now (p.drop t.next) t.next t.s).1 ↔ aOf p j ≤ t.now := by
  obtain ⟨_, hlt2⟩ := comeL_inv hM t.now (p.drop t.next) t.next t.s rfl h.toC
  have hge := comeL_ge M t.now (p.drop t.next) t.next t.s
  have hle := comeL_le M p t.now (p.drop t.next) t.next t.s rfl
  generalize comeL M t.now (p.drop t.next) t.next t.s = q at hlt2 hge hle
  refine ⟨fun h1 => ?_, fun h1 => ?_⟩
  · by_cases h9 : j < t.next
    · exact hc j h9
    · exact hle j (by omega) h1
  · refine Nat.lt_of_not_le fun h2 => ?_
    have h3 := hlt2 (by omega)
    have := aOf_mono hs h2 hj
    omega
structure SentOk (p : List Pk) (key : Nat → Int) (prev : List Sn) (x : Sn) : Prop where
  pos : 0 ≤ x.p
  lt : x.p.toNat < p.length
  fresh : ∀ y ∈ prev, y.p ≠ x.p
  came : aOf p x.p.toNat ≤ x.f
  least : ∀ j, j < p.length → (∀ y ∈ prev, y.p ≠ j) → aOf p j ≤ x.f → key x.p.toNat ≤ key j ∧ (key j = key x.p.toNat → x.p.toNat ≤ j)
structure RankJ (p : List Pk) (key : Nat → Int) (t : St (List Nat)) : Prop where
  came : ∀ j, j < t.next → aOf p j ≤ t.now
  all : ∀ i (h : i < t.out.length), SentOk p key (t.out.take i) t.out[i]
theorem rank_step {p : List Pk} {per : Int} {key : Nat → Int} (hp : ∀ x ∈ p, okPk x) (hs : p.Pairwise (fun x y => x.a ≤ y.a)) (h0 : 1 ≤ per) (t : St (List Nat)) (h : Inv (leastM key) p t) (hlt : t.out.length < p.length) (hj : RankJ p key t) : RankJ p key (stepS (leastM key) p per t) := by
  obtain ⟨hc, hlt2⟩ := comeL_inv (leastOk key _) t.now (p.drop t.next) t.next t.s rfl h.toC
  have hall := comeL_all (leastOk key _) hs h hj.came
  unfold stepS
  generalize comeL (leastM key) t.now (p.drop t.next) t.next t.s = q at hc hlt2 hall
  cases hpk : (leastM key).pick q.2 with
  | none =>
    have hid := hc.idle (leastOk key _) hpk
    refine ⟨fun j hjj => ?_, hj.all⟩
    show aOf p j ≤ aOf p q.1
    exact aOf_mono hs (Nat.le_of_lt hjj) (by omega)
  | some ks =>
    obtain ⟨k, s'⟩ := ks
    have hk : k < q.1 := hc.pick_lt (leastOk key _) hpk
    have hkl : k < p.length := Nat.lt_of_lt_of_le hk hc.k_le
    have hok := hp _ (List.getElem_mem hkl)
    have m1 : 0 ≤ per * sOf p k := Int.mul_nonneg (by omega) (by rw [sOf_of hkl]; have := hok.2.2.1; omega)
    have hnd : ((t.out.map fun x => x.p.toNat) ++ q.2).Nodup := (hc.perm.nodup_iff).2 List.nodup_range
    have hokw := hc.ok.2
    simp only [leastM] at hpk hokw
    split at hpk
    · cases hpk
    · rename_i hne
      simp only [Option.some.injEq, Prod.mk.injEq] at hpk
      obtain ⟨hk1, hs1⟩ := hpk
      have hb := bestI_ok key q.2 (by omega)
      have hbl := hb.lt
      have hkm : k ∈ q.2 := by rw [← hk1]; simp [List.getD, hbl]
      refine ⟨fun j hjj => ?_, fun i hi => ?_⟩
      · show aOf p j ≤ t.now + per * sOf p k
        have hjj' : j < q.1 := hjj
        have := (hall j (Nat.lt_of_lt_of_le hjj' hc.k_le)).1 hjj'
        omega
      · simp only [List.length_append, List.length_cons, List.length_nil] at hi
        rcases Nat.lt_or_ge i t.out.length with h9 | h9
        · have := hj.all i h9
          simp only
          rw [List.take_append_of_le_length (Nat.le_of_lt h9), List.getElem_append_left h9]
          exact this
        · obtain rfl : i = t.out.length := by omega
          simp only
          rw [List.take_left', List.getElem_concat_length rfl]
          · refine ⟨Int.natCast_nonneg _, hkl, fun y hy e => ?_, (hall k hkl).1 hk, fun j hjl hfr hja => ?_⟩
            · have h1 : y.p.toNat = k := by simp only at e; omega
              exact (List.nodup_append.1 hnd).2.2 _ (List.mem_map.2 ⟨y, hy, rfl⟩) _ hkm h1
            · have hjq := (hall j hjl).2 hja
              have hjm : j ∈ q.2 := by
                rcases List.mem_append.1 (hc.perm.mem_iff.2 (List.mem_range.2 hjq)) with h1 | h1
                · obtain ⟨y, hy, e⟩ := List.mem_map.1 h1
                  have := h.pos y hy
                  exact absurd (show y.p = (j : Int) by omega) (hfr y hy)
                · exact h1
              obtain ⟨a, ha, rfl⟩ := List.getElem_of_mem hjm
              have e1 : q.2.getD a 0 = q.2[a] := by simp [List.getD, ha]
              have e2 : q.2.getD (bestI key q.2) 0 = q.2[bestI key q.2] := by simp [List.getD, hbl]
              have h1 := hb.le a ha
              simp only [Int.toNat_natCast]
              rw [hk1, e1] at h1
              refine ⟨h1, fun e => ?_⟩
              rcases Nat.lt_or_ge a (bestI key q.2) with h2 | h2
              · have := hb.first a h2
                rw [hk1, e1] at this
                omega
              · rw [← hk1, e2]
                rcases Nat.eq_or_lt_of_le h2 with h3 | h3
                · simp only [h3]; exact Nat.le_refl _
                · exact Nat.le_of_lt (List.pairwise_iff_getElem.1 hokw _ _ hbl ha h3)
          · rfl
def leastL (p : List Pk) (per : Int) (key : Nat → Int) : List Sn := (serveS (leastM key) p per []).out
theorem least_start (p : List Pk) (key : Nat → Int) : Inv (leastM key) p ⟨[], 0, 0, []⟩ := inv_start p rfl ⟨by simp, List.Pairwise.nil⟩
theorem leastL_len {p : List Pk} {per : Int} {key : Nat → Int} (hp : ∀ x ∈ p, okPk x) (h0 : 1 ≤ per) (h1 : per ≤ 1000) : (leastL p per key).length = p.length :=
  (run_all (leastOk key _) hp h0 h1 (2 * p.length + 1) _ (least_start p key) (mu_start p _) (Nat.zero_le _)).2
theorem leastL_ok {p : List Pk} {per : Int} {key : Nat → Int} (hp : ∀ x ∈ p, okPk x) (hs : p.Pairwise (fun x y => x.a ≤ y.a)) (h0 : 1 ≤ per) (h1 : per ≤ 1000) : ∀ i (h : i < (leastL p per key).length), SentOk p key ((leastL p per key).take i) (leastL p per key)[i] :=
  (run_ind (leastOk key _) hp h0 h1 (RankJ p key) (fun t a b c => rank_step hp hs h0 t a b c) (2 * p.length + 1) _ (least_start p key) ⟨fun j hj => by simp at hj, fun i hi => by simp at hi⟩).all
end Go.Proofs.YtkkecnofgmpekaaDoor
namespace Go.Proofs.YtkkecnofgmpekaaDoor
def dnB (out : List Sn) (j : Nat) : Bool := out.any fun y => y.p == (j : Int)
theorem dnB_iff {out : List Sn} {j : Nat} : dnB out j = true ↔ ∃ y ∈ out, y.p = (j : Int) := by
  unfold dnB
  simp [List.any_eq_true]
theorem dnB_not {out : List Sn} {j : Nat} : dnB out j = false ↔ ∀ y ∈ out, y.p ≠ (j : Int) := by
  rw [← Bool.not_eq_true, dnB_iff]
  exact ⟨fun h y hy e => h ⟨y, hy, e⟩, fun h ⟨y, hy, e⟩ => h y hy e⟩
theorem dnB_add (out : List Sn) (x : Sn) (j : Nat) : dnB (out ++ [x]) j = (dnB out j || x.p == (j : Int)) := by simp [dnB]
def BestAt (p : List Pk) (key : Nat → Int) (now : Int) (out : List Sn) (i : Nat) (best : Int) : Prop :=
  (best = -1 ∧ ∀ j, j < i → dnB out j = false → now < aOf p j) ∨
  ∃ b : Nat, b < i ∧ best = b ∧ dnB out b = false ∧ aOf p b ≤ now ∧ ∀ j, j < i → dnB out j = false → aOf p j ≤ now → key b ≤ key j ∧ (key j = key b → b ≤ j)
def FirstAt (out : List Sn) (i : Nat) (first : Int) : Prop :=
  (first = -1 ∧ ∀ j, j < i → dnB out j = true) ∨ ∃ f : Nat, f < i ∧ first = f ∧ dnB out f = false ∧ ∀ j, j < f → dnB out j = true
section
variable {p : List Pk} {key : Nat → Int} {now : Int} {out : List Sn} {i : Nat} {best first : Int}
theorem best0 : BestAt p key now out 0 (-1) := .inl ⟨rfl, fun _ h => absurd h (Nat.not_lt_zero _)⟩
theorem first0 : FirstAt out 0 (-1) := .inl ⟨rfl, fun _ h => absurd h (Nat.not_lt_zero _)⟩
theorem BestAt.skip (h : BestAt p key now out i best) (hs : dnB out i = true ∨ now < aOf p i) : BestAt p key now out (i + 1) best := by
  rcases h with ⟨e, h⟩ | ⟨b, hb, e, h1, h2, h3⟩
  · refine .inl ⟨e, fun j hj hd => ?_⟩
    rcases Nat.lt_succ_iff_lt_or_eq.1 hj with h9 | rfl
    · exact h j h9 hd
    · rcases hs with hs | hs
      · rw [hs] at hd; cases hd
      · exact hs
  · refine .inr ⟨b, by omega, e, h1, h2, fun j hj hd ha => ?_⟩
    rcases Nat.lt_succ_iff_lt_or_eq.1 hj with h9 | rfl
    · exact h3 j h9 hd ha
    · rcases hs with hs | hs
      · rw [hs] at hd; cases hd
      · omega
theorem BestAt.keep (h : BestAt p key now out i best) (hb : 0 ≤ best) (hk : key best.toNat ≤ key i) : BestAt p key now out (i + 1) best := by
  rcases h with ⟨e, h⟩ | ⟨b, hb, e, h1, h2, h3⟩
  · omega
  · have e2 : best.toNat = b := by omega
    rw [e2] at hk
    refine .inr ⟨b, by omega, e, h1, h2, fun j hj hd ha => ?_⟩
    rcases Nat.lt_succ_iff_lt_or_eq.1 hj with h9 | rfl
    · exact h3 j h9 hd ha
    · exact ⟨hk, fun _ => by omega⟩
theorem BestAt.new_ (h : BestAt p key now out i best) (hd : dnB out i = false) (ha : aOf p i ≤ now) (hk : best < 0 ∨ (0 ≤ best ∧ key i < key best.toNat)) : BestAt p key now out (i + 1) i := by
  refine .inr ⟨i, by omega, rfl, hd, ha, fun j hj hdj haj => ?_⟩
  rcases Nat.lt_succ_iff_lt_or_eq.1 hj with h9 | rfl
  · rcases h with ⟨e, h⟩ | ⟨b, hb, e, h1, h2, h3⟩
    · have := h j h9 hdj; omega
    · have e2 : best.toNat = b := by omega
      rw [e2] at hk
      have := h3 j h9 hdj haj
      omega
  · exact ⟨Int.le_refl _, fun _ => Nat.le_refl _⟩
theorem FirstAt.skip (h : FirstAt out i first) (hs : dnB out i = true ∨ 0 ≤ first) : FirstAt out (i + 1) first := by
  rcases h with ⟨e, h⟩ | ⟨f, hf, e, h1, h2⟩
  · refine .inl ⟨e, fun j hj => ?_⟩
    rcases Nat.lt_succ_iff_lt_or_eq.1 hj with h9 | rfl
    · exact h j h9
    · rcases hs with hs | hs
      · exact hs
      · omega
  · exact .inr ⟨f, by omega, e, h1, h2⟩
theorem FirstAt.new_ (h : FirstAt out i first) (hd : dnB out i = false) (hf : first < 0) : FirstAt out (i + 1) i := by
  rcases h with ⟨e, h⟩ | ⟨f, hf, e, h1, h2⟩
  · exact .inr ⟨i, by omega, rfl, hd, h⟩
  · omega
theorem BestAt.lt (h : BestAt p key now out i best) : best = -1 ∨ (0 ≤ best ∧ best < i) := by
  rcases h with ⟨e, _⟩ | ⟨b, hb, e, _⟩
  · exact .inl e
  · exact .inr (by omega)
theorem FirstAt.lt (h : FirstAt out i first) : first = -1 ∨ (0 ≤ first ∧ first < i) := by
  rcases h with ⟨e, _⟩ | ⟨b, hb, e, _⟩
  · exact .inl e
  · exact .inr (by omega)
end
/-- Those that wait: come, and not sent. -/
theorem wait_iff {p : List Pk} {key : Nat → Int} (hs : p.Pairwise (fun x y => x.a ≤ y.a)) {t : St (List Nat)} (h : Inv (leastM key) p t) (hj : RankJ p key t) (j : Nat) (hl : j < p.length) :
    j ∈ (comeL (leastM key) t.now (p.drop t.next) t.next t.s).2 ↔ (dnB t.out j = false ∧ aOf p j ≤ t.now) := by
  obtain ⟨hc, _⟩ := comeL_inv (leastOk key _) t.now (p.drop t.next) t.next t.s rfl h.toC
  have hall := comeL_all (leastOk key _) hs h hj.came j hl
  generalize comeL (leastM key) t.now (p.drop t.next) t.next t.s = q at hc hall
  have hnd : ((t.out.map fun x => x.p.toNat) ++ q.2).Nodup := (hc.perm.nodup_iff).2 List.nodup_range
  have hm : ∀ j, (j ∈ (t.out.map fun x => x.p.toNat) ∨ j ∈ q.2) ↔ j < q.1 := fun j => (List.mem_append.symm).trans ((hc.perm.mem_iff).trans List.mem_range)
  rw [← hall, dnB_not]
  refine ⟨fun h1 => ⟨fun y hy e => ?_, (hm j).1 (.inr h1)⟩, fun ⟨h1, h2⟩ => ?_⟩
  · exact (List.nodup_append.1 hnd).2.2 _ (List.mem_map.2 ⟨y, hy, by omega⟩) _ h1 rfl
  · rcases (hm j).2 h2 with h3 | h3
    · obtain ⟨y, hy, e⟩ := List.mem_map.1 h3
      have := h.pos y hy
      exact absurd (show y.p = (j : Int) by omega) (h1 y hy)
    · exact h3
theorem ref_none {p : List Pk} {per : Int} {key : Nat → Int} (hs : p.Pairwise (fun x y => x.a ≤ y.a)) {t : St (List Nat)} (h : Inv (leastM key) p t) (hj : RankJ p key t) (hlt : t.out.length < p.length) {best first : Int}
    (hb : BestAt p key t.now t.out p.length best) (hf : FirstAt t.out p.length first) (hn : best < 0) :
    ∃ (f : Nat) (n : Nat) (s : List Nat), first = f ∧ f < p.length ∧ stepS (leastM key) p per t = ⟨t.out, aOf p f, n, s⟩ := by
  have hw := wait_iff hs h hj
  obtain ⟨hc, hlt2⟩ := comeL_inv (leastOk key _) t.now (p.drop t.next) t.next t.s rfl h.toC
  have hst : ∀ {k s}, comeL (leastM key) t.now (p.drop t.next) t.next t.s = (k, s) → (leastM key).pick s = none → stepS (leastM key) p per t = ⟨t.out, aOf p k, k, (leastM key).rest s⟩ := fun h1 h2 => step_none h1 h2
  generalize comeL (leastM key) t.now (p.drop t.next) t.next t.s = q at hc hlt2 hw hst
  have hq2 : q.2 = [] := by
    refine List.eq_nil_iff_forall_not_mem.2 fun j hjm => ?_
    have hjl : j < p.length := Nat.lt_of_lt_of_le (hc.wait_lt hjm) hc.k_le
    obtain ⟨h1, h2⟩ := (hw j hjl).1 hjm
    rcases hb with ⟨e, hb⟩ | ⟨b, hb, e, _⟩
    · have := hb j hjl h1; omega
    · omega
  have hpk : (leastM key).pick q.2 = none := by rw [hq2]; rfl
  have hid := hc.idle (leastOk key _) hpk
  have hm : ∀ j, j ∈ (t.out.map fun x => x.p.toNat) ↔ j < q.1 := fun j => by
    have := (hc.perm.mem_iff (a := j)).trans List.mem_range
    rw [show (leastM key).wait q.2 = [] from hq2, List.append_nil] at this
    exact this
  have hfq : first = (q.1 : Int) := by
    have hdq : dnB t.out q.1 = false := dnB_not.2 fun y hy e => by
      have := (hm q.1).1 (List.mem_map.2 ⟨y, hy, by omega⟩)
      omega
    have hdl : ∀ j, j < q.1 → dnB t.out j = true := fun j hjq => by
      obtain ⟨y, hy, e⟩ := List.mem_map.1 ((hm j).2 hjq)
      have := h.pos y hy
      exact dnB_iff.2 ⟨y, hy, by omega⟩
    rcases hf with ⟨e, hf⟩ | ⟨f, hfl, e, h1, h2⟩
    · have := hf q.1 (by omega)
      rw [hdq] at this; cases this
    · rcases Nat.lt_trichotomy f q.1 with h9 | h9 | h9
      · rw [hdl f h9] at h1; cases h1
      · omega
      · have := h2 q.1 h9
        rw [hdq] at this; cases this
  exact ⟨q.1, q.1, _, hfq, by omega, hst rfl hpk⟩
theorem ref_some {p : List Pk} {per : Int} {key : Nat → Int} (hs : p.Pairwise (fun x y => x.a ≤ y.a)) {t : St (List Nat)} (h : Inv (leastM key) p t) (hj : RankJ p key t) {best : Int}
    (hb : BestAt p key t.now t.out p.length best) (hn : 0 ≤ best) :
    ∃ (k n : Nat) (s : List Nat), best = k ∧ k < p.length ∧ dnB t.out k = false ∧ stepS (leastM key) p per t = ⟨t.out ++ [⟨k, t.now, t.now + per * sOf p k⟩], t.now + per * sOf p k, n, s⟩ := by
  have hw := wait_iff hs h hj
  obtain ⟨hc, hlt2⟩ := comeL_inv (leastOk key _) t.now (p.drop t.next) t.next t.s rfl h.toC
  have hst : ∀ {k j : Nat} {s s'}, comeL (leastM key) t.now (p.drop t.next) t.next t.s = (k, s) → (leastM key).pick s = some (j, s') → stepS (leastM key) p per t = ⟨t.out ++ [⟨j, t.now, t.now + per * sOf p j⟩], t.now + per * sOf p j, k, s'⟩ := fun h1 h2 => step_some h1 h2
  generalize comeL (leastM key) t.now (p.drop t.next) t.next t.s = q at hc hlt2 hw hst
  rcases hb with ⟨e, hb⟩ | ⟨b, hbl, e, h1, h2, h3⟩
  · omega
  · have hbm := (hw b hbl).2 ⟨h1, h2⟩
    have hne : q.2.length ≠ 0 := fun h9 => by rw [List.eq_nil_of_length_eq_zero h9] at hbm; cases hbm
    have hB := bestI_ok key q.2 (by omega)
    have hBl := hB.lt
    have eg : q.2.getD (bestI key q.2) 0 = q.2[bestI key q.2] := by simp [List.getD, hBl]
    have hk2 : q.2[bestI key q.2] ∈ q.2 := List.getElem_mem _
    have hkl : q.2[bestI key q.2] < p.length := Nat.lt_of_lt_of_le (hc.wait_lt hk2) hc.k_le
    obtain ⟨g1, g2⟩ := (hw _ hkl).1 hk2
    have h4 := h3 _ hkl g1 g2
    obtain ⟨a, ha, ea⟩ := List.getElem_of_mem hbm
    have e1 : q.2.getD a 0 = b := by simp [List.getD, ha, ea]
    have h5 := hB.le a ha
    rw [e1, eg] at h5
    have heq : key b = key q.2[bestI key q.2] := by omega
    have hbk : b = q.2[bestI key q.2] := by
      refine Nat.le_antisymm (h4.2 heq.symm) ?_
      rcases Nat.lt_or_ge a (bestI key q.2) with h6 | h6
      · have := hB.first a h6
        rw [e1, eg] at this
        omega
      · rcases Nat.eq_or_lt_of_le h6 with h7 | h7
        · subst ea
          simp only [h7]; exact Nat.le_refl _
        · have := List.pairwise_iff_getElem.1 hc.ok.2 _ _ hBl ha h7
          omega
    have hpk : (leastM key).pick q.2 = some (b, q.2.eraseIdx (bestI key q.2)) := by
      show (if q.2.length = 0 then none else _) = _
      rw [if_neg hne, eg, ← hbk]
    exact ⟨b, q.1, _, e, hbl, h1, hst rfl hpk⟩
end Go.Proofs.YtkkecnofgmpekaaDoor
namespace Go.Proofs.YtkkecnofgmpekaaDoor
structure LinJ (p : List Pk) (per : Int) (t : St (List Nat)) : Prop where
  idx : ∀ i (h : i < t.out.length), t.out[i].p = i
  rj : RankJ p (fun _ => 0) t
  eq : lindL per 0 0 p = t.out ++ lindL per t.now t.out.length (p.drop t.out.length)
theorem dn_idx {out : List Sn} (h : ∀ i (h : i < out.length), out[i].p = i) (j : Nat) : dnB out j = decide (j < out.length) := by
  by_cases hj : j < out.length
  · rw [decide_eq_true hj]; exact dnB_iff.2 ⟨out[j], List.getElem_mem hj, h j hj⟩
  · rw [decide_eq_false hj]
    refine dnB_not.2 fun y hy e => ?_
    obtain ⟨i, hi, rfl⟩ := List.getElem_of_mem hy
    have := h i hi
    omega
theorem lin_step {p : List Pk} {per : Int} (hp : ∀ x ∈ p, okPk x) (hs : p.Pairwise (fun x y => x.a ≤ y.a)) (h0 : 1 ≤ per) (t : St (List Nat)) (h : Inv (leastM fun _ => 0) p t) (hlt : t.out.length < p.length) (hj : LinJ p per t) : LinJ p per (stepS (leastM fun _ => 0) p per t) := by
  have hr := rank_step hp hs h0 t h hlt hj.rj
  have hd := dn_idx hj.idx
  have hdr := List.drop_eq_getElem_cons hlt
  have eq := hj.eq
  rw [hdr] at eq
  have ea := aOf_of hlt
  have es := sOf_of hlt
  by_cases hc : aOf p t.out.length ≤ t.now
  · have hb : BestAt p (fun _ => 0) t.now t.out p.length (t.out.length : Int) := .inr ⟨t.out.length, hlt, rfl, by rw [hd]; exact decide_eq_false (Nat.lt_irrefl _), hc, fun j _ hdj _ => ⟨Int.le_refl _, fun _ => by rw [hd] at hdj; have := of_decide_eq_false hdj; omega⟩⟩
    obtain ⟨k, n, s, e1, hk, _, e2⟩ := ref_some (per := per) hs h hj.rj hb (by omega)
    obtain rfl : k = t.out.length := by omega
    rw [e2] at hr ⊢
    refine ⟨fun i hi => ?_, hr, ?_⟩
    · simp only [List.length_append, List.length_cons, List.length_nil] at hi
      rcases Nat.lt_or_ge i t.out.length with h9 | h9
      · simp only; rw [List.getElem_append_left h9]; exact hj.idx i h9
      · obtain rfl : i = t.out.length := by omega
        simp only; rw [List.getElem_concat_length rfl]
    · simp only [List.length_append, List.length_cons, List.length_nil]
      rw [eq, List.append_assoc]
      congr 1
      simp only [lindL]
      rw [ea] at hc
      rw [if_neg (by omega), es]
      rfl
  · have hb : BestAt p (fun _ => 0) t.now t.out p.length (-1) := .inl ⟨rfl, fun j hjl hdj => by
      rw [hd] at hdj
      have := of_decide_eq_false hdj
      have := aOf_mono hs (show t.out.length ≤ j by omega) hjl
      omega⟩
    have hf : FirstAt t.out p.length (t.out.length : Int) := .inr ⟨t.out.length, hlt, rfl, by rw [hd]; exact decide_eq_false (Nat.lt_irrefl _), fun j hjl => by rw [hd]; exact decide_eq_true hjl⟩
    obtain ⟨f, n, s, e1, hfl, e2⟩ := ref_none (per := per) hs h hj.rj hlt hb hf (by omega)
    obtain rfl : f = t.out.length := by omega
    rw [e2] at hr ⊢
    refine ⟨hj.idx, hr, ?_⟩
    simp only
    rw [eq, hdr]
    rw [ea] at hc ⊢
    simp only [lindL]
    rw [if_pos (by omega), if_neg (Int.lt_irrefl _)]
theorem leastL_lind {p : List Pk} {per : Int} (hp : ∀ x ∈ p, okPk x) (hs : p.Pairwise (fun x y => x.a ≤ y.a)) (h0 : 1 ≤ per) (h1 : per ≤ 1000) : leastL p per (fun _ => 0) = lindL per 0 0 p := by
  have hi := least_start p (fun _ => 0)
  have hj := run_ind (leastOk _ _) hp h0 h1 (LinJ p per) (fun t a b c => lin_step hp hs h0 t a b c) (2 * p.length + 1) _ hi ⟨fun i h => absurd h (by simp), ⟨fun j hj => by simp at hj, fun i hi => by simp at hi⟩, rfl⟩
  have hl := (run_all (leastOk (fun _ => 0) _) hp h0 h1 (2 * p.length + 1) _ hi (mu_start p []) (Nat.zero_le _)).2
  have := hj.eq
  rw [hl, List.drop_eq_nil_of_le (Nat.le_refl _)] at this
  show (serveS (leastM fun _ => 0) p per []).out = _
  rw [this]
  simp [serveS, lindL]
/-- Keys that are the same at each packet: the same run. -/
theorem bestGo_congr {key key' : Nat → Int} (s r : List Nat) (h : ∀ k ∈ r, key k = key' k) (b i : Nat) (kb : Int) : bestGo key b kb i r = bestGo key' b kb i r := by
  induction r generalizing b i kb with
  | nil => rfl
  | cons k r ih =>
    have ih' := fun b i kb => ih (fun x hx => h x (List.mem_cons_of_mem _ hx)) b i kb
    unfold bestGo
    rw [h k List.mem_cons_self]
    split
    · exact ih' ..
    · exact ih' ..
end Go.Proofs.YtkkecnofgmpekaaDoor
namespace Go.Proofs.YtkkecnofgmpekaaDoor
/-- One is sent behind the other, from a tick on. -/
def chain (p : List Pk) (per : Int) : Int → List Sn → Prop
  | _, [] => True
  | now, x :: r => x.t = now + per * sOf p x.p.toNat ∧ chain p per x.t r
def endT (now : Int) : List Sn → Int
  | [] => now
  | x :: r => endT x.t r
def sumD (p : List Pk) (per : Int) (T : Nat → Bool) : List Sn → Int
  | [] => 0
  | x :: r => (if T x.p.toNat then per * sOf p x.p.toNat else 0) + sumD p per T r
section
variable {p : List Pk} {per : Int}
theorem chain_add {now : Int} {l : List Sn} {x : Sn} (h : chain p per now l) (hx : x.t = endT now l + per * sOf p x.p.toNat) : chain p per now (l ++ [x]) ∧ endT now (l ++ [x]) = x.t := by
  induction l generalizing now with
  | nil => exact ⟨⟨hx, trivial⟩, rfl⟩
  | cons y r ih =>
    obtain ⟨h1, h2⟩ := h
    obtain ⟨h3, h4⟩ := ih h2 hx
    exact ⟨⟨h1, h3⟩, h4⟩
theorem chain_split {now : Int} {l r : List Sn} (h : chain p per now (l ++ r)) : chain p per now l ∧ chain p per (endT now l) r := by
  induction l generalizing now with
  | nil => exact ⟨trivial, h⟩
  | cons y l ih =>
    obtain ⟨h1, h2⟩ := h
    obtain ⟨h3, h4⟩ := ih h2
    exact ⟨⟨h1, h3⟩, h4⟩
theorem chain_end {now : Int} {l : List Sn} (h : chain p per now l) : endT now l = now + sumD p per (fun _ => true) l := by
  induction l generalizing now with
  | nil => simp [endT, sumD]
  | cons y r ih =>
    obtain ⟨h1, h2⟩ := h
    unfold endT sumD
    rw [ih h2, h1]
    simp only [if_true]
    omega
theorem sumD_app (T : Nat → Bool) (l r : List Sn) : sumD p per T (l ++ r) = sumD p per T l + sumD p per T r := by
  induction l with
  | nil => simp [sumD]
  | cons y l ih => simp only [List.cons_append, sumD]; rw [ih]; omega
theorem sumD_perm (T : Nat → Bool) {l r : List Sn} (h : (l.map fun x => x.p.toNat).Perm (r.map fun x => x.p.toNat)) : sumD p per T l = sumD p per T r := by
  have key : ∀ l : List Sn, sumD p per T l = ((l.map fun x => x.p.toNat).map fun k => if T k then per * sOf p k else 0).foldr (· + ·) 0 := fun l => by
    induction l with
    | nil => rfl
    | cons y l ih => unfold sumD; rw [ih]; rfl
  rw [key, key]
  refine List.Perm.foldr_eq' (h.map _) ?_ 0
  intro a _ b _ z
  omega
theorem sumD_nonneg (h : ∀ k, 0 ≤ per * sOf p k) (T : Nat → Bool) (l : List Sn) : 0 ≤ sumD p per T l := by
  induction l with
  | nil => exact Int.le_refl _
  | cons y l ih => unfold sumD; have := h y.p.toNat; split <;> omega
theorem sumD_le (h : ∀ k, 0 ≤ per * sOf p k) (T : Nat → Bool) (l : List Sn) : sumD p per T l ≤ sumD p per (fun _ => true) l := by
  induction l with
  | nil => exact Int.le_refl _
  | cons y l ih => unfold sumD; have := h y.p.toNat; simp only [if_true]; split <;> omega
theorem sumD_all (T : Nat → Bool) (l : List Sn) (hT : ∀ x ∈ l, T x.p.toNat = true) : sumD p per T l = sumD p per (fun _ => true) l := by
  induction l with
  | nil => rfl
  | cons y l ih => unfold sumD; rw [hT y List.mem_cons_self, ih fun x hx => hT x (List.mem_cons_of_mem _ hx)]
theorem sumD_none (T : Nat → Bool) (l : List Sn) (hT : ∀ x ∈ l, T x.p.toNat = false) : sumD p per T l = 0 := by
  induction l with
  | nil => rfl
  | cons y l ih => unfold sumD; rw [hT y List.mem_cons_self, ih fun x hx => hT x (List.mem_cons_of_mem _ hx)]; simp
/-- The last one of a set is through no sooner than all of the set take. -/
theorem last_of (h : ∀ k, 0 ≤ per * sOf p k) (T : Nat → Bool) (l : List Sn) (now : Int) (hc : chain p per now l) (hT : ∃ x ∈ l, T x.p.toNat = true) : ∃ z ∈ l, T z.p.toNat = true ∧ now + sumD p per T l ≤ z.t := by
  induction l generalizing now with
  | nil => obtain ⟨x, hx, _⟩ := hT; cases hx
  | cons y r ih =>
    obtain ⟨h1, h2⟩ := hc
    by_cases hr : ∃ x ∈ r, T x.p.toNat = true
    · obtain ⟨z, hz, hTz, hle⟩ := ih y.t h2 hr
      refine ⟨z, List.mem_cons_of_mem _ hz, hTz, ?_⟩
      unfold sumD
      have := h y.p.toNat
      split <;> omega
    · have hy : T y.p.toNat = true := by
        obtain ⟨x, hx, hTx⟩ := hT
        rcases List.mem_cons.1 hx with rfl | hx
        · exact hTx
        · exact absurd ⟨x, hx, hTx⟩ hr
      refine ⟨y, List.mem_cons_self, hy, ?_⟩
      unfold sumD
      rw [hy, sumD_none T r fun x hx => by
        cases hx2 : T x.p.toNat with
        | false => rfl
        | true => exact absurd ⟨x, hx, hx2⟩ hr]
      simp only [if_true]
      omega
end
structure JackJ (p : List Pk) (per a0 : Int) (t : St (List Nat)) : Prop where
  e : t.out = [] → t.now ≤ a0
  c : t.out ≠ [] → chain p per a0 t.out ∧ t.now = endT a0 t.out ∧ a0 ≤ t.now
theorem jack_step {p : List Pk} {per a0 : Int} {key : Nat → Int} (hp : ∀ x ∈ p, okPk x) (hs : p.Pairwise (fun x y => x.a ≤ y.a)) (h0 : 1 ≤ per) (ha : ∀ j, j < p.length → aOf p j = a0) (t : St (List Nat)) (h : Inv (leastM key) p t) (hlt : t.out.length < p.length) (hrj : RankJ p key t) (hj : JackJ p per a0 t) : JackJ p per a0 (stepS (leastM key) p per t) := by
  obtain ⟨hc, hlt2⟩ := comeL_inv (leastOk key _) t.now (p.drop t.next) t.next t.s rfl h.toC
  have hall := comeL_all (leastOk key _) hs h hrj.came
  unfold stepS
  generalize comeL (leastM key) t.now (p.drop t.next) t.next t.s = q at hc hlt2 hall
  cases hpk : (leastM key).pick q.2 with
  | none =>
    have hid := hc.idle (leastOk key _) hpk
    have h1 := hlt2 (by omega)
    rw [ha _ (by omega)] at h1
    have hn : t.out = [] := by
      refine Classical.byContradiction fun h9 => ?_
      have := (hj.c h9).2.2
      omega
    refine ⟨fun _ => ?_, fun h9 => absurd hn h9⟩
    show aOf p q.1 ≤ a0
    rw [ha _ (by omega)]; exact Int.le_refl _
  | some ks =>
    obtain ⟨k, s'⟩ := ks
    have hk : k < q.1 := hc.pick_lt (leastOk key _) hpk
    have hkl : k < p.length := Nat.lt_of_lt_of_le hk hc.k_le
    have hok := hp _ (List.getElem_mem hkl)
    have m1 : 0 ≤ per * sOf p k := Int.mul_nonneg (by omega) (by rw [sOf_of hkl]; have := hok.2.2.1; omega)
    have h1 := (hall k hkl).1 hk
    rw [ha k hkl] at h1
    refine ⟨fun h9 => by simp at h9, fun _ => ?_⟩
    have hx : chain p per a0 t.out ∧ t.now = endT a0 t.out := by
      by_cases h9 : t.out = []
      · have := hj.e h9
        rw [h9]
        exact ⟨trivial, by show t.now = a0; omega⟩
      · exact ⟨(hj.c h9).1, (hj.c h9).2.1⟩
    obtain ⟨h2, h3⟩ := chain_add (x := ⟨k, t.now, t.now + per * sOf p k⟩) hx.1 (by simp only [Int.toNat_natCast]; rw [← hx.2])
    refine ⟨h2, h3.symm, ?_⟩
    simp only
    omega
theorem leastL_perm {p : List Pk} {per : Int} {key : Nat → Int} (hp : ∀ x ∈ p, okPk x) (h0 : 1 ≤ per) (h1 : per ≤ 1000) : ((leastL p per key).map fun x => x.p.toNat).Perm (List.range p.length) := by
  obtain ⟨hi, hl⟩ := run_all (leastOk key _) hp h0 h1 (2 * p.length + 1) _ (least_start p key) (mu_start p _) (Nat.zero_le _)
  have hc := hi.toC.cnt
  have hn := hi.next_le
  have hpm := hi.perm
  have hw : (leastM key).wait (serveS (leastM key) p per []).s = [] := List.eq_nil_of_length_eq_zero (by show ((leastM key).wait (runS (leastM key) p per (2 * p.length + 1) ⟨[], 0, 0, []⟩).s).length = 0; omega)
  have hx : (runS (leastM key) p per (2 * p.length + 1) ⟨[], 0, 0, []⟩).next = p.length := by omega
  rw [hx] at hpm
  unfold serveS at hw
  rw [hw, List.append_nil] at hpm
  exact hpm
theorem leastL_pos {p : List Pk} {per : Int} {key : Nat → Int} (hp : ∀ x ∈ p, okPk x) (h0 : 1 ≤ per) (h1 : per ≤ 1000) : ∀ x ∈ leastL p per key, 0 ≤ x.p :=
  (run_all (leastOk key _) hp h0 h1 (2 * p.length + 1) _ (least_start p key) (mu_start p _) (Nat.zero_le _)).1.pos
theorem jack_chain {p : List Pk} {per a0 : Int} {key : Nat → Int} (hp : ∀ x ∈ p, okPk x) (hs : p.Pairwise (fun x y => x.a ≤ y.a)) (h0 : 1 ≤ per) (h1 : per ≤ 1000) (ha : ∀ j, j < p.length → aOf p j = a0) (hz : 0 ≤ a0) : chain p per a0 (leastL p per key) := by
  have hj := run_ind (leastOk key _) hp h0 h1 (fun t => RankJ p key t ∧ JackJ p per a0 t) (fun t a b c => ⟨rank_step hp hs h0 t a b c.1, jack_step hp hs h0 ha t a b c.1 c.2⟩) (2 * p.length + 1) _ (least_start p key)
    ⟨⟨fun j hj => by simp at hj, fun i hi => by simp at hi⟩, fun _ => hz, fun h => absurd rfl h⟩
  by_cases h9 : leastL p per key = []
  · rw [h9]; trivial
  · exact (hj.2.c h9).1
/-- Nobody can be less late. -/
theorem jackson {p : List Pk} {per a0 : Int} {key : Nat → Int} (hp : ∀ x ∈ p, okPk x) (hs : p.Pairwise (fun x y => x.a ≤ y.a)) (h0 : 1 ≤ per) (h1 : per ≤ 1000) (ha : ∀ j, j < p.length → aOf p j = a0) (hz : 0 ≤ a0)
    (o : List Sn) (ho : chain p per a0 o) (hop : (o.map fun x => x.p.toNat).Perm (List.range p.length)) (x : Sn) (hx : x ∈ leastL p per key) : ∃ z ∈ o, x.t - key x.p.toNat ≤ z.t - key z.p.toNat := by
  have hl := leastL_ok (key := key) hp hs h0 h1
  have hpm := leastL_perm (key := key) hp h0 h1
  have hpos := leastL_pos (key := key) hp h0 h1
  have hc := jack_chain (key := key) hp hs h0 h1 ha hz
  have hd : ∀ k, 0 ≤ per * sOf p k := fun k => by
    refine Int.mul_nonneg (by omega) ?_
    by_cases hk : k < p.length
    · rw [sOf_of hk]; have := (hp _ (List.getElem_mem hk)).2.2.1; omega
    · unfold sOf
      simp [List.getD, hk]
  generalize leastL p per key = l at hx hl hpm hpos hc
  obtain ⟨i, hi, rfl⟩ := List.getElem_of_mem hx
  have hsp : l = l.take (i + 1) ++ l.drop (i + 1) := (List.take_append_drop _ _).symm
  have htk : l.take (i + 1) = l.take i ++ [l[i]] := by rw [List.take_succ_eq_append_getElem hi]
  have hc1 : chain p per a0 (l.take (i + 1)) := by rw [hsp] at hc; exact (chain_split hc).1
  have hend : l[i].t = a0 + sumD p per (fun _ => true) (l.take (i + 1)) := by
    rw [← chain_end hc1, htk]
    have : ∀ (now : Int) (l : List Sn) (x : Sn), endT now (l ++ [x]) = x.t := fun now l x => by
      induction l generalizing now with
      | nil => rfl
      | cons y r ih => exact ih y.t
    rw [this]
  let T : Nat → Bool := fun k => (l.take (i + 1)).any fun y => y.p.toNat == k
  have hT : ∀ k, T k = true ↔ ∃ y ∈ l.take (i + 1), y.p.toNat = k := fun k => by
    show (l.take (i + 1)).any (fun y => y.p.toNat == k) = true ↔ _
    rw [List.any_eq_true]
    exact ⟨fun ⟨y, h1, h2⟩ => ⟨y, h1, by simpa using h2⟩, fun ⟨y, h1, h2⟩ => ⟨y, h1, by simpa using h2⟩⟩
  have hge : sumD p per (fun _ => true) (l.take (i + 1)) ≤ sumD p per T o := by
    rw [sumD_perm T (hop.trans hpm.symm), ← sumD_all T (l.take (i + 1)) fun y hy => (hT _).2 ⟨y, hy, rfl⟩]
    have e1 : sumD p per T l = sumD p per T (l.take (i + 1)) + sumD p per T (l.drop (i + 1)) := by rw [← sumD_app, ← hsp]
    have := sumD_nonneg hd T (l.drop (i + 1))
    omega
  have hxl : l[i] ∈ l.take (i + 1) := by rw [htk]; exact List.mem_append_right _ (List.mem_singleton.2 rfl)
  have hin : ∃ z ∈ o, T z.p.toNat = true := by
    have : l[i].p.toNat ∈ o.map fun x => x.p.toNat := (hop.trans hpm.symm).mem_iff.2 (List.mem_map.2 ⟨l[i], hx, rfl⟩)
    obtain ⟨z, hz1, hz2⟩ := List.mem_map.1 this
    exact ⟨z, hz1, (hT _).2 ⟨l[i], hxl, hz2.symm⟩⟩
  obtain ⟨z, hz1, hz2, hz3⟩ := last_of hd T o a0 ho hin
  refine ⟨z, hz1, ?_⟩
  obtain ⟨y, hy, e⟩ := (hT _).1 hz2
  obtain ⟨j, hj, rfl⟩ := List.getElem_of_mem hy
  have hjl : j < l.length := by rw [List.length_take] at hj; omega
  have hji : j ≤ i := by rw [List.length_take] at hj; omega
  rw [List.getElem_take] at e
  have hyj := hl j hjl
  have hxi := hl i hi
  have hk : key l[j].p.toNat ≤ key l[i].p.toNat := by
    refine (hyj.least l[i].p.toNat hxi.lt (fun y hy e2 => ?_) ?_).1
    · refine hxi.fresh y ?_ (by have := hxi.pos; omega)
      obtain ⟨m, hm, rfl⟩ := List.getElem_of_mem hy
      rw [List.length_take] at hm
      rw [List.getElem_take]
      exact List.mem_take_iff_getElem.2 ⟨m, by omega, rfl⟩
    · rw [ha _ hxi.lt]
      have := hyj.came
      rw [ha _ hyj.lt] at this
      exact this
  rw [← e]
  omega
end Go.Proofs.YtkkecnofgmpekaaDoor
