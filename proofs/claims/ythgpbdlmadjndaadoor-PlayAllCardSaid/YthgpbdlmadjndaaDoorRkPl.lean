/- A link by least keys, plainly. No program. No condition. A link by least keys, plainly: when one is sent, none that had come, and was not sent yet, has a lesser key, or the same one and a lesser number. No program. No condition. The document's link by keys (scan for the least), plainly: it takes the same steps as a list of those that wait. No program. No condition. -/
import Derived.Test.YthgpbdlmadjndaaDoorPkM
import Derived.Test.YthgpbdlmadjndaaDoorFifoM2
namespace Go.Proofs.YthgpbdlmadjndaaDoor
def bestGo (key : Nat → Int) : Nat → Int → Nat → List Nat → Nat
  | b, _, _, [] => b
  | b, kb, i, k :: r => if key k < kb then bestGo key i (key k) (i + 1) r else bestGo key b kb (i + 1) r
/-- The place of the least key, of these the first. -/
def bestI (key : Nat → Int) (s : List Nat) : Nat := bestGo key 0 (key (s.getD 0 0)) 0 s
structure BestOk (key : Nat → Int) (s : List Nat) (i b : Nat) (kb : Int) : Prop where
  lt : b < s.length
  key_ : kb = key (s.getD b 0)
  le : ∀ j, j < i → kb ≤ key (s.getD j 0)
  first : ∀ j, j < b → kb < key (s.getD j 0)
theorem bestGo_ok (key : Nat → Int) (s r : List Nat) (i b : Nat) (kb : Int) (hr : s.drop i = r) (h : BestOk key s i b kb) (hbi : b < i ∨ (i = 0 ∧ b = 0)) : BestOk key s s.length (bestGo key b kb i r) (key (s.getD (bestGo key b kb i r) 0)) := by
  induction r generalizing i b kb with
  | nil =>
    have hl : s.length ≤ i := by have := congrArg List.length hr; simp at this; omega
    show BestOk key s s.length b (key (s.getD b 0))
    rw [← h.key_]
    exact ⟨h.lt, h.key_, fun j hj => h.le j (by omega), h.first⟩
  | cons k r ih =>
    have hk : i < s.length := by
      have := congrArg List.length hr
      simp at this
      omega
    have hd := List.drop_eq_getElem_cons hk
    rw [hr] at hd
    injection hd with hx hr'
    have hg : s.getD i 0 = k := by simp [List.getD, hk, hx]
    unfold bestGo
    by_cases hc : key k < kb
    · rw [if_pos hc]
      refine ih (i + 1) i (key k) hr'.symm ⟨hk, by rw [hg], fun j hj => ?_, fun j hj => ?_⟩ (.inl (Nat.lt_succ_self i))
      · rcases Nat.lt_succ_iff_lt_or_eq.1 hj with h1 | h1
        · have := h.le j h1; omega
        · subst h1; rw [hg]; exact Int.le_refl _
      · have := h.le j hj; omega
    · rw [if_neg hc]
      refine ih (i + 1) b kb hr'.symm ⟨h.lt, h.key_, fun j hj => ?_, h.first⟩ (.inl (by omega))
      rcases Nat.lt_succ_iff_lt_or_eq.1 hj with h1 | h1
      · exact h.le j h1
      · subst h1; rw [hg]; omega
theorem bestI_ok (key : Nat → Int) (s : List Nat) (h : 0 < s.length) : BestOk key s s.length (bestI key s) (key (s.getD (bestI key s) 0)) :=
  bestGo_ok key s s 0 0 _ rfl ⟨h, rfl, fun j hj => absurd hj (Nat.not_lt_zero j), fun j hj => absurd hj (Nat.not_lt_zero j)⟩ (.inr ⟨rfl, rfl⟩)

theorem erase_perm {α : Type} (l : List α) (i : Nat) (h : i < l.length) : l.Perm (l[i] :: l.eraseIdx i) := by
  induction l generalizing i with
  | nil => simp at h
  | cons x r ih =>
    cases i with
    | zero => exact List.Perm.refl _
    | succ i =>
      have := ih i (by simpa using h)
      simp only [List.getElem_cons_succ, List.eraseIdx_cons_succ]
      exact (List.Perm.cons x this).trans (List.Perm.swap _ _ _)
def leastM (key : Nat → Int) : Pol (List Nat) where
  come s k := s ++ [k]
  pick s := if s.length = 0 then none else some (s.getD (bestI key s) 0, s.eraseIdx (bestI key s))
  rest s := s
  wait s := s
  ok m s := (∀ j ∈ s, j < m) ∧ s.Pairwise (· < ·)
theorem leastOk (key : Nat → Int) (n : Nat) : PolOk (leastM key) n where
  ok_come := fun s k ⟨h1, h2⟩ _ => ⟨fun j hj => by
    rcases List.mem_append.1 hj with h | h
    · have := h1 j h; omega
    · rw [List.mem_singleton.1 h]; omega, List.pairwise_append.2 ⟨h2, List.pairwise_singleton _ _, fun a ha b hb => by rw [List.mem_singleton.1 hb]; exact h1 a ha⟩⟩
  ok_pick := fun s m k s' ⟨h1, h2⟩ hp => by
    simp only [leastM] at hp
    split at hp
    · cases hp
    · simp only [Option.some.injEq, Prod.mk.injEq] at hp
      obtain ⟨_, rfl⟩ := hp
      exact ⟨fun j hj => h1 j (List.mem_of_mem_eraseIdx hj), h2.sublist (List.eraseIdx_sublist _ _)⟩
  ok_rest := fun s m h _ => h
  w_come := fun s k _ _ => List.perm_append_comm (l₂ := [k])
  w_none := fun s m _ hp => by
    simp only [leastM] at hp ⊢
    split at hp
    · rename_i h; exact List.eq_nil_of_length_eq_zero h
    · cases hp
  w_some := fun s m k s' _ hp => by
    simp only [leastM] at hp ⊢
    split at hp
    · cases hp
    · rename_i h
      simp only [Option.some.injEq, Prod.mk.injEq] at hp
      obtain ⟨rfl, rfl⟩ := hp
      have hb := (bestI_ok key s (by omega)).lt
      have e : s.getD (bestI key s) 0 = s[bestI key s] := by simp [List.getD, hb]
      rw [e]
      exact erase_perm s _ hb
  w_rest := fun s m _ h => h
end Go.Proofs.YthgpbdlmadjndaaDoor
namespace Go.Proofs.YthgpbdlmadjndaaDoor
theorem pktBad_sorted {l : List Pk} {m : Int} {k : Nat} (h : (pktBad l m k).1 = 0) : (∀ x ∈ l, m ≤ x.a) ∧ l.Pairwise (fun x y => x.a ≤ y.a) := by
  induction l generalizing m k with
  | nil => exact ⟨by simp, List.Pairwise.nil⟩
  | cons x r ih =>
    unfold pktBad at h
    split at h
    · split at h
      · simp at h
      · rename_i h2
        obtain ⟨i1, i2⟩ := ih h
        refine ⟨fun y hy => ?_, List.pairwise_cons.2 ⟨i1, i2⟩⟩
        rcases List.mem_cons.1 hy with rfl | hy
        · omega
        · have := i1 y hy; omega
    · simp at h
theorem pktErr_sorted {l : List Pk} (h : (pktErr l).1 = 0) : l.Pairwise (fun x y => x.a ≤ y.a) := by
  unfold pktErr at h
  by_cases h1 : 300 < l.length
  · rw [if_pos h1] at h; simp at h
  · rw [if_neg h1] at h; exact (pktBad_sorted h).2
theorem lookErr_sorted {p : List Pk} {per : Int} (h : (lookErr p per).1 = 0) : p.Pairwise (fun x y => x.a ≤ y.a) := by
  unfold lookErr at h
  by_cases h1 : (pktErr p).1 ≠ 0
  · rw [if_pos h1] at h; exact absurd h h1
  · exact pktErr_sorted (by omega)
theorem aOf_mono {p : List Pk} (h : p.Pairwise (fun x y => x.a ≤ y.a)) {i j : Nat} (hij : i ≤ j) (hj : j < p.length) : aOf p i ≤ aOf p j := by
  rcases Nat.eq_or_lt_of_le hij with rfl | hlt
  · exact Int.le_refl _
  · rw [aOf_of hj, aOf_of (Nat.lt_trans hlt hj)]
    exact List.pairwise_iff_getElem.1 h i j (Nat.lt_trans hlt hj) hj hlt
/-- All that have come by a tick, and no others. -/
theorem comeL_all {σ : Type} {M : Pol σ} {p : List Pk} (hM : PolOk M p.length) (hs : p.Pairwise (fun x y => x.a ≤ y.a)) {t : St σ} (h : Inv M p t) (hc : ∀ j, j < t.next → aOf p j ≤ t.now) (j : Nat) (hj : j < p.length) :
    j < (comeL M t.now (p.drop t.next) t.next t.s).1 ↔ aOf p j ≤ t.now := by
  obtain ⟨_, hlt2⟩ := comeL_inv hM t.now (p.drop t.next) t.next t.s rfl h.toC
  have hge := comeL_ge M t.now (p.drop t.next) t.next t.s
  have hle := comeL_le M p t.now (p.drop t.next) t.next t.s rfl
  generalize comeL M t.now (p.drop t.next) t.next t.s = q at hlt2 hge hle
  refine ⟨fun h1 => ?_, fun h1 => ?_⟩
  · by_cases h9 : j < t.next
    · exact hc j h9
    · exact hle j (by omega) h1
  · refine Nat.lt_of_not_le fun h2 => ?_
    have h3 := hlt2 (by omega)
    have := aOf_mono hs h2 hj
    omega
structure SentOk (p : List Pk) (key : Nat → Int) (prev : List Sn) (x : Sn) : Prop where
  pos : 0 ≤ x.p
  lt : x.p.toNat < p.length
  fresh : ∀ y ∈ prev, y.p ≠ x.p
  came : aOf p x.p.toNat ≤ x.f
  least : ∀ j, j < p.length → (∀ y ∈ prev, y.p ≠ j) → aOf p j ≤ x.f → key x.p.toNat ≤ key j ∧ (key j = key x.p.toNat → x.p.toNat ≤ j)
structure RankJ (p : List Pk) (key : Nat → Int) (t : St (List Nat)) : Prop where
  came : ∀ j, j < t.next → aOf p j ≤ t.now
  all : ∀ i (h : i < t.out.length), SentOk p key (t.out.take i) t.out[i]
theorem rank_step {p : List Pk} {per : Int} {key : Nat → Int} (hp : ∀ x ∈ p, okPk x) (hs : p.Pairwise (fun x y => x.a ≤ y.a)) (h0 : 1 ≤ per) (t : St (List Nat)) (h : Inv (leastM key) p t) (hlt : t.out.length < p.length) (hj : RankJ p key t) : RankJ p key (stepS (leastM key) p per t) := by
  obtain ⟨hc, hlt2⟩ := comeL_inv (leastOk key _) t.now (p.drop t.next) t.next t.s rfl h.toC
  have hall := comeL_all (leastOk key _) hs h hj.came
  unfold stepS
  generalize comeL (leastM key) t.now (p.drop t.next) t.next t.s = q at hc hlt2 hall
  cases hpk : (leastM key).pick q.2 with
  | none =>
    have hid := hc.idle (leastOk key _) hpk
    refine ⟨fun j hjj => ?_, hj.all⟩
    show aOf p j ≤ aOf p q.1
    exact aOf_mono hs (Nat.le_of_lt hjj) (by omega)
  | some ks =>
    obtain ⟨k, s'⟩ := ks
    have hk : k < q.1 := hc.pick_lt (leastOk key _) hpk
    have hkl : k < p.length := Nat.lt_of_lt_of_le hk hc.k_le
    have hok := hp _ (List.getElem_mem hkl)
    have m1 : 0 ≤ per * sOf p k := Int.mul_nonneg (by omega) (by rw [sOf_of hkl]; have := hok.2.2.1; omega)
    have hnd : ((t.out.map fun x => x.p.toNat) ++ q.2).Nodup := (hc.perm.nodup_iff).2 List.nodup_range
    have hokw := hc.ok.2
    simp only [leastM] at hpk hokw
    split at hpk
    · cases hpk
    · rename_i hne
      simp only [Option.some.injEq, Prod.mk.injEq] at hpk
      obtain ⟨hk1, hs1⟩ := hpk
      have hb := bestI_ok key q.2 (by omega)
      have hbl := hb.lt
      have hkm : k ∈ q.2 := by rw [← hk1]; simp [List.getD, hbl]
      refine ⟨fun j hjj => ?_, fun i hi => ?_⟩
      · show aOf p j ≤ t.now + per * sOf p k
        have hjj' : j < q.1 := hjj
        have := (hall j (Nat.lt_of_lt_of_le hjj' hc.k_le)).1 hjj'
        omega
      · simp only [List.length_append, List.length_cons, List.length_nil] at hi
        rcases Nat.lt_or_ge i t.out.length with h9 | h9
        · have := hj.all i h9
          simp only
          rw [List.take_append_of_le_length (Nat.le_of_lt h9), List.getElem_append_left h9]
          exact this
        · obtain rfl : i = t.out.length := by omega
          simp only
          rw [List.take_left', List.getElem_concat_length rfl]
          · refine ⟨Int.natCast_nonneg _, hkl, fun y hy e => ?_, (hall k hkl).1 hk, fun j hjl hfr hja => ?_⟩
            · have h1 : y.p.toNat = k := by simp only at e; omega
              exact (List.nodup_append.1 hnd).2.2 _ (List.mem_map.2 ⟨y, hy, rfl⟩) _ hkm h1
            · have hjq := (hall j hjl).2 hja
              have hjm : j ∈ q.2 := by
                rcases List.mem_append.1 (hc.perm.mem_iff.2 (List.mem_range.2 hjq)) with h1 | h1
                · obtain ⟨y, hy, e⟩ := List.mem_map.1 h1
                  have := h.pos y hy
                  exact absurd (show y.p = (j : Int) by omega) (hfr y hy)
                · exact h1
              obtain ⟨a, ha, rfl⟩ := List.getElem_of_mem hjm
              have e1 : q.2.getD a 0 = q.2[a] := by simp [List.getD, ha]
              have e2 : q.2.getD (bestI key q.2) 0 = q.2[bestI key q.2] := by simp [List.getD, hbl]
              have h1 := hb.le a ha
              simp only [Int.toNat_natCast]
              rw [hk1, e1] at h1
              refine ⟨h1, fun e => ?_⟩
              rcases Nat.lt_or_ge a (bestI key q.2) with h2 | h2
              · have := hb.first a h2
                rw [hk1, e1] at this
                omega
              · rw [← hk1, e2]
                rcases Nat.eq_or_lt_of_le h2 with h3 | h3
                · simp only [h3]; exact Nat.le_refl _
                · exact Nat.le_of_lt (List.pairwise_iff_getElem.1 hokw _ _ hbl ha h3)
          · rfl
def leastL (p : List Pk) (per : Int) (key : Nat → Int) : List Sn := (serveS (leastM key) p per []).out
theorem least_start (p : List Pk) (key : Nat → Int) : Inv (leastM key) p ⟨[], 0, 0, []⟩ := inv_start p rfl ⟨by simp, List.Pairwise.nil⟩
theorem leastL_len {p : List Pk} {per : Int} {key : Nat → Int} (hp : ∀ x ∈ p, okPk x) (h0 : 1 ≤ per) (h1 : per ≤ 1000) : (leastL p per key).length = p.length :=
  (run_all (leastOk key _) hp h0 h1 (2 * p.length + 1) _ (least_start p key) (mu_start p _) (Nat.zero_le _)).2
theorem leastL_ok {p : List Pk} {per : Int} {key : Nat → Int} (hp : ∀ x ∈ p, okPk x) (hs : p.Pairwise (fun x y => x.a ≤ y.a)) (h0 : 1 ≤ per) (h1 : per ≤ 1000) : ∀ i (h : i < (leastL p per key).length), SentOk p key ((leastL p per key).take i) (leastL p per key)[i] :=
  (run_ind (leastOk key _) hp h0 h1 (RankJ p key) (fun t a b c => rank_step hp hs h0 t a b c) (2 * p.length + 1) _ (least_start p key) ⟨fun j hj => by simp at hj, fun i hi => by simp at hi⟩).all
end Go.Proofs.YthgpbdlmadjndaaDoor
namespace Go.Proofs.YthgpbdlmadjndaaDoor
def dnB (out : List Sn) (j : Nat) : Bool := out.any fun y => y.p == (j : Int)
theorem dnB_iff {out : List Sn} {j : Nat} : dnB out j = true ↔ ∃ y ∈ out, y.p = (j : Int) := by
  unfold dnB
  simp [List.any_eq_true]
theorem dnB_not {out : List Sn} {j : Nat} : dnB out j = false ↔ ∀ y ∈ out, y.p ≠ (j : Int) := by
  rw [← Bool.not_eq_true, dnB_iff]
  exact ⟨fun h y hy e => h ⟨y, hy, e⟩, fun h ⟨y, hy, e⟩ => h y hy e⟩
theorem dnB_add (out : List Sn) (x : Sn) (j : Nat) : dnB (out ++ [x]) j = (dnB out j || x.p == (j : Int)) := by simp [dnB]
def BestAt (p : List Pk) (key : Nat → Int) (now : Int) (out : List Sn) (i : Nat) (best : Int) : Prop :=
  (best = -1 ∧ ∀ j, j < i → dnB out j = false → now < aOf p j) ∨
  ∃ b : Nat, b < i ∧ best = b ∧ dnB out b = false ∧ aOf p b ≤ now ∧ ∀ j, j < i → dnB out j = false → aOf p j ≤ now → key b ≤ key j ∧ (key j = key b → b ≤ j)
def FirstAt (out : List Sn) (i : Nat) (first : Int) : Prop :=
  (first = -1 ∧ ∀ j, j < i → dnB out j = true) ∨ ∃ f : Nat, f < i ∧ first = f ∧ dnB out f = false ∧ ∀ j, j < f → dnB out j = true
section
variable {p : List Pk} {key : Nat → Int} {now : Int} {out : List Sn} {i : Nat} {best first : Int}
theorem best0 : BestAt p key now out 0 (-1) := .inl ⟨rfl, fun _ h => absurd h (Nat.not_lt_zero _)⟩
theorem first0 : FirstAt out 0 (-1) := .inl ⟨rfl, fun _ h => absurd h (Nat.not_lt_zero _)⟩
theorem BestAt.skip (h : BestAt p key now out i best) (hs : dnB out i = true ∨ now < aOf p i) : BestAt p key now out (i + 1) best := by
  rcases h with ⟨e, h⟩ | ⟨b, hb, e, h1, h2, h3⟩
  · refine .inl ⟨e, fun j hj hd => ?_⟩
    rcases Nat.lt_succ_iff_lt_or_eq.1 hj with h9 | rfl
    · exact h j h9 hd
    · rcases hs with hs | hs
      · rw [hs] at hd; cases hd
      · exact hs
  · refine .inr ⟨b, by omega, e, h1, h2, fun j hj hd ha => ?_⟩
    rcases Nat.lt_succ_iff_lt_or_eq.1 hj with h9 | rfl
    · exact h3 j h9 hd ha
    · rcases hs with hs | hs
      · rw [hs] at hd; cases hd
      · omega
theorem BestAt.keep (h : BestAt p key now out i best) (hb : 0 ≤ best) (hk : key best.toNat ≤ key i) : BestAt p key now out (i + 1) best := by
  rcases h with ⟨e, h⟩ | ⟨b, hb, e, h1, h2, h3⟩
  · omega
  · have e2 : best.toNat = b := by omega
    rw [e2] at hk
    refine .inr ⟨b, by omega, e, h1, h2, fun j hj hd ha => ?_⟩
    rcases Nat.lt_succ_iff_lt_or_eq.1 hj with h9 | rfl
    · exact h3 j h9 hd ha
    · exact ⟨hk, fun _ => by omega⟩
theorem BestAt.new_ (h : BestAt p key now out i best) (hd : dnB out i = false) (ha : aOf p i ≤ now) (hk : best < 0 ∨ (0 ≤ best ∧ key i < key best.toNat)) : BestAt p key now out (i + 1) i := by
  refine .inr ⟨i, by omega, rfl, hd, ha, fun j hj hdj haj => ?_⟩
  rcases Nat.lt_succ_iff_lt_or_eq.1 hj with h9 | rfl
  · rcases h with ⟨e, h⟩ | ⟨b, hb, e, h1, h2, h3⟩
    · have := h j h9 hdj; omega
    · have e2 : best.toNat = b := by omega
      rw [e2] at hk
      have := h3 j h9 hdj haj
      omega
  · exact ⟨Int.le_refl _, fun _ => Nat.le_refl _⟩
theorem FirstAt.skip (h : FirstAt out i first) (hs : dnB out i = true ∨ 0 ≤ first) : FirstAt out (i + 1) first := by
  rcases h with ⟨e, h⟩ | ⟨f, hf, e, h1, h2⟩
  · refine .inl ⟨e, fun j hj => ?_⟩
    rcases Nat.lt_succ_iff_lt_or_eq.1 hj with h9 | rfl
    · exact h j h9
    · rcases hs with hs | hs
      · exact hs
      · omega
  · exact .inr ⟨f, by omega, e, h1, h2⟩
theorem FirstAt.new_ (h : FirstAt out i first) (hd : dnB out i = false) (hf : first < 0) : FirstAt out (i + 1) i := by
  rcases h with ⟨e, h⟩ | ⟨f, hf, e, h1, h2⟩
  · exact .inr ⟨i, by omega, rfl, hd, h⟩
  · omega
theorem BestAt.lt (h : BestAt p key now out i best) : best = -1 ∨ (0 ≤ best ∧ best < i) := by
  rcases h with ⟨e, _⟩ | ⟨b, hb, e, _⟩
  · exact .inl e
  · exact .inr (by omega)
theorem FirstAt.lt (h : FirstAt out i first) : first = -1 ∨ (0 ≤ first ∧ first < i) := by
  rcases h with ⟨e, _⟩ | ⟨b, hb, e, _⟩
  · exact .inl e
  · exact .inr (by omega)
end
/-- Those that wait: come, and not sent. -/
theorem wait_iff {p : List Pk} {key : Nat → Int} (hs : p.Pairwise (fun x y => x.a ≤ y.a)) {t : St (List Nat)} (h : Inv (leastM key) p t) (hj : RankJ p key t) (j : Nat) (hl : j < p.length) :
    j ∈ (comeL (leastM key) t.now (p.drop t.next) t.next t.s).2 ↔ (dnB t.out j = false ∧ aOf p j ≤ t.now) := by
  obtain ⟨hc, _⟩ := comeL_inv (leastOk key _) t.now (p.drop t.next) t.next t.s rfl h.toC
  have hall := comeL_all (leastOk key _) hs h hj.came j hl
  generalize comeL (leastM key) t.now (p.drop t.next) t.next t.s = q at hc hall
  have hnd : ((t.out.map fun x => x.p.toNat) ++ q.2).Nodup := (hc.perm.nodup_iff).2 List.nodup_range
  have hm : ∀ j, (j ∈ (t.out.map fun x => x.p.toNat) ∨ j ∈ q.2) ↔ j < q.1 := fun j => (List.mem_append.symm).trans ((hc.perm.mem_iff).trans List.mem_range)
  rw [← hall, dnB_not]
  refine ⟨fun h1 => ⟨fun y hy e => ?_, (hm j).1 (.inr h1)⟩, fun ⟨h1, h2⟩ => ?_⟩
  · exact (List.nodup_append.1 hnd).2.2 _ (List.mem_map.2 ⟨y, hy, by omega⟩) _ h1 rfl
  · rcases (hm j).2 h2 with h3 | h3
    · obtain ⟨y, hy, e⟩ := List.mem_map.1 h3
      have := h.pos y hy
      exact absurd (show y.p = (j : Int) by omega) (h1 y hy)
    · exact h3
theorem ref_none {p : List Pk} {per : Int} {key : Nat → Int} (hs : p.Pairwise (fun x y => x.a ≤ y.a)) {t : St (List Nat)} (h : Inv (leastM key) p t) (hj : RankJ p key t) (hlt : t.out.length < p.length) {best first : Int}
    (hb : BestAt p key t.now t.out p.length best) (hf : FirstAt t.out p.length first) (hn : best < 0) :
    ∃ (f : Nat) (n : Nat) (s : List Nat), first = f ∧ f < p.length ∧ stepS (leastM key) p per t = ⟨t.out, aOf p f, n, s⟩ := by
  have hw := wait_iff hs h hj
  obtain ⟨hc, hlt2⟩ := comeL_inv (leastOk key _) t.now (p.drop t.next) t.next t.s rfl h.toC
  have hst : ∀ {k s}, comeL (leastM key) t.now (p.drop t.next) t.next t.s = (k, s) → (leastM key).pick s = none → stepS (leastM key) p per t = ⟨t.out, aOf p k, k, (leastM key).rest s⟩ := fun h1 h2 => step_none h1 h2
  generalize comeL (leastM key) t.now (p.drop t.next) t.next t.s = q at hc hlt2 hw hst
  have hq2 : q.2 = [] := by
    refine List.eq_nil_iff_forall_not_mem.2 fun j hjm => ?_
    have hjl : j < p.length := Nat.lt_of_lt_of_le (hc.wait_lt hjm) hc.k_le
    obtain ⟨h1, h2⟩ := (hw j hjl).1 hjm
    rcases hb with ⟨e, hb⟩ | ⟨b, hb, e, _⟩
    · have := hb j hjl h1; omega
    · omega
  have hpk : (leastM key).pick q.2 = none := by rw [hq2]; rfl
  have hid := hc.idle (leastOk key _) hpk
  have hm : ∀ j, j ∈ (t.out.map fun x => x.p.toNat) ↔ j < q.1 := fun j => by
    have := (hc.perm.mem_iff (a := j)).trans List.mem_range
    rw [show (leastM key).wait q.2 = [] from hq2, List.append_nil] at this
    exact this
  have hfq : first = (q.1 : Int) := by
    have hdq : dnB t.out q.1 = false := dnB_not.2 fun y hy e => by
      have := (hm q.1).1 (List.mem_map.2 ⟨y, hy, by omega⟩)
      omega
    have hdl : ∀ j, j < q.1 → dnB t.out j = true := fun j hjq => by
      obtain ⟨y, hy, e⟩ := List.mem_map.1 ((hm j).2 hjq)
      have := h.pos y hy
      exact dnB_iff.2 ⟨y, hy, by omega⟩
    rcases hf with ⟨e, hf⟩ | ⟨f, hfl, e, h1, h2⟩
    · have := hf q.1 (by omega)
      rw [hdq] at this; cases this
    · rcases Nat.lt_trichotomy f q.1 with h9 | h9 | h9
      · rw [hdl f h9] at h1; cases h1
      · omega
      · have := h2 q.1 h9
        rw [hdq] at this; cases this
  exact ⟨q.1, q.1, _, hfq, by omega, hst rfl hpk⟩
theorem ref_some {p : List Pk} {per : Int} {key : Nat → Int} (hs : p.Pairwise (fun x y => x.a ≤ y.a)) {t : St (List Nat)} (h : Inv (leastM key) p t) (hj : RankJ p key t) {best : Int}
    (hb : BestAt p key t.now t.out p.length best) (hn : 0 ≤ best) :
    ∃ (k n : Nat) (s : List Nat), best = k ∧ k < p.length ∧ dnB t.out k = false ∧ stepS (leastM key) p per t = ⟨t.out ++ [⟨k, t.now, t.now + per * sOf p k⟩], t.now + per * sOf p k, n, s⟩ := by
  have hw := wait_iff hs h hj
  obtain ⟨hc, hlt2⟩ := comeL_inv (leastOk key _) t.now (p.drop t.next) t.next t.s rfl h.toC
  have hst : ∀ {k j : Nat} {s s'}, comeL (leastM key) t.now (p.drop t.next) t.next t.s = (k, s) → (leastM key).pick s = some (j, s') → stepS (leastM key) p per t = ⟨t.out ++ [⟨j, t.now, t.now + per * sOf p j⟩], t.now + per * sOf p j, k, s'⟩ := fun h1 h2 => step_some h1 h2
  generalize comeL (leastM key) t.now (p.drop t.next) t.next t.s = q at hc hlt2 hw hst
  rcases hb with ⟨e, hb⟩ | ⟨b, hbl, e, h1, h2, h3⟩
  · omega
  · have hbm := (hw b hbl).2 ⟨h1, h2⟩
    have hne : q.2.length ≠ 0 := fun h9 => by rw [List.eq_nil_of_length_eq_zero h9] at hbm; cases hbm
    have hB := bestI_ok key q.2 (by omega)
    have hBl := hB.lt
    have eg : q.2.getD (bestI key q.2) 0 = q.2[bestI key q.2] := by simp [List.getD, hBl]
    have hk2 : q.2[bestI key q.2] ∈ q.2 := List.getElem_mem _
    have hkl : q.2[bestI key q.2] < p.length := Nat.lt_of_lt_of_le (hc.wait_lt hk2) hc.k_le
    obtain ⟨g1, g2⟩ := (hw _ hkl).1 hk2
    have h4 := h3 _ hkl g1 g2
    obtain ⟨a, ha, ea⟩ := List.getElem_of_mem hbm
    have e1 : q.2.getD a 0 = b := by simp [List.getD, ha, ea]
    have h5 := hB.le a ha
    rw [e1, eg] at h5
    have heq : key b = key q.2[bestI key q.2] := by omega
    have hbk : b = q.2[bestI key q.2] := by
      refine Nat.le_antisymm (h4.2 heq.symm) ?_
      rcases Nat.lt_or_ge a (bestI key q.2) with h6 | h6
      · have := hB.first a h6
        rw [e1, eg] at this
        omega
      · rcases Nat.eq_or_lt_of_le h6 with h7 | h7
        · subst ea
          simp only [h7]; exact Nat.le_refl _
        · have := List.pairwise_iff_getElem.1 hc.ok.2 _ _ hBl ha h7
          omega
    have hpk : (leastM key).pick q.2 = some (b, q.2.eraseIdx (bestI key q.2)) := by
      show (if q.2.length = 0 then none else _) = _
      rw [if_neg hne, eg, ← hbk]
    exact ⟨b, q.1, _, e, hbl, h1, hst rfl hpk⟩
end Go.Proofs.YthgpbdlmadjndaaDoor
