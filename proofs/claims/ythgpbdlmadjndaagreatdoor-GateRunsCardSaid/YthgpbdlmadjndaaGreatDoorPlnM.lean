/- A link by least keys, plainly. No program. No condition. A link by least keys, plainly: when one is sent, none that had come, and was not sent yet, has a lesser key, or the same one and a lesser number. No program. No condition. The document's link by keys (scan for the least), plainly: it takes the same steps as a list of those that wait. No program. No condition. The spread of two flows in what was sent, plainly: as package round takes it, stretch by stretch; a bound of it by a potential. No program. No condition. Round by round, plainly: the picker, what holds of its states, and that it is a picker. No program. No condition. SHREEDHAR and VARGHESE, plainly: while two flows wait, what they get by rounds is by their quanta, but for three quanta of both, and a packet of each. No program. No condition. By tags, plainly: the picker, what holds of its states, and that it is a picker. No program. No condition. GOLESTANI, plainly: while two flows wait, what they get by tags is by their weights, but for a packet of each; tags do not fall while the link is busy. No program. No condition. The document's links, plainly, whatever the picker: who waits, who is first; its link by tags takes the same steps. No program. No condition. -/
import Derived.Test.YthgpbdlmadjndaaGreatDoorPkM
import Derived.Test.YthgpbdlmadjndaaGreatDoorFifoM2
namespace Go.Proofs.YthgpbdlmadjndaaGreatDoor
def bestGo (key : Nat → Int) : Nat → Int → Nat → List Nat → Nat
  | b, _, _, [] => b
  | b, kb, i, k :: r => if key k < kb then bestGo key i (key k) (i + 1) r else bestGo key b kb (i + 1) r
/-- The place of the least key, of these the first. -/
def bestI (key : Nat → Int) (s : List Nat) : Nat := bestGo key 0 (key (s.getD 0 0)) 0 s
structure BestOk (key : Nat → Int) (s : List Nat) (i b : Nat) (kb : Int) : Prop where
  lt : b < s.length
  key_ : kb = key (s.getD b 0)
  le : ∀ j, j < i → kb ≤ key (s.getD j 0)
  first : ∀ j, j < b → kb < key (s.getD j 0)
theorem bestGo_ok (key : Nat → Int) (s r : List Nat) (i b : Nat) (kb : Int) (hr : s.drop i = r) (h : BestOk key s i b kb) (hbi : b < i ∨ (i = 0 ∧ b = 0)) : BestOk key s s.length (bestGo key b kb i r) (key (s.getD (bestGo key b kb i r) 0)) := by
  induction r generalizing i b kb with
  | nil =>
    have hl : s.length ≤ i := by have := congrArg List.length hr; simp at this; omega
    show BestOk key s s.length b (key (s.getD b 0))
    rw [← h.key_]
    exact ⟨h.lt, h.key_, fun j hj => h.le j (by omega), h.first⟩
  | cons k r ih =>
    have hk : i < s.length := by
      have := congrArg List.length hr
      simp at this
      omega
    have hd := List.drop_eq_getElem_cons hk
    rw [hr] at hd
    injection hd with hx hr'
    have hg : s.getD i 0 = k := by simp [List.getD, hk, hx]
    unfold bestGo
    by_cases hc : key k < kb
    · rw [if_pos hc]
      refine ih (i + 1) i (key k) hr'.symm ⟨hk, by rw [hg], fun j hj => ?_, fun j hj => ?_⟩ (.inl (Nat.lt_succ_self i))
      · rcases Nat.lt_succ_iff_lt_or_eq.1 hj with h1 | h1
        · have := h.le j h1; omega
        · subst h1; rw [hg]; exact Int.le_refl _
      · have := h.le j hj; omega
    · rw [if_neg hc]
      refine ih (i + 1) b kb hr'.symm ⟨h.lt, h.key_, fun j hj => ?_, h.first⟩ (.inl (by omega))
      rcases Nat.lt_succ_iff_lt_or_eq.1 hj with h1 | h1
      · exact h.le j h1
      · subst h1; rw [hg]; omega
theorem bestI_ok (key : Nat → Int) (s : List Nat) (h : 0 < s.length) : BestOk key s s.length (bestI key s) (key (s.getD (bestI key s) 0)) :=
  bestGo_ok key s s 0 0 _ rfl ⟨h, rfl, fun j hj => absurd hj (Nat.not_lt_zero j), fun j hj => absurd hj (Nat.not_lt_zero j)⟩ (.inr ⟨rfl, rfl⟩)

theorem erase_perm {α : Type} (l : List α) (i : Nat) (h : i < l.length) : l.Perm (l[i] :: l.eraseIdx i) := by
  induction l generalizing i with
  | nil => simp at h
  | cons x r ih =>
    cases i with
    | zero => exact List.Perm.refl _
    | succ i =>
      have := ih i (by simpa using h)
      simp only [List.getElem_cons_succ, List.eraseIdx_cons_succ]
      exact (List.Perm.cons x this).trans (List.Perm.swap _ _ _)
def leastM (key : Nat → Int) : Pol (List Nat) where
  come s k := s ++ [k]
  pick s := if s.length = 0 then none else some (s.getD (bestI key s) 0, s.eraseIdx (bestI key s))
  rest s := s
  wait s := s
  ok m s := (∀ j ∈ s, j < m) ∧ s.Pairwise (· < ·)
theorem leastOk (key : Nat → Int) (n : Nat) : PolOk (leastM key) n where
  ok_come := fun s k ⟨h1, h2⟩ _ => ⟨fun j hj => by
    rcases List.mem_append.1 hj with h | h
    · have := h1 j h; omega
    · rw [List.mem_singleton.1 h]; omega, List.pairwise_append.2 ⟨h2, List.pairwise_singleton _ _, fun a ha b hb => by rw [List.mem_singleton.1 hb]; exact h1 a ha⟩⟩
  ok_pick := fun s m k s' ⟨h1, h2⟩ hp => by
    simp only [leastM] at hp
    split at hp
    · cases hp
    · simp only [Option.some.injEq, Prod.mk.injEq] at hp
      obtain ⟨_, rfl⟩ := hp
      exact ⟨fun j hj => h1 j (List.mem_of_mem_eraseIdx hj), h2.sublist (List.eraseIdx_sublist _ _)⟩
  ok_rest := fun s m h _ => h
  w_come := fun s k _ _ => List.perm_append_comm (l₂ := [k])
  w_none := fun s m _ hp => by
    simp only [leastM] at hp ⊢
    split at hp
    · rename_i h; exact List.eq_nil_of_length_eq_zero h
    · cases hp
  w_some := fun s m k s' _ hp => by
    simp only [leastM] at hp ⊢
    split at hp
    · cases hp
    · rename_i h
      simp only [Option.some.injEq, Prod.mk.injEq] at hp
      obtain ⟨rfl, rfl⟩ := hp
      have hb := (bestI_ok key s (by omega)).lt
      have e : s.getD (bestI key s) 0 = s[bestI key s] := by simp [List.getD, hb]
      rw [e]
      exact erase_perm s _ hb
  w_rest := fun s m _ h => h
end Go.Proofs.YthgpbdlmadjndaaGreatDoor
namespace Go.Proofs.YthgpbdlmadjndaaGreatDoor
theorem pktBad_sorted {l : List Pk} {m : Int} {k : Nat} (h : (pktBad l m k).1 = 0) : (∀ x ∈ l, m ≤ x.a) ∧ l.Pairwise (fun x y => x.a ≤ y.a) := by
  induction l generalizing m k with
  | nil => exact ⟨by simp, List.Pairwise.nil⟩
  | cons x r ih =>
    unfold pktBad at h
    split at h
    · split at h
      · simp at h
      · rename_i h2
        obtain ⟨i1, i2⟩ := ih h
        refine ⟨fun y hy => ?_, List.pairwise_cons.2 ⟨i1, i2⟩⟩
        rcases List.mem_cons.1 hy with rfl | hy
        · omega
        · have := i1 y hy; omega
    · simp at h
theorem pktErr_sorted {l : List Pk} (h : (pktErr l).1 = 0) : l.Pairwise (fun x y => x.a ≤ y.a) := by
  unfold pktErr at h
  by_cases h1 : 300 < l.length
  · rw [if_pos h1] at h; simp at h
  · rw [if_neg h1] at h; exact (pktBad_sorted h).2
theorem lookErr_sorted {p : List Pk} {per : Int} (h : (lookErr p per).1 = 0) : p.Pairwise (fun x y => x.a ≤ y.a) := by
  unfold lookErr at h
  by_cases h1 : (pktErr p).1 ≠ 0
  · rw [if_pos h1] at h; exact absurd h h1
  · exact pktErr_sorted (by omega)
theorem aOf_mono {p : List Pk} (h : p.Pairwise (fun x y => x.a ≤ y.a)) {i j : Nat} (hij : i ≤ j) (hj : j < p.length) : aOf p i ≤ aOf p j := by
  rcases Nat.eq_or_lt_of_le hij with rfl | hlt
  · exact Int.le_refl _
  · rw [aOf_of hj, aOf_of (Nat.lt_trans hlt hj)]
    exact List.pairwise_iff_getElem.1 h i j (Nat.lt_trans hlt hj) hj hlt
/-- All that have come by a tick, and no others. -/
theorem comeL_all {σ : Type} {M : Pol σ} {p : List Pk} (hM : PolOk M p.length) (hs : p.Pairwise (fun x y => x.a ≤ y.a)) {t : St σ} (h : Inv M p t) (hc : ∀ j, j < t.next → aOf p j ≤ t.now) (j : Nat) (hj : j < p.length) :
    j < (comeL M t.now (p.drop t.next) t.next t.s).1 ↔ aOf p j ≤ t.now := by
  obtain ⟨_, hlt2⟩ := comeL_inv hM t.now (p.drop t.next) t.next t.s rfl h.toC
  have hge := comeL_ge M t.now (p.drop t.next) t.next t.s
  have hle := comeL_le M p t.now (p.drop t.next) t.next t.s rfl
  generalize comeL M t.now (p.drop t.next) t.next t.s = q at hlt2 hge hle
  refine ⟨fun h1 => ?_, fun h1 => ?_⟩
  · by_cases h9 : j < t.next
    · exact hc j h9
    · exact hle j (by omega) h1
  · refine Nat.lt_of_not_le fun h2 => ?_
    have h3 := hlt2 (by omega)
    have := aOf_mono hs h2 hj
    omega
structure SentOk (p : List Pk) (key : Nat → Int) (prev : List Sn) (x : Sn) : Prop where
  pos : 0 ≤ x.p
  lt : x.p.toNat < p.length
  fresh : ∀ y ∈ prev, y.p ≠ x.p
  came : aOf p x.p.toNat ≤ x.f
  least : ∀ j, j < p.length → (∀ y ∈ prev, y.p ≠ j) → aOf p j ≤ x.f → key x.p.toNat ≤ key j ∧ (key j = key x.p.toNat → x.p.toNat ≤ j)
structure RankJ (p : List Pk) (key : Nat → Int) (t : St (List Nat)) : Prop where
  came : ∀ j, j < t.next → aOf p j ≤ t.now
  all : ∀ i (h : i < t.out.length), SentOk p key (t.out.take i) t.out[i]
theorem rank_step {p : List Pk} {per : Int} {key : Nat → Int} (hp : ∀ x ∈ p, okPk x) (hs : p.Pairwise (fun x y => x.a ≤ y.a)) (h0 : 1 ≤ per) (t : St (List Nat)) (h : Inv (leastM key) p t) (hlt : t.out.length < p.length) (hj : RankJ p key t) : RankJ p key (stepS (leastM key) p per t) := by
  obtain ⟨hc, hlt2⟩ := comeL_inv (leastOk key _) t.now (p.drop t.next) t.next t.s rfl h.toC
  have hall := comeL_all (leastOk key _) hs h hj.came
  unfold stepS
  generalize comeL (leastM key) t.now (p.drop t.next) t.next t.s = q at hc hlt2 hall
  cases hpk : (leastM key).pick q.2 with
  | none =>
    have hid := hc.idle (leastOk key _) hpk
    refine ⟨fun j hjj => ?_, hj.all⟩
    show aOf p j ≤ aOf p q.1
    exact aOf_mono hs (Nat.le_of_lt hjj) (by omega)
  | some ks =>
    obtain ⟨k, s'⟩ := ks
    have hk : k < q.1 := hc.pick_lt (leastOk key _) hpk
    have hkl : k < p.length := Nat.lt_of_lt_of_le hk hc.k_le
    have hok := hp _ (List.getElem_mem hkl)
    have m1 : 0 ≤ per * sOf p k := Int.mul_nonneg (by omega) (by rw [sOf_of hkl]; have := hok.2.2.1; omega)
    have hnd : ((t.out.map fun x => x.p.toNat) ++ q.2).Nodup := (hc.perm.nodup_iff).2 List.nodup_range
    have hokw := hc.ok.2
    simp only [leastM] at hpk hokw
    split at hpk
    · cases hpk
    · rename_i hne
      simp only [Option.some.injEq, Prod.mk.injEq] at hpk
      obtain ⟨hk1, hs1⟩ := hpk
      have hb := bestI_ok key q.2 (by omega)
      have hbl := hb.lt
      have hkm : k ∈ q.2 := by rw [← hk1]; simp [List.getD, hbl]
      refine ⟨fun j hjj => ?_, fun i hi => ?_⟩
      · show aOf p j ≤ t.now + per * sOf p k
        have hjj' : j < q.1 := hjj
        have := (hall j (Nat.lt_of_lt_of_le hjj' hc.k_le)).1 hjj'
        omega
      · simp only [List.length_append, List.length_cons, List.length_nil] at hi
        rcases Nat.lt_or_ge i t.out.length with h9 | h9
        · have := hj.all i h9
          simp only
          rw [List.take_append_of_le_length (Nat.le_of_lt h9), List.getElem_append_left h9]
          exact this
        · obtain rfl : i = t.out.length := by omega
          simp only
          rw [List.take_left', List.getElem_concat_length rfl]
          · refine ⟨Int.natCast_nonneg _, hkl, fun y hy e => ?_, (hall k hkl).1 hk, fun j hjl hfr hja => ?_⟩
            · have h1 : y.p.toNat = k := by simp only at e; omega
              exact (List.nodup_append.1 hnd).2.2 _ (List.mem_map.2 ⟨y, hy, rfl⟩) _ hkm h1
            · have hjq := (hall j hjl).2 hja
              have hjm : j ∈ q.2 := by
                rcases List.mem_append.1 (hc.perm.mem_iff.2 (List.mem_range.2 hjq)) with h1 | h1
                · obtain ⟨y, hy, e⟩ := List.mem_map.1 h1
                  have := h.pos y hy
                  exact absurd (show y.p = (j : Int) by omega) (hfr y hy)
                · exact h1
              obtain ⟨a, ha, rfl⟩ := List.getElem_of_mem hjm
              have e1 : q.2.getD a 0 = q.2[a] := by simp [List.getD, ha]
              have e2 : q.2.getD (bestI key q.2) 0 = q.2[bestI key q.2] := by simp [List.getD, hbl]
              have h1 := hb.le a ha
              simp only [Int.toNat_natCast]
              rw [hk1, e1] at h1
              refine ⟨h1, fun e => ?_⟩
              rcases Nat.lt_or_ge a (bestI key q.2) with h2 | h2
              · have := hb.first a h2
                rw [hk1, e1] at this
                omega
              · rw [← hk1, e2]
                rcases Nat.eq_or_lt_of_le h2 with h3 | h3
                · simp only [h3]; exact Nat.le_refl _
                · exact Nat.le_of_lt (List.pairwise_iff_getElem.1 hokw _ _ hbl ha h3)
          · rfl
def leastL (p : List Pk) (per : Int) (key : Nat → Int) : List Sn := (serveS (leastM key) p per []).out
theorem least_start (p : List Pk) (key : Nat → Int) : Inv (leastM key) p ⟨[], 0, 0, []⟩ := inv_start p rfl ⟨by simp, List.Pairwise.nil⟩
theorem leastL_len {p : List Pk} {per : Int} {key : Nat → Int} (hp : ∀ x ∈ p, okPk x) (h0 : 1 ≤ per) (h1 : per ≤ 1000) : (leastL p per key).length = p.length :=
  (run_all (leastOk key _) hp h0 h1 (2 * p.length + 1) _ (least_start p key) (mu_start p _) (Nat.zero_le _)).2
theorem leastL_ok {p : List Pk} {per : Int} {key : Nat → Int} (hp : ∀ x ∈ p, okPk x) (hs : p.Pairwise (fun x y => x.a ≤ y.a)) (h0 : 1 ≤ per) (h1 : per ≤ 1000) : ∀ i (h : i < (leastL p per key).length), SentOk p key ((leastL p per key).take i) (leastL p per key)[i] :=
  (run_ind (leastOk key _) hp h0 h1 (RankJ p key) (fun t a b c => rank_step hp hs h0 t a b c) (2 * p.length + 1) _ (least_start p key) ⟨fun j hj => by simp at hj, fun i hi => by simp at hi⟩).all
end Go.Proofs.YthgpbdlmadjndaaGreatDoor
namespace Go.Proofs.YthgpbdlmadjndaaGreatDoor
def dnB (out : List Sn) (j : Nat) : Bool := out.any fun y => y.p == (j : Int)
theorem dnB_iff {out : List Sn} {j : Nat} : dnB out j = true ↔ ∃ y ∈ out, y.p = (j : Int) := by
  unfold dnB
  simp [List.any_eq_true]
theorem dnB_not {out : List Sn} {j : Nat} : dnB out j = false ↔ ∀ y ∈ out, y.p ≠ (j : Int) := by
  rw [← Bool.not_eq_true, dnB_iff]
  exact ⟨fun h y hy e => h ⟨y, hy, e⟩, fun h ⟨y, hy, e⟩ => h y hy e⟩
theorem dnB_add (out : List Sn) (x : Sn) (j : Nat) : dnB (out ++ [x]) j = (dnB out j || x.p == (j : Int)) := by simp [dnB]
def BestAt (p : List Pk) (key : Nat → Int) (now : Int) (out : List Sn) (i : Nat) (best : Int) : Prop :=
  (best = -1 ∧ ∀ j, j < i → dnB out j = false → now < aOf p j) ∨
  ∃ b : Nat, b < i ∧ best = b ∧ dnB out b = false ∧ aOf p b ≤ now ∧ ∀ j, j < i → dnB out j = false → aOf p j ≤ now → key b ≤ key j ∧ (key j = key b → b ≤ j)
def FirstAt (out : List Sn) (i : Nat) (first : Int) : Prop :=
  (first = -1 ∧ ∀ j, j < i → dnB out j = true) ∨ ∃ f : Nat, f < i ∧ first = f ∧ dnB out f = false ∧ ∀ j, j < f → dnB out j = true
section
variable {p : List Pk} {key : Nat → Int} {now : Int} {out : List Sn} {i : Nat} {best first : Int}
theorem best0 : BestAt p key now out 0 (-1) := .inl ⟨rfl, fun _ h => absurd h (Nat.not_lt_zero _)⟩
theorem first0 : FirstAt out 0 (-1) := .inl ⟨rfl, fun _ h => absurd h (Nat.not_lt_zero _)⟩
theorem BestAt.skip (h : BestAt p key now out i best) (hs : dnB out i = true ∨ now < aOf p i) : BestAt p key now out (i + 1) best := by
  rcases h with ⟨e, h⟩ | ⟨b, hb, e, h1, h2, h3⟩
  · refine .inl ⟨e, fun j hj hd => ?_⟩
    rcases Nat.lt_succ_iff_lt_or_eq.1 hj with h9 | rfl
    · exact h j h9 hd
    · rcases hs with hs | hs
      · rw [hs] at hd; cases hd
      · exact hs
  · refine .inr ⟨b, by omega, e, h1, h2, fun j hj hd ha => ?_⟩
    rcases Nat.lt_succ_iff_lt_or_eq.1 hj with h9 | rfl
    · exact h3 j h9 hd ha
    · rcases hs with hs | hs
      · rw [hs] at hd; cases hd
      · omega
theorem BestAt.keep (h : BestAt p key now out i best) (hb : 0 ≤ best) (hk : key best.toNat ≤ key i) : BestAt p key now out (i + 1) best := by
  rcases h with ⟨e, h⟩ | ⟨b, hb, e, h1, h2, h3⟩
  · omega
  · have e2 : best.toNat = b := by omega
    rw [e2] at hk
    refine .inr ⟨b, by omega, e, h1, h2, fun j hj hd ha => ?_⟩
    rcases Nat.lt_succ_iff_lt_or_eq.1 hj with h9 | rfl
    · exact h3 j h9 hd ha
    · exact ⟨hk, fun _ => by omega⟩
theorem BestAt.new_ (h : BestAt p key now out i best) (hd : dnB out i = false) (ha : aOf p i ≤ now) (hk : best < 0 ∨ (0 ≤ best ∧ key i < key best.toNat)) : BestAt p key now out (i + 1) i := by
  refine .inr ⟨i, by omega, rfl, hd, ha, fun j hj hdj haj => ?_⟩
  rcases Nat.lt_succ_iff_lt_or_eq.1 hj with h9 | rfl
  · rcases h with ⟨e, h⟩ | ⟨b, hb, e, h1, h2, h3⟩
    · have := h j h9 hdj; omega
    · have e2 : best.toNat = b := by omega
      rw [e2] at hk
      have := h3 j h9 hdj haj
      omega
  · exact ⟨Int.le_refl _, fun _ => Nat.le_refl _⟩
theorem FirstAt.skip (h : FirstAt out i first) (hs : dnB out i = true ∨ 0 ≤ first) : FirstAt out (i + 1) first := by
  rcases h with ⟨e, h⟩ | ⟨f, hf, e, h1, h2⟩
  · refine .inl ⟨e, fun j hj => ?_⟩
    rcases Nat.lt_succ_iff_lt_or_eq.1 hj with h9 | rfl
    · exact h j h9
    · rcases hs with hs | hs
      · exact hs
      · omega
  · exact .inr ⟨f, by omega, e, h1, h2⟩
theorem FirstAt.new_ (h : FirstAt out i first) (hd : dnB out i = false) (hf : first < 0) : FirstAt out (i + 1) i := by
  rcases h with ⟨e, h⟩ | ⟨f, hf, e, h1, h2⟩
  · exact .inr ⟨i, by omega, rfl, hd, h⟩
  · omega
theorem BestAt.lt (h : BestAt p key now out i best) : best = -1 ∨ (0 ≤ best ∧ best < i) := by
  rcases h with ⟨e, _⟩ | ⟨b, hb, e, _⟩
  · exact .inl e
  · exact .inr (by omega)
theorem FirstAt.lt (h : FirstAt out i first) : first = -1 ∨ (0 ≤ first ∧ first < i) := by
  rcases h with ⟨e, _⟩ | ⟨b, hb, e, _⟩
  · exact .inl e
  · exact .inr (by omega)
end
/-- Those that wait: come, and not sent. -/
theorem wait_iff {p : List Pk} {key : Nat → Int} (hs : p.Pairwise (fun x y => x.a ≤ y.a)) {t : St (List Nat)} (h : Inv (leastM key) p t) (hj : RankJ p key t) (j : Nat) (hl : j < p.length) :
    j ∈ (comeL (leastM key) t.now (p.drop t.next) t.next t.s).2 ↔ (dnB t.out j = false ∧ aOf p j ≤ t.now) := by
  obtain ⟨hc, _⟩ := comeL_inv (leastOk key _) t.now (p.drop t.next) t.next t.s rfl h.toC
  have hall := comeL_all (leastOk key _) hs h hj.came j hl
  generalize comeL (leastM key) t.now (p.drop t.next) t.next t.s = q at hc hall
  have hnd : ((t.out.map fun x => x.p.toNat) ++ q.2).Nodup := (hc.perm.nodup_iff).2 List.nodup_range
  have hm : ∀ j, (j ∈ (t.out.map fun x => x.p.toNat) ∨ j ∈ q.2) ↔ j < q.1 := fun j => (List.mem_append.symm).trans ((hc.perm.mem_iff).trans List.mem_range)
  rw [← hall, dnB_not]
  refine ⟨fun h1 => ⟨fun y hy e => ?_, (hm j).1 (.inr h1)⟩, fun ⟨h1, h2⟩ => ?_⟩
  · exact (List.nodup_append.1 hnd).2.2 _ (List.mem_map.2 ⟨y, hy, by omega⟩) _ h1 rfl
  · rcases (hm j).2 h2 with h3 | h3
    · obtain ⟨y, hy, e⟩ := List.mem_map.1 h3
      have := h.pos y hy
      exact absurd (show y.p = (j : Int) by omega) (h1 y hy)
    · exact h3
theorem ref_none {p : List Pk} {per : Int} {key : Nat → Int} (hs : p.Pairwise (fun x y => x.a ≤ y.a)) {t : St (List Nat)} (h : Inv (leastM key) p t) (hj : RankJ p key t) (hlt : t.out.length < p.length) {best first : Int}
    (hb : BestAt p key t.now t.out p.length best) (hf : FirstAt t.out p.length first) (hn : best < 0) :
    ∃ (f : Nat) (n : Nat) (s : List Nat), first = f ∧ f < p.length ∧ stepS (leastM key) p per t = ⟨t.out, aOf p f, n, s⟩ := by
  have hw := wait_iff hs h hj
  obtain ⟨hc, hlt2⟩ := comeL_inv (leastOk key _) t.now (p.drop t.next) t.next t.s rfl h.toC
  have hst : ∀ {k s}, comeL (leastM key) t.now (p.drop t.next) t.next t.s = (k, s) → (leastM key).pick s = none → stepS (leastM key) p per t = ⟨t.out, aOf p k, k, (leastM key).rest s⟩ := fun h1 h2 => step_none h1 h2
  generalize comeL (leastM key) t.now (p.drop t.next) t.next t.s = q at hc hlt2 hw hst
  have hq2 : q.2 = [] := by
    refine List.eq_nil_iff_forall_not_mem.2 fun j hjm => ?_
    have hjl : j < p.length := Nat.lt_of_lt_of_le (hc.wait_lt hjm) hc.k_le
    obtain ⟨h1, h2⟩ := (hw j hjl).1 hjm
    rcases hb with ⟨e, hb⟩ | ⟨b, hb, e, _⟩
    · have := hb j hjl h1; omega
    · omega
  have hpk : (leastM key).pick q.2 = none := by rw [hq2]; rfl
  have hid := hc.idle (leastOk key _) hpk
  have hm : ∀ j, j ∈ (t.out.map fun x => x.p.toNat) ↔ j < q.1 := fun j => by
    have := (hc.perm.mem_iff (a := j)).trans List.mem_range
    rw [show (leastM key).wait q.2 = [] from hq2, List.append_nil] at this
    exact this
  have hfq : first = (q.1 : Int) := by
    have hdq : dnB t.out q.1 = false := dnB_not.2 fun y hy e => by
      have := (hm q.1).1 (List.mem_map.2 ⟨y, hy, by omega⟩)
      omega
    have hdl : ∀ j, j < q.1 → dnB t.out j = true := fun j hjq => by
      obtain ⟨y, hy, e⟩ := List.mem_map.1 ((hm j).2 hjq)
      have := h.pos y hy
      exact dnB_iff.2 ⟨y, hy, by omega⟩
    rcases hf with ⟨e, hf⟩ | ⟨f, hfl, e, h1, h2⟩
    · have := hf q.1 (by omega)
      rw [hdq] at this; cases this
    · rcases Nat.lt_trichotomy f q.1 with h9 | h9 | h9
      · rw [hdl f h9] at h1; cases h1
      · omega
      · have := h2 q.1 h9
        rw [hdq] at this; cases this
  exact ⟨q.1, q.1, _, hfq, by omega, hst rfl hpk⟩
theorem ref_some {p : List Pk} {per : Int} {key : Nat → Int} (hs : p.Pairwise (fun x y => x.a ≤ y.a)) {t : St (List Nat)} (h : Inv (leastM key) p t) (hj : RankJ p key t) {best : Int}
    (hb : BestAt p key t.now t.out p.length best) (hn : 0 ≤ best) :
    ∃ (k n : Nat) (s : List Nat), best = k ∧ k < p.length ∧ dnB t.out k = false ∧ stepS (leastM key) p per t = ⟨t.out ++ [⟨k, t.now, t.now + per * sOf p k⟩], t.now + per * sOf p k, n, s⟩ := by
  have hw := wait_iff hs h hj
  obtain ⟨hc, hlt2⟩ := comeL_inv (leastOk key _) t.now (p.drop t.next) t.next t.s rfl h.toC
  have hst : ∀ {k j : Nat} {s s'}, comeL (leastM key) t.now (p.drop t.next) t.next t.s = (k, s) → (leastM key).pick s = some (j, s') → stepS (leastM key) p per t = ⟨t.out ++ [⟨j, t.now, t.now + per * sOf p j⟩], t.now + per * sOf p j, k, s'⟩ := fun h1 h2 => step_some h1 h2
  generalize comeL (leastM key) t.now (p.drop t.next) t.next t.s = q at hc hlt2 hw hst
  rcases hb with ⟨e, hb⟩ | ⟨b, hbl, e, h1, h2, h3⟩
  · omega
  · have hbm := (hw b hbl).2 ⟨h1, h2⟩
    have hne : q.2.length ≠ 0 := fun h9 => by rw [List.eq_nil_of_length_eq_zero h9] at hbm; cases hbm
    have hB := bestI_ok key q.2 (by omega)
    have hBl := hB.lt
    have eg : q.2.getD (bestI key q.2) 0 = q.2[bestI key q.2] := by simp [List.getD, hBl]
    have hk2 : q.2[bestI key q.2] ∈ q.2 := List.getElem_mem _
    have hkl : q.2[bestI key q.2] < p.length := Nat.lt_of_lt_of_le (hc.wait_lt hk2) hc.k_le
    obtain ⟨g1, g2⟩ := (hw _ hkl).1 hk2
    have h4 := h3 _ hkl g1 g2
    obtain ⟨a, ha, ea⟩ := List.getElem_of_mem hbm
    have e1 : q.2.getD a 0 = b := by simp [List.getD, ha, ea]
    have h5 := hB.le a ha
    rw [e1, eg] at h5
    have heq : key b = key q.2[bestI key q.2] := by omega
    have hbk : b = q.2[bestI key q.2] := by
      refine Nat.le_antisymm (h4.2 heq.symm) ?_
      rcases Nat.lt_or_ge a (bestI key q.2) with h6 | h6
      · have := hB.first a h6
        rw [e1, eg] at this
        omega
      · rcases Nat.eq_or_lt_of_le h6 with h7 | h7
        · subst ea
          simp only [h7]; exact Nat.le_refl _
        · have := List.pairwise_iff_getElem.1 hc.ok.2 _ _ hBl ha h7
          omega
    have hpk : (leastM key).pick q.2 = some (b, q.2.eraseIdx (bestI key q.2)) := by
      show (if q.2.length = 0 then none else _) = _
      rw [if_neg hne, eg, ← hbk]
    exact ⟨b, q.1, _, e, hbl, h1, hst rfl hpk⟩
end Go.Proofs.YthgpbdlmadjndaaGreatDoor
namespace Go.Proofs.YthgpbdlmadjndaaGreatDoor
def flS (p : List Pk) (x : Sn) : Nat := (fOf p x.p.toNat).toNat
/-- Does a flow wait at one that is sent, with those behind it? -/
def wtB (p : List Pk) (f : Nat) (s : Sn) (r : List Sn) : Bool := r.any fun y => decide (flS p y = f ∧ aOf p y.p.toNat ≤ s.f)
/-- What one that is sent counts. -/
def cnt (p : List Pk) (qa qb : Int) (a b : Nat) (s : Sn) : Int := (if flS p s = a then sOf p s.p.toNat * qb else 0) - (if flS p s = b then sOf p s.p.toNat * qa else 0)
def sprGo (p : List Pk) (qa qb : Int) (a b : Nat) : Int → Int → Int → Int → List Sn → Int
  | most, _, _, _, [] => most
  | most, sum, low, high, s :: r =>
    if wtB p a s r = true ∧ wtB p b s r = true then
      sprGo p qa qb a b (max (max most (sum + cnt p qa qb a b s - low)) (high - (sum + cnt p qa qb a b s))) (sum + cnt p qa qb a b s) (min low (sum + cnt p qa qb a b s)) (max high (sum + cnt p qa qb a b s)) r
    else sprGo p qa qb a b most 0 0 0 r
def sprL (p : List Pk) (qa qb : Int) (a b : Nat) (l : List Sn) : Int := sprGo p qa qb a b 0 0 0 0 l
/-- A potential: what is sent lowers it by what it counts, while both wait. -/
structure Tr (p : List Pk) (qa qb : Int) (a b : Nat) (lo hi : Int) (l : List Sn) (P Q : Nat → Int) : Prop where
  all : ∀ i (h : i < l.length), wtB p a l[i] (l.drop (i + 1)) = true → wtB p b l[i] (l.drop (i + 1)) = true →
    lo ≤ P i ∧ P i ≤ hi ∧ lo ≤ Q i ∧ Q i ≤ hi ∧ Q i = P i - cnt p qa qb a b l[i] ∧ (i + 1 < l.length → P (i + 1) = Q i)
theorem spr_le_go {p : List Pk} {qa qb : Int} {a b : Nat} {lo hi : Int} {l : List Sn} {P Q : Nat → Int} (h : Tr p qa qb a b lo hi l P Q) (h0 : lo ≤ hi) :
    ∀ (r : List Sn) (i : Nat) (most sum low high : Int), l.drop i = r → most ≤ hi - lo →
      ((sum = 0 ∧ low = 0 ∧ high = 0) ∨ ∃ P0 : Int, (i < l.length → P0 - sum = P i) ∧ lo ≤ P0 - low ∧ P0 - low ≤ hi ∧ lo ≤ P0 - high ∧ P0 - high ≤ hi) →
      sprGo p qa qb a b most sum low high r ≤ hi - lo := by
  intro r
  induction r with
  | nil => intro i most sum low high _ hm _; exact hm
  | cons s r ih =>
    intro i most sum low high hr hm hinv
    have hi1 : i < l.length := by
      have := congrArg List.length hr
      simp at this
      omega
    have hd := List.drop_eq_getElem_cons hi1
    rw [hr] at hd
    injection hd with hs hr'
    unfold sprGo
    by_cases hw : wtB p a s r = true ∧ wtB p b s r = true
    · rw [if_pos hw]
      have hw' := hw
      rw [hs, hr'] at hw'
      obtain ⟨t1, t2, t3, t4, t5, t6⟩ := h.all i hi1 hw'.1 hw'.2
      rw [← hs] at t5
      generalize cnt p qa qb a b s = x at t5 ⊢
      rcases hinv with ⟨rfl, rfl, rfl⟩ | ⟨P0, e1, e2, e3, e4, e5⟩
      · refine ih (i + 1) _ _ _ _ hr'.symm (by omega) (.inr ⟨P i, fun h9 => ?_, by omega, by omega, by omega, by omega⟩)
        rw [t6 h9]; omega
      · have e1' := e1 hi1
        refine ih (i + 1) _ _ _ _ hr'.symm (by omega) (.inr ⟨P0, fun h9 => ?_, by omega, by omega, by omega, by omega⟩)
        rw [t6 h9]; omega
    · rw [if_neg hw]
      exact ih (i + 1) most 0 0 0 hr'.symm hm (.inl ⟨rfl, rfl, rfl⟩)
theorem spr_le {p : List Pk} {qa qb : Int} {a b : Nat} {lo hi : Int} {l : List Sn} {P Q : Nat → Int} (h : Tr p qa qb a b lo hi l P Q) (h0 : lo ≤ hi) : sprL p qa qb a b l ≤ hi - lo :=
  spr_le_go h h0 l 0 0 0 0 0 rfl (by omega) (.inl ⟨rfl, rfl, rfl⟩)
/-- Those that had come, of a flow, and are not sent yet. -/
def WtP (p : List Pk) (f : Nat) (prev : List Sn) (x : Sn) : Prop := ∃ j, j < p.length ∧ (fOf p j).toNat = f ∧ aOf p j ≤ x.f ∧ (∀ y ∈ prev, y.p ≠ j) ∧ x.p ≠ j
theorem wt_of {p : List Pk} {f : Nat} {l : List Sn} (hpos : ∀ x ∈ l, 0 ≤ x.p) (hlt : ∀ x ∈ l, x.p.toNat < p.length) (hnd : (l.map fun x => x.p.toNat).Nodup) {i : Nat} (hi : i < l.length) (h : wtB p f l[i] (l.drop (i + 1)) = true) : WtP p f (l.take i) l[i] := by
  unfold wtB at h
  obtain ⟨y, hy, hd⟩ := List.any_eq_true.1 h
  obtain ⟨h1, h2⟩ := of_decide_eq_true hd
  have hyl : y ∈ l := List.mem_of_mem_drop hy
  have hsplit : l = l.take i ++ l[i] :: l.drop (i + 1) := by rw [← List.drop_eq_getElem_cons hi, List.take_append_drop]
  rw [hsplit, List.map_append, List.map_cons] at hnd
  obtain ⟨_, h3, h4⟩ := List.nodup_append.1 hnd
  obtain ⟨h5, _⟩ := List.nodup_cons.1 h3
  have hym : y.p.toNat ∈ (l.drop (i + 1)).map fun x => x.p.toNat := List.mem_map.2 ⟨y, hy, rfl⟩
  have hy0 := hpos y hyl
  refine ⟨y.p.toNat, hlt y hyl, h1, h2, fun z hz e => ?_, fun e => ?_⟩
  · have hz2 : z.p.toNat = y.p.toNat := by rw [e]; omega
    exact h4 _ (List.mem_map.2 ⟨z, hz, rfl⟩) _ (List.mem_cons_of_mem _ hym) hz2
  · have : l[i].p.toNat = y.p.toNat := by rw [e]; omega
    exact h5 (this ▸ hym)
end Go.Proofs.YthgpbdlmadjndaaGreatDoor
namespace Go.Proofs.YthgpbdlmadjndaaGreatDoor
/-- Turns of flows: queues, credits, the row, who is served. -/
structure RS where
  q : Nat → List Nat
  c : Nat → Int
  row : List Nat
  sv : Option Nat
def upd {α : Type} (f : Nat → α) (g : Nat) (x : α) : Nat → α := fun h => if h = g then x else f h
theorem upd_same {α : Type} (f : Nat → α) (g : Nat) (x : α) : upd f g x g = x := if_pos rfl
theorem upd_other {α : Type} (f : Nat → α) {g h : Nat} (x : α) (hne : h ≠ g) : upd f g x h = f h := if_neg hne
def flN (p : List Pk) (k : Nat) : Nat := (fOf p k).toNat
def qu (l : List Int) (g : Nat) : Int := l.getD g 0
def lst (s : RS) : List Nat := match s.sv with
  | some g => g :: s.row
  | none => s.row
def rCome (p : List Pk) (s : RS) (k : Nat) : RS :=
  { s with row := if flN p k ∈ lst s then s.row else s.row ++ [flN p k], q := upd s.q (flN p k) (s.q (flN p k) ++ [k]) }
/-- Whose turn it is; it begins. -/
def rTurn (qs : List Int) (s : RS) : Option (Nat × RS) := match s.sv with
  | some g => some (g, s)
  | none => match s.row with
    | [] => none
    | g :: r => some (g, { s with row := r, sv := some g, c := upd s.c g (s.c g + qu qs g) })
def rHead (s : RS) (g : Nat) : Nat := (s.q g).headD 0
/-- The head of a flow's queue is sent. -/
def rSend (p : List Pk) (s : RS) (g : Nat) : RS :=
  if (s.q g).tail = [] then { s with q := upd s.q g [], c := upd s.c g 0, sv := none } else { s with q := upd s.q g (s.q g).tail, c := upd s.c g (s.c g - sOf p (rHead s g)) }
/-- A turn ends. -/
def rEnd (s : RS) (g : Nat) : RS := { s with row := s.row ++ [g], sv := none }
def rPick (p : List Pk) (qs : List Int) : Nat → RS → Option (Nat × RS)
  | 0, _ => none
  | f + 1, s => match rTurn qs s with
    | none => none
    | some (g, s1) => if sOf p (rHead s1 g) ≤ s1.c g then some (rHead s1 g, rSend p s1 g) else rPick p qs f (rEnd s1 g)
def sum8 (f : Nat → Nat) : Nat := ((List.range 8).map f).sum
theorem sum8_upd (f : Nat → Nat) (g x : Nat) (hg : g < 8) : sum8 (upd f g x) + f g = sum8 f + x := by
  have h : g = 0 ∨ g = 1 ∨ g = 2 ∨ g = 3 ∨ g = 4 ∨ g = 5 ∨ g = 6 ∨ g = 7 := by omega
  have e : ∀ f : Nat → Nat, sum8 f = f 0 + (f 1 + (f 2 + (f 3 + (f 4 + (f 5 + (f 6 + (f 7 + 0))))))) := fun f => rfl
  rw [e, e]
  rcases h with rfl | rfl | rfl | rfl | rfl | rfl | rfl | rfl <;> simp [upd] <;> omega
def lack (s : RS) (g : Nat) : Nat := (1500 - s.c g).toNat
def rMu (s : RS) : Nat := 2 * sum8 (lack s) + (if s.sv = none then 0 else 1) + 1
def rWait (s : RS) : List Nat := (List.range 8).flatMap s.q
/-- What holds of the states. -/
structure RI (p : List Pk) (qs : List Int) (m : Nat) (s : RS) : Prop where
  le : m ≤ p.length
  fl : ∀ g, ∀ j ∈ s.q g, j < m ∧ flN p j = g
  nd : (lst s).Nodup
  mem : ∀ g, g ∈ lst s ↔ s.q g ≠ []
  pos : ∀ g, 0 ≤ s.c g
  out : ∀ g, s.sv ≠ some g → s.c g = 0 ∨ ∃ k r, s.q g = k :: r ∧ s.c g < sOf p k
  in_ : ∀ g, s.sv = some g → s.c g ≤ qu qs g ∨ ∃ j, j < p.length ∧ s.c g < sOf p j + qu qs g
  so : ∀ g, (s.q g).Pairwise (· < ·)
theorem flN_lt {p : List Pk} (hp : ∀ x ∈ p, okPk x) {k : Nat} (hk : k < p.length) : flN p k < 8 := by
  have := hp _ (List.getElem_mem hk)
  unfold flN
  rw [fOf_of hk]
  have h1 := this.1
  have h2 := this.2.1
  omega
section
variable {p : List Pk} {qs : List Int} {m : Nat} {s s1 : RS} {g : Nat}
theorem RI.g8 (hp : ∀ x ∈ p, okPk x) (h : RI p qs m s) (hg : s.q g ≠ []) : g < 8 := by
  obtain ⟨j, hj⟩ := List.exists_mem_of_ne_nil _ hg
  obtain ⟨h1, h2⟩ := h.fl g j hj
  rw [← h2]
  exact flN_lt hp (by have := h.le; omega)
theorem rHead_mem (h : s.q g ≠ []) : s.q g = rHead s g :: (s.q g).tail := by
  unfold rHead
  cases hq : s.q g with
  | nil => exact absurd hq h
  | cons k r => rfl
theorem RI.head (h : RI p qs m s) (hg : s.q g ≠ []) : rHead s g < m ∧ flN p (rHead s g) = g := by
  refine h.fl g _ ?_
  have e := rHead_mem hg
  rw [e]
  exact List.mem_cons_self
theorem rTurn_none (h : rTurn qs s = none) : lst s = [] := by
  unfold rTurn at h
  unfold lst
  split at h
  · cases h
  · split at h
    · assumption
    · cases h
/-- A turn that begins. -/
theorem RI.turn (h : RI p qs m s) (hq : ∀ g, 0 ≤ qu qs g) (ht : rTurn qs s = some (g, s1)) :
    RI p qs m s1 ∧ s1.sv = some g ∧ s1.q = s.q ∧ lst s1 = lst s ∧ s.q g ≠ [] ∧ ((s.sv = some g ∧ s1 = s) ∨ (s.sv = none ∧ s1.c = upd s.c g (s.c g + qu qs g))) := by
  unfold rTurn at ht
  split at ht
  · rename_i g' h1
    simp only [Option.some.injEq, Prod.mk.injEq] at ht
    obtain ⟨rfl, rfl⟩ := ht
    exact ⟨h, h1, rfl, rfl, (h.mem _).1 (by unfold lst; rw [h1]; exact List.mem_cons_self), .inl ⟨h1, rfl⟩⟩
  · rename_i h1
    split at ht
    · cases ht
    · rename_i g' r h2
      simp only [Option.some.injEq, Prod.mk.injEq] at ht
      obtain ⟨rfl, rfl⟩ := ht
      have hl : lst s = g' :: r := by unfold lst; rw [h1]; exact h2
      have hqg : s.q g' ≠ [] := (h.mem _).1 (by rw [hl]; exact List.mem_cons_self)
      refine ⟨⟨h.le, h.fl, ?_, ?_, ?_, ?_, ?_, h.so⟩, rfl, rfl, hl.symm, hqg, .inr ⟨h1, rfl⟩⟩
      · show (g' :: r).Nodup
        rw [← hl]; exact h.nd
      · intro x
        show x ∈ g' :: r ↔ _
        rw [← hl]; exact h.mem x
      · intro x
        show 0 ≤ upd s.c g' _ x
        by_cases hx : x = g'
        · rw [hx, upd_same]; have := h.pos g'; have := hq g'; omega
        · rw [upd_other _ _ hx]; exact h.pos x
      · intro x hx
        have hxg : x ≠ g' := fun e => hx (by rw [e])
        show upd s.c g' _ x = 0 ∨ ∃ k r, s.q x = k :: r ∧ upd s.c g' _ x < sOf p k
        rw [upd_other _ _ hxg]
        exact h.out x (by rw [h1]; simp)
      · intro x hx
        have hxg : g' = x := by injection hx
        subst hxg
        show upd s.c g' _ g' ≤ _ ∨ _
        rw [upd_same]
        rcases h.out g' (by rw [h1]; simp) with h9 | ⟨k, r', h9, h8⟩
        · rw [h9]; exact .inl (by omega)
        · refine .inr ⟨k, ?_, ?_⟩
          · have := (h.fl g' k (by rw [h9]; exact List.mem_cons_self)).1
            have := h.le
            omega
          · show upd s.c g' _ g' < _
            rw [upd_same]; omega
/-- A turn that ends. -/
theorem RI.end_ (h : RI p qs m s) (hs : s.sv = some g) (hc : ¬ sOf p (rHead s g) ≤ s.c g) : RI p qs m (rEnd s g) ∧ (lst (rEnd s g)).Perm (lst s) ∧ lst s = g :: s.row := by
  have hl : lst s = g :: s.row := by unfold lst; rw [hs]
  have hl2 : lst (rEnd s g) = s.row ++ [g] := rfl
  have hpm : (lst (rEnd s g)).Perm (lst s) := by rw [hl, hl2]; exact List.perm_append_comm (l₂ := [g])
  have hqg : s.q g ≠ [] := (h.mem _).1 (by rw [hl]; exact List.mem_cons_self)
  refine ⟨⟨h.le, h.fl, hpm.nodup_iff.2 h.nd, fun x => (hpm.mem_iff).trans (h.mem x), h.pos, fun x _ => ?_, (fun x hx => by cases hx), h.so⟩, hpm, hl⟩
  by_cases hx : x = g
  · subst hx
    exact .inr ⟨rHead s x, (s.q x).tail, rHead_mem hqg, by show s.c x < sOf p (rHead s x); omega⟩
  · exact h.out x (by rw [hs]; intro e; injection e with e; exact hx e.symm)
/-- The head is sent. -/
theorem RI.send (hp : ∀ x ∈ p, okPk x) (h : RI p qs m s) (hs : s.sv = some g) (hc : sOf p (rHead s g) ≤ s.c g) : RI p qs m (rSend p s g) := by
  have hl : lst s = g :: s.row := by unfold lst; rw [hs]
  have hqg : s.q g ≠ [] := (h.mem _).1 (by rw [hl]; exact List.mem_cons_self)
  have hh := rHead_mem hqg
  have hnd := h.nd
  rw [hl] at hnd
  obtain ⟨hn1, hn2⟩ := List.nodup_cons.1 hnd
  have hsz : 1 ≤ sOf p (rHead s g) := by
    have := (h.head hqg).1
    have hk : rHead s g < p.length := by have := h.le; omega
    rw [sOf_of hk]
    exact (hp _ (List.getElem_mem hk)).2.2.1
  unfold rSend
  by_cases ht : (s.q g).tail = []
  · rw [if_pos ht]
    refine ⟨h.le, ?_, hn2, ?_, ?_, ?_, (fun x hx => by cases hx), fun x => ?_⟩
    · intro x j hj
      by_cases hx : x = g
      · subst hx; simp only [upd_same] at hj; simp at hj
      · simp only [upd_other _ _ hx] at hj; exact h.fl x j hj
    · intro x
      show x ∈ s.row ↔ upd s.q g [] x ≠ []
      by_cases hx : x = g
      · subst hx; rw [upd_same]; simp [hn1]
      · rw [upd_other _ _ hx, ← h.mem x, hl]; simp [hx]
    · intro x
      show 0 ≤ upd s.c g 0 x
      by_cases hx : x = g
      · subst hx; rw [upd_same]; omega
      · rw [upd_other _ _ hx]; exact h.pos x
    · intro x _
      show upd s.c g 0 x = 0 ∨ ∃ k r, upd s.q g [] x = k :: r ∧ upd s.c g 0 x < sOf p k
      by_cases hx : x = g
      · subst hx; exact .inl (upd_same _ _ _)
      · rw [upd_other _ _ hx, upd_other _ _ hx]; exact h.out x (by rw [hs]; intro e; injection e with e; exact hx e.symm)
    · show (upd s.q g [] x).Pairwise (· < ·)
      by_cases hx : x = g
      · subst hx; rw [upd_same]; exact List.Pairwise.nil
      · rw [upd_other _ _ hx]; exact h.so x
  · rw [if_neg ht]
    have hl2 : lst { s with q := upd s.q g (s.q g).tail, c := upd s.c g (s.c g - sOf p (rHead s g)) } = lst s := rfl
    refine ⟨h.le, ?_, h.nd, ?_, ?_, ?_, ?_, fun x => ?_⟩
    · intro x j hj
      by_cases hx : x = g
      · subst hx; simp only [upd_same] at hj; exact h.fl x j (List.mem_of_mem_tail hj)
      · simp only [upd_other _ _ hx] at hj; exact h.fl x j hj
    · intro x
      rw [hl2]
      show _ ↔ upd s.q g (s.q g).tail x ≠ []
      by_cases hx : x = g
      · subst hx; rw [upd_same, h.mem x]; exact ⟨fun _ => ht, fun _ => hqg⟩
      · rw [upd_other _ _ hx]; exact h.mem x
    · intro x
      show 0 ≤ upd s.c g _ x
      by_cases hx : x = g
      · subst hx; rw [upd_same]; omega
      · rw [upd_other _ _ hx]; exact h.pos x
    · intro x hx
      have hxg : x ≠ g := fun e => hx (by rw [e]; exact hs)
      show upd s.c g _ x = 0 ∨ ∃ k r, upd s.q g _ x = k :: r ∧ upd s.c g _ x < sOf p k
      rw [upd_other _ _ hxg, upd_other _ _ hxg]
      exact h.out x hx
    · intro x hx
      have hx' : s.sv = some x := hx
      have hxg : g = x := by rw [hs] at hx'; injection hx'
      subst hxg
      show upd s.c g _ g ≤ _ ∨ ∃ j, j < p.length ∧ upd s.c g _ g < _
      rw [upd_same]
      rcases h.in_ g hs with h9 | ⟨j, h9, h8⟩
      · exact .inl (by omega)
      · exact .inr ⟨j, h9, by omega⟩
    · show (upd s.q g (s.q g).tail x).Pairwise (· < ·)
      by_cases hx : x = g
      · subst hx; rw [upd_same]; exact (h.so x).sublist (List.tail_sublist _)
      · rw [upd_other _ _ hx]; exact h.so x
theorem mu_turn (hq1 : 1 ≤ qu qs g) (hg : g < 8) (ht : rTurn qs s = some (g, s1)) (h1 : s1.sv = some g) (hc : s1.c g < 1500) (ho : (s.sv = some g ∧ s1 = s) ∨ (s.sv = none ∧ s1.c = upd s.c g (s.c g + qu qs g))) : rMu (rEnd s1 g) < rMu s := by
  have e0 : rMu (rEnd s1 g) = 2 * sum8 (lack s1) + 0 + 1 := rfl
  rcases ho with ⟨h2, rfl⟩ | ⟨h2, h3⟩
  · rw [e0]
    unfold rMu
    rw [h2]
    simp
  · rw [e0]
    unfold rMu
    rw [h2]
    have e : lack s1 = upd (lack s) g (1500 - (s.c g + qu qs g)).toNat := by
      funext x
      unfold lack
      rw [h3]
      by_cases hx : x = g
      · subst hx; rw [upd_same, upd_same]
      · rw [upd_other _ _ hx, upd_other _ _ hx]
    have h4 := sum8_upd (lack s) g (1500 - (s.c g + qu qs g)).toNat hg
    rw [← e] at h4
    have h5 : s1.c g = s.c g + qu qs g := by rw [h3, upd_same]
    have h6 : lack s g = (1500 - s.c g).toNat := rfl
    simp only [if_true]
    omega
end
theorem range8_flat (q : Nat → List Nat) : (List.range 8).flatMap q = q 0 ++ (q 1 ++ (q 2 ++ (q 3 ++ (q 4 ++ (q 5 ++ (q 6 ++ (q 7 ++ []))))))) := rfl
theorem flat_split (q : Nat → List Nat) (n g : Nat) (hg : g < n) : ((List.range n).flatMap q).Perm (q g ++ (List.range n).flatMap (upd q g [])) := by
  induction n with
  | zero => omega
  | succ n ih =>
    rw [List.range_succ, List.flatMap_append, List.flatMap_append]
    by_cases h : g = n
    · subst h
      have e : (List.range g).flatMap (upd q g []) = (List.range g).flatMap q := by
        unfold List.flatMap
        rw [List.map_congr_left]
        intro x hx
        exact upd_other _ _ (by have := List.mem_range.1 hx; omega)
      rw [e]
      simp only [List.flatMap_cons, List.flatMap_nil, List.append_nil, upd_same]
      exact List.perm_append_comm
    · have h1 := ih (by omega)
      simp only [List.flatMap_cons, List.flatMap_nil, List.append_nil]
      rw [upd_other _ _ (show n ≠ g from fun e => h e.symm), ← List.append_assoc]
      exact h1.append_right _
theorem upd_upd {α : Type} (f : Nat → α) (g : Nat) (x y : α) : upd (upd f g x) g y = upd f g y := by
  funext h
  unfold upd
  split <;> rfl
theorem lst_come (p : List Pk) (s : RS) (k : Nat) : lst (rCome p s k) = if flN p k ∈ lst s then lst s else lst s ++ [flN p k] := by
  obtain ⟨q, c, row, sv⟩ := s
  unfold rCome
  cases sv with
  | none =>
    show (if flN p k ∈ row then row else row ++ [flN p k]) = if flN p k ∈ row then row else row ++ [flN p k]
    rfl
  | some g =>
    show g :: (if flN p k ∈ g :: row then row else row ++ [flN p k]) = if flN p k ∈ g :: row then g :: row else g :: row ++ [flN p k]
    split <;> rfl
theorem RI.come {p : List Pk} {qs : List Int} {s : RS} {k : Nat} (h : RI p qs k s) (hk : k < p.length) : RI p qs (k + 1) (rCome p s k) := by
  have hq0 : s.q (flN p k) = [] ∨ s.q (flN p k) ≠ [] := by cases s.q (flN p k) <;> simp
  refine ⟨hk, ?_, ?_, ?_, h.pos, ?_, ?_, fun x => ?_⟩
  · intro x j hj
    show j < k + 1 ∧ _
    have hj' : j ∈ upd s.q (flN p k) (s.q (flN p k) ++ [k]) x := hj
    by_cases hx : x = flN p k
    · subst hx
      rw [upd_same] at hj'
      rcases List.mem_append.1 hj' with h1 | h1
      · have := h.fl _ j h1; exact ⟨by omega, this.2⟩
      · rw [List.mem_singleton.1 h1]; exact ⟨by omega, rfl⟩
    · rw [upd_other _ _ hx] at hj'
      have := h.fl x j hj'
      exact ⟨by omega, this.2⟩
  · rw [lst_come]
    by_cases hm : flN p k ∈ lst s
    · rw [if_pos hm]; exact h.nd
    · rw [if_neg hm]
      exact List.nodup_append.2 ⟨h.nd, (by simp), fun a ha b hb => by rw [List.mem_singleton.1 hb]; intro e; exact hm (e ▸ ha)⟩
  · intro x
    have hl : x ∈ lst (rCome p s k) ↔ x ∈ lst s ∨ x = flN p k := by
      rw [lst_come]
      by_cases hm : flN p k ∈ lst s
      · rw [if_pos hm]
        exact ⟨fun h1 => .inl h1, fun h1 => by rcases h1 with h1 | rfl; exact h1; exact hm⟩
      · rw [if_neg hm]
        simp
    rw [hl]
    show _ ↔ upd s.q (flN p k) (s.q (flN p k) ++ [k]) x ≠ []
    by_cases hx : x = flN p k
    · subst hx; rw [upd_same]; simp
    · rw [upd_other _ _ hx, h.mem x]; simp [hx]
  · intro x hx
    have hx' : s.sv ≠ some x := hx
    show s.c x = 0 ∨ ∃ k' r, upd s.q (flN p k) (s.q (flN p k) ++ [k]) x = k' :: r ∧ s.c x < sOf p k'
    rcases h.out x hx' with h1 | ⟨k', r, h1, h2⟩
    · exact .inl h1
    · by_cases hxk : x = flN p k
      · subst hxk; rw [upd_same, h1]; exact .inr ⟨k', r ++ [k], rfl, h2⟩
      · rw [upd_other _ _ hxk]; exact .inr ⟨k', r, h1, h2⟩
  · intro x hx
    exact h.in_ x hx
  · show (upd s.q (flN p k) (s.q (flN p k) ++ [k]) x).Pairwise (· < ·)
    by_cases hx : x = flN p k
    · subst hx
      rw [upd_same]
      exact List.pairwise_append.2 ⟨h.so _, by simp, fun a ha b hb => by rw [List.mem_singleton.1 hb]; exact (h.fl _ a ha).1⟩
    · rw [upd_other _ _ hx]; exact h.so x
theorem come_wait {p : List Pk} (s : RS) (k : Nat) (hg : flN p k < 8) : (rWait (rCome p s k)).Perm (k :: rWait s) := by
  have h1 := flat_split (upd s.q (flN p k) (s.q (flN p k) ++ [k])) 8 (flN p k) hg
  have h2 := flat_split s.q 8 (flN p k) hg
  rw [upd_upd, upd_same] at h1
  refine h1.trans ?_
  rw [List.append_assoc]
  exact (List.perm_middle (l₁ := s.q (flN p k)) (a := k) (l₂ := (List.range 8).flatMap (upd s.q (flN p k) []))).trans (List.Perm.cons k h2.symm)
theorem rSend_q (p : List Pk) (s : RS) (g : Nat) : (rSend p s g).q = upd s.q g (s.q g).tail := by
  unfold rSend
  split
  · rename_i h; rw [h]
  · rfl
theorem send_wait {p : List Pk} (s : RS) (g : Nat) (hg : g < 8) (hq : s.q g ≠ []) : (rWait s).Perm (rHead s g :: rWait (rSend p s g)) := by
  have h1 := flat_split s.q 8 g hg
  have h2 := flat_split (upd s.q g (s.q g).tail) 8 g hg
  rw [upd_upd, upd_same] at h2
  have e := rHead_mem hq
  unfold rWait
  rw [rSend_q]
  refine h1.trans ?_
  rw [e]
  exact List.Perm.cons _ h2.symm
section
variable {p : List Pk} {qs : List Int}
theorem rPick_some (hp : ∀ x ∈ p, okPk x) (hq : ∀ g, 0 ≤ qu qs g) (f : Nat) (s : RS) (m k : Nat) (s' : RS) (h : RI p qs m s) (hk : rPick p qs f s = some (k, s')) : RI p qs m s' ∧ (rWait s).Perm (k :: rWait s') := by
  induction f generalizing s with
  | zero => cases hk
  | succ f ih =>
    unfold rPick at hk
    split at hk
    · cases hk
    · rename_i g s1 ht
      obtain ⟨h1, h2, h3, h4, h5, _⟩ := h.turn hq ht
      have h5' : s1.q g ≠ [] := by rw [h3]; exact h5
      split at hk
      · rename_i hc
        simp only [Option.some.injEq, Prod.mk.injEq] at hk
        obtain ⟨rfl, rfl⟩ := hk
        refine ⟨h1.send hp h2 hc, ?_⟩
        have := send_wait (p := p) s1 g (h1.g8 hp h5') h5'
        unfold rWait at this ⊢
        rw [h3] at this
        exact this
      · rename_i hc
        have := ih _ (h1.end_ h2 hc).1 hk
        refine ⟨this.1, ?_⟩
        have hw : rWait (rEnd s1 g) = rWait s := by unfold rWait rEnd; rw [← h3]
        rw [← hw]
        exact this.2
theorem rPick_none (hp : ∀ x ∈ p, okPk x) (hq : ∀ g, 0 ≤ qu qs g) (hq1 : ∀ g, g < 8 → 1 ≤ qu qs g) (f : Nat) (s : RS) (m : Nat) (h : RI p qs m s) (hf : rMu s ≤ f) (hk : rPick p qs f s = none) : lst s = [] := by
  induction f generalizing s with
  | zero => unfold rMu at hf; omega
  | succ f ih =>
    unfold rPick at hk
    split at hk
    · rename_i ht; exact rTurn_none ht
    · rename_i g s1 ht
      obtain ⟨h1, h2, h3, h4, h5, h6⟩ := h.turn hq ht
      have h5' : s1.q g ≠ [] := by rw [h3]; exact h5
      split at hk
      · cases hk
      · rename_i hc
        have hg := h1.g8 hp h5'
        have hh := (h1.head h5').1
        have hk' : rHead s1 g < p.length := by have := h1.le; omega
        have hz := (hp _ (List.getElem_mem hk')).2.2.2.1
        rw [sOf_of hk'] at hc
        have hc2 : ¬ sOf p (rHead s1 g) ≤ s1.c g := by rw [sOf_of hk']; exact hc
        have hmu := mu_turn (hq1 g hg) hg ht h2 (by omega) h6
        have := ih _ (h1.end_ h2 hc2).1 (by omega) hk
        have hp2 := (h1.end_ h2 hc2).2.1
        rw [this] at hp2
        rw [← h4]
        exact (List.nil_perm.1 hp2)
theorem lst_wait {m : Nat} {s : RS} (h : RI p qs m s) (hl : lst s = []) : rWait s = [] := by
  have : ∀ g, s.q g = [] := fun g => by
    by_cases hg : s.q g = []
    · exact hg
    · exact absurd ((h.mem g).2 hg) (by rw [hl]; simp)
  unfold rWait
  rw [range8_flat]
  simp [this]
def roundM (p : List Pk) (qs : List Int) : Pol RS where
  come := rCome p
  pick s := rPick p qs (rMu s) s
  rest s := s
  wait := rWait
  ok := RI p qs
theorem roundOk (hp : ∀ x ∈ p, okPk x) (hq : ∀ g, 0 ≤ qu qs g) (hq1 : ∀ g, g < 8 → 1 ≤ qu qs g) : PolOk (roundM p qs) p.length where
  ok_come := fun s k h hk => h.come hk
  ok_pick := fun s m k s' h hk => (rPick_some hp hq _ s m k s' h hk).1
  ok_rest := fun s m h _ => h
  w_come := fun s k h hk => come_wait s k (flN_lt hp hk)
  w_none := fun s m h hk => lst_wait h (rPick_none hp hq hq1 _ s m h (Nat.le_refl _) hk)
  w_some := fun s m k s' h hk => (rPick_some hp hq _ s m k s' h hk).2
  w_rest := fun s m _ h => h
end
def rs0 : RS := ⟨fun _ => [], fun _ => 0, [], none⟩
theorem rs0_ok (p : List Pk) (qs : List Int) : RI p qs 0 rs0 :=
  ⟨Nat.zero_le _, by intro g j hj; simp [rs0] at hj, List.nodup_nil, fun g => by simp [rs0, lst], fun g => Int.le_refl _, fun g _ => .inl rfl, (fun g h => by cases h), fun g => List.Pairwise.nil⟩
theorem rs0_wait : rWait rs0 = [] := by unfold rWait; rw [range8_flat]; rfl
def roundL (p : List Pk) (per : Int) (qs : List Int) : List Sn := (serveS (roundM p qs) p per rs0).out
end Go.Proofs.YthgpbdlmadjndaaGreatDoor
namespace Go.Proofs.YthgpbdlmadjndaaGreatDoor
def ahd (a b : Nat) : List Nat → Int
  | [] => 0
  | x :: r => if x = a then 1 else if x = b then 0 else ahd a b r
theorem ahd_app {a b : Nat} {l : List Nat} (r : List Nat) (h : a ∈ l ∨ b ∈ l) : ahd a b (l ++ r) = ahd a b l := by
  induction l with
  | nil => simp at h
  | cons x l ih =>
    rw [List.cons_append]
    unfold ahd
    by_cases h1 : x = a
    · rw [if_pos h1, if_pos h1]
    · rw [if_neg h1, if_neg h1]
      by_cases h2 : x = b
      · rw [if_pos h2, if_pos h2]
      · rw [if_neg h2, if_neg h2]
        refine ih ?_
        rcases h with h | h
        · rcases List.mem_cons.1 h with h | h
          · exact absurd h.symm h1
          · exact .inl h
        · rcases List.mem_cons.1 h with h | h
          · exact absurd h.symm h2
          · exact .inr h
theorem ahd_notA {a b : Nat} {l : List Nat} (h : a ∉ l) : ahd a b l = 0 := by
  induction l with
  | nil => rfl
  | cons x l ih =>
    unfold ahd
    rw [if_neg (fun e => h (by rw [e]; exact List.mem_cons_self))]
    split
    · rfl
    · exact ih fun e => h (List.mem_cons_of_mem _ e)
theorem ahd_notB {a b : Nat} {l : List Nat} (ha : a ∈ l) (h : b ∉ l) : ahd a b l = 1 := by
  induction l with
  | nil => simp at ha
  | cons x l ih =>
    unfold ahd
    by_cases h1 : x = a
    · rw [if_pos h1]
    · rw [if_neg h1, if_neg (fun e => h (by rw [e]; exact List.mem_cons_self))]
      refine ih ?_ fun e => h (List.mem_cons_of_mem _ e)
      rcases List.mem_cons.1 ha with e | e
      · exact absurd e.symm h1
      · exact e
theorem ahd_01 (a b : Nat) (l : List Nat) : ahd a b l = 0 ∨ ahd a b l = 1 := by
  induction l with
  | nil => exact .inl rfl
  | cons x l ih =>
    unfold ahd
    split
    · exact .inr rfl
    · split
      · exact .inl rfl
      · exact ih
/-- A flow's credit, less its quantum while it is its turn. -/
def rD (qs : List Int) (s : RS) (f : Nat) : Int := s.c f - if s.sv = some f then qu qs f else 0
def rPot (qs : List Int) (a b : Nat) (s : RS) : Int := rD qs s a * qu qs b - rD qs s b * qu qs a + ahd a b (lst s) * (qu qs a * qu qs b)
section
variable {p : List Pk} {qs : List Int} {m : Nat} {s s1 s' : RS} {g a b : Nat}
theorem rD_bd (h : RI p qs m s) {S : Int} (hS : ∀ j, j < p.length → sOf p j ≤ S) (hS1 : 1 ≤ S) (hq : ∀ g, 0 ≤ qu qs g) (f : Nat) : - qu qs f ≤ rD qs s f ∧ rD qs s f ≤ S - 1 := by
  have h0 := h.pos f
  have hf := hq f
  unfold rD
  by_cases hs : s.sv = some f
  · rw [if_pos hs]
    rcases h.in_ f hs with h1 | ⟨j, h1, h2⟩
    · omega
    · have := hS j h1; omega
  · rw [if_neg hs]
    rcases h.out f hs with h1 | ⟨k, r, h1, h2⟩
    · omega
    · have h3 := (h.fl f k (by rw [h1]; exact List.mem_cons_self)).1
      have := hS k (by have := h.le; omega)
      omega
theorem rPot_bd (h : RI p qs m s) {S : Int} (hS : ∀ j, j < p.length → sOf p j ≤ S) (hS1 : 1 ≤ S) (hq : ∀ g, 0 ≤ qu qs g) :
    -(qu qs a * qu qs b) - (S - 1) * qu qs a ≤ rPot qs a b s ∧ rPot qs a b s ≤ (S - 1) * qu qs b + qu qs b * qu qs a + qu qs a * qu qs b := by
  obtain ⟨a1, a2⟩ := rD_bd h hS hS1 hq a
  obtain ⟨b1, b2⟩ := rD_bd h hS hS1 hq b
  have ha := hq a
  have hb := hq b
  have m1 := Int.mul_le_mul_of_nonneg_right a1 hb
  have m2 := Int.mul_le_mul_of_nonneg_right a2 hb
  have m3 := Int.mul_le_mul_of_nonneg_right b1 ha
  have m4 := Int.mul_le_mul_of_nonneg_right b2 ha
  have m5 := Int.mul_nonneg ha hb
  rw [Int.neg_mul] at m1 m3
  unfold rPot
  rcases ahd_01 a b (lst s) with e | e <;> rw [e] <;> omega
theorem rPot_turn (hne : a ≠ b) (ht : rTurn qs s = some (g, s1)) (hl : lst s1 = lst s) (h1 : s1.sv = some g) (ho : (s.sv = some g ∧ s1 = s) ∨ (s.sv = none ∧ s1.c = upd s.c g (s.c g + qu qs g))) : rPot qs a b s1 = rPot qs a b s := by
  rcases ho with ⟨_, rfl⟩ | ⟨h2, h3⟩
  · rfl
  · have e : ∀ f, rD qs s1 f = rD qs s f := fun f => by
      unfold rD
      rw [h1, h2, h3]
      by_cases hf : f = g
      · subst hf; rw [upd_same]; simp
      · rw [upd_other _ _ hf, if_neg (by intro e; injection e with e; exact hf e.symm), if_neg (by simp)]
    unfold rPot
    rw [e, e, hl]
theorem rPot_end (hne : a ≠ b) (h : RI p qs m s) (hs : s.sv = some g) (ha : a ∈ lst s) (hb : b ∈ lst s) : rPot qs a b (rEnd s g) = rPot qs a b s := by
  have hl : lst s = g :: s.row := by unfold lst; rw [hs]
  have hl2 : lst (rEnd s g) = s.row ++ [g] := rfl
  have hnd := h.nd
  rw [hl] at hnd ha hb
  obtain ⟨hn1, hn2⟩ := List.nodup_cons.1 hnd
  have e : ∀ f, rD qs (rEnd s g) f = rD qs s f + if f = g then qu qs f else 0 := fun f => by
    unfold rD
    rw [hs]
    show s.c f - (if none = some f then _ else _) = _
    rw [if_neg (by simp)]
    by_cases hf : f = g
    · subst hf; simp
    · rw [if_neg (by intro e; injection e with e; exact hf e.symm), if_neg hf]; omega
  unfold rPot
  rw [e, e, hl, hl2]
  by_cases h1 : a = g
  · subst h1
    have hb' : b ∈ s.row := by
      rcases List.mem_cons.1 hb with e | e
      · exact absurd e.symm hne
      · exact e
    rw [if_pos rfl, if_neg (fun e => hne e.symm), ahd_app _ (.inr hb'), ahd_notA hn1, show ahd a b (a :: s.row) = 1 by rw [ahd, if_pos rfl], Int.add_mul]
    simp only [Int.add_zero]
    omega
  · have ha' : a ∈ s.row := by
      rcases List.mem_cons.1 ha with e | e
      · exact absurd e h1
      · exact e
    by_cases h2 : b = g
    · subst h2
      rw [if_neg h1, if_pos rfl, ahd_app _ (.inl ha'), ahd_notB ha' hn1, show ahd a b (b :: s.row) = 0 by rw [ahd, if_neg (fun e => hne e.symm), if_pos rfl]]
      have e9 := Int.mul_comm (qu qs b) (qu qs a)
      have e8 := Int.add_mul (rD qs s b) (qu qs b) (qu qs a)
      simp only [Int.add_zero]
      omega
    · rw [if_neg h1, if_neg h2, ahd_app _ (.inl ha'), show ahd a b (g :: s.row) = ahd a b s.row by rw [ahd, if_neg (fun e => h1 e.symm), if_neg (fun e => h2 e.symm)]]
      simp only [Int.add_zero]
theorem rSend_lst (h : s.q g ≠ []) (ht : (s.q g).tail ≠ []) : lst (rSend p s g) = lst s ∧ (rSend p s g).sv = s.sv ∧ (rSend p s g).c = upd s.c g (s.c g - sOf p (rHead s g)) := by
  unfold rSend
  rw [if_neg ht]
  exact ⟨rfl, rfl, rfl⟩
/-- What a packet counts. -/
def cntK (p : List Pk) (qa qb : Int) (a b k : Nat) : Int := (if flN p k = a then sOf p k * qb else 0) - (if flN p k = b then sOf p k * qa else 0)
theorem rPot_send (hne : a ≠ b) (h : RI p qs m s) (hs : s.sv = some g) (ha : (rSend p s g).q a ≠ []) (hb : (rSend p s g).q b ≠ []) :
    rPot qs a b (rSend p s g) = rPot qs a b s - cntK p (qu qs a) (qu qs b) a b (rHead s g) := by
  have hl : lst s = g :: s.row := by unfold lst; rw [hs]
  have hqg : s.q g ≠ [] := (h.mem _).1 (by rw [hl]; exact List.mem_cons_self)
  have hfl := (h.head hqg).2
  have hnd := h.nd
  rw [hl] at hnd
  obtain ⟨hn1, hn2⟩ := List.nodup_cons.1 hnd
  rw [rSend_q] at ha hb
  unfold cntK
  rw [hfl]
  by_cases ht : (s.q g).tail = []
  · have h1 : g ≠ a := fun e => ha (by rw [← e, upd_same]; exact ht)
    have h2 : g ≠ b := fun e => hb (by rw [← e, upd_same]; exact ht)
    rw [if_neg h1, if_neg h2]
    have e1 : (rSend p s g).sv = none := by unfold rSend; rw [if_pos ht]
    have e2 : (rSend p s g).c = upd s.c g 0 := by unfold rSend; rw [if_pos ht]
    have e3 : lst (rSend p s g) = s.row := by unfold lst; rw [e1]; unfold rSend; rw [if_pos ht]
    have e : ∀ f, g ≠ f → rD qs (rSend p s g) f = rD qs s f := fun f hf => by
      unfold rD
      rw [e1, e2, hs, upd_other _ _ (fun e => hf e.symm), if_neg (by simp), if_neg (by intro e; injection e with e; exact hf e)]
    unfold rPot
    rw [e a h1, e b h2, e3, hl, show ahd a b (g :: s.row) = ahd a b s.row by rw [ahd, if_neg h1, if_neg h2]]
    omega
  · obtain ⟨e3, e1, e2⟩ := rSend_lst (p := p) hqg ht
    have e : ∀ f, rD qs (rSend p s g) f = rD qs s f - if g = f then sOf p (rHead s g) else 0 := fun f => by
      unfold rD
      rw [e1, e2]
      by_cases hf : g = f
      · subst hf; rw [upd_same, if_pos rfl]; omega
      · rw [upd_other _ _ (fun e => hf e.symm), if_neg hf]; omega
    unfold rPot
    rw [e a, e b, e3]
    by_cases h1 : g = a
    · subst h1
      rw [if_pos rfl, if_neg hne, if_pos rfl, if_neg hne, Int.sub_mul]
      simp only [Int.sub_zero]
      omega
    · rw [if_neg h1, if_neg h1]
      by_cases h2 : g = b
      · subst h2
        have e9 := Int.sub_mul (rD qs s g) (sOf p (rHead s g)) (qu qs a)
        rw [if_pos rfl, if_pos rfl]
        simp only [Int.sub_zero]
        omega
      · rw [if_neg h2, if_neg h2]
        simp only [Int.sub_zero]
theorem rPot_pick (hp : ∀ x ∈ p, okPk x) (hq : ∀ g, 0 ≤ qu qs g) (hne : a ≠ b) (f : Nat) (s : RS) (k : Nat) (h : RI p qs m s) (hk : rPick p qs f s = some (k, s')) (ha : s'.q a ≠ []) (hb : s'.q b ≠ []) (ha0 : a ∈ lst s) (hb0 : b ∈ lst s) :
    rPot qs a b s' = rPot qs a b s - cntK p (qu qs a) (qu qs b) a b k := by
  induction f generalizing s with
  | zero => cases hk
  | succ f ih =>
    unfold rPick at hk
    split at hk
    · cases hk
    · rename_i g s1 ht
      obtain ⟨h1, h2, h3, h4, h5, h6⟩ := h.turn hq ht
      have e0 := rPot_turn (a := a) (b := b) hne ht h4 h2 h6
      split at hk
      · simp only [Option.some.injEq, Prod.mk.injEq] at hk
        obtain ⟨rfl, rfl⟩ := hk
        rw [rPot_send hne h1 h2 ha hb, e0]
      · rename_i hc
        obtain ⟨h7, h8, _⟩ := h1.end_ h2 hc
        rw [← h4] at ha0 hb0
        rw [ih _ h7 hk (h8.mem_iff.2 ha0) (h8.mem_iff.2 hb0), rPot_end hne h1 h2 ha0 hb0, e0]
theorem rPot_come (hne : a ≠ b) (k : Nat) (ha : a ∈ lst s) (hb : b ∈ lst s) : rPot qs a b (rCome p s k) = rPot qs a b s ∧ a ∈ lst (rCome p s k) ∧ b ∈ lst (rCome p s k) := by
  have e : ∀ f, rD qs (rCome p s k) f = rD qs s f := fun f => rfl
  have el := lst_come p s k
  unfold rPot
  rw [e, e, el]
  split
  · exact ⟨rfl, ha, hb⟩
  · rw [ahd_app _ (.inl ha)]
    exact ⟨rfl, List.mem_append_left _ ha, List.mem_append_left _ hb⟩
theorem rPot_comes (hne : a ≠ b) (now : Int) (r : List Pk) (k : Nat) (s : RS) (ha : a ∈ lst s) (hb : b ∈ lst s) : rPot qs a b (comeL (roundM p qs) now r k s).2 = rPot qs a b s ∧ a ∈ lst (comeL (roundM p qs) now r k s).2 ∧ b ∈ lst (comeL (roundM p qs) now r k s).2 := by
  induction r generalizing k s with
  | nil => exact ⟨rfl, ha, hb⟩
  | cons x r ih =>
    unfold comeL
    split
    · obtain ⟨e1, e2, e3⟩ := rPot_come (qs := qs) (p := p) hne k ha hb
      obtain ⟨e4, e5, e6⟩ := ih (k + 1) (rCome p s k) e2 e3
      exact ⟨e4.trans e1, e5, e6⟩
    · exact ⟨rfl, ha, hb⟩
end
theorem mem_wait {s : RS} {p : List Pk} {qs : List Int} {m : Nat} (h : RI p qs m s) {j : Nat} (hj : j ∈ rWait s) : s.q (flN p j) ≠ [] := by
  obtain ⟨g, _, hg⟩ := List.mem_flatMap.1 hj
  have := (h.fl g j hg).2
  rw [this]
  intro e
  rw [e] at hg
  simp at hg
structure RoundJ (p : List Pk) (qs : List Int) (a b : Nat) (lo hi : Int) (t : St RS) : Prop where
  came : ∀ j, j < t.next → aOf p j ≤ t.now
  fr : ∀ i (h : i < t.out.length), t.out[i].f ≤ t.now
  tr : ∃ P Q : Nat → Int, ∀ i (h : i < t.out.length), WtP p a (t.out.take i) t.out[i] → WtP p b (t.out.take i) t.out[i] →
    (lo ≤ P i ∧ P i ≤ hi ∧ lo ≤ Q i ∧ Q i ≤ hi ∧ Q i = P i - cnt p (qu qs a) (qu qs b) a b t.out[i]) ∧ (i + 1 < t.out.length → P (i + 1) = Q i) ∧ (i + 1 = t.out.length → Q i = rPot qs a b t.s ∧ a ∈ lst t.s ∧ b ∈ lst t.s)
theorem round_step {p : List Pk} {per : Int} {qs : List Int} {a b : Nat} {lo hi : Int} (hp : ∀ x ∈ p, okPk x) (hs : p.Pairwise (fun x y => x.a ≤ y.a)) (h0 : 1 ≤ per) (hq : ∀ g, 0 ≤ qu qs g) (hq1 : ∀ g, g < 8 → 1 ≤ qu qs g) (hne : a ≠ b)
    (hbd : ∀ m s, RI p qs m s → lo ≤ rPot qs a b s ∧ rPot qs a b s ≤ hi) (t : St RS) (h : Inv (roundM p qs) p t) (hlt : t.out.length < p.length) (hj : RoundJ p qs a b lo hi t) : RoundJ p qs a b lo hi (stepS (roundM p qs) p per t) := by
  have hM := roundOk (p := p) (qs := qs) hp hq hq1
  obtain ⟨hc, hlt2⟩ := comeL_inv hM t.now (p.drop t.next) t.next t.s rfl h.toC
  have hall := comeL_all hM hs h hj.came
  have hpc := fun ha hb => rPot_comes (p := p) (qs := qs) hne t.now (p.drop t.next) t.next t.s (a := a) (b := b) ha hb
  obtain ⟨P, Q, htr⟩ := hj.tr
  unfold stepS
  generalize comeL (roundM p qs) t.now (p.drop t.next) t.next t.s = q at hc hlt2 hall hpc
  -- one of a flow that had come, and is not sent, is among those that wait
  have hin : ∀ j, j < p.length → aOf p j ≤ t.now → (∀ y ∈ t.out, y.p ≠ j) → j ∈ rWait q.2 := fun j hj1 hj2 hj3 => by
    have hjq := (hall j hj1).2 hj2
    rcases List.mem_append.1 (hc.perm.mem_iff.2 (List.mem_range.2 hjq)) with h1 | h1
    · obtain ⟨y, hy, e⟩ := List.mem_map.1 h1
      have := h.pos y hy
      exact absurd (show y.p = (j : Int) by omega) (hj3 y hy)
    · exact h1
  cases hpk : (roundM p qs).pick q.2 with
  | none =>
    have hw : rWait q.2 = [] := hM.w_none _ _ hc.ok hpk
    have hid := hc.idle hM hpk
    have hq1 : q.1 < p.length := by omega
    have hnow := hlt2 hq1
    refine ⟨fun j hjj => ?_, fun i hi => ?_, P, Q, fun i hi ha hb => ?_⟩
    · show aOf p j ≤ aOf p q.1
      exact aOf_mono hs (Nat.le_of_lt hjj) hq1
    · have := hj.fr i hi
      show _ ≤ aOf p q.1
      simp only; omega
    · obtain ⟨h1, h2, _⟩ := htr i hi ha hb
      refine ⟨h1, h2, fun h9 => ?_⟩
      obtain ⟨j, j1, j2, j3, j4, j5⟩ := ha
      have h9' : i + 1 = t.out.length := h9
      have hfr := hj.fr i hi
      have hsplit : t.out = t.out.take i ++ [t.out[i]'hi] := by
        rw [← List.take_succ_eq_append_getElem hi, h9', List.take_length]
      have := hin j j1 (Int.le_trans j3 hfr) (fun y hy => by
        rw [hsplit] at hy
        rcases List.mem_append.1 hy with hy | hy
        · exact j4 y hy
        · rw [List.mem_singleton.1 hy]; exact j5)
      rw [hw] at this
      simp at this
  | some ks =>
    obtain ⟨k, s'⟩ := ks
    have hk : k < q.1 := hc.pick_lt hM hpk
    have hkl : k < p.length := Nat.lt_of_lt_of_le hk hc.k_le
    have hok := hp _ (List.getElem_mem hkl)
    have m1 : 0 ≤ per * sOf p k := Int.mul_nonneg (by omega) (by rw [sOf_of hkl]; have := hok.2.2.1; omega)
    obtain ⟨hri, hperm⟩ := rPick_some hp hq _ _ _ _ _ hc.ok hpk
    obtain ⟨x, hx⟩ : ∃ x : Sn, x = ⟨(k : Int), t.now, t.now + per * sOf p k⟩ := ⟨_, rfl⟩
    have hxp : x.p = (k : Int) := by rw [hx]
    have hxf : x.f = t.now := by rw [hx]
    show RoundJ p qs a b lo hi ⟨t.out ++ [⟨(k : Int), t.now, t.now + per * sOf p k⟩], t.now + per * sOf p k, q.1, s'⟩
    rw [← hx]
    -- one that waits behind this one
    have hin2 : ∀ f, WtP p f t.out x → s'.q f ≠ [] ∧ f ∈ lst s' ∧ f ∈ lst q.2 := fun f ⟨j, j1, j2, j3, j4, j5⟩ => by
      have hjw := hin j j1 (by rw [← hxf]; exact j3) j4
      have hjw' : j ∈ rWait s' := by
        rcases List.mem_cons.1 (hperm.mem_iff.1 hjw) with e | e
        · exact absurd (by rw [hxp, e]) j5
        · exact e
      have e1 : flN p j = f := j2
      have h1 := mem_wait hri hjw'
      have h2 := mem_wait hc.ok hjw
      rw [e1] at h1 h2
      exact ⟨h1, (hri.mem f).2 h1, (hc.ok.mem f).2 h2⟩
    refine ⟨fun j hjj => ?_, fun i hi => ?_, fun i => if i = t.out.length then rPot qs a b q.2 else P i, fun i => if i = t.out.length then rPot qs a b s' else Q i, fun i hi ha hb => ?_⟩
    · have hjj' : j < q.1 := hjj
      have := (hall j (Nat.lt_of_lt_of_le hjj' hc.k_le)).1 hjj'
      show aOf p j ≤ t.now + per * sOf p k
      omega
    · show _ ≤ t.now + per * sOf p k
      have hi' : i < t.out.length + 1 := by simpa using hi
      rcases Nat.lt_or_ge i t.out.length with h9 | h9
      · have := hj.fr i h9
        simp only [List.getElem_append_left h9]
        omega
      · obtain rfl : i = t.out.length := by omega
        rw [List.getElem_concat_length rfl, hxf]
        omega
    · have hi' : i < t.out.length + 1 := by simpa using hi
      simp only [List.length_append, List.length_cons, List.length_nil]
      rcases Nat.lt_or_ge i t.out.length with h9 | h9
      · simp only [List.take_append_of_le_length (Nat.le_of_lt h9), List.getElem_append_left h9] at ha hb ⊢
        obtain ⟨h1, h2, h3⟩ := htr i h9 ha hb
        have hn : ¬ i = t.out.length := by omega
        rw [if_neg hn, if_neg hn]
        refine ⟨h1, fun h8 => ?_, fun h8 => by omega⟩
        by_cases h7 : i + 1 = t.out.length
        · rw [if_pos h7]
          obtain ⟨g1, g2, g3⟩ := h3 h7
          rw [(hpc g2 g3).1, g1]
        · rw [if_neg h7]
          exact h2 (by omega)
      · obtain rfl : i = t.out.length := by omega
        have e1 : (t.out ++ [x]).take t.out.length = t.out := List.take_left' rfl
        have e2 : (t.out ++ [x])[t.out.length]'hi = x := List.getElem_concat_length rfl _
        rw [e1, e2] at ha hb
        rw [e2]
        obtain ⟨a1, a2, a3⟩ := hin2 a ha
        obtain ⟨b1, b2, b3⟩ := hin2 b hb
        rw [if_pos rfl, if_pos rfl]
        have hpot := rPot_pick hp hq hne _ q.2 k hc.ok hpk a1 b1 a3 b3
        have hcnt : cnt p (qu qs a) (qu qs b) a b x = cntK p (qu qs a) (qu qs b) a b k := by
          unfold cnt cntK flS flN
          rw [hxp, Int.toNat_natCast]
        refine ⟨⟨(hbd _ _ hc.ok).1, (hbd _ _ hc.ok).2, (hbd _ _ hri).1, (hbd _ _ hri).2, by rw [hcnt]; exact hpot⟩, fun h8 => by omega, fun _ => ⟨rfl, a2, b2⟩⟩
/-- All that are sent are the packets, each once. -/
theorem srv_perm {σ : Type} {M : Pol σ} {p : List Pk} {per : Int} {s0 : σ} (hM : PolOk M p.length) (hp : ∀ x ∈ p, okPk x) (h0 : 1 ≤ per) (h1 : per ≤ 1000) (hw : M.wait s0 = []) (ho : M.ok 0 s0) :
    (serveS M p per s0).out.length = p.length ∧ (∀ x ∈ (serveS M p per s0).out, 0 ≤ x.p) ∧ (∀ x ∈ (serveS M p per s0).out, x.p.toNat < p.length) ∧ ((serveS M p per s0).out.map fun x => x.p.toNat).Nodup := by
  obtain ⟨hi, hl⟩ := run_all hM hp h0 h1 (2 * p.length + 1) _ (inv_start p hw ho) (mu_start p _) (Nat.zero_le _)
  have hpm := hi.perm
  have hnd := hpm.nodup_iff.2 List.nodup_range
  refine ⟨hl, hi.pos, fun x hx => ?_, (List.nodup_append.1 hnd).1⟩
  have := List.mem_range.1 (hpm.mem_iff.1 (List.mem_append_left _ (List.mem_map.2 ⟨x, hx, rfl⟩)))
  have := hi.next_le
  exact Nat.lt_of_lt_of_le ‹_› this
theorem spr_same (p : List Pk) (qa : Int) (a : Nat) (l : List Sn) : sprL p qa qa a a l = 0 := by
  have h := spr_le (p := p) (qa := qa) (qb := qa) (a := a) (b := a) (lo := 0) (hi := 0) (l := l) (P := fun _ => 0) (Q := fun _ => 0) ⟨fun i hi _ _ => ⟨by omega, by omega, by omega, by omega, by unfold cnt; omega, fun _ => rfl⟩⟩ (by omega)
  have h2 : ∀ (r : List Sn) (most sum low high : Int), 0 ≤ most → 0 ≤ sprGo p qa qa a a most sum low high r := fun r => by
    induction r with
    | nil => exact fun _ _ _ _ h => h
    | cons s r ih =>
      intro most sum low high h
      unfold sprGo
      split
      · exact ih _ _ _ _ (by omega)
      · exact ih _ _ _ _ h
  have := h2 l 0 0 0 0 (by omega)
  unfold sprL at h ⊢
  omega
theorem round_shares {p : List Pk} {per : Int} {qs : List Int} {a b : Nat} {S : Int} (hp : ∀ x ∈ p, okPk x) (hs : p.Pairwise (fun x y => x.a ≤ y.a)) (h0 : 1 ≤ per) (h1 : per ≤ 1000) (hq : ∀ g, 0 ≤ qu qs g) (hq1 : ∀ g, g < 8 → 1 ≤ qu qs g)
    (hS : ∀ j, j < p.length → sOf p j ≤ S) (hS1 : 0 < p.length → 1 ≤ S) (hS0 : 0 ≤ S) : sprL p (qu qs a) (qu qs b) a b (roundL p per qs) ≤ 3 * (qu qs a * qu qs b) + S * (qu qs a + qu qs b) := by
  have hA := hq a
  have hB := hq b
  have m5 := Int.mul_nonneg hA hB
  have m6 := Int.mul_nonneg hS0 (show 0 ≤ qu qs a + qu qs b by omega)
  by_cases hne : a = b
  · subst hne
    rw [spr_same]
    omega
  · have hM := roundOk (p := p) (qs := qs) hp hq hq1
    obtain ⟨e1, e2, e3, e4⟩ := srv_perm hM hp h0 h1 (s0 := rs0) rs0_wait (rs0_ok p qs)
    rcases Nat.eq_zero_or_pos p.length with hz | hz
    · have : roundL p per qs = [] := List.eq_nil_of_length_eq_zero (by show (serveS _ p per rs0).out.length = 0; rw [e1, hz])
      rw [this]
      show (0 : Int) ≤ _
      omega
    · have hSS := hS1 hz
      have hbd : ∀ m s, RI p qs m s → _ := fun m s h => rPot_bd (a := a) (b := b) h hS hSS hq
      have hJ := run_ind hM hp h0 h1 (RoundJ p qs a b _ _) (fun t x y z => round_step hp hs h0 hq hq1 hne hbd t x y z) (2 * p.length + 1) _ (inv_start (M := roundM p qs) (s0 := rs0) p rs0_wait (rs0_ok p qs))
        ⟨fun j hj => by simp at hj, fun i hi => by simp at hi, fun _ => 0, fun _ => 0, fun i hi => by simp at hi⟩
      obtain ⟨P, Q, htr⟩ := hJ.tr
      have hT : Tr p (qu qs a) (qu qs b) a b _ _ (roundL p per qs) P Q := ⟨fun i hi ha hb => by
        obtain ⟨⟨g1, g2, g3, g4, g5⟩, g6, _⟩ := htr i hi (wt_of e2 e3 e4 hi ha) (wt_of e2 e3 e4 hi hb)
        exact ⟨g1, g2, g3, g4, g5, g6⟩⟩
      have m7 : 0 ≤ (S - 1) * qu qs a := Int.mul_nonneg (by omega) hA
      have m8 : 0 ≤ (S - 1) * qu qs b := Int.mul_nonneg (by omega) hB
      have e9 : qu qs b * qu qs a = qu qs a * qu qs b := Int.mul_comm _ _
      have := spr_le hT (by omega)
      rw [Int.mul_add]
      rw [Int.sub_mul, Int.sub_mul] at this
      omega
end Go.Proofs.YthgpbdlmadjndaaGreatDoor
namespace Go.Proofs.YthgpbdlmadjndaaGreatDoor
/-- A clock of tags: who waits, tags, the last tags of flows, the clock's own. -/
structure FS where
  w : List Nat
  tg : Nat → Int
  last : Nat → Int
  v : Int
def fInc (p : List Pk) (ws : List Int) (k : Nat) : Int := (sOf p k * 12) / qu ws (flN p k)
def fTag (p : List Pk) (ws : List Int) (s : FS) (k : Nat) : Int := max s.v (s.last (flN p k)) + fInc p ws k
def fCome (p : List Pk) (ws : List Int) (s : FS) (k : Nat) : FS :=
  { s with w := s.w ++ [k], tg := upd s.tg k (fTag p ws s k), last := upd s.last (flN p k) (fTag p ws s k) }
def fBest (s : FS) : Nat := s.w.getD (bestI s.tg s.w) 0
def fPick (s : FS) : Option (Nat × FS) :=
  if s.w.length = 0 then none else some (fBest s, { s with w := s.w.eraseIdx (bestI s.tg s.w), v := s.tg (fBest s) })
def fRest (s : FS) : FS := { s with v := 0, last := fun _ => 0 }
/-- Tags that follow without gaps. -/
def Ch (tg inc : Nat → Int) : Int → List Nat → Int → Prop
  | s, [], e => s = e
  | s, k :: r, e => tg k = s + inc k ∧ Ch tg inc (tg k) r e
def fQ (p : List Pk) (f : Nat) (w : List Nat) : List Nat := w.filter (fun k => decide (flN p k = f))
/-- Tags are not too great. -/
structure FB (m : Nat) (s : FS) : Prop where
  t : ∀ j ∈ s.w, s.tg j ≤ 18000 * (m : Int)
  l : ∀ f, 0 ≤ s.last f ∧ s.last f ≤ 18000 * (m : Int)
  v : 0 ≤ s.v ∧ s.v ≤ 18000 * (m : Int)
structure FI (p : List Pk) (ws : List Int) (m : Nat) (s : FS) : Prop where
  lt : ∀ j ∈ s.w, j < m
  asc : s.w.Pairwise (· < ·)
  le : m ≤ p.length
  ge : ∀ j ∈ s.w, s.v ≤ s.tg j
  ch : ∀ f, ∃ x, x ≤ s.v ∧ Ch s.tg (fInc p ws) x (fQ p f s.w) (s.last f)
  bd : FB m s
section
variable {tg tg' inc : Nat → Int}
theorem Ch.congr {s e : Int} {l : List Nat} (h : Ch tg inc s l e) (hc : ∀ j ∈ l, tg' j = tg j) : Ch tg' inc s l e := by
  induction l generalizing s with
  | nil => exact h
  | cons k r ih =>
    obtain ⟨h1, h2⟩ := h
    have e1 := hc k List.mem_cons_self
    refine ⟨by rw [e1]; exact h1, ?_⟩
    rw [e1]
    exact ih h2 fun j hj => hc j (List.mem_cons_of_mem _ hj)
theorem Ch.app {s e : Int} {l : List Nat} {k : Nat} (h : Ch tg inc s l e) (hk : tg k = e + inc k) : Ch tg inc s (l ++ [k]) (tg k) := by
  induction l generalizing s with
  | nil => exact ⟨by rw [show s = e from h]; exact hk, rfl⟩
  | cons x r ih => exact ⟨h.1, ih h.2⟩
theorem Ch.ge {s e v : Int} {l : List Nat} (h : Ch tg inc s l e) (hl : l ≠ []) (hv : ∀ j ∈ l, v ≤ tg j) : v ≤ e := by
  induction l generalizing s with
  | nil => exact absurd rfl hl
  | cons k r ih =>
    cases r with
    | nil =>
      have h2 : tg k = e := h.2
      have := hv k List.mem_cons_self
      omega
    | cons x r => exact ih h.2 (by simp) fun j hj => hv j (List.mem_cons_of_mem _ hj)
theorem Ch.lt {s e : Int} {l : List Nat} (h : Ch tg inc s l e) (hi : ∀ j ∈ l, 1 ≤ inc j) : ∀ j ∈ l, s < tg j := by
  induction l generalizing s with
  | nil => simp
  | cons k r ih =>
    have h0 := hi k List.mem_cons_self
    have h1 := h.1
    intro j hj
    rcases List.mem_cons.1 hj with rfl | hj
    · omega
    · have := ih h.2 (fun j hj => hi j (List.mem_cons_of_mem _ hj)) j hj
      omega
end
theorem fQ_mem {p : List Pk} {f j : Nat} {w : List Nat} : j ∈ fQ p f w ↔ j ∈ w ∧ flN p j = f := by simp [fQ]
theorem fQ_app (p : List Pk) (f : Nat) (w r : List Nat) : fQ p f (w ++ r) = fQ p f w ++ fQ p f r := List.filter_append _ _
theorem fQ_one (p : List Pk) (f k : Nat) (r : List Nat) : fQ p f (k :: r) = if flN p k = f then k :: fQ p f r else fQ p f r := by
  unfold fQ
  rw [List.filter_cons]
  by_cases h : flN p k = f <;> simp [h]
/-- What a weight may be. -/
def wOk (ws : List Int) : Prop := ∀ g, g < 8 → 1 ≤ qu ws g ∧ qu ws g ∣ 12
theorem fInc_mul {p : List Pk} {ws : List Int} (hp : ∀ x ∈ p, okPk x) (hw : wOk ws) {k : Nat} (hk : k < p.length) : fInc p ws k * qu ws (flN p k) = sOf p k * 12 := by
  obtain ⟨h1, h2⟩ := hw _ (flN_lt hp hk)
  exact Int.ediv_mul_cancel (Int.dvd_trans h2 (Int.dvd_mul_left _ _))
theorem fInc_pos {p : List Pk} {ws : List Int} (hp : ∀ x ∈ p, okPk x) (hw : wOk ws) {k : Nat} (hk : k < p.length) : 1 ≤ fInc p ws k := by
  have h1 := (hw _ (flN_lt hp hk)).1
  have h2 := fInc_mul hp hw hk
  have h3 : 1 ≤ sOf p k := by rw [sOf_of hk]; exact (hp _ (List.getElem_mem hk)).2.2.1
  refine Int.not_lt.1 fun h4 => ?_
  have : fInc p ws k * qu ws (flN p k) ≤ 0 := Int.mul_nonpos_of_nonpos_of_nonneg (by omega) (by omega)
  omega
section
variable {p : List Pk} {ws : List Int} {m : Nat} {s s' : FS}
theorem fTag_ge (hp : ∀ x ∈ p, okPk x) (hw : wOk ws) {k : Nat} (hk : k < p.length) : s.v ≤ fTag p ws s k ∧ s.last (flN p k) ≤ fTag p ws s k := by
  have := fInc_pos hp hw hk
  unfold fTag
  omega
theorem fInc_le (hp : ∀ x ∈ p, okPk x) (hw : wOk ws) {k : Nat} (hk : k < p.length) : fInc p ws k ≤ 18000 := by
  have h1 := (hw _ (flN_lt hp hk)).1
  have h2 := fInc_mul hp hw hk
  have h4 := fInc_pos hp hw hk
  have h3 : sOf p k ≤ 1500 := by rw [sOf_of hk]; exact (hp _ (List.getElem_mem hk)).2.2.2.1
  have h5 : fInc p ws k * 1 ≤ fInc p ws k * qu ws (flN p k) := Int.mul_le_mul_of_nonneg_left h1 (by omega)
  omega
theorem fTag_bd (hp : ∀ x ∈ p, okPk x) (hw : wOk ws) {k m : Nat} (h : FB m s) (hk : k < p.length) : 0 ≤ fTag p ws s k ∧ fTag p ws s k ≤ 18000 * ((m + 1 : Nat) : Int) := by
  have h1 := fInc_pos hp hw hk
  have h2 := fInc_le hp hw hk
  have h3 := h.v
  have h4 := h.l (flN p k)
  unfold fTag
  omega
theorem FI.come (hp : ∀ x ∈ p, okPk x) (hw : wOk ws) {k : Nat} (h : FI p ws k s) (hk : k < p.length) : FI p ws (k + 1) (fCome p ws s k) := by
  have hne : ∀ j ∈ s.w, j ≠ k := fun j hj e => by have := h.lt j hj; omega
  refine ⟨fun j hj => ?_, ?_, hk, fun j hj => ?_, fun f => ?_, ⟨fun j hj => ?_, fun f => ?_, ?_⟩⟩
  · rcases List.mem_append.1 hj with h1 | h1
    · have := h.lt j h1; omega
    · rw [List.mem_singleton.1 h1]; omega
  · exact List.pairwise_append.2 ⟨h.asc, List.pairwise_singleton _ _, fun a ha b hb => by rw [List.mem_singleton.1 hb]; exact h.lt a ha⟩
  · show s.v ≤ upd s.tg k _ j
    rcases List.mem_append.1 hj with h1 | h1
    · rw [upd_other _ _ (hne j h1)]; exact h.ge j h1
    · rw [List.mem_singleton.1 h1, upd_same]; exact (fTag_ge hp hw hk).1
  · obtain ⟨x, h1, h2⟩ := h.ch f
    show ∃ x, x ≤ s.v ∧ Ch (upd s.tg k _) (fInc p ws) x (fQ p f (s.w ++ [k])) (upd s.last (flN p k) _ f)
    have hq : ∀ j ∈ fQ p f s.w, upd s.tg k (fTag p ws s k) j = s.tg j := fun j hj => upd_other _ _ (hne j (fQ_mem.1 hj).1)
    rw [fQ_app, fQ_one]
    by_cases hf : flN p k = f
    · rw [if_pos hf]
      subst hf
      rw [upd_same]
      by_cases hn : fQ p (flN p k) s.w = []
      · rw [hn] at h2 ⊢
        have h3 : x = s.last (flN p k) := h2
        refine ⟨s.v, Int.le_refl _, ?_, ?_⟩
        · rw [upd_same]; unfold fTag; omega
        · exact upd_same _ _ _
      · have h3 := h2.ge hn (v := s.v) fun j hj => h.ge j (fQ_mem.1 hj).1
        refine ⟨x, h1, ?_⟩
        have h4 := (h2.congr hq).app (k := k) (by rw [upd_same]; unfold fTag; omega)
        rw [upd_same] at h4
        exact h4
    · rw [if_neg hf, upd_other _ _ (fun e => hf e.symm)]
      refine ⟨x, h1, ?_⟩
      show Ch _ _ x (fQ p f s.w ++ []) _
      rw [List.append_nil]
      exact h2.congr hq
  · show upd s.tg k _ j ≤ _
    rcases List.mem_append.1 hj with h1 | h1
    · rw [upd_other _ _ (hne j h1)]; have := h.bd.t j h1; omega
    · rw [List.mem_singleton.1 h1, upd_same]; exact (fTag_bd hp hw h.bd hk).2
  · show 0 ≤ upd s.last _ _ f ∧ upd s.last _ _ f ≤ _
    by_cases hf : f = flN p k
    · subst hf; rw [upd_same]; exact fTag_bd hp hw h.bd hk
    · rw [upd_other _ _ hf]; have := h.bd.l f; omega
  · show 0 ≤ s.v ∧ s.v ≤ _
    have := h.bd.v
    omega
theorem fBest_ok (hs : 0 < s.w.length) : ∃ w1 w2, s.w = w1 ++ fBest s :: w2 ∧ s.w.eraseIdx (bestI s.tg s.w) = w1 ++ w2 ∧ (∀ j ∈ s.w, s.tg (fBest s) ≤ s.tg j) ∧ (∀ j ∈ w1, s.tg (fBest s) < s.tg j) := by
  have hb := bestI_ok s.tg s.w hs
  have hlt := hb.lt
  have e : fBest s = s.w[bestI s.tg s.w] := by unfold fBest; simp [List.getD, hlt]
  refine ⟨s.w.take (bestI s.tg s.w), s.w.drop (bestI s.tg s.w + 1), ?_, List.eraseIdx_eq_take_drop_succ _ _, fun j hj => ?_, fun j hj => ?_⟩
  · rw [e, ← List.drop_eq_getElem_cons hlt, List.take_append_drop]
  · obtain ⟨i, hi, rfl⟩ := List.mem_iff_getElem.1 hj
    have := hb.le i hi
    simp only [List.getD, List.getElem?_eq_getElem hi, Option.getD_some] at this
    exact this
  · obtain ⟨i, hi, rfl⟩ := List.mem_iff_getElem.1 hj
    have hi2 : i < bestI s.tg s.w := by
      have := hi; rw [List.length_take] at this; omega
    have := hb.first i hi2
    rw [List.getElem_take]
    simp only [List.getD, List.getElem?_eq_getElem (show i < s.w.length by omega), Option.getD_some] at this
    exact this
/-- The least tag is at the head of its flow. -/
theorem fBest_head (hp : ∀ x ∈ p, okPk x) (hw : wOk ws) (h : FI p ws m s) {w1 w2 : List Nat} (hs : s.w = w1 ++ fBest s :: w2) (hl : ∀ j ∈ s.w, s.tg (fBest s) ≤ s.tg j) : fQ p (flN p (fBest s)) w1 = [] := by
  obtain ⟨x, h1, h2⟩ := h.ch (flN p (fBest s))
  have hinc : ∀ j ∈ s.w, 1 ≤ fInc p ws j := fun j hj => fInc_pos hp hw (by have := h.lt j hj; have := h.le; omega)
  cases hq : fQ p (flN p (fBest s)) w1 with
  | nil => rfl
  | cons k r =>
    have hk : k ∈ w1 := (fQ_mem.1 (show k ∈ fQ p (flN p (fBest s)) w1 by rw [hq]; exact List.mem_cons_self)).1
    have hkw : k ∈ s.w := by rw [hs]; exact List.mem_append_left _ hk
    rw [hs, fQ_app, fQ_one, if_pos rfl, hq, List.cons_append] at h2
    have := h2.2.lt (fun j hj => hinc j ?_) (fBest s) (List.mem_append_right _ List.mem_cons_self)
    · have := hl k hkw
      omega
    · rw [hs]
      rcases List.mem_append.1 hj with h9 | h9
      · exact List.mem_append_left _ (fQ_mem.1 (show j ∈ fQ p (flN p (fBest s)) w1 by rw [hq]; exact List.mem_cons_of_mem _ h9)).1
      · rcases List.mem_cons.1 h9 with rfl | h9
        · exact List.mem_append_right _ List.mem_cons_self
        · exact List.mem_append_right _ (List.mem_cons_of_mem _ (fQ_mem.1 h9).1)
theorem fPick_eq {k : Nat} (hk : fPick s = some (k, s')) : 0 < s.w.length ∧ k = fBest s ∧ s' = { s with w := s.w.eraseIdx (bestI s.tg s.w), v := s.tg (fBest s) } := by
  unfold fPick at hk
  split at hk
  · cases hk
  · simp only [Option.some.injEq, Prod.mk.injEq] at hk
    exact ⟨by omega, hk.1.symm, hk.2.symm⟩
theorem FI.pick (hp : ∀ x ∈ p, okPk x) (hw : wOk ws) (h : FI p ws m s) {k : Nat} (hk : fPick s = some (k, s')) :
    FI p ws m s' ∧ s.v ≤ s'.v ∧ s'.v = s.tg k ∧ s'.tg = s.tg ∧ s.w.Perm (k :: s'.w) ∧ (∀ f, fQ p f s.w = if flN p k = f then k :: fQ p f s'.w else fQ p f s'.w) := by
  obtain ⟨h0, rfl, rfl⟩ := fPick_eq hk
  obtain ⟨w1, w2, e1, e2, e3, e4⟩ := fBest_ok h0
  have hh := fBest_head hp hw h e1 e3
  have hv := h.ge (fBest s) (by rw [e1]; exact List.mem_append_right _ List.mem_cons_self)
  have hsub : ∀ j ∈ w1 ++ w2, j ∈ s.w := fun j hj => by
    rw [e1]
    rcases List.mem_append.1 hj with h9 | h9
    · exact List.mem_append_left _ h9
    · exact List.mem_append_right _ (List.mem_cons_of_mem _ h9)
  have hQ : ∀ f, fQ p f s.w = if flN p (fBest s) = f then fBest s :: fQ p f (w1 ++ w2) else fQ p f (w1 ++ w2) := fun f => by
    rw [e1, fQ_app, fQ_one, fQ_app]
    by_cases hf : flN p (fBest s) = f
    · rw [if_pos hf]
      rw [hf] at hh
      rw [hh, List.nil_append, List.nil_append, if_pos hf]
    · rw [if_neg hf, if_neg hf]
  refine ⟨⟨fun j hj => ?_, ?_, h.le, fun j hj => ?_, fun f => ?_, ⟨fun j hj => ?_, h.bd.l, ?_⟩⟩, hv, rfl, rfl, ?_, fun f => ?_⟩
  · simp only [e2] at hj
    exact h.lt j (hsub j hj)
  · exact h.asc.sublist (List.eraseIdx_sublist _ _)
  · simp only [e2] at hj
    exact e3 j (hsub j hj)
  · obtain ⟨x, h1, h2⟩ := h.ch f
    rw [hQ] at h2
    show ∃ x, x ≤ s.tg (fBest s) ∧ Ch s.tg (fInc p ws) x (fQ p f (s.w.eraseIdx (bestI s.tg s.w))) (s.last f)
    rw [e2]
    by_cases hf : flN p (fBest s) = f
    · rw [if_pos hf] at h2
      exact ⟨_, Int.le_refl _, h2.2⟩
    · rw [if_neg hf] at h2
      exact ⟨x, by omega, h2⟩
  · simp only [e2] at hj
    exact h.bd.t j (hsub j hj)
  · show 0 ≤ s.tg (fBest s) ∧ s.tg (fBest s) ≤ _
    exact ⟨by have := h.bd.v; omega, h.bd.t _ (by rw [e1]; exact List.mem_append_right _ List.mem_cons_self)⟩
  · show s.w.Perm (fBest s :: s.w.eraseIdx _)
    rw [e2]
    have e5 : s.w.Perm (w1 ++ fBest s :: w2) := by rw [← e1]
    exact e5.trans List.perm_middle
  · rw [e2]; exact hQ f
theorem FI.rest (h : FI p ws m s) (hs : s.w = []) : FI p ws m (fRest s) :=
  ⟨h.lt, h.asc, h.le, fun j hj => by have hj' : j ∈ s.w := hj; rw [hs] at hj'; simp at hj', fun f => ⟨0, Int.le_refl _, by show Ch _ _ _ (fQ p f s.w) _; rw [hs]; rfl⟩, ⟨h.bd.t, fun f => ⟨Int.le_refl _, by show (0 : Int) ≤ _; omega⟩, by show (0:Int) ≤ 0 ∧ (0:Int) ≤ _; omega⟩⟩
end
def fairM (p : List Pk) (ws : List Int) : Pol FS where
  come := fCome p ws
  pick := fPick
  rest := fRest
  wait s := s.w
  ok := FI p ws
theorem fairOk {p : List Pk} {ws : List Int} (hp : ∀ x ∈ p, okPk x) (hw : wOk ws) : PolOk (fairM p ws) p.length where
  ok_come := fun s k h hk => h.come hp hw hk
  ok_pick := fun s m k s' h hk => (h.pick hp hw hk).1
  ok_rest := fun s m h hs => h.rest hs
  w_come := fun s k _ _ => List.perm_append_comm (l₂ := [k])
  w_none := fun s m _ hk => by
    simp only [fairM] at hk ⊢
    unfold fPick at hk
    split at hk
    · rename_i h; exact List.eq_nil_of_length_eq_zero h
    · cases hk
  w_some := fun s m k s' h hk => (h.pick hp hw hk).2.2.2.2.1
  w_rest := fun s m _ h => h
def fs0 : FS := ⟨[], fun _ => 0, fun _ => 0, 0⟩
theorem fs0_ok (p : List Pk) (ws : List Int) : FI p ws 0 fs0 :=
  ⟨by simp [fs0], List.Pairwise.nil, Nat.zero_le _, by simp [fs0], fun f => ⟨0, Int.le_refl _, rfl⟩, ⟨by simp [fs0], fun f => by simp [fs0], by simp [fs0]⟩⟩
def fairL (p : List Pk) (per : Int) (ws : List Int) : List Sn := (serveS (fairM p ws) p per fs0).out
def fairT (p : List Pk) (per : Int) (ws : List Int) : Nat → Int := (serveS (fairM p ws) p per fs0).s.tg
end Go.Proofs.YthgpbdlmadjndaaGreatDoor
namespace Go.Proofs.YthgpbdlmadjndaaGreatDoor
def fStart (p : List Pk) (ws : List Int) (s : FS) (f : Nat) : Int := match fQ p f s.w with
  | [] => 0
  | k :: _ => s.tg k - fInc p ws k
def fPot (p : List Pk) (ws : List Int) (a b : Nat) (s : FS) : Int := (fStart p ws s b - fStart p ws s a) * (qu ws a * qu ws b)
section
variable {p : List Pk} {ws : List Int} {m : Nat} {s s' : FS} {a b : Nat}
theorem fStart_bd (hp : ∀ x ∈ p, okPk x) (hw : wOk ws) (h : FI p ws m s) {f : Nat} {X : Int} (hX : ∀ j, j < p.length → flN p j = f → sOf p j ≤ X) (hq : fQ p f s.w ≠ []) : fStart p ws s f ≤ s.v ∧ (s.v - fStart p ws s f) * qu ws f ≤ X * 12 := by
  obtain ⟨x, h1, h2⟩ := h.ch f
  unfold fStart
  cases hc : fQ p f s.w with
  | nil => exact absurd hc hq
  | cons k r =>
    rw [hc] at h2
    have hk := fQ_mem.1 (show k ∈ fQ p f s.w by rw [hc]; exact List.mem_cons_self)
    have hkl : k < p.length := by have := h.lt k hk.1; have := h.le; omega
    have h3 := h2.1
    have h4 := h.ge k hk.1
    have h5 := fInc_mul hp hw hkl
    have h6 := hX k hkl hk.2
    rw [hk.2] at h5
    have hg := (hw f (by rw [← hk.2]; exact flN_lt hp hkl)).1
    refine ⟨by show s.tg k - fInc p ws k ≤ _; omega, ?_⟩
    show (s.v - (s.tg k - fInc p ws k)) * qu ws f ≤ _
    have := Int.mul_le_mul_of_nonneg_right (show s.v - (s.tg k - fInc p ws k) ≤ fInc p ws k by omega) (show 0 ≤ qu ws f by omega)
    omega
theorem fPot_bd (hp : ∀ x ∈ p, okPk x) (hw : wOk ws) (h : FI p ws m s) {X Y : Int} (hX : ∀ j, j < p.length → flN p j = a → sOf p j ≤ X) (hY : ∀ j, j < p.length → flN p j = b → sOf p j ≤ Y) (ha8 : a < 8) (hb8 : b < 8) (ha : fQ p a s.w ≠ []) (hb : fQ p b s.w ≠ []) :
    -(12 * (Y * qu ws a)) ≤ fPot p ws a b s ∧ fPot p ws a b s ≤ 12 * (X * qu ws b) := by
  obtain ⟨a1, a2⟩ := fStart_bd hp hw h hX ha
  obtain ⟨b1, b2⟩ := fStart_bd hp hw h hY hb
  have ga := (hw a ha8).1
  have gb := (hw b hb8).1
  unfold fPot
  generalize fStart p ws s a = x at a1 a2 ⊢
  generalize fStart p ws s b = y at b1 b2 ⊢
  have m0 := Int.mul_nonneg (show 0 ≤ qu ws a by omega) (show 0 ≤ qu ws b by omega)
  have e : (y - x) * (qu ws a * qu ws b) = (s.v - x) * qu ws a * qu ws b - (s.v - y) * qu ws b * qu ws a := by
    rw [Int.mul_assoc, Int.mul_assoc, Int.mul_comm (qu ws b) (qu ws a), ← Int.sub_mul]
    congr 1
    omega
  rw [e]
  have m1 := Int.mul_le_mul_of_nonneg_right a2 (show 0 ≤ qu ws b by omega)
  have m2 := Int.mul_le_mul_of_nonneg_right b2 (show 0 ≤ qu ws a by omega)
  have m3 : 0 ≤ (s.v - x) * qu ws a * qu ws b := Int.mul_nonneg (Int.mul_nonneg (by omega) (by omega)) (by omega)
  have m4 : 0 ≤ (s.v - y) * qu ws b * qu ws a := Int.mul_nonneg (Int.mul_nonneg (by omega) (by omega)) (by omega)
  have e1 : X * 12 * qu ws b = 12 * (X * qu ws b) := by rw [Int.mul_comm X 12, Int.mul_assoc]
  have e2 : Y * 12 * qu ws a = 12 * (Y * qu ws a) := by rw [Int.mul_comm Y 12, Int.mul_assoc]
  omega
theorem fPot_pick (hp : ∀ x ∈ p, okPk x) (hw : wOk ws) (h : FI p ws m s) (hne : a ≠ b) {k : Nat} (hk : fPick s = some (k, s')) (ha : fQ p a s'.w ≠ []) (hb : fQ p b s'.w ≠ []) :
    fPot p ws a b s' = fPot p ws a b s - cntK p (12 * qu ws a) (12 * qu ws b) a b k := by
  obtain ⟨h1, h2, h3, h4, h5, h6⟩ := h.pick hp hw hk
  have hkl : k < p.length := by have := h.lt k (h5.mem_iff.2 List.mem_cons_self); have := h.le; omega
  have hinc := fInc_mul hp hw hkl
  -- the starts
  have hst : ∀ f, fQ p f s'.w ≠ [] → fStart p ws s' f = fStart p ws s f + if flN p k = f then fInc p ws k else 0 := fun f hf => by
    obtain ⟨x, _, c2⟩ := h.ch f
    have hq := h6 f
    unfold fStart
    by_cases hkf : flN p k = f
    · rw [if_pos hkf] at hq ⊢
      rw [hq] at c2 ⊢
      cases hr : fQ p f s'.w with
      | nil => exact absurd hr hf
      | cons k2 r =>
        rw [hr] at c2
        have c3 := c2.2.1
        show s'.tg k2 - fInc p ws k2 = s.tg k - fInc p ws k + fInc p ws k
        rw [h4]; omega
    · rw [if_neg hkf] at hq ⊢
      rw [hq, h4]
      omega
  unfold fPot cntK
  rw [hst a ha, hst b hb]
  by_cases hka : flN p k = a
  · have hkb : ¬ flN p k = b := fun e => hne (hka.symm.trans e)
    rw [if_pos hka, if_neg hkb, if_pos hka, if_neg hkb]
    rw [hka] at hinc
    have e : fInc p ws k * (qu ws a * qu ws b) = sOf p k * (12 * qu ws b) := by rw [← Int.mul_assoc, hinc, Int.mul_assoc]
    rw [← e, Int.sub_zero, Int.add_zero, ← Int.sub_mul]
    congr 1
    omega
  · rw [if_neg hka, if_neg hka]
    by_cases hkb : flN p k = b
    · rw [if_pos hkb, if_pos hkb]
      rw [hkb] at hinc
      have e : fInc p ws k * (qu ws a * qu ws b) = sOf p k * (12 * qu ws a) := by rw [Int.mul_comm (qu ws a), ← Int.mul_assoc, hinc, Int.mul_assoc]
      rw [← e, Int.add_zero, Int.zero_sub, Int.sub_neg, ← Int.add_mul]
      congr 1
      omega
    · rw [if_neg hkb, if_neg hkb]
      simp
theorem fair_comes (now : Int) (r : List Pk) (k : Nat) (s : FS) (hlt : ∀ j ∈ s.w, j < k) :
    (comeL (fairM p ws) now r k s).2.v = s.v ∧ (∀ j, j < k → (comeL (fairM p ws) now r k s).2.tg j = s.tg j) ∧ ∀ f, fQ p f s.w ≠ [] → fQ p f (comeL (fairM p ws) now r k s).2.w ≠ [] ∧ fStart p ws (comeL (fairM p ws) now r k s).2 f = fStart p ws s f := by
  induction r generalizing k s with
  | nil => exact ⟨rfl, fun _ _ => rfl, fun _ h => ⟨h, rfl⟩⟩
  | cons x r ih =>
    unfold comeL
    split
    · obtain ⟨e1, e2, e3⟩ := ih (k + 1) (fCome p ws s k) (fun j hj => by
        rcases List.mem_append.1 hj with h9 | h9
        · have := hlt j h9; omega
        · rw [List.mem_singleton.1 h9]; omega)
      refine ⟨e1, fun j hj => (e2 j (by omega)).trans (upd_other _ _ (by omega)), fun f hf => ?_⟩
      have hw : fQ p f (fCome p ws s k).w = fQ p f s.w ++ fQ p f [k] := fQ_app _ _ _ _
      obtain ⟨g1, g2⟩ := e3 f (by rw [hw]; intro e; exact hf (List.append_eq_nil_iff.1 e).1)
      refine ⟨g1, g2.trans ?_⟩
      unfold fStart
      rw [hw]
      cases hc : fQ p f s.w with
      | nil => exact absurd hc hf
      | cons j r =>
        have hj := fQ_mem.1 (show j ∈ fQ p f s.w by rw [hc]; exact List.mem_cons_self)
        show upd s.tg k _ j - _ = _
        rw [upd_other _ _ (by have := hlt j hj.1; omega)]
    · exact ⟨rfl, fun _ _ => rfl, fun _ h => ⟨h, rfl⟩⟩
end
structure FairJ (p : List Pk) (ws : List Int) (a b : Nat) (lo hi : Int) (t : St FS) : Prop where
  came : ∀ j, j < t.next → aOf p j ≤ t.now
  fr : ∀ i (h : i < t.out.length), t.out[i].f ≤ t.now
  to_ : ∀ i (h : i < t.out.length), t.out[i].t ≤ t.now
  lv : ∀ i (h : i < t.out.length), i + 1 = t.out.length → t.now = t.out[i].t → t.s.tg t.out[i].p.toNat ≤ t.s.v
  mono : ∀ i (h : i + 1 < t.out.length), t.out[i + 1].f = t.out[i].t → t.s.tg t.out[i].p.toNat ≤ t.s.tg t.out[i + 1].p.toNat
  tr : ∃ P Q : Nat → Int, ∀ i (h : i < t.out.length), WtP p a (t.out.take i) t.out[i] → WtP p b (t.out.take i) t.out[i] →
    (lo ≤ P i ∧ P i ≤ hi ∧ lo ≤ Q i ∧ Q i ≤ hi ∧ Q i = P i - cnt p (12 * qu ws a) (12 * qu ws b) a b t.out[i]) ∧ (i + 1 < t.out.length → P (i + 1) = Q i) ∧ (i + 1 = t.out.length → Q i = fPot p ws a b t.s ∧ fQ p a t.s.w ≠ [] ∧ fQ p b t.s.w ≠ [])
theorem fair_step {p : List Pk} {per : Int} {ws : List Int} {a b : Nat} {lo hi : Int} (hp : ∀ x ∈ p, okPk x) (hs : p.Pairwise (fun x y => x.a ≤ y.a)) (h0 : 1 ≤ per) (hw : wOk ws) (hne : a ≠ b)
    (hbd : ∀ m s, FI p ws m s → fQ p a s.w ≠ [] → fQ p b s.w ≠ [] → lo ≤ fPot p ws a b s ∧ fPot p ws a b s ≤ hi) (t : St FS) (h : Inv (fairM p ws) p t) (hlt : t.out.length < p.length) (hj : FairJ p ws a b lo hi t) : FairJ p ws a b lo hi (stepS (fairM p ws) p per t) := by
  have hM := fairOk (p := p) (ws := ws) hp hw
  obtain ⟨hc, hlt2⟩ := comeL_inv hM t.now (p.drop t.next) t.next t.s rfl h.toC
  have hall := comeL_all hM hs h hj.came
  obtain ⟨hv, htg, hpc⟩ := fair_comes (p := p) (ws := ws) t.now (p.drop t.next) t.next t.s h.ok.lt
  obtain ⟨P, Q, htr⟩ := hj.tr
  have hsent : ∀ y ∈ t.out, y.p.toNat < t.next := fun y hy => List.mem_range.1 (h.perm.mem_iff.1 (List.mem_append_left _ (List.mem_map.2 ⟨y, hy, rfl⟩)))
  unfold stepS
  generalize comeL (fairM p ws) t.now (p.drop t.next) t.next t.s = q at hc hlt2 hall hpc hv htg
  have hin : ∀ j, j < p.length → aOf p j ≤ t.now → (∀ y ∈ t.out, y.p ≠ j) → j ∈ q.2.w := fun j hj1 hj2 hj3 => by
    have hjq := (hall j hj1).2 hj2
    rcases List.mem_append.1 (hc.perm.mem_iff.2 (List.mem_range.2 hjq)) with h1 | h1
    · obtain ⟨y, hy, e⟩ := List.mem_map.1 h1
      have := h.pos y hy
      exact absurd (show y.p = (j : Int) by omega) (hj3 y hy)
    · exact h1
  have htg' : ∀ i (h : i < t.out.length), q.2.tg t.out[i].p.toNat = t.s.tg t.out[i].p.toNat := fun i hi => htg _ (hsent _ (List.getElem_mem hi))
  cases hpk : (fairM p ws).pick q.2 with
  | none =>
    have hw0 : q.2.w = [] := hM.w_none _ _ hc.ok hpk
    have hid := hc.idle hM hpk
    have hq1 : q.1 < p.length := by omega
    have hnow := hlt2 hq1
    refine ⟨fun j hjj => ?_, fun i hi => ?_, fun i hi => ?_, fun i hi h8 h9 => ?_, fun i hi h9 => ?_, P, Q, fun i hi ha hb => ?_⟩
    · show aOf p j ≤ aOf p q.1
      exact aOf_mono hs (Nat.le_of_lt hjj) hq1
    · have := hj.fr i hi
      show _ ≤ aOf p q.1
      simp only; omega
    · have := hj.to_ i hi
      show _ ≤ aOf p q.1
      simp only; omega
    · have hi' : i < t.out.length := hi
      have := hj.to_ i hi'
      have h9' : aOf p q.1 = t.out[i].t := h9
      omega
    · show q.2.tg _ ≤ q.2.tg _
      have hi' : i + 1 < t.out.length := hi
      have h9' : t.out[i + 1].f = t.out[i].t := h9
      have := hj.mono i hi' h9'
      have e1 := htg' i (by omega)
      have e2 := htg' (i + 1) hi'
      simp only
      rw [e1, e2]
      exact this
    · obtain ⟨h1, h2, _⟩ := htr i hi ha hb
      refine ⟨h1, h2, fun h9 => ?_⟩
      obtain ⟨j, j1, j2, j3, j4, j5⟩ := ha
      have h9' : i + 1 = t.out.length := h9
      have hfr := hj.fr i hi
      have hsplit : t.out = t.out.take i ++ [t.out[i]'hi] := by
        rw [← List.take_succ_eq_append_getElem hi, h9', List.take_length]
      have := hin j j1 (Int.le_trans j3 hfr) (fun y hy => by
        rw [hsplit] at hy
        rcases List.mem_append.1 hy with hy | hy
        · exact j4 y hy
        · rw [List.mem_singleton.1 hy]; exact j5)
      rw [hw0] at this
      simp at this
  | some ks =>
    obtain ⟨k, s'⟩ := ks
    have hk : k < q.1 := hc.pick_lt hM hpk
    have hkl : k < p.length := Nat.lt_of_lt_of_le hk hc.k_le
    have hok := hp _ (List.getElem_mem hkl)
    have m1 : 0 ≤ per * sOf p k := Int.mul_nonneg (by omega) (by rw [sOf_of hkl]; have := hok.2.2.1; omega)
    obtain ⟨hri, hvv, hvk, htk, hperm, hqq⟩ := FI.pick hp hw hc.ok hpk
    obtain ⟨x, hx⟩ : ∃ x : Sn, x = ⟨(k : Int), t.now, t.now + per * sOf p k⟩ := ⟨_, rfl⟩
    have hxp : x.p = (k : Int) := by rw [hx]
    have hxf : x.f = t.now := by rw [hx]
    have hxt : x.t = t.now + per * sOf p k := by rw [hx]
    show FairJ p ws a b lo hi ⟨t.out ++ [⟨(k : Int), t.now, t.now + per * sOf p k⟩], t.now + per * sOf p k, q.1, s'⟩
    rw [← hx]
    have hin2 : ∀ f, WtP p f t.out x → fQ p f s'.w ≠ [] ∧ fQ p f q.2.w ≠ [] := fun f ⟨j, j1, j2, j3, j4, j5⟩ => by
      have hjw := hin j j1 (by rw [← hxf]; exact j3) j4
      have hjw' : j ∈ s'.w := by
        rcases List.mem_cons.1 (hperm.mem_iff.1 hjw) with e | e
        · exact absurd (by rw [hxp, e]) j5
        · exact e
      have e1 : flN p j = f := j2
      exact ⟨List.ne_nil_of_mem (fQ_mem.2 ⟨hjw', e1⟩), List.ne_nil_of_mem (fQ_mem.2 ⟨hjw, e1⟩)⟩
    have e2' : (t.out ++ [x])[t.out.length]'(by simp) = x := List.getElem_concat_length rfl _
    refine ⟨fun j hjj => ?_, fun i hi => ?_, fun i hi => ?_, fun i hi h8 h9 => ?_, fun i hi h9 => ?_, fun i => if i = t.out.length then fPot p ws a b q.2 else P i, fun i => if i = t.out.length then fPot p ws a b s' else Q i, fun i hi ha hb => ?_⟩
    · have hjj' : j < q.1 := hjj
      have := (hall j (Nat.lt_of_lt_of_le hjj' hc.k_le)).1 hjj'
      show aOf p j ≤ t.now + per * sOf p k
      omega
    · show _ ≤ t.now + per * sOf p k
      have hi' : i < t.out.length + 1 := by simpa using hi
      rcases Nat.lt_or_ge i t.out.length with h9 | h9
      · have := hj.fr i h9
        simp only [List.getElem_append_left h9]
        omega
      · obtain rfl : i = t.out.length := by omega
        rw [List.getElem_concat_length rfl, hxf]
        omega
    · show _ ≤ t.now + per * sOf p k
      have hi' : i < t.out.length + 1 := by simpa using hi
      rcases Nat.lt_or_ge i t.out.length with h9 | h9
      · have := hj.to_ i h9
        simp only [List.getElem_append_left h9]
        omega
      · obtain rfl : i = t.out.length := by omega
        rw [List.getElem_concat_length rfl, hxt]
        omega
    · have h8' : i + 1 = t.out.length + 1 := by simpa using h8
      obtain rfl : i = t.out.length := by omega
      show s'.tg ((t.out ++ [x])[t.out.length]'hi).p.toNat ≤ s'.v
      rw [e2', hxp, Int.toNat_natCast, htk, hvk]
      exact Int.le_refl _
    · have hi' : i + 1 < t.out.length + 1 := by simpa using hi
      have hil : i < t.out.length := by omega
      show s'.tg _ ≤ s'.tg _
      have h9' : ((t.out ++ [x])[i + 1]'hi).f = ((t.out ++ [x])[i]'(Nat.lt_of_succ_lt hi)).t := h9
      rw [htk]
      simp only
      rw [List.getElem_append_left hil] at h9' ⊢
      rcases Nat.lt_or_ge (i + 1) t.out.length with h10 | h10
      · rw [List.getElem_append_left h10] at h9' ⊢
        rw [htg' i hil, htg' (i + 1) h10]
        exact hj.mono i h10 h9'
      · have e3 : i + 1 = t.out.length := by omega
        have e4 : (t.out ++ [x])[i + 1]'hi = x := by simp only [e3]; exact e2'
        rw [e4] at h9' ⊢
        rw [htg' i hil, hxp, Int.toNat_natCast]
        have := hj.lv i hil e3 (by rw [← h9', hxf])
        omega
    · have hi' : i < t.out.length + 1 := by simpa using hi
      simp only [List.length_append, List.length_cons, List.length_nil]
      rcases Nat.lt_or_ge i t.out.length with h9 | h9
      · simp only [List.take_append_of_le_length (Nat.le_of_lt h9), List.getElem_append_left h9] at ha hb ⊢
        obtain ⟨h1, h2, h3⟩ := htr i h9 ha hb
        have hn : ¬ i = t.out.length := by omega
        rw [if_neg hn, if_neg hn]
        refine ⟨h1, fun h8 => ?_, fun h8 => by omega⟩
        by_cases h7 : i + 1 = t.out.length
        · rw [if_pos h7]
          obtain ⟨g1, g2, g3⟩ := h3 h7
          rw [g1]
          unfold fPot
          rw [(hpc a g2).2, (hpc b g3).2]
        · rw [if_neg h7]
          exact h2 (by omega)
      · obtain rfl : i = t.out.length := by omega
        have e1 : (t.out ++ [x]).take t.out.length = t.out := List.take_left' rfl
        rw [e1, e2'] at ha hb
        rw [e2']
        obtain ⟨a1, a3⟩ := hin2 a ha
        obtain ⟨b1, b3⟩ := hin2 b hb
        rw [if_pos rfl, if_pos rfl]
        have hpot := fPot_pick hp hw hc.ok hne hpk a1 b1
        have hcnt : cnt p (12 * qu ws a) (12 * qu ws b) a b x = cntK p (12 * qu ws a) (12 * qu ws b) a b k := by
          unfold cnt cntK flS flN
          rw [hxp, Int.toNat_natCast]
        refine ⟨⟨(hbd _ _ hc.ok a3 b3).1, (hbd _ _ hc.ok a3 b3).2, (hbd _ _ hri a1 b1).1, (hbd _ _ hri a1 b1).2, by rw [hcnt]; exact hpot⟩, fun h8 => by omega, fun _ => ⟨rfl, a1, b1⟩⟩
/-- The spread of two flows, of scaled counts. -/
theorem spr_scale (p : List Pk) (qa qb : Int) (a b : Nat) (r : List Sn) (most sum low high : Int) : sprGo p (12 * qa) (12 * qb) a b (12 * most) (12 * sum) (12 * low) (12 * high) r = 12 * sprGo p qa qb a b most sum low high r := by
  induction r generalizing most sum low high with
  | nil => rfl
  | cons s r ih =>
    have hc : cnt p (12 * qa) (12 * qb) a b s = 12 * cnt p qa qb a b s := by
      unfold cnt
      rw [Int.mul_left_comm (sOf p s.p.toNat) 12 qb, Int.mul_left_comm (sOf p s.p.toNat) 12 qa]
      split <;> split <;> omega
    unfold sprGo
    rw [hc]
    split
    · rw [← ih]
      congr 1 <;> omega
    · have := ih most 0 0 0
      rw [← this]
      rfl
theorem fair_shares {p : List Pk} {per : Int} {ws : List Int} {a b : Nat} {X Y : Int} (hp : ∀ x ∈ p, okPk x) (hs : p.Pairwise (fun x y => x.a ≤ y.a)) (h0 : 1 ≤ per) (h1 : per ≤ 1000) (hw : wOk ws) (ha8 : a < 8) (hb8 : b < 8)
    (hX : ∀ j, j < p.length → flN p j = a → sOf p j ≤ X) (hY : ∀ j, j < p.length → flN p j = b → sOf p j ≤ Y) (hX0 : 0 ≤ X) (hY0 : 0 ≤ Y) :
    sprL p (qu ws a) (qu ws b) a b (fairL p per ws) ≤ X * qu ws b + Y * qu ws a := by
  have hA := (hw a ha8).1
  have hB := (hw b hb8).1
  have m5 := Int.mul_nonneg hX0 (show 0 ≤ qu ws b by omega)
  have m6 := Int.mul_nonneg hY0 (show 0 ≤ qu ws a by omega)
  by_cases hne : a = b
  · subst hne
    rw [spr_same]
    omega
  · have hM := fairOk (p := p) (ws := ws) hp hw
    obtain ⟨e1, e2, e3, e4⟩ := srv_perm hM hp h0 h1 (s0 := fs0) rfl (fs0_ok p ws)
    have hJ := run_ind hM hp h0 h1 (FairJ p ws a b _ _) (fun t x y z => fair_step hp hs h0 hw hne (fun m s h ha hb => fPot_bd hp hw h hX hY ha8 hb8 ha hb) t x y z) (2 * p.length + 1) _ (inv_start (M := fairM p ws) (s0 := fs0) p rfl (fs0_ok p ws))
      ⟨fun j hj => by simp at hj, fun i hi => by simp at hi, fun i hi => by simp at hi, fun i hi => by simp at hi, fun i hi => by simp at hi, fun _ => 0, fun _ => 0, fun i hi => by simp at hi⟩
    obtain ⟨P, Q, htr⟩ := hJ.tr
    have hT : Tr p (12 * qu ws a) (12 * qu ws b) a b _ _ (fairL p per ws) P Q := ⟨fun i hi ha hb => by
      obtain ⟨⟨g1, g2, g3, g4, g5⟩, g6, _⟩ := htr i hi (wt_of e2 e3 e4 hi ha) (wt_of e2 e3 e4 hi hb)
      exact ⟨g1, g2, g3, g4, g5, g6⟩⟩
    have h9 := spr_le hT (by omega)
    have h8 := spr_scale p (qu ws a) (qu ws b) a b (fairL p per ws) 0 0 0 0
    unfold sprL at h9 ⊢
    simp only [Int.mul_zero] at h8
    omega
/-- Tags do not fall while the link is busy. -/
theorem fair_rises {p : List Pk} {per : Int} {ws : List Int} (hp : ∀ x ∈ p, okPk x) (hs : p.Pairwise (fun x y => x.a ≤ y.a)) (h0 : 1 ≤ per) (h1 : per ≤ 1000) (hw : wOk ws) (i : Nat) (hi : i + 1 < (fairL p per ws).length) (he : (fairL p per ws)[i + 1].f = (fairL p per ws)[i].t) :
    fairT p per ws (fairL p per ws)[i].p.toNat ≤ fairT p per ws (fairL p per ws)[i + 1].p.toNat := by
  have hM := fairOk (p := p) (ws := ws) hp hw
  obtain ⟨X, hX⟩ : ∃ X : Int, X = 1500 := ⟨_, rfl⟩
  have hb : ∀ j, j < p.length → sOf p j ≤ X := fun j hj => by
    rw [sOf_of hj, hX]
    exact (hp _ (List.getElem_mem hj)).2.2.2.1
  have hJ := run_ind hM hp h0 h1 (FairJ p ws 0 1 _ _) (fun t x y z => fair_step hp hs h0 hw (by omega) (fun m s h ha hb2 => fPot_bd (X := X) (Y := X) hp hw h (fun j hj _ => hb j hj) (fun j hj _ => hb j hj) (by omega) (by omega) ha hb2) t x y z) (2 * p.length + 1) _ (inv_start (M := fairM p ws) (s0 := fs0) p rfl (fs0_ok p ws))
    ⟨fun j hj => by simp at hj, fun i hi => by simp at hi, fun i hi => by simp at hi, fun i hi => by simp at hi, fun i hi => by simp at hi, fun _ => 0, fun _ => 0, fun i hi => by simp at hi⟩
  exact hJ.mono i hi he
end Go.Proofs.YthgpbdlmadjndaaGreatDoor
namespace Go.Proofs.YthgpbdlmadjndaaGreatDoor
section
variable {σ : Type} {M : Pol σ} {p : List Pk} {per : Int} {t : St σ}
theorem gcame_step (hM : PolOk M p.length) (hp : ∀ x ∈ p, okPk x) (hs : p.Pairwise (fun x y => x.a ≤ y.a)) (h0 : 1 ≤ per) (h : Inv M p t) (hlt : t.out.length < p.length) (hc : ∀ j, j < t.next → aOf p j ≤ t.now) : ∀ j, j < (stepS M p per t).next → aOf p j ≤ (stepS M p per t).now := by
  obtain ⟨hci, hlt2⟩ := comeL_inv hM t.now (p.drop t.next) t.next t.s rfl h.toC
  have hall := comeL_all hM hs h hc
  unfold stepS
  generalize comeL M t.now (p.drop t.next) t.next t.s = q at hci hlt2 hall
  cases hpk : M.pick q.2 with
  | none =>
    have hid := hci.idle hM hpk
    intro j hj
    exact aOf_mono hs (Nat.le_of_lt hj) (by simp only at hj; omega)
  | some ks =>
    obtain ⟨k, s'⟩ := ks
    have hk : k < q.1 := hci.pick_lt hM hpk
    have hkl : k < p.length := Nat.lt_of_lt_of_le hk hci.k_le
    intro j hj
    have h1 := (hall j (Nat.lt_of_lt_of_le hj hci.k_le)).1 hj
    show aOf p j ≤ t.now + per * sOf p k
    have h2 := (hp _ (List.getElem_mem hkl)).2.2.1
    rw [sOf_of hkl]
    have : 0 ≤ per * p[k].s := Int.mul_nonneg (by omega) (by omega)
    omega
/-- Those that wait: come, and not sent. -/
theorem gwait_iff (hM : PolOk M p.length) (hs : p.Pairwise (fun x y => x.a ≤ y.a)) (h : Inv M p t) (hc : ∀ j, j < t.next → aOf p j ≤ t.now) (j : Nat) (hl : j < p.length) :
    j ∈ M.wait (comeL M t.now (p.drop t.next) t.next t.s).2 ↔ (dnB t.out j = false ∧ aOf p j ≤ t.now) := by
  obtain ⟨hci, _⟩ := comeL_inv hM t.now (p.drop t.next) t.next t.s rfl h.toC
  have hall := comeL_all hM hs h hc j hl
  generalize comeL M t.now (p.drop t.next) t.next t.s = q at hci hall
  have hnd : ((t.out.map fun x => x.p.toNat) ++ M.wait q.2).Nodup := (hci.perm.nodup_iff).2 List.nodup_range
  have hm : ∀ j, (j ∈ (t.out.map fun x => x.p.toNat) ∨ j ∈ M.wait q.2) ↔ j < q.1 := fun j => (List.mem_append.symm).trans ((hci.perm.mem_iff).trans List.mem_range)
  rw [← hall, dnB_not]
  refine ⟨fun h1 => ⟨fun y hy e => ?_, (hm j).1 (.inr h1)⟩, fun ⟨h1, h2⟩ => ?_⟩
  · exact (List.nodup_append.1 hnd).2.2 _ (List.mem_map.2 ⟨y, hy, by omega⟩) _ h1 rfl
  · rcases (hm j).2 h2 with h3 | h3
    · obtain ⟨y, hy, e⟩ := List.mem_map.1 h3
      have := h.pos y hy
      exact absurd (show y.p = (j : Int) by omega) (h1 y hy)
    · exact h3
/-- Where none waits, the first that was not sent is the next to come. -/
theorem gfirst (hM : PolOk M p.length) (h : Inv M p t) (hlt : t.out.length < p.length) {first : Int} (hf : FirstAt t.out p.length first) (hpk : M.pick (comeL M t.now (p.drop t.next) t.next t.s).2 = none) :
    first = ((comeL M t.now (p.drop t.next) t.next t.s).1 : Int) ∧ (comeL M t.now (p.drop t.next) t.next t.s).1 < p.length := by
  obtain ⟨hc, hlt2⟩ := comeL_inv hM t.now (p.drop t.next) t.next t.s rfl h.toC
  generalize comeL M t.now (p.drop t.next) t.next t.s = q at hc hlt2 hpk
  have hid := hc.idle hM hpk
  have hw := hM.w_none _ _ hc.ok hpk
  have hm : ∀ j, j ∈ (t.out.map fun x => x.p.toNat) ↔ j < q.1 := fun j => by
    have := (hc.perm.mem_iff (a := j)).trans List.mem_range
    rw [hw, List.append_nil] at this
    exact this
  have hdq : dnB t.out q.1 = false := dnB_not.2 fun y hy e => by
    have := (hm q.1).1 (List.mem_map.2 ⟨y, hy, by omega⟩)
    omega
  have hdl : ∀ j, j < q.1 → dnB t.out j = true := fun j hjq => by
    obtain ⟨y, hy, e⟩ := List.mem_map.1 ((hm j).2 hjq)
    have := h.pos y hy
    exact dnB_iff.2 ⟨y, hy, by omega⟩
  refine ⟨?_, by omega⟩
  rcases hf with ⟨e, hf⟩ | ⟨f, hfl, e, h1, h2⟩
  · have := hf q.1 (by omega)
    rw [hdq] at this; cases this
  · rcases Nat.lt_trichotomy f q.1 with h9 | h9 | h9
    · rw [hdl f h9] at h1; cases h1
    · omega
    · have := h2 q.1 h9
      rw [hdq] at this; cases this
/-- Packets come one by one: those ahead of i have been looked at. -/
structure CAt (M : Pol σ) (p : List Pk) (t : St σ) (i k : Nat) (s : σ) : Prop where
  run : comeL M t.now (p.drop t.next) t.next t.s = comeL M t.now (p.drop k) k s
  inv : InvC M p t.out k s
  ge : t.next ≤ k
  at_ : k ≤ i ∨ k = t.next
  iff : ∀ j, j < i → (j < k ↔ aOf p j ≤ t.now)
theorem CAt.start (h : Inv M p t) : CAt M p t 0 t.next t.s := ⟨rfl, h.toC, Nat.le_refl _, .inr rfl, fun _ h => absurd h (Nat.not_lt_zero _)⟩
theorem CAt.old {i k : Nat} {s : σ} (h : CAt M p t i k s) (hc : ∀ j, j < t.next → aOf p j ≤ t.now) (hi : i < k) : CAt M p t (i + 1) k s ∧ aOf p i ≤ t.now := by
  have hk : k = t.next := by rcases h.at_ with h1 | h1 <;> omega
  have ha : aOf p i ≤ t.now := hc i (by omega)
  refine ⟨⟨h.run, h.inv, h.ge, .inr hk, fun j hj => ?_⟩, ha⟩
  rcases Nat.lt_succ_iff_lt_or_eq.1 hj with h9 | rfl
  · exact h.iff j h9
  · exact ⟨fun _ => ha, fun _ => hi⟩
theorem CAt.late {i k : Nat} {s : σ} (h : CAt M p t i k s) (hi : k ≤ i) (ha : t.now < aOf p i) : CAt M p t (i + 1) k s := by
  refine ⟨h.run, h.inv, h.ge, .inl (by omega), fun j hj => ?_⟩
  rcases Nat.lt_succ_iff_lt_or_eq.1 hj with h9 | rfl
  · exact h.iff j h9
  · exact ⟨fun _ => by omega, fun _ => by omega⟩
theorem CAt.now_ {i k : Nat} {s : σ} (h : CAt M p t i k s) (hs : p.Pairwise (fun x y => x.a ≤ y.a)) (hi : k ≤ i) (hil : i < p.length) (ha : aOf p i ≤ t.now) : k = i := by
  rcases Nat.eq_or_lt_of_le hi with h9 | h9
  · exact h9
  · have h1 := h.iff k h9
    have h2 := aOf_mono hs (Nat.le_of_lt h9) hil
    omega
theorem CAt.come {i : Nat} {s : σ} (h : CAt M p t i i s) (hM : PolOk M p.length) (hil : i < p.length) (ha : aOf p i ≤ t.now) : CAt M p t (i + 1) (i + 1) (M.come s i) := by
  refine ⟨?_, h.inv.come hM hil, by have := h.ge; omega, .inl (Nat.le_refl _), fun j hj => ?_⟩
  · rw [h.run, List.drop_eq_getElem_cons hil]
    rw [aOf_of hil] at ha
    exact if_pos ha
  · rcases Nat.lt_succ_iff_lt_or_eq.1 hj with h9 | rfl
    · have := h.iff j h9
      exact ⟨fun _ => this.1 h9, fun _ => hj⟩
    · exact ⟨fun _ => ha, fun _ => hj⟩
theorem CAt.end_ {k : Nat} {s : σ} (h : CAt M p t p.length k s) : comeL M t.now (p.drop t.next) t.next t.s = (k, s) := by
  rw [h.run]
  refine comeL_out M p t.now k s fun hk => ?_
  have := h.iff k hk
  omega
/-- One that has not come was not sent. -/
theorem CAt.not_sent {i k : Nat} {s : σ} (h : CAt M p t i k s) (hpos : ∀ x ∈ t.out, 0 ≤ x.p) {j : Nat} (hj : k ≤ j) : dnB t.out j = false := dnB_not.2 fun y hy e => by
  have h1 : y.p.toNat ∈ (t.out.map fun x => x.p.toNat) ++ M.wait s := List.mem_append_left _ (List.mem_map.2 ⟨y, hy, rfl⟩)
  have := List.mem_range.1 ((h.inv.perm.mem_iff).1 h1)
  omega
end
theorem BestAt.congr {p : List Pk} {key key' : Nat → Int} {now : Int} {out : List Sn} {i : Nat} {best : Int} (h : BestAt p key now out i best) (hk : ∀ j, j < i → key' j = key j) : BestAt p key' now out i best := by
  rcases h with ⟨e, h⟩ | ⟨b, hb, e, h1, h2, h3⟩
  · exact .inl ⟨e, h⟩
  · refine .inr ⟨b, hb, e, h1, h2, fun j hj hd ha => ?_⟩
    rw [hk j hj, hk b hb]
    exact h3 j hj hd ha
section
variable {p : List Pk} {per : Int} {ws : List Int} {t : St FS}
theorem fair_none (hp : ∀ x ∈ p, okPk x) (hw : wOk ws) (hs : p.Pairwise (fun x y => x.a ≤ y.a)) (h : Inv (fairM p ws) p t) (hc : ∀ j, j < t.next → aOf p j ≤ t.now) (hlt : t.out.length < p.length) {k : Nat} {s : FS} (hq : CAt (fairM p ws) p t p.length k s) {best first : Int}
    (hb : BestAt p s.tg t.now t.out p.length best) (hf : FirstAt t.out p.length first) (hn : best < 0) :
    first = (k : Int) ∧ k < p.length ∧ stepS (fairM p ws) p per t = ⟨t.out, aOf p k, k, fRest s⟩ := by
  have hM := fairOk hp hw
  have hwt := gwait_iff hM hs h hc
  have hfi := fun x => gfirst hM h hlt hf x
  have hst : ∀ {k s}, comeL (fairM p ws) t.now (p.drop t.next) t.next t.s = (k, s) → (fairM p ws).pick s = none → stepS (fairM p ws) p per t = ⟨t.out, aOf p k, k, (fairM p ws).rest s⟩ := fun h1 h2 => step_none h1 h2
  rw [hq.end_] at hwt hfi
  have hq2 : s.w = [] := by
    refine List.eq_nil_iff_forall_not_mem.2 fun j hjm => ?_
    have hjl : j < p.length := Nat.lt_of_lt_of_le (hq.inv.wait_lt hjm) hq.inv.k_le
    obtain ⟨h1, h2⟩ := (hwt j hjl).1 hjm
    rcases hb with ⟨e, hb⟩ | ⟨b, hb, e, _⟩
    · have := hb j hjl h1; omega
    · omega
  have hpk : (fairM p ws).pick s = none := if_pos (by rw [hq2]; rfl)
  obtain ⟨f1, f2⟩ := hfi hpk
  exact ⟨f1, f2, hst hq.end_ hpk⟩
theorem fair_some (hp : ∀ x ∈ p, okPk x) (hw : wOk ws) (hs : p.Pairwise (fun x y => x.a ≤ y.a)) (h : Inv (fairM p ws) p t) (hc : ∀ j, j < t.next → aOf p j ≤ t.now) {k : Nat} {s : FS} (hq : CAt (fairM p ws) p t p.length k s) {best : Int}
    (hb : BestAt p s.tg t.now t.out p.length best) (hn : 0 ≤ best) :
    ∃ (b : Nat) (w' : List Nat), best = b ∧ b < p.length ∧ dnB t.out b = false ∧ stepS (fairM p ws) p per t = ⟨t.out ++ [⟨b, t.now, t.now + per * sOf p b⟩], t.now + per * sOf p b, k, { s with w := w', v := s.tg b }⟩ := by
  have hM := fairOk hp hw
  have hwt := gwait_iff hM hs h hc
  have hst : ∀ {k j : Nat} {s s'}, comeL (fairM p ws) t.now (p.drop t.next) t.next t.s = (k, s) → (fairM p ws).pick s = some (j, s') → stepS (fairM p ws) p per t = ⟨t.out ++ [⟨j, t.now, t.now + per * sOf p j⟩], t.now + per * sOf p j, k, s'⟩ := fun h1 h2 => step_some h1 h2
  rw [hq.end_] at hwt
  rcases hb with ⟨e, hb⟩ | ⟨b, hbl, e, h1, h2, h3⟩
  · omega
  · have hbm : b ∈ s.w := (hwt b hbl).2 ⟨h1, h2⟩
    have hne : s.w.length ≠ 0 := fun h9 => by rw [List.eq_nil_of_length_eq_zero h9] at hbm; cases hbm
    have hB := bestI_ok s.tg s.w (by omega)
    have hBl := hB.lt
    have eg : s.w.getD (bestI s.tg s.w) 0 = s.w[bestI s.tg s.w] := by simp [List.getD, hBl]
    have hk2 : s.w[bestI s.tg s.w] ∈ s.w := List.getElem_mem _
    have hkl : s.w[bestI s.tg s.w] < p.length := Nat.lt_of_lt_of_le (hq.inv.wait_lt hk2) hq.inv.k_le
    obtain ⟨g1, g2⟩ := (hwt _ hkl).1 hk2
    have h4 := h3 _ hkl g1 g2
    obtain ⟨a, ha, ea⟩ := List.getElem_of_mem hbm
    have e1 : s.w.getD a 0 = b := by simp [List.getD, ha, ea]
    have h5 := hB.le a ha
    rw [e1, eg] at h5
    have heq : s.tg b = s.tg s.w[bestI s.tg s.w] := by omega
    have hok : FI p ws k s := hq.inv.ok
    have hbk : b = s.w[bestI s.tg s.w] := by
      refine Nat.le_antisymm (h4.2 heq.symm) ?_
      rcases Nat.lt_or_ge a (bestI s.tg s.w) with h6 | h6
      · have := hB.first a h6
        rw [e1, eg] at this
        omega
      · rcases Nat.eq_or_lt_of_le h6 with h7 | h7
        · subst ea
          simp only [h7]; exact Nat.le_refl _
        · have := List.pairwise_iff_getElem.1 hok.asc _ _ hBl ha h7
          omega
    have hfb : fBest s = b := by unfold fBest; rw [eg, ← hbk]
    have hpk : (fairM p ws).pick s = some (b, { s with w := s.w.eraseIdx (bestI s.tg s.w), v := s.tg b }) := by
      show fPick s = _
      unfold fPick
      rw [if_neg hne, hfb]
    exact ⟨b, _, e, hbl, h1, hst hq.end_ hpk⟩
end
theorem tag_div {z q : Int} (h : q ∣ 12) : z * 12 / q = z * (12 / q) := Int.mul_ediv_assoc z h
end Go.Proofs.YthgpbdlmadjndaaGreatDoor
