/- The document's link by keys (scan for the least), plainly: it takes the same steps as a list of those that wait. No program. No condition. -/
import Derived.Test.YthgpbdlmadjndaaDoorRankW
namespace Go.Proofs.YthgpbdlmadjndaaDoor
def dnB (out : List Sn) (j : Nat) : Bool := out.any fun y => y.p == (j : Int)
theorem dnB_iff {out : List Sn} {j : Nat} : dnB out j = true ↔ ∃ y ∈ out, y.p = (j : Int) := by
  unfold dnB
  simp [List.any_eq_true]
theorem dnB_not {out : List Sn} {j : Nat} : dnB out j = false ↔ ∀ y ∈ out, y.p ≠ (j : Int) := by
  rw [← Bool.not_eq_true, dnB_iff]
  exact ⟨fun h y hy e => h ⟨y, hy, e⟩, fun h ⟨y, hy, e⟩ => h y hy e⟩
theorem dnB_add (out : List Sn) (x : Sn) (j : Nat) : dnB (out ++ [x]) j = (dnB out j || x.p == (j : Int)) := by simp [dnB]
def BestAt (p : List Pk) (key : Nat → Int) (now : Int) (out : List Sn) (i : Nat) (best : Int) : Prop :=
  (best = -1 ∧ ∀ j, j < i → dnB out j = false → now < aOf p j) ∨
  ∃ b : Nat, b < i ∧ best = b ∧ dnB out b = false ∧ aOf p b ≤ now ∧ ∀ j, j < i → dnB out j = false → aOf p j ≤ now → key b ≤ key j ∧ (key j = key b → b ≤ j)
def FirstAt (out : List Sn) (i : Nat) (first : Int) : Prop :=
  (first = -1 ∧ ∀ j, j < i → dnB out j = true) ∨ ∃ f : Nat, f < i ∧ first = f ∧ dnB out f = false ∧ ∀ j, j < f → dnB out j = true
section
variable {p : List Pk} {key : Nat → Int} {now : Int} {out : List Sn} {i : Nat} {best first : Int}
theorem best0 : BestAt p key now out 0 (-1) := .inl ⟨rfl, fun _ h => absurd h (Nat.not_lt_zero _)⟩
theorem first0 : FirstAt out 0 (-1) := .inl ⟨rfl, fun _ h => absurd h (Nat.not_lt_zero _)⟩
theorem BestAt.skip (h : BestAt p key now out i best) (hs : dnB out i = true ∨ now < aOf p i) : BestAt p key now out (i + 1) best := by
  rcases h with ⟨e, h⟩ | ⟨b, hb, e, h1, h2, h3⟩
  · refine .inl ⟨e, fun j hj hd => ?_⟩
    rcases Nat.lt_succ_iff_lt_or_eq.1 hj with h9 | rfl
    · exact h j h9 hd
    · rcases hs with hs | hs
      · rw [hs] at hd; cases hd
      · exact hs
  · refine .inr ⟨b, by omega, e, h1, h2, fun j hj hd ha => ?_⟩
    rcases Nat.lt_succ_iff_lt_or_eq.1 hj with h9 | rfl
    · exact h3 j h9 hd ha
    · rcases hs with hs | hs
      · rw [hs] at hd; cases hd
      · omega
theorem BestAt.keep (h : BestAt p key now out i best) (hb : 0 ≤ best) (hk : key best.toNat ≤ key i) : BestAt p key now out (i + 1) best := by
  rcases h with ⟨e, h⟩ | ⟨b, hb, e, h1, h2, h3⟩
  · omega
  · have e2 : best.toNat = b := by omega
    rw [e2] at hk
    refine .inr ⟨b, by omega, e, h1, h2, fun j hj hd ha => ?_⟩
    rcases Nat.lt_succ_iff_lt_or_eq.1 hj with h9 | rfl
    · exact h3 j h9 hd ha
    · exact ⟨hk, fun _ => by omega⟩
theorem BestAt.new_ (h : BestAt p key now out i best) (hd : dnB out i = false) (ha : aOf p i ≤ now) (hk : best < 0 ∨ (0 ≤ best ∧ key i < key best.toNat)) : BestAt p key now out (i + 1) i := by
  refine .inr ⟨i, by omega, rfl, hd, ha, fun j hj hdj haj => ?_⟩
  rcases Nat.lt_succ_iff_lt_or_eq.1 hj with h9 | rfl
  · rcases h with ⟨e, h⟩ | ⟨b, hb, e, h1, h2, h3⟩
    · have := h j h9 hdj; omega
    · have e2 : best.toNat = b := by omega
      rw [e2] at hk
      have := h3 j h9 hdj haj
      omega
  · exact ⟨Int.le_refl _, fun _ => Nat.le_refl _⟩
theorem FirstAt.skip (h : FirstAt out i first) (hs : dnB out i = true ∨ 0 ≤ first) : FirstAt out (i + 1) first := by
  rcases h with ⟨e, h⟩ | ⟨f, hf, e, h1, h2⟩
  · refine .inl ⟨e, fun j hj => ?_⟩
    rcases Nat.lt_succ_iff_lt_or_eq.1 hj with h9 | rfl
    · exact h j h9
    · rcases hs with hs | hs
      · exact hs
      · omega
  · exact .inr ⟨f, by omega, e, h1, h2⟩
theorem FirstAt.new_ (h : FirstAt out i first) (hd : dnB out i = false) (hf : first < 0) : FirstAt out (i + 1) i := by
  rcases h with ⟨e, h⟩ | ⟨f, hf, e, h1, h2⟩
  · exact .inr ⟨i, by omega, rfl, hd, h⟩
  · omega
theorem BestAt.lt (h : BestAt p key now out i best) : best = -1 ∨ (0 ≤ best ∧ best < i) := by
  rcases h with ⟨e, _⟩ | ⟨b, hb, e, _⟩
  · exact .inl e
  · exact .inr (by omega)
theorem FirstAt.lt (h : FirstAt out i first) : first = -1 ∨ (0 ≤ first ∧ first < i) := by
  rcases h with ⟨e, _⟩ | ⟨b, hb, e, _⟩
  · exact .inl e
  · exact .inr (by omega)
end
/-- Those that wait: come, and not sent. -/
theorem wait_iff {p : List Pk} {key : Nat → Int} (hs : p.Pairwise (fun x y => x.a ≤ y.a)) {t : St (List Nat)} (h : Inv (leastM key) p t) (hj : RankJ p key t) (j : Nat) (hl : j < p.length) :
    j ∈ (comeL (leastM key) t.now (p.drop t.next) t.next t.s).2 ↔ (dnB t.out j = false ∧ aOf p j ≤ t.now) := by
  obtain ⟨hc, _⟩ := comeL_inv (leastOk key _) t.now (p.drop t.next) t.next t.s rfl h.toC
  have hall := comeL_all (leastOk key _) hs h hj.came j hl
  generalize comeL (leastM key) t.now (p.drop t.next) t.next t.s = q at hc hall
  have hnd : ((t.out.map fun x => x.p.toNat) ++ q.2).Nodup := (hc.perm.nodup_iff).2 List.nodup_range
  have hm : ∀ j, (j ∈ (t.out.map fun x => x.p.toNat) ∨ j ∈ q.2) ↔ j < q.1 := fun j => (List.mem_append.symm).trans ((hc.perm.mem_iff).trans List.mem_range)
  rw [← hall, dnB_not]
  refine ⟨fun h1 => ⟨fun y hy e => ?_, (hm j).1 (.inr h1)⟩, fun ⟨h1, h2⟩ => ?_⟩
  · exact (List.nodup_append.1 hnd).2.2 _ (List.mem_map.2 ⟨y, hy, by omega⟩) _ h1 rfl
  · rcases (hm j).2 h2 with h3 | h3
    · obtain ⟨y, hy, e⟩ := List.mem_map.1 h3
      have := h.pos y hy
      exact absurd (show y.p = (j : Int) by omega) (h1 y hy)
    · exact h3
theorem ref_none {p : List Pk} {per : Int} {key : Nat → Int} (hs : p.Pairwise (fun x y => x.a ≤ y.a)) {t : St (List Nat)} (h : Inv (leastM key) p t) (hj : RankJ p key t) (hlt : t.out.length < p.length) {best first : Int}
    (hb : BestAt p key t.now t.out p.length best) (hf : FirstAt t.out p.length first) (hn : best < 0) :
    ∃ (f : Nat) (n : Nat) (s : List Nat), first = f ∧ f < p.length ∧ stepS (leastM key) p per t = ⟨t.out, aOf p f, n, s⟩ := by
  have hw := wait_iff hs h hj
  obtain ⟨hc, hlt2⟩ := comeL_inv (leastOk key _) t.now (p.drop t.next) t.next t.s rfl h.toC
  have hst : ∀ {k s}, comeL (leastM key) t.now (p.drop t.next) t.next t.s = (k, s) → (leastM key).pick s = none → stepS (leastM key) p per t = ⟨t.out, aOf p k, k, (leastM key).rest s⟩ := fun h1 h2 => step_none h1 h2
  generalize comeL (leastM key) t.now (p.drop t.next) t.next t.s = q at hc hlt2 hw hst
  have hq2 : q.2 = [] := by
    refine List.eq_nil_iff_forall_not_mem.2 fun j hjm => ?_
    have hjl : j < p.length := Nat.lt_of_lt_of_le (hc.wait_lt hjm) hc.k_le
    obtain ⟨h1, h2⟩ := (hw j hjl).1 hjm
    rcases hb with ⟨e, hb⟩ | ⟨b, hb, e, _⟩
    · have := hb j hjl h1; omega
    · omega
  have hpk : (leastM key).pick q.2 = none := by rw [hq2]; rfl
  have hid := hc.idle (leastOk key _) hpk
  have hm : ∀ j, j ∈ (t.out.map fun x => x.p.toNat) ↔ j < q.1 := fun j => by
    have := (hc.perm.mem_iff (a := j)).trans List.mem_range
    rw [show (leastM key).wait q.2 = [] from hq2, List.append_nil] at this
    exact this
  have hfq : first = (q.1 : Int) := by
    have hdq : dnB t.out q.1 = false := dnB_not.2 fun y hy e => by
      have := (hm q.1).1 (List.mem_map.2 ⟨y, hy, by omega⟩)
      omega
    have hdl : ∀ j, j < q.1 → dnB t.out j = true := fun j hjq => by
      obtain ⟨y, hy, e⟩ := List.mem_map.1 ((hm j).2 hjq)
      have := h.pos y hy
      exact dnB_iff.2 ⟨y, hy, by omega⟩
    rcases hf with ⟨e, hf⟩ | ⟨f, hfl, e, h1, h2⟩
    · have := hf q.1 (by omega)
      rw [hdq] at this; cases this
    · rcases Nat.lt_trichotomy f q.1 with h9 | h9 | h9
      · rw [hdl f h9] at h1; cases h1
      · omega
      · have := h2 q.1 h9
        rw [hdq] at this; cases this
  exact ⟨q.1, q.1, _, hfq, by omega, hst rfl hpk⟩
theorem ref_some {p : List Pk} {per : Int} {key : Nat → Int} (hs : p.Pairwise (fun x y => x.a ≤ y.a)) {t : St (List Nat)} (h : Inv (leastM key) p t) (hj : RankJ p key t) {best : Int}
    (hb : BestAt p key t.now t.out p.length best) (hn : 0 ≤ best) :
    ∃ (k n : Nat) (s : List Nat), best = k ∧ k < p.length ∧ dnB t.out k = false ∧ stepS (leastM key) p per t = ⟨t.out ++ [⟨k, t.now, t.now + per * sOf p k⟩], t.now + per * sOf p k, n, s⟩ := by
  have hw := wait_iff hs h hj
  obtain ⟨hc, hlt2⟩ := comeL_inv (leastOk key _) t.now (p.drop t.next) t.next t.s rfl h.toC
  have hst : ∀ {k j : Nat} {s s'}, comeL (leastM key) t.now (p.drop t.next) t.next t.s = (k, s) → (leastM key).pick s = some (j, s') → stepS (leastM key) p per t = ⟨t.out ++ [⟨j, t.now, t.now + per * sOf p j⟩], t.now + per * sOf p j, k, s'⟩ := fun h1 h2 => step_some h1 h2
  generalize comeL (leastM key) t.now (p.drop t.next) t.next t.s = q at hc hlt2 hw hst
  rcases hb with ⟨e, hb⟩ | ⟨b, hbl, e, h1, h2, h3⟩
  · omega
  · have hbm := (hw b hbl).2 ⟨h1, h2⟩
    have hne : q.2.length ≠ 0 := fun h9 => by rw [List.eq_nil_of_length_eq_zero h9] at hbm; cases hbm
    have hB := bestI_ok key q.2 (by omega)
    have hBl := hB.lt
    have eg : q.2.getD (bestI key q.2) 0 = q.2[bestI key q.2] := by simp [List.getD, hBl]
    have hk2 : q.2[bestI key q.2] ∈ q.2 := List.getElem_mem _
    have hkl : q.2[bestI key q.2] < p.length := Nat.lt_of_lt_of_le (hc.wait_lt hk2) hc.k_le
    obtain ⟨g1, g2⟩ := (hw _ hkl).1 hk2
    have h4 := h3 _ hkl g1 g2
    obtain ⟨a, ha, ea⟩ := List.getElem_of_mem hbm
    have e1 : q.2.getD a 0 = b := by simp [List.getD, ha, ea]
    have h5 := hB.le a ha
    rw [e1, eg] at h5
    have heq : key b = key q.2[bestI key q.2] := by omega
    have hbk : b = q.2[bestI key q.2] := by
      refine Nat.le_antisymm (h4.2 heq.symm) ?_
      rcases Nat.lt_or_ge a (bestI key q.2) with h6 | h6
      · have := hB.first a h6
        rw [e1, eg] at this
        omega
      · rcases Nat.eq_or_lt_of_le h6 with h7 | h7
        · subst ea
          simp only [h7]; exact Nat.le_refl _
        · have := List.pairwise_iff_getElem.1 hc.ok.2 _ _ hBl ha h7
          omega
    have hpk : (leastM key).pick q.2 = some (b, q.2.eraseIdx (bestI key q.2)) := by
      show (if q.2.length = 0 then none else _) = _
      rw [if_neg hne, eg, ← hbk]
    exact ⟨b, q.1, _, e, hbl, h1, hst rfl hpk⟩
end Go.Proofs.YthgpbdlmadjndaaDoor
