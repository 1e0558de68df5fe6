/- A link by least keys, plainly. No program. No condition. -/
import Derived.Test.YtkkecnofgmpekaaDoorSrvP
namespace Go.Proofs.YtkkecnofgmpekaaDoor
def bestGo (key : Nat → Int) : Nat → Int → Nat → List Nat → Nat
  | b, _, _, [] => b
  | b, kb, i, k :: r => if key k < kb then bestGo key i (key k) (i + 1) r else bestGo key b kb (i + 1) r
/-- The place of the least key, of these the first. -/
def bestI (key : Nat → Int) (s : List Nat) : Nat := bestGo key 0 (key (s.getD 0 0)) 0 s
structure BestOk (key : Nat → Int) (s : List Nat) (i b : Nat) (kb : Int) : Prop where
  lt : b < s.length
  key_ : kb = key (s.getD b 0)
  le : ∀ j, j < i → kb ≤ key (s.getD j 0)
  first : ∀ j, j < b → kb < key (s.getD j 0)
theorem bestGo_ok (key : Nat → Int) (s r : List Nat) (i b : Nat) (kb : Int) (hr : s.drop i = r) (h : BestOk key s i b kb) (hbi : b < i ∨ (i = 0 ∧ b = 0)) : BestOk key s s.length (bestGo key b kb i r) (key (s.getD (bestGo key b kb i r) 0)) := by
  induction r generalizing i b kb with
  | nil =>
    have hl : s.length ≤ i := by have := congrArg List.length hr; simp at this; omega
    show BestOk key s s.length b (key (s.getD b 0))
    rw [← h.key_]
    exact ⟨h.lt, h.key_, fun j hj => h.le j (by omega), h.first⟩
  | cons k r ih =>
    have hk : i < s.length := by
      have := congrArg List.length hr
      simp at this
      omega
    have hd := List.drop_eq_getElem_cons hk
    rw [hr] at hd
    injection hd with hx hr'
    have hg : s.getD i 0 = k := by simp [List.getD, hk, hx]
    unfold bestGo
    by_cases hc : key k < kb
    · rw [if_pos hc]
      refine ih (i + 1) i (key k) hr'.symm ⟨hk, by rw [hg], fun j hj => ?_, fun j hj => ?_⟩ (.inl (Nat.lt_succ_self i))
      · rcases Nat.lt_succ_iff_lt_or_eq.1 hj with h1 | h1
        · have := h.le j h1; omega
        · subst h1; rw [hg]; exact Int.le_refl _
      · have := h.le j hj; omega
    · rw [if_neg hc]
      refine ih (i + 1) b kb hr'.symm ⟨h.lt, h.key_, fun j hj => ?_, h.first⟩ (.inl (by omega))
      rcases Nat.lt_succ_iff_lt_or_eq.1 hj with h1 | h1
      · exact h.le j h1
      · subst h1; rw [hg]; omega
theorem bestI_ok (key : Nat → Int) (s : List Nat) (h : 0 < s.length) : BestOk key s s.length (bestI key s) (key (s.getD (bestI key s) 0)) :=
  bestGo_ok key s s 0 0 _ rfl ⟨h, rfl, fun j hj => absurd hj (Nat.not_lt_zero j), fun j hj => absurd hj (Nat.not_lt_zero j)⟩ (.inr ⟨rfl, rfl⟩)

theorem erase_perm {α : Type} (l : List α) (i : Nat) (h : i < l.length) : l.Perm (l[i] :: l.eraseIdx i) := by
  induction l generalizing i with
  | nil => simp at h
  | cons x r ih =>
    cases i with
    | zero => exact List.Perm.refl _
    | succ i =>
      have := ih i (by simpa using h)
      simp only [List.getElem_cons_succ, List.eraseIdx_cons_succ]
      exact (List.Perm.cons x this).trans (List.Perm.swap _ _ _)
def leastM (key : Nat → Int) : Pol (List Nat) where
  come s k := s ++ [k]
  pick s := if s.length = 0 then none else some (s.getD (bestI key s) 0, s.eraseIdx (bestI key s))
  rest s := s
  wait s := s
  ok m s := (∀ j ∈ s, j < m) ∧ s.Pairwise (· < ·)
theorem leastOk (key : Nat → Int) (n : Nat) : PolOk (leastM key) n where
  ok_come := fun s k ⟨h1, h2⟩ _ => ⟨fun j hj => by
    rcases List.mem_append.1 hj with h | h
    · have := h1 j h; omega
    · rw [List.mem_singleton.1 h]; omega, List.pairwise_append.2 ⟨h2, List.pairwise_singleton _ _, fun a ha b hb => by rw [List.mem_singleton.1 hb]; exact h1 a ha⟩⟩
  ok_pick := fun s m k s' ⟨h1, h2⟩ hp => by
    simp only [leastM] at hp
    split at hp
    · cases hp
    · simp only [Option.some.injEq, Prod.mk.injEq] at hp
      obtain ⟨_, rfl⟩ := hp
      exact ⟨fun j hj => h1 j (List.mem_of_mem_eraseIdx hj), h2.sublist (List.eraseIdx_sublist _ _)⟩
  ok_rest := fun s m h _ => h
  w_come := fun s k _ _ => List.perm_append_comm (l₂ := [k])
  w_none := fun s m _ hp => by
    simp only [leastM] at hp ⊢
    split at hp
    · rename_i h; exact List.eq_nil_of_length_eq_zero h
    · cases hp
  w_some := fun s m k s' _ hp => by
    simp only [leastM] at hp ⊢
    split at hp
    · cases hp
    · rename_i h
      simp only [Option.some.injEq, Prod.mk.injEq] at hp
      obtain ⟨rfl, rfl⟩ := hp
      have hb := (bestI_ok key s (by omega)).lt
      have e : s.getD (bestI key s) 0 = s[bestI key s] := by simp [List.getD, hb]
      rw [e]
      exact erase_perm s _ hb
  w_rest := fun s m _ h => h
end Go.Proofs.YtkkecnofgmpekaaDoor
