/- Round by round, plainly: the picker, what holds of its states, and that it is a picker. No program. No condition. -/
import Derived.Test.YtkkecnofgmpekaaDoorSrvP
namespace Go.Proofs.YtkkecnofgmpekaaDoor
/-- Turns of flows: queues, credits, the row, who is served. -/
structure RS where
  q : Nat → List Nat
  c : Nat → Int
  row : List Nat
  sv : Option Nat
def upd {α : Type} (f : Nat → α) (g : Nat) (x : α) : Nat → α := fun h => if h = g then x else f h
theorem upd_same {α : Type} (f : Nat → α) (g : Nat) (x : α) : upd f g x g = x := if_pos rfl
theorem upd_other {α : Type} (f : Nat → α) {g h : Nat} (x : α) (hne : h ≠ g) : upd f g x h = f h := if_neg hne
def flN (p : List Pk) (k : Nat) : Nat := (fOf p k).toNat
def qu (l : List Int) (g : Nat) : Int := l.getD g 0
def lst (s : RS) : List Nat := match s.sv with
  | some g => g :: s.row
  | none => s.row
def rCome (p : List Pk) (s : RS) (k : Nat) : RS :=
  { s with row := if flN p k ∈ lst s then s.row else s.row ++ [flN p k], q := upd s.q (flN p k) (s.q (flN p k) ++ [k]) }
/-- Whose turn it is; it begins. -/
def rTurn (qs : List Int) (s : RS) : Option (Nat × RS) := match s.sv with
  | some g => some (g, s)
  | none => match s.row with
    | [] => none
    | g :: r => some (g, { s with row := r, sv := some g, c := upd s.c g (s.c g + qu qs g) })
def rHead (s : RS) (g : Nat) : Nat := (s.q g).headD 0
/-- The head of a flow's queue is sent. -/
def rSend (p : List Pk) (s : RS) (g : Nat) : RS :=
  if (s.q g).tail = [] then { s with q := upd s.q g [], c := upd s.c g 0, sv := none } else { s with q := upd s.q g (s.q g).tail, c := upd s.c g (s.c g - sOf p (rHead s g)) }
/-- A turn ends. -/
def rEnd (s : RS) (g : Nat) : RS := { s with row := s.row ++ [g], sv := none }
def rPick (p : List Pk) (qs : List Int) : Nat → RS → Option (Nat × RS)
  | 0, _ => none
  | f + 1, s => match rTurn qs s with
    | none => none
    | some (g, s1) => if sOf p (rHead s1 g) ≤ s1.c g then some (rHead s1 g, rSend p s1 g) else rPick p qs f (rEnd s1 g)
def sum8 (f : Nat → Nat) : Nat := ((List.range 8).map f).sum
theorem sum8_upd (f : Nat → Nat) (g x : Nat) (hg : g < 8) : sum8 (upd f g x) + f g = sum8 f + x := by
  have h : g = 0 ∨ g = 1 ∨ g = 2 ∨ g = 3 ∨ g = 4 ∨ g = 5 ∨ g = 6 ∨ g = 7 := by omega
  have e : ∀ f : Nat → Nat, sum8 f = f 0 + (f 1 + (f 2 + (f 3 + (f 4 + (f 5 + (f 6 + (f 7 + 0))))))) := fun f => rfl
  rw [e, e]
  rcases h with rfl | rfl | rfl | rfl | rfl | rfl | rfl | rfl <;> simp [upd] <;> omega
def lack (s : RS) (g : Nat) : Nat := (1500 - s.c g).toNat
def rMu (s : RS) : Nat := 2 * sum8 (lack s) + (if s.sv = none then 0 else 1) + 1
def rWait (s : RS) : List Nat := (List.range 8).flatMap s.q
/-- What holds of the states. -/
structure RI (p : List Pk) (qs : List Int) (m : Nat) (s : RS) : Prop where
  le : m ≤ p.length
  fl : ∀ g, ∀ j ∈ s.q g, j < m ∧ flN p j = g
  nd : (lst s).Nodup
  mem : ∀ g, g ∈ lst s ↔ s.q g ≠ []
  pos : ∀ g, 0 ≤ s.c g
  out : ∀ g, s.sv ≠ some g → s.c g = 0 ∨ ∃ k r, s.q g = k :: r ∧ s.c g < sOf p k
  in_ : ∀ g, s.sv = some g → s.c g ≤ qu qs g ∨ ∃ j, j < p.length ∧ s.c g < sOf p j + qu qs g
  so : ∀ g, (s.q g).Pairwise (· < ·)
theorem flN_lt {p : List Pk} (hp : ∀ x ∈ p, okPk x) {k : Nat} (hk : k < p.length) : flN p k < 8 := by
  have := hp _ (List.getElem_mem hk)
  unfold flN
  rw [fOf_of hk]
  have h1 := this.1
  have h2 := this.2.1
  omega
section
variable {p : List Pk} {qs : List Int} {m : Nat} {s s1 : RS} {g : Nat}
theorem RI.g8 (hp : ∀ x ∈ p, okPk x) (h : RI p qs m s) (hg : s.q g ≠ []) : g < 8 := by
  obtain ⟨j, hj⟩ := List.exists_mem_of_ne_nil _ hg
  obtain ⟨h1, h2⟩ := h.fl g j hj
  rw [← h2]
  exact flN_lt hp (by have := h.le; omega)
theorem rHead_mem (h : s.q g ≠ []) : s.q g = rHead s g :: (s.q g).tail := by
  unfold rHead
  cases hq : s.q g with
  | nil => exact absurd hq h
  | cons k r => rfl
theorem RI.head (h : RI p qs m s) (hg : s.q g ≠ []) : rHead s g < m ∧ flN p (rHead s g) = g := by
  refine h.fl g _ ?_
  have e := rHead_mem hg
  rw [e]
  exact List.mem_cons_self
theorem rTurn_none (h : rTurn qs s = none) : lst s = [] := by
  unfold rTurn at h
  unfold lst
  split at h
  · cases h
  · split at h
    · assumption
    · cases h
/-- A turn that begins. -/
theorem RI.turn (h : RI p qs m s) (hq : ∀ g, 0 ≤ qu qs g) (ht : rTurn qs s = some (g, s1)) :
    RI p qs m s1 ∧ s1.sv = some g ∧ s1.q = s.q ∧ lst s1 = lst s ∧ s.q g ≠ [] ∧ ((s.sv = some g ∧ s1 = s) ∨ (s.sv = none ∧ s1.c = upd s.c g (s.c g + qu qs g))) := by
  unfold rTurn at ht
  split at ht
  · rename_i g' h1
    simp only [Option.some.injEq, Prod.mk.injEq] at ht
    obtain ⟨rfl, rfl⟩ := ht
    exact ⟨h, h1, rfl, rfl, (h.mem _).1 (by unfold lst; rw [h1]; exact List.mem_cons_self), .inl ⟨h1, rfl⟩⟩
  · rename_i h1
    split at ht
    · cases ht
    · rename_i g' r h2
      simp only [Option.some.injEq, Prod.mk.injEq] at ht
      obtain ⟨rfl, rfl⟩ := ht
      have hl : lst s = g' :: r := by unfold lst; rw [h1]; exact h2
      have hqg : s.q g' ≠ [] := (h.mem _).1 (by rw [hl]; exact List.mem_cons_self)
      refine ⟨⟨h.le, h.fl, ?_, ?_, ?_, ?_, ?_, h.so⟩, rfl, rfl, hl.symm, hqg, .inr ⟨h1, rfl⟩⟩
      · show (g' :: r).Nodup
        rw [← hl]; exact h.nd
      · intro x
        show x ∈ g' :: r ↔ _
        rw [← hl]; exact h.mem x
      · intro x
        show 0 ≤ upd s.c g' _ x
        by_cases hx : x = g'
        · rw [hx, upd_same]; have := h.pos g'; have := hq g'; omega
        · rw [upd_other _ _ hx]; exact h.pos x
      · intro x hx
        have hxg : x ≠ g' := fun e => hx (by rw [e])
        show upd s.c g' _ x = 0 ∨ ∃ k r, s.q x = k :: r ∧ upd s.c g' _ x < sOf p k
        rw [upd_other _ _ hxg]
        exact h.out x (by rw [h1]; simp)
      · intro x hx
        have hxg : g' = x := by injection hx
        subst hxg
        show upd s.c g' _ g' ≤ _ ∨ _
        rw [upd_same]
        rcases h.out g' (by rw [h1]; simp) with h9 | ⟨k, r', h9, h8⟩
        · rw [h9]; exact .inl (by omega)
        · refine .inr ⟨k, ?_, ?_⟩
          · have := (h.fl g' k (by rw [h9]; exact List.mem_cons_self)).1
            have := h.le
            omega
          · show upd s.c g' _ g' < _
            rw [upd_same]; omega
/-- A turn that ends. -/
theorem RI.end_ (h : RI p qs m s) (hs : s.sv = some g) (hc : ¬ sOf p (rHead s g) ≤ s.c g) : RI p qs m (rEnd s g) ∧ (lst (rEnd s g)).Perm (lst s) ∧ lst s = g :: s.row := by
  have hl : lst s = g :: s.row := by unfold lst; rw [hs]
  have hl2 : lst (rEnd s g) = s.row ++ [g] := rfl
  have hpm : (lst (rEnd s g)).Perm (lst s) := by rw [hl, hl2]; exact List.perm_append_comm (l₂ := [g])
  have hqg : s.q g ≠ [] := (h.mem _).1 (by rw [hl]; exact List.mem_cons_self)
  refine ⟨⟨h.le, h.fl, hpm.nodup_iff.2 h.nd, fun x => (hpm.mem_iff).trans (h.mem x), h.pos, fun x _ => ?_, (fun x hx => by cases hx), h.so⟩, hpm, hl⟩
  by_cases hx : x = g
  · subst hx
    exact .inr ⟨rHead s x, (s.q x).tail, rHead_mem hqg, by show s.c x < sOf p (rHead s x); omega⟩
  · exact h.out x (by rw [hs]; intro e; injection e with e; exact hx e.symm)
/-- The head is sent. -/
theorem RI.send (hp : ∀ x ∈ p, okPk x) (h : RI p qs m s) (hs : s.sv = some g) (hc : sOf p (rHead s g) ≤ s.c g) : RI p qs m (rSend p s g) := by
  have hl : lst s = g :: s.row := by unfold lst; rw [hs]
  have hqg : s.q g ≠ [] := (h.mem _).1 (by rw [hl]; exact List.mem_cons_self)
  have hh := rHead_mem hqg
  have hnd := h.nd
  rw [hl] at hnd
  obtain ⟨hn1, hn2⟩ := List.nodup_cons.1 hnd
  have hsz : 1 ≤ sOf p (rHead s g) := by
    have := (h.head hqg).1
    have hk : rHead s g < p.length := by have := h.le; omega
    rw [sOf_of hk]
    exact (hp _ (List.getElem_mem hk)).2.2.1
  unfold rSend
  by_cases ht : (s.q g).tail = []
  · rw [if_pos ht]
    refine ⟨h.le, ?_, hn2, ?_, ?_, ?_, (fun x hx => by cases hx), fun x => ?_⟩
    · intro x j hj
      by_cases hx : x = g
      · subst hx; simp only [upd_same] at hj; simp at hj
      · simp only [upd_other _ _ hx] at hj; exact h.fl x j hj
    · intro x
      show x ∈ s.row ↔ upd s.q g [] x ≠ []
      by_cases hx : x = g
      · subst hx; rw [upd_same]; simp [hn1]
      · rw [upd_other _ _ hx, ← h.mem x, hl]; simp [hx]
    · intro x
      show 0 ≤ upd s.c g 0 x
      by_cases hx : x = g
      · subst hx; rw [upd_same]; omega
      · rw [upd_other _ _ hx]; exact h.pos x
    · intro x _
      show upd s.c g 0 x = 0 ∨ ∃ k r, upd s.q g [] x = k :: r ∧ upd s.c g 0 x < sOf p k
      by_cases hx : x = g
      · subst hx; exact .inl (upd_same _ _ _)
      · rw [upd_other _ _ hx, upd_other _ _ hx]; exact h.out x (by rw [hs]; intro e; injection e with e; exact hx e.symm)
    · show (upd s.q g [] x).Pairwise (· < ·)
      by_cases hx : x = g
      · subst hx; rw [upd_same]; exact List.Pairwise.nil
      · rw [upd_other _ _ hx]; exact h.so x
  · rw [if_neg ht]
    have hl2 : lst { s with q := upd s.q g (s.q g).tail, c := upd s.c g (s.c g - sOf p (rHead s g)) } = lst s := rfl
    refine ⟨h.le, ?_, h.nd, ?_, ?_, ?_, ?_, fun x => ?_⟩
    · intro x j hj
      by_cases hx : x = g
      · subst hx; simp only [upd_same] at hj; exact h.fl x j (List.mem_of_mem_tail hj)
      · simp only [upd_other _ _ hx] at hj; exact h.fl x j hj
    · intro x
      rw [hl2]
      show _ ↔ upd s.q g (s.q g).tail x ≠ []
      by_cases hx : x = g
      · subst hx; rw [upd_same, h.mem x]; exact ⟨fun _ => ht, fun _ => hqg⟩
      · rw [upd_other _ _ hx]; exact h.mem x
    · intro x
      show 0 ≤ upd s.c g _ x
      by_cases hx : x = g
      · subst hx; rw [upd_same]; omega
      · rw [upd_other _ _ hx]; exact h.pos x
    · intro x hx
      have hxg : x ≠ g := fun e => hx (by rw [e]; exact hs)
      show upd s.c g _ x = 0 ∨ ∃ k r, upd s.q g _ x = k :: r ∧ upd s.c g _ x < sOf p k
      rw [upd_other _ _ hxg, upd_other _ _ hxg]
      exact h.out x hx
    · intro x hx
      have hx' : s.sv = some x := hx
      have hxg : g = x := by rw [hs] at hx'; injection hx'
      subst hxg
      show upd s.c g _ g ≤ _ ∨ ∃ j, j < p.length ∧ upd s.c g _ g < _
      rw [upd_same]
      rcases h.in_ g hs with h9 | ⟨j, h9, h8⟩
      · exact .inl (by omega)
      · exact .inr ⟨j, h9, by omega⟩
    · show (upd s.q g (s.q g).tail x).Pairwise (· < ·)
      by_cases hx : x = g
      · subst hx; rw [upd_same]; exact (h.so x).sublist (List.tail_sublist _)
      · rw [upd_other _ _ hx]; exact h.so x
theorem mu_turn (hq1 : 1 ≤ qu qs g) (hg : g < 8) (ht : rTurn qs s = some (g, s1)) (h1 : s1.sv = some g) (hc : s1.c g < 1500) (ho : (s.sv = some g ∧ s1 = s) ∨ (s.sv = none ∧ s1.c = upd s.c g (s.c g + qu qs g))) : rMu (rEnd s1 g) < rMu s := by
  have e0 : rMu (rEnd s1 g) = 2 * sum8 (lack s1) + 0 + 1 := rfl
  rcases ho with ⟨h2, rfl⟩ | ⟨h2, h3⟩
  · rw [e0]
    unfold rMu
    rw [h2]
    simp
  · rw [e0]
    unfold rMu
    rw [h2]
    have e : lack s1 = upd (lack s) g (1500 - (s.c g + qu qs g)).toNat := by
      funext x
      unfold lack
      rw [h3]
      by_cases hx : x = g
      · subst hx; rw [upd_same, upd_same]
      · rw [upd_other _ _ hx, upd_other _ _ hx]
    have h4 := sum8_upd (lack s) g (1500 - (s.c g + qu qs g)).toNat hg
    rw [← e] at h4
    have h5 : s1.c g = s.c g + qu qs g := by rw [h3, upd_same]
    have h6 : lack s g = (1500 - s.c g).toNat := rfl
    simp only [if_true]
    omega
end
theorem range8_flat (q : Nat → List Nat) : (List.range 8).flatMap q = q 0 ++ (q 1 ++ (q 2 ++ (q 3 ++ (q 4 ++ (q 5 ++ (q 6 ++ (q 7 ++ []))))))) := rfl
theorem flat_split (q : Nat → List Nat) (n g : Nat) (hg : g < n) : ((List.range n).flatMap q).Perm (q g ++ (List.range n).flatMap (upd q g [])) := by
  induction n with
  | zero => omega
  | succ n ih =>
    rw [List.range_succ, List.flatMap_append, List.flatMap_append]
    by_cases h : g = n
    · subst h
      have e : (List.range g).flatMap (upd q g []) = (List.range g).flatMap q := by
        unfold List.flatMap
        rw [List.map_congr_left]
        intro x hx
        exact upd_other _ _ (by have := List.mem_range.1 hx; omega)
      rw [e]
      simp only [List.flatMap_cons, List.flatMap_nil, List.append_nil, upd_same]
      exact List.perm_append_comm
    · have h1 := ih (by omega)
      simp only [List.flatMap_cons, List.flatMap_nil, List.append_nil]
      rw [upd_other _ _ (show n ≠ g from fun e => h e.symm), ← List.append_assoc]
      exact h1.append_right _
theorem upd_upd {α : Type} (f : Nat → α) (g : Nat) (x y : α) : upd (upd f g x) g y = upd f g y := by
  funext h
  unfold upd
  split <;> rfl
theorem lst_come (p : List Pk) (s : RS) (k : Nat) : lst (rCome p s k) = if flN p k ∈ lst s then lst s else lst s ++ [flN p k] := by
  obtain ⟨q, c, row, sv⟩ := s
  unfold rCome
  cases sv with
  | none =>
    show (if flN p k ∈ row then row else row ++ [flN p k]) = if flN p k ∈ row then row else row ++ [flN p k]
    rfl
  | some g =>
    show g :: (if flN p k ∈ g :: row then row else row ++ [flN p k]) = if flN p k ∈ g :: row then g :: row else g :: row ++ [flN p k]
    split <;> rfl
theorem RI.come {p : List Pk} {qs : List Int} {s : RS} {k : Nat} (h : RI p qs k s) (hk : k < p.length) : RI p qs (k + 1) (rCome p s k) := by
  have hq0 : s.q (flN p k) = [] ∨ s.q (flN p k) ≠ [] := by cases s.q (flN p k) <;> simp
  refine ⟨hk, ?_, ?_, ?_, h.pos, ?_, ?_, fun x => ?_⟩
  · intro x j hj
    show j < k + 1 ∧ _
    have hj' : j ∈ upd s.q (flN p k) (s.q (flN p k) ++ [k]) x := hj
    by_cases hx : x = flN p k
    · subst hx
      rw [upd_same] at hj'
      rcases List.mem_append.1 hj' with h1 | h1
      · have := h.fl _ j h1; exact ⟨by omega, this.2⟩
      · rw [List.mem_singleton.1 h1]; exact ⟨by omega, rfl⟩
    · rw [upd_other _ _ hx] at hj'
      have := h.fl x j hj'
      exact ⟨by omega, this.2⟩
  · rw [lst_come]
    by_cases hm : flN p k ∈ lst s
    · rw [if_pos hm]; exact h.nd
    · rw [if_neg hm]
      exact List.nodup_append.2 ⟨h.nd, (by simp), fun a ha b hb => by rw [List.mem_singleton.1 hb]; intro e; exact hm (e ▸ ha)⟩
  · intro x
    have hl : x ∈ lst (rCome p s k) ↔ x ∈ lst s ∨ x = flN p k := by
      rw [lst_come]
      by_cases hm : flN p k ∈ lst s
      · rw [if_pos hm]
        exact ⟨fun h1 => .inl h1, fun h1 => by rcases h1 with h1 | rfl; exact h1; exact hm⟩
      · rw [if_neg hm]
        simp
    rw [hl]
    show _ ↔ upd s.q (flN p k) (s.q (flN p k) ++ [k]) x ≠ []
    by_cases hx : x = flN p k
    · subst hx; rw [upd_same]; simp
    · rw [upd_other _ _ hx, h.mem x]; simp [hx]
  · intro x hx
    have hx' : s.sv ≠ some x := hx
    show s.c x = 0 ∨ ∃ k' r, upd s.q (flN p k) (s.q (flN p k) ++ [k]) x = k' :: r ∧ s.c x < sOf p k'
    rcases h.out x hx' with h1 | ⟨k', r, h1, h2⟩
    · exact .inl h1
    · by_cases hxk : x = flN p k
      · subst hxk; rw [upd_same, h1]; exact .inr ⟨k', r ++ [k], rfl, h2⟩
      · rw [upd_other _ _ hxk]; exact .inr ⟨k', r, h1, h2⟩
  · intro x hx
    exact h.in_ x hx
  · show (upd s.q (flN p k) (s.q (flN p k) ++ [k]) x).Pairwise (· < ·)
    by_cases hx : x = flN p k
    · subst hx
      rw [upd_same]
      exact List.pairwise_append.2 ⟨h.so _, by simp, fun a ha b hb => by rw [List.mem_singleton.1 hb]; exact (h.fl _ a ha).1⟩
    · rw [upd_other _ _ hx]; exact h.so x
theorem come_wait {p : List Pk} (s : RS) (k : Nat) (hg : flN p k < 8) : (rWait (rCome p s k)).Perm (k :: rWait s) := by
  have h1 := flat_split (upd s.q (flN p k) (s.q (flN p k) ++ [k])) 8 (flN p k) hg
  have h2 := flat_split s.q 8 (flN p k) hg
  rw [upd_upd, upd_same] at h1
  refine h1.trans ?_
  rw [List.append_assoc]
  exact (List.perm_middle (l₁ := s.q (flN p k)) (a := k) (l₂ := (List.range 8).flatMap (upd s.q (flN p k) []))).trans (List.Perm.cons k h2.symm)
theorem rSend_q (p : List Pk) (s : RS) (g : Nat) : (rSend p s g).q = upd s.q g (s.q g).tail := by
  unfold rSend
  split
  · rename_i h; rw [h]
  · rfl
theorem send_wait {p : List Pk} (s : RS) (g : Nat) (hg : g < 8) (hq : s.q g ≠ []) : (rWait s).Perm (rHead s g :: rWait (rSend p s g)) := by
  have h1 := flat_split s.q 8 g hg
  have h2 := flat_split (upd s.q g (s.q g).tail) 8 g hg
  rw [upd_upd, upd_same] at h2
  have e := rHead_mem hq
  unfold rWait
  rw [rSend_q]
  refine h1.trans ?_
  rw [e]
  exact List.Perm.cons _ h2.symm
section
variable {p : List Pk} {qs : List Int}
theorem rPick_some (hp : ∀ x ∈ p, okPk x) (hq : ∀ g, 0 ≤ qu qs g) (f : Nat) (s : RS) (m k : Nat) (s' : RS) (h : RI p qs m s) (hk : rPick p qs f s = some (k, s')) : RI p qs m s' ∧ (rWait s).Perm (k :: rWait s') := by
  induction f generalizing s with
  | zero => cases hk
  | succ f ih =>
    unfold rPick at hk
    split at hk
    · cases hk
    · rename_i g s1 ht
      obtain ⟨h1, h2, h3, h4, h5, _⟩ := h.turn hq ht
      have h5' : s1.q g ≠ [] := by rw [h3]; exact h5
      split at hk
      · rename_i hc
        simp only [Option.some.injEq, Prod.mk.injEq] at hk
        obtain ⟨rfl, rfl⟩ := hk
        refine ⟨h1.send hp h2 hc, ?_⟩
        have := send_wait (p := p) s1 g (h1.g8 hp h5') h5'
        unfold rWait at this ⊢
        rw [h3] at this
        exact this
      · rename_i hc
        have := ih _ (h1.end_ h2 hc).1 hk
        refine ⟨this.1, ?_⟩
        have hw : rWait (rEnd s1 g) = rWait s := by unfold rWait rEnd; rw [← h3]
        rw [← hw]
        exact this.2
theorem rPick_none (hp : ∀ x ∈ p, okPk x) (hq : ∀ g, 0 ≤ qu qs g) (hq1 : ∀ g, g < 8 → 1 ≤ qu qs g) (f : Nat) (s : RS) (m : Nat) (h : RI p qs m s) (hf : rMu s ≤ f) (hk : rPick p qs f s = none) : lst s = [] := by
  induction f generalizing s with
  | zero => unfold rMu at hf; omega
  | succ f ih =>
    unfold rPick at hk
    split at hk
    · rename_i ht; exact rTurn_none ht
    · rename_i g s1 ht
      obtain ⟨h1, h2, h3, h4, h5, h6⟩ := h.turn hq ht
      have h5' : s1.q g ≠ [] := by rw [h3]; exact h5
      split at hk
      · cases hk
      · rename_i hc
        have hg := h1.g8 hp h5'
        have hh := (h1.head h5').1
        have hk' : rHead s1 g < p.length := by have := h1.le; omega
        have hz := (hp _ (List.getElem_mem hk')).2.2.2.1
        rw [sOf_of hk'] at hc
        have hc2 : ¬ sOf p (rHead s1 g) ≤ s1.c g := by rw [sOf_of hk']; exact hc
        have hmu := mu_turn (hq1 g hg) hg ht h2 (by omega) h6
        have := ih _ (h1.end_ h2 hc2).1 (by omega) hk
        have hp2 := (h1.end_ h2 hc2).2.1
        rw [this] at hp2
        rw [← h4]
        exact (List.nil_perm.1 hp2)
theorem lst_wait {m : Nat} {s : RS} (h : RI p qs m s) (hl : lst s = []) : rWait s = [] := by
  have : ∀ g, s.q g = [] := fun g => by
    by_cases hg : s.q g = []
    · exact hg
    · exact absurd ((h.mem g).2 hg) (by rw [hl]; simp)
  unfold rWait
  rw [range8_flat]
  simp [this]
def roundM (p : List Pk) (qs : List Int) : Pol RS where
  come := rCome p
  pick s := rPick p qs (rMu s) s
  rest s := s
  wait := rWait
  ok := RI p qs
theorem roundOk (hp : ∀ x ∈ p, okPk x) (hq : ∀ g, 0 ≤ qu qs g) (hq1 : ∀ g, g < 8 → 1 ≤ qu qs g) : PolOk (roundM p qs) p.length where
  ok_come := fun s k h hk => h.come hk
  ok_pick := fun s m k s' h hk => (rPick_some hp hq _ s m k s' h hk).1
  ok_rest := fun s m h _ => h
  w_come := fun s k h hk => come_wait s k (flN_lt hp hk)
  w_none := fun s m h hk => lst_wait h (rPick_none hp hq hq1 _ s m h (Nat.le_refl _) hk)
  w_some := fun s m k s' h hk => (rPick_some hp hq _ s m k s' h hk).2
  w_rest := fun s m _ h => h
end
def rs0 : RS := ⟨fun _ => [], fun _ => 0, [], none⟩
theorem rs0_ok (p : List Pk) (qs : List Int) : RI p qs 0 rs0 :=
  ⟨Nat.zero_le _, by intro g j hj; simp [rs0] at hj, List.nodup_nil, fun g => by simp [rs0, lst], fun g => Int.le_refl _, fun g _ => .inl rfl, (fun g h => by cases h), fun g => List.Pairwise.nil⟩
theorem rs0_wait : rWait rs0 = [] := by unfold rWait; rw [range8_flat]; rfl
def roundL (p : List Pk) (per : Int) (qs : List Int) : List Sn := (serveS (roundM p qs) p per rs0).out
end Go.Proofs.YtkkecnofgmpekaaDoor
