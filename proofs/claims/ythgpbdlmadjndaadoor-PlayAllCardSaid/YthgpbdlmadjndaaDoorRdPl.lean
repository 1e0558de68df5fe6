/- The spread of two flows in what was sent, plainly: as package round takes it, stretch by stretch; a bound of it by a potential. No program. No condition. Round by round, plainly: the picker, what holds of its states, and that it is a picker. No program. No condition. SHREEDHAR and VARGHESE, plainly: while two flows wait, what they get by rounds is by their quanta, but for three quanta of both, and a packet of each. No program. No condition. -/
import Derived.Test.YthgpbdlmadjndaaDoorRkPl
import Derived.Test.YthgpbdlmadjndaaDoorPkM
namespace Go.Proofs.YthgpbdlmadjndaaDoor
def flS (p : List Pk) (x : Sn) : Nat := (fOf p x.p.toNat).toNat
/-- Does a flow wait at one that is sent, with those behind it? -/
def wtB (p : List Pk) (f : Nat) (s : Sn) (r : List Sn) : Bool := r.any fun y => decide (flS p y = f ∧ aOf p y.p.toNat ≤ s.f)
/-- What one that is sent counts. -/
def cnt (p : List Pk) (qa qb : Int) (a b : Nat) (s : Sn) : Int := (if flS p s = a then sOf p s.p.toNat * qb else 0) - (if flS p s = b then sOf p s.p.toNat * qa else 0)
def sprGo (p : List Pk) (qa qb : Int) (a b : Nat) : Int → Int → Int → Int → List Sn → Int
  | most, _, _, _, [] => most
  | most, sum, low, high, s :: r =>
    if wtB p a s r = true ∧ wtB p b s r = true then
      sprGo p qa qb a b (max (max most (sum + cnt p qa qb a b s - low)) (high - (sum + cnt p qa qb a b s))) (sum + cnt p qa qb a b s) (min low (sum + cnt p qa qb a b s)) (max high (sum + cnt p qa qb a b s)) r
    else sprGo p qa qb a b most 0 0 0 r
def sprL (p : List Pk) (qa qb : Int) (a b : Nat) (l : List Sn) : Int := sprGo p qa qb a b 0 0 0 0 l
/-- A potential: what is sent lowers it by what it counts, while both wait. -/
structure Tr (p : List Pk) (qa qb : Int) (a b : Nat) (lo hi : Int) (l : List Sn) (P Q : Nat → Int) : Prop where
  all : ∀ i (h : i < l.length), wtB p a l[i] (l.drop (i + 1)) = true → wtB p b l[i] (l.drop (i + 1)) = true →
    lo ≤ P i ∧ P i ≤ hi ∧ lo ≤ Q i ∧ Q i ≤ hi ∧ Q i = P i - cnt p qa qb a b l[i] ∧ (i + 1 < l.length → P (i + 1) = Q i)
theorem spr_le_go {p : List Pk} {qa qb : Int} {a b : Nat} {lo hi : Int} {l : List Sn} {P Q : Nat → Int} (h : Tr p qa qb a b lo hi l P Q) (h0 : lo ≤ hi) :
    ∀ (r : List Sn) (i : Nat) (most sum low high : Int), l.drop i = r → most ≤ hi - lo →
      ((sum = 0 ∧ low = 0 ∧ high = 0) ∨ ∃ P0 : Int, (i < l.length → P0 - sum = P i) ∧ lo ≤ P0 - low ∧ P0 - low ≤ hi ∧ lo ≤ P0 - high ∧ P0 - high ≤ hi) →
      sprGo p qa qb a b most sum low high r ≤ hi - lo := by
  intro r
  induction r with
  | nil => intro i most sum low high _ hm _; exact hm
  | cons s r ih =>
    intro i most sum low high hr hm hinv
    have hi1 : i < l.length := by
      have := congrArg List.length hr
      simp at this
      omega
    have hd := List.drop_eq_getElem_cons hi1
    rw [hr] at hd
    injection hd with hs hr'
    unfold sprGo
    by_cases hw : wtB p a s r = true ∧ wtB p b s r = true
    · rw [if_pos hw]
      have hw' := hw
      rw [hs, hr'] at hw'
      obtain ⟨t1, t2, t3, t4, t5, t6⟩ := h.all i hi1 hw'.1 hw'.2
      rw [← hs] at t5
      generalize cnt p qa qb a b s = x at t5 ⊢
      rcases hinv with ⟨rfl, rfl, rfl⟩ | ⟨P0, e1, e2, e3, e4, e5⟩
      · refine ih (i + 1) _ _ _ _ hr'.symm (by omega) (.inr ⟨P i, fun h9 => ?_, by omega, by omega, by omega, by omega⟩)
        rw [t6 h9]; omega
      · have e1' := e1 hi1
        refine ih (i + 1) _ _ _ _ hr'.symm (by omega) (.inr ⟨P0, fun h9 => ?_, by omega, by omega, by omega, by omega⟩)
        rw [t6 h9]; omega
    · rw [if_neg hw]
      exact ih (i + 1) most 0 0 0 hr'.symm hm (.inl ⟨rfl, rfl, rfl⟩)
theorem spr_le {p : List Pk} {qa qb : Int} {a b : Nat} {lo hi : Int} {l : List Sn} {P Q : Nat → Int} (h : Tr p qa qb a b lo hi l P Q) (h0 : lo ≤ hi) : sprL p qa qb a b l ≤ hi - lo :=
  spr_le_go h h0 l 0 0 0 0 0 rfl (by omega) (.inl ⟨rfl, rfl, rfl⟩)
/-- Those that had come, of a flow, and are not sent yet. -/
def WtP (p : List Pk) (f : Nat) (prev : List Sn) (x : Sn) : Prop := ∃ j, j < p.length ∧ (fOf p j).toNat = f ∧ aOf p j ≤ x.f ∧ (∀ y ∈ prev, y.p ≠ j) ∧ x.p ≠ j
theorem wt_of {p : List Pk} {f : Nat} {l : List Sn} (hpos : ∀ x ∈ l, 0 ≤ x.p) (hlt : ∀ x ∈ l, x.p.toNat < p.length) (hnd : (l.map fun x => x.p.toNat).Nodup) {i : Nat} (hi : i < l.length) (h : wtB p f l[i] (l.drop (i + 1)) = true) : WtP p f (l.take i) l[i] := by
  unfold wtB at h
  obtain ⟨y, hy, hd⟩ := List.any_eq_true.1 h
  obtain ⟨h1, h2⟩ := of_decide_eq_true hd
  have hyl : y ∈ l := List.mem_of_mem_drop hy
  have hsplit : l = l.take i ++ l[i] :: l.drop (i + 1) := by rw [← List.drop_eq_getElem_cons hi, List.take_append_drop]
  rw [hsplit, List.map_append, List.map_cons] at hnd
  obtain ⟨_, h3, h4⟩ := List.nodup_append.1 hnd
  obtain ⟨h5, _⟩ := List.nodup_cons.1 h3
  have hym : y.p.toNat ∈ (l.drop (i + 1)).map fun x => x.p.toNat := List.mem_map.2 ⟨y, hy, rfl⟩
  have hy0 := hpos y hyl
  refine ⟨y.p.toNat, hlt y hyl, h1, h2, fun z hz e => ?_, fun e => ?_⟩
  · have hz2 : z.p.toNat = y.p.toNat := by rw [e]; omega
    exact h4 _ (List.mem_map.2 ⟨z, hz, rfl⟩) _ (List.mem_cons_of_mem _ hym) hz2
  · have : l[i].p.toNat = y.p.toNat := by rw [e]; omega
    exact h5 (this ▸ hym)
end Go.Proofs.YthgpbdlmadjndaaDoor
namespace Go.Proofs.YthgpbdlmadjndaaDoor
/-- Turns of flows: queues, credits, the row, who is served. -/
structure RS where
  q : Nat → List Nat
  c : Nat → Int
  row : List Nat
  sv : Option Nat
def upd {α : Type} (f : Nat → α) (g : Nat) (x : α) : Nat → α := fun h => if h = g then x else f h
theorem upd_same {α : Type} (f : Nat → α) (g : Nat) (x : α) : upd f g x g = x := if_pos rfl
theorem upd_other {α : Type} (f : Nat → α) {g h : Nat} (x : α) (hne : h ≠ g) : upd f g x h = f h := if_neg hne
def flN (p : List Pk) (k : Nat) : Nat := (fOf p k).toNat
def qu (l : List Int) (g : Nat) : Int := l.getD g 0
def lst (s : RS) : List Nat := match s.sv with
  | some g => g :: s.row
  | none => s.row
def rCome (p : List Pk) (s : RS) (k : Nat) : RS :=
  { s with row := if flN p k ∈ lst s then s.row else s.row ++ [flN p k], q := upd s.q (flN p k) (s.q (flN p k) ++ [k]) }
/-- Whose turn it is; it begins. -/
def rTurn (qs : List Int) (s : RS) : Option (Nat × RS) := match s.sv with
  | some g => some (g, s)
  | none => match s.row with
    | [] => none
    | g :: r => some (g, { s with row := r, sv := some g, c := upd s.c g (s.c g + qu qs g) })
def rHead (s : RS) (g : Nat) : Nat := (s.q g).headD 0
/-- The head of a flow's queue is sent. -/
def rSend (p : List Pk) (s : RS) (g : Nat) : RS :=
  if (s.q g).tail = [] then { s with q := upd s.q g [], c := upd s.c g 0, sv := none } else { s with q := upd s.q g (s.q g).tail, c := upd s.c g (s.c g - sOf p (rHead s g)) }
/-- A turn ends. -/
def rEnd (s : RS) (g : Nat) : RS := { s with row := s.row ++ [g], sv := none }
def rPick (p : List Pk) (qs : List Int) : Nat → RS → Option (Nat × RS)
  | 0, _ => none
  | f + 1, s => match rTurn qs s with
    | none => none
    | some (g, s1) => if sOf p (rHead s1 g) ≤ s1.c g then some (rHead s1 g, rSend p s1 g) else rPick p qs f (rEnd s1 g)
def sum8 (f : Nat → Nat) : Nat := ((List.range 8).map f).sum
theorem sum8_upd (f : Nat → Nat) (g x : Nat) (hg : g < 8) : sum8 (upd f g x) + f g = sum8 f + x := by
  have h : g = 0 ∨ g = 1 ∨ g = 2 ∨ g = 3 ∨ g = 4 ∨ g = 5 ∨ g = 6 ∨ g = 7 := by omega
  have e : ∀ f : Nat → Nat, sum8 f = f 0 + (f 1 + (f 2 + (f 3 + (f 4 + (f 5 + (f 6 + (f 7 + 0))))))) := fun f => rfl
  rw [e, e]
  rcases h with rfl | rfl | rfl | rfl | rfl | rfl | rfl | rfl <;> simp [upd] <;> omega
def lack (s : RS) (g : Nat) : Nat := (1500 - s.c g).toNat
def rMu (s : RS) : Nat := 2 * sum8 (lack s) + (if s.sv = none then 0 else 1) + 1
def rWait (s : RS) : List Nat := (List.range 8).flatMap s.q
/-- What holds of the states. -/
structure RI (p : List Pk) (qs : List Int) (m : Nat) (s : RS) : Prop where
  le : m ≤ p.length
  fl : ∀ g, ∀ j ∈ s.q g, j < m ∧ flN p j = g
  nd : (lst s).Nodup
  mem : ∀ g, g ∈ lst s ↔ s.q g ≠ []
  pos : ∀ g, 0 ≤ s.c g
  out : ∀ g, s.sv ≠ some g → s.c g = 0 ∨ ∃ k r, s.q g = k :: r ∧ s.c g < sOf p k
  in_ : ∀ g, s.sv = some g → s.c g ≤ qu qs g ∨ ∃ j, j < p.length ∧ s.c g < sOf p j + qu qs g
  so : ∀ g, (s.q g).Pairwise (· < ·)
theorem flN_lt {p : List Pk} (hp : ∀ x ∈ p, okPk x) {k : Nat} (hk : k < p.length) : flN p k < 8 := by
  have := hp _ (List.getElem_mem hk)
  unfold flN
  rw [fOf_of hk]
  have h1 := this.1
  have h2 := this.2.1
  omega
section
variable {p : List Pk} {qs : List Int} {m : Nat} {s s1 : RS} {g : Nat}
theorem RI.g8 (hp : ∀ x ∈ p, okPk x) (h : RI p qs m s) (hg : s.q g ≠ []) : g < 8 := by
  obtain ⟨j, hj⟩ := List.exists_mem_of_ne_nil _ hg
  obtain ⟨h1, h2⟩ := h.fl g j hj
  rw [← h2]
  exact flN_lt hp (by have := h.le; omega)
theorem rHead_mem (h : s.q g ≠ []) : s.q g = rHead s g :: (s.q g).tail := by
  unfold rHead
  cases hq : s.q g with
  | nil => exact absurd hq h
  | cons k r => rfl
theorem RI.head (h : RI p qs m s) (hg : s.q g ≠ []) : rHead s g < m ∧ flN p (rHead s g) = g := by
  refine h.fl g _ ?_
  have e := rHead_mem hg
  rw [e]
  exact List.mem_cons_self
theorem rTurn_none (h : rTurn qs s = none) : lst s = [] := by
  unfold rTurn at h
  unfold lst
  split at h
  · cases h
  · split at h
    · assumption
    · cases h
/-- A turn that begins. -/
theorem RI.turn (h : RI p qs m s) (hq : ∀ g, 0 ≤ qu qs g) (ht : rTurn qs s = some (g, s1)) :
    RI p qs m s1 ∧ s1.sv = some g ∧ s1.q = s.q ∧ lst s1 = lst s ∧ s.q g ≠ [] ∧ ((s.sv = some g ∧ s1 = s) ∨ (s.sv = none ∧ s1.c = upd s.c g (s.c g + qu qs g))) := by
  unfold rTurn at ht
  split at ht
  · rename_i g' h1
    simp only [Option.some.injEq, Prod.mk.injEq] at ht
    obtain ⟨rfl, rfl⟩ := ht
    exact ⟨h, h1, rfl, rfl, (h.mem _).1 (by unfold lst; rw [h1]; exact List.mem_cons_self), .inl ⟨h1, rfl⟩⟩
  · rename_i h1
    split at ht
    · cases ht
    · rename_i g' r h2
      simp only [Option.some.injEq, Prod.mk.injEq] at ht
      obtain ⟨rfl, rfl⟩ := ht
      have hl : lst s = g' :: r := by unfold lst; rw [h1]; exact h2
      have hqg : s.q g' ≠ [] := (h.mem _).1 (by rw [hl]; exact List.mem_cons_self)
      refine ⟨⟨h.le, h.fl, ?_, ?_, ?_, ?_, ?_, h.so⟩, rfl, rfl, hl.symm, hqg, .inr ⟨h1, rfl⟩⟩
      · show (g' :: r).Nodup
        rw [← hl]; exact h.nd
      · intro x
        show x ∈ g' :: r ↔ _
        rw [← hl]; exact h.mem x
      · intro x
        show 0 ≤ upd s.c g' _ x
        by_cases hx : x = g'
        · rw [hx, upd_same]; have := h.pos g'; have := hq g'; omega
        · rw [upd_other _ _ hx]; exact h.pos x
      · intro x hx
        have hxg : x ≠ g' := fun e => hx (by rw [e])
        show upd s.c g' _ x = 0 ∨ ∃ k r, s.q x = k :: r ∧ upd s.c g' _ x < sOf p k
        rw [upd_other _ _ hxg]
        exact h.out x (by rw [h1]; simp)
      · intro x hx
        have hxg : g' = x := by injection hx
        subst hxg
        show upd s.c g' _ g' ≤ _ ∨ _
        rw [upd_same]
        rcases h.out g' (by rw [h1]; simp) with h9 | ⟨k, r', h9, h8⟩
        · rw [h9]; exact .inl (by omega)
        · refine .inr ⟨k, ?_, ?_⟩
          · have := (h.fl g' k (by rw [h9]; exact List.mem_cons_self)).1
            have := h.le
            omega
          · show upd s.c g' _ g' < _
            rw [upd_same]; omega
/-- A turn that ends. -/
theorem RI.end_ (h : RI p qs m s) (hs : s.sv = some g) (hc : ¬ sOf p (rHead s g) ≤ s.c g) : RI p qs m (rEnd s g) ∧ (lst (rEnd s g)).Perm (lst s) ∧ lst s = g :: s.row := by
  have hl : lst s = g :: s.row := by unfold lst; rw [hs]
  have hl2 : lst (rEnd s g) = s.row ++ [g] := rfl
  have hpm : (lst (rEnd s g)).Perm (lst s) := by rw [hl, hl2]; exact List.perm_append_comm (l₂ := [g])
  have hqg : s.q g ≠ [] := (h.mem _).1 (by rw [hl]; exact List.mem_cons_self)
  refine ⟨⟨h.le, h.fl, hpm.nodup_iff.2 h.nd, fun x => (hpm.mem_iff).trans (h.mem x), h.pos, fun x _ => ?_, (fun x hx => by cases hx), h.so⟩, hpm, hl⟩
  by_cases hx : x = g
  · subst hx
    exact .inr ⟨rHead s x, (s.q x).tail, rHead_mem hqg, by show s.c x < sOf p (rHead s x); omega⟩
  · exact h.out x (by rw [hs]; intro e; injection e with e; exact hx e.symm)
/-- The head is sent. -/
theorem RI.send (hp : ∀ x ∈ p, okPk x) (h : RI p qs m s) (hs : s.sv = some g) (hc : sOf p (rHead s g) ≤ s.c g) : RI p qs m (rSend p s g) := by
  have hl : lst s = g :: s.row := by unfold lst; rw [hs]
  have hqg : s.q g ≠ [] := (h.mem _).1 (by rw [hl]; exact List.mem_cons_self)
  have hh := rHead_mem hqg
  have hnd := h.nd
  rw [hl] at hnd
  obtain ⟨hn1, hn2⟩ := List.nodup_cons.1 hnd
  have hsz : 1 ≤ sOf p (rHead s g) := by
    have := (h.head hqg).1
    have hk : rHead s g < p.length := by have := h.le; omega
    rw [sOf_of hk]
    exact (hp _ (List.getElem_mem hk)).2.2.1
  unfold rSend
  by_cases ht : (s.q g).tail = []
  · rw [if_pos ht]
    refine ⟨h.le, ?_, hn2, ?_, ?_, ?_, (fun x hx => by cases hx), fun x => ?_⟩
    · intro x j hj
      by_cases hx : x = g
      · subst hx; simp only [upd_same] at hj; simp at hj
      · simp only [upd_other _ _ hx] at hj; exact h.fl x j hj
    · intro x
      show x ∈ s.row ↔ upd s.q g [] x ≠ []
      by_cases hx : x = g
      · subst hx; rw [upd_same]; simp [hn1]
      · rw [upd_other _ _ hx, ← h.mem x, hl]; simp [hx]
    · intro x
      show 0 ≤ upd s.c g 0 x
      by_cases hx : x = g
      · subst hx; rw [upd_same]; omega
      · rw [upd_other _ _ hx]; exact h.pos x
    · intro x _
      show upd s.c g 0 x = 0 ∨ ∃ k r, upd s.q g [] x = k :: r ∧ upd s.c g 0 x < sOf p k
      by_cases hx : x = g
      · subst hx; exact .inl (upd_same _ _ _)
      · rw [upd_other _ _ hx, upd_other _ _ hx]; exact h.out x (by rw [hs]; intro e; injection e with e; exact hx e.symm)
    · show (upd s.q g [] x).Pairwise (· < ·)
      by_cases hx : x = g
      · subst hx; rw [upd_same]; exact List.Pairwise.nil
      · rw [upd_other _ _ hx]; exact h.so x
  · rw [if_neg ht]
    have hl2 : lst { s with q := upd s.q g (s.q g).tail, c := upd s.c g (s.c g - sOf p (rHead s g)) } = lst s := rfl
    refine ⟨h.le, ?_, h.nd, ?_, ?_, ?_, ?_, fun x => ?_⟩
    · intro x j hj
      by_cases hx : x = g
      · subst hx; simp only [upd_same] at hj; exact h.fl x j (List.mem_of_mem_tail hj)
      · simp only [upd_other _ _ hx] at hj; exact h.fl x j hj
    · intro x
      rw [hl2]
      show _ ↔ upd s.q g (s.q g).tail x ≠ []
      by_cases hx : x = g
      · subst hx; rw [upd_same, h.mem x]; exact ⟨fun _ => ht, fun _ => hqg⟩
      · rw [upd_other _ _ hx]; exact h.mem x
    · intro x
      show 0 ≤ upd s.c g _ x
      by_cases hx : x = g
      · subst hx; rw [upd_same]; omega
      · rw [upd_other _ _ hx]; exact h.pos x
    · intro x hx
      have hxg : x ≠ g := fun e => hx (by rw [e]; exact hs)
      show upd s.c g _ x = 0 ∨ ∃ k r, upd s.q g _ x = k :: r ∧ upd s.c g _ x < sOf p k
      rw [upd_other _ _ hxg, upd_other _ _ hxg]
      exact h.out x hx
    · intro x hx
      have hx' : s.sv = some x := hx
      have hxg : g = x := by rw [hs] at hx'; injection hx'
      subst hxg
      show upd s.c g _ g ≤ _ ∨ ∃ j, j < p.length ∧ upd s.c g _ g < _
      rw [upd_same]
      rcases h.in_ g hs with h9 | ⟨j, h9, h8⟩
      · exact .inl (by omega)
      · exact .inr ⟨j, h9, by omega⟩
    · show (upd s.q g (s.q g).tail x).Pairwise (· < ·)
      by_cases hx : x = g
      · subst hx; rw [upd_same]; exact (h.so x).sublist (List.tail_sublist _)
      · rw [upd_other _ _ hx]; exact h.so x
theorem mu_turn (hq1 : 1 ≤ qu qs g) (hg : g < 8) (ht : rTurn qs s = some (g, s1)) (h1 : s1.sv = some g) (hc : s1.c g < 1500) (ho : (s.sv = some g ∧ s1 = s) ∨ (s.sv = none ∧ s1.c = upd s.c g (s.c g + qu qs g))) : rMu (rEnd s1 g) < rMu s := by
  have e0 : rMu (rEnd s1 g) = 2 * sum8 (lack s1) + 0 + 1 := rfl
  rcases ho with ⟨h2, rfl⟩ | ⟨h2, h3⟩
  · rw [e0]
    unfold rMu
    rw [h2]
    simp
  · rw [e0]
    unfold rMu
    rw [h2]
    have e : lack s1 = upd (lack s) g (1500 - (s.c g + qu qs g)).toNat := by
      funext x
      unfold lack
      rw [h3]
      by_cases hx : x = g
      · subst hx; rw [upd_same, upd_same]
      · rw [upd_other _ _ hx, upd_other _ _ hx]
    have h4 := sum8_upd (lack s) g (1500 - (s.c g + qu qs g)).toNat hg
    rw [← e] at h4
    have h5 : s1.c g = s.c g + qu qs g := by rw [h3, upd_same]
    have h6 : lack s g = (1500 - s.c g).toNat := rfl
    simp only [if_true]
    omega
end
theorem range8_flat (q : Nat → List Nat) : (List.range 8).flatMap q = q 0 ++ (q 1 ++ (q 2 ++ (q 3 ++ (q 4 ++ (q 5 ++ (q 6 ++ (q 7 ++ []))))))) := rfl
theorem flat_split (q : Nat → List Nat) (n g : Nat) (hg : g < n) : ((List.range n).flatMap q).Perm (q g ++ (List.range n).flatMap (upd q g [])) := by
  induction n with
  | zero => omega
  | succ n ih =>
    rw [List.range_succ, List.flatMap_append, List.flatMap_append]
    by_cases h : g = n
    · subst h
      have e : (List.range g).flatMap (upd q g []) = (List.range g).flatMap q := by
        unfold List.flatMap
        rw [List.map_congr_left]
        intro x hx
        exact upd_other _ _ (by have := List.mem_range.1 hx; omega)
      rw [e]
      simp only [List.flatMap_cons, List.flatMap_nil, List.append_nil, upd_same]
      exact List.perm_append_comm
    · have h1 := ih (by omega)
      simp only [List.flatMap_cons, List.flatMap_nil, List.append_nil]
      rw [upd_other _ _ (show n ≠ g from fun e => h e.symm), ← List.append_assoc]
      exact h1.append_right _
theorem upd_upd {α : Type} (f : Nat → α) (g : Nat) (x y : α) : upd (upd f g x) g y = upd f g y := by
  funext h
  unfold upd
  split <;> rfl
theorem lst_come (p : List Pk) (s : RS) (k : Nat) : lst (rCome p s k) = if flN p k ∈ lst s then lst s else lst s ++ [flN p k] := by
  obtain ⟨q, c, row, sv⟩ := s
  unfold rCome
  cases sv with
  | none =>
    show (if flN p k ∈ row then row else row ++ [flN p k]) = if flN p k ∈ row then row else row ++ [flN p k]
    rfl
  | some g =>
    show g :: (if flN p k ∈ g :: row then row else row ++ [flN p k]) = if flN p k ∈ g :: row then g :: row else g :: row ++ [flN p k]
    split <;> rfl
theorem RI.come {p : List Pk} {qs : List Int} {s : RS} {k : Nat} (h : RI p qs k s) (hk : k < p.length) : RI p qs (k + 1) (rCome p s k) := by
  have hq0 : s.q (flN p k) = [] ∨ s.q (flN p k) ≠ [] := by cases s.q (flN p k) <;> simp
  refine ⟨hk, ?_, ?_, ?_, h.pos, ?_, ?_, fun x => ?_⟩
  · intro x j hj
    show j < k + 1 ∧ _
    have hj' : j ∈ upd s.q (flN p k) (s.q (flN p k) ++ [k]) x := hj
    by_cases hx : x = flN p k
    · subst hx
      rw [upd_same] at hj'
      rcases List.mem_append.1 hj' with h1 | h1
      · have := h.fl _ j h1; exact ⟨by omega, this.2⟩
      · rw [List.mem_singleton.1 h1]; exact ⟨by omega, rfl⟩
    · rw [upd_other _ _ hx] at hj'
      have := h.fl x j hj'
      exact ⟨by omega, this.2⟩
  · rw [lst_come]
    by_cases hm : flN p k ∈ lst s
    · rw [if_pos hm]; exact h.nd
    · rw [if_neg hm]
      exact List.nodup_append.2 ⟨h.nd, (by simp), fun a ha b hb => by rw [List.mem_singleton.1 hb]; intro e; exact hm (e ▸ ha)⟩
  · intro x
    have hl : x ∈ lst (rCome p s k) ↔ x ∈ lst s ∨ x = flN p k := by
      rw [lst_come]
      by_cases hm : flN p k ∈ lst s
      · rw [if_pos hm]
        exact ⟨fun h1 => .inl h1, fun h1 => by rcases h1 with h1 | rfl; exact h1; exact hm⟩
      · rw [if_neg hm]
        simp
    rw [hl]
    show _ ↔ upd s.q (flN p k) (s.q (flN p k) ++ [k]) x ≠ []
    by_cases hx : x = flN p k
    · subst hx; rw [upd_same]; simp
    · rw [upd_other _ _ hx, h.mem x]; simp [hx]
  · intro x hx
    have hx' : s.sv ≠ some x := hx
    show s.c x = 0 ∨ ∃ k' r, upd s.q (flN p k) (s.q (flN p k) ++ [k]) x = k' :: r ∧ s.c x < sOf p k'
    rcases h.out x hx' with h1 | ⟨k', r, h1, h2⟩
    · exact .inl h1
    · by_cases hxk : x = flN p k
      · subst hxk; rw [upd_same, h1]; exact .inr ⟨k', r ++ [k], rfl, h2⟩
      · rw [upd_other _ _ hxk]; exact .inr ⟨k', r, h1, h2⟩
  · intro x hx
    exact h.in_ x hx
  · show (upd s.q (flN p k) (s.q (flN p k) ++ [k]) x).Pairwise (· < ·)
    by_cases hx : x = flN p k
    · subst hx
      rw [upd_same]
      exact List.pairwise_append.2 ⟨h.so _, by simp, fun a ha b hb => by rw [List.mem_singleton.1 hb]; exact (h.fl _ a ha).1⟩
    · rw [upd_other _ _ hx]; exact h.so x
theorem come_wait {p : List Pk} (s : RS) (k : Nat) (hg : flN p k < 8) : (rWait (rCome p s k)).Perm (k :: rWait s) := by
  have h1 := flat_split (upd s.q (flN p k) (s.q (flN p k) ++ [k])) 8 (flN p k) hg
  have h2 := flat_split s.q 8 (flN p k) hg
  rw [upd_upd, upd_same] at h1
  refine h1.trans ?_
  rw [List.append_assoc]
  exact (List.perm_middle (l₁ := s.q (flN p k)) (a := k) (l₂ := (List.range 8).flatMap (upd s.q (flN p k) []))).trans (List.Perm.cons k h2.symm)
theorem rSend_q (p : List Pk) (s : RS) (g : Nat) : (rSend p s g).q = upd s.q g (s.q g).tail := by
  unfold rSend
  split
  · rename_i h; rw [h]
  · rfl
theorem send_wait {p : List Pk} (s : RS) (g : Nat) (hg : g < 8) (hq : s.q g ≠ []) : (rWait s).Perm (rHead s g :: rWait (rSend p s g)) := by
  have h1 := flat_split s.q 8 g hg
  have h2 := flat_split (upd s.q g (s.q g).tail) 8 g hg
  rw [upd_upd, upd_same] at h2
  have e := rHead_mem hq
  unfold rWait
  rw [rSend_q]
  refine h1.trans ?_
  rw [e]
  exact List.Perm.cons _ h2.symm
section
variable {p : List Pk} {qs : List Int}
theorem rPick_some (hp : ∀ x ∈ p, okPk x) (hq : ∀ g, 0 ≤ qu qs g) (f : Nat) (s : RS) (m k : Nat) (s' : RS) (h : RI p qs m s) (hk : rPick p qs f s = some (k, s')) : RI p qs m s' ∧ (rWait s).Perm (k :: rWait s') := by
  induction f generalizing s with
  | zero => cases hk
  | succ f ih =>
    unfold rPick at hk
    split at hk
    · cases hk
    · rename_i g s1 ht
      obtain ⟨h1, h2, h3, h4, h5, _⟩ := h.turn hq ht
      have h5' : s1.q g ≠ [] := by rw [h3]; exact h5
      split at hk
      · rename_i hc
        simp only [Option.some.injEq, Prod.mk.injEq] at hk
        obtain ⟨rfl, rfl⟩ := hk
        refine ⟨h1.send hp h2 hc, ?_⟩
        have := send_wait (p := p) s1 g (h1.g8 hp h5') h5'
        unfold rWait at this ⊢
        rw [h3] at this
        exact this
      · rename_i hc
        have := ih _ (h1.end_ h2 hc).1 hk
        refine ⟨this.1, ?_⟩
        have hw : rWait (rEnd s1 g) = rWait s := by unfold rWait rEnd; rw [← h3]
        rw [← hw]
        exact this.2
theorem rPick_none (hp : ∀ x ∈ p, okPk x) (hq : ∀ g, 0 ≤ qu qs g) (hq1 : ∀ g, g < 8 → 1 ≤ qu qs g) (f : Nat) (s : RS) (m : Nat) (h : RI p qs m s) (hf : rMu s ≤ f) (hk : rPick p qs f s = none) : lst s = [] := by
  induction f generalizing s with
  | zero => unfold rMu at hf; omega
  | succ f ih =>
    unfold rPick at hk
    split at hk
    · rename_i ht; exact rTurn_none ht
    · rename_i g s1 ht
      obtain ⟨h1, h2, h3, h4, h5, h6⟩ := h.turn hq ht
      have h5' : s1.q g ≠ [] := by rw [h3]; exact h5
      split at hk
      · cases hk
      · rename_i hc
        have hg := h1.g8 hp h5'
        have hh := (h1.head h5').1
        have hk' : rHead s1 g < p.length := by have := h1.le; omega
        have hz := (hp _ (List.getElem_mem hk')).2.2.2.1
        rw [sOf_of hk'] at hc
        have hc2 : ¬ sOf p (rHead s1 g) ≤ s1.c g := by rw [sOf_of hk']; exact hc
        have hmu := mu_turn (hq1 g hg) hg ht h2 (by omega) h6
        have := ih _ (h1.end_ h2 hc2).1 (by omega) hk
        have hp2 := (h1.end_ h2 hc2).2.1
        rw [this] at hp2
        rw [← h4]
        exact (List.nil_perm.1 hp2)
theorem lst_wait {m : Nat} {s : RS} (h : RI p qs m s) (hl : lst s = []) : rWait s = [] := by
  have : ∀ g, s.q g = [] := fun g => by
    by_cases hg : s.q g = []
    · exact hg
    · exact absurd ((h.mem g).2 hg) (by rw [hl]; simp)
  unfold rWait
  rw [range8_flat]
  simp [this]
def roundM (p : List Pk) (qs : List Int) : Pol RS where
  come := rCome p
  pick s := rPick p qs (rMu s) s
  rest s := s
  wait := rWait
  ok := RI p qs
theorem roundOk (hp : ∀ x ∈ p, okPk x) (hq : ∀ g, 0 ≤ qu qs g) (hq1 : ∀ g, g < 8 → 1 ≤ qu qs g) : PolOk (roundM p qs) p.length where
  ok_come := fun s k h hk => h.come hk
  ok_pick := fun s m k s' h hk => (rPick_some hp hq _ s m k s' h hk).1
  ok_rest := fun s m h _ => h
  w_come := fun s k h hk => come_wait s k (flN_lt hp hk)
  w_none := fun s m h hk => lst_wait h (rPick_none hp hq hq1 _ s m h (Nat.le_refl _) hk)
  w_some := fun s m k s' h hk => (rPick_some hp hq _ s m k s' h hk).2
  w_rest := fun s m _ h => h
end
def rs0 : RS := ⟨fun _ => [], fun _ => 0, [], none⟩
theorem rs0_ok (p : List Pk) (qs : List Int) : RI p qs 0 rs0 :=
  ⟨Nat.zero_le _, by intro g j hj; simp [rs0] at hj, List.nodup_nil, fun g => by simp [rs0, lst], fun g => Int.le_refl _, fun g _ => .inl rfl, (fun g h => by cases h), fun g => List.Pairwise.nil⟩
theorem rs0_wait : rWait rs0 = [] := by unfold rWait; rw [range8_flat]; rfl
def roundL (p : List Pk) (per : Int) (qs : List Int) : List Sn := (serveS (roundM p qs) p per rs0).out
end Go.Proofs.YthgpbdlmadjndaaDoor
namespace Go.Proofs.YthgpbdlmadjndaaDoor
def ahd (a b : Nat) : List Nat → Int
  | [] => 0
  | x :: r => if x = a then 1 else if x = b then 0 else ahd a b r
theorem ahd_app {a b : Nat} {l : List Nat} (r : List Nat) (h : a ∈ l ∨ b ∈ l) : ahd a b (l ++ r) = ahd a b l := by
  induction l with
  | nil => simp at h
  | cons x l ih =>
    rw [List.cons_append]
    unfold ahd
    by_cases h1 : x = a
    · rw [if_pos h1, if_pos h1]
    · rw [if_neg h1, if_neg h1]
      by_cases h2 : x = b
      · rw [if_pos h2, if_pos h2]
      · rw [if_neg h2, if_neg h2]
        refine ih ?_
        rcases h with h | h
        · rcases List.mem_cons.1 h with h | h
          · exact absurd h.symm h1
          · exact .inl h
        · rcases List.mem_cons.1 h with h | h
          · exact absurd h.symm h2
          · exact .inr h
theorem ahd_notA {a b : Nat} {l : List Nat} (h : a ∉ l) : ahd a b l = 0 := by
  induction l with
  | nil => rfl
  | cons x l ih =>
    unfold ahd
    rw [if_neg (fun e => h (by rw [e]; exact List.mem_cons_self))]
    split
    · rfl
    · exact ih fun e => h (List.mem_cons_of_mem _ e)
theorem ahd_notB {a b : Nat} {l : List Nat} (ha : a ∈ l) (h : b ∉ l) : ahd a b l = 1 := by
  induction l with
  | nil => simp at ha
  | cons x l ih =>
    unfold ahd
    by_cases h1 : x = a
    · rw [if_pos h1]
    · rw [if_neg h1, if_neg (fun e => h (by rw [e]; exact List.mem_cons_self))]
      refine ih ?_ fun e => h (List.mem_cons_of_mem _ e)
      rcases List.mem_cons.1 ha with e | e
      · exact absurd e.symm h1
      · exact e
theorem ahd_01 (a b : Nat) (l : List Nat) : ahd a b l = 0 ∨ ahd a b l = 1 := by
  induction l with
  | nil => exact .inl rfl
  | cons x l ih =>
    unfold ahd
    split
    · exact .inr rfl
    · split
      · exact .inl rfl
      · exact ih
/-- A flow's credit, less its quantum while it is its turn. -/
def rD (qs : List Int) (s : RS) (f : Nat) : Int := s.c f - if s.sv = some f then qu qs f else 0
def rPot (qs : List Int) (a b : Nat) (s : RS) : Int := rD qs s a * qu qs b - rD qs s b * qu qs a + ahd a b (lst s) * (qu qs a * qu qs b)
section
variable {p : List Pk} {qs : List Int} {m : Nat} {s s1 s' : RS} {g a b : Nat}
theorem rD_bd (h : RI p qs m s) {S : Int} (hS : ∀ j, j < p.length → sOf p j ≤ S) (hS1 : 1 ≤ S) (hq : ∀ g, 0 ≤ qu qs g) (f : Nat) : - qu qs f ≤ rD qs s f ∧ rD qs s f ≤ S - 1 := by
  have h0 := h.pos f
  have hf := hq f
  unfold rD
  by_cases hs : s.sv = some f
  · rw [if_pos hs]
    rcases h.in_ f hs with h1 | ⟨j, h1, h2⟩
    · omega
    · have := hS j h1; omega
  · rw [if_neg hs]
    rcases h.out f hs with h1 | ⟨k, r, h1, h2⟩
    · omega
    · have h3 := (h.fl f k (by rw [h1]; exact List.mem_cons_self)).1
      have := hS k (by have := h.le; omega)
      omega
theorem rPot_bd (h : RI p qs m s) {S : Int} (hS : ∀ j, j < p.length → sOf p j ≤ S) (hS1 : 1 ≤ S) (hq : ∀ g, 0 ≤ qu qs g) :
    -(qu qs a * qu qs b) - (S - 1) * qu qs a ≤ rPot qs a b s ∧ rPot qs a b s ≤ (S - 1) * qu qs b + qu qs b * qu qs a + qu qs a * qu qs b := by
  obtain ⟨a1, a2⟩ := rD_bd h hS hS1 hq a
  obtain ⟨b1, b2⟩ := rD_bd h hS hS1 hq b
  have ha := hq a
  have hb := hq b
  have m1 := Int.mul_le_mul_of_nonneg_right a1 hb
  have m2 := Int.mul_le_mul_of_nonneg_right a2 hb
  have m3 := Int.mul_le_mul_of_nonneg_right b1 ha
  have m4 := Int.mul_le_mul_of_nonneg_right b2 ha
  have m5 := Int.mul_nonneg ha hb
  rw [Int.neg_mul] at m1 m3
  unfold rPot
  rcases ahd_01 a b (lst s) with e | e <;> rw [e] <;> omega
theorem rPot_turn (hne : a ≠ b) (ht : rTurn qs s = some (g, s1)) (hl : lst s1 = lst s) (h1 : s1.sv = some g) (ho : (s.sv = some g ∧ s1 = s) ∨ (s.sv = none ∧ s1.c = upd s.c g (s.c g + qu qs g))) : rPot qs a b s1 = rPot qs a b s := by
  rcases ho with ⟨_, rfl⟩ | ⟨h2, h3⟩
  · rfl
  · have e : ∀ f, rD qs s1 f = rD qs s f := fun f => by
      unfold rD
      rw [h1, h2, h3]
      by_cases hf : f = g
      · subst hf; rw [upd_same]; simp
      · rw [upd_other _ _ hf, if_neg (by intro e; injection e with e; exact hf e.symm), if_neg (by simp)]
    unfold rPot
    rw [e, e, hl]
theorem rPot_end (hne : a ≠ b) (h : RI p qs m s) (hs : s.sv = some g) (ha : a ∈ lst s) (hb : b ∈ lst s) : rPot qs a b (rEnd s g) = rPot qs a b s := by
  have hl : lst s = g :: s.row := by unfold lst; rw [hs]
  have hl2 : lst (rEnd s g) = s.row ++ [g] := rfl
  have hnd := h.nd
  rw [hl] at hnd ha hb
  obtain ⟨hn1, hn2⟩ := List.nodup_cons.1 hnd
  have e : ∀ f, rD qs (rEnd s g) f = rD qs s f + if f = g then qu qs f else 0 := fun f => by
    unfold rD
    rw [hs]
    show s.c f - (if none = some f then _ else _) = _
    rw [if_neg (by simp)]
    by_cases hf : f = g
    · subst hf; simp
    · rw [if_neg (by intro e; injection e with e; exact hf e.symm), if_neg hf]; omega
  unfold rPot
  rw [e, e, hl, hl2]
  by_cases h1 : a = g
  · subst h1
    have hb' : b ∈ s.row := by
      rcases List.mem_cons.1 hb with e | e
      · exact absurd e.symm hne
      · exact e
    rw [if_pos rfl, if_neg (fun e => hne e.symm), ahd_app _ (.inr hb'), ahd_notA hn1, show ahd a b (a :: s.row) = 1 by rw [ahd, if_pos rfl], Int.add_mul]
    simp only [Int.add_zero]
    omega
  · have ha' : a ∈ s.row := by
      rcases List.mem_cons.1 ha with e | e
      · exact absurd e h1
      · exact e
    by_cases h2 : b = g
    · subst h2
      rw [if_neg h1, if_pos rfl, ahd_app _ (.inl ha'), ahd_notB ha' hn1, show ahd a b (b :: s.row) = 0 by rw [ahd, if_neg (fun e => hne e.symm), if_pos rfl]]
      have e9 := Int.mul_comm (qu qs b) (qu qs a)
      have e8 := Int.add_mul (rD qs s b) (qu qs b) (qu qs a)
      simp only [Int.add_zero]
      omega
    · rw [if_neg h1, if_neg h2, ahd_app _ (.inl ha'), show ahd a b (g :: s.row) = ahd a b s.row by rw [ahd, if_neg (fun e => h1 e.symm), if_neg (fun e => h2 e.symm)]]
      simp only [Int.add_zero]
theorem rSend_lst (h : s.q g ≠ []) (ht : (s.q g).tail ≠ []) : lst (rSend p s g) = lst s ∧ (rSend p s g).sv = s.sv ∧ (rSend p s g).c = upd s.c g (s.c g - sOf p (rHead s g)) := by
  unfold rSend
  rw [if_neg ht]
  exact ⟨rfl, rfl, rfl⟩
/-- What a packet counts. -/
def cntK (p : List Pk) (qa qb : Int) (a b k : Nat) : Int := (if flN p k = a then sOf p k * qb else 0) - (if flN p k = b then sOf p k * qa else 0)
theorem rPot_send (hne : a ≠ b) (h : RI p qs m s) (hs : s.sv = some g) (ha : (rSend p s g).q a ≠ []) (hb : (rSend p s g).q b ≠ []) :
    rPot qs a b (rSend p s g) = rPot qs a b s - cntK p (qu qs a) (qu qs b) a b (rHead s g) := by
  have hl : lst s = g :: s.row := by unfold lst; rw [hs]
  have hqg : s.q g ≠ [] := (h.mem _).1 (by rw [hl]; exact List.mem_cons_self)
  have hfl := (h.head hqg).2
  have hnd := h.nd
  rw [hl] at hnd
  obtain ⟨hn1, hn2⟩ := List.nodup_cons.1 hnd
  rw [rSend_q] at ha hb
  unfold cntK
  rw [hfl]
  by_cases ht : (s.q g).tail = []
  · have h1 : g ≠ a := fun e => ha (by rw [← e, upd_same]; exact ht)
    have h2 : g ≠ b := fun e => hb (by rw [← e, upd_same]; exact ht)
    rw [if_neg h1, if_neg h2]
    have e1 : (rSend p s g).sv = none := by unfold rSend; rw [if_pos ht]
    have e2 : (rSend p s g).c = upd s.c g 0 := by unfold rSend; rw [if_pos ht]
    have e3 : lst (rSend p s g) = s.row := by unfold lst; rw [e1]; unfold rSend; rw [if_pos ht]
    have e : ∀ f, g ≠ f → rD qs (rSend p s g) f = rD qs s f := fun f hf => by
      unfold rD
      rw [e1, e2, hs, upd_other _ _ (fun e => hf e.symm), if_neg (by simp), if_neg (by intro e; injection e with e; exact hf e)]
    unfold rPot
    rw [e a h1, e b h2, e3, hl, show ahd a b (g :: s.row) = ahd a b s.row by rw [ahd, if_neg h1, if_neg h2]]
    omega
  · obtain ⟨e3, e1, e2⟩ := rSend_lst (p := p) hqg ht
    have e : ∀ f, rD qs (rSend p s g) f = rD qs s f - if g = f then sOf p (rHead s g) else 0 := fun f => by
      unfold rD
      rw [e1, e2]
      by_cases hf : g = f
      · subst hf; rw [upd_same, if_pos rfl]; omega
      · rw [upd_other _ _ (fun e => hf e.symm), if_neg hf]; omega
    unfold rPot
    rw [e a, e b, e3]
    by_cases h1 : g = a
    · subst h1
      rw [if_pos rfl, if_neg hne, if_pos rfl, if_neg hne, Int.sub_mul]
      simp only [Int.sub_zero]
      omega
    · rw [if_neg h1, if_neg h1]
      by_cases h2 : g = b
      · subst h2
        have e9 := Int.sub_mul (rD qs s g) (sOf p (rHead s g)) (qu qs a)
        rw [if_pos rfl, if_pos rfl]
        simp only [Int.sub_zero]
        omega
      · rw [if_neg h2, if_neg h2]
        simp only [Int.sub_zero]
theorem rPot_pick (hp : ∀ x ∈ p, okPk x) (hq : ∀ g, 0 ≤ qu qs g) (hne : a ≠ b) (f : Nat) (s : RS) (k : Nat) (h : RI p qs m s) (hk : rPick p qs f s = some (k, s')) (ha : s'.q a ≠ []) (hb : s'.q b ≠ []) (ha0 : a ∈ lst s) (hb0 : b ∈ lst s) :
    rPot qs a b s' = rPot qs a b s - cntK p (qu qs a) (qu qs b) a b k := by
  induction f generalizing s with
  | zero => cases hk
  | succ f ih =>
    unfold rPick at hk
    split at hk
    · cases hk
    · rename_i g s1 ht
      obtain ⟨h1, h2, h3, h4, h5, h6⟩ := h.turn hq ht
      have e0 := rPot_turn (a := a) (b := b) hne ht h4 h2 h6
      split at hk
      · simp only [Option.some.injEq, Prod.mk.injEq] at hk
        obtain ⟨rfl, rfl⟩ := hk
        rw [rPot_send hne h1 h2 ha hb, e0]
      · rename_i hc
        obtain ⟨h7, h8, _⟩ := h1.end_ h2 hc
        rw [← h4] at ha0 hb0
        rw [ih _ h7 hk (h8.mem_iff.2 ha0) (h8.mem_iff.2 hb0), rPot_end hne h1 h2 ha0 hb0, e0]
theorem rPot_come (hne : a ≠ b) (k : Nat) (ha : a ∈ lst s) (hb : b ∈ lst s) : rPot qs a b (rCome p s k) = rPot qs a b s ∧ a ∈ lst (rCome p s k) ∧ b ∈ lst (rCome p s k) := by
  have e : ∀ f, rD qs (rCome p s k) f = rD qs s f := fun f => rfl
  have el := lst_come p s k
  unfold rPot
  rw [e, e, el]
  split
  · exact ⟨rfl, ha, hb⟩
  · rw [ahd_app _ (.inl ha)]
    exact ⟨rfl, List.mem_append_left _ ha, List.mem_append_left _ hb⟩
theorem rPot_comes (hne : a ≠ b) (now : Int) (r : List Pk) (k : Nat) (s : RS) (ha : a ∈ lst s) (hb : b ∈ lst s) : rPot qs a b (comeL (roundM p qs) now r k s).2 = rPot qs a b s ∧ a ∈ lst (comeL (roundM p qs) now r k s).2 ∧ b ∈ lst (comeL (roundM p qs) now r k s).2 := by
  induction r generalizing k s with
  | nil => exact ⟨rfl, ha, hb⟩
  | cons x r ih =>
    unfold comeL
    split
    · obtain ⟨e1, e2, e3⟩ := rPot_come (qs := qs) (p := p) hne k ha hb
      obtain ⟨e4, e5, e6⟩ := ih (k + 1) (rCome p s k) e2 e3
      exact ⟨e4.trans e1, e5, e6⟩
    · exact ⟨rfl, ha, hb⟩
end
theorem mem_wait {s : RS} {p : List Pk} {qs : List Int} {m : Nat} (h : RI p qs m s) {j : Nat} (hj : j ∈ rWait s) : s.q (flN p j) ≠ [] := by
  obtain ⟨g, _, hg⟩ := List.mem_flatMap.1 hj
  have := (h.fl g j hg).2
  rw [this]
  intro e
  rw [e] at hg
  simp at hg
structure RoundJ (p : List Pk) (qs : List Int) (a b : Nat) (lo hi : Int) (t : St RS) : Prop where
  came : ∀ j, j < t.next → aOf p j ≤ t.now
  fr : ∀ i (h : i < t.out.length), t.out[i].f ≤ t.now
  tr : ∃ P Q : Nat → Int, ∀ i (h : i < t.out.length), WtP p a (t.out.take i) t.out[i] → WtP p b (t.out.take i) t.out[i] →
    (lo ≤ P i ∧ P i ≤ hi ∧ lo ≤ Q i ∧ Q i ≤ hi ∧ Q i = P i - cnt p (qu qs a) (qu qs b) a b t.out[i]) ∧ (i + 1 < t.out.length → P (i + 1) = Q i) ∧ (i + 1 = t.out.length → Q i = rPot qs a b t.s ∧ a ∈ lst t.s ∧ b ∈ lst t.s)
theorem round_step {p : List Pk} {per : Int} {qs : List Int} {a b : Nat} {lo hi : Int} (hp : ∀ x ∈ p, okPk x) (hs : p.Pairwise (fun x y => x.a ≤ y.a)) (h0 : 1 ≤ per) (hq : ∀ g, 0 ≤ qu qs g) (hq1 : ∀ g, g < 8 → 1 ≤ qu qs g) (hne : a ≠ b)
    (hbd : ∀ m s, RI p qs m s → lo ≤ rPot qs a b s ∧ rPot qs a b s ≤ hi) (t : St RS) (h : Inv (roundM p qs) p t) (hlt : t.out.length < p.length) (hj : RoundJ p qs a b lo hi t) : RoundJ p qs a b lo hi (stepS (roundM p qs) p per t) := by
  have hM := roundOk (p := p) (qs := qs) hp hq hq1
  obtain ⟨hc, hlt2⟩ := comeL_inv hM t.now (p.drop t.next) t.next t.s rfl h.toC
  have hall := comeL_all hM hs h hj.came
  have hpc := fun ha hb => rPot_comes (p := p) (qs := qs) hne t.now (p.drop t.next) t.next t.s (a := a) (b := b) ha hb
  obtain ⟨P, Q, htr⟩ := hj.tr
  unfold stepS
  generalize comeL (roundM p qs) t.now (p.drop t.next) t.next t.s = q at hc hlt2 hall hpc
  -- one of a flow that had come, and is not sent, is among those that wait
  have hin : ∀ j, j < p.length → aOf p j ≤ t.now → (∀ y ∈ t.out, y.p ≠ j) → j ∈ rWait q.2 := fun j hj1 hj2 hj3 => by
    have hjq := (hall j hj1).2 hj2
    rcases List.mem_append.1 (hc.perm.mem_iff.2 (List.mem_range.2 hjq)) with h1 | h1
    · obtain ⟨y, hy, e⟩ := List.mem_map.1 h1
      have := h.pos y hy
      exact absurd (show y.p = (j : Int) by omega) (hj3 y hy)
    · exact h1
  cases hpk : (roundM p qs).pick q.2 with
  | none =>
    have hw : rWait q.2 = [] := hM.w_none _ _ hc.ok hpk
    have hid := hc.idle hM hpk
    have hq1 : q.1 < p.length := by omega
    have hnow := hlt2 hq1
    refine ⟨fun j hjj => ?_, fun i hi => ?_, P, Q, fun i hi ha hb => ?_⟩
    · show aOf p j ≤ aOf p q.1
      exact aOf_mono hs (Nat.le_of_lt hjj) hq1
    · have := hj.fr i hi
      show _ ≤ aOf p q.1
      simp only; omega
    · obtain ⟨h1, h2, _⟩ := htr i hi ha hb
      refine ⟨h1, h2, fun h9 => ?_⟩
      obtain ⟨j, j1, j2, j3, j4, j5⟩ := ha
      have h9' : i + 1 = t.out.length := h9
      have hfr := hj.fr i hi
      have hsplit : t.out = t.out.take i ++ [t.out[i]'hi] := by
        rw [← List.take_succ_eq_append_getElem hi, h9', List.take_length]
      have := hin j j1 (Int.le_trans j3 hfr) (fun y hy => by
        rw [hsplit] at hy
        rcases List.mem_append.1 hy with hy | hy
        · exact j4 y hy
        · rw [List.mem_singleton.1 hy]; exact j5)
      rw [hw] at this
      simp at this
  | some ks =>
    obtain ⟨k, s'⟩ := ks
    have hk : k < q.1 := hc.pick_lt hM hpk
    have hkl : k < p.length := Nat.lt_of_lt_of_le hk hc.k_le
    have hok := hp _ (List.getElem_mem hkl)
    have m1 : 0 ≤ per * sOf p k := Int.mul_nonneg (by omega) (by rw [sOf_of hkl]; have := hok.2.2.1; omega)
    obtain ⟨hri, hperm⟩ := rPick_some hp hq _ _ _ _ _ hc.ok hpk
    obtain ⟨x, hx⟩ : ∃ x : Sn, x = ⟨(k : Int), t.now, t.now + per * sOf p k⟩ := ⟨_, rfl⟩
    have hxp : x.p = (k : Int) := by rw [hx]
    have hxf : x.f = t.now := by rw [hx]
    show RoundJ p qs a b lo hi ⟨t.out ++ [⟨(k : Int), t.now, t.now + per * sOf p k⟩], t.now + per * sOf p k, q.1, s'⟩
    rw [← hx]
    -- one that waits behind this one
    have hin2 : ∀ f, WtP p f t.out x → s'.q f ≠ [] ∧ f ∈ lst s' ∧ f ∈ lst q.2 := fun f ⟨j, j1, j2, j3, j4, j5⟩ => by
      have hjw := hin j j1 (by rw [← hxf]; exact j3) j4
      have hjw' : j ∈ rWait s' := by
        rcases List.mem_cons.1 (hperm.mem_iff.1 hjw) with e | e
        · exact absurd (by rw [hxp, e]) j5
        · exact e
      have e1 : flN p j = f := j2
      have h1 := mem_wait hri hjw'
      have h2 := mem_wait hc.ok hjw
      rw [e1] at h1 h2
      exact ⟨h1, (hri.mem f).2 h1, (hc.ok.mem f).2 h2⟩
    refine ⟨fun j hjj => ?_, fun i hi => ?_, fun i => if i = t.out.length then rPot qs a b q.2 else P i, fun i => if i = t.out.length then rPot qs a b s' else Q i, fun i hi ha hb => ?_⟩
    · have hjj' : j < q.1 := hjj
      have := (hall j (Nat.lt_of_lt_of_le hjj' hc.k_le)).1 hjj'
      show aOf p j ≤ t.now + per * sOf p k
      omega
    · show _ ≤ t.now + per * sOf p k
      have hi' : i < t.out.length + 1 := by simpa using hi
      rcases Nat.lt_or_ge i t.out.length with h9 | h9
      · have := hj.fr i h9
        simp only [List.getElem_append_left h9]
        omega
      · obtain rfl : i = t.out.length := by omega
        rw [List.getElem_concat_length rfl, hxf]
        omega
    · have hi' : i < t.out.length + 1 := by simpa using hi
      simp only [List.length_append, List.length_cons, List.length_nil]
      rcases Nat.lt_or_ge i t.out.length with h9 | h9
      · simp only [List.take_append_of_le_length (Nat.le_of_lt h9), List.getElem_append_left h9] at ha hb ⊢
        obtain ⟨h1, h2, h3⟩ := htr i h9 ha hb
        have hn : ¬ i = t.out.length := by omega
        rw [if_neg hn, if_neg hn]
        refine ⟨h1, fun h8 => ?_, fun h8 => by omega⟩
        by_cases h7 : i + 1 = t.out.length
        · rw [if_pos h7]
          obtain ⟨g1, g2, g3⟩ := h3 h7
          rw [(hpc g2 g3).1, g1]
        · rw [if_neg h7]
          exact h2 (by omega)
      · obtain rfl : i = t.out.length := by omega
        have e1 : (t.out ++ [x]).take t.out.length = t.out := List.take_left' rfl
        have e2 : (t.out ++ [x])[t.out.length]'hi = x := List.getElem_concat_length rfl _
        rw [e1, e2] at ha hb
        rw [e2]
        obtain ⟨a1, a2, a3⟩ := hin2 a ha
        obtain ⟨b1, b2, b3⟩ := hin2 b hb
        rw [if_pos rfl, if_pos rfl]
        have hpot := rPot_pick hp hq hne _ q.2 k hc.ok hpk a1 b1 a3 b3
        have hcnt : cnt p (qu qs a) (qu qs b) a b x = cntK p (qu qs a) (qu qs b) a b k := by
          unfold cnt cntK flS flN
          rw [hxp, Int.toNat_natCast]
        refine ⟨⟨(hbd _ _ hc.ok).1, (hbd _ _ hc.ok).2, (hbd _ _ hri).1, (hbd _ _ hri).2, by rw [hcnt]; exact hpot⟩, fun h8 => by omega, fun _ => ⟨rfl, a2, b2⟩⟩
/-- All that are sent are the packets, each once. -/
theorem srv_perm {σ : Type} {M : Pol σ} {p : List Pk} {per : Int} {s0 : σ} (hM : PolOk M p.length) (hp : ∀ x ∈ p, okPk x) (h0 : 1 ≤ per) (h1 : per ≤ 1000) (hw : M.wait s0 = []) (ho : M.ok 0 s0) :
    (serveS M p per s0).out.length = p.length ∧ (∀ x ∈ (serveS M p per s0).out, 0 ≤ x.p) ∧ (∀ x ∈ (serveS M p per s0).out, x.p.toNat < p.length) ∧ ((serveS M p per s0).out.map fun x => x.p.toNat).Nodup := by
  obtain ⟨hi, hl⟩ := run_all hM hp h0 h1 (2 * p.length + 1) _ (inv_start p hw ho) (mu_start p _) (Nat.zero_le _)
  have hpm := hi.perm
  have hnd := hpm.nodup_iff.2 List.nodup_range
  refine ⟨hl, hi.pos, fun x hx => ?_, (List.nodup_append.1 hnd).1⟩
  have := List.mem_range.1 (hpm.mem_iff.1 (List.mem_append_left _ (List.mem_map.2 ⟨x, hx, rfl⟩)))
  have := hi.next_le
  exact Nat.lt_of_lt_of_le ‹_› this
theorem spr_same (p : List Pk) (qa : Int) (a : Nat) (l : List Sn) : sprL p qa qa a a l = 0 := by
  have h := spr_le (p := p) (qa := qa) (qb := qa) (a := a) (b := a) (lo := 0) (hi := 0) (l := l) (P := fun _ => 0) (Q := fun _ => 0) ⟨fun i hi _ _ => ⟨by omega, by omega, by omega, by omega, by unfold cnt; omega, fun _ => rfl⟩⟩ (by omega)
  have h2 : ∀ (r : List Sn) (most sum low high : Int), 0 ≤ most → 0 ≤ sprGo p qa qa a a most sum low high r := fun r => by
    induction r with
    | nil => exact fun _ _ _ _ h => h
    | cons s r ih =>
      intro most sum low high h
      unfold sprGo
      split
      · exact ih _ _ _ _ (by omega)
      · exact ih _ _ _ _ h
  have := h2 l 0 0 0 0 (by omega)
  unfold sprL at h ⊢
  omega
theorem round_shares {p : List Pk} {per : Int} {qs : List Int} {a b : Nat} {S : Int} (hp : ∀ x ∈ p, okPk x) (hs : p.Pairwise (fun x y => x.a ≤ y.a)) (h0 : 1 ≤ per) (h1 : per ≤ 1000) (hq : ∀ g, 0 ≤ qu qs g) (hq1 : ∀ g, g < 8 → 1 ≤ qu qs g)
    (hS : ∀ j, j < p.length → sOf p j ≤ S) (hS1 : 0 < p.length → 1 ≤ S) (hS0 : 0 ≤ S) : sprL p (qu qs a) (qu qs b) a b (roundL p per qs) ≤ 3 * (qu qs a * qu qs b) + S * (qu qs a + qu qs b) := by
  have hA := hq a
  have hB := hq b
  have m5 := Int.mul_nonneg hA hB
  have m6 := Int.mul_nonneg hS0 (show 0 ≤ qu qs a + qu qs b by omega)
  by_cases hne : a = b
  · subst hne
    rw [spr_same]
    omega
  · have hM := roundOk (p := p) (qs := qs) hp hq hq1
    obtain ⟨e1, e2, e3, e4⟩ := srv_perm hM hp h0 h1 (s0 := rs0) rs0_wait (rs0_ok p qs)
    rcases Nat.eq_zero_or_pos p.length with hz | hz
    · have : roundL p per qs = [] := List.eq_nil_of_length_eq_zero (by show (serveS _ p per rs0).out.length = 0; rw [e1, hz])
      rw [this]
      show (0 : Int) ≤ _
      omega
    · have hSS := hS1 hz
      have hbd : ∀ m s, RI p qs m s → _ := fun m s h => rPot_bd (a := a) (b := b) h hS hSS hq
      have hJ := run_ind hM hp h0 h1 (RoundJ p qs a b _ _) (fun t x y z => round_step hp hs h0 hq hq1 hne hbd t x y z) (2 * p.length + 1) _ (inv_start (M := roundM p qs) (s0 := rs0) p rs0_wait (rs0_ok p qs))
        ⟨fun j hj => by simp at hj, fun i hi => by simp at hi, fun _ => 0, fun _ => 0, fun i hi => by simp at hi⟩
      obtain ⟨P, Q, htr⟩ := hJ.tr
      have hT : Tr p (qu qs a) (qu qs b) a b _ _ (roundL p per qs) P Q := ⟨fun i hi ha hb => by
        obtain ⟨⟨g1, g2, g3, g4, g5⟩, g6, _⟩ := htr i hi (wt_of e2 e3 e4 hi ha) (wt_of e2 e3 e4 hi hb)
        exact ⟨g1, g2, g3, g4, g5, g6⟩⟩
      have m7 : 0 ≤ (S - 1) * qu qs a := Int.mul_nonneg (by omega) hA
      have m8 : 0 ≤ (S - 1) * qu qs b := Int.mul_nonneg (by omega) hB
      have e9 : qu qs b * qu qs a = qu qs a * qu qs b := Int.mul_comm _ _
      have := spr_le hT (by omega)
      rw [Int.mul_add]
      rw [Int.sub_mul, Int.sub_mul] at this
      omega
end Go.Proofs.YthgpbdlmadjndaaDoor
