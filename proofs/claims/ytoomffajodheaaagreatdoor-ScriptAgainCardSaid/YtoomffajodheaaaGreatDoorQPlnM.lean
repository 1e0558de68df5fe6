/- A link by least keys, plainly. No program. No condition. A link by least keys, plainly: when one is sent, none that had come, and was not sent yet, has a lesser key, or the same one and a lesser number. No program. No condition. The document's link by keys (scan for the least), plainly: it takes the same steps as a list of those that wait. No program. No condition. The spread of two flows in what was sent, plainly: as package round takes it, stretch by stretch; a bound of it by a potential. No program. No condition. Round by round, plainly: the picker, what holds of its states, and that it is a picker. No program. No condition. SHREEDHAR and VARGHESE, plainly: while two flows wait, what they get by rounds is by their quanta, but for three quanta of both, and a packet of each. No program. No condition. By tags, plainly: the picker, what holds of its states, and that it is a picker. No program. No condition. GOLESTANI, plainly: while two flows wait, what they get by tags is by their weights, but for a packet of each; tags do not fall while the link is busy. No program. No condition. The document's links, plainly, whatever the picker: who waits, who is first; its link by tags takes the same steps. No program. No condition. -/
import Derived.Test.YtoomffajodheaaaGreatDoorQPkM
import Derived.Test.YtoomffajodheaaaGreatDoorQFifoM2
set_option linter.all false
namespace Go.Proofs.YtoomffajodheaaaGreatDoor
def bestGo (key : Nat → Int) : Nat → Int → Nat → List Nat → Nat
  | b, _, _, [] => b
  | b, kb, i, k :: r => if key k < kb then bestGo key i (key k) (i + 1) r else bestGo key b kb (i + 1) r
/-- The place of the least key, of these the first. -/
def bestI (key : Nat → Int) (s : List Nat) : Nat := bestGo key 0 (key (s.getD 0 0)) 0 s
structure BestOk (key : Nat → Int) (s : List Nat) (i b : Nat) (kb : Int) : Prop where
  lt : b < s.length
  key_ : kb = key (s.getD b 0)
  le : ∀ j, j < i → kb ≤ key (s.getD j 0)
  first : ∀ j, j < b → kb < key (s.getD j 0)
theorem bestGo_ok (key : Nat → Int) (s r : List Nat) (i b : Nat) (kb : Int) (hr : s.drop i = r) (h : BestOk key s i b kb) (hbi : b < i ∨ (i = 0 ∧ b = 0)) : BestOk key s s.length (bestGo key b kb i r) (key (s.getD (bestGo key b kb i r) 0)) := by
  induction r generalizing i b kb with
  | nil =>
    have hl : s.length ≤ i := by have := congrArg List.length hr; simp at this; omega
    show BestOk key s s.length b (key (s.getD b 0))
    rw [← h.key_]
    exact ⟨h.lt, h.key_, fun j hj => h.le j (by omega), h.first⟩
  | cons k r ih =>
    have hk : i < s.length := by
      have := congrArg List.length hr
      simp at this
      omega
    have hd := List.drop_eq_getElem_cons hk
    rw [hr] at hd
    injection hd with hx hr'
    have hg : s.getD i 0 = k := by simp [List.getD, hk, hx]
    unfold bestGo
    by_cases hc : key k < kb
    · rw [if_pos hc]
      refine ih (i + 1) i (key k) hr'.symm ⟨hk, by rw [hg], fun j hj => ?_, fun j hj => ?_⟩ (.inl (Nat.lt_succ_self i))
      · rcases Nat.lt_succ_iff_lt_or_eq.1 hj with h1 | h1
        · have := h.le j h1; omega
        · subst h1; rw [hg]; exact Int.le_refl _
      · have := h.le j hj; omega
    · rw [if_neg hc]
      refine ih (i + 1) b kb hr'.symm ⟨h.lt, h.key_, fun j hj => ?_, h.first⟩ (.inl (by omega))
      rcases Nat.lt_succ_iff_lt_or_eq.1 hj with h1 | h1
      · exact h.le j h1
      · subst h1; rw [hg]; omega
theorem bestI_ok (key : Nat → Int) (s : List Nat) (h : 0 < s.length) : BestOk key s s.length (bestI key s) (key (s.getD (bestI key s) 0)) :=
  bestGo_ok key s s 0 0 _ rfl ⟨h, rfl, fun j hj => absurd hj (Nat.not_lt_zero j), fun j hj => absurd hj (Nat.not_lt_zero j)⟩ (.inr ⟨rfl, rfl⟩)

theorem erase_perm {α : Type} (l : List α) (i : Nat) (h : i < l.length) : l.Perm (l[i] :: l.eraseIdx i) := by
  induction l generalizing i with
  | nil => simp at h
  | cons x r ih =>
    cases i with
    | zero => exact List.Perm.refl _
    | succ i =>
      have := ih i (by simpa using h)
      simp only [List.getElem_cons_succ, List.eraseIdx_cons_succ]
      exact (List.Perm.cons x this).trans (List.Perm.swap _ _ _)
def leastM (key : Nat → Int) : Pol (List Nat) where
  come s k := s ++ [k]
  pick s := if s.length = 0 then none else some (s.getD (bestI key s) 0, s.eraseIdx (bestI key s))
  rest s := s
  wait s := s
  ok m s := (∀ j ∈ s, j < m) ∧ s.Pairwise (· < ·)
theorem leastOk (key : Nat → Int) (n : Nat) : PolOk (leastM key) n where
  ok_come := fun s k ⟨h1, h2⟩ _ => ⟨fun j hj => by
    rcases List.mem_append.1 hj with h | h
    · have := h1 j h; omega
    · rw [List.mem_singleton.1 h]; omega, List.pairwise_append.2 ⟨h2, List.pairwise_singleton _ _, fun a ha b hb => by rw [List.mem_singleton.1 hb]; exact h1 a ha⟩⟩
  ok_pick := fun s m k s' ⟨h1, h2⟩ hp => by
    simp only [leastM] at hp
    split at hp
    · cases hp
    · simp only [Option.some.injEq, Prod.mk.injEq] at hp
      obtain ⟨_, rfl⟩ := hp
      exact ⟨fun j hj => h1 j (List.mem_of_mem_eraseIdx hj), h2.sublist (List.eraseIdx_sublist _ _)⟩
  ok_rest := fun s m h _ => h
  w_come := fun s k _ _ => List.perm_append_comm (l₂ := [k])
  w_none := fun s m _ hp => by
    simp only [leastM] at hp ⊢
    split at hp
    · rename_i h; exact List.eq_nil_of_length_eq_zero h
    · cases hp
  w_some := fun s m k s' _ hp => by
    simp only [leastM] at hp ⊢
    split at hp
    · cases hp
    · rename_i h
      simp only [Option.some.injEq, Prod.mk.injEq] at hp
      obtain ⟨rfl, rfl⟩ := hp
      have hb := (bestI_ok key s (by omega)).lt
      have e : s.getD (bestI key s) 0 = s[bestI key s] := by simp [List.getD, hb]
      rw [e]
      exact erase_perm s _ hb
  w_rest := fun s m _ h => h
end Go.Proofs.YtoomffajodheaaaGreatDoor
namespace Go.Proofs.YtoomffajodheaaaGreatDoor
theorem pktBad_sorted {l : List Pk} {m : Int} {k : Nat} (h : (pktBad l m k).1 = 0) : (∀ x ∈ l, m ≤ x.a) ∧ l.Pairwise (fun x y => x.a ≤ y.a) := by
  induction l generalizing m k with
  | nil => exact ⟨by simp, List.Pairwise.nil⟩
  | cons x r ih =>
    unfold pktBad at h
    split at h
    · split at h
      · simp at h
      · rename_i h2
        obtain ⟨i1, i2⟩ := ih h
        refine ⟨fun y hy => ?_, List.pairwise_cons.2 ⟨i1, i2⟩⟩
        rcases List.mem_cons.1 hy with rfl | hy
        · omega
        · have := i1 y hy; omega
    · simp at h
theorem pktErr_sorted {l : List Pk} (h : (pktErr l).1 = 0) : l.Pairwise (fun x y => x.a ≤ y.a) := by
  unfold pktErr at h
  by_cases h1 : 300 < l.length
  · rw [if_pos h1] at h; simp at h
  · rw [if_neg h1] at h; exact (pktBad_sorted h).2
theorem lookErr_sorted {p : List Pk} {per : Int} (h : (lookErr p per).1 = 0) : p.Pairwise (fun x y => x.a ≤ y.a) := by
  unfold lookErr at h
  by_cases h1 : (pktErr p).1 ≠ 0
  · rw [if_pos h1] at h; exact absurd h h1
  · exact pktErr_sorted (by omega)
theorem aOf_mono {p : List Pk} (h : p.Pairwise (fun x y => x.a ≤ y.a)) {i j : Nat} (hij : i ≤ j) (hj : j < p.length) : aOf p i ≤ aOf p j := by
  rcases Nat.eq_or_lt_of_le hij with rfl | hlt
  · exact Int.le_refl _
  · rw [aOf_of hj, aOf_of (Nat.lt_trans hlt hj)]
    exact List.pairwise_iff_getElem.1 h i j (Nat.lt_trans hlt hj) hj hlt
/-- All that have come by a tick, and no others. -/
theorem comeL_all {σ : Type} {M : Pol σ} {p : List Pk} (hM : PolOk M p.length) (hs : p.Pairwise (fun x y => x.a ≤ y.a)) {t : St σ} (h : Inv M p t) (hc : ∀ j, j < t.next → aOf p j ≤ t.now) (j : Nat) (hj : j < p.length) :
    j < (comeL M t.now (p.drop t.next) t.next t.s).1 ↔ aOf p j ≤ t.now := by
  obtain ⟨_, hlt2⟩ := comeL_inv hM t.now (p.drop t.next) t.next t.s rfl h.toC
  have hge := comeL_ge M t.now (p.drop t.next) t.next t.s
  have hle := comeL_le M p t.now (p.drop t.next) t.next t.s rfl
  generalize comeL M t.now (p.drop t.next) t.next t.s = q at hlt2 hge hle
  refine ⟨fun h1 => ?_, fun h1 => ?_⟩
  · by_cases h9 : j < t.next
    · exact hc j h9
    · exact hle j (by omega) h1
  · refine Nat.lt_of_not_le fun h2 => ?_
    have h3 := hlt2 (by omega)
    have := aOf_mono hs h2 hj
    omega
structure SentOk (p : List Pk) (key : Nat → Int) (prev : List Sn) (x : Sn) : Prop where
  pos : 0 ≤ x.p
  lt : x.p.toNat < p.length
  fresh : ∀ y ∈ prev, y.p ≠ x.p
  came : aOf p x.p.toNat ≤ x.f
  least : ∀ j, j < p.length → (∀ y ∈ prev, y.p ≠ j) → aOf p j ≤ x.f → key x.p.toNat ≤ key j ∧ (key j = key x.p.toNat → x.p.toNat ≤ j)
structure RankJ (p : List Pk) (key : Nat → Int) (t : St (List Nat)) : Prop where
  came : ∀ j, j < t.next → aOf p j ≤ t.now
  all : ∀ i (h : i < t.out.length), SentOk p key (t.out.take i) t.out[i]
def leastL (p : List Pk) (per : Int) (key : Nat → Int) : List Sn := (serveS (leastM key) p per []).out
end Go.Proofs.YtoomffajodheaaaGreatDoor
namespace Go.Proofs.YtoomffajodheaaaGreatDoor
def dnB (out : List Sn) (j : Nat) : Bool := out.any fun y => y.p == (j : Int)
theorem dnB_iff {out : List Sn} {j : Nat} : dnB out j = true ↔ ∃ y ∈ out, y.p = (j : Int) := by
  unfold dnB
  simp [List.any_eq_true]
theorem dnB_not {out : List Sn} {j : Nat} : dnB out j = false ↔ ∀ y ∈ out, y.p ≠ (j : Int) := by
  rw [← Bool.not_eq_true, dnB_iff]
  exact ⟨fun h y hy e => h ⟨y, hy, e⟩, fun h ⟨y, hy, e⟩ => h y hy e⟩
theorem dnB_add (out : List Sn) (x : Sn) (j : Nat) : dnB (out ++ [x]) j = (dnB out j || x.p == (j : Int)) := by simp [dnB]
def BestAt (p : List Pk) (key : Nat → Int) (now : Int) (out : List Sn) (i : Nat) (best : Int) : Prop :=
  (best = -1 ∧ ∀ j, j < i → dnB out j = false → now < aOf p j) ∨
  ∃ b : Nat, b < i ∧ best = b ∧ dnB out b = false ∧ aOf p b ≤ now ∧ ∀ j, j < i → dnB out j = false → aOf p j ≤ now → key b ≤ key j ∧ (key j = key b → b ≤ j)
def FirstAt (out : List Sn) (i : Nat) (first : Int) : Prop :=
  (first = -1 ∧ ∀ j, j < i → dnB out j = true) ∨ ∃ f : Nat, f < i ∧ first = f ∧ dnB out f = false ∧ ∀ j, j < f → dnB out j = true
section
variable {p : List Pk} {key : Nat → Int} {now : Int} {out : List Sn} {i : Nat} {best first : Int}
theorem BestAt.skip (h : BestAt p key now out i best) (hs : dnB out i = true ∨ now < aOf p i) : BestAt p key now out (i + 1) best := by
  rcases h with ⟨e, h⟩ | ⟨b, hb, e, h1, h2, h3⟩
  · refine .inl ⟨e, fun j hj hd => ?_⟩
    rcases Nat.lt_succ_iff_lt_or_eq.1 hj with h9 | rfl
    · exact h j h9 hd
    · rcases hs with hs | hs
      · rw [hs] at hd; cases hd
      · exact hs
  · refine .inr ⟨b, by omega, e, h1, h2, fun j hj hd ha => ?_⟩
    rcases Nat.lt_succ_iff_lt_or_eq.1 hj with h9 | rfl
    · exact h3 j h9 hd ha
    · rcases hs with hs | hs
      · rw [hs] at hd; cases hd
      · omega
theorem BestAt.keep (h : BestAt p key now out i best) (hb : 0 ≤ best) (hk : key best.toNat ≤ key i) : BestAt p key now out (i + 1) best := by
  rcases h with ⟨e, h⟩ | ⟨b, hb, e, h1, h2, h3⟩
  · omega
  · have e2 : best.toNat = b := by omega
    rw [e2] at hk
    refine .inr ⟨b, by omega, e, h1, h2, fun j hj hd ha => ?_⟩
    rcases Nat.lt_succ_iff_lt_or_eq.1 hj with h9 | rfl
    · exact h3 j h9 hd ha
    · exact ⟨hk, fun _ => by omega⟩
theorem BestAt.new_ (h : BestAt p key now out i best) (hd : dnB out i = false) (ha : aOf p i ≤ now) (hk : best < 0 ∨ (0 ≤ best ∧ key i < key best.toNat)) : BestAt p key now out (i + 1) i := by
  refine .inr ⟨i, by omega, rfl, hd, ha, fun j hj hdj haj => ?_⟩
  rcases Nat.lt_succ_iff_lt_or_eq.1 hj with h9 | rfl
  · rcases h with ⟨e, h⟩ | ⟨b, hb, e, h1, h2, h3⟩
    · have := h j h9 hdj; omega
    · have e2 : best.toNat = b := by omega
      rw [e2] at hk
      have := h3 j h9 hdj haj
      omega
  · exact ⟨Int.le_refl _, fun _ => Nat.le_refl _⟩
theorem FirstAt.skip (h : FirstAt out i first) (hs : dnB out i = true ∨ 0 ≤ first) : FirstAt out (i + 1) first := by
  rcases h with ⟨e, h⟩ | ⟨f, hf, e, h1, h2⟩
  · refine .inl ⟨e, fun j hj => ?_⟩
    rcases Nat.lt_succ_iff_lt_or_eq.1 hj with h9 | rfl
    · exact h j h9
    · rcases hs with hs | hs
      · exact hs
      · omega
  · exact .inr ⟨f, by omega, e, h1, h2⟩
theorem FirstAt.new_ (h : FirstAt out i first) (hd : dnB out i = false) (hf : first < 0) : FirstAt out (i + 1) i := by
  rcases h with ⟨e, h⟩ | ⟨f, hf, e, h1, h2⟩
  · exact .inr ⟨i, by omega, rfl, hd, h⟩
  · omega
theorem BestAt.lt (h : BestAt p key now out i best) : best = -1 ∨ (0 ≤ best ∧ best < i) := by
  rcases h with ⟨e, _⟩ | ⟨b, hb, e, _⟩
  · exact .inl e
  · exact .inr (by omega)
theorem FirstAt.lt (h : FirstAt out i first) : first = -1 ∨ (0 ≤ first ∧ first < i) := by
  rcases h with ⟨e, _⟩ | ⟨b, hb, e, _⟩
  · exact .inl e
  · exact .inr (by omega)
end
end Go.Proofs.YtoomffajodheaaaGreatDoor
namespace Go.Proofs.YtoomffajodheaaaGreatDoor
def flS (p : List Pk) (x : Sn) : Nat := (fOf p x.p.toNat).toNat
/-- Does a flow wait at one that is sent, with those behind it? -/
def wtB (p : List Pk) (f : Nat) (s : Sn) (r : List Sn) : Bool := r.any fun y => decide (flS p y = f ∧ aOf p y.p.toNat ≤ s.f)
/-- What one that is sent counts. -/
def cnt (p : List Pk) (qa qb : Int) (a b : Nat) (s : Sn) : Int := (if flS p s = a then sOf p s.p.toNat * qb else 0) - (if flS p s = b then sOf p s.p.toNat * qa else 0)
/-- A potential: what is sent lowers it by what it counts, while both wait. -/
structure Tr (p : List Pk) (qa qb : Int) (a b : Nat) (lo hi : Int) (l : List Sn) (P Q : Nat → Int) : Prop where
  all : ∀ i (h : i < l.length), wtB p a l[i] (l.drop (i + 1)) = true → wtB p b l[i] (l.drop (i + 1)) = true →
    lo ≤ P i ∧ P i ≤ hi ∧ lo ≤ Q i ∧ Q i ≤ hi ∧ Q i = P i - cnt p qa qb a b l[i] ∧ (i + 1 < l.length → P (i + 1) = Q i)
/-- Those that had come, of a flow, and are not sent yet. -/
def WtP (p : List Pk) (f : Nat) (prev : List Sn) (x : Sn) : Prop := ∃ j, j < p.length ∧ (fOf p j).toNat = f ∧ aOf p j ≤ x.f ∧ (∀ y ∈ prev, y.p ≠ j) ∧ x.p ≠ j
end Go.Proofs.YtoomffajodheaaaGreatDoor
namespace Go.Proofs.YtoomffajodheaaaGreatDoor
/-- Turns of flows: queues, credits, the row, who is served. -/
structure RS where
  q : Nat → List Nat
  c : Nat → Int
  row : List Nat
  sv : Option Nat
def upd {α : Type} (f : Nat → α) (g : Nat) (x : α) : Nat → α := fun h => if h = g then x else f h
theorem upd_same {α : Type} (f : Nat → α) (g : Nat) (x : α) : upd f g x g = x := if_pos rfl
theorem upd_other {α : Type} (f : Nat → α) {g h : Nat} (x : α) (hne : h ≠ g) : upd f g x h = f h := if_neg hne
def flN (p : List Pk) (k : Nat) : Nat := (fOf p k).toNat
def qu (l : List Int) (g : Nat) : Int := l.getD g 0
def lst (s : RS) : List Nat := match s.sv with
  | some g => g :: s.row
  | none => s.row
def rCome (p : List Pk) (s : RS) (k : Nat) : RS :=
  { s with row := if flN p k ∈ lst s then s.row else s.row ++ [flN p k], q := upd s.q (flN p k) (s.q (flN p k) ++ [k]) }
/-- Whose turn it is; it begins. -/
def rTurn (qs : List Int) (s : RS) : Option (Nat × RS) := match s.sv with
  | some g => some (g, s)
  | none => match s.row with
    | [] => none
    | g :: r => some (g, { s with row := r, sv := some g, c := upd s.c g (s.c g + qu qs g) })
def rHead (s : RS) (g : Nat) : Nat := (s.q g).headD 0
/-- The head of a flow's queue is sent. -/
def rSend (p : List Pk) (s : RS) (g : Nat) : RS :=
  if (s.q g).tail = [] then { s with q := upd s.q g [], c := upd s.c g 0, sv := none } else { s with q := upd s.q g (s.q g).tail, c := upd s.c g (s.c g - sOf p (rHead s g)) }
/-- A turn ends. -/
def rEnd (s : RS) (g : Nat) : RS := { s with row := s.row ++ [g], sv := none }
def rPick (p : List Pk) (qs : List Int) : Nat → RS → Option (Nat × RS)
  | 0, _ => none
  | f + 1, s => match rTurn qs s with
    | none => none
    | some (g, s1) => if sOf p (rHead s1 g) ≤ s1.c g then some (rHead s1 g, rSend p s1 g) else rPick p qs f (rEnd s1 g)
def sum8 (f : Nat → Nat) : Nat := ((List.range 8).map f).sum
theorem sum8_upd (f : Nat → Nat) (g x : Nat) (hg : g < 8) : sum8 (upd f g x) + f g = sum8 f + x := by
  have h : g = 0 ∨ g = 1 ∨ g = 2 ∨ g = 3 ∨ g = 4 ∨ g = 5 ∨ g = 6 ∨ g = 7 := by omega
  have e : ∀ f : Nat → Nat, sum8 f = f 0 + (f 1 + (f 2 + (f 3 + (f 4 + (f 5 + (f 6 + (f 7 + 0))))))) := fun f => rfl
  rw [e, e]
  rcases h with rfl | rfl | rfl | rfl | rfl | rfl | rfl | rfl <;> simp [upd] <;> omega
def lack (s : RS) (g : Nat) : Nat := (1500 - s.c g).toNat
def rMu (s : RS) : Nat := 2 * sum8 (lack s) + (if s.sv = none then 0 else 1) + 1
def rWait (s : RS) : List Nat := (List.range 8).flatMap s.q
/-- What holds of the states. -/
structure RI (p : List Pk) (qs : List Int) (m : Nat) (s : RS) : Prop where
  le : m ≤ p.length
  fl : ∀ g, ∀ j ∈ s.q g, j < m ∧ flN p j = g
  nd : (lst s).Nodup
  mem : ∀ g, g ∈ lst s ↔ s.q g ≠ []
  pos : ∀ g, 0 ≤ s.c g
  out : ∀ g, s.sv ≠ some g → s.c g = 0 ∨ ∃ k r, s.q g = k :: r ∧ s.c g < sOf p k
  in_ : ∀ g, s.sv = some g → s.c g ≤ qu qs g ∨ ∃ j, j < p.length ∧ s.c g < sOf p j + qu qs g
  so : ∀ g, (s.q g).Pairwise (· < ·)
theorem flN_lt {p : List Pk} (hp : ∀ x ∈ p, okPk x) {k : Nat} (hk : k < p.length) : flN p k < 8 := by
  have := hp _ (List.getElem_mem hk)
  unfold flN
  rw [fOf_of hk]
  have h1 := this.1
  have h2 := this.2.1
  omega
section
variable {p : List Pk} {qs : List Int} {m : Nat} {s s1 : RS} {g : Nat}
theorem RI.g8 (hp : ∀ x ∈ p, okPk x) (h : RI p qs m s) (hg : s.q g ≠ []) : g < 8 := by
  obtain ⟨j, hj⟩ := List.exists_mem_of_ne_nil _ hg
  obtain ⟨h1, h2⟩ := h.fl g j hj
  rw [← h2]
  exact flN_lt hp (by have := h.le; omega)
theorem rHead_mem (h : s.q g ≠ []) : s.q g = rHead s g :: (s.q g).tail := by
  unfold rHead
  cases hq : s.q g with
  | nil => exact absurd hq h
  | cons k r => rfl
theorem RI.head (h : RI p qs m s) (hg : s.q g ≠ []) : rHead s g < m ∧ flN p (rHead s g) = g := by
  refine h.fl g _ ?_
  have e := rHead_mem hg
  rw [e]
  exact List.mem_cons_self
theorem rTurn_none (h : rTurn qs s = none) : lst s = [] := by
  unfold rTurn at h
  unfold lst
  split at h
  · cases h
  · split at h
    · assumption
    · cases h
/-- A turn that begins. -/
theorem RI.turn (h : RI p qs m s) (hq : ∀ g, 0 ≤ qu qs g) (ht : rTurn qs s = some (g, s1)) :
    RI p qs m s1 ∧ s1.sv = some g ∧ s1.q = s.q ∧ lst s1 = lst s ∧ s.q g ≠ [] ∧ ((s.sv = some g ∧ s1 = s) ∨ (s.sv = none ∧ s1.c = upd s.c g (s.c g + qu qs g))) := by
  unfold rTurn at ht
  split at ht
  · rename_i g' h1
    simp only [Option.some.injEq, Prod.mk.injEq] at ht
    obtain ⟨rfl, rfl⟩ := ht
    exact ⟨h, h1, rfl, rfl, (h.mem _).1 (by unfold lst; rw [h1]; exact List.mem_cons_self), .inl ⟨h1, rfl⟩⟩
  · rename_i h1
    split at ht
    · cases ht
    · rename_i g' r h2
      simp only [Option.some.injEq, Prod.mk.injEq] at ht
      obtain ⟨rfl, rfl⟩ := ht
      have hl : lst s = g' :: r := by unfold lst; rw [h1]; exact h2
      have hqg : s.q g' ≠ [] := (h.mem _).1 (by rw [hl]; exact List.mem_cons_self)
      refine ⟨⟨h.le, h.fl, ?_, ?_, ?_, ?_, ?_, h.so⟩, rfl, rfl, hl.symm, hqg, .inr ⟨h1, rfl⟩⟩
      · show (g' :: r).Nodup
        rw [← hl]; exact h.nd
      · intro x
        show x ∈ g' :: r ↔ _
        rw [← hl]; exact h.mem x
      · intro x
        show 0 ≤ upd s.c g' _ x
        by_cases hx : x = g'
        · rw [hx, upd_same]; have := h.pos g'; have := hq g'; omega
        · rw [upd_other _ _ hx]; exact h.pos x
      · intro x hx
        have hxg : x ≠ g' := fun e => hx (by rw [e])
        show upd s.c g' _ x = 0 ∨ ∃ k r, s.q x = k :: r ∧ upd s.c g' _ x < sOf p k
        rw [upd_other _ _ hxg]
        exact h.out x (by rw [h1]; simp)
      · intro x hx
        have hxg : g' = x := by injection hx
        subst hxg
        show upd s.c g' _ g' ≤ _ ∨ _
        rw [upd_same]
        rcases h.out g' (by rw [h1]; simp) with h9 | ⟨k, r', h9, h8⟩
        · rw [h9]; exact .inl (by omega)
        · refine .inr ⟨k, ?_, ?_⟩
          · have := (h.fl g' k (by rw [h9]; exact List.mem_cons_self)).1
            have := h.le
            omega
          · show upd s.c g' _ g' < _
            rw [upd_same]; omega
/-- A turn that ends. -/
theorem RI.end_ (h : RI p qs m s) (hs : s.sv = some g) (hc : ¬ sOf p (rHead s g) ≤ s.c g) : RI p qs m (rEnd s g) ∧ (lst (rEnd s g)).Perm (lst s) ∧ lst s = g :: s.row := by
  have hl : lst s = g :: s.row := by unfold lst; rw [hs]
  have hl2 : lst (rEnd s g) = s.row ++ [g] := rfl
  have hpm : (lst (rEnd s g)).Perm (lst s) := by rw [hl, hl2]; exact List.perm_append_comm (l₂ := [g])
  have hqg : s.q g ≠ [] := (h.mem _).1 (by rw [hl]; exact List.mem_cons_self)
  refine ⟨⟨h.le, h.fl, hpm.nodup_iff.2 h.nd, fun x => (hpm.mem_iff).trans (h.mem x), h.pos, fun x _ => ?_, (fun x hx => by cases hx), h.so⟩, hpm, hl⟩
  by_cases hx : x = g
  · subst hx
    exact .inr ⟨rHead s x, (s.q x).tail, rHead_mem hqg, by show s.c x < sOf p (rHead s x); omega⟩
  · exact h.out x (by rw [hs]; intro e; injection e with e; exact hx e.symm)
/-- The head is sent. -/
theorem RI.send (hp : ∀ x ∈ p, okPk x) (h : RI p qs m s) (hs : s.sv = some g) (hc : sOf p (rHead s g) ≤ s.c g) : RI p qs m (rSend p s g) := by
  have hl : lst s = g :: s.row := by unfold lst; rw [hs]
  have hqg : s.q g ≠ [] := (h.mem _).1 (by rw [hl]; exact List.mem_cons_self)
  have hh := rHead_mem hqg
  have hnd := h.nd
  rw [hl] at hnd
  obtain ⟨hn1, hn2⟩ := List.nodup_cons.1 hnd
  have hsz : 1 ≤ sOf p (rHead s g) := by
    have := (h.head hqg).1
    have hk : rHead s g < p.length := by have := h.le; omega
    rw [sOf_of hk]
    exact (hp _ (List.getElem_mem hk)).2.2.1
  unfold rSend
  by_cases ht : (s.q g).tail = []
  · rw [if_pos ht]
    refine ⟨h.le, ?_, hn2, ?_, ?_, ?_, (fun x hx => by cases hx), fun x => ?_⟩
    · intro x j hj
      by_cases hx : x = g
      · subst hx; simp only [upd_same] at hj; simp at hj
      · simp only [upd_other _ _ hx] at hj; exact h.fl x j hj
    · intro x
      show x ∈ s.row ↔ upd s.q g [] x ≠ []
      by_cases hx : x = g
      · subst hx; rw [upd_same]; simp [hn1]
      · rw [upd_other _ _ hx, ← h.mem x, hl]; simp [hx]
    · intro x
      show 0 ≤ upd s.c g 0 x
      by_cases hx : x = g
      · subst hx; rw [upd_same]; omega
      · rw [upd_other _ _ hx]; exact h.pos x
    · intro x _
      show upd s.c g 0 x = 0 ∨ ∃ k r, upd s.q g [] x = k :: r ∧ upd s.c g 0 x < sOf p k
      by_cases hx : x = g
      · subst hx; exact .inl (upd_same _ _ _)
      · rw [upd_other _ _ hx, upd_other _ _ hx]; exact h.out x (by rw [hs]; intro e; injection e with e; exact hx e.symm)
    · show (upd s.q g [] x).Pairwise (· < ·)
      by_cases hx : x = g
      · subst hx; rw [upd_same]; exact List.Pairwise.nil
      · rw [upd_other _ _ hx]; exact h.so x
  · rw [if_neg ht]
    have hl2 : lst { s with q := upd s.q g (s.q g).tail, c := upd s.c g (s.c g - sOf p (rHead s g)) } = lst s := rfl
    refine ⟨h.le, ?_, h.nd, ?_, ?_, ?_, ?_, fun x => ?_⟩
    · intro x j hj
      by_cases hx : x = g
      · subst hx; simp only [upd_same] at hj; exact h.fl x j (List.mem_of_mem_tail hj)
      · simp only [upd_other _ _ hx] at hj; exact h.fl x j hj
    · intro x
      rw [hl2]
      show _ ↔ upd s.q g (s.q g).tail x ≠ []
      by_cases hx : x = g
      · subst hx; rw [upd_same, h.mem x]; exact ⟨fun _ => ht, fun _ => hqg⟩
      · rw [upd_other _ _ hx]; exact h.mem x
    · intro x
      show 0 ≤ upd s.c g _ x
      by_cases hx : x = g
      · subst hx; rw [upd_same]; omega
      · rw [upd_other _ _ hx]; exact h.pos x
    · intro x hx
      have hxg : x ≠ g := fun e => hx (by rw [e]; exact hs)
      show upd s.c g _ x = 0 ∨ ∃ k r, upd s.q g _ x = k :: r ∧ upd s.c g _ x < sOf p k
      rw [upd_other _ _ hxg, upd_other _ _ hxg]
      exact h.out x hx
    · intro x hx
      have hx' : s.sv = some x := hx
      have hxg : g = x := by rw [hs] at hx'; injection hx'
      subst hxg
      show upd s.c g _ g ≤ _ ∨ ∃ j, j < p.length ∧ upd s.c g _ g < _
      rw [upd_same]
      rcases h.in_ g hs with h9 | ⟨j, h9, h8⟩
      · exact .inl (by omega)
      · exact .inr ⟨j, h9, by omega⟩
    · show (upd s.q g (s.q g).tail x).Pairwise (· < ·)
      by_cases hx : x = g
      · subst hx; rw [upd_same]; exact (h.so x).sublist (List.tail_sublist _)
      · rw [upd_other _ _ hx]; exact h.so x
theorem mu_turn (hq1 : 1 ≤ qu qs g) (hg : g < 8) (ht : rTurn qs s = some (g, s1)) (h1 : s1.sv = some g) (hc : s1.c g < 1500) (ho : (s.sv = some g ∧ s1 = s) ∨ (s.sv = none ∧ s1.c = upd s.c g (s.c g + qu qs g))) : rMu (rEnd s1 g) < rMu s := by
  have e0 : rMu (rEnd s1 g) = 2 * sum8 (lack s1) + 0 + 1 := rfl
  rcases ho with ⟨h2, rfl⟩ | ⟨h2, h3⟩
  · rw [e0]
    unfold rMu
    rw [h2]
    simp
  · rw [e0]
    unfold rMu
    rw [h2]
    have e : lack s1 = upd (lack s) g (1500 - (s.c g + qu qs g)).toNat := by
      funext x
      unfold lack
      rw [h3]
      by_cases hx : x = g
      · subst hx; rw [upd_same, upd_same]
      · rw [upd_other _ _ hx, upd_other _ _ hx]
    have h4 := sum8_upd (lack s) g (1500 - (s.c g + qu qs g)).toNat hg
    rw [← e] at h4
    have h5 : s1.c g = s.c g + qu qs g := by rw [h3, upd_same]
    have h6 : lack s g = (1500 - s.c g).toNat := rfl
    simp only [if_true]
    omega
end
theorem range8_flat (q : Nat → List Nat) : (List.range 8).flatMap q = q 0 ++ (q 1 ++ (q 2 ++ (q 3 ++ (q 4 ++ (q 5 ++ (q 6 ++ (q 7 ++ []))))))) := rfl
theorem flat_split (q : Nat → List Nat) (n g : Nat) (hg : g < n) : ((List.range n).flatMap q).Perm (q g ++ (List.range n).flatMap (upd q g [])) := by
  induction n with
  | zero => omega
  | succ n ih =>
    rw [List.range_succ, List.flatMap_append, List.flatMap_append]
    by_cases h : g = n
    · subst h
      have e : (List.range g).flatMap (upd q g []) = (List.range g).flatMap q := by
        unfold List.flatMap
        rw [List.map_congr_left]
        intro x hx
        exact upd_other _ _ (by have := List.mem_range.1 hx; omega)
      rw [e]
      simp only [List.flatMap_cons, List.flatMap_nil, List.append_nil, upd_same]
      exact List.perm_append_comm
    · have h1 := ih (by omega)
      simp only [List.flatMap_cons, List.flatMap_nil, List.append_nil]
      rw [upd_other _ _ (show n ≠ g from fun e => h e.symm), ← List.append_assoc]
      exact h1.append_right _
theorem upd_upd {α : Type} (f : Nat → α) (g : Nat) (x y : α) : upd (upd f g x) g y = upd f g y := by
  funext h
  unfold upd
  split <;> rfl
theorem lst_come (p : List Pk) (s : RS) (k : Nat) : lst (rCome p s k) = if flN p k ∈ lst s then lst s else lst s ++ [flN p k] := by
  obtain ⟨q, c, row, sv⟩ := s
  unfold rCome
  cases sv with
  | none =>
    show (if flN p k ∈ row then row else row ++ [flN p k]) = if flN p k ∈ row then row else row ++ [flN p k]
    rfl
  | some g =>
    show g :: (if flN p k ∈ g :: row then row else row ++ [flN p k]) = if flN p k ∈ g :: row then g :: row else g :: row ++ [flN p k]
    split <;> rfl
theorem RI.come {p : List Pk} {qs : List Int} {s : RS} {k : Nat} (h : RI p qs k s) (hk : k < p.length) : RI p qs (k + 1) (rCome p s k) := by
  have hq0 : s.q (flN p k) = [] ∨ s.q (flN p k) ≠ [] := by cases s.q (flN p k) <;> simp
  refine ⟨hk, ?_, ?_, ?_, h.pos, ?_, ?_, fun x => ?_⟩
  · intro x j hj
    show j < k + 1 ∧ _
    have hj' : j ∈ upd s.q (flN p k) (s.q (flN p k) ++ [k]) x := hj
    by_cases hx : x = flN p k
    · subst hx
      rw [upd_same] at hj'
      rcases List.mem_append.1 hj' with h1 | h1
      · have := h.fl _ j h1; exact ⟨by omega, this.2⟩
      · rw [List.mem_singleton.1 h1]; exact ⟨by omega, rfl⟩
    · rw [upd_other _ _ hx] at hj'
      have := h.fl x j hj'
      exact ⟨by omega, this.2⟩
  · rw [lst_come]
    by_cases hm : flN p k ∈ lst s
    · rw [if_pos hm]; exact h.nd
    · rw [if_neg hm]
      exact List.nodup_append.2 ⟨h.nd, (by simp), fun a ha b hb => by rw [List.mem_singleton.1 hb]; intro e; exact hm (e ▸ ha)⟩
  · intro x
    have hl : x ∈ lst (rCome p s k) ↔ x ∈ lst s ∨ x = flN p k := by
      rw [lst_come]
      by_cases hm : flN p k ∈ lst s
      · rw [if_pos hm]
        exact ⟨fun h1 => .inl h1, fun h1 => by rcases h1 with h1 | rfl; exact h1; exact hm⟩
      · rw [if_neg hm]
        simp
    rw [hl]
    show _ ↔ upd s.q (flN p k) (s.q (flN p k) ++ [k]) x ≠ []
    by_cases hx : x = flN p k
    · subst hx; rw [upd_same]; simp
    · rw [upd_other _ _ hx, h.mem x]; simp [hx]
  · intro x hx
    have hx' : s.sv ≠ some x := hx
    show s.c x = 0 ∨ ∃ k' r, upd s.q (flN p k) (s.q (flN p k) ++ [k]) x = k' :: r ∧ s.c x < sOf p k'
    rcases h.out x hx' with h1 | ⟨k', r, h1, h2⟩
    · exact .inl h1
    · by_cases hxk : x = flN p k
      · subst hxk; rw [upd_same, h1]; exact .inr ⟨k', r ++ [k], rfl, h2⟩
      · rw [upd_other _ _ hxk]; exact .inr ⟨k', r, h1, h2⟩
  · intro x hx
    exact h.in_ x hx
  · show (upd s.q (flN p k) (s.q (flN p k) ++ [k]) x).Pairwise (· < ·)
    by_cases hx : x = flN p k
    · subst hx
      rw [upd_same]
      exact List.pairwise_append.2 ⟨h.so _, by simp, fun a ha b hb => by rw [List.mem_singleton.1 hb]; exact (h.fl _ a ha).1⟩
    · rw [upd_other _ _ hx]; exact h.so x
theorem come_wait {p : List Pk} (s : RS) (k : Nat) (hg : flN p k < 8) : (rWait (rCome p s k)).Perm (k :: rWait s) := by
  have h1 := flat_split (upd s.q (flN p k) (s.q (flN p k) ++ [k])) 8 (flN p k) hg
  have h2 := flat_split s.q 8 (flN p k) hg
  rw [upd_upd, upd_same] at h1
  refine h1.trans ?_
  rw [List.append_assoc]
  exact (List.perm_middle (l₁ := s.q (flN p k)) (a := k) (l₂ := (List.range 8).flatMap (upd s.q (flN p k) []))).trans (List.Perm.cons k h2.symm)
theorem rSend_q (p : List Pk) (s : RS) (g : Nat) : (rSend p s g).q = upd s.q g (s.q g).tail := by
  unfold rSend
  split
  · rename_i h; rw [h]
  · rfl
theorem send_wait {p : List Pk} (s : RS) (g : Nat) (hg : g < 8) (hq : s.q g ≠ []) : (rWait s).Perm (rHead s g :: rWait (rSend p s g)) := by
  have h1 := flat_split s.q 8 g hg
  have h2 := flat_split (upd s.q g (s.q g).tail) 8 g hg
  rw [upd_upd, upd_same] at h2
  have e := rHead_mem hq
  unfold rWait
  rw [rSend_q]
  refine h1.trans ?_
  rw [e]
  exact List.Perm.cons _ h2.symm
section
variable {p : List Pk} {qs : List Int}
theorem rPick_some (hp : ∀ x ∈ p, okPk x) (hq : ∀ g, 0 ≤ qu qs g) (f : Nat) (s : RS) (m k : Nat) (s' : RS) (h : RI p qs m s) (hk : rPick p qs f s = some (k, s')) : RI p qs m s' ∧ (rWait s).Perm (k :: rWait s') := by
  induction f generalizing s with
  | zero => cases hk
  | succ f ih =>
    unfold rPick at hk
    split at hk
    · cases hk
    · rename_i g s1 ht
      obtain ⟨h1, h2, h3, h4, h5, _⟩ := h.turn hq ht
      have h5' : s1.q g ≠ [] := by rw [h3]; exact h5
      split at hk
      · rename_i hc
        simp only [Option.some.injEq, Prod.mk.injEq] at hk
        obtain ⟨rfl, rfl⟩ := hk
        refine ⟨h1.send hp h2 hc, ?_⟩
        have := send_wait (p := p) s1 g (h1.g8 hp h5') h5'
        unfold rWait at this ⊢
        rw [h3] at this
        exact this
      · rename_i hc
        have := ih _ (h1.end_ h2 hc).1 hk
        refine ⟨this.1, ?_⟩
        have hw : rWait (rEnd s1 g) = rWait s := by unfold rWait rEnd; rw [← h3]
        rw [← hw]
        exact this.2
theorem rPick_none (hp : ∀ x ∈ p, okPk x) (hq : ∀ g, 0 ≤ qu qs g) (hq1 : ∀ g, g < 8 → 1 ≤ qu qs g) (f : Nat) (s : RS) (m : Nat) (h : RI p qs m s) (hf : rMu s ≤ f) (hk : rPick p qs f s = none) : lst s = [] := by
  induction f generalizing s with
  | zero => unfold rMu at hf; omega
  | succ f ih =>
    unfold rPick at hk
    split at hk
    · rename_i ht; exact rTurn_none ht
    · rename_i g s1 ht
      obtain ⟨h1, h2, h3, h4, h5, h6⟩ := h.turn hq ht
      have h5' : s1.q g ≠ [] := by rw [h3]; exact h5
      split at hk
      · cases hk
      · rename_i hc
        have hg := h1.g8 hp h5'
        have hh := (h1.head h5').1
        have hk' : rHead s1 g < p.length := by have := h1.le; omega
        have hz := (hp _ (List.getElem_mem hk')).2.2.2.1
        rw [sOf_of hk'] at hc
        have hc2 : ¬ sOf p (rHead s1 g) ≤ s1.c g := by rw [sOf_of hk']; exact hc
        have hmu := mu_turn (hq1 g hg) hg ht h2 (by omega) h6
        have := ih _ (h1.end_ h2 hc2).1 (by omega) hk
        have hp2 := (h1.end_ h2 hc2).2.1
        rw [this] at hp2
        rw [← h4]
        exact (List.nil_perm.1 hp2)
theorem lst_wait {m : Nat} {s : RS} (h : RI p qs m s) (hl : lst s = []) : rWait s = [] := by
  have : ∀ g, s.q g = [] := fun g => by
    by_cases hg : s.q g = []
    · exact hg
    · exact absurd ((h.mem g).2 hg) (by rw [hl]; simp)
  unfold rWait
  rw [range8_flat]
  simp [this]
def roundM (p : List Pk) (qs : List Int) : Pol RS where
  come := rCome p
  pick s := rPick p qs (rMu s) s
  rest s := s
  wait := rWait
  ok := RI p qs
theorem roundOk (hp : ∀ x ∈ p, okPk x) (hq : ∀ g, 0 ≤ qu qs g) (hq1 : ∀ g, g < 8 → 1 ≤ qu qs g) : PolOk (roundM p qs) p.length where
  ok_come := fun s k h hk => h.come hk
  ok_pick := fun s m k s' h hk => (rPick_some hp hq _ s m k s' h hk).1
  ok_rest := fun s m h _ => h
  w_come := fun s k h hk => come_wait s k (flN_lt hp hk)
  w_none := fun s m h hk => lst_wait h (rPick_none hp hq hq1 _ s m h (Nat.le_refl _) hk)
  w_some := fun s m k s' h hk => (rPick_some hp hq _ s m k s' h hk).2
  w_rest := fun s m _ h => h
end
def rs0 : RS := ⟨fun _ => [], fun _ => 0, [], none⟩
theorem rs0_ok (p : List Pk) (qs : List Int) : RI p qs 0 rs0 :=
  ⟨Nat.zero_le _, by intro g j hj; simp [rs0] at hj, List.nodup_nil, fun g => by simp [rs0, lst], fun g => Int.le_refl _, fun g _ => .inl rfl, (fun g h => by cases h), fun g => List.Pairwise.nil⟩
theorem rs0_wait : rWait rs0 = [] := by unfold rWait; rw [range8_flat]; rfl
def roundL (p : List Pk) (per : Int) (qs : List Int) : List Sn := (serveS (roundM p qs) p per rs0).out
end Go.Proofs.YtoomffajodheaaaGreatDoor
namespace Go.Proofs.YtoomffajodheaaaGreatDoor
def ahd (a b : Nat) : List Nat → Int
  | [] => 0
  | x :: r => if x = a then 1 else if x = b then 0 else ahd a b r
/-- A flow's credit, less its quantum while it is its turn. -/
def rD (qs : List Int) (s : RS) (f : Nat) : Int := s.c f - if s.sv = some f then qu qs f else 0
def rPot (qs : List Int) (a b : Nat) (s : RS) : Int := rD qs s a * qu qs b - rD qs s b * qu qs a + ahd a b (lst s) * (qu qs a * qu qs b)
section
variable {p : List Pk} {qs : List Int} {m : Nat} {s s1 s' : RS} {g a b : Nat}
end
structure RoundJ (p : List Pk) (qs : List Int) (a b : Nat) (lo hi : Int) (t : St RS) : Prop where
  came : ∀ j, j < t.next → aOf p j ≤ t.now
  fr : ∀ i (h : i < t.out.length), t.out[i].f ≤ t.now
  tr : ∃ P Q : Nat → Int, ∀ i (h : i < t.out.length), WtP p a (t.out.take i) t.out[i] → WtP p b (t.out.take i) t.out[i] →
    (lo ≤ P i ∧ P i ≤ hi ∧ lo ≤ Q i ∧ Q i ≤ hi ∧ Q i = P i - cnt p (qu qs a) (qu qs b) a b t.out[i]) ∧ (i + 1 < t.out.length → P (i + 1) = Q i) ∧ (i + 1 = t.out.length → Q i = rPot qs a b t.s ∧ a ∈ lst t.s ∧ b ∈ lst t.s)
/-- All that are sent are the packets, each once. -/
theorem srv_perm {σ : Type} {M : Pol σ} {p : List Pk} {per : Int} {s0 : σ} (hM : PolOk M p.length) (hp : ∀ x ∈ p, okPk x) (h0 : 1 ≤ per) (h1 : per ≤ 1000) (hw : M.wait s0 = []) (ho : M.ok 0 s0) :
    (serveS M p per s0).out.length = p.length ∧ (∀ x ∈ (serveS M p per s0).out, 0 ≤ x.p) ∧ (∀ x ∈ (serveS M p per s0).out, x.p.toNat < p.length) ∧ ((serveS M p per s0).out.map fun x => x.p.toNat).Nodup := by
  obtain ⟨hi, hl⟩ := run_all hM hp h0 h1 (2 * p.length + 1) _ (inv_start p hw ho) (mu_start p _) (Nat.zero_le _)
  have hpm := hi.perm
  have hnd := hpm.nodup_iff.2 List.nodup_range
  refine ⟨hl, hi.pos, fun x hx => ?_, (List.nodup_append.1 hnd).1⟩
  have := List.mem_range.1 (hpm.mem_iff.1 (List.mem_append_left _ (List.mem_map.2 ⟨x, hx, rfl⟩)))
  have := hi.next_le
  exact Nat.lt_of_lt_of_le ‹_› this
end Go.Proofs.YtoomffajodheaaaGreatDoor
namespace Go.Proofs.YtoomffajodheaaaGreatDoor
/-- A clock of tags: who waits, tags, the last tags of flows, the clock's own. -/
structure FS where
  w : List Nat
  tg : Nat → Int
  last : Nat → Int
  v : Int
def fInc (p : List Pk) (ws : List Int) (k : Nat) : Int := (sOf p k * 12) / qu ws (flN p k)
def fTag (p : List Pk) (ws : List Int) (s : FS) (k : Nat) : Int := max s.v (s.last (flN p k)) + fInc p ws k
def fCome (p : List Pk) (ws : List Int) (s : FS) (k : Nat) : FS :=
  { s with w := s.w ++ [k], tg := upd s.tg k (fTag p ws s k), last := upd s.last (flN p k) (fTag p ws s k) }
def fBest (s : FS) : Nat := s.w.getD (bestI s.tg s.w) 0
def fPick (s : FS) : Option (Nat × FS) :=
  if s.w.length = 0 then none else some (fBest s, { s with w := s.w.eraseIdx (bestI s.tg s.w), v := s.tg (fBest s) })
def fRest (s : FS) : FS := { s with v := 0, last := fun _ => 0 }
/-- Tags that follow without gaps. -/
def Ch (tg inc : Nat → Int) : Int → List Nat → Int → Prop
  | s, [], e => s = e
  | s, k :: r, e => tg k = s + inc k ∧ Ch tg inc (tg k) r e
def fQ (p : List Pk) (f : Nat) (w : List Nat) : List Nat := w.filter (fun k => decide (flN p k = f))
/-- Tags are not too great. -/
structure FB (m : Nat) (s : FS) : Prop where
  t : ∀ j ∈ s.w, s.tg j ≤ 18000 * (m : Int)
  l : ∀ f, 0 ≤ s.last f ∧ s.last f ≤ 18000 * (m : Int)
  v : 0 ≤ s.v ∧ s.v ≤ 18000 * (m : Int)
structure FI (p : List Pk) (ws : List Int) (m : Nat) (s : FS) : Prop where
  lt : ∀ j ∈ s.w, j < m
  asc : s.w.Pairwise (· < ·)
  le : m ≤ p.length
  ge : ∀ j ∈ s.w, s.v ≤ s.tg j
  ch : ∀ f, ∃ x, x ≤ s.v ∧ Ch s.tg (fInc p ws) x (fQ p f s.w) (s.last f)
  bd : FB m s
section
variable {tg tg' inc : Nat → Int}
theorem Ch.congr {s e : Int} {l : List Nat} (h : Ch tg inc s l e) (hc : ∀ j ∈ l, tg' j = tg j) : Ch tg' inc s l e := by
  induction l generalizing s with
  | nil => exact h
  | cons k r ih =>
    obtain ⟨h1, h2⟩ := h
    have e1 := hc k List.mem_cons_self
    refine ⟨by rw [e1]; exact h1, ?_⟩
    rw [e1]
    exact ih h2 fun j hj => hc j (List.mem_cons_of_mem _ hj)
theorem Ch.app {s e : Int} {l : List Nat} {k : Nat} (h : Ch tg inc s l e) (hk : tg k = e + inc k) : Ch tg inc s (l ++ [k]) (tg k) := by
  induction l generalizing s with
  | nil => exact ⟨by rw [show s = e from h]; exact hk, rfl⟩
  | cons x r ih => exact ⟨h.1, ih h.2⟩
theorem Ch.ge {s e v : Int} {l : List Nat} (h : Ch tg inc s l e) (hl : l ≠ []) (hv : ∀ j ∈ l, v ≤ tg j) : v ≤ e := by
  induction l generalizing s with
  | nil => exact absurd rfl hl
  | cons k r ih =>
    cases r with
    | nil =>
      have h2 : tg k = e := h.2
      have := hv k List.mem_cons_self
      omega
    | cons x r => exact ih h.2 (by simp) fun j hj => hv j (List.mem_cons_of_mem _ hj)
theorem Ch.lt {s e : Int} {l : List Nat} (h : Ch tg inc s l e) (hi : ∀ j ∈ l, 1 ≤ inc j) : ∀ j ∈ l, s < tg j := by
  induction l generalizing s with
  | nil => simp
  | cons k r ih =>
    have h0 := hi k List.mem_cons_self
    have h1 := h.1
    intro j hj
    rcases List.mem_cons.1 hj with rfl | hj
    · omega
    · have := ih h.2 (fun j hj => hi j (List.mem_cons_of_mem _ hj)) j hj
      omega
end
theorem fQ_mem {p : List Pk} {f j : Nat} {w : List Nat} : j ∈ fQ p f w ↔ j ∈ w ∧ flN p j = f := by simp [fQ]
theorem fQ_app (p : List Pk) (f : Nat) (w r : List Nat) : fQ p f (w ++ r) = fQ p f w ++ fQ p f r := List.filter_append _ _
theorem fQ_one (p : List Pk) (f k : Nat) (r : List Nat) : fQ p f (k :: r) = if flN p k = f then k :: fQ p f r else fQ p f r := by
  unfold fQ
  rw [List.filter_cons]
  by_cases h : flN p k = f <;> simp [h]
/-- What a weight may be. -/
def wOk (ws : List Int) : Prop := ∀ g, g < 8 → 1 ≤ qu ws g ∧ qu ws g ∣ 12
theorem fInc_mul {p : List Pk} {ws : List Int} (hp : ∀ x ∈ p, okPk x) (hw : wOk ws) {k : Nat} (hk : k < p.length) : fInc p ws k * qu ws (flN p k) = sOf p k * 12 := by
  obtain ⟨h1, h2⟩ := hw _ (flN_lt hp hk)
  exact Int.ediv_mul_cancel (Int.dvd_trans h2 (Int.dvd_mul_left _ _))
theorem fInc_pos {p : List Pk} {ws : List Int} (hp : ∀ x ∈ p, okPk x) (hw : wOk ws) {k : Nat} (hk : k < p.length) : 1 ≤ fInc p ws k := by
  have h1 := (hw _ (flN_lt hp hk)).1
  have h2 := fInc_mul hp hw hk
  have h3 : 1 ≤ sOf p k := by rw [sOf_of hk]; exact (hp _ (List.getElem_mem hk)).2.2.1
  refine Int.not_lt.1 fun h4 => ?_
  have : fInc p ws k * qu ws (flN p k) ≤ 0 := Int.mul_nonpos_of_nonpos_of_nonneg (by omega) (by omega)
  omega
section
variable {p : List Pk} {ws : List Int} {m : Nat} {s s' : FS}
theorem fTag_ge (hp : ∀ x ∈ p, okPk x) (hw : wOk ws) {k : Nat} (hk : k < p.length) : s.v ≤ fTag p ws s k ∧ s.last (flN p k) ≤ fTag p ws s k := by
  have := fInc_pos hp hw hk
  unfold fTag
  omega
theorem fInc_le (hp : ∀ x ∈ p, okPk x) (hw : wOk ws) {k : Nat} (hk : k < p.length) : fInc p ws k ≤ 18000 := by
  have h1 := (hw _ (flN_lt hp hk)).1
  have h2 := fInc_mul hp hw hk
  have h4 := fInc_pos hp hw hk
  have h3 : sOf p k ≤ 1500 := by rw [sOf_of hk]; exact (hp _ (List.getElem_mem hk)).2.2.2.1
  have h5 : fInc p ws k * 1 ≤ fInc p ws k * qu ws (flN p k) := Int.mul_le_mul_of_nonneg_left h1 (by omega)
  omega
theorem fTag_bd (hp : ∀ x ∈ p, okPk x) (hw : wOk ws) {k m : Nat} (h : FB m s) (hk : k < p.length) : 0 ≤ fTag p ws s k ∧ fTag p ws s k ≤ 18000 * ((m + 1 : Nat) : Int) := by
  have h1 := fInc_pos hp hw hk
  have h2 := fInc_le hp hw hk
  have h3 := h.v
  have h4 := h.l (flN p k)
  unfold fTag
  omega
theorem FI.come (hp : ∀ x ∈ p, okPk x) (hw : wOk ws) {k : Nat} (h : FI p ws k s) (hk : k < p.length) : FI p ws (k + 1) (fCome p ws s k) := by
  have hne : ∀ j ∈ s.w, j ≠ k := fun j hj e => by have := h.lt j hj; omega
  refine ⟨fun j hj => ?_, ?_, hk, fun j hj => ?_, fun f => ?_, ⟨fun j hj => ?_, fun f => ?_, ?_⟩⟩
  · rcases List.mem_append.1 hj with h1 | h1
    · have := h.lt j h1; omega
    · rw [List.mem_singleton.1 h1]; omega
  · exact List.pairwise_append.2 ⟨h.asc, List.pairwise_singleton _ _, fun a ha b hb => by rw [List.mem_singleton.1 hb]; exact h.lt a ha⟩
  · show s.v ≤ upd s.tg k _ j
    rcases List.mem_append.1 hj with h1 | h1
    · rw [upd_other _ _ (hne j h1)]; exact h.ge j h1
    · rw [List.mem_singleton.1 h1, upd_same]; exact (fTag_ge hp hw hk).1
  · obtain ⟨x, h1, h2⟩ := h.ch f
    show ∃ x, x ≤ s.v ∧ Ch (upd s.tg k _) (fInc p ws) x (fQ p f (s.w ++ [k])) (upd s.last (flN p k) _ f)
    have hq : ∀ j ∈ fQ p f s.w, upd s.tg k (fTag p ws s k) j = s.tg j := fun j hj => upd_other _ _ (hne j (fQ_mem.1 hj).1)
    rw [fQ_app, fQ_one]
    by_cases hf : flN p k = f
    · rw [if_pos hf]
      subst hf
      rw [upd_same]
      by_cases hn : fQ p (flN p k) s.w = []
      · rw [hn] at h2 ⊢
        have h3 : x = s.last (flN p k) := h2
        refine ⟨s.v, Int.le_refl _, ?_, ?_⟩
        · rw [upd_same]; unfold fTag; omega
        · exact upd_same _ _ _
      · have h3 := h2.ge hn (v := s.v) fun j hj => h.ge j (fQ_mem.1 hj).1
        refine ⟨x, h1, ?_⟩
        have h4 := (h2.congr hq).app (k := k) (by rw [upd_same]; unfold fTag; omega)
        rw [upd_same] at h4
        exact h4
    · rw [if_neg hf, upd_other _ _ (fun e => hf e.symm)]
      refine ⟨x, h1, ?_⟩
      show Ch _ _ x (fQ p f s.w ++ []) _
      rw [List.append_nil]
      exact h2.congr hq
  · show upd s.tg k _ j ≤ _
    rcases List.mem_append.1 hj with h1 | h1
    · rw [upd_other _ _ (hne j h1)]; have := h.bd.t j h1; omega
    · rw [List.mem_singleton.1 h1, upd_same]; exact (fTag_bd hp hw h.bd hk).2
  · show 0 ≤ upd s.last _ _ f ∧ upd s.last _ _ f ≤ _
    by_cases hf : f = flN p k
    · subst hf; rw [upd_same]; exact fTag_bd hp hw h.bd hk
    · rw [upd_other _ _ hf]; have := h.bd.l f; omega
  · show 0 ≤ s.v ∧ s.v ≤ _
    have := h.bd.v
    omega
theorem fBest_ok (hs : 0 < s.w.length) : ∃ w1 w2, s.w = w1 ++ fBest s :: w2 ∧ s.w.eraseIdx (bestI s.tg s.w) = w1 ++ w2 ∧ (∀ j ∈ s.w, s.tg (fBest s) ≤ s.tg j) ∧ (∀ j ∈ w1, s.tg (fBest s) < s.tg j) := by
  have hb := bestI_ok s.tg s.w hs
  have hlt := hb.lt
  have e : fBest s = s.w[bestI s.tg s.w] := by unfold fBest; simp [List.getD, hlt]
  refine ⟨s.w.take (bestI s.tg s.w), s.w.drop (bestI s.tg s.w + 1), ?_, List.eraseIdx_eq_take_drop_succ _ _, fun j hj => ?_, fun j hj => ?_⟩
  · rw [e, ← List.drop_eq_getElem_cons hlt, List.take_append_drop]
  · obtain ⟨i, hi, rfl⟩ := List.mem_iff_getElem.1 hj
    have := hb.le i hi
    simp only [List.getD, List.getElem?_eq_getElem hi, Option.getD_some] at this
    exact this
  · obtain ⟨i, hi, rfl⟩ := List.mem_iff_getElem.1 hj
    have hi2 : i < bestI s.tg s.w := by
      have := hi; rw [List.length_take] at this; omega
    have := hb.first i hi2
    rw [List.getElem_take]
    simp only [List.getD, List.getElem?_eq_getElem (show i < s.w.length by omega), Option.getD_some] at this
    exact this
/-- The least tag is at the head of its flow. -/
theorem fBest_head (hp : ∀ x ∈ p, okPk x) (hw : wOk ws) (h : FI p ws m s) {w1 w2 : List Nat} (hs : s.w = w1 ++ fBest s :: w2) (hl : ∀ j ∈ s.w, s.tg (fBest s) ≤ s.tg j) : fQ p (flN p (fBest s)) w1 = [] := by
  obtain ⟨x, h1, h2⟩ := h.ch (flN p (fBest s))
  have hinc : ∀ j ∈ s.w, 1 ≤ fInc p ws j := fun j hj => fInc_pos hp hw (by have := h.lt j hj; have := h.le; omega)
  cases hq : fQ p (flN p (fBest s)) w1 with
  | nil => rfl
  | cons k r =>
    have hk : k ∈ w1 := (fQ_mem.1 (show k ∈ fQ p (flN p (fBest s)) w1 by rw [hq]; exact List.mem_cons_self)).1
    have hkw : k ∈ s.w := by rw [hs]; exact List.mem_append_left _ hk
    rw [hs, fQ_app, fQ_one, if_pos rfl, hq, List.cons_append] at h2
    have := h2.2.lt (fun j hj => hinc j ?_) (fBest s) (List.mem_append_right _ List.mem_cons_self)
    · have := hl k hkw
      omega
    · rw [hs]
      rcases List.mem_append.1 hj with h9 | h9
      · exact List.mem_append_left _ (fQ_mem.1 (show j ∈ fQ p (flN p (fBest s)) w1 by rw [hq]; exact List.mem_cons_of_mem _ h9)).1
      · rcases List.mem_cons.1 h9 with rfl | h9
        · exact List.mem_append_right _ List.mem_cons_self
        · exact List.mem_append_right _ (List.mem_cons_of_mem _ (fQ_mem.1 h9).1)
theorem fPick_eq {k : Nat} (hk : fPick s = some (k, s')) : 0 < s.w.length ∧ k = fBest s ∧ s' = { s with w := s.w.eraseIdx (bestI s.tg s.w), v := s.tg (fBest s) } := by
  unfold fPick at hk
  split at hk
  · cases hk
  · simp only [Option.some.injEq, Prod.mk.injEq] at hk
    exact ⟨by omega, hk.1.symm, hk.2.symm⟩
theorem FI.pick (hp : ∀ x ∈ p, okPk x) (hw : wOk ws) (h : FI p ws m s) {k : Nat} (hk : fPick s = some (k, s')) :
    FI p ws m s' ∧ s.v ≤ s'.v ∧ s'.v = s.tg k ∧ s'.tg = s.tg ∧ s.w.Perm (k :: s'.w) ∧ (∀ f, fQ p f s.w = if flN p k = f then k :: fQ p f s'.w else fQ p f s'.w) := by
  obtain ⟨h0, rfl, rfl⟩ := fPick_eq hk
  obtain ⟨w1, w2, e1, e2, e3, e4⟩ := fBest_ok h0
  have hh := fBest_head hp hw h e1 e3
  have hv := h.ge (fBest s) (by rw [e1]; exact List.mem_append_right _ List.mem_cons_self)
  have hsub : ∀ j ∈ w1 ++ w2, j ∈ s.w := fun j hj => by
    rw [e1]
    rcases List.mem_append.1 hj with h9 | h9
    · exact List.mem_append_left _ h9
    · exact List.mem_append_right _ (List.mem_cons_of_mem _ h9)
  have hQ : ∀ f, fQ p f s.w = if flN p (fBest s) = f then fBest s :: fQ p f (w1 ++ w2) else fQ p f (w1 ++ w2) := fun f => by
    rw [e1, fQ_app, fQ_one, fQ_app]
    by_cases hf : flN p (fBest s) = f
    · rw [if_pos hf]
      rw [hf] at hh
      rw [hh, List.nil_append, List.nil_append, if_pos hf]
    · rw [if_neg hf, if_neg hf]
  refine ⟨⟨fun j hj => ?_, ?_, h.le, fun j hj => ?_, fun f => ?_, ⟨fun j hj => ?_, h.bd.l, ?_⟩⟩, hv, rfl, rfl, ?_, fun f => ?_⟩
  · simp only [e2] at hj
    exact h.lt j (hsub j hj)
  · exact h.asc.sublist (List.eraseIdx_sublist _ _)
  · simp only [e2] at hj
    exact e3 j (hsub j hj)
  · obtain ⟨x, h1, h2⟩ := h.ch f
    rw [hQ] at h2
    show ∃ x, x ≤ s.tg (fBest s) ∧ Ch s.tg (fInc p ws) x (fQ p f (s.w.eraseIdx (bestI s.tg s.w))) (s.last f)
    rw [e2]
    by_cases hf : flN p (fBest s) = f
    · rw [if_pos hf] at h2
      exact ⟨_, Int.le_refl _, h2.2⟩
    · rw [if_neg hf] at h2
      exact ⟨x, by omega, h2⟩
  · simp only [e2] at hj
    exact h.bd.t j (hsub j hj)
  · show 0 ≤ s.tg (fBest s) ∧ s.tg (fBest s) ≤ _
    exact ⟨by have := h.bd.v; omega, h.bd.t _ (by rw [e1]; exact List.mem_append_right _ List.mem_cons_self)⟩
  · show s.w.Perm (fBest s :: s.w.eraseIdx _)
    rw [e2]
    have e5 : s.w.Perm (w1 ++ fBest s :: w2) := by rw [← e1]
    exact e5.trans List.perm_middle
  · rw [e2]; exact hQ f
theorem FI.rest (h : FI p ws m s) (hs : s.w = []) : FI p ws m (fRest s) :=
  ⟨h.lt, h.asc, h.le, fun j hj => by have hj' : j ∈ s.w := hj; rw [hs] at hj'; simp at hj', fun f => ⟨0, Int.le_refl _, by show Ch _ _ _ (fQ p f s.w) _; rw [hs]; rfl⟩, ⟨h.bd.t, fun f => ⟨Int.le_refl _, by show (0 : Int) ≤ _; omega⟩, by show (0:Int) ≤ 0 ∧ (0:Int) ≤ _; omega⟩⟩
end
def fairM (p : List Pk) (ws : List Int) : Pol FS where
  come := fCome p ws
  pick := fPick
  rest := fRest
  wait s := s.w
  ok := FI p ws
theorem fairOk {p : List Pk} {ws : List Int} (hp : ∀ x ∈ p, okPk x) (hw : wOk ws) : PolOk (fairM p ws) p.length where
  ok_come := fun s k h hk => h.come hp hw hk
  ok_pick := fun s m k s' h hk => (h.pick hp hw hk).1
  ok_rest := fun s m h hs => h.rest hs
  w_come := fun s k _ _ => List.perm_append_comm (l₂ := [k])
  w_none := fun s m _ hk => by
    simp only [fairM] at hk ⊢
    unfold fPick at hk
    split at hk
    · rename_i h; exact List.eq_nil_of_length_eq_zero h
    · cases hk
  w_some := fun s m k s' h hk => (h.pick hp hw hk).2.2.2.2.1
  w_rest := fun s m _ h => h
def fs0 : FS := ⟨[], fun _ => 0, fun _ => 0, 0⟩
theorem fs0_ok (p : List Pk) (ws : List Int) : FI p ws 0 fs0 :=
  ⟨by simp [fs0], List.Pairwise.nil, Nat.zero_le _, by simp [fs0], fun f => ⟨0, Int.le_refl _, rfl⟩, ⟨by simp [fs0], fun f => by simp [fs0], by simp [fs0]⟩⟩
def fairL (p : List Pk) (per : Int) (ws : List Int) : List Sn := (serveS (fairM p ws) p per fs0).out
def fairT (p : List Pk) (per : Int) (ws : List Int) : Nat → Int := (serveS (fairM p ws) p per fs0).s.tg
end Go.Proofs.YtoomffajodheaaaGreatDoor
namespace Go.Proofs.YtoomffajodheaaaGreatDoor
def fStart (p : List Pk) (ws : List Int) (s : FS) (f : Nat) : Int := match fQ p f s.w with
  | [] => 0
  | k :: _ => s.tg k - fInc p ws k
def fPot (p : List Pk) (ws : List Int) (a b : Nat) (s : FS) : Int := (fStart p ws s b - fStart p ws s a) * (qu ws a * qu ws b)
section
variable {p : List Pk} {ws : List Int} {m : Nat} {s s' : FS} {a b : Nat}
end
structure FairJ (p : List Pk) (ws : List Int) (a b : Nat) (lo hi : Int) (t : St FS) : Prop where
  came : ∀ j, j < t.next → aOf p j ≤ t.now
  fr : ∀ i (h : i < t.out.length), t.out[i].f ≤ t.now
  to_ : ∀ i (h : i < t.out.length), t.out[i].t ≤ t.now
  lv : ∀ i (h : i < t.out.length), i + 1 = t.out.length → t.now = t.out[i].t → t.s.tg t.out[i].p.toNat ≤ t.s.v
  mono : ∀ i (h : i + 1 < t.out.length), t.out[i + 1].f = t.out[i].t → t.s.tg t.out[i].p.toNat ≤ t.s.tg t.out[i + 1].p.toNat
  tr : ∃ P Q : Nat → Int, ∀ i (h : i < t.out.length), WtP p a (t.out.take i) t.out[i] → WtP p b (t.out.take i) t.out[i] →
    (lo ≤ P i ∧ P i ≤ hi ∧ lo ≤ Q i ∧ Q i ≤ hi ∧ Q i = P i - cnt p (12 * qu ws a) (12 * qu ws b) a b t.out[i]) ∧ (i + 1 < t.out.length → P (i + 1) = Q i) ∧ (i + 1 = t.out.length → Q i = fPot p ws a b t.s ∧ fQ p a t.s.w ≠ [] ∧ fQ p b t.s.w ≠ [])
end Go.Proofs.YtoomffajodheaaaGreatDoor
namespace Go.Proofs.YtoomffajodheaaaGreatDoor
section
variable {σ : Type} {M : Pol σ} {p : List Pk} {per : Int} {t : St σ}
theorem gcame_step (hM : PolOk M p.length) (hp : ∀ x ∈ p, okPk x) (hs : p.Pairwise (fun x y => x.a ≤ y.a)) (h0 : 1 ≤ per) (h : Inv M p t) (hlt : t.out.length < p.length) (hc : ∀ j, j < t.next → aOf p j ≤ t.now) : ∀ j, j < (stepS M p per t).next → aOf p j ≤ (stepS M p per t).now := by
  obtain ⟨hci, hlt2⟩ := comeL_inv hM t.now (p.drop t.next) t.next t.s rfl h.toC
  have hall := comeL_all hM hs h hc
  unfold stepS
  generalize comeL M t.now (p.drop t.next) t.next t.s = q at hci hlt2 hall
  cases hpk : M.pick q.2 with
  | none =>
    have hid := hci.idle hM hpk
    intro j hj
    exact aOf_mono hs (Nat.le_of_lt hj) (by simp only at hj; omega)
  | some ks =>
    obtain ⟨k, s'⟩ := ks
    have hk : k < q.1 := hci.pick_lt hM hpk
    have hkl : k < p.length := Nat.lt_of_lt_of_le hk hci.k_le
    intro j hj
    have h1 := (hall j (Nat.lt_of_lt_of_le hj hci.k_le)).1 hj
    show aOf p j ≤ t.now + per * sOf p k
    have h2 := (hp _ (List.getElem_mem hkl)).2.2.1
    rw [sOf_of hkl]
    have : 0 ≤ per * p[k].s := Int.mul_nonneg (by omega) (by omega)
    omega
/-- Those that wait: come, and not sent. -/
theorem gwait_iff (hM : PolOk M p.length) (hs : p.Pairwise (fun x y => x.a ≤ y.a)) (h : Inv M p t) (hc : ∀ j, j < t.next → aOf p j ≤ t.now) (j : Nat) (hl : j < p.length) :
    j ∈ M.wait (comeL M t.now (p.drop t.next) t.next t.s).2 ↔ (dnB t.out j = false ∧ aOf p j ≤ t.now) := by
  obtain ⟨hci, _⟩ := comeL_inv hM t.now (p.drop t.next) t.next t.s rfl h.toC
  have hall := comeL_all hM hs h hc j hl
  generalize comeL M t.now (p.drop t.next) t.next t.s = q at hci hall
  have hnd : ((t.out.map fun x => x.p.toNat) ++ M.wait q.2).Nodup := (hci.perm.nodup_iff).2 List.nodup_range
  have hm : ∀ j, (j ∈ (t.out.map fun x => x.p.toNat) ∨ j ∈ M.wait q.2) ↔ j < q.1 := fun j => (List.mem_append.symm).trans ((hci.perm.mem_iff).trans List.mem_range)
  rw [← hall, dnB_not]
  refine ⟨fun h1 => ⟨fun y hy e => ?_, (hm j).1 (.inr h1)⟩, fun ⟨h1, h2⟩ => ?_⟩
  · exact (List.nodup_append.1 hnd).2.2 _ (List.mem_map.2 ⟨y, hy, by omega⟩) _ h1 rfl
  · rcases (hm j).2 h2 with h3 | h3
    · obtain ⟨y, hy, e⟩ := List.mem_map.1 h3
      have := h.pos y hy
      exact absurd (show y.p = (j : Int) by omega) (h1 y hy)
    · exact h3
/-- Packets come one by one: those ahead of i have been looked at. -/
structure CAt (M : Pol σ) (p : List Pk) (t : St σ) (i k : Nat) (s : σ) : Prop where
  run : comeL M t.now (p.drop t.next) t.next t.s = comeL M t.now (p.drop k) k s
  inv : InvC M p t.out k s
  ge : t.next ≤ k
  at_ : k ≤ i ∨ k = t.next
  iff : ∀ j, j < i → (j < k ↔ aOf p j ≤ t.now)
theorem CAt.start (h : Inv M p t) : CAt M p t 0 t.next t.s := ⟨rfl, h.toC, Nat.le_refl _, .inr rfl, fun _ h => absurd h (Nat.not_lt_zero _)⟩
theorem CAt.old {i k : Nat} {s : σ} (h : CAt M p t i k s) (hc : ∀ j, j < t.next → aOf p j ≤ t.now) (hi : i < k) : CAt M p t (i + 1) k s ∧ aOf p i ≤ t.now := by
  have hk : k = t.next := by rcases h.at_ with h1 | h1 <;> omega
  have ha : aOf p i ≤ t.now := hc i (by omega)
  refine ⟨⟨h.run, h.inv, h.ge, .inr hk, fun j hj => ?_⟩, ha⟩
  rcases Nat.lt_succ_iff_lt_or_eq.1 hj with h9 | rfl
  · exact h.iff j h9
  · exact ⟨fun _ => ha, fun _ => hi⟩
theorem CAt.come {i : Nat} {s : σ} (h : CAt M p t i i s) (hM : PolOk M p.length) (hil : i < p.length) (ha : aOf p i ≤ t.now) : CAt M p t (i + 1) (i + 1) (M.come s i) := by
  refine ⟨?_, h.inv.come hM hil, by have := h.ge; omega, .inl (Nat.le_refl _), fun j hj => ?_⟩
  · rw [h.run, List.drop_eq_getElem_cons hil]
    rw [aOf_of hil] at ha
    exact if_pos ha
  · rcases Nat.lt_succ_iff_lt_or_eq.1 hj with h9 | rfl
    · have := h.iff j h9
      exact ⟨fun _ => this.1 h9, fun _ => hj⟩
    · exact ⟨fun _ => ha, fun _ => hj⟩
theorem CAt.end_ {k : Nat} {s : σ} (h : CAt M p t p.length k s) : comeL M t.now (p.drop t.next) t.next t.s = (k, s) := by
  rw [h.run]
  refine comeL_out M p t.now k s fun hk => ?_
  have := h.iff k hk
  omega
end
theorem BestAt.congr {p : List Pk} {key key' : Nat → Int} {now : Int} {out : List Sn} {i : Nat} {best : Int} (h : BestAt p key now out i best) (hk : ∀ j, j < i → key' j = key j) : BestAt p key' now out i best := by
  rcases h with ⟨e, h⟩ | ⟨b, hb, e, h1, h2, h3⟩
  · exact .inl ⟨e, h⟩
  · refine .inr ⟨b, hb, e, h1, h2, fun j hj hd ha => ?_⟩
    rw [hk j hj, hk b hb]
    exact h3 j hj hd ha
section
variable {p : List Pk} {per : Int} {ws : List Int} {t : St FS}
end
end Go.Proofs.YtoomffajodheaaaGreatDoor
