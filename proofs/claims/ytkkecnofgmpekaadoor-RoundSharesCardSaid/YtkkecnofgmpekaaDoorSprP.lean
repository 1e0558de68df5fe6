/- The spread of two flows in what was sent, plainly: as package round takes it, stretch by stretch; a bound of it by a potential. No program. No condition. -/
import Derived.Test.YtkkecnofgmpekaaDoorRankW
namespace Go.Proofs.YtkkecnofgmpekaaDoor
def flS (p : List Pk) (x : Sn) : Nat := (fOf p x.p.toNat).toNat
/-- Does a flow wait at one that is sent, with those behind it? -/
def wtB (p : List Pk) (f : Nat) (s : Sn) (r : List Sn) : Bool := r.any fun y => decide (flS p y = f ∧ aOf p y.p.toNat ≤ s.f)
/-- What one that is sent counts. -/
def cnt (p : List Pk) (qa qb : Int) (a b : Nat) (s : Sn) : Int := (if flS p s = a then sOf p s.p.toNat * qb else 0) - (if flS p s = b then sOf p s.p.toNat * qa else 0)
def sprGo (p : List Pk) (qa qb : Int) (a b : Nat) : Int → Int → Int → Int → List Sn → Int
  | most, _, _, _, [] => most
  | most, sum, low, high, s :: r =>
    if wtB p a s r = true ∧ wtB p b s r = true then
      sprGo p qa qb a b (max (max most (sum + cnt p qa qb a b s - low)) (high - (sum + cnt p qa qb a b s))) (sum + cnt p qa qb a b s) (min low (sum + cnt p qa qb a b s)) (max high (sum + cnt p qa qb a b s)) r
    else sprGo p qa qb a b most 0 0 0 r
def sprL (p : List Pk) (qa qb : Int) (a b : Nat) (l : List Sn) : Int := sprGo p qa qb a b 0 0 0 0 l
/-- A potential: what is sent lowers it by what it counts, while both wait. -/
structure Tr (p : List Pk) (qa qb : Int) (a b : Nat) (lo hi : Int) (l : List Sn) (P Q : Nat → Int) : Prop where
  all : ∀ i (h : i < l.length), wtB p a l[i] (l.drop (i + 1)) = true → wtB p b l[i] (l.drop (i + 1)) = true →
    lo ≤ P i ∧ P i ≤ hi ∧ lo ≤ Q i ∧ Q i ≤ hi ∧ Q i = P i - cnt p qa qb a b l[i] ∧ (i + 1 < l.length → P (i + 1) = Q i)
theorem spr_le_go {p : List Pk} {qa qb : Int} {a b : Nat} {lo hi : Int} {l : List Sn} {P Q : Nat → Int} (h : Tr p qa qb a b lo hi l P Q) (h0 : lo ≤ hi) :
    ∀ (r : List Sn) (i : Nat) (most sum low high : Int), l.drop i = r → most ≤ hi - lo →
      ((sum = 0 ∧ low = 0 ∧ high = 0) ∨ ∃ P0 : Int, (i < l.length → P0 - sum = P i) ∧ lo ≤ P0 - low ∧ P0 - low ≤ hi ∧ lo ≤ P0 - high ∧ P0 - high ≤ hi) →
      sprGo p qa qb a b most sum low high r ≤ hi - lo := by
  intro r
  induction r with
  | nil => intro i most sum low high _ hm _; exact hm
  | cons s r ih =>
    intro i most sum low high hr hm hinv
    have hi1 : i < l.length := by
      have := congrArg List.length hr
      simp at this
      omega
    have hd := List.drop_eq_getElem_cons hi1
    rw [hr] at hd
    injection hd with hs hr'
    unfold sprGo
    by_cases hw : wtB p a s r = true ∧ wtB p b s r = true
    · rw [if_pos hw]
      have hw' := hw
      rw [hs, hr'] at hw'
      obtain ⟨t1, t2, t3, t4, t5, t6⟩ := h.all i hi1 hw'.1 hw'.2
      rw [← hs] at t5
      generalize cnt p qa qb a b s = x at t5 ⊢
      rcases hinv with ⟨rfl, rfl, rfl⟩ | ⟨P0, e1, e2, e3, e4, e5⟩
      · refine ih (i + 1) _ _ _ _ hr'.symm (by omega) (.inr ⟨P i, fun h9 => ?_, by omega, by omega, by omega, by omega⟩)
        rw [t6 h9]; omega
      · have e1' := e1 hi1
        refine ih (i + 1) _ _ _ _ hr'.symm (by omega) (.inr ⟨P0, fun h9 => ?_, by omega, by omega, by omega, by omega⟩)
        rw [t6 h9]; omega
    · rw [if_neg hw]
      exact ih (i + 1) most 0 0 0 hr'.symm hm (.inl ⟨rfl, rfl, rfl⟩)
theorem spr_le {p : List Pk} {qa qb : Int} {a b : Nat} {lo hi : Int} {l : List Sn} {P Q : Nat → Int} (h : Tr p qa qb a b lo hi l P Q) (h0 : lo ≤ hi) : sprL p qa qb a b l ≤ hi - lo :=
  spr_le_go h h0 l 0 0 0 0 0 rfl (by omega) (.inl ⟨rfl, rfl, rfl⟩)
/-- Those that had come, of a flow, and are not sent yet. -/
def WtP (p : List Pk) (f : Nat) (prev : List Sn) (x : Sn) : Prop := ∃ j, j < p.length ∧ (fOf p j).toNat = f ∧ aOf p j ≤ x.f ∧ (∀ y ∈ prev, y.p ≠ j) ∧ x.p ≠ j
theorem wt_of {p : List Pk} {f : Nat} {l : List Sn} (hpos : ∀ x ∈ l, 0 ≤ x.p) (hlt : ∀ x ∈ l, x.p.toNat < p.length) (hnd : (l.map fun x => x.p.toNat).Nodup) {i : Nat} (hi : i < l.length) (h : wtB p f l[i] (l.drop (i + 1)) = true) : WtP p f (l.take i) l[i] := by
  unfold wtB at h
  obtain ⟨y, hy, hd⟩ := List.any_eq_true.1 h
  obtain ⟨h1, h2⟩ := of_decide_eq_true hd
  have hyl : y ∈ l := List.mem_of_mem_drop hy
  have hsplit : l = l.take i ++ l[i] :: l.drop (i + 1) := by rw [← List.drop_eq_getElem_cons hi, List.take_append_drop]
  rw [hsplit, List.map_append, List.map_cons] at hnd
  obtain ⟨_, h3, h4⟩ := List.nodup_append.1 hnd
  obtain ⟨h5, _⟩ := List.nodup_cons.1 h3
  have hym : y.p.toNat ∈ (l.drop (i + 1)).map fun x => x.p.toNat := List.mem_map.2 ⟨y, hy, rfl⟩
  have hy0 := hpos y hyl
  refine ⟨y.p.toNat, hlt y hyl, h1, h2, fun z hz e => ?_, fun e => ?_⟩
  · have hz2 : z.p.toNat = y.p.toNat := by rw [e]; omega
    exact h4 _ (List.mem_map.2 ⟨z, hz, rfl⟩) _ (List.mem_cons_of_mem _ hym) hz2
  · have : l[i].p.toNat = y.p.toNat := by rw [e]; omega
    exact h5 (this ▸ hym)
end Go.Proofs.YtkkecnofgmpekaaDoor
