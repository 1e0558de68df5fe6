/- A gate, plainly: what each flow's shaper makes, and in which order packets come to the link. No program in sight. -/
import Derived.Test.YtoomffajodheaaaGreatDoorQShA
import Derived.Test.YtoomffajodheaaaGreatDoorQSrM
import Derived.Test.YtoomffajodheaaaGreatDoorQPkM
set_option linter.all false
namespace Go.Proofs.YtoomffajodheaaaGreatDoor
/-- Numbers of one flow's packets, of the first k. -/
def numsK (p : List Pk) (f k : Nat) : List Nat := (List.range k).filter fun j => decide (fOf p j = (f : Int))
def ownK (p : List Pk) (f k : Nat) : List Pk := (numsK p f k).map fun j => p.getD j ⟨0, 0, 0⟩
theorem numsK_yes {p : List Pk} {f k : Nat} (h : fOf p k = (f : Int)) : numsK p f (k + 1) = numsK p f k ++ [k] := by
  unfold numsK
  rw [List.range_succ, List.filter_append]
  simp [h]
theorem numsK_no {p : List Pk} {f k : Nat} (h : ¬ fOf p k = (f : Int)) : numsK p f (k + 1) = numsK p f k := by
  unfold numsK
  rw [List.range_succ, List.filter_append]
  simp [h]
theorem ownK_yes {p : List Pk} {f k : Nat} (h : fOf p k = (f : Int)) : ownK p f (k + 1) = ownK p f k ++ [p.getD k ⟨0, 0, 0⟩] := by
  unfold ownK
  rw [numsK_yes h, List.map_append]
  rfl
theorem ownK_no {p : List Pk} {f k : Nat} (h : ¬ fOf p k = (f : Int)) : ownK p f (k + 1) = ownK p f k := by
  unfold ownK
  rw [numsK_no h]
theorem range_getD (p : List Pk) : (List.range p.length).map (fun j => p.getD j ⟨0, 0, 0⟩) = p := by
  refine List.ext_getElem (by simp) fun j h1 h2 => ?_
  simp [List.getD, h2]
theorem numsK_mem {p : List Pk} {f k j : Nat} : j ∈ numsK p f k ↔ j < k ∧ fOf p j = (f : Int) := by
  unfold numsK
  simp
theorem numsK_nodup (p : List Pk) (f k : Nat) : (numsK p f k).Nodup := List.nodup_range.sublist List.filter_sublist
theorem numsK_len (p : List Pk) (f k : Nat) : (numsK p f k).length ≤ k := by
  have := (List.filter_sublist (p := fun j => decide (fOf p j = (f : Int))) (l := List.range k)).length_le
  simpa [numsK] using this
theorem ownK_len (p : List Pk) (f k : Nat) : (ownK p f k).length = (numsK p f k).length := List.length_map _
theorem ownK_sub (p : List Pk) (f : Nat) : (ownK p f p.length).Sublist p := by
  have h := ((List.filter_sublist (p := fun j => decide (fOf p j = (f : Int))) (l := List.range p.length))).map (fun j => p.getD j (⟨0, 0, 0⟩ : Pk))
  rw [range_getD] at h
  exact h
/-- What a flow's shaper makes of its packets; the place of the one that never leaves, else -1. -/
def shpR (l : List Ln) (p : List Pk) (f : Nat) : List Pk × Int := if l = [] then (ownK p f p.length, -1) else shapeR l (ownK p f p.length)
def flowBad (l : List Ln) (p : List Pk) (f : Nat) : Int := if (shpR l p f).2 = -1 then -1 else ((numsK p f p.length).getD (shpR l p f).2.toNat 0 : Nat)
/-- Ticks written by numbers. -/
def upA (a : Nat → Int) (k : Nat) (x : Int) : Nat → Int := fun j => if j = k then x else a j
def atS (a : Nat → Int) : List Nat → List Pk → (Nat → Int)
  | k :: ns, x :: os => atS (upA a k x.a) ns os
  | _, _ => a
def firstU (m b : Int) : Int := if m = -1 ∨ b < m then b else m
def gStep (cs : List (List Ln)) (p : List Pk) (f : Nat) (st : (Nat → Int) × Int) : (Nat → Int) × Int :=
  if flowBad (cs.getD f []) p f = -1 then (atS st.1 (numsK p f p.length) (shpR (cs.getD f []) p f).1, st.2) else (st.1, firstU st.2 (flowBad (cs.getD f []) p f))
def gFold (cs : List (List Ln)) (p : List Pk) : Nat → (Nat → Int) × Int
  | 0 => (fun _ => 0, -1)
  | f + 1 => gStep cs p f (gFold cs p f)
/-- Packets as they come to the link. -/
def gOut (p : List Pk) (at_ : Nat → Int) : List Pk := (ordL at_ p.length).map fun k => ⟨fOf p k, sOf p k, at_ k⟩
theorem atS_other (a : Nat → Int) (ns : List Nat) (os : List Pk) (k : Nat) (h : k ∉ ns) : atS a ns os k = a k := by
  induction ns generalizing a os with
  | nil => cases os <;> rfl
  | cons n ns ih =>
    cases os with
    | nil => rfl
    | cons x os =>
      unfold atS
      rw [ih _ _ (fun e => h (List.mem_cons_of_mem _ e))]
      unfold upA
      rw [if_neg (fun e => h (by rw [e]; exact List.mem_cons_self))]
theorem atS_at (a : Nat → Int) (ns : List Nat) (os : List Pk) (hn : ns.Nodup) (hl : os.length = ns.length) (i : Nat) (hi : i < ns.length) : atS a ns os ns[i] = (os[i]'(by omega)).a := by
  induction ns generalizing a os i with
  | nil => simp at hi
  | cons n ns ih =>
    cases os with
    | nil => simp at hl
    | cons x os =>
      obtain ⟨h1, h2⟩ := List.nodup_cons.1 hn
      unfold atS
      cases i with
      | zero =>
        simp only [List.getElem_cons_zero]
        rw [atS_other _ _ _ _ h1]
        unfold upA
        rw [if_pos rfl]
      | succ i =>
        simp only [List.getElem_cons_succ]
        exact ih _ _ h2 (by simpa using hl) i (by simpa using hi)
/-- A flow without a curve, or one whose shaper lets all through. -/
structure ShpOk (l : List Ln) (p : List Pk) (f : Nat) : Prop where
  len : (shpR l p f).1.length = (numsK p f p.length).length
  ok : ∀ x ∈ (shpR l p f).1, okPk x
  so : (shpR l p f).1.Pairwise (fun x y => x.a ≤ y.a)
  at_ : ∀ i (h1 : i < (numsK p f p.length).length) (h2 : i < (shpR l p f).1.length), (shpR l p f).1[i].f = fOf p (numsK p f p.length)[i] ∧ (shpR l p f).1[i].s = sOf p (numsK p f p.length)[i] ∧ aOf p (numsK p f p.length)[i] ≤ (shpR l p f).1[i].a ∧ (l = [] → (shpR l p f).1[i].a = aOf p (numsK p f p.length)[i])
  fit : l ≠ [] → fitsL l (shpR l p f).1 = true
theorem shp_ok {l : List Ln} {p : List Pk} {f : Nat} (hp : (pktErr p).1 = 0) (hl : l = [] ∨ ∀ y ∈ l, okLn y) (hb : (shpR l p f).2 = -1) : ShpOk l p f := by
  have hs := pktErr_sub hp (ownK_sub p f)
  have hok := pktErr_okPk hs
  have hso := pktErr_sorted' hs
  have hget : ∀ i (h1 : i < (numsK p f p.length).length) (h2 : i < (ownK p f p.length).length), (ownK p f p.length)[i].f = fOf p (numsK p f p.length)[i] ∧ (ownK p f p.length)[i].s = sOf p (numsK p f p.length)[i] ∧ (ownK p f p.length)[i].a = aOf p (numsK p f p.length)[i] := fun i h1 h2 => by
    simp only [ownK, List.getElem_map]
    exact ⟨rfl, rfl, rfl⟩
  by_cases h : l = []
  · have e : shpR l p f = (ownK p f p.length, -1) := if_pos h
    constructor
    · rw [e]; exact ownK_len _ _ _
    · rw [e]; exact hok
    · rw [e]; exact hso
    · simp only [e]
      intro i h1 h2
      obtain ⟨g1, g2, g3⟩ := hget i h1 h2
      exact ⟨g1, g2, by omega, fun _ => g3⟩
    · exact fun h9 => absurd h h9
  · have e : shpR l p f = shapeR l (ownK p f p.length) := if_neg h
    have hl' := hl.resolve_left h
    rw [e] at hb
    obtain ⟨t1, t2, t3, t4, t5, -, -⟩ := turner hl' (List.length_pos_iff.2 h) hok hso (Prod.ext rfl hb : shapeR l (ownK p f p.length) = ((shapeR l (ownK p f p.length)).1, -1))
    constructor
    · rw [e, t2]; exact ownK_len _ _ _
    · rw [e]; exact t4
    · rw [e]; exact t5
    · simp only [e]
      intro i h1 h2
      obtain ⟨g1, g2, g3⟩ := hget i h1 (by rw [ownK_len]; exact h1)
      obtain ⟨u1, u2, u3⟩ := t3 i (by rw [ownK_len]; exact h1) h2
      exact ⟨by omega, by omega, by omega, fun h9 => absurd h9 h⟩
    · intro _; rw [e]; exact t1
/-- Right curves, or none. -/
def CsOk (cs : List (List Ln)) : Prop := ∀ l ∈ cs, l = [] ∨ (crvErr l).1 = 0
theorem CsOk.get {cs : List (List Ln)} (h : CsOk cs) (f : Nat) : cs.getD f [] = [] ∨ ∀ y ∈ cs.getD f [], okLn y := by
  by_cases hf : f < cs.length
  · have e : cs.getD f [] = cs[f] := by simp [List.getD, hf]
    rw [e]
    rcases h _ (List.getElem_mem hf) with h | h
    · exact .inl h
    · exact .inr (crvErr_ok h).2.2.1
  · left
    simp [List.getD, List.getElem?_eq_none (show cs.length ≤ f by omega)]
/-- What holds of the ticks behind f flows. -/
structure AtOk (cs : List (List Ln)) (p : List Pk) (f : Nat) (a : Nat → Int) : Prop where
  le : ∀ k, k < p.length → fOf p k < (f : Int) → aOf p k ≤ a k ∧ a k ≤ 1099511627776
  fl : ∀ g, g < f → (shpR (cs.getD g []) p g).2 = -1 ∧ ∀ i (h1 : i < (numsK p g p.length).length) (h2 : i < (shpR (cs.getD g []) p g).1.length), a (numsK p g p.length)[i] = (shpR (cs.getD g []) p g).1[i].a
theorem firstU_ne {m b : Int} (hb : b ≠ -1) : firstU m b ≠ -1 := by
  unfold firstU
  split
  · exact hb
  · rename_i h
    intro e
    exact h (.inl e)
theorem flowBad_ok {l : List Ln} {p : List Pk} {f : Nat} (h : flowBad l p f = -1) : (shpR l p f).2 = -1 := by
  unfold flowBad at h
  by_cases h1 : (shpR l p f).2 = -1
  · exact h1
  · rw [if_neg h1] at h; omega
theorem gFold_ok {cs : List (List Ln)} {p : List Pk} (hp : (pktErr p).1 = 0) (hc : CsOk cs) (f : Nat) (h : (gFold cs p f).2 = -1) : AtOk cs p f (gFold cs p f).1 := by
  induction f with
  | zero => exact ⟨fun k hk h9 => by have := (pktErr_okPk hp _ (List.getElem_mem hk)).1; rw [fOf_of hk] at h9; omega, fun g hg => by omega⟩
  | succ f ih =>
    unfold gFold gStep at h ⊢
    by_cases hb : flowBad (cs.getD f []) p f = -1
    · rw [if_pos hb] at h ⊢
      have hi := ih h
      have hb2 := flowBad_ok hb
      have hs := shp_ok hp (hc.get f) hb2
      have hin : ∀ i (h1 : i < (numsK p f p.length).length) (h2 : i < (shpR (cs.getD f []) p f).1.length), atS (gFold cs p f).1 (numsK p f p.length) (shpR (cs.getD f []) p f).1 (numsK p f p.length)[i] = (shpR (cs.getD f []) p f).1[i].a := fun i h1 h2 => atS_at _ _ _ (numsK_nodup _ _ _) hs.len i h1
      refine ⟨fun k hk h9 => ?_, fun g hg => ?_⟩
      · by_cases hkf : fOf p k = (f : Int)
        · have hm : k ∈ numsK p f p.length := numsK_mem.2 ⟨hk, hkf⟩
          obtain ⟨i, hi1, hi2⟩ := List.getElem_of_mem hm
          have e := hin i hi1 (by rw [hs.len]; exact hi1)
          obtain ⟨a1, a2, a3, -⟩ := hs.at_ i hi1 (by rw [hs.len]; exact hi1)
          have h7 := hs.ok _ (List.getElem_mem (show i < (shpR (cs.getD f []) p f).1.length by rw [hs.len]; exact hi1))
          rw [hi2] at e a3
          simp only
          rw [e]
          exact ⟨a3, h7.2.2.2.2.2⟩
        · simp only
          rw [atS_other _ _ _ _ (fun e => hkf (numsK_mem.1 e).2)]
          exact hi.le k hk (by omega)
      · by_cases hgf : g = f
        · subst hgf
          exact ⟨hb2, hin⟩
        · obtain ⟨q1, q2⟩ := hi.fl g (by omega)
          refine ⟨q1, fun i h1 h2 => ?_⟩
          simp only
          rw [atS_other _ _ _ _ (fun e => by
            have e1 := (numsK_mem.1 e).2
            have e2 := (numsK_mem.1 (List.getElem_mem h1)).2
            omega)]
          exact q2 i h1 h2
    · rw [if_neg hb] at h
      exact absurd h (firstU_ne hb)
/-- Right packets come to the link. -/
theorem gOut_ok {cs : List (List Ln)} {p : List Pk} (hp : (pktErr p).1 = 0) (hc : CsOk cs) (h : (gFold cs p 8).2 = -1) : (pktErr (gOut p (gFold cs p 8).1)).1 = 0 := by
  have ha := gFold_ok hp hc 8 h
  have hok := pktErr_okPk hp
  refine pktErr_of ?_ (fun x hx => ?_) ?_
  · unfold gOut
    rw [List.length_map, ordL_len]
    exact pktErr_len hp
  · obtain ⟨k, hk, rfl⟩ := List.mem_map.1 hx
    have hkl := ordL_lt hk
    obtain ⟨x1, x2, x3, x4, x5, x6⟩ := hok _ (List.getElem_mem hkl)
    obtain ⟨y1, y2⟩ := ha.le k hkl (by rw [fOf_of hkl]; exact x2)
    rw [aOf_of hkl] at y1
    refine ⟨?_, ?_, ?_, ?_, ?_, ?_⟩ <;> simp only [fOf_of hkl, sOf_of hkl] <;> omega
  · unfold gOut
    rw [List.pairwise_map]
    refine (ordL_lex _ _).imp fun {a b} hab => ?_
    unfold LexN at hab
    simp only
    omega
theorem gOut_len (p : List Pk) (a : Nat → Int) : (gOut p a).length = p.length := by unfold gOut; rw [List.length_map, ordL_len]
end Go.Proofs.YtoomffajodheaaaGreatDoor
