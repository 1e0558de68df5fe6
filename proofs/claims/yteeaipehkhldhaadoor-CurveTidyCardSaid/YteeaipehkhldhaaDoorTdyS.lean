/- Plain arithmetic of tidy lines: sums of two curves; what tidy lines are. No program. No condition. -/
import Derived.Test.YteeaipehkhldhaaDoorTdyQ
namespace Go.Proofs.YteeaipehkhldhaaDoor
def lexB (a b : Ln) : Bool := decide (a.b < b.b ∨ (a.b = b.b ∧ a.r ≤ b.r))
theorem sort_ex (l : List Ln) : ∃ s : List Ln, s.Perm l ∧ s.Pairwise lexLe := by
  induction l with
  | nil => exact ⟨[], List.Perm.refl _, List.Pairwise.nil⟩
  | cons x r ih =>
    obtain ⟨s, hp, hs⟩ := ih
    refine ⟨s.takeWhile (fun y => lexB y x) ++ x :: s.dropWhile (fun y => lexB y x), ?_, ?_⟩
    · refine List.perm_middle.trans (List.Perm.cons x ?_)
      rw [List.takeWhile_append_dropWhile]
      exact hp
    · clear hp
      induction s with
      | nil => simp
      | cons y s ihs =>
        obtain ⟨h1, h2⟩ := List.pairwise_cons.1 hs
        by_cases hc : lexB y x = true
        · rw [List.takeWhile_cons_of_pos (p := fun y => lexB y x) hc, List.dropWhile_cons_of_pos (p := fun y => lexB y x) hc, List.cons_append]
          refine List.pairwise_cons.2 ⟨fun z hz => ?_, ihs h2⟩
          rcases List.mem_append.1 hz with hz | hz
          · exact h1 z ((List.takeWhile_sublist _).subset hz)
          · rcases List.mem_cons.1 hz with rfl | hz
            · have h9 := hc
              unfold lexB at h9
              have h9 := of_decide_eq_true h9
              exact h9
            · exact h1 z ((List.dropWhile_sublist _).subset hz)
        · rw [List.takeWhile_cons_of_neg (p := fun y => lexB y x) hc, List.dropWhile_cons_of_neg (p := fun y => lexB y x) hc, List.nil_append]
          have hyx : lexLe x y := by
            have := of_decide_eq_false (Bool.eq_false_iff.2 hc)
            unfold lexLe
            omega
          refine List.pairwise_cons.2 ⟨fun z hz => ?_, hs⟩
          rcases List.mem_cons.1 hz with rfl | hz
          · exact hyx
          · have := h1 z hz
            unfold lexLe at *
            omega
theorem tidy_ex {l : List Ln} (hr : ∀ y ∈ l, 0 ≤ y.r) : ∃ s st : List Ln, s.Perm l ∧ HI s st ∧ tidyRef l = st.reverse ∧ st.length ≤ s.length := by
  obtain ⟨s, hp, hs⟩ := sort_ex l
  have hr' : ∀ y ∈ s, 0 ≤ y.r := fun y hy => hr y (hp.mem_iff.1 hy)
  refine ⟨s, hullL s, hp, hull_HI hs hr', (tidy_eq (fun x => hp.mem_iff) hs hr').symm, ?_⟩
  have := hull_len s []
  simpa [hullL] using this
theorem tidy_ne {l : List Ln} (hr : ∀ y ∈ l, 0 ≤ y.r) (h : 0 < l.length) : 0 < (tidyRef l).length := by
  obtain ⟨s, st, hp, hi, e, _⟩ := tidy_ex hr
  rw [e, List.length_reverse]
  cases st with
  | nil =>
    have h1 := hi.nil rfl
    rw [h1] at hp
    have := hp.length_eq
    simp at this
    omega
  | cons _ _ => simp
theorem tidy_len {l : List Ln} (hr : ∀ y ∈ l, 0 ≤ y.r) : (tidyRef l).length ≤ l.length := by
  obtain ⟨s, st, hp, hi, e, h⟩ := tidy_ex hr
  rw [e, List.length_reverse, ← hp.length_eq]
  exact h
theorem tidy_sub (l : List Ln) : ∀ x ∈ tidyRef l, x ∈ l := fun x hx => ((tidyRef_spec l).2 x).1 hx |>.1
theorem tidy_val {l : List Ln} (hr : ∀ y ∈ l, 0 ≤ y.r) (h : 0 < l.length) {t : Int} (ht : 0 ≤ t) : valueL (tidyRef l) t = valueL l t := by
  obtain ⟨s, st, hp, hi, e, _⟩ := tidy_ex hr
  have h0 : 0 < s.length := by rw [hp.length_eq]; exact h
  rw [e, tidy_value hi h0 ht]
  refine valueL_eq (l' := l) h0 (fun x hx => valueL_le (hp.mem_iff.1 hx) t) ?_
  obtain ⟨y, hy, e2⟩ := valueL_mem h t
  exact ⟨y, hp.mem_iff.2 hy, by omega⟩
theorem tidy_desc {l : List Ln} (hr : ∀ y ∈ l, 0 ≤ y.r) : (tidyRef l).Pairwise fun a b => a.b < b.b ∧ b.r < a.r := by
  obtain ⟨s, st, hp, hi, e, hlen⟩ := tidy_ex hr
  rw [e]
  refine List.pairwise_reverse.2 ?_
  have := hi.ch
  clear hi e hlen
  induction st with
  | nil => exact List.Pairwise.nil
  | cons c r ih => exact List.pairwise_cons.2 ⟨fun x hx => this.below x hx, ih this.tail⟩
def addLn (x y : Ln) : Ln := ⟨x.b + y.b, x.r + y.r⟩
def sumAll (a b : List Ln) : List Ln := a.flatMap fun x => b.map fun y => addLn x y
theorem mem_sumAll {a b : List Ln} {z : Ln} : z ∈ sumAll a b ↔ ∃ x ∈ a, ∃ y ∈ b, z = addLn x y := by
  unfold sumAll
  rw [List.mem_flatMap]
  constructor
  · rintro ⟨x, hx, h⟩
    obtain ⟨y, hy, e⟩ := List.mem_map.1 h
    exact ⟨x, hx, y, hy, e.symm⟩
  · rintro ⟨x, hx, y, hy, e⟩
    exact ⟨x, hx, List.mem_map.2 ⟨y, hy, e.symm⟩⟩
theorem sumAll_len (a b : List Ln) : (sumAll a b).length = a.length * b.length := by
  unfold sumAll
  induction a with
  | nil => simp
  | cons x r ih => rw [List.flatMap_cons, List.length_append, ih, List.length_map, List.length_cons, Nat.succ_mul, Nat.add_comm]
theorem lineAt_add (x y : Ln) (t : Int) : lineAt x t + lineAt y t ≤ lineAt (addLn x y) t ∧ lineAt (addLn x y) t ≤ lineAt x t + lineAt y t + 1 := by
  unfold lineAt addLn
  simp only
  rw [Int.add_mul]
  omega
theorem sum_val {a b : List Ln} (ha : 0 < a.length) (hb : 0 < b.length) (t : Int) : valueL a t + valueL b t ≤ valueL (sumAll a b) t ∧ valueL (sumAll a b) t ≤ valueL a t + valueL b t + 1 := by
  have h0 : 0 < (sumAll a b).length := by rw [sumAll_len]; exact Nat.mul_pos ha hb
  constructor
  · obtain ⟨z, hz, e⟩ := valueL_mem h0 t
    obtain ⟨x, hx, y, hy, rfl⟩ := mem_sumAll.1 hz
    have := lineAt_add x y t
    have := valueL_le hx t
    have := valueL_le hy t
    omega
  · obtain ⟨x, hx, e1⟩ := valueL_mem ha t
    obtain ⟨y, hy, e2⟩ := valueL_mem hb t
    have := valueL_le (mem_sumAll.2 ⟨x, hx, y, hy, rfl⟩) t
    have := lineAt_add x y t
    omega
/-- An error's number of a sum: a line out of bounds; too many lines. -/
def sumErr (a b : List Ln) : Nat := if (sumAll a b).all (fun z => lineB z.b z.r) then (if 6 < (tidyRef (sumAll a b)).length then 3 else 0) else 2
def sumL (a b : List Ln) : List Ln := if sumErr a b = 0 then tidyRef (sumAll a b) else []
theorem sum_ok {a b : List Ln} (h : sumErr a b = 0) : (∀ z ∈ sumAll a b, okLn z) ∧ (tidyRef (sumAll a b)).length ≤ 6 ∧ sumL a b = tidyRef (sumAll a b) := by
  have h2 := h
  unfold sumErr at h
  by_cases h1 : (sumAll a b).all (fun z => lineB z.b z.r) = true
  · rw [if_pos h1] at h
    refine ⟨fun z hz => (by have h9 := List.all_eq_true.1 h1 z hz; unfold lineB at h9; have h9 := of_decide_eq_true h9; exact h9), ?_, if_pos h2⟩
    by_cases h3 : 6 < (tidyRef (sumAll a b)).length
    · rw [if_pos h3] at h; simp at h
    · omega
  · rw [if_neg h1] at h; simp at h
end Go.Proofs.YteeaipehkhldhaaDoor
