/- Plain arithmetic of tidy lines: the lower hull, line by line; which lines are somewhere the least. No program. No condition. Plain arithmetic of tidy lines: what is kept is what is somewhere the least; the document's way gives the same lines; what curves tell. No program. No condition. Plain arithmetic of tidy lines: sums of two curves; what tidy lines are. No program. No condition. -/
import Derived.Test.YtoomffajodheaaaGreatDoorQCvM
set_option linter.all false
namespace Go.Proofs.YtoomffajodheaaaGreatDoor
/-- Three lines, each flatter than the one ahead: the middle one is somewhere the least of them. -/
def TT (p a c : Ln) : Prop := (a.b - p.b) * (a.r - c.r) < (c.b - a.b) * (p.r - a.r)
instance (p a c : Ln) : Decidable (TT p a c) := by unfold TT; exact inferInstance
def needB (a b c : Ln) : Bool := decide ((c.b - a.b) * (a.r - b.r) ≤ (b.b - a.b) * (a.r - c.r))
theorem needB_iff (p a c : Ln) : needB p a c = true ↔ ¬ TT p a c := by
  unfold needB TT
  rw [decide_eq_true_iff]
  have e1 : (c.b - p.b) * (p.r - a.r) = (c.b - a.b) * (p.r - a.r) + (a.b - p.b) * (p.r - a.r) := by rw [← Int.add_mul]; congr 1; omega
  have e2 : (a.b - p.b) * (p.r - c.r) = (a.b - p.b) * (p.r - a.r) + (a.b - p.b) * (a.r - c.r) := by rw [← Int.mul_add]; congr 1; omega
  rw [e1, e2]
  omega
/-- The row of lines that are kept, the last one ahead. -/
def hullPop (x : Ln) : List Ln → List Ln
  | b :: a :: r => if needB a b x then hullPop x (a :: r) else b :: a :: r
  | l => l
def hullStep (st : List Ln) (x : Ln) : List Ln := match st with
  | [] => [x]
  | t :: r => if t.r ≤ x.r then t :: r else x :: hullPop x (t :: r)
def hullL (l : List Ln) : List Ln := l.foldl hullStep []
/-- What a line tells at n over d, times d. -/
def vv (n d : Int) (x : Ln) : Int := x.b * d + x.r * n
def Chain : List Ln → Prop
  | c :: a :: p :: r => a.b < c.b ∧ c.r < a.r ∧ TT p a c ∧ Chain (a :: p :: r)
  | [c, a] => a.b < c.b ∧ c.r < a.r
  | _ => True
theorem Chain.tail {c : Ln} {r : List Ln} (h : Chain (c :: r)) : Chain r := by
  match r, h with
  | [], _ => trivial
  | [a], _ => trivial
  | a :: p :: r, h => exact h.2.2.2
theorem Chain.head {c a : Ln} {r : List Ln} (h : Chain (c :: a :: r)) : a.b < c.b ∧ c.r < a.r := by
  match r, h with
  | [], h => exact h
  | p :: r, h => exact ⟨h.1, h.2.1⟩
theorem Chain.app {u v : List Ln} (h : Chain (u ++ v)) : Chain v := by
  induction u with
  | nil => exact h
  | cons c u ih => exact ih h.tail
theorem Chain.below {c : Ln} {r : List Ln} (h : Chain (c :: r)) : ∀ x ∈ r, x.b < c.b ∧ c.r < x.r := by
  induction r generalizing c with
  | nil => simp
  | cons a r ih =>
    intro x hx
    have h1 := h.head
    rcases List.mem_cons.1 hx with rfl | hx
    · exact h1
    · have := ih h.tail x hx
      omega
theorem mulA {A B C D d n : Int} (hB : 0 < B) (hd : 0 < d) (hD : 0 < D) (h1 : A * B < C * D) (h2 : C * d ≤ B * n) : A * d < D * n := by
  have e1 := Int.mul_lt_mul_of_pos_right h1 hd
  have e2 := Int.mul_le_mul_of_nonneg_right h2 (Int.le_of_lt hD)
  have e3 : A * B * d = B * (A * d) := by rw [Int.mul_comm A B, Int.mul_assoc]
  have e4 : C * D * d = C * d * D := by rw [Int.mul_assoc, Int.mul_comm D d, Int.mul_assoc]
  have e5 : B * n * D = B * (D * n) := by rw [Int.mul_assoc, Int.mul_comm n D]
  have e6 : B * (A * d) < B * (D * n) := by omega
  exact Int.lt_of_mul_lt_mul_left e6 (Int.le_of_lt hB)
theorem vv_le {n d : Int} {x y : Ln} : vv n d x ≤ vv n d y ↔ (x.b - y.b) * d ≤ (y.r - x.r) * n := by
  unfold vv
  rw [Int.sub_mul, Int.sub_mul]
  omega
theorem vv_lt {n d : Int} {x y : Ln} : vv n d x < vv n d y ↔ (x.b - y.b) * d < (y.r - x.r) * n := by
  unfold vv
  rw [Int.sub_mul, Int.sub_mul]
  omega
theorem down1 {n d : Int} {e p a : Ln} (hd : 0 < d) (h1 : p.r < e.r) (h2 : a.r < p.r) (ht : TT e p a) (hv : vv n d a ≤ vv n d p) : vv n d p < vv n d e := by
  rw [vv_lt]
  exact mulA (B := p.r - a.r) (C := a.b - p.b) (by omega) hd (by omega) ht (vv_le.1 hv)
theorem up1 {n d : Int} {p a c : Ln} (hd : 0 < d) (h1 : a.r < p.r) (h2 : c.r < a.r) (ht : TT p a c) (hv : vv n d p ≤ vv n d a) : vv n d a < vv n d c := by
  have h3 := vv_le.1 hv
  unfold TT at ht
  have e1 : (a.b - c.b) * d < (c.r - a.r) * n := by
    have g1 : 0 < p.r - a.r := by omega
    have k1 := Int.mul_lt_mul_of_pos_right ht hd
    have k2 : (p.r - a.r) * n ≤ (a.b - p.b) * d := by
      have x1 : (p.b - a.b) * d = -((a.b - p.b) * d) := by rw [← Int.neg_mul]; congr 1; omega
      have x2 : (a.r - p.r) * n = -((p.r - a.r) * n) := by rw [← Int.neg_mul]; congr 1; omega
      omega
    have k3 := Int.mul_le_mul_of_nonneg_left k2 (show 0 ≤ a.r - c.r by omega)
    have e3 : (a.b - p.b) * (a.r - c.r) * d = (a.r - c.r) * ((a.b - p.b) * d) := by rw [Int.mul_comm (a.b - p.b), Int.mul_assoc]
    have e4 : (c.b - a.b) * (p.r - a.r) * d = (p.r - a.r) * ((c.b - a.b) * d) := by rw [Int.mul_comm (c.b - a.b), Int.mul_assoc]
    have e5 : (a.r - c.r) * ((p.r - a.r) * n) = (p.r - a.r) * ((a.r - c.r) * n) := Int.mul_left_comm _ _ _
    have k4 : (p.r - a.r) * ((a.r - c.r) * n) < (p.r - a.r) * ((c.b - a.b) * d) := by omega
    have k5 := Int.lt_of_mul_lt_mul_left k4 (Int.le_of_lt g1)
    have x1 : (a.b - c.b) * d = -((c.b - a.b) * d) := by rw [← Int.neg_mul]; congr 1; omega
    have x2 : (c.r - a.r) * n = -((a.r - c.r) * n) := by rw [← Int.neg_mul]; congr 1; omega
    omega
  exact vv_lt.2 e1
theorem chain_down {n d : Int} (hd : 0 < d) {a p : Ln} {r : List Ln} (h : Chain (a :: p :: r)) (hv : vv n d a ≤ vv n d p) : ∀ x ∈ r, vv n d p ≤ vv n d x := by
  induction r generalizing a p with
  | nil => simp
  | cons e r ih =>
    intro x hx
    have h1 := h.head
    have h2 := h.tail.head
    have h3 : TT e p a := h.2.2.1
    have h4 := down1 hd h2.2 h1.2 h3 hv
    rcases List.mem_cons.1 hx with rfl | hx
    · omega
    · have := ih h.tail (Int.le_of_lt h4) x hx
      omega
theorem chain_up {n d : Int} (hd : 0 < d) (u : List Ln) {a p : Ln} {r : List Ln} (h : Chain (u.reverse ++ a :: p :: r)) (hv : vv n d p ≤ vv n d a) : ∀ x ∈ u, vv n d a ≤ vv n d x := by
  induction u generalizing a p r with
  | nil => simp
  | cons c u ih =>
    intro x hx
    rw [List.reverse_cons, List.append_assoc] at h
    have hc : Chain (c :: a :: p :: r) := h.app
    have h1 := hc.head
    have h2 := hc.tail.head
    have h4 := up1 hd h2.2 h1.2 hc.2.2.1 hv
    rcases List.mem_cons.1 hx with rfl | hx
    · omega
    · have := ih h (Int.le_of_lt h4) x hx
      omega
/-- Where two neighbours of the chain meet none of the chain is less. -/
theorem chain_meet {u r : List Ln} {a p : Ln} (h : Chain (u ++ a :: p :: r)) : ∀ x ∈ u ++ a :: p :: r, vv (a.b - p.b) (p.r - a.r) a ≤ vv (a.b - p.b) (p.r - a.r) x := by
  have hc : Chain (a :: p :: r) := h.app
  have h1 := hc.head
  have heq : vv (a.b - p.b) (p.r - a.r) a = vv (a.b - p.b) (p.r - a.r) p := by
    have e1 := vv_le (n := a.b - p.b) (d := p.r - a.r) (x := a) (y := p)
    have e2 := vv_le (n := a.b - p.b) (d := p.r - a.r) (x := p) (y := a)
    have e3 : (a.b - p.b) * (p.r - a.r) = (p.r - a.r) * (a.b - p.b) := Int.mul_comm _ _
    have e4 : (p.b - a.b) * (p.r - a.r) = (a.r - p.r) * (a.b - p.b) := by
      rw [show p.b - a.b = -(a.b - p.b) by omega, show a.r - p.r = -(p.r - a.r) by omega, Int.neg_mul, Int.neg_mul, Int.mul_comm]
    have := e1.2 (by omega)
    have := e2.2 (by omega)
    omega
  intro x hx
  rcases List.mem_append.1 hx with hx | hx
  · have := chain_up (n := a.b - p.b) (d := p.r - a.r) (by omega) u.reverse (by rw [List.reverse_reverse]; exact h) (by omega) x (List.mem_reverse.2 hx)
    omega
  · rcases List.mem_cons.1 hx with rfl | hx
    · omega
    · rcases List.mem_cons.1 hx with rfl | hx
      · omega
      · have := chain_down (n := a.b - p.b) (d := p.r - a.r) (by omega) hc (by omega) x hx
        omega
/-- What the row of kept lines is to those that were looked at. -/
structure HI (s st : List Ln) : Prop where
  ch : Chain st
  sub : ∀ x ∈ st, x ∈ s
  nil : st = [] → s = []
  top : ∀ t r, st = t :: r → ∀ y ∈ s, t.r ≤ y.r
  bot : ∀ u t, st = u ++ [t] → ∀ y ∈ s, t.b ≤ y.b ∧ (t.b = y.b → t.r ≤ y.r)
  env : ∀ n d : Int, 0 ≤ n → 0 < d → ∀ y ∈ s, ∃ x ∈ st, vv n d x ≤ vv n d y
theorem pop_sub {x : Ln} {st : List Ln} : ∀ y ∈ hullPop x st, y ∈ st := by
  induction st with
  | nil => exact fun y h => h
  | cons b r ih =>
    match r, ih with
    | [], _ => exact fun y h => h
    | a :: r, ih =>
      rw [hullPop]
      split
      · exact fun y h => List.mem_cons_of_mem _ (ih y h)
      · exact fun y h => h
theorem pop_ne {x : Ln} {t : Ln} {r : List Ln} : hullPop x (t :: r) ≠ [] := by
  induction r generalizing t with
  | nil => simp [hullPop]
  | cons a r ih =>
    rw [hullPop]
    split
    · exact ih
    · simp
theorem pop_bot {x : Ln} {st : List Ln} : ∀ (u : List Ln) (t : Ln), hullPop x st = u ++ [t] → ∃ u', st = u' ++ [t] := by
  induction st with
  | nil => exact fun u t h => ⟨u, h⟩
  | cons b r ih =>
    match r, ih with
    | [], _ => exact fun u t h => ⟨u, h⟩
    | a :: r, ih =>
      rw [hullPop]
      split
      · intro u t h
        obtain ⟨u', e⟩ := ih u t h
        exact ⟨b :: u', by rw [e]; rfl⟩
      · exact fun u t h => ⟨u, h⟩
theorem push_chain {x : Ln} {st : List Ln} (h : Chain st) (hx : ∀ y ∈ st, y.b < x.b ∧ x.r < y.r) : Chain (x :: hullPop x st) := by
  induction st with
  | nil => trivial
  | cons b r ih =>
    match r, h, ih, hx with
    | [], h, _, hx => exact hx b List.mem_cons_self
    | a :: r, h, ih, hx =>
      rw [hullPop]
      split
      · exact ih h.tail fun y hy => hx y (List.mem_cons_of_mem _ hy)
      · rename_i hn
        have h1 := hx b List.mem_cons_self
        have h2 : TT a b x := by
          by_cases ht : TT a b x
          · exact ht
          · exact absurd ((needB_iff a b x).2 ht) hn
        exact ⟨h1.1, h1.2, h2, h⟩
/-- A line that is not needed is nowhere less than both of its neighbours. -/
theorem need_env {a b x : Ln} (h1 : b.r < a.r) (h2 : x.r < b.r) (h : ¬ TT a b x) {n d : Int} (hd : 0 < d) : vv n d a ≤ vv n d b ∨ vv n d x ≤ vv n d b := by
  by_cases hv : vv n d a ≤ vv n d b
  · exact .inl hv
  · right
    by_cases hx : vv n d x ≤ vv n d b
    · exact hx
    · exfalso
      apply h
      have g1 : (b.b - a.b) * d < (a.r - b.r) * n := vv_lt.1 (by omega)
      have g2 : (b.b - x.b) * d < (x.r - b.r) * n := vv_lt.1 (by omega)
      unfold TT
      have x1 : (b.b - x.b) * d = -((x.b - b.b) * d) := by rw [← Int.neg_mul]; congr 1; omega
      have x2 : (x.r - b.r) * n = -((b.r - x.r) * n) := by rw [← Int.neg_mul]; congr 1; omega
      have k1 := Int.mul_lt_mul_of_pos_right g1 (show 0 < b.r - x.r by omega)
      have k2 : (b.r - x.r) * n < (x.b - b.b) * d := by omega
      have k3 := Int.mul_lt_mul_of_pos_right k2 (show 0 < a.r - b.r by omega)
      have e1 : (b.b - a.b) * d * (b.r - x.r) = d * ((b.b - a.b) * (b.r - x.r)) := by rw [Int.mul_comm (b.b - a.b) d, Int.mul_assoc]
      have e2 : (a.r - b.r) * n * (b.r - x.r) = (b.r - x.r) * n * (a.r - b.r) := by rw [Int.mul_assoc, Int.mul_comm (a.r - b.r), Int.mul_comm n]
      have e3 : (x.b - b.b) * d * (a.r - b.r) = d * ((x.b - b.b) * (a.r - b.r)) := by rw [Int.mul_comm (x.b - b.b) d, Int.mul_assoc]
      have k4 : d * ((b.b - a.b) * (b.r - x.r)) < d * ((x.b - b.b) * (a.r - b.r)) := by omega
      exact Int.lt_of_mul_lt_mul_left k4 (Int.le_of_lt hd)
theorem pop_env {x : Ln} {st : List Ln} (h : Chain st) (hx : ∀ y ∈ st, x.r < y.r) {n d : Int} (hd : 0 < d) : ∀ y ∈ st, ∃ z ∈ x :: hullPop x st, vv n d z ≤ vv n d y := by
  induction st with
  | nil => simp
  | cons b r ih =>
    match r, h, ih, hx with
    | [], h, _, hx => exact fun y hy => ⟨y, List.mem_cons_of_mem _ hy, Int.le_refl _⟩
    | a :: r, h, ih, hx =>
      rw [hullPop]
      split
      · rename_i hn
        have ih := ih h.tail fun y hy => hx y (List.mem_cons_of_mem _ hy)
        intro y hy
        rcases List.mem_cons.1 hy with rfl | hy
        · rcases need_env h.head.2 (hx y List.mem_cons_self) ((needB_iff a y x).1 hn) (n := n) hd with e | e
          · obtain ⟨z, hz, e2⟩ := ih a List.mem_cons_self
            exact ⟨z, hz, by omega⟩
          · exact ⟨x, List.mem_cons_self, e⟩
        · exact ih y hy
      · exact fun y hy => ⟨y, List.mem_cons_of_mem _ hy, Int.le_refl _⟩
def lexLe (a b : Ln) : Prop := a.b < b.b ∨ (a.b = b.b ∧ a.r ≤ b.r)
theorem HI.step {s st : List Ln} {x : Ln} (h : HI s st) (hx : ∀ y ∈ s, lexLe y x) (hr : ∀ y ∈ s, 0 ≤ y.r) : HI (s ++ [x]) (hullStep st x) := by
  cases st with
  | nil =>
    have hs := h.nil rfl
    subst hs
    refine ⟨trivial, by simp [hullStep], by simp [hullStep], ?_, ?_, ?_⟩
    · intro t r e y hy
      simp [hullStep] at e hy
      rw [hy, ← e.1]
      exact Int.le_refl _
    · intro u t e y hy
      simp at hy
      subst hy
      cases u with
      | nil => simp [hullStep] at e; rw [e]; exact ⟨Int.le_refl _, fun _ => Int.le_refl _⟩
      | cons a u => simp [hullStep] at e
    · intro n d hn hd y hy
      simp at hy
      subst hy
      exact ⟨y, by simp [hullStep], Int.le_refl _⟩
  | cons t r =>
    have htop := h.top t r rfl
    have hts : t ∈ s := h.sub t List.mem_cons_self
    unfold hullStep
    by_cases hc : t.r ≤ x.r
    · simp only [if_pos hc]
      refine ⟨h.ch, fun y hy => List.mem_append_left _ (h.sub y hy), fun e => (by cases e), fun t' r' e y hy => ?_, fun u t' e y hy => ?_, fun n d hn hd y hy => ?_⟩
      · rcases List.mem_append.1 hy with hy | hy
        · exact h.top t' r' e y hy
        · simp at hy e
          rw [hy, ← e.1]
          exact hc
      · rcases List.mem_append.1 hy with hy | hy
        · exact h.bot u t' e y hy
        · simp at hy
          subst hy
          have h1 := h.bot u t' e t hts
          have h2 := hx t hts
          unfold lexLe at h2
          omega
      · rcases List.mem_append.1 hy with hy | hy
        · exact h.env n d hn hd y hy
        · simp at hy
          subst hy
          refine ⟨t, List.mem_cons_self, ?_⟩
          have h2 := hx t hts
          unfold lexLe at h2
          unfold vv
          have := Int.mul_le_mul_of_nonneg_right (show t.b ≤ y.b by omega) (Int.le_of_lt hd)
          have := Int.mul_le_mul_of_nonneg_right hc hn
          omega
    · simp only [if_neg hc]
      have hlt : ∀ y ∈ t :: r, y.b < x.b ∧ x.r < y.r := fun y hy => by
        have h1 := htop y (h.sub y hy)
        have h2 := hx y (h.sub y hy)
        unfold lexLe at h2
        omega
      refine ⟨push_chain h.ch hlt, fun y hy => ?_, fun e => (by cases e), fun t' r' e y hy => ?_, fun u t' e y hy => ?_, fun n d hn hd y hy => ?_⟩
      · rcases List.mem_cons.1 hy with rfl | hy
        · simp
        · exact List.mem_append_left _ (h.sub y (pop_sub y hy))
      · simp at e
        rw [← e.1]
        rcases List.mem_append.1 hy with hy | hy
        · have := htop y hy; omega
        · simp at hy; rw [hy]; exact Int.le_refl _
      · cases u with
        | nil =>
          simp at e
          exact absurd e.2 pop_ne
        | cons z u =>
          simp at e
          obtain ⟨u', e'⟩ := pop_bot u t' e.2
          have hb := h.bot u' t' e'
          rcases List.mem_append.1 hy with hy | hy
          · exact hb y hy
          · simp at hy
            subst hy
            have h1 := hb t hts
            have h2 := hlt t List.mem_cons_self
            omega
      · rcases List.mem_append.1 hy with hy | hy
        · obtain ⟨z, hz, e1⟩ := h.env n d hn hd y hy
          obtain ⟨z', hz', e2⟩ := pop_env h.ch (fun y hy => (hlt y hy).2) (n := n) hd z hz
          exact ⟨z', hz', by omega⟩
        · simp at hy
          subst hy
          exact ⟨y, List.mem_cons_self, Int.le_refl _⟩
theorem hull_inv (s2 s1 st : List Ln) (h : HI s1 st) (hs : (s1 ++ s2).Pairwise lexLe) (hr : ∀ y ∈ s1 ++ s2, 0 ≤ y.r) : HI (s1 ++ s2) (s2.foldl hullStep st) := by
  induction s2 generalizing s1 st with
  | nil => rw [List.append_nil]; exact h
  | cons x s2 ih =>
    rw [List.foldl_cons]
    have e : s1 ++ x :: s2 = (s1 ++ [x]) ++ s2 := by simp
    rw [e] at hs hr ⊢
    refine ih (s1 ++ [x]) _ (h.step (fun y hy => ?_) fun y hy => hr y (by simp [hy])) hs hr
    have h2 := (List.pairwise_append.1 hs).1
    exact (List.pairwise_append.1 h2).2.2 y hy x (by simp)
theorem hull_HI {s : List Ln} (hs : s.Pairwise lexLe) (hr : ∀ y ∈ s, 0 ≤ y.r) : HI s (hullL s) := by
  have h0 : HI [] [] := ⟨trivial, by simp, fun _ => rfl, by simp, by simp, by simp⟩
  have := hull_inv s [] [] h0 (by simpa using hs) (by simpa using hr)
  rw [List.nil_append] at this
  exact this
theorem hull_len (s st : List Ln) : (s.foldl hullStep st).length ≤ st.length + s.length := by
  induction s generalizing st with
  | nil => simp
  | cons x s ih =>
    rw [List.foldl_cons]
    have h1 := ih (hullStep st x)
    have h2 : (hullStep st x).length ≤ st.length + 1 := by
      cases st with
      | nil => simp [hullStep]
      | cons t r =>
        show (if t.r ≤ x.r then t :: r else x :: hullPop x (t :: r)).length ≤ _
        have hp : ∀ st : List Ln, (hullPop x st).length ≤ st.length := fun st => by
          induction st with
          | nil => simp [hullPop]
          | cons b r ih =>
            match r, ih with
            | [], _ => simp [hullPop]
            | a :: r, ih =>
              rw [hullPop]
              split
              · simp at ih ⊢; omega
              · exact Nat.le_refl _
        by_cases hc : t.r ≤ x.r
        · rw [if_pos hc]; exact Nat.le_succ _
        · rw [if_neg hc]
          have := hp (t :: r)
          rw [List.length_cons]
          omega
    rw [List.length_cons]
    omega
end Go.Proofs.YtoomffajodheaaaGreatDoor
namespace Go.Proofs.YtoomffajodheaaaGreatDoor
/-- Somewhere the least of all: by pairs. -/
structure PP (s : List Ln) (a : Ln) : Prop where
  same : ∀ y ∈ s, y.r = a.r → y ≠ a → a.b < y.b
  flat : ∀ c ∈ s, c.r < a.r → a.b < c.b
  both : ∀ b ∈ s, ∀ c ∈ s, a.r < b.r → b.b ≤ a.b → c.r < a.r → TT b a c
theorem PP.congr {s s' : List Ln} {a : Ln} (hm : ∀ y, y ∈ s' → y ∈ s) (h : PP s a) : PP s' a := ⟨fun y hy => h.same y (hm y hy), fun c hc => h.flat c (hm c hc), fun b hb c hc => h.both b (hm b hb) c (hm c hc)⟩
theorem ln_ext {x y : Ln} (h1 : x.b = y.b) (h2 : x.r = y.r) : x = y := by
  cases x; cases y; simp at h1 h2; rw [h1, h2]
theorem chain_mem_above {u r : List Ln} {a : Ln} (h : Chain (u ++ a :: r)) : ∀ x ∈ u, a.b < x.b ∧ x.r < a.r := by
  induction u with
  | nil => simp
  | cons c u ih =>
    intro x hx
    rcases List.mem_cons.1 hx with rfl | hx
    · have := h.below a (by simp)
      omega
    · exact ih h.tail x hx
theorem mulB {P Q R S nL dL nR dR : Int} (hL : 0 < dL) (hR : 0 < dR) (hQ : 0 < Q) (hS : 0 < S) (h1 : P * dL ≤ S * nL) (h2 : Q * nR ≤ R * dR) (h3 : nL * dR < nR * dL) : P * Q < R * S := by
  have k1 := Int.mul_le_mul_of_nonneg_right h1 (Int.le_of_lt (Int.mul_pos hQ hR))
  have k2 := Int.mul_le_mul_of_nonneg_right h2 (Int.le_of_lt (Int.mul_pos hS hL))
  have k3 := Int.mul_lt_mul_of_pos_left h3 (Int.mul_pos hQ hS)
  have e1 : P * dL * (Q * dR) = (dL * dR) * (P * Q) := by
    rw [Int.mul_assoc P, Int.mul_left_comm dL, ← Int.mul_assoc P, Int.mul_comm (P * Q)]
  have e2 : S * nL * (Q * dR) = Q * S * (nL * dR) := by
    rw [Int.mul_comm S nL, Int.mul_assoc nL, ← Int.mul_assoc S, Int.mul_comm S Q, Int.mul_left_comm]
  have e3 : Q * nR * (S * dL) = Q * S * (nR * dL) := by
    rw [Int.mul_assoc Q, Int.mul_left_comm nR, ← Int.mul_assoc Q]
  have e4 : R * dR * (S * dL) = (dL * dR) * (R * S) := by
    rw [Int.mul_assoc R, Int.mul_left_comm dR, ← Int.mul_assoc R, Int.mul_comm (R * S), Int.mul_comm dR]
  have k4 : (dL * dR) * (P * Q) < (dL * dR) * (R * S) := by omega
  exact Int.lt_of_mul_lt_mul_left k4 (Int.le_of_lt (Int.mul_pos hL hR))
theorem vv_meet {a p : Ln} : vv (a.b - p.b) (p.r - a.r) a = vv (a.b - p.b) (p.r - a.r) p := by
  have e3 : (a.b - p.b) * (p.r - a.r) = (p.r - a.r) * (a.b - p.b) := Int.mul_comm _ _
  have e4 : (p.b - a.b) * (p.r - a.r) = (a.r - p.r) * (a.b - p.b) := by
    rw [show p.b - a.b = -(a.b - p.b) by omega, show a.r - p.r = -(p.r - a.r) by omega, Int.neg_mul, Int.neg_mul, Int.mul_comm]
  have := (vv_le (n := a.b - p.b) (d := p.r - a.r) (x := a) (y := p)).2 (by omega)
  have := (vv_le (n := a.b - p.b) (d := p.r - a.r) (x := p) (y := a)).2 (by omega)
  omega
theorem hull_PP {s st : List Ln} (h : HI s st) {a : Ln} (ha : a ∈ st) : PP s a := by
  obtain ⟨u, r, rfl⟩ := List.append_of_mem ha
  have hch := h.ch
  -- the tick from which on it is the least
  obtain ⟨nL, dL, l0, l1, l2, l3⟩ : ∃ nL dL : Int, 0 ≤ nL ∧ 0 < dL ∧ (∀ y ∈ s, vv nL dL a ≤ vv nL dL y) ∧ ∀ c : Ln, ∀ u', u = u' ++ [c] → nL * (a.r - c.r) < (c.b - a.b) * dL := by
    cases r with
    | nil =>
      refine ⟨0, 1, by omega, by omega, fun y hy => ?_, fun c u' e => ?_⟩
      · obtain ⟨x, hx, e⟩ := h.env 0 1 (by omega) (by omega) y hy
        unfold vv at e ⊢
        rcases List.mem_append.1 hx with hx | hx
        · have := chain_mem_above hch x hx; omega
        · simp at hx; subst hx; exact e
      · have := chain_mem_above hch c (by rw [e]; simp)
        rw [Int.zero_mul, Int.mul_one]
        omega
    | cons p r =>
      have hc : Chain (a :: p :: r) := hch.app
      have h1 := hc.head
      refine ⟨a.b - p.b, p.r - a.r, by omega, by omega, fun y hy => ?_, fun c u' e => ?_⟩
      · obtain ⟨x, hx, e⟩ := h.env (a.b - p.b) (p.r - a.r) (by omega) (by omega) y hy
        have := chain_meet hch x hx
        omega
      · subst e
        rw [List.append_assoc] at hch
        have hc2 : Chain (c :: a :: p :: r) := hch.app
        exact hc2.2.2.1
  have hflat : ∀ c ∈ s, c.r < a.r → ∃ nR dR : Int, 0 < nR ∧ 0 < dR ∧ (∀ y ∈ s, vv nR dR a ≤ vv nR dR y) ∧ nL * dR < nR * dL := by
    intro c hc hcr
    rcases List.eq_nil_or_concat u with e | ⟨u', c', e⟩
    · subst e
      have := h.top a r rfl c hc
      omega
    · rw [List.concat_eq_append] at e
      subst e
      have hch2 : Chain (u' ++ c' :: a :: r) := by simpa using hch
      have hc2 : Chain (c' :: a :: r) := hch2.app
      have h1 := hc2.head
      refine ⟨c'.b - a.b, a.r - c'.r, by omega, by omega, fun y hy => ?_, l3 c' u' rfl⟩
      obtain ⟨x, hx, e⟩ := h.env (c'.b - a.b) (a.r - c'.r) (by omega) (by omega) y hy
      have h2 := chain_meet hch2 x (by simpa using hx)
      have h3 := vv_meet (a := c') (p := a)
      omega
  refine ⟨fun y hy e hne => ?_, fun c hc hcr => ?_, fun b hb c hc hbr hbb hcr => ?_⟩
  · have h1 := vv_le.1 (l2 y hy)
    rw [e, Int.sub_self, Int.zero_mul] at h1
    have h2 : ¬ 0 < a.b - y.b := fun h9 => by have := Int.mul_pos h9 l1; omega
    by_cases h3 : y.b = a.b
    · exact absurd (ln_ext h3 e) hne
    · omega
  · obtain ⟨nR, dR, r0, r1, r2, _⟩ := hflat c hc hcr
    have h1 := vv_le.1 (r2 c hc)
    have h2 : (c.r - a.r) * nR < 0 := Int.mul_neg_of_neg_of_pos (by omega) r0
    have h3 : ¬ 0 ≤ a.b - c.b := fun h9 => by have := Int.mul_nonneg h9 (Int.le_of_lt r1); omega
    omega
  · obtain ⟨nR, dR, r0, r1, r2, r3⟩ := hflat c hc hcr
    have h1 := vv_le.1 (l2 b hb)
    have h2 := vv_le.1 (r2 c hc)
    have h3 : (a.r - c.r) * nR ≤ (c.b - a.b) * dR := by
      have x1 : (a.b - c.b) * dR = -((c.b - a.b) * dR) := by rw [← Int.neg_mul]; congr 1; omega
      have x2 : (c.r - a.r) * nR = -((a.r - c.r) * nR) := by rw [← Int.neg_mul]; congr 1; omega
      omega
    exact mulB l1 r1 (by omega) (by omega) h1 h3 r3
theorem split_rate {st : List Ln} {z : Int} : ∀ {t : Ln} {r : List Ln}, st = t :: r → t.r ≤ z → (∃ x ∈ st, z < x.r) → ∃ u c p v, st = u ++ c :: p :: v ∧ c.r ≤ z ∧ z < p.r := by
  induction st with
  | nil => intro t r e; cases e
  | cons a st ih =>
    intro t r e ht hx
    simp at e
    obtain ⟨rfl, rfl⟩ := e
    cases st with
    | nil =>
      obtain ⟨x, hx, hz⟩ := hx
      simp at hx
      subst hx
      omega
    | cons b st =>
      by_cases hb : z < b.r
      · exact ⟨[], a, b, st, rfl, ht, hb⟩
      · obtain ⟨x, hx, hz⟩ := hx
        have hx2 : x ∈ b :: st := by
          rcases List.mem_cons.1 hx with rfl | hx
          · omega
          · exact hx
        obtain ⟨u, c, p, v, e, h1, h2⟩ := ih rfl (by omega) ⟨x, hx2, hz⟩
        exact ⟨a :: u, c, p, v, by rw [e]; rfl, h1, h2⟩
theorem PP_hull {s st : List Ln} (h : HI s st) {a : Ln} (ha : a ∈ s) (hp : PP s a) : a ∈ st := by
  by_cases hin : a ∈ st
  · exact hin
  · exfalso
    cases st with
    | nil => rw [h.nil rfl] at ha; cases ha
    | cons t r =>
      have htop := h.top t r rfl a ha
      rcases List.eq_nil_or_concat (t :: r) with e | ⟨u, h0, e⟩
      · cases e
      · rw [List.concat_eq_append] at e
        have hbot := h.bot u h0 e a ha
        have h0s : h0 ∈ s := h.sub h0 (by rw [e]; simp)
        by_cases hr : h0.r ≤ a.r
        · by_cases her : h0.r = a.r
          · have := hp.same h0 h0s her (fun e2 => hin (by rw [e, ← e2]; simp))
            omega
          · have := hp.flat h0 h0s (by omega)
            omega
        · obtain ⟨u, c, p, v, e2, h1, h2⟩ := split_rate rfl htop ⟨h0, by rw [e]; simp, by omega⟩
          have hch := h.ch
          have hsub := h.sub
          have henv := h.env
          rw [e2] at hch hsub henv hin
          have hcp : Chain (c :: p :: v) := hch.app
          have h3 := hcp.head
          have hcs : c ∈ s := hsub c (by simp)
          have hps : p ∈ s := hsub p (by simp)
          obtain ⟨x, hx, e3⟩ := henv (c.b - p.b) (p.r - c.r) (by omega) (by omega) a ha
          have h4 := chain_meet hch x hx
          have h5 : vv (c.b - p.b) (p.r - c.r) c ≤ vv (c.b - p.b) (p.r - c.r) a := by omega
          have h6 := vv_meet (a := c) (p := p)
          by_cases hcr : c.r = a.r
          · have h7 := hp.same c hcs hcr (fun e9 => hin (by rw [← e9]; simp))
            have h8 := vv_le.1 h5
            rw [hcr, Int.sub_self, Int.zero_mul] at h8
            have := Int.mul_pos (show 0 < c.b - a.b by omega) (show 0 < p.r - a.r by omega)
            omega
          · have hcr2 : c.r < a.r := by omega
            have h7 := hp.flat c hcs hcr2
            by_cases hpb : p.b ≤ a.b
            · have h8 := hp.both p hps c hcs h2 hpb hcr2
              unfold TT at h8
              have h9 := vv_le.1 h5
              have e1 : (c.b - a.b) * (p.r - c.r) = (c.b - a.b) * (p.r - a.r) + (c.b - a.b) * (a.r - c.r) := by rw [← Int.mul_add]; congr 1; omega
              have e2' : (a.r - c.r) * (c.b - p.b) = (a.r - c.r) * (c.b - a.b) + (a.r - c.r) * (a.b - p.b) := by rw [← Int.mul_add]; congr 1; omega
              have e3' : (c.b - a.b) * (a.r - c.r) = (a.r - c.r) * (c.b - a.b) := Int.mul_comm _ _
              have e4 : (a.b - p.b) * (a.r - c.r) = (a.r - c.r) * (a.b - p.b) := Int.mul_comm _ _
              omega
            · have h8 : vv (c.b - p.b) (p.r - c.r) p ≤ vv (c.b - p.b) (p.r - c.r) a := by omega
              have h9 := vv_le.1 h8
              have k1 := Int.mul_pos (show 0 < p.b - a.b by omega) (show 0 < p.r - c.r by omega)
              have k2 := Int.mul_nonneg (show 0 ≤ p.r - a.r by omega) (show 0 ≤ c.b - p.b by omega)
              have x2 : (a.r - p.r) * (c.b - p.b) = -((p.r - a.r) * (c.b - p.b)) := by rw [← Int.neg_mul]; congr 1; omega
              omega
theorem chain_asc {st : List Ln} (h : Chain st) : st.Pairwise fun x y => x.r < y.r := by
  induction st with
  | nil => exact List.Pairwise.nil
  | cons c r ih => exact List.pairwise_cons.2 ⟨fun x hx => (h.below x hx).2, ih h.tail⟩
/-- Falling rows of the same lines are the same. -/
theorem desc_ext {l l' : List Ln} (h : l.Pairwise (fun x y => y.r < x.r)) (h' : l'.Pairwise (fun x y => y.r < x.r)) (hm : ∀ x, x ∈ l ↔ x ∈ l') : l = l' := by
  induction l generalizing l' with
  | nil =>
    cases l' with
    | nil => rfl
    | cons y r => exact absurd ((hm y).2 List.mem_cons_self) (by simp)
  | cons x r ih =>
    cases l' with
    | nil => exact absurd ((hm x).1 List.mem_cons_self) (by simp)
    | cons y r' =>
      obtain ⟨h1, h2⟩ := List.pairwise_cons.1 h
      obtain ⟨h3, h4⟩ := List.pairwise_cons.1 h'
      have hxy : x = y := by
        rcases List.mem_cons.1 ((hm x).1 List.mem_cons_self) with e | e
        · exact e
        · rcases List.mem_cons.1 ((hm y).2 List.mem_cons_self) with e' | e'
          · exact e'.symm
          · have := h1 y e'; have := h3 x e; omega
      subst hxy
      congr 1
      refine ih h2 h4 fun z => ⟨fun hz => ?_, fun hz => ?_⟩
      · rcases List.mem_cons.1 ((hm z).1 (List.mem_cons_of_mem _ hz)) with e | e
        · have := h1 z hz; rw [e] at this; omega
        · exact e
      · rcases List.mem_cons.1 ((hm z).2 (List.mem_cons_of_mem _ hz)) with e | e
        · have := h3 z hz; rw [e] at this; omega
        · exact e
/-- The document's: what bounds where a line is the least. -/
structure SS where
  lo : Int
  lb : Int
  op : Bool
  hi : Int
  hb : Int
def ss0 : SS := ⟨0, 1, false, 0, 0⟩
def ssStep (a b : Ln) (s : SS) : SS :=
  if 0 < b.r - a.r then (if 0 ≤ a.b - b.b ∧ s.lo * (b.r - a.r) ≤ (a.b - b.b) * s.lb then { s with lo := a.b - b.b, lb := b.r - a.r, op := true } else s)
  else (if s.hb = 0 ∨ -(a.b - b.b) * s.hb < s.hi * -(b.r - a.r) then { s with hi := -(a.b - b.b), hb := -(b.r - a.r) } else s)
/-- some: none, a line that is nowhere less. -/
def ssGo (a : Ln) (i : Nat) : Nat → SS → List Ln → Option SS
  | _, s, [] => some s
  | k, s, b :: r => if b = a then (if k < i then none else ssGo a i (k + 1) s r) else if b.r = a.r then (if b.b ≤ a.b then none else ssGo a i (k + 1) s r) else ssGo a i (k + 1) (ssStep a b s) r
def ssEnd (s : SS) : Bool := if s.hb = 0 then true else if s.op = false then decide (0 < s.hi) else decide (s.lo * s.hb < s.hi * s.lb)
def someB (l : List Ln) (i : Nat) : Bool := match l[i]? with
  | none => false
  | some a => match ssGo a i 0 ss0 l with
    | none => false
    | some s => ssEnd s
structure SI (a : Ln) (s : SS) (l : List Ln) : Prop where
  lb : 0 < s.lb
  lo : 0 ≤ s.lo
  cl : s.op = false → ∀ b ∈ l, a.r < b.r → ¬ b.b ≤ a.b
  at_ : s.op = true → ∃ b ∈ l, a.r < b.r ∧ b.b ≤ a.b ∧ s.lo = a.b - b.b ∧ s.lb = b.r - a.r
  le : s.op = true → ∀ b ∈ l, a.r < b.r → b.b ≤ a.b → (a.b - b.b) * s.lb ≤ s.lo * (b.r - a.r)
  z0 : s.op = false → s.lo = 0 ∧ s.lb = 1
  hb : 0 ≤ s.hb
  h0 : s.hb = 0 → ∀ c ∈ l, ¬ c.r < a.r
  hat : 0 < s.hb → ∃ c ∈ l, c.r < a.r ∧ s.hi = c.b - a.b ∧ s.hb = a.r - c.r
  hle : 0 < s.hb → ∀ c ∈ l, c.r < a.r → s.hi * (a.r - c.r) ≤ (c.b - a.b) * s.hb
theorem SI.same {a : Ln} {s : SS} {l : List Ln} (h : SI a s l) {b : Ln} (hb : b.r = a.r) : SI a s (l ++ [b]) where
  lb := h.lb
  lo := h.lo
  cl := fun e x hx => by
    rcases List.mem_append.1 hx with hx | hx
    · exact h.cl e x hx
    · simp at hx; subst hx; omega
  at_ := fun e => by obtain ⟨x, hx, r⟩ := h.at_ e; exact ⟨x, List.mem_append_left _ hx, r⟩
  le := fun e x hx => by
    rcases List.mem_append.1 hx with hx | hx
    · exact h.le e x hx
    · simp at hx; subst hx; omega
  z0 := h.z0
  hb := h.hb
  h0 := fun e x hx => by
    rcases List.mem_append.1 hx with hx | hx
    · exact h.h0 e x hx
    · simp at hx; subst hx; omega
  hat := fun e => by obtain ⟨x, hx, r⟩ := h.hat e; exact ⟨x, List.mem_append_left _ hx, r⟩
  hle := fun e x hx => by
    rcases List.mem_append.1 hx with hx | hx
    · exact h.hle e x hx
    · simp at hx; subst hx; omega
theorem mulC {p q s t u v : Int} (hq : 0 < q) (hv : 0 < v) (ht : 0 < t) (h1 : p * q ≤ s * t) (h2 : s * v ≤ u * q) : p * v ≤ u * t := by
  -- p/t <= s/q <= u/v
  have k1 := Int.mul_le_mul_of_nonneg_right h1 (Int.le_of_lt hv)
  have k2 := Int.mul_le_mul_of_nonneg_right h2 (Int.le_of_lt ht)
  have e1 : p * q * v = q * (p * v) := by rw [Int.mul_comm p q, Int.mul_assoc]
  have e2 : s * t * v = s * v * t := by rw [Int.mul_assoc, Int.mul_comm t v, Int.mul_assoc]
  have e3 : u * q * t = q * (u * t) := by rw [Int.mul_comm u q, Int.mul_assoc]
  have k3 : q * (p * v) ≤ q * (u * t) := by omega
  exact Int.le_of_mul_le_mul_left k3 hq
theorem SI.step {a : Ln} {s : SS} {l : List Ln} (h : SI a s l) {b : Ln} (hne : b.r ≠ a.r) : SI a (ssStep a b s) (l ++ [b]) := by
  unfold ssStep
  have sp : ∀ {Q : Ln → Prop}, (∀ x ∈ l, Q x) → Q b → ∀ x ∈ l ++ [b], Q x := fun h1 h2 x hx => by
    rcases List.mem_append.1 hx with hx | hx
    · exact h1 x hx
    · simp at hx; subst hx; exact h2
  by_cases hs : 0 < b.r - a.r
  · rw [if_pos hs]
    have hh0 : s.hb = 0 → ∀ c ∈ l ++ [b], ¬ c.r < a.r := fun e => sp (h.h0 e) (by omega)
    have hhat : 0 < s.hb → ∃ c ∈ l ++ [b], c.r < a.r ∧ s.hi = c.b - a.b ∧ s.hb = a.r - c.r := fun e => by obtain ⟨x, hx, r⟩ := h.hat e; exact ⟨x, List.mem_append_left _ hx, r⟩
    have hhle : 0 < s.hb → ∀ c ∈ l ++ [b], c.r < a.r → s.hi * (a.r - c.r) ≤ (c.b - a.b) * s.hb := fun e => sp (h.hle e) (by omega)
    by_cases hc : 0 ≤ a.b - b.b ∧ s.lo * (b.r - a.r) ≤ (a.b - b.b) * s.lb
    · rw [if_pos hc]
      refine ⟨hs, hc.1, fun e => (by cases e), fun _ => ⟨b, by simp, by omega, by omega, rfl, rfl⟩, fun _ => sp (fun x hx hxr hxb => ?_) (fun _ _ => Int.le_refl _), fun e => (by cases e), h.hb, hh0, hhat, hhle⟩
      show (a.b - x.b) * (b.r - a.r) ≤ (a.b - b.b) * (x.r - a.r)
      cases ho : s.op with
      | false => exact absurd hxb (h.cl ho x hx hxr)
      | true => exact mulC h.lb (by omega) (by omega) (h.le ho x hx hxr hxb) hc.2
    · rw [if_neg hc]
      refine ⟨h.lb, h.lo, fun e => sp (h.cl e) (fun _ => ?_), fun e => (by obtain ⟨x, hx, r⟩ := h.at_ e; exact ⟨x, List.mem_append_left _ hx, r⟩), fun e => sp (h.le e) (fun _ hbb => ?_), h.z0, h.hb, hh0, hhat, hhle⟩
      · obtain ⟨z1, z2⟩ := h.z0 e
        rw [z1, z2, Int.zero_mul, Int.mul_one] at hc
        omega
      · omega
  · rw [if_neg hs]
    have hcl : s.op = false → ∀ x ∈ l ++ [b], a.r < x.r → ¬ x.b ≤ a.b := fun e => sp (h.cl e) (by omega)
    have hat_ : s.op = true → ∃ x ∈ l ++ [b], a.r < x.r ∧ x.b ≤ a.b ∧ s.lo = a.b - x.b ∧ s.lb = x.r - a.r := fun e => by obtain ⟨x, hx, r⟩ := h.at_ e; exact ⟨x, List.mem_append_left _ hx, r⟩
    have hle : s.op = true → ∀ x ∈ l ++ [b], a.r < x.r → x.b ≤ a.b → (a.b - x.b) * s.lb ≤ s.lo * (x.r - a.r) := fun e => sp (h.le e) (by omega)
    have e1 : -(a.b - b.b) = b.b - a.b := by omega
    have e2 : -(b.r - a.r) = a.r - b.r := by omega
    rw [e1, e2]
    by_cases hc : s.hb = 0 ∨ (b.b - a.b) * s.hb < s.hi * (a.r - b.r)
    · rw [if_pos hc]
      refine ⟨h.lb, h.lo, hcl, hat_, hle, h.z0, (by show 0 ≤ a.r - b.r; omega), fun e => (by have e : a.r - b.r = 0 := e; omega), fun _ => ⟨b, by simp, by omega, rfl, rfl⟩, fun _ => sp (fun x hx hxr => ?_) (fun _ => Int.le_refl _)⟩
      show (b.b - a.b) * (a.r - x.r) ≤ (x.b - a.b) * (a.r - b.r)
      rcases hc with hc | hc
      · exact absurd hxr (h.h0 hc x hx)
      · by_cases hz : s.hb = 0
        · exact absurd hxr (h.h0 hz x hx)
        · have hpos : 0 < s.hb := by have := h.hb; omega
          have hx2 := h.hle hpos x hx hxr
          exact mulC hpos (by omega) (by omega) (Int.le_of_lt hc) hx2
    · rw [if_neg hc]
      have hpos : 0 < s.hb := by have := h.hb; omega
      exact ⟨h.lb, h.lo, hcl, hat_, hle, h.z0, h.hb, fun e => absurd e (by omega), fun e => (by obtain ⟨x, hx, r⟩ := h.hat e; exact ⟨x, List.mem_append_left _ hx, r⟩), fun e => sp (h.hle e) (fun _ => by omega)⟩
theorem ssEnd_iff {a : Ln} {s : SS} {l : List Ln} (h : SI a s l) (hsm : ∀ y ∈ l, y.r = a.r → y ≠ a → a.b < y.b) : ssEnd s = true ↔ PP l a := by
  unfold ssEnd
  by_cases hb0 : s.hb = 0
  · rw [if_pos hb0]
    refine ⟨fun _ => ⟨hsm, fun c hc e => absurd e (h.h0 hb0 c hc), fun b _ c hc _ _ e => absurd e (h.h0 hb0 c hc)⟩, fun _ => rfl⟩
  · rw [if_neg hb0]
    have hbp : 0 < s.hb := by have := h.hb; omega
    have hflat : 0 < s.hi → ∀ c ∈ l, c.r < a.r → a.b < c.b := fun hp c hc hcr => by
      have h1 := h.hle hbp c hc hcr
      have h2 := Int.mul_pos hp (show 0 < a.r - c.r by omega)
      have h3 : ¬ c.b - a.b ≤ 0 := fun h9 => by
        have := Int.mul_le_mul_of_nonneg_right h9 (Int.le_of_lt hbp)
        rw [Int.zero_mul] at this
        omega
      omega
    cases ho : s.op with
    | false =>
      rw [if_pos rfl, decide_eq_true_iff]
      constructor
      · intro hp
        exact ⟨hsm, hflat hp, fun b hb c _ e1 e2 _ => absurd e2 (h.cl ho b hb e1)⟩
      · intro hp
        obtain ⟨c, hc, e1, e2, _⟩ := h.hat hbp
        have := hp.flat c hc e1
        omega
    | true =>
      rw [if_neg (by simp), decide_eq_true_iff]
      constructor
      · intro hp
        have hpos : 0 < s.hi := by
          have h1 := Int.mul_nonneg h.lo h.hb
          have h3 : ¬ s.hi ≤ 0 := fun h9 => by
            have := Int.mul_le_mul_of_nonneg_right h9 (Int.le_of_lt h.lb)
            rw [Int.zero_mul] at this
            omega
          omega
        refine ⟨hsm, hflat hpos, fun b hb c hc e1 e2 e3 => ?_⟩
        have h1 := h.le ho b hb e1 e2
        have h2 := h.hle hbp c hc e3
        refine mulB (nL := s.lo) (dL := s.lb) (nR := s.hi) (dR := s.hb) h.lb hbp (by omega) (by omega) ?_ ?_ hp
        · rw [Int.mul_comm (b.r - a.r)]; exact h1
        · rw [Int.mul_comm (a.r - c.r)]; exact h2
      · intro hp
        obtain ⟨c, hc, e1, e2, e3⟩ := h.hat hbp
        obtain ⟨b, hb, f1, f2, f3, f4⟩ := h.at_ ho
        have := hp.both b hb c hc f1 f2 e1
        unfold TT at this
        rw [e2, e3, f3, f4]
        exact this
theorem ssGo_iff (a : Ln) (i : Nat) (r : List Ln) : ∀ (pre : List Ln) (s : SS), SI a s pre → (∀ y ∈ pre, y.r = a.r → y ≠ a → a.b < y.b) → (∀ (j : Nat) (hj : j < pre.length), pre[j] = a → ¬ j < i) →
    ((match ssGo a i pre.length s r with | none => false | some s' => ssEnd s') = true ↔ PP (pre ++ r) a ∧ ∀ (j : Nat) (hj : j < (pre ++ r).length), (pre ++ r)[j] = a → ¬ j < i) := by
  induction r with
  | nil =>
    intro pre s hs hsm hfi
    simp only [ssGo, List.append_nil]
    rw [ssEnd_iff hs hsm]
    exact ⟨fun h => ⟨h, hfi⟩, fun h => h.1⟩
  | cons b r ih =>
    intro pre s hs hsm hfi
    have e : pre ++ b :: r = (pre ++ [b]) ++ r := by simp
    have hlen : (pre ++ [b]).length = pre.length + 1 := by simp
    have hget : ∀ (h9 : pre.length < (pre ++ b :: r).length), (pre ++ b :: r)[pre.length] = b := fun h9 => by simp
    rw [ssGo]
    by_cases hba : b = a
    · rw [if_pos hba]
      by_cases hki : pre.length < i
      · rw [if_pos hki]
        refine ⟨fun h => (by cases h), fun h => absurd hki (h.2 pre.length (by simp) (by rw [hget]; exact hba))⟩
      · rw [if_neg hki, e, ← hlen]
        refine ih (pre ++ [b]) s (hs.same (by rw [hba])) (fun y hy => ?_) (fun j hj => ?_)
        · rcases List.mem_append.1 hy with hy | hy
          · exact hsm y hy
          · simp at hy; subst hy; exact fun _ hn => absurd hba hn
        · intro ej
          by_cases hjp : j < pre.length
          · rw [List.getElem_append_left hjp] at ej
            exact hfi j hjp ej
          · omega
    · rw [if_neg hba]
      have hfi2 : ∀ (j : Nat) (hj : j < (pre ++ [b]).length), (pre ++ [b])[j] = a → ¬ j < i := fun j hj ej => by
        by_cases hjp : j < pre.length
        · rw [List.getElem_append_left hjp] at ej
          exact hfi j hjp ej
        · have : j = pre.length := by omega
          subst this
          simp at ej
          exact absurd ej hba
      by_cases hr : b.r = a.r
      · rw [if_pos hr]
        by_cases hbb : b.b ≤ a.b
        · rw [if_pos hbb]
          refine ⟨fun h => (by cases h), fun h => ?_⟩
          have := h.1.same b (by simp) hr hba
          omega
        · rw [if_neg hbb, e, ← hlen]
          refine ih (pre ++ [b]) s (hs.same hr) (fun y hy => ?_) hfi2
          rcases List.mem_append.1 hy with hy | hy
          · exact hsm y hy
          · simp at hy; subst hy; exact fun _ _ => by omega
      · rw [if_neg hr, e, ← hlen]
        refine ih (pre ++ [b]) _ (hs.step hr) (fun y hy => ?_) hfi2
        rcases List.mem_append.1 hy with hy | hy
        · exact hsm y hy
        · simp at hy; subst hy; exact fun e9 _ => absurd e9 hr
theorem someB_iff {l : List Ln} {i : Nat} (hi : i < l.length) : someB l i = true ↔ PP l l[i] ∧ ∀ (j : Nat) (hj : j < l.length), l[j] = l[i] → ¬ j < i := by
  unfold someB
  rw [List.getElem?_eq_getElem hi]
  have h0 : SI l[i] ss0 [] := ⟨(by show (0:Int) < 1; omega), Int.le_refl _, by simp, fun e => (by cases e), fun e => (by cases e), fun _ => ⟨rfl, rfl⟩, Int.le_refl _, by simp, fun e => (by have e : (0:Int) < 0 := e; omega), by simp⟩
  exact ssGo_iff l[i] i l [] ss0 h0 (by simp) (by simp)
def insT (out : List Ln) (x : Ln) : List Ln := out.takeWhile (fun y => decide (x.r < y.r)) ++ x :: out.dropWhile (fun y => decide (x.r < y.r))
def refGo (l : List Ln) : Nat → List Ln → List Ln
  | 0, out => out
  | n + 1, out => refGo l n (if someB l (l.length - (n + 1)) then insT out (l.getD (l.length - (n + 1)) ⟨0, 0⟩) else out)
def tidyRef (l : List Ln) : List Ln := refGo l l.length []
theorem insT_mem {out : List Ln} {x y : Ln} : y ∈ insT out x ↔ y = x ∨ y ∈ out := by
  unfold insT
  rw [List.mem_append, List.mem_cons]
  have e : y ∈ out ↔ y ∈ out.takeWhile (fun z => decide (x.r < z.r)) ∨ y ∈ out.dropWhile (fun z => decide (x.r < z.r)) := by
    rw [← List.mem_append, List.takeWhile_append_dropWhile]
  rw [e]
  constructor
  · rintro (h | h | h)
    · exact .inr (.inl h)
    · exact .inl h
    · exact .inr (.inr h)
  · rintro (h | h | h)
    · exact .inr (.inl h)
    · exact .inl h
    · exact .inr (.inr h)
theorem insT_desc {out : List Ln} {x : Ln} (h : out.Pairwise (fun a b => b.r < a.r)) (hx : ∀ y ∈ out, y.r ≠ x.r) : (insT out x).Pairwise (fun a b => b.r < a.r) := by
  induction out with
  | nil => simp [insT]
  | cons y r ih =>
    obtain ⟨h1, h2⟩ := List.pairwise_cons.1 h
    unfold insT
    by_cases hc : x.r < y.r
    · rw [List.takeWhile_cons_of_pos (by simpa using hc), List.dropWhile_cons_of_pos (by simpa using hc), List.cons_append]
      have ih := ih h2 fun z hz => hx z (List.mem_cons_of_mem _ hz)
      refine List.pairwise_cons.2 ⟨fun z hz => ?_, ih⟩
      rcases insT_mem.1 hz with e | e
      · rw [e]; exact hc
      · exact h1 z e
    · rw [List.takeWhile_cons_of_neg (by simpa using hc), List.dropWhile_cons_of_neg (by simpa using hc), List.nil_append]
      have := hx y List.mem_cons_self
      refine List.pairwise_cons.2 ⟨fun z hz => ?_, h⟩
      rcases List.mem_cons.1 hz with e | e
      · rw [e]; omega
      · have := h1 z e; omega
theorem refGo_spec (l : List Ln) (n : Nat) (hn : n ≤ l.length) (out : List Ln) (hd : out.Pairwise (fun a b => b.r < a.r)) (hm : ∀ y, y ∈ out ↔ ∃ (j : Nat) (hj : j < l.length), j < l.length - n ∧ y = l[j] ∧ someB l j = true) :
    (refGo l n out).Pairwise (fun a b => b.r < a.r) ∧ ∀ y, y ∈ refGo l n out ↔ ∃ (j : Nat) (hj : j < l.length), y = l[j] ∧ someB l j = true := by
  induction n generalizing out with
  | zero =>
    refine ⟨hd, fun y => ?_⟩
    show y ∈ out ↔ _
    rw [hm]
    exact ⟨fun ⟨j, hj, _, h⟩ => ⟨j, hj, h⟩, fun ⟨j, hj, h⟩ => ⟨j, hj, by omega, h⟩⟩
  | succ n ih =>
    rw [refGo]
    have hk : l.length - (n + 1) < l.length := by omega
    have hgd : l.getD (l.length - (n + 1)) ⟨0, 0⟩ = l[l.length - (n + 1)] := by simp [List.getD, List.getElem?_eq_getElem hk]
    rw [hgd]
    by_cases hs : someB l (l.length - (n + 1)) = true
    · rw [if_pos hs]
      have hp := (someB_iff hk).1 hs
      refine ih (by omega) _ (insT_desc hd fun y hy e => ?_) fun y => ?_
      · obtain ⟨j, hj, hjn, rfl, hsj⟩ := (hm y).1 hy
        have hpj := (someB_iff hj).1 hsj
        by_cases heq : l[j] = l[l.length - (n + 1)]
        · exact hp.2 j hj heq hjn
        · have h1 := hp.1.same l[j] (List.getElem_mem hj) e heq
          have h2 := hpj.1.same l[l.length - (n + 1)] (List.getElem_mem hk) e.symm (fun e9 => heq e9.symm)
          omega
      · rw [insT_mem, hm]
        constructor
        · rintro (e | ⟨j, hj, h1, h2⟩)
          · exact ⟨_, hk, by omega, e, hs⟩
          · exact ⟨j, hj, by omega, h2⟩
        · rintro ⟨j, hj, h1, h2, h3⟩
          by_cases hjk : j = l.length - (n + 1)
          · subst hjk; exact .inl h2
          · exact .inr ⟨j, hj, by omega, h2, h3⟩
    · rw [if_neg hs]
      refine ih (by omega) out hd fun y => ?_
      rw [hm]
      constructor
      · rintro ⟨j, hj, h1, h2⟩
        exact ⟨j, hj, by omega, h2⟩
      · rintro ⟨j, hj, h1, h2, h3⟩
        by_cases hjk : j = l.length - (n + 1)
        · subst hjk; exact absurd h3 hs
        · exact ⟨j, hj, by omega, h2, h3⟩
theorem first_occ {l : List Ln} {x : Ln} (hx : x ∈ l) : ∃ (j : Nat) (hj : j < l.length), l[j] = x ∧ ∀ (i : Nat) (hi : i < l.length), l[i] = x → ¬ i < j := by
  induction l with
  | nil => cases hx
  | cons y r ih =>
    by_cases hy : y = x
    · exact ⟨0, by simp, hy, fun i hi _ => by omega⟩
    · have hx2 : x ∈ r := by
        rcases List.mem_cons.1 hx with e | e
        · exact absurd e.symm hy
        · exact e
      obtain ⟨j, hj, e, hf⟩ := ih hx2
      refine ⟨j + 1, by simpa using hj, by simpa using e, fun i hi ei => ?_⟩
      cases i with
      | zero => simp at ei; exact absurd ei hy
      | succ i =>
        simp at ei hi
        have := hf i hi ei
        omega
theorem tidyRef_spec (l : List Ln) : (tidyRef l).Pairwise (fun a b => b.r < a.r) ∧ ∀ y, y ∈ tidyRef l ↔ y ∈ l ∧ PP l y := by
  obtain ⟨h1, h2⟩ := refGo_spec l l.length (Nat.le_refl _) [] List.Pairwise.nil (fun y => ⟨fun h => (by cases h), fun ⟨j, _, h, _⟩ => by omega⟩)
  refine ⟨h1, fun y => ?_⟩
  unfold tidyRef
  rw [h2]
  constructor
  · rintro ⟨j, hj, rfl, hs⟩
    exact ⟨List.getElem_mem hj, ((someB_iff hj).1 hs).1⟩
  · rintro ⟨hy, hp⟩
    obtain ⟨j, hj, rfl, hf⟩ := first_occ hy
    exact ⟨j, hj, rfl, (someB_iff hj).2 ⟨hp, hf⟩⟩
/-- What the program makes of lines in order is what the document makes of the lines. -/
theorem tidy_eq {l s : List Ln} (hp : ∀ x, x ∈ s ↔ x ∈ l) (hs : s.Pairwise lexLe) (hr : ∀ y ∈ s, 0 ≤ y.r) : (hullL s).reverse = tidyRef l := by
  have hi := hull_HI hs hr
  obtain ⟨t1, t2⟩ := tidyRef_spec l
  refine desc_ext ?_ t1 fun x => ?_
  · exact List.pairwise_reverse.2 (chain_asc hi.ch)
  · rw [List.mem_reverse, t2]
    constructor
    · intro hx
      exact ⟨(hp x).1 (hi.sub x hx), (hull_PP hi hx).congr fun y hy => (hp y).2 hy⟩
    · rintro ⟨hx, hpp⟩
      exact PP_hull hi ((hp x).2 hx) (hpp.congr fun y hy => (hp y).1 hy)
theorem lineAt_vv (x : Ln) (t : Int) : lineAt x t = vv t 1000 x / 1000 := by
  unfold lineAt vv
  omega
theorem valueL_eq {l l' : List Ln} {t v : Int} (h0 : 0 < l.length) (h1 : ∀ x ∈ l, v ≤ lineAt x t) (h2 : ∃ x ∈ l, lineAt x t ≤ v) : valueL l t = v := by
  obtain ⟨x, hx, e⟩ := valueL_mem h0 t
  obtain ⟨y, hy, e2⟩ := h2
  have := h1 x hx
  have := valueL_le hy t
  omega
/-- Tidy lines tell the same. -/
theorem tidy_value {s st : List Ln} (h : HI s st) (h0 : 0 < s.length) {t : Int} (ht : 0 ≤ t) : valueL st.reverse t = valueL s t := by
  have hst : 0 < st.reverse.length := by
    rw [List.length_reverse]
    cases st with
    | nil => rw [h.nil rfl] at h0; simp at h0
    | cons _ _ => simp
  refine valueL_eq (l' := s) hst (fun x hx => valueL_le (h.sub x (List.mem_reverse.1 hx)) t) ?_
  obtain ⟨y, hy, e⟩ := valueL_mem h0 t
  obtain ⟨x, hx, e2⟩ := h.env t 1000 ht (by omega) y hy
  refine ⟨x, List.mem_reverse.2 hx, ?_⟩
  rw [e, lineAt_vv, lineAt_vv]
  exact Int.ediv_le_ediv (by omega) e2
end Go.Proofs.YtoomffajodheaaaGreatDoor
namespace Go.Proofs.YtoomffajodheaaaGreatDoor
def lexB (a b : Ln) : Bool := decide (a.b < b.b ∨ (a.b = b.b ∧ a.r ≤ b.r))
theorem sort_ex (l : List Ln) : ∃ s : List Ln, s.Perm l ∧ s.Pairwise lexLe := by
  induction l with
  | nil => exact ⟨[], List.Perm.refl _, List.Pairwise.nil⟩
  | cons x r ih =>
    obtain ⟨s, hp, hs⟩ := ih
    refine ⟨s.takeWhile (fun y => lexB y x) ++ x :: s.dropWhile (fun y => lexB y x), ?_, ?_⟩
    · refine List.perm_middle.trans (List.Perm.cons x ?_)
      rw [List.takeWhile_append_dropWhile]
      exact hp
    · clear hp
      induction s with
      | nil => simp
      | cons y s ihs =>
        obtain ⟨h1, h2⟩ := List.pairwise_cons.1 hs
        by_cases hc : lexB y x = true
        · rw [List.takeWhile_cons_of_pos (p := fun y => lexB y x) hc, List.dropWhile_cons_of_pos (p := fun y => lexB y x) hc, List.cons_append]
          refine List.pairwise_cons.2 ⟨fun z hz => ?_, ihs h2⟩
          rcases List.mem_append.1 hz with hz | hz
          · exact h1 z ((List.takeWhile_sublist _).subset hz)
          · rcases List.mem_cons.1 hz with rfl | hz
            · have h9 := hc
              unfold lexB at h9
              have h9 := of_decide_eq_true h9
              exact h9
            · exact h1 z ((List.dropWhile_sublist _).subset hz)
        · rw [List.takeWhile_cons_of_neg (p := fun y => lexB y x) hc, List.dropWhile_cons_of_neg (p := fun y => lexB y x) hc, List.nil_append]
          have hyx : lexLe x y := by
            have := of_decide_eq_false (Bool.eq_false_iff.2 hc)
            unfold lexLe
            omega
          refine List.pairwise_cons.2 ⟨fun z hz => ?_, hs⟩
          rcases List.mem_cons.1 hz with rfl | hz
          · exact hyx
          · have := h1 z hz
            unfold lexLe at *
            omega
theorem tidy_ex {l : List Ln} (hr : ∀ y ∈ l, 0 ≤ y.r) : ∃ s st : List Ln, s.Perm l ∧ HI s st ∧ tidyRef l = st.reverse ∧ st.length ≤ s.length := by
  obtain ⟨s, hp, hs⟩ := sort_ex l
  have hr' : ∀ y ∈ s, 0 ≤ y.r := fun y hy => hr y (hp.mem_iff.1 hy)
  refine ⟨s, hullL s, hp, hull_HI hs hr', (tidy_eq (fun x => hp.mem_iff) hs hr').symm, ?_⟩
  have := hull_len s []
  simpa [hullL] using this
theorem tidy_ne {l : List Ln} (hr : ∀ y ∈ l, 0 ≤ y.r) (h : 0 < l.length) : 0 < (tidyRef l).length := by
  obtain ⟨s, st, hp, hi, e, _⟩ := tidy_ex hr
  rw [e, List.length_reverse]
  cases st with
  | nil =>
    have h1 := hi.nil rfl
    rw [h1] at hp
    have := hp.length_eq
    simp at this
    omega
  | cons _ _ => simp
theorem tidy_len {l : List Ln} (hr : ∀ y ∈ l, 0 ≤ y.r) : (tidyRef l).length ≤ l.length := by
  obtain ⟨s, st, hp, hi, e, h⟩ := tidy_ex hr
  rw [e, List.length_reverse, ← hp.length_eq]
  exact h
theorem tidy_sub (l : List Ln) : ∀ x ∈ tidyRef l, x ∈ l := fun x hx => ((tidyRef_spec l).2 x).1 hx |>.1
theorem tidy_val {l : List Ln} (hr : ∀ y ∈ l, 0 ≤ y.r) (h : 0 < l.length) {t : Int} (ht : 0 ≤ t) : valueL (tidyRef l) t = valueL l t := by
  obtain ⟨s, st, hp, hi, e, _⟩ := tidy_ex hr
  have h0 : 0 < s.length := by rw [hp.length_eq]; exact h
  rw [e, tidy_value hi h0 ht]
  refine valueL_eq (l' := l) h0 (fun x hx => valueL_le (hp.mem_iff.1 hx) t) ?_
  obtain ⟨y, hy, e2⟩ := valueL_mem h t
  exact ⟨y, hp.mem_iff.2 hy, by omega⟩
def addLn (x y : Ln) : Ln := ⟨x.b + y.b, x.r + y.r⟩
def sumAll (a b : List Ln) : List Ln := a.flatMap fun x => b.map fun y => addLn x y
theorem mem_sumAll {a b : List Ln} {z : Ln} : z ∈ sumAll a b ↔ ∃ x ∈ a, ∃ y ∈ b, z = addLn x y := by
  unfold sumAll
  rw [List.mem_flatMap]
  constructor
  · rintro ⟨x, hx, h⟩
    obtain ⟨y, hy, e⟩ := List.mem_map.1 h
    exact ⟨x, hx, y, hy, e.symm⟩
  · rintro ⟨x, hx, y, hy, e⟩
    exact ⟨x, hx, List.mem_map.2 ⟨y, hy, e.symm⟩⟩
theorem sumAll_len (a b : List Ln) : (sumAll a b).length = a.length * b.length := by
  unfold sumAll
  induction a with
  | nil => simp
  | cons x r ih => rw [List.flatMap_cons, List.length_append, ih, List.length_map, List.length_cons, Nat.succ_mul, Nat.add_comm]
theorem lineAt_add (x y : Ln) (t : Int) : lineAt x t + lineAt y t ≤ lineAt (addLn x y) t ∧ lineAt (addLn x y) t ≤ lineAt x t + lineAt y t + 1 := by
  unfold lineAt addLn
  simp only
  rw [Int.add_mul]
  omega
theorem sum_val {a b : List Ln} (ha : 0 < a.length) (hb : 0 < b.length) (t : Int) : valueL a t + valueL b t ≤ valueL (sumAll a b) t ∧ valueL (sumAll a b) t ≤ valueL a t + valueL b t + 1 := by
  have h0 : 0 < (sumAll a b).length := by rw [sumAll_len]; exact Nat.mul_pos ha hb
  constructor
  · obtain ⟨z, hz, e⟩ := valueL_mem h0 t
    obtain ⟨x, hx, y, hy, rfl⟩ := mem_sumAll.1 hz
    have := lineAt_add x y t
    have := valueL_le hx t
    have := valueL_le hy t
    omega
  · obtain ⟨x, hx, e1⟩ := valueL_mem ha t
    obtain ⟨y, hy, e2⟩ := valueL_mem hb t
    have := valueL_le (mem_sumAll.2 ⟨x, hx, y, hy, rfl⟩) t
    have := lineAt_add x y t
    omega
/-- An error's number of a sum: a line out of bounds; too many lines. -/
def sumErr (a b : List Ln) : Nat := if (sumAll a b).all (fun z => lineB z.b z.r) then (if 6 < (tidyRef (sumAll a b)).length then 3 else 0) else 2
def sumL (a b : List Ln) : List Ln := if sumErr a b = 0 then tidyRef (sumAll a b) else []
theorem sum_ok {a b : List Ln} (h : sumErr a b = 0) : (∀ z ∈ sumAll a b, okLn z) ∧ (tidyRef (sumAll a b)).length ≤ 6 ∧ sumL a b = tidyRef (sumAll a b) := by
  have h2 := h
  unfold sumErr at h
  by_cases h1 : (sumAll a b).all (fun z => lineB z.b z.r) = true
  · rw [if_pos h1] at h
    refine ⟨fun z hz => (by have h9 := List.all_eq_true.1 h1 z hz; unfold lineB at h9; have h9 := of_decide_eq_true h9; exact h9), ?_, if_pos h2⟩
    by_cases h3 : 6 < (tidyRef (sumAll a b)).length
    · rw [if_pos h3] at h; simp at h
    · omega
  · rw [if_neg h1] at h; simp at h
end Go.Proofs.YtoomffajodheaaaGreatDoor
