/- Plain arithmetic of tidy lines: the lower hull, line by line; which lines are somewhere the least. No program. No condition. -/
import Derived.Test.YteeaipehkhldhaaDoorCvP
namespace Go.Proofs.YteeaipehkhldhaaDoor
/-- Three lines, each flatter than the one ahead: the middle one is somewhere the least of them. -/
def TT (p a c : Ln) : Prop := (a.b - p.b) * (a.r - c.r) < (c.b - a.b) * (p.r - a.r)
instance (p a c : Ln) : Decidable (TT p a c) := by unfold TT; exact inferInstance
def needB (a b c : Ln) : Bool := decide ((c.b - a.b) * (a.r - b.r) ≤ (b.b - a.b) * (a.r - c.r))
theorem needB_iff (p a c : Ln) : needB p a c = true ↔ ¬ TT p a c := by
  unfold needB TT
  rw [decide_eq_true_iff]
  have e1 : (c.b - p.b) * (p.r - a.r) = (c.b - a.b) * (p.r - a.r) + (a.b - p.b) * (p.r - a.r) := by rw [← Int.add_mul]; congr 1; omega
  have e2 : (a.b - p.b) * (p.r - c.r) = (a.b - p.b) * (p.r - a.r) + (a.b - p.b) * (a.r - c.r) := by rw [← Int.mul_add]; congr 1; omega
  rw [e1, e2]
  omega
/-- The row of lines that are kept, the last one ahead. -/
def hullPop (x : Ln) : List Ln → List Ln
  | b :: a :: r => if needB a b x then hullPop x (a :: r) else b :: a :: r
  | l => l
def hullStep (st : List Ln) (x : Ln) : List Ln := match st with
  | [] => [x]
  | t :: r => if t.r ≤ x.r then t :: r else x :: hullPop x (t :: r)
def hullL (l : List Ln) : List Ln := l.foldl hullStep []
/-- What a line tells at n over d, times d. -/
def vv (n d : Int) (x : Ln) : Int := x.b * d + x.r * n
def Chain : List Ln → Prop
  | c :: a :: p :: r => a.b < c.b ∧ c.r < a.r ∧ TT p a c ∧ Chain (a :: p :: r)
  | [c, a] => a.b < c.b ∧ c.r < a.r
  | _ => True
theorem Chain.tail {c : Ln} {r : List Ln} (h : Chain (c :: r)) : Chain r := by
  match r, h with
  | [], _ => trivial
  | [a], _ => trivial
  | a :: p :: r, h => exact h.2.2.2
theorem Chain.head {c a : Ln} {r : List Ln} (h : Chain (c :: a :: r)) : a.b < c.b ∧ c.r < a.r := by
  match r, h with
  | [], h => exact h
  | p :: r, h => exact ⟨h.1, h.2.1⟩
theorem Chain.app {u v : List Ln} (h : Chain (u ++ v)) : Chain v := by
  induction u with
  | nil => exact h
  | cons c u ih => exact ih h.tail
theorem Chain.below {c : Ln} {r : List Ln} (h : Chain (c :: r)) : ∀ x ∈ r, x.b < c.b ∧ c.r < x.r := by
  induction r generalizing c with
  | nil => simp
  | cons a r ih =>
    intro x hx
    have h1 := h.head
    rcases List.mem_cons.1 hx with rfl | hx
    · exact h1
    · have := ih h.tail x hx
      omega
theorem mulA {A B C D d n : Int} (hB : 0 < B) (hd : 0 < d) (hD : 0 < D) (h1 : A * B < C * D) (h2 : C * d ≤ B * n) : A * d < D * n := by
  have e1 := Int.mul_lt_mul_of_pos_right h1 hd
  have e2 := Int.mul_le_mul_of_nonneg_right h2 (Int.le_of_lt hD)
  have e3 : A * B * d = B * (A * d) := by rw [Int.mul_comm A B, Int.mul_assoc]
  have e4 : C * D * d = C * d * D := by rw [Int.mul_assoc, Int.mul_comm D d, Int.mul_assoc]
  have e5 : B * n * D = B * (D * n) := by rw [Int.mul_assoc, Int.mul_comm n D]
  have e6 : B * (A * d) < B * (D * n) := by omega
  exact Int.lt_of_mul_lt_mul_left e6 (Int.le_of_lt hB)
theorem vv_le {n d : Int} {x y : Ln} : vv n d x ≤ vv n d y ↔ (x.b - y.b) * d ≤ (y.r - x.r) * n := by
  unfold vv
  rw [Int.sub_mul, Int.sub_mul]
  omega
theorem vv_lt {n d : Int} {x y : Ln} : vv n d x < vv n d y ↔ (x.b - y.b) * d < (y.r - x.r) * n := by
  unfold vv
  rw [Int.sub_mul, Int.sub_mul]
  omega
theorem down1 {n d : Int} {e p a : Ln} (hd : 0 < d) (h1 : p.r < e.r) (h2 : a.r < p.r) (ht : TT e p a) (hv : vv n d a ≤ vv n d p) : vv n d p < vv n d e := by
  rw [vv_lt]
  exact mulA (B := p.r - a.r) (C := a.b - p.b) (by omega) hd (by omega) ht (vv_le.1 hv)
theorem up1 {n d : Int} {p a c : Ln} (hd : 0 < d) (h1 : a.r < p.r) (h2 : c.r < a.r) (ht : TT p a c) (hv : vv n d p ≤ vv n d a) : vv n d a < vv n d c := by
  have h3 := vv_le.1 hv
  unfold TT at ht
  have e1 : (a.b - c.b) * d < (c.r - a.r) * n := by
    have g1 : 0 < p.r - a.r := by omega
    have k1 := Int.mul_lt_mul_of_pos_right ht hd
    have k2 : (p.r - a.r) * n ≤ (a.b - p.b) * d := by
      have x1 : (p.b - a.b) * d = -((a.b - p.b) * d) := by rw [← Int.neg_mul]; congr 1; omega
      have x2 : (a.r - p.r) * n = -((p.r - a.r) * n) := by rw [← Int.neg_mul]; congr 1; omega
      omega
    have k3 := Int.mul_le_mul_of_nonneg_left k2 (show 0 ≤ a.r - c.r by omega)
    have e3 : (a.b - p.b) * (a.r - c.r) * d = (a.r - c.r) * ((a.b - p.b) * d) := by rw [Int.mul_comm (a.b - p.b), Int.mul_assoc]
    have e4 : (c.b - a.b) * (p.r - a.r) * d = (p.r - a.r) * ((c.b - a.b) * d) := by rw [Int.mul_comm (c.b - a.b), Int.mul_assoc]
    have e5 : (a.r - c.r) * ((p.r - a.r) * n) = (p.r - a.r) * ((a.r - c.r) * n) := Int.mul_left_comm _ _ _
    have k4 : (p.r - a.r) * ((a.r - c.r) * n) < (p.r - a.r) * ((c.b - a.b) * d) := by omega
    have k5 := Int.lt_of_mul_lt_mul_left k4 (Int.le_of_lt g1)
    have x1 : (a.b - c.b) * d = -((c.b - a.b) * d) := by rw [← Int.neg_mul]; congr 1; omega
    have x2 : (c.r - a.r) * n = -((a.r - c.r) * n) := by rw [← Int.neg_mul]; congr 1; omega
    omega
  exact vv_lt.2 e1
theorem chain_down {n d : Int} (hd : 0 < d) {a p : Ln} {r : List Ln} (h : Chain (a :: p :: r)) (hv : vv n d a ≤ vv n d p) : ∀ x ∈ r, vv n d p ≤ vv n d x := by
  induction r generalizing a p with
  | nil => simp
  | cons e r ih =>
    intro x hx
    have h1 := h.head
    have h2 := h.tail.head
    have h3 : TT e p a := h.2.2.1
    have h4 := down1 hd h2.2 h1.2 h3 hv
    rcases List.mem_cons.1 hx with rfl | hx
    · omega
    · have := ih h.tail (Int.le_of_lt h4) x hx
      omega
theorem chain_up {n d : Int} (hd : 0 < d) (u : List Ln) {a p : Ln} {r : List Ln} (h : Chain (u.reverse ++ a :: p :: r)) (hv : vv n d p ≤ vv n d a) : ∀ x ∈ u, vv n d a ≤ vv n d x := by
  induction u generalizing a p r with
  | nil => simp
  | cons c u ih =>
    intro x hx
    rw [List.reverse_cons, List.append_assoc] at h
    have hc : Chain (c :: a :: p :: r) := h.app
    have h1 := hc.head
    have h2 := hc.tail.head
    have h4 := up1 hd h2.2 h1.2 hc.2.2.1 hv
    rcases List.mem_cons.1 hx with rfl | hx
    · omega
    · have := ih h (Int.le_of_lt h4) x hx
      omega
/-- Where two neighbours of the chain meet none of the chain is less. -/
theorem chain_meet {u r : List Ln} {a p : Ln} (h : Chain (u ++ a :: p :: r)) : ∀ x ∈ u ++ a :: p :: r, vv (a.b - p.b) (p.r - a.r) a ≤ vv (a.b - p.b) (p.r - a.r) x := by
  have hc : Chain (a :: p :: r) := h.app
  have h1 := hc.head
  have heq : vv (a.b - p.b) (p.r - a.r) a = vv (a.b - p.b) (p.r - a.r) p := by
    have e1 := vv_le (n := a.b - p.b) (d := p.r - a.r) (x := a) (y := p)
    have e2 := vv_le (n := a.b - p.b) (d := p.r - a.r) (x := p) (y := a)
    have e3 : (a.b - p.b) * (p.r - a.r) = (p.r - a.r) * (a.b - p.b) := Int.mul_comm _ _
    have e4 : (p.b - a.b) * (p.r - a.r) = (a.r - p.r) * (a.b - p.b) := by
      rw [show p.b - a.b = -(a.b - p.b) by omega, show a.r - p.r = -(p.r - a.r) by omega, Int.neg_mul, Int.neg_mul, Int.mul_comm]
    have := e1.2 (by omega)
    have := e2.2 (by omega)
    omega
  intro x hx
  rcases List.mem_append.1 hx with hx | hx
  · have := chain_up (n := a.b - p.b) (d := p.r - a.r) (by omega) u.reverse (by rw [List.reverse_reverse]; exact h) (by omega) x (List.mem_reverse.2 hx)
    omega
  · rcases List.mem_cons.1 hx with rfl | hx
    · omega
    · rcases List.mem_cons.1 hx with rfl | hx
      · omega
      · have := chain_down (n := a.b - p.b) (d := p.r - a.r) (by omega) hc (by omega) x hx
        omega
/-- What the row of kept lines is to those that were looked at. -/
structure HI (s st : List Ln) : Prop where
  ch : Chain st
  sub : ∀ x ∈ st, x ∈ s
  nil : st = [] → s = []
  top : ∀ t r, st = t :: r → ∀ y ∈ s, t.r ≤ y.r
  bot : ∀ u t, st = u ++ [t] → ∀ y ∈ s, t.b ≤ y.b ∧ (t.b = y.b → t.r ≤ y.r)
  env : ∀ n d : Int, 0 ≤ n → 0 < d → ∀ y ∈ s, ∃ x ∈ st, vv n d x ≤ vv n d y
theorem pop_chain {x : Ln} {st : List Ln} (h : Chain st) : Chain (hullPop x st) := by
  induction st with
  | nil => exact h
  | cons b r ih =>
    match r, h, ih with
    | [], h, _ => exact h
    | a :: r, h, ih =>
      rw [hullPop]
      split
      · exact ih h.tail
      · exact h
theorem pop_sub {x : Ln} {st : List Ln} : ∀ y ∈ hullPop x st, y ∈ st := by
  induction st with
  | nil => exact fun y h => h
  | cons b r ih =>
    match r, ih with
    | [], _ => exact fun y h => h
    | a :: r, ih =>
      rw [hullPop]
      split
      · exact fun y h => List.mem_cons_of_mem _ (ih y h)
      · exact fun y h => h
theorem pop_ne {x : Ln} {t : Ln} {r : List Ln} : hullPop x (t :: r) ≠ [] := by
  induction r generalizing t with
  | nil => simp [hullPop]
  | cons a r ih =>
    rw [hullPop]
    split
    · exact ih
    · simp
theorem pop_bot {x : Ln} {st : List Ln} : ∀ (u : List Ln) (t : Ln), hullPop x st = u ++ [t] → ∃ u', st = u' ++ [t] := by
  induction st with
  | nil => exact fun u t h => ⟨u, h⟩
  | cons b r ih =>
    match r, ih with
    | [], _ => exact fun u t h => ⟨u, h⟩
    | a :: r, ih =>
      rw [hullPop]
      split
      · intro u t h
        obtain ⟨u', e⟩ := ih u t h
        exact ⟨b :: u', by rw [e]; rfl⟩
      · exact fun u t h => ⟨u, h⟩
theorem push_chain {x : Ln} {st : List Ln} (h : Chain st) (hx : ∀ y ∈ st, y.b < x.b ∧ x.r < y.r) : Chain (x :: hullPop x st) := by
  induction st with
  | nil => trivial
  | cons b r ih =>
    match r, h, ih, hx with
    | [], h, _, hx => exact hx b List.mem_cons_self
    | a :: r, h, ih, hx =>
      rw [hullPop]
      split
      · exact ih h.tail fun y hy => hx y (List.mem_cons_of_mem _ hy)
      · rename_i hn
        have h1 := hx b List.mem_cons_self
        have h2 : TT a b x := by
          by_cases ht : TT a b x
          · exact ht
          · exact absurd ((needB_iff a b x).2 ht) hn
        exact ⟨h1.1, h1.2, h2, h⟩
/-- A line that is not needed is nowhere less than both of its neighbours. -/
theorem need_env {a b x : Ln} (h1 : b.r < a.r) (h2 : x.r < b.r) (h : ¬ TT a b x) {n d : Int} (hd : 0 < d) : vv n d a ≤ vv n d b ∨ vv n d x ≤ vv n d b := by
  by_cases hv : vv n d a ≤ vv n d b
  · exact .inl hv
  · right
    by_cases hx : vv n d x ≤ vv n d b
    · exact hx
    · exfalso
      apply h
      have g1 : (b.b - a.b) * d < (a.r - b.r) * n := vv_lt.1 (by omega)
      have g2 : (b.b - x.b) * d < (x.r - b.r) * n := vv_lt.1 (by omega)
      unfold TT
      have x1 : (b.b - x.b) * d = -((x.b - b.b) * d) := by rw [← Int.neg_mul]; congr 1; omega
      have x2 : (x.r - b.r) * n = -((b.r - x.r) * n) := by rw [← Int.neg_mul]; congr 1; omega
      have k1 := Int.mul_lt_mul_of_pos_right g1 (show 0 < b.r - x.r by omega)
      have k2 : (b.r - x.r) * n < (x.b - b.b) * d := by omega
      have k3 := Int.mul_lt_mul_of_pos_right k2 (show 0 < a.r - b.r by omega)
      have e1 : (b.b - a.b) * d * (b.r - x.r) = d * ((b.b - a.b) * (b.r - x.r)) := by rw [Int.mul_comm (b.b - a.b) d, Int.mul_assoc]
      have e2 : (a.r - b.r) * n * (b.r - x.r) = (b.r - x.r) * n * (a.r - b.r) := by rw [Int.mul_assoc, Int.mul_comm (a.r - b.r), Int.mul_comm n]
      have e3 : (x.b - b.b) * d * (a.r - b.r) = d * ((x.b - b.b) * (a.r - b.r)) := by rw [Int.mul_comm (x.b - b.b) d, Int.mul_assoc]
      have k4 : d * ((b.b - a.b) * (b.r - x.r)) < d * ((x.b - b.b) * (a.r - b.r)) := by omega
      exact Int.lt_of_mul_lt_mul_left k4 (Int.le_of_lt hd)
theorem pop_env {x : Ln} {st : List Ln} (h : Chain st) (hx : ∀ y ∈ st, x.r < y.r) {n d : Int} (hd : 0 < d) : ∀ y ∈ st, ∃ z ∈ x :: hullPop x st, vv n d z ≤ vv n d y := by
  induction st with
  | nil => simp
  | cons b r ih =>
    match r, h, ih, hx with
    | [], h, _, hx => exact fun y hy => ⟨y, List.mem_cons_of_mem _ hy, Int.le_refl _⟩
    | a :: r, h, ih, hx =>
      rw [hullPop]
      split
      · rename_i hn
        have ih := ih h.tail fun y hy => hx y (List.mem_cons_of_mem _ hy)
        intro y hy
        rcases List.mem_cons.1 hy with rfl | hy
        · rcases need_env h.head.2 (hx y List.mem_cons_self) ((needB_iff a y x).1 hn) (n := n) hd with e | e
          · obtain ⟨z, hz, e2⟩ := ih a List.mem_cons_self
            exact ⟨z, hz, by omega⟩
          · exact ⟨x, List.mem_cons_self, e⟩
        · exact ih y hy
      · exact fun y hy => ⟨y, List.mem_cons_of_mem _ hy, Int.le_refl _⟩
def lexLe (a b : Ln) : Prop := a.b < b.b ∨ (a.b = b.b ∧ a.r ≤ b.r)
theorem HI.step {s st : List Ln} {x : Ln} (h : HI s st) (hx : ∀ y ∈ s, lexLe y x) (hr : ∀ y ∈ s, 0 ≤ y.r) : HI (s ++ [x]) (hullStep st x) := by
  cases st with
  | nil =>
    have hs := h.nil rfl
    subst hs
    refine ⟨trivial, by simp [hullStep], by simp [hullStep], ?_, ?_, ?_⟩
    · intro t r e y hy
      simp [hullStep] at e hy
      rw [hy, ← e.1]
      exact Int.le_refl _
    · intro u t e y hy
      simp at hy
      subst hy
      cases u with
      | nil => simp [hullStep] at e; rw [e]; exact ⟨Int.le_refl _, fun _ => Int.le_refl _⟩
      | cons a u => simp [hullStep] at e
    · intro n d hn hd y hy
      simp at hy
      subst hy
      exact ⟨y, by simp [hullStep], Int.le_refl _⟩
  | cons t r =>
    have htop := h.top t r rfl
    have hts : t ∈ s := h.sub t List.mem_cons_self
    unfold hullStep
    by_cases hc : t.r ≤ x.r
    · simp only [if_pos hc]
      refine ⟨h.ch, fun y hy => List.mem_append_left _ (h.sub y hy), fun e => (by cases e), fun t' r' e y hy => ?_, fun u t' e y hy => ?_, fun n d hn hd y hy => ?_⟩
      · rcases List.mem_append.1 hy with hy | hy
        · exact h.top t' r' e y hy
        · simp at hy e
          rw [hy, ← e.1]
          exact hc
      · rcases List.mem_append.1 hy with hy | hy
        · exact h.bot u t' e y hy
        · simp at hy
          subst hy
          have h1 := h.bot u t' e t hts
          have h2 := hx t hts
          unfold lexLe at h2
          omega
      · rcases List.mem_append.1 hy with hy | hy
        · exact h.env n d hn hd y hy
        · simp at hy
          subst hy
          refine ⟨t, List.mem_cons_self, ?_⟩
          have h2 := hx t hts
          unfold lexLe at h2
          unfold vv
          have := Int.mul_le_mul_of_nonneg_right (show t.b ≤ y.b by omega) (Int.le_of_lt hd)
          have := Int.mul_le_mul_of_nonneg_right hc hn
          omega
    · simp only [if_neg hc]
      have hlt : ∀ y ∈ t :: r, y.b < x.b ∧ x.r < y.r := fun y hy => by
        have h1 := htop y (h.sub y hy)
        have h2 := hx y (h.sub y hy)
        unfold lexLe at h2
        omega
      refine ⟨push_chain h.ch hlt, fun y hy => ?_, fun e => (by cases e), fun t' r' e y hy => ?_, fun u t' e y hy => ?_, fun n d hn hd y hy => ?_⟩
      · rcases List.mem_cons.1 hy with rfl | hy
        · simp
        · exact List.mem_append_left _ (h.sub y (pop_sub y hy))
      · simp at e
        rw [← e.1]
        rcases List.mem_append.1 hy with hy | hy
        · have := htop y hy; omega
        · simp at hy; rw [hy]; exact Int.le_refl _
      · cases u with
        | nil =>
          simp at e
          exact absurd e.2 pop_ne
        | cons z u =>
          simp at e
          obtain ⟨u', e'⟩ := pop_bot u t' e.2
          have hb := h.bot u' t' e'
          rcases List.mem_append.1 hy with hy | hy
          · exact hb y hy
          · simp at hy
            subst hy
            have h1 := hb t hts
            have h2 := hlt t List.mem_cons_self
            omega
      · rcases List.mem_append.1 hy with hy | hy
        · obtain ⟨z, hz, e1⟩ := h.env n d hn hd y hy
          obtain ⟨z', hz', e2⟩ := pop_env h.ch (fun y hy => (hlt y hy).2) (n := n) hd z hz
          exact ⟨z', hz', by omega⟩
        · simp at hy
          subst hy
          exact ⟨y, List.mem_cons_self, Int.le_refl _⟩
theorem hull_inv (s2 s1 st : List Ln) (h : HI s1 st) (hs : (s1 ++ s2).Pairwise lexLe) (hr : ∀ y ∈ s1 ++ s2, 0 ≤ y.r) : HI (s1 ++ s2) (s2.foldl hullStep st) := by
  induction s2 generalizing s1 st with
  | nil => rw [List.append_nil]; exact h
  | cons x s2 ih =>
    rw [List.foldl_cons]
    have e : s1 ++ x :: s2 = (s1 ++ [x]) ++ s2 := by simp
    rw [e] at hs hr ⊢
    refine ih (s1 ++ [x]) _ (h.step (fun y hy => ?_) fun y hy => hr y (by simp [hy])) hs hr
    have h2 := (List.pairwise_append.1 hs).1
    exact (List.pairwise_append.1 h2).2.2 y hy x (by simp)
theorem hull_HI {s : List Ln} (hs : s.Pairwise lexLe) (hr : ∀ y ∈ s, 0 ≤ y.r) : HI s (hullL s) := by
  have h0 : HI [] [] := ⟨trivial, by simp, fun _ => rfl, by simp, by simp, by simp⟩
  have := hull_inv s [] [] h0 (by simpa using hs) (by simpa using hr)
  rw [List.nil_append] at this
  exact this
theorem hull_len (s st : List Ln) : (s.foldl hullStep st).length ≤ st.length + s.length := by
  induction s generalizing st with
  | nil => simp
  | cons x s ih =>
    rw [List.foldl_cons]
    have h1 := ih (hullStep st x)
    have h2 : (hullStep st x).length ≤ st.length + 1 := by
      cases st with
      | nil => simp [hullStep]
      | cons t r =>
        show (if t.r ≤ x.r then t :: r else x :: hullPop x (t :: r)).length ≤ _
        have hp : ∀ st : List Ln, (hullPop x st).length ≤ st.length := fun st => by
          induction st with
          | nil => simp [hullPop]
          | cons b r ih =>
            match r, ih with
            | [], _ => simp [hullPop]
            | a :: r, ih =>
              rw [hullPop]
              split
              · simp at ih ⊢; omega
              · exact Nat.le_refl _
        by_cases hc : t.r ≤ x.r
        · rw [if_pos hc]; exact Nat.le_succ _
        · rw [if_neg hc]
          have := hp (t :: r)
          rw [List.length_cons]
          omega
    rw [List.length_cons]
    omega
end Go.Proofs.YteeaipehkhldhaaDoor
