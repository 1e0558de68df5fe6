/- Plain arithmetic of tidy lines: what is kept is what is somewhere the least; the document's way gives the same lines; what curves tell. No program. No condition. -/
import Derived.Test.YteeaipehkhldhaaDoorTdyP
namespace Go.Proofs.YteeaipehkhldhaaDoor
/-- Somewhere the least of all: by pairs. -/
structure PP (s : List Ln) (a : Ln) : Prop where
  same : ∀ y ∈ s, y.r = a.r → y ≠ a → a.b < y.b
  flat : ∀ c ∈ s, c.r < a.r → a.b < c.b
  both : ∀ b ∈ s, ∀ c ∈ s, a.r < b.r → b.b ≤ a.b → c.r < a.r → TT b a c
theorem PP.congr {s s' : List Ln} {a : Ln} (hm : ∀ y, y ∈ s' → y ∈ s) (h : PP s a) : PP s' a := ⟨fun y hy => h.same y (hm y hy), fun c hc => h.flat c (hm c hc), fun b hb c hc => h.both b (hm b hb) c (hm c hc)⟩
theorem ln_ext {x y : Ln} (h1 : x.b = y.b) (h2 : x.r = y.r) : x = y := by
  cases x; cases y; simp at h1 h2; rw [h1, h2]
theorem chain_mem_above {u r : List Ln} {a : Ln} (h : Chain (u ++ a :: r)) : ∀ x ∈ u, a.b < x.b ∧ x.r < a.r := by
  induction u with
  | nil => simp
  | cons c u ih =>
    intro x hx
    rcases List.mem_cons.1 hx with rfl | hx
    · have := h.below a (by simp)
      omega
    · exact ih h.tail x hx
theorem mulB {P Q R S nL dL nR dR : Int} (hL : 0 < dL) (hR : 0 < dR) (hQ : 0 < Q) (hS : 0 < S) (h1 : P * dL ≤ S * nL) (h2 : Q * nR ≤ R * dR) (h3 : nL * dR < nR * dL) : P * Q < R * S := by
  have k1 := Int.mul_le_mul_of_nonneg_right h1 (Int.le_of_lt (Int.mul_pos hQ hR))
  have k2 := Int.mul_le_mul_of_nonneg_right h2 (Int.le_of_lt (Int.mul_pos hS hL))
  have k3 := Int.mul_lt_mul_of_pos_left h3 (Int.mul_pos hQ hS)
  have e1 : P * dL * (Q * dR) = (dL * dR) * (P * Q) := by
    rw [Int.mul_assoc P, Int.mul_left_comm dL, ← Int.mul_assoc P, Int.mul_comm (P * Q)]
  have e2 : S * nL * (Q * dR) = Q * S * (nL * dR) := by
    rw [Int.mul_comm S nL, Int.mul_assoc nL, ← Int.mul_assoc S, Int.mul_comm S Q, Int.mul_left_comm]
  have e3 : Q * nR * (S * dL) = Q * S * (nR * dL) := by
    rw [Int.mul_assoc Q, Int.mul_left_comm nR, ← Int.mul_assoc Q]
  have e4 : R * dR * (S * dL) = (dL * dR) * (R * S) := by
    rw [Int.mul_assoc R, Int.mul_left_comm dR, ← Int.mul_assoc R, Int.mul_comm (R * S), Int.mul_comm dR]
  have k4 : (dL * dR) * (P * Q) < (dL * dR) * (R * S) := by omega
  exact Int.lt_of_mul_lt_mul_left k4 (Int.le_of_lt (Int.mul_pos hL hR))
theorem vv_meet {a p : Ln} : vv (a.b - p.b) (p.r - a.r) a = vv (a.b - p.b) (p.r - a.r) p := by
  have e3 : (a.b - p.b) * (p.r - a.r) = (p.r - a.r) * (a.b - p.b) := Int.mul_comm _ _
  have e4 : (p.b - a.b) * (p.r - a.r) = (a.r - p.r) * (a.b - p.b) := by
    rw [show p.b - a.b = -(a.b - p.b) by omega, show a.r - p.r = -(p.r - a.r) by omega, Int.neg_mul, Int.neg_mul, Int.mul_comm]
  have := (vv_le (n := a.b - p.b) (d := p.r - a.r) (x := a) (y := p)).2 (by omega)
  have := (vv_le (n := a.b - p.b) (d := p.r - a.r) (x := p) (y := a)).2 (by omega)
  omega
theorem hull_PP {s st : List Ln} (h : HI s st) {a : Ln} (ha : a ∈ st) : PP s a := by
  obtain ⟨u, r, rfl⟩ := List.append_of_mem ha
  have hch := h.ch
  -- the tick from which on it is the least
  obtain ⟨nL, dL, l0, l1, l2, l3⟩ : ∃ nL dL : Int, 0 ≤ nL ∧ 0 < dL ∧ (∀ y ∈ s, vv nL dL a ≤ vv nL dL y) ∧ ∀ c : Ln, ∀ u', u = u' ++ [c] → nL * (a.r - c.r) < (c.b - a.b) * dL := by
    cases r with
    | nil =>
      refine ⟨0, 1, by omega, by omega, fun y hy => ?_, fun c u' e => ?_⟩
      · obtain ⟨x, hx, e⟩ := h.env 0 1 (by omega) (by omega) y hy
        unfold vv at e ⊢
        rcases List.mem_append.1 hx with hx | hx
        · have := chain_mem_above hch x hx; omega
        · simp at hx; subst hx; exact e
      · have := chain_mem_above hch c (by rw [e]; simp)
        rw [Int.zero_mul, Int.mul_one]
        omega
    | cons p r =>
      have hc : Chain (a :: p :: r) := hch.app
      have h1 := hc.head
      refine ⟨a.b - p.b, p.r - a.r, by omega, by omega, fun y hy => ?_, fun c u' e => ?_⟩
      · obtain ⟨x, hx, e⟩ := h.env (a.b - p.b) (p.r - a.r) (by omega) (by omega) y hy
        have := chain_meet hch x hx
        omega
      · subst e
        rw [List.append_assoc] at hch
        have hc2 : Chain (c :: a :: p :: r) := hch.app
        exact hc2.2.2.1
  have hflat : ∀ c ∈ s, c.r < a.r → ∃ nR dR : Int, 0 < nR ∧ 0 < dR ∧ (∀ y ∈ s, vv nR dR a ≤ vv nR dR y) ∧ nL * dR < nR * dL := by
    intro c hc hcr
    rcases List.eq_nil_or_concat u with e | ⟨u', c', e⟩
    · subst e
      have := h.top a r rfl c hc
      omega
    · rw [List.concat_eq_append] at e
      subst e
      have hch2 : Chain (u' ++ c' :: a :: r) := by simpa using hch
      have hc2 : Chain (c' :: a :: r) := hch2.app
      have h1 := hc2.head
      refine ⟨c'.b - a.b, a.r - c'.r, by omega, by omega, fun y hy => ?_, l3 c' u' rfl⟩
      obtain ⟨x, hx, e⟩ := h.env (c'.b - a.b) (a.r - c'.r) (by omega) (by omega) y hy
      have h2 := chain_meet hch2 x (by simpa using hx)
      have h3 := vv_meet (a := c') (p := a)
      omega
  refine ⟨fun y hy e hne => ?_, fun c hc hcr => ?_, fun b hb c hc hbr hbb hcr => ?_⟩
  · have h1 := vv_le.1 (l2 y hy)
    rw [e, Int.sub_self, Int.zero_mul] at h1
    have h2 : ¬ 0 < a.b - y.b := fun h9 => by have := Int.mul_pos h9 l1; omega
    by_cases h3 : y.b = a.b
    · exact absurd (ln_ext h3 e) hne
    · omega
  · obtain ⟨nR, dR, r0, r1, r2, _⟩ := hflat c hc hcr
    have h1 := vv_le.1 (r2 c hc)
    have h2 : (c.r - a.r) * nR < 0 := Int.mul_neg_of_neg_of_pos (by omega) r0
    have h3 : ¬ 0 ≤ a.b - c.b := fun h9 => by have := Int.mul_nonneg h9 (Int.le_of_lt r1); omega
    omega
  · obtain ⟨nR, dR, r0, r1, r2, r3⟩ := hflat c hc hcr
    have h1 := vv_le.1 (l2 b hb)
    have h2 := vv_le.1 (r2 c hc)
    have h3 : (a.r - c.r) * nR ≤ (c.b - a.b) * dR := by
      have x1 : (a.b - c.b) * dR = -((c.b - a.b) * dR) := by rw [← Int.neg_mul]; congr 1; omega
      have x2 : (c.r - a.r) * nR = -((a.r - c.r) * nR) := by rw [← Int.neg_mul]; congr 1; omega
      omega
    exact mulB l1 r1 (by omega) (by omega) h1 h3 r3
theorem split_rate {st : List Ln} {z : Int} : ∀ {t : Ln} {r : List Ln}, st = t :: r → t.r ≤ z → (∃ x ∈ st, z < x.r) → ∃ u c p v, st = u ++ c :: p :: v ∧ c.r ≤ z ∧ z < p.r := by
  induction st with
  | nil => intro t r e; cases e
  | cons a st ih =>
    intro t r e ht hx
    simp at e
    obtain ⟨rfl, rfl⟩ := e
    cases st with
    | nil =>
      obtain ⟨x, hx, hz⟩ := hx
      simp at hx
      subst hx
      omega
    | cons b st =>
      by_cases hb : z < b.r
      · exact ⟨[], a, b, st, rfl, ht, hb⟩
      · obtain ⟨x, hx, hz⟩ := hx
        have hx2 : x ∈ b :: st := by
          rcases List.mem_cons.1 hx with rfl | hx
          · omega
          · exact hx
        obtain ⟨u, c, p, v, e, h1, h2⟩ := ih rfl (by omega) ⟨x, hx2, hz⟩
        exact ⟨a :: u, c, p, v, by rw [e]; rfl, h1, h2⟩
theorem PP_hull {s st : List Ln} (h : HI s st) {a : Ln} (ha : a ∈ s) (hp : PP s a) : a ∈ st := by
  by_cases hin : a ∈ st
  · exact hin
  · exfalso
    cases st with
    | nil => rw [h.nil rfl] at ha; cases ha
    | cons t r =>
      have htop := h.top t r rfl a ha
      rcases List.eq_nil_or_concat (t :: r) with e | ⟨u, h0, e⟩
      · cases e
      · rw [List.concat_eq_append] at e
        have hbot := h.bot u h0 e a ha
        have h0s : h0 ∈ s := h.sub h0 (by rw [e]; simp)
        by_cases hr : h0.r ≤ a.r
        · by_cases her : h0.r = a.r
          · have := hp.same h0 h0s her (fun e2 => hin (by rw [e, ← e2]; simp))
            omega
          · have := hp.flat h0 h0s (by omega)
            omega
        · obtain ⟨u, c, p, v, e2, h1, h2⟩ := split_rate rfl htop ⟨h0, by rw [e]; simp, by omega⟩
          have hch := h.ch
          have hsub := h.sub
          have henv := h.env
          rw [e2] at hch hsub henv hin
          have hcp : Chain (c :: p :: v) := hch.app
          have h3 := hcp.head
          have hcs : c ∈ s := hsub c (by simp)
          have hps : p ∈ s := hsub p (by simp)
          obtain ⟨x, hx, e3⟩ := henv (c.b - p.b) (p.r - c.r) (by omega) (by omega) a ha
          have h4 := chain_meet hch x hx
          have h5 : vv (c.b - p.b) (p.r - c.r) c ≤ vv (c.b - p.b) (p.r - c.r) a := by omega
          have h6 := vv_meet (a := c) (p := p)
          by_cases hcr : c.r = a.r
          · have h7 := hp.same c hcs hcr (fun e9 => hin (by rw [← e9]; simp))
            have h8 := vv_le.1 h5
            rw [hcr, Int.sub_self, Int.zero_mul] at h8
            have := Int.mul_pos (show 0 < c.b - a.b by omega) (show 0 < p.r - a.r by omega)
            omega
          · have hcr2 : c.r < a.r := by omega
            have h7 := hp.flat c hcs hcr2
            by_cases hpb : p.b ≤ a.b
            · have h8 := hp.both p hps c hcs h2 hpb hcr2
              unfold TT at h8
              have h9 := vv_le.1 h5
              have e1 : (c.b - a.b) * (p.r - c.r) = (c.b - a.b) * (p.r - a.r) + (c.b - a.b) * (a.r - c.r) := by rw [← Int.mul_add]; congr 1; omega
              have e2' : (a.r - c.r) * (c.b - p.b) = (a.r - c.r) * (c.b - a.b) + (a.r - c.r) * (a.b - p.b) := by rw [← Int.mul_add]; congr 1; omega
              have e3' : (c.b - a.b) * (a.r - c.r) = (a.r - c.r) * (c.b - a.b) := Int.mul_comm _ _
              have e4 : (a.b - p.b) * (a.r - c.r) = (a.r - c.r) * (a.b - p.b) := Int.mul_comm _ _
              omega
            · have h8 : vv (c.b - p.b) (p.r - c.r) p ≤ vv (c.b - p.b) (p.r - c.r) a := by omega
              have h9 := vv_le.1 h8
              have k1 := Int.mul_pos (show 0 < p.b - a.b by omega) (show 0 < p.r - c.r by omega)
              have k2 := Int.mul_nonneg (show 0 ≤ p.r - a.r by omega) (show 0 ≤ c.b - p.b by omega)
              have x2 : (a.r - p.r) * (c.b - p.b) = -((p.r - a.r) * (c.b - p.b)) := by rw [← Int.neg_mul]; congr 1; omega
              omega
theorem chain_asc {st : List Ln} (h : Chain st) : st.Pairwise fun x y => x.r < y.r := by
  induction st with
  | nil => exact List.Pairwise.nil
  | cons c r ih => exact List.pairwise_cons.2 ⟨fun x hx => (h.below x hx).2, ih h.tail⟩
/-- Falling rows of the same lines are the same. -/
theorem desc_ext {l l' : List Ln} (h : l.Pairwise (fun x y => y.r < x.r)) (h' : l'.Pairwise (fun x y => y.r < x.r)) (hm : ∀ x, x ∈ l ↔ x ∈ l') : l = l' := by
  induction l generalizing l' with
  | nil =>
    cases l' with
    | nil => rfl
    | cons y r => exact absurd ((hm y).2 List.mem_cons_self) (by simp)
  | cons x r ih =>
    cases l' with
    | nil => exact absurd ((hm x).1 List.mem_cons_self) (by simp)
    | cons y r' =>
      obtain ⟨h1, h2⟩ := List.pairwise_cons.1 h
      obtain ⟨h3, h4⟩ := List.pairwise_cons.1 h'
      have hxy : x = y := by
        rcases List.mem_cons.1 ((hm x).1 List.mem_cons_self) with e | e
        · exact e
        · rcases List.mem_cons.1 ((hm y).2 List.mem_cons_self) with e' | e'
          · exact e'.symm
          · have := h1 y e'; have := h3 x e; omega
      subst hxy
      congr 1
      refine ih h2 h4 fun z => ⟨fun hz => ?_, fun hz => ?_⟩
      · rcases List.mem_cons.1 ((hm z).1 (List.mem_cons_of_mem _ hz)) with e | e
        · have := h1 z hz; rw [e] at this; omega
        · exact e
      · rcases List.mem_cons.1 ((hm z).2 (List.mem_cons_of_mem _ hz)) with e | e
        · have := h3 z hz; rw [e] at this; omega
        · exact e
/-- The document's: what bounds where a line is the least. -/
structure SS where
  lo : Int
  lb : Int
  op : Bool
  hi : Int
  hb : Int
def ss0 : SS := ⟨0, 1, false, 0, 0⟩
def ssStep (a b : Ln) (s : SS) : SS :=
  if 0 < b.r - a.r then (if 0 ≤ a.b - b.b ∧ s.lo * (b.r - a.r) ≤ (a.b - b.b) * s.lb then { s with lo := a.b - b.b, lb := b.r - a.r, op := true } else s)
  else (if s.hb = 0 ∨ -(a.b - b.b) * s.hb < s.hi * -(b.r - a.r) then { s with hi := -(a.b - b.b), hb := -(b.r - a.r) } else s)
/-- some: none, a line that is nowhere less. -/
def ssGo (a : Ln) (i : Nat) : Nat → SS → List Ln → Option SS
  | _, s, [] => some s
  | k, s, b :: r => if b = a then (if k < i then none else ssGo a i (k + 1) s r) else if b.r = a.r then (if b.b ≤ a.b then none else ssGo a i (k + 1) s r) else ssGo a i (k + 1) (ssStep a b s) r
def ssEnd (s : SS) : Bool := if s.hb = 0 then true else if s.op = false then decide (0 < s.hi) else decide (s.lo * s.hb < s.hi * s.lb)
def someB (l : List Ln) (i : Nat) : Bool := match l[i]? with
  | none => false
  | some a => match ssGo a i 0 ss0 l with
    | none => false
    | some s => ssEnd s
structure SI (a : Ln) (s : SS) (l : List Ln) : Prop where
  lb : 0 < s.lb
  lo : 0 ≤ s.lo
  cl : s.op = false → ∀ b ∈ l, a.r < b.r → ¬ b.b ≤ a.b
  at_ : s.op = true → ∃ b ∈ l, a.r < b.r ∧ b.b ≤ a.b ∧ s.lo = a.b - b.b ∧ s.lb = b.r - a.r
  le : s.op = true → ∀ b ∈ l, a.r < b.r → b.b ≤ a.b → (a.b - b.b) * s.lb ≤ s.lo * (b.r - a.r)
  z0 : s.op = false → s.lo = 0 ∧ s.lb = 1
  hb : 0 ≤ s.hb
  h0 : s.hb = 0 → ∀ c ∈ l, ¬ c.r < a.r
  hat : 0 < s.hb → ∃ c ∈ l, c.r < a.r ∧ s.hi = c.b - a.b ∧ s.hb = a.r - c.r
  hle : 0 < s.hb → ∀ c ∈ l, c.r < a.r → s.hi * (a.r - c.r) ≤ (c.b - a.b) * s.hb
theorem SI.same {a : Ln} {s : SS} {l : List Ln} (h : SI a s l) {b : Ln} (hb : b.r = a.r) : SI a s (l ++ [b]) where
  lb := h.lb
  lo := h.lo
  cl := fun e x hx => by
    rcases List.mem_append.1 hx with hx | hx
    · exact h.cl e x hx
    · simp at hx; subst hx; omega
  at_ := fun e => by obtain ⟨x, hx, r⟩ := h.at_ e; exact ⟨x, List.mem_append_left _ hx, r⟩
  le := fun e x hx => by
    rcases List.mem_append.1 hx with hx | hx
    · exact h.le e x hx
    · simp at hx; subst hx; omega
  z0 := h.z0
  hb := h.hb
  h0 := fun e x hx => by
    rcases List.mem_append.1 hx with hx | hx
    · exact h.h0 e x hx
    · simp at hx; subst hx; omega
  hat := fun e => by obtain ⟨x, hx, r⟩ := h.hat e; exact ⟨x, List.mem_append_left _ hx, r⟩
  hle := fun e x hx => by
    rcases List.mem_append.1 hx with hx | hx
    · exact h.hle e x hx
    · simp at hx; subst hx; omega
theorem mulC {p q s t u v : Int} (hq : 0 < q) (hv : 0 < v) (ht : 0 < t) (h1 : p * q ≤ s * t) (h2 : s * v ≤ u * q) : p * v ≤ u * t := by
  -- p/t <= s/q <= u/v
  have k1 := Int.mul_le_mul_of_nonneg_right h1 (Int.le_of_lt hv)
  have k2 := Int.mul_le_mul_of_nonneg_right h2 (Int.le_of_lt ht)
  have e1 : p * q * v = q * (p * v) := by rw [Int.mul_comm p q, Int.mul_assoc]
  have e2 : s * t * v = s * v * t := by rw [Int.mul_assoc, Int.mul_comm t v, Int.mul_assoc]
  have e3 : u * q * t = q * (u * t) := by rw [Int.mul_comm u q, Int.mul_assoc]
  have k3 : q * (p * v) ≤ q * (u * t) := by omega
  exact Int.le_of_mul_le_mul_left k3 hq
theorem SI.step {a : Ln} {s : SS} {l : List Ln} (h : SI a s l) {b : Ln} (hne : b.r ≠ a.r) : SI a (ssStep a b s) (l ++ [b]) := by
  unfold ssStep
  have sp : ∀ {Q : Ln → Prop}, (∀ x ∈ l, Q x) → Q b → ∀ x ∈ l ++ [b], Q x := fun h1 h2 x hx => by
    rcases List.mem_append.1 hx with hx | hx
    · exact h1 x hx
    · simp at hx; subst hx; exact h2
  by_cases hs : 0 < b.r - a.r
  · rw [if_pos hs]
    have hh0 : s.hb = 0 → ∀ c ∈ l ++ [b], ¬ c.r < a.r := fun e => sp (h.h0 e) (by omega)
    have hhat : 0 < s.hb → ∃ c ∈ l ++ [b], c.r < a.r ∧ s.hi = c.b - a.b ∧ s.hb = a.r - c.r := fun e => by obtain ⟨x, hx, r⟩ := h.hat e; exact ⟨x, List.mem_append_left _ hx, r⟩
    have hhle : 0 < s.hb → ∀ c ∈ l ++ [b], c.r < a.r → s.hi * (a.r - c.r) ≤ (c.b - a.b) * s.hb := fun e => sp (h.hle e) (by omega)
    by_cases hc : 0 ≤ a.b - b.b ∧ s.lo * (b.r - a.r) ≤ (a.b - b.b) * s.lb
    · rw [if_pos hc]
      refine ⟨hs, hc.1, fun e => (by cases e), fun _ => ⟨b, by simp, by omega, by omega, rfl, rfl⟩, fun _ => sp (fun x hx hxr hxb => ?_) (fun _ _ => Int.le_refl _), fun e => (by cases e), h.hb, hh0, hhat, hhle⟩
      show (a.b - x.b) * (b.r - a.r) ≤ (a.b - b.b) * (x.r - a.r)
      cases ho : s.op with
      | false => exact absurd hxb (h.cl ho x hx hxr)
      | true => exact mulC h.lb (by omega) (by omega) (h.le ho x hx hxr hxb) hc.2
    · rw [if_neg hc]
      refine ⟨h.lb, h.lo, fun e => sp (h.cl e) (fun _ => ?_), fun e => (by obtain ⟨x, hx, r⟩ := h.at_ e; exact ⟨x, List.mem_append_left _ hx, r⟩), fun e => sp (h.le e) (fun _ hbb => ?_), h.z0, h.hb, hh0, hhat, hhle⟩
      · obtain ⟨z1, z2⟩ := h.z0 e
        rw [z1, z2, Int.zero_mul, Int.mul_one] at hc
        omega
      · omega
  · rw [if_neg hs]
    have hcl : s.op = false → ∀ x ∈ l ++ [b], a.r < x.r → ¬ x.b ≤ a.b := fun e => sp (h.cl e) (by omega)
    have hat_ : s.op = true → ∃ x ∈ l ++ [b], a.r < x.r ∧ x.b ≤ a.b ∧ s.lo = a.b - x.b ∧ s.lb = x.r - a.r := fun e => by obtain ⟨x, hx, r⟩ := h.at_ e; exact ⟨x, List.mem_append_left _ hx, r⟩
    have hle : s.op = true → ∀ x ∈ l ++ [b], a.r < x.r → x.b ≤ a.b → (a.b - x.b) * s.lb ≤ s.lo * (x.r - a.r) := fun e => sp (h.le e) (by omega)
    have e1 : -(a.b - b.b) = b.b - a.b := by omega
    have e2 : -(b.r - a.r) = a.r - b.r := by omega
    rw [e1, e2]
    by_cases hc : s.hb = 0 ∨ (b.b - a.b) * s.hb < s.hi * (a.r - b.r)
    · rw [if_pos hc]
      refine ⟨h.lb, h.lo, hcl, hat_, hle, h.z0, (by show 0 ≤ a.r - b.r; omega), fun e => (by have e : a.r - b.r = 0 := e; omega), fun _ => ⟨b, by simp, by omega, rfl, rfl⟩, fun _ => sp (fun x hx hxr => ?_) (fun _ => Int.le_refl _)⟩
      show (b.b - a.b) * (a.r - x.r) ≤ (x.b - a.b) * (a.r - b.r)
      rcases hc with hc | hc
      · exact absurd hxr (h.h0 hc x hx)
      · by_cases hz : s.hb = 0
        · exact absurd hxr (h.h0 hz x hx)
        · have hpos : 0 < s.hb := by have := h.hb; omega
          have hx2 := h.hle hpos x hx hxr
          exact mulC hpos (by omega) (by omega) (Int.le_of_lt hc) hx2
    · rw [if_neg hc]
      have hpos : 0 < s.hb := by have := h.hb; omega
      exact ⟨h.lb, h.lo, hcl, hat_, hle, h.z0, h.hb, fun e => absurd e (by omega), fun e => (by obtain ⟨x, hx, r⟩ := h.hat e; exact ⟨x, List.mem_append_left _ hx, r⟩), fun e => sp (h.hle e) (fun _ => by omega)⟩
theorem ssEnd_iff {a : Ln} {s : SS} {l : List Ln} (h : SI a s l) (hsm : ∀ y ∈ l, y.r = a.r → y ≠ a → a.b < y.b) : ssEnd s = true ↔ PP l a := by
  unfold ssEnd
  by_cases hb0 : s.hb = 0
  · rw [if_pos hb0]
    refine ⟨fun _ => ⟨hsm, fun c hc e => absurd e (h.h0 hb0 c hc), fun b _ c hc _ _ e => absurd e (h.h0 hb0 c hc)⟩, fun _ => rfl⟩
  · rw [if_neg hb0]
    have hbp : 0 < s.hb := by have := h.hb; omega
    have hflat : 0 < s.hi → ∀ c ∈ l, c.r < a.r → a.b < c.b := fun hp c hc hcr => by
      have h1 := h.hle hbp c hc hcr
      have h2 := Int.mul_pos hp (show 0 < a.r - c.r by omega)
      have h3 : ¬ c.b - a.b ≤ 0 := fun h9 => by
        have := Int.mul_le_mul_of_nonneg_right h9 (Int.le_of_lt hbp)
        rw [Int.zero_mul] at this
        omega
      omega
    cases ho : s.op with
    | false =>
      rw [if_pos rfl, decide_eq_true_iff]
      constructor
      · intro hp
        exact ⟨hsm, hflat hp, fun b hb c _ e1 e2 _ => absurd e2 (h.cl ho b hb e1)⟩
      · intro hp
        obtain ⟨c, hc, e1, e2, _⟩ := h.hat hbp
        have := hp.flat c hc e1
        omega
    | true =>
      rw [if_neg (by simp), decide_eq_true_iff]
      constructor
      · intro hp
        have hpos : 0 < s.hi := by
          have h1 := Int.mul_nonneg h.lo h.hb
          have h3 : ¬ s.hi ≤ 0 := fun h9 => by
            have := Int.mul_le_mul_of_nonneg_right h9 (Int.le_of_lt h.lb)
            rw [Int.zero_mul] at this
            omega
          omega
        refine ⟨hsm, hflat hpos, fun b hb c hc e1 e2 e3 => ?_⟩
        have h1 := h.le ho b hb e1 e2
        have h2 := h.hle hbp c hc e3
        refine mulB (nL := s.lo) (dL := s.lb) (nR := s.hi) (dR := s.hb) h.lb hbp (by omega) (by omega) ?_ ?_ hp
        · rw [Int.mul_comm (b.r - a.r)]; exact h1
        · rw [Int.mul_comm (a.r - c.r)]; exact h2
      · intro hp
        obtain ⟨c, hc, e1, e2, e3⟩ := h.hat hbp
        obtain ⟨b, hb, f1, f2, f3, f4⟩ := h.at_ ho
        have := hp.both b hb c hc f1 f2 e1
        unfold TT at this
        rw [e2, e3, f3, f4]
        exact this
theorem ssGo_iff (a : Ln) (i : Nat) (r : List Ln) : ∀ (pre : List Ln) (s : SS), SI a s pre → (∀ y ∈ pre, y.r = a.r → y ≠ a → a.b < y.b) → (∀ (j : Nat) (hj : j < pre.length), pre[j] = a → ¬ j < i) →
    ((match ssGo a i pre.length s r with | none => false | some s' => ssEnd s') = true ↔ PP (pre ++ r) a ∧ ∀ (j : Nat) (hj : j < (pre ++ r).length), (pre ++ r)[j] = a → ¬ j < i) := by
  induction r with
  | nil =>
    intro pre s hs hsm hfi
    simp only [ssGo, List.append_nil]
    rw [ssEnd_iff hs hsm]
    exact ⟨fun h => ⟨h, hfi⟩, fun h => h.1⟩
  | cons b r ih =>
    intro pre s hs hsm hfi
    have e : pre ++ b :: r = (pre ++ [b]) ++ r := by simp
    have hlen : (pre ++ [b]).length = pre.length + 1 := by simp
    have hget : ∀ (h9 : pre.length < (pre ++ b :: r).length), (pre ++ b :: r)[pre.length] = b := fun h9 => by simp
    rw [ssGo]
    by_cases hba : b = a
    · rw [if_pos hba]
      by_cases hki : pre.length < i
      · rw [if_pos hki]
        refine ⟨fun h => (by cases h), fun h => absurd hki (h.2 pre.length (by simp) (by rw [hget]; exact hba))⟩
      · rw [if_neg hki, e, ← hlen]
        refine ih (pre ++ [b]) s (hs.same (by rw [hba])) (fun y hy => ?_) (fun j hj => ?_)
        · rcases List.mem_append.1 hy with hy | hy
          · exact hsm y hy
          · simp at hy; subst hy; exact fun _ hn => absurd hba hn
        · intro ej
          by_cases hjp : j < pre.length
          · rw [List.getElem_append_left hjp] at ej
            exact hfi j hjp ej
          · omega
    · rw [if_neg hba]
      have hfi2 : ∀ (j : Nat) (hj : j < (pre ++ [b]).length), (pre ++ [b])[j] = a → ¬ j < i := fun j hj ej => by
        by_cases hjp : j < pre.length
        · rw [List.getElem_append_left hjp] at ej
          exact hfi j hjp ej
        · have : j = pre.length := by omega
          subst this
          simp at ej
          exact absurd ej hba
      by_cases hr : b.r = a.r
      · rw [if_pos hr]
        by_cases hbb : b.b ≤ a.b
        · rw [if_pos hbb]
          refine ⟨fun h => (by cases h), fun h => ?_⟩
          have := h.1.same b (by simp) hr hba
          omega
        · rw [if_neg hbb, e, ← hlen]
          refine ih (pre ++ [b]) s (hs.same hr) (fun y hy => ?_) hfi2
          rcases List.mem_append.1 hy with hy | hy
          · exact hsm y hy
          · simp at hy; subst hy; exact fun _ _ => by omega
      · rw [if_neg hr, e, ← hlen]
        refine ih (pre ++ [b]) _ (hs.step hr) (fun y hy => ?_) hfi2
        rcases List.mem_append.1 hy with hy | hy
        · exact hsm y hy
        · simp at hy; subst hy; exact fun e9 _ => absurd e9 hr
theorem someB_iff {l : List Ln} {i : Nat} (hi : i < l.length) : someB l i = true ↔ PP l l[i] ∧ ∀ (j : Nat) (hj : j < l.length), l[j] = l[i] → ¬ j < i := by
  unfold someB
  rw [List.getElem?_eq_getElem hi]
  have h0 : SI l[i] ss0 [] := ⟨(by show (0:Int) < 1; omega), Int.le_refl _, by simp, fun e => (by cases e), fun e => (by cases e), fun _ => ⟨rfl, rfl⟩, Int.le_refl _, by simp, fun e => (by have e : (0:Int) < 0 := e; omega), by simp⟩
  exact ssGo_iff l[i] i l [] ss0 h0 (by simp) (by simp)
def insT (out : List Ln) (x : Ln) : List Ln := out.takeWhile (fun y => decide (x.r < y.r)) ++ x :: out.dropWhile (fun y => decide (x.r < y.r))
def refGo (l : List Ln) : Nat → List Ln → List Ln
  | 0, out => out
  | n + 1, out => refGo l n (if someB l (l.length - (n + 1)) then insT out (l.getD (l.length - (n + 1)) ⟨0, 0⟩) else out)
def tidyRef (l : List Ln) : List Ln := refGo l l.length []
theorem insT_mem {out : List Ln} {x y : Ln} : y ∈ insT out x ↔ y = x ∨ y ∈ out := by
  unfold insT
  rw [List.mem_append, List.mem_cons]
  have e : y ∈ out ↔ y ∈ out.takeWhile (fun z => decide (x.r < z.r)) ∨ y ∈ out.dropWhile (fun z => decide (x.r < z.r)) := by
    rw [← List.mem_append, List.takeWhile_append_dropWhile]
  rw [e]
  constructor
  · rintro (h | h | h)
    · exact .inr (.inl h)
    · exact .inl h
    · exact .inr (.inr h)
  · rintro (h | h | h)
    · exact .inr (.inl h)
    · exact .inl h
    · exact .inr (.inr h)
theorem insT_desc {out : List Ln} {x : Ln} (h : out.Pairwise (fun a b => b.r < a.r)) (hx : ∀ y ∈ out, y.r ≠ x.r) : (insT out x).Pairwise (fun a b => b.r < a.r) := by
  induction out with
  | nil => simp [insT]
  | cons y r ih =>
    obtain ⟨h1, h2⟩ := List.pairwise_cons.1 h
    unfold insT
    by_cases hc : x.r < y.r
    · rw [List.takeWhile_cons_of_pos (by simpa using hc), List.dropWhile_cons_of_pos (by simpa using hc), List.cons_append]
      have ih := ih h2 fun z hz => hx z (List.mem_cons_of_mem _ hz)
      refine List.pairwise_cons.2 ⟨fun z hz => ?_, ih⟩
      rcases insT_mem.1 hz with e | e
      · rw [e]; exact hc
      · exact h1 z e
    · rw [List.takeWhile_cons_of_neg (by simpa using hc), List.dropWhile_cons_of_neg (by simpa using hc), List.nil_append]
      have := hx y List.mem_cons_self
      refine List.pairwise_cons.2 ⟨fun z hz => ?_, h⟩
      rcases List.mem_cons.1 hz with e | e
      · rw [e]; omega
      · have := h1 z e; omega
theorem refGo_spec (l : List Ln) (n : Nat) (hn : n ≤ l.length) (out : List Ln) (hd : out.Pairwise (fun a b => b.r < a.r)) (hm : ∀ y, y ∈ out ↔ ∃ (j : Nat) (hj : j < l.length), j < l.length - n ∧ y = l[j] ∧ someB l j = true) :
    (refGo l n out).Pairwise (fun a b => b.r < a.r) ∧ ∀ y, y ∈ refGo l n out ↔ ∃ (j : Nat) (hj : j < l.length), y = l[j] ∧ someB l j = true := by
  induction n generalizing out with
  | zero =>
    refine ⟨hd, fun y => ?_⟩
    show y ∈ out ↔ _
    rw [hm]
    exact ⟨fun ⟨j, hj, _, h⟩ => ⟨j, hj, h⟩, fun ⟨j, hj, h⟩ => ⟨j, hj, by omega, h⟩⟩
  | succ n ih =>
    rw [refGo]
    have hk : l.length - (n + 1) < l.length := by omega
    have hgd : l.getD (l.length - (n + 1)) ⟨0, 0⟩ = l[l.length - (n + 1)] := by simp [List.getD, List.getElem?_eq_getElem hk]
    rw [hgd]
    by_cases hs : someB l (l.length - (n + 1)) = true
    · rw [if_pos hs]
      have hp := (someB_iff hk).1 hs
      refine ih (by omega) _ (insT_desc hd fun y hy e => ?_) fun y => ?_
      · obtain ⟨j, hj, hjn, rfl, hsj⟩ := (hm y).1 hy
        have hpj := (someB_iff hj).1 hsj
        by_cases heq : l[j] = l[l.length - (n + 1)]
        · exact hp.2 j hj heq hjn
        · have h1 := hp.1.same l[j] (List.getElem_mem hj) e heq
          have h2 := hpj.1.same l[l.length - (n + 1)] (List.getElem_mem hk) e.symm (fun e9 => heq e9.symm)
          omega
      · rw [insT_mem, hm]
        constructor
        · rintro (e | ⟨j, hj, h1, h2⟩)
          · exact ⟨_, hk, by omega, e, hs⟩
          · exact ⟨j, hj, by omega, h2⟩
        · rintro ⟨j, hj, h1, h2, h3⟩
          by_cases hjk : j = l.length - (n + 1)
          · subst hjk; exact .inl h2
          · exact .inr ⟨j, hj, by omega, h2, h3⟩
    · rw [if_neg hs]
      refine ih (by omega) out hd fun y => ?_
      rw [hm]
      constructor
      · rintro ⟨j, hj, h1, h2⟩
        exact ⟨j, hj, by omega, h2⟩
      · rintro ⟨j, hj, h1, h2, h3⟩
        by_cases hjk : j = l.length - (n + 1)
        · subst hjk; exact absurd h3 hs
        · exact ⟨j, hj, by omega, h2, h3⟩
theorem first_occ {l : List Ln} {x : Ln} (hx : x ∈ l) : ∃ (j : Nat) (hj : j < l.length), l[j] = x ∧ ∀ (i : Nat) (hi : i < l.length), l[i] = x → ¬ i < j := by
  induction l with
  | nil => cases hx
  | cons y r ih =>
    by_cases hy : y = x
    · exact ⟨0, by simp, hy, fun i hi _ => by omega⟩
    · have hx2 : x ∈ r := by
        rcases List.mem_cons.1 hx with e | e
        · exact absurd e.symm hy
        · exact e
      obtain ⟨j, hj, e, hf⟩ := ih hx2
      refine ⟨j + 1, by simpa using hj, by simpa using e, fun i hi ei => ?_⟩
      cases i with
      | zero => simp at ei; exact absurd ei hy
      | succ i =>
        simp at ei hi
        have := hf i hi ei
        omega
theorem tidyRef_spec (l : List Ln) : (tidyRef l).Pairwise (fun a b => b.r < a.r) ∧ ∀ y, y ∈ tidyRef l ↔ y ∈ l ∧ PP l y := by
  obtain ⟨h1, h2⟩ := refGo_spec l l.length (Nat.le_refl _) [] List.Pairwise.nil (fun y => ⟨fun h => (by cases h), fun ⟨j, _, h, _⟩ => by omega⟩)
  refine ⟨h1, fun y => ?_⟩
  unfold tidyRef
  rw [h2]
  constructor
  · rintro ⟨j, hj, rfl, hs⟩
    exact ⟨List.getElem_mem hj, ((someB_iff hj).1 hs).1⟩
  · rintro ⟨hy, hp⟩
    obtain ⟨j, hj, rfl, hf⟩ := first_occ hy
    exact ⟨j, hj, rfl, (someB_iff hj).2 ⟨hp, hf⟩⟩
/-- What the program makes of lines in order is what the document makes of the lines. -/
theorem tidy_eq {l s : List Ln} (hp : ∀ x, x ∈ s ↔ x ∈ l) (hs : s.Pairwise lexLe) (hr : ∀ y ∈ s, 0 ≤ y.r) : (hullL s).reverse = tidyRef l := by
  have hi := hull_HI hs hr
  obtain ⟨t1, t2⟩ := tidyRef_spec l
  refine desc_ext ?_ t1 fun x => ?_
  · exact List.pairwise_reverse.2 (chain_asc hi.ch)
  · rw [List.mem_reverse, t2]
    constructor
    · intro hx
      exact ⟨(hp x).1 (hi.sub x hx), (hull_PP hi hx).congr fun y hy => (hp y).2 hy⟩
    · rintro ⟨hx, hpp⟩
      exact PP_hull hi ((hp x).2 hx) (hpp.congr fun y hy => (hp y).1 hy)
theorem lineAt_vv (x : Ln) (t : Int) : lineAt x t = vv t 1000 x / 1000 := by
  unfold lineAt vv
  omega
theorem valueL_eq {l l' : List Ln} {t v : Int} (h0 : 0 < l.length) (h1 : ∀ x ∈ l, v ≤ lineAt x t) (h2 : ∃ x ∈ l, lineAt x t ≤ v) : valueL l t = v := by
  obtain ⟨x, hx, e⟩ := valueL_mem h0 t
  obtain ⟨y, hy, e2⟩ := h2
  have := h1 x hx
  have := valueL_le hy t
  omega
/-- Tidy lines tell the same. -/
theorem tidy_value {s st : List Ln} (h : HI s st) (h0 : 0 < s.length) {t : Int} (ht : 0 ≤ t) : valueL st.reverse t = valueL s t := by
  have hst : 0 < st.reverse.length := by
    rw [List.length_reverse]
    cases st with
    | nil => rw [h.nil rfl] at h0; simp at h0
    | cons _ _ => simp
  refine valueL_eq (l' := s) hst (fun x hx => valueL_le (h.sub x (List.mem_reverse.1 hx)) t) ?_
  obtain ⟨y, hy, e⟩ := valueL_mem h0 t
  obtain ⟨x, hx, e2⟩ := h.env t 1000 ht (by omega) y hy
  refine ⟨x, List.mem_reverse.2 hx, ?_⟩
  rw [e, lineAt_vv, lineAt_vv]
  exact Int.ediv_le_ediv (by omega) e2
end Go.Proofs.YteeaipehkhldhaaDoor
