/- TURNER, plainly: what leaves a shaper fits its curve, keeps its order, and leaves no sooner than it came; what fits leaves at once; shaped again it is the same. No program. No condition. -/
import Derived.Test.YteeaipehkhldhaaDoorShapeP
namespace Go.Proofs.YteeaipehkhldhaaDoor
theorem le_valueL {l : List Ln} (h0 : 0 < l.length) {n t : Int} : n ≤ valueL l t ↔ ∀ y ∈ l, n ≤ lineAt y t := by
  refine ⟨fun h y hy => Int.le_trans h (valueL_le hy t), fun h => ?_⟩
  obtain ⟨x, hx, e⟩ := valueL_mem h0 t
  rw [e]
  exact h x hx
theorem fitsGo_each {l : List Ln} (h0 : 0 < l.length) (ai : Int) (q : List Pk) (n : Int) : fitsGo l ai n q = true ↔ ∀ y ∈ l, fitsGo [y] ai n q = true := by
  induction q generalizing n with
  | nil => exact ⟨fun _ _ _ => rfl, fun _ => rfl⟩
  | cons x r ih =>
    have e : ∀ ls : List Ln, fitsGo ls ai n (x :: r) = true ↔ n + x.s ≤ valueL ls (x.a - ai) ∧ fitsGo ls ai (n + x.s) r = true := fun ls => by
      show (if valueL ls (x.a - ai) < n + x.s then false else fitsGo ls ai (n + x.s) r) = true ↔ _
      by_cases h : valueL ls (x.a - ai) < n + x.s
      · rw [if_pos h]; simp; omega
      · rw [if_neg h]; simp; omega
    rw [e, ih, le_valueL h0]
    constructor
    · intro ⟨h1, h2⟩ y hy
      rw [e, valueL_one]
      exact ⟨h1 y hy, h2 y hy⟩
    · intro h
      refine ⟨fun y hy => ?_, fun y hy => ?_⟩
      · have := h y hy; rw [e, valueL_one] at this; exact this.1
      · have := h y hy; rw [e] at this; exact this.2
theorem fitsL_each {l : List Ln} (h0 : 0 < l.length) (q : List Pk) : fitsL l q = true ↔ ∀ y ∈ l, fitsL [y] q = true := by
  induction q with
  | nil => exact ⟨fun _ _ _ => rfl, fun _ => rfl⟩
  | cons x r ih =>
    have e : ∀ ls : List Ln, fitsL ls (x :: r) = true ↔ fitsGo ls x.a 0 (x :: r) = true ∧ fitsL ls r = true := fun ls => by
      show (if fitsGo ls x.a 0 (x :: r) then fitsL ls r else false) = true ↔ _
      by_cases h : fitsGo ls x.a 0 (x :: r) = true
      · rw [if_pos h]; simp [h]
      · rw [if_neg h]; simp [h]
    rw [e, ih, fitsGo_each h0]
    constructor
    · intro ⟨h1, h2⟩ y hy
      rw [e]; exact ⟨h1 y hy, h2 y hy⟩
    · intro h
      exact ⟨fun y hy => ((e _).1 (h y hy)).1, fun y hy => ((e _).1 (h y hy)).2⟩
theorem fits_pre (y : Ln) (q r : List Pk) (h : fitsL [y] (q ++ r) = true) : fitsL [y] q = true := by
  induction r generalizing q with
  | nil => rwa [List.append_nil] at h
  | cons z r ih =>
    rw [show q ++ z :: r = (q ++ [z]) ++ r by simp] at h
    exact ((fitsL_app y q z).1 (ih (q ++ [z]) h)).1
theorem leaveL_eq (ss : List Bu) (from_ n t : Int) : leaveL ss from_ n t = leaveT (ss.map fun s => (0, s)) from_ n t := by
  rw [leaveT_eq, List.map_map]
  have e : ((fun x : Nat × Bu => x.2) ∘ fun s => ((0 : Nat), s)) = id := rfl
  rw [e, List.map_id]
theorem holds_mono {s : Bu} (h : BuOk s) {t T : Int} (h1 : s.at_ ≤ t) (h2 : t ≤ T) : holdsB s t ≤ holdsB s T := by
  rw [holds_min h h1, holds_min h (by omega)]
  have hd : s.r * (T - s.at_) = s.r * (t - s.at_) + s.r * (T - t) := by rw [← Int.mul_add]; congr 1; omega
  have m := Int.mul_nonneg h.r1 (show 0 ≤ T - t by omega)
  rw [hd]
  generalize s.r * (t - s.at_) = y
  generalize s.r * (T - t) = z at m ⊢
  split <;> split <;> omega
theorem when_now {s : Bu} (h : BuOk s) {T n : Int} (hl : lookB s T n = 0) (hb : n ≤ s.b) (hh : 1000 * n ≤ holdsB s T) : whenB s T n = (0, T) := by
  unfold whenB
  rw [if_neg (by omega), if_neg (by omega), if_pos (by omega)]
theorem leave_now (ss : List Bu) (T n : Int) (h : ∀ s ∈ ss, whenB s T n = (0, T)) : leaveL ss T n T = some T := by
  induction ss with
  | nil => rfl
  | cons s r ih =>
    unfold leaveL
    rw [h s List.mem_cons_self, if_pos rfl, if_neg (Int.lt_irrefl _)]
    exact ih fun y hy => h y (List.mem_cons_of_mem _ hy)
/-- Lines with their buckets, behind those that left. -/
structure ZJ (zs : List (Ln × Bu)) (acc : List Pk) (last : Int) : Prop where
  ok : ∀ z ∈ zs, BuOk z.2 ∧ z.2.last ≤ last ∧ PassJ z.1 acc z.2 ∧ fitsL [z.1] acc = true
  l0 : 0 ≤ last
  l1 : last ≤ 1099511627776
  le : ∀ y ∈ acc, y.a ≤ last
  pk : ∀ y ∈ acc, okPk y
  so : acc.Pairwise (fun x y => x.a ≤ y.a)
def zTook (T n : Int) (z : Ln × Bu) : Ln × Bu := (z.1, tookB z.2 T n)
theorem zj_take {zs : List (Ln × Bu)} {acc : List Pk} {last T : Int} {x : Pk} (h : ZJ zs acc last) (hx : okPk x) (hT : leaveL (zs.map (·.2)) (fr last x.a) x.s (fr last x.a) = some T) :
    ZJ (zs.map (zTook T x.s)) (acc ++ [⟨x.f, x.s, T⟩]) T ∧ last ≤ T ∧ x.a ≤ T ∧ T ≤ 1099511627776 ∧ (∀ z ∈ zs, whenB z.2 T x.s = (0, T)) := by
  obtain ⟨p1, p2, p3, p4, p5, p6⟩ := hx
  have hf := fr_ge last x.a
  have h0 := h.l0
  have h1 := h.l1
  rw [leaveL_eq] at hT
  obtain ⟨t1, t2, t3, _⟩ := leaveT_ok (fun y hy => by
    obtain ⟨s, hs, rfl⟩ := List.mem_map.1 hy
    obtain ⟨z, hz, rfl⟩ := List.mem_map.1 hs
    exact (h.ok z hz).1) hT
  have hT1 := t3 (by omega)
  have each : ∀ z ∈ zs, lookB z.2 T x.s = 0 ∧ x.s ≤ z.2.b ∧ 1000 * x.s ≤ holdsB z.2 T ∧ z.2.at_ ≤ T := fun z hz => by
    obtain ⟨k1, k2, k3, k4⟩ := h.ok z hz
    obtain ⟨w1, w2⟩ := t2 (0, z.2) (List.mem_map.2 ⟨z.2, List.mem_map.2 ⟨z, hz, rfl⟩, rfl⟩)
    simp only at w1 w2
    have hk := whenB_le k1 w1
    have hw := when_ok k1 (T := (whenB z.2 (fr last x.a) x.s).2) (Prod.ext w1 rfl)
    have ha2 := k1.a2
    have hmo := holds_mono k1 (t := (whenB z.2 (fr last x.a) x.s).2) (T := T) (by omega) w2
    have hb : x.s ≤ z.2.b := by
      unfold whenB at w1
      rw [if_neg (by omega)] at w1
      by_cases hb : z.2.b < x.s
      · rw [if_pos hb] at w1; simp at w1
      · omega
    exact ⟨look_after k1 hk.1 t1 hT1, hb, by omega, by omega⟩
  refine ⟨⟨fun z' hz' => ?_, by omega, hT1, fun y hy => ?_, fun y hy => ?_, ?_⟩, by omega, by omega, hT1, fun z hz => ?_⟩
  · obtain ⟨z, hz, rfl⟩ := List.mem_map.1 hz'
    obtain ⟨k1, k2, k3, k4⟩ := h.ok z hz
    obtain ⟨e1, e2, e3, e4⟩ := each z hz
    have htk : takeB z.2 T x.s = true := decide_eq_true ⟨e1, e3⟩
    have hst := pass_step (x := ⟨x.f, x.s, T⟩) k1 k3 e4 e1
    rw [htk, if_pos rfl] at hst
    have hft := pass_tells (x := ⟨x.f, x.s, T⟩) k1 k3 k4 e4 e1
    simp only at hft
    exact ⟨tookB_ok k1 T x.s, by show (tookB z.2 T x.s).last ≤ T; rw [took_last e1]; exact Int.le_refl _, hst, hft.trans htk⟩
  · rcases List.mem_append.1 hy with hy | hy
    · have := h.le y hy; omega
    · rw [List.mem_singleton.1 hy]; exact Int.le_refl _
  · rcases List.mem_append.1 hy with hy | hy
    · exact h.pk y hy
    · rw [List.mem_singleton.1 hy]; exact ⟨p1, p2, p3, p4, by show 0 ≤ T; omega, hT1⟩
  · refine List.pairwise_append.2 ⟨h.so, by simp, fun a ha b hb => ?_⟩
    rw [List.mem_singleton.1 hb]
    have := h.le a ha
    show a.a ≤ T
    omega
  · obtain ⟨e1, e2, e3, _⟩ := each z hz
    exact when_now (h.ok z hz).1 e1 e2 e3
/-- One that fits leaves at once. -/
theorem zj_fits {zs : List (Ln × Bu)} {acc r : List Pk} {last : Int} {x : Pk} (h : ZJ zs acc last) (hx : okPk x) (hl : last ≤ x.a) (hf : ∀ z ∈ zs, fitsL [z.1] (acc ++ x :: r) = true) : leaveL (zs.map (·.2)) (fr last x.a) x.s (fr last x.a) = some x.a := by
  obtain ⟨p1, p2, p3, p4, p5, p6⟩ := hx
  have e : fr last x.a = x.a := by unfold fr; split <;> omega
  rw [e]
  refine leave_now _ _ _ fun s hs => ?_
  obtain ⟨z, hz, rfl⟩ := List.mem_map.1 hs
  obtain ⟨k1, k2, k3, k4⟩ := h.ok z hz
  have h1 := hf z hz
  rw [show acc ++ x :: r = (acc ++ [x]) ++ r by simp] at h1
  have h2 := (fitsL_app z.1 acc x).1 (fits_pre z.1 _ _ h1)
  have ha2 := k1.a2
  have h3 := (pass_fits k1 k3 (t := x.a) (n := x.s) (by omega)).2 h2.2
  have hlk : lookB z.2 x.a x.s = 0 := by
    unfold lookB
    rw [if_neg (by omega), if_neg (by omega)]
  exact when_now k1 hlk (by rw [k3.1]; exact h2.2.2) h3
theorem turn_go (r : List Pk) : ∀ (zs : List (Ln × Bu)) (acc : List Pk) (last : Int) (i : Nat) (x : List Pk), ZJ zs acc last → (∀ y ∈ r, okPk y) → shapeGo r (zs.map (·.2)) last i = (x, -1) →
    (∀ z ∈ zs, fitsL [z.1] (acc ++ x) = true) ∧ x.length = r.length ∧ (∀ j (h1 : j < r.length) (h2 : j < x.length), x[j].f = r[j].f ∧ x[j].s = r[j].s ∧ r[j].a ≤ x[j].a) ∧ (∀ y ∈ acc ++ x, okPk y) ∧ (acc ++ x).Pairwise (fun a b => a.a ≤ b.a) ∧
    shapeGo x (zs.map (·.2)) last i = (x, -1) ∧ (r.Pairwise (fun a b => a.a ≤ b.a) → (∀ y ∈ r, last ≤ y.a) → (∀ z ∈ zs, fitsL [z.1] (acc ++ r) = true) → x = r) := by
  induction r with
  | nil =>
    intro zs acc last i x h _ hs
    simp only [shapeGo, Prod.mk.injEq, and_true] at hs
    subst hs
    refine ⟨fun z hz => by rw [List.append_nil]; exact (h.ok z hz).2.2.2, rfl, fun j h1 => by simp at h1, by rw [List.append_nil]; exact h.pk, by rw [List.append_nil]; exact h.so, rfl, fun _ _ _ => rfl⟩
  | cons y r ih =>
    intro zs acc last i x h hok hs
    have hy := hok y List.mem_cons_self
    unfold shapeGo at hs
    split at hs
    · simp only [Prod.mk.injEq] at hs
      omega
    · rename_i T hT
      obtain ⟨z1, z2, z3, z4, z5⟩ := zj_take h hy hT
      split at hs
      · rename_i h9
        simp only [Prod.mk.injEq, and_true] at hs
        have hms : (zs.map (·.2)).map (fun s => tookB s T y.s) = (zs.map (zTook T y.s)).map (·.2) := by rw [List.map_map, List.map_map]; rfl
        rw [hms] at h9 hs
        obtain ⟨x', hx'⟩ : ∃ x', x' = (shapeGo r ((zs.map (zTook T y.s)).map (·.2)) T (i + 1)).1 := ⟨_, rfl⟩
        rw [← hx'] at hs
        subst hs
        obtain ⟨i1, i2, i3, i4, i5, i6, i7⟩ := ih (zs.map (zTook T y.s)) _ T (i + 1) x' z1 (fun u hu => hok u (List.mem_cons_of_mem _ hu)) (Prod.ext hx'.symm h9)
        have eapp : acc ++ ⟨y.f, y.s, T⟩ :: x' = (acc ++ [⟨y.f, y.s, T⟩]) ++ x' := by simp
        refine ⟨fun z hz => ?_, by simp [i2], fun j h1 h2 => ?_, ?_, ?_, ?_, fun hso hla hft => ?_⟩
        · rw [eapp]
          exact i1 (zTook T y.s z) (List.mem_map.2 ⟨z, hz, rfl⟩)
        · cases j with
          | zero => exact ⟨rfl, rfl, z3⟩
          | succ j =>
            simp only [List.getElem_cons_succ]
            exact i3 j (by simpa using h1) (by simpa using h2)
        · rw [eapp]; exact i4
        · rw [eapp]; exact i5
        · unfold shapeGo
          have e : fr last T = T := by unfold fr; split <;> omega
          simp only [e]
          rw [leave_now _ _ _ (fun s hs => by obtain ⟨z, hz, rfl⟩ := List.mem_map.1 hs; exact z5 z hz)]
          simp only [hms, i6, if_pos]
        · have hT2 := zj_fits h hy (hla y List.mem_cons_self) hft
          rw [hT] at hT2
          injection hT2 with hT2
          subst hT2
          obtain ⟨s1, s2⟩ := List.pairwise_cons.1 hso
          have : x' = r := i7 s2 s1 (fun z hz => by
            obtain ⟨u, hu, rfl⟩ := List.mem_map.1 hz
            rw [List.append_assoc]
            exact hft u hu)
          rw [this]
      · rename_i h9
        simp only [Prod.mk.injEq] at hs
        exact absurd hs.2 h9
/-- What leaves a shaper. -/
theorem turner {l : List Ln} {p x : List Pk} (hl : ∀ y ∈ l, okLn y) (h0 : 0 < l.length) (hp : ∀ y ∈ p, okPk y) (hs : p.Pairwise (fun a b => a.a ≤ b.a)) (hx : shapeR l p = (x, -1)) :
    fitsL l x = true ∧ x.length = p.length ∧ (∀ j (h1 : j < p.length) (h2 : j < x.length), x[j].f = p[j].f ∧ x[j].s = p[j].s ∧ p[j].a ≤ x[j].a) ∧ (∀ y ∈ x, okPk y) ∧ x.Pairwise (fun a b => a.a ≤ b.a) ∧ shapeR l x = (x, -1) ∧ (fitsL l p = true ↔ x = p) := by
  have e1 : (l.map fun y => (y, newB y)).map (·.2) = l.map newB := by rw [List.map_map]; rfl
  have hJ : ZJ (l.map fun y => (y, newB y)) [] 0 := by
    refine ⟨fun z hz => ?_, Int.le_refl _, by omega, by simp, by simp, List.Pairwise.nil⟩
    obtain ⟨y, hy, rfl⟩ := List.mem_map.1 hz
    exact ⟨newB_ok (hl y hy), Int.le_refl _, pass_new y, rfl⟩
  have hx2 : shapeGo p ((l.map fun y => (y, newB y)).map (·.2)) 0 0 = (x, -1) := by rw [e1]; exact hx
  obtain ⟨i1, i2, i3, i4, i5, i6, i7⟩ := turn_go p _ [] 0 0 x hJ hp hx2
  have hfx : fitsL l x = true := (fitsL_each h0 x).2 fun y hy => i1 (y, newB y) (List.mem_map.2 ⟨y, hy, rfl⟩)
  refine ⟨hfx, i2, i3, i4, i5, by rw [e1] at i6; exact i6, fun hf => ?_, fun e => by rw [← e]; exact hfx⟩
  refine i7 hs (fun y hy => (hp y hy).2.2.2.2.1) fun z hz => ?_
  obtain ⟨y, hy, rfl⟩ := List.mem_map.1 hz
  exact (fitsL_each h0 p).1 hf y hy
end Go.Proofs.YteeaipehkhldhaaDoor
