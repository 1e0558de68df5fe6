/- By tags, plainly: the picker, what holds of its states, and that it is a picker. No program. No condition. GOLESTANI, plainly: while two flows wait, what they get by tags is by their weights, but for a packet of each; tags do not fall while the link is busy. No program. No condition. The document's links, plainly, whatever the picker: who waits, who is first; its link by tags takes the same steps. No program. No condition. -/
import Derived.Test.YthgpbdlmadjndaaDoorRdPl
import Derived.Test.YthgpbdlmadjndaaDoorRkPl
namespace Go.Proofs.YthgpbdlmadjndaaDoor
/-- A clock of tags: who waits, tags, the last tags of flows, the clock's own. -/
structure FS where
  w : List Nat
  tg : Nat → Int
  last : Nat → Int
  v : Int
def fInc (p : List Pk) (ws : List Int) (k : Nat) : Int := (sOf p k * 12) / qu ws (flN p k)
def fTag (p : List Pk) (ws : List Int) (s : FS) (k : Nat) : Int := max s.v (s.last (flN p k)) + fInc p ws k
def fCome (p : List Pk) (ws : List Int) (s : FS) (k : Nat) : FS :=
  { s with w := s.w ++ [k], tg := upd s.tg k (fTag p ws s k), last := upd s.last (flN p k) (fTag p ws s k) }
def fBest (s : FS) : Nat := s.w.getD (bestI s.tg s.w) 0
def fPick (s : FS) : Option (Nat × FS) :=
  if s.w.length = 0 then none else some (fBest s, { s with w := s.w.eraseIdx (bestI s.tg s.w), v := s.tg (fBest s) })
def fRest (s : FS) : FS := { s with v := 0, last := fun _ => 0 }
/-- Tags that follow without gaps. -/
def Ch (tg inc : Nat → Int) : Int → List Nat → Int → Prop
  | s, [], e => s = e
  | s, k :: r, e => tg k = s + inc k ∧ Ch tg inc (tg k) r e
def fQ (p : List Pk) (f : Nat) (w : List Nat) : List Nat := w.filter (fun k => decide (flN p k = f))
/-- Tags are not too great. -/
structure FB (m : Nat) (s : FS) : Prop where
  t : ∀ j ∈ s.w, s.tg j ≤ 18000 * (m : Int)
  l : ∀ f, 0 ≤ s.last f ∧ s.last f ≤ 18000 * (m : Int)
  v : 0 ≤ s.v ∧ s.v ≤ 18000 * (m : Int)
structure FI (p : List Pk) (ws : List Int) (m : Nat) (s : FS) : Prop where
  lt : ∀ j ∈ s.w, j < m
  asc : s.w.Pairwise (· < ·)
  le : m ≤ p.length
  ge : ∀ j ∈ s.w, s.v ≤ s.tg j
  ch : ∀ f, ∃ x, x ≤ s.v ∧ Ch s.tg (fInc p ws) x (fQ p f s.w) (s.last f)
  bd : FB m s
section
variable {tg tg' inc : Nat → Int}
theorem Ch.congr {s e : Int} {l : List Nat} (h : Ch tg inc s l e) (hc : ∀ j ∈ l, tg' j = tg j) : Ch tg' inc s l e := by
  induction l generalizing s with
  | nil => exact h
  | cons k r ih =>
    obtain ⟨h1, h2⟩ := h
    have e1 := hc k List.mem_cons_self
    refine ⟨by rw [e1]; exact h1, ?_⟩
    rw [e1]
    exact ih h2 fun j hj => hc j (List.mem_cons_of_mem _ hj)
theorem Ch.app {s e : Int} {l : List Nat} {k : Nat} (h : Ch tg inc s l e) (hk : tg k = e + inc k) : Ch tg inc s (l ++ [k]) (tg k) := by
  induction l generalizing s with
  | nil => exact ⟨by rw [show s = e from h]; exact hk, rfl⟩
  | cons x r ih => exact ⟨h.1, ih h.2⟩
theorem Ch.ge {s e v : Int} {l : List Nat} (h : Ch tg inc s l e) (hl : l ≠ []) (hv : ∀ j ∈ l, v ≤ tg j) : v ≤ e := by
  induction l generalizing s with
  | nil => exact absurd rfl hl
  | cons k r ih =>
    cases r with
    | nil =>
      have h2 : tg k = e := h.2
      have := hv k List.mem_cons_self
      omega
    | cons x r => exact ih h.2 (by simp) fun j hj => hv j (List.mem_cons_of_mem _ hj)
theorem Ch.lt {s e : Int} {l : List Nat} (h : Ch tg inc s l e) (hi : ∀ j ∈ l, 1 ≤ inc j) : ∀ j ∈ l, s < tg j := by
  induction l generalizing s with
  | nil => simp
  | cons k r ih =>
    have h0 := hi k List.mem_cons_self
    have h1 := h.1
    intro j hj
    rcases List.mem_cons.1 hj with rfl | hj
    · omega
    · have := ih h.2 (fun j hj => hi j (List.mem_cons_of_mem _ hj)) j hj
      omega
end
theorem fQ_mem {p : List Pk} {f j : Nat} {w : List Nat} : j ∈ fQ p f w ↔ j ∈ w ∧ flN p j = f := by simp [fQ]
theorem fQ_app (p : List Pk) (f : Nat) (w r : List Nat) : fQ p f (w ++ r) = fQ p f w ++ fQ p f r := List.filter_append _ _
theorem fQ_one (p : List Pk) (f k : Nat) (r : List Nat) : fQ p f (k :: r) = if flN p k = f then k :: fQ p f r else fQ p f r := by
  unfold fQ
  rw [List.filter_cons]
  by_cases h : flN p k = f <;> simp [h]
/-- What a weight may be. -/
def wOk (ws : List Int) : Prop := ∀ g, g < 8 → 1 ≤ qu ws g ∧ qu ws g ∣ 12
theorem fInc_mul {p : List Pk} {ws : List Int} (hp : ∀ x ∈ p, okPk x) (hw : wOk ws) {k : Nat} (hk : k < p.length) : fInc p ws k * qu ws (flN p k) = sOf p k * 12 := by
  obtain ⟨h1, h2⟩ := hw _ (flN_lt hp hk)
  exact Int.ediv_mul_cancel (Int.dvd_trans h2 (Int.dvd_mul_left _ _))
theorem fInc_pos {p : List Pk} {ws : List Int} (hp : ∀ x ∈ p, okPk x) (hw : wOk ws) {k : Nat} (hk : k < p.length) : 1 ≤ fInc p ws k := by
  have h1 := (hw _ (flN_lt hp hk)).1
  have h2 := fInc_mul hp hw hk
  have h3 : 1 ≤ sOf p k := by rw [sOf_of hk]; exact (hp _ (List.getElem_mem hk)).2.2.1
  refine Int.not_lt.1 fun h4 => ?_
  have : fInc p ws k * qu ws (flN p k) ≤ 0 := Int.mul_nonpos_of_nonpos_of_nonneg (by omega) (by omega)
  omega
section
variable {p : List Pk} {ws : List Int} {m : Nat} {s s' : FS}
theorem fTag_ge (hp : ∀ x ∈ p, okPk x) (hw : wOk ws) {k : Nat} (hk : k < p.length) : s.v ≤ fTag p ws s k ∧ s.last (flN p k) ≤ fTag p ws s k := by
  have := fInc_pos hp hw hk
  unfold fTag
  omega
theorem fInc_le (hp : ∀ x ∈ p, okPk x) (hw : wOk ws) {k : Nat} (hk : k < p.length) : fInc p ws k ≤ 18000 := by
  have h1 := (hw _ (flN_lt hp hk)).1
  have h2 := fInc_mul hp hw hk
  have h4 := fInc_pos hp hw hk
  have h3 : sOf p k ≤ 1500 := by rw [sOf_of hk]; exact (hp _ (List.getElem_mem hk)).2.2.2.1
  have h5 : fInc p ws k * 1 ≤ fInc p ws k * qu ws (flN p k) := Int.mul_le_mul_of_nonneg_left h1 (by omega)
  omega
theorem fTag_bd (hp : ∀ x ∈ p, okPk x) (hw : wOk ws) {k m : Nat} (h : FB m s) (hk : k < p.length) : 0 ≤ fTag p ws s k ∧ fTag p ws s k ≤ 18000 * ((m + 1 : Nat) : Int) := by
  have h1 := fInc_pos hp hw hk
  have h2 := fInc_le hp hw hk
  have h3 := h.v
  have h4 := h.l (flN p k)
  unfold fTag
  omega
theorem FI.come (hp : ∀ x ∈ p, okPk x) (hw : wOk ws) {k : Nat} (h : FI p ws k s) (hk : k < p.length) : FI p ws (k + 1) (fCome p ws s k) := by
  have hne : ∀ j ∈ s.w, j ≠ k := fun j hj e => by have := h.lt j hj; omega
  refine ⟨fun j hj => ?_, ?_, hk, fun j hj => ?_, fun f => ?_, ⟨fun j hj => ?_, fun f => ?_, ?_⟩⟩
  · rcases List.mem_append.1 hj with h1 | h1
    · have := h.lt j h1; omega
    · rw [List.mem_singleton.1 h1]; omega
  · exact List.pairwise_append.2 ⟨h.asc, List.pairwise_singleton _ _, fun a ha b hb => by rw [List.mem_singleton.1 hb]; exact h.lt a ha⟩
  · show s.v ≤ upd s.tg k _ j
    rcases List.mem_append.1 hj with h1 | h1
    · rw [upd_other _ _ (hne j h1)]; exact h.ge j h1
    · rw [List.mem_singleton.1 h1, upd_same]; exact (fTag_ge hp hw hk).1
  · obtain ⟨x, h1, h2⟩ := h.ch f
    show ∃ x, x ≤ s.v ∧ Ch (upd s.tg k _) (fInc p ws) x (fQ p f (s.w ++ [k])) (upd s.last (flN p k) _ f)
    have hq : ∀ j ∈ fQ p f s.w, upd s.tg k (fTag p ws s k) j = s.tg j := fun j hj => upd_other _ _ (hne j (fQ_mem.1 hj).1)
    rw [fQ_app, fQ_one]
    by_cases hf : flN p k = f
    · rw [if_pos hf]
      subst hf
      rw [upd_same]
      by_cases hn : fQ p (flN p k) s.w = []
      · rw [hn] at h2 ⊢
        have h3 : x = s.last (flN p k) := h2
        refine ⟨s.v, Int.le_refl _, ?_, ?_⟩
        · rw [upd_same]; unfold fTag; omega
        · exact upd_same _ _ _
      · have h3 := h2.ge hn (v := s.v) fun j hj => h.ge j (fQ_mem.1 hj).1
        refine ⟨x, h1, ?_⟩
        have h4 := (h2.congr hq).app (k := k) (by rw [upd_same]; unfold fTag; omega)
        rw [upd_same] at h4
        exact h4
    · rw [if_neg hf, upd_other _ _ (fun e => hf e.symm)]
      refine ⟨x, h1, ?_⟩
      show Ch _ _ x (fQ p f s.w ++ []) _
      rw [List.append_nil]
      exact h2.congr hq
  · show upd s.tg k _ j ≤ _
    rcases List.mem_append.1 hj with h1 | h1
    · rw [upd_other _ _ (hne j h1)]; have := h.bd.t j h1; omega
    · rw [List.mem_singleton.1 h1, upd_same]; exact (fTag_bd hp hw h.bd hk).2
  · show 0 ≤ upd s.last _ _ f ∧ upd s.last _ _ f ≤ _
    by_cases hf : f = flN p k
    · subst hf; rw [upd_same]; exact fTag_bd hp hw h.bd hk
    · rw [upd_other _ _ hf]; have := h.bd.l f; omega
  · show 0 ≤ s.v ∧ s.v ≤ _
    have := h.bd.v
    omega
theorem fBest_ok (hs : 0 < s.w.length) : ∃ w1 w2, s.w = w1 ++ fBest s :: w2 ∧ s.w.eraseIdx (bestI s.tg s.w) = w1 ++ w2 ∧ (∀ j ∈ s.w, s.tg (fBest s) ≤ s.tg j) ∧ (∀ j ∈ w1, s.tg (fBest s) < s.tg j) := by
  have hb := bestI_ok s.tg s.w hs
  have hlt := hb.lt
  have e : fBest s = s.w[bestI s.tg s.w] := by unfold fBest; simp [List.getD, hlt]
  refine ⟨s.w.take (bestI s.tg s.w), s.w.drop (bestI s.tg s.w + 1), ?_, List.eraseIdx_eq_take_drop_succ _ _, fun j hj => ?_, fun j hj => ?_⟩
  · rw [e, ← List.drop_eq_getElem_cons hlt, List.take_append_drop]
  · obtain ⟨i, hi, rfl⟩ := List.mem_iff_getElem.1 hj
    have := hb.le i hi
    simp only [List.getD, List.getElem?_eq_getElem hi, Option.getD_some] at this
    exact this
  · obtain ⟨i, hi, rfl⟩ := List.mem_iff_getElem.1 hj
    have hi2 : i < bestI s.tg s.w := by
      have := hi; rw [List.length_take] at this; omega
    have := hb.first i hi2
    rw [List.getElem_take]
    simp only [List.getD, List.getElem?_eq_getElem (show i < s.w.length by omega), Option.getD_some] at this
    exact this
/-- The least tag is at the head of its flow. -/
theorem fBest_head (hp : ∀ x ∈ p, okPk x) (hw : wOk ws) (h : FI p ws m s) {w1 w2 : List Nat} (hs : s.w = w1 ++ fBest s :: w2) (hl : ∀ j ∈ s.w, s.tg (fBest s) ≤ s.tg j) : fQ p (flN p (fBest s)) w1 = [] := by
  obtain ⟨x, h1, h2⟩ := h.ch (flN p (fBest s))
  have hinc : ∀ j ∈ s.w, 1 ≤ fInc p ws j := fun j hj => fInc_pos hp hw (by have := h.lt j hj; have := h.le; omega)
  cases hq : fQ p (flN p (fBest s)) w1 with
  | nil => rfl
  | cons k r =>
    have hk : k ∈ w1 := (fQ_mem.1 (show k ∈ fQ p (flN p (fBest s)) w1 by rw [hq]; exact List.mem_cons_self)).1
    have hkw : k ∈ s.w := by rw [hs]; exact List.mem_append_left _ hk
    rw [hs, fQ_app, fQ_one, if_pos rfl, hq, List.cons_append] at h2
    have := h2.2.lt (fun j hj => hinc j ?_) (fBest s) (List.mem_append_right _ List.mem_cons_self)
    · have := hl k hkw
      omega
    · rw [hs]
      rcases List.mem_append.1 hj with h9 | h9
      · exact List.mem_append_left _ (fQ_mem.1 (show j ∈ fQ p (flN p (fBest s)) w1 by rw [hq]; exact List.mem_cons_of_mem _ h9)).1
      · rcases List.mem_cons.1 h9 with rfl | h9
        · exact List.mem_append_right _ List.mem_cons_self
        · exact List.mem_append_right _ (List.mem_cons_of_mem _ (fQ_mem.1 h9).1)
theorem fPick_eq {k : Nat} (hk : fPick s = some (k, s')) : 0 < s.w.length ∧ k = fBest s ∧ s' = { s with w := s.w.eraseIdx (bestI s.tg s.w), v := s.tg (fBest s) } := by
  unfold fPick at hk
  split at hk
  · cases hk
  · simp only [Option.some.injEq, Prod.mk.injEq] at hk
    exact ⟨by omega, hk.1.symm, hk.2.symm⟩
theorem FI.pick (hp : ∀ x ∈ p, okPk x) (hw : wOk ws) (h : FI p ws m s) {k : Nat} (hk : fPick s = some (k, s')) :
    FI p ws m s' ∧ s.v ≤ s'.v ∧ s'.v = s.tg k ∧ s'.tg = s.tg ∧ s.w.Perm (k :: s'.w) ∧ (∀ f, fQ p f s.w = if flN p k = f then k :: fQ p f s'.w else fQ p f s'.w) := by
  obtain ⟨h0, rfl, rfl⟩ := fPick_eq hk
  obtain ⟨w1, w2, e1, e2, e3, e4⟩ := fBest_ok h0
  have hh := fBest_head hp hw h e1 e3
  have hv := h.ge (fBest s) (by rw [e1]; exact List.mem_append_right _ List.mem_cons_self)
  have hsub : ∀ j ∈ w1 ++ w2, j ∈ s.w := fun j hj => by
    rw [e1]
    rcases List.mem_append.1 hj with h9 | h9
    · exact List.mem_append_left _ h9
    · exact List.mem_append_right _ (List.mem_cons_of_mem _ h9)
  have hQ : ∀ f, fQ p f s.w = if flN p (fBest s) = f then fBest s :: fQ p f (w1 ++ w2) else fQ p f (w1 ++ w2) := fun f => by
    rw [e1, fQ_app, fQ_one, fQ_app]
    by_cases hf : flN p (fBest s) = f
    · rw [if_pos hf]
      rw [hf] at hh
      rw [hh, List.nil_append, List.nil_append, if_pos hf]
    · rw [if_neg hf, if_neg hf]
  refine ⟨⟨fun j hj => ?_, ?_, h.le, fun j hj => ?_, fun f => ?_, ⟨fun j hj => ?_, h.bd.l, ?_⟩⟩, hv, rfl, rfl, ?_, fun f => ?_⟩
  · simp only [e2] at hj
    exact h.lt j (hsub j hj)
  · exact h.asc.sublist (List.eraseIdx_sublist _ _)
  · simp only [e2] at hj
    exact e3 j (hsub j hj)
  · obtain ⟨x, h1, h2⟩ := h.ch f
    rw [hQ] at h2
    show ∃ x, x ≤ s.tg (fBest s) ∧ Ch s.tg (fInc p ws) x (fQ p f (s.w.eraseIdx (bestI s.tg s.w))) (s.last f)
    rw [e2]
    by_cases hf : flN p (fBest s) = f
    · rw [if_pos hf] at h2
      exact ⟨_, Int.le_refl _, h2.2⟩
    · rw [if_neg hf] at h2
      exact ⟨x, by omega, h2⟩
  · simp only [e2] at hj
    exact h.bd.t j (hsub j hj)
  · show 0 ≤ s.tg (fBest s) ∧ s.tg (fBest s) ≤ _
    exact ⟨by have := h.bd.v; omega, h.bd.t _ (by rw [e1]; exact List.mem_append_right _ List.mem_cons_self)⟩
  · show s.w.Perm (fBest s :: s.w.eraseIdx _)
    rw [e2]
    have e5 : s.w.Perm (w1 ++ fBest s :: w2) := by rw [← e1]
    exact e5.trans List.perm_middle
  · rw [e2]; exact hQ f
theorem FI.rest (h : FI p ws m s) (hs : s.w = []) : FI p ws m (fRest s) :=
  ⟨h.lt, h.asc, h.le, fun j hj => by have hj' : j ∈ s.w := hj; rw [hs] at hj'; simp at hj', fun f => ⟨0, Int.le_refl _, by show Ch _ _ _ (fQ p f s.w) _; rw [hs]; rfl⟩, ⟨h.bd.t, fun f => ⟨Int.le_refl _, by show (0 : Int) ≤ _; omega⟩, by show (0:Int) ≤ 0 ∧ (0:Int) ≤ _; omega⟩⟩
end
def fairM (p : List Pk) (ws : List Int) : Pol FS where
  come := fCome p ws
  pick := fPick
  rest := fRest
  wait s := s.w
  ok := FI p ws
theorem fairOk {p : List Pk} {ws : List Int} (hp : ∀ x ∈ p, okPk x) (hw : wOk ws) : PolOk (fairM p ws) p.length where
  ok_come := fun s k h hk => h.come hp hw hk
  ok_pick := fun s m k s' h hk => (h.pick hp hw hk).1
  ok_rest := fun s m h hs => h.rest hs
  w_come := fun s k _ _ => List.perm_append_comm (l₂ := [k])
  w_none := fun s m _ hk => by
    simp only [fairM] at hk ⊢
    unfold fPick at hk
    split at hk
    · rename_i h; exact List.eq_nil_of_length_eq_zero h
    · cases hk
  w_some := fun s m k s' h hk => (h.pick hp hw hk).2.2.2.2.1
  w_rest := fun s m _ h => h
def fs0 : FS := ⟨[], fun _ => 0, fun _ => 0, 0⟩
theorem fs0_ok (p : List Pk) (ws : List Int) : FI p ws 0 fs0 :=
  ⟨by simp [fs0], List.Pairwise.nil, Nat.zero_le _, by simp [fs0], fun f => ⟨0, Int.le_refl _, rfl⟩, ⟨by simp [fs0], fun f => by simp [fs0], by simp [fs0]⟩⟩
def fairL (p : List Pk) (per : Int) (ws : List Int) : List Sn := (serveS (fairM p ws) p per fs0).out
def fairT (p : List Pk) (per : Int) (ws : List Int) : Nat → Int := (serveS (fairM p ws) p per fs0).s.tg
end Go.Proofs.YthgpbdlmadjndaaDoor
namespace Go.Proofs.YthgpbdlmadjndaaDoor
def fStart (p : List Pk) (ws : List Int) (s : FS) (f : Nat) : Int := match fQ p f s.w with
  | [] => 0
  | k :: _ => s.tg k - fInc p ws k
def fPot (p : List Pk) (ws : List Int) (a b : Nat) (s : FS) : Int := (fStart p ws s b - fStart p ws s a) * (qu ws a * qu ws b)
section
variable {p : List Pk} {ws : List Int} {m : Nat} {s s' : FS} {a b : Nat}
theorem fStart_bd (hp : ∀ x ∈ p, okPk x) (hw : wOk ws) (h : FI p ws m s) {f : Nat} {X : Int} (hX : ∀ j, j < p.length → flN p j = f → sOf p j ≤ X) (hq : fQ p f s.w ≠ []) : fStart p ws s f ≤ s.v ∧ (s.v - fStart p ws s f) * qu ws f ≤ X * 12 := by
  obtain ⟨x, h1, h2⟩ := h.ch f
  unfold fStart
  cases hc : fQ p f s.w with
  | nil => exact absurd hc hq
  | cons k r =>
    rw [hc] at h2
    have hk := fQ_mem.1 (show k ∈ fQ p f s.w by rw [hc]; exact List.mem_cons_self)
    have hkl : k < p.length := by have := h.lt k hk.1; have := h.le; omega
    have h3 := h2.1
    have h4 := h.ge k hk.1
    have h5 := fInc_mul hp hw hkl
    have h6 := hX k hkl hk.2
    rw [hk.2] at h5
    have hg := (hw f (by rw [← hk.2]; exact flN_lt hp hkl)).1
    refine ⟨by show s.tg k - fInc p ws k ≤ _; omega, ?_⟩
    show (s.v - (s.tg k - fInc p ws k)) * qu ws f ≤ _
    have := Int.mul_le_mul_of_nonneg_right (show s.v - (s.tg k - fInc p ws k) ≤ fInc p ws k by omega) (show 0 ≤ qu ws f by omega)
    omega
theorem fPot_bd (hp : ∀ x ∈ p, okPk x) (hw : wOk ws) (h : FI p ws m s) {X Y : Int} (hX : ∀ j, j < p.length → flN p j = a → sOf p j ≤ X) (hY : ∀ j, j < p.length → flN p j = b → sOf p j ≤ Y) (ha8 : a < 8) (hb8 : b < 8) (ha : fQ p a s.w ≠ []) (hb : fQ p b s.w ≠ []) :
    -(12 * (Y * qu ws a)) ≤ fPot p ws a b s ∧ fPot p ws a b s ≤ 12 * (X * qu ws b) := by
  obtain ⟨a1, a2⟩ := fStart_bd hp hw h hX ha
  obtain ⟨b1, b2⟩ := fStart_bd hp hw h hY hb
  have ga := (hw a ha8).1
  have gb := (hw b hb8).1
  unfold fPot
  generalize fStart p ws s a = x at a1 a2 ⊢
  generalize fStart p ws s b = y at b1 b2 ⊢
  have m0 := Int.mul_nonneg (show 0 ≤ qu ws a by omega) (show 0 ≤ qu ws b by omega)
  have e : (y - x) * (qu ws a * qu ws b) = (s.v - x) * qu ws a * qu ws b - (s.v - y) * qu ws b * qu ws a := by
    rw [Int.mul_assoc, Int.mul_assoc, Int.mul_comm (qu ws b) (qu ws a), ← Int.sub_mul]
    congr 1
    omega
  rw [e]
  have m1 := Int.mul_le_mul_of_nonneg_right a2 (show 0 ≤ qu ws b by omega)
  have m2 := Int.mul_le_mul_of_nonneg_right b2 (show 0 ≤ qu ws a by omega)
  have m3 : 0 ≤ (s.v - x) * qu ws a * qu ws b := Int.mul_nonneg (Int.mul_nonneg (by omega) (by omega)) (by omega)
  have m4 : 0 ≤ (s.v - y) * qu ws b * qu ws a := Int.mul_nonneg (Int.mul_nonneg (by omega) (by omega)) (by omega)
  have e1 : X * 12 * qu ws b = 12 * (X * qu ws b) := by rw [Int.mul_comm X 12, Int.mul_assoc]
  have e2 : Y * 12 * qu ws a = 12 * (Y * qu ws a) := by rw [Int.mul_comm Y 12, Int.mul_assoc]
  omega
theorem fPot_pick (hp : ∀ x ∈ p, okPk x) (hw : wOk ws) (h : FI p ws m s) (hne : a ≠ b) {k : Nat} (hk : fPick s = some (k, s')) (ha : fQ p a s'.w ≠ []) (hb : fQ p b s'.w ≠ []) :
    fPot p ws a b s' = fPot p ws a b s - cntK p (12 * qu ws a) (12 * qu ws b) a b k := by
  obtain ⟨h1, h2, h3, h4, h5, h6⟩ := h.pick hp hw hk
  have hkl : k < p.length := by have := h.lt k (h5.mem_iff.2 List.mem_cons_self); have := h.le; omega
  have hinc := fInc_mul hp hw hkl
  -- the starts
  have hst : ∀ f, fQ p f s'.w ≠ [] → fStart p ws s' f = fStart p ws s f + if flN p k = f then fInc p ws k else 0 := fun f hf => by
    obtain ⟨x, _, c2⟩ := h.ch f
    have hq := h6 f
    unfold fStart
    by_cases hkf : flN p k = f
    · rw [if_pos hkf] at hq ⊢
      rw [hq] at c2 ⊢
      cases hr : fQ p f s'.w with
      | nil => exact absurd hr hf
      | cons k2 r =>
        rw [hr] at c2
        have c3 := c2.2.1
        show s'.tg k2 - fInc p ws k2 = s.tg k - fInc p ws k + fInc p ws k
        rw [h4]; omega
    · rw [if_neg hkf] at hq ⊢
      rw [hq, h4]
      omega
  unfold fPot cntK
  rw [hst a ha, hst b hb]
  by_cases hka : flN p k = a
  · have hkb : ¬ flN p k = b := fun e => hne (hka.symm.trans e)
    rw [if_pos hka, if_neg hkb, if_pos hka, if_neg hkb]
    rw [hka] at hinc
    have e : fInc p ws k * (qu ws a * qu ws b) = sOf p k * (12 * qu ws b) := by rw [← Int.mul_assoc, hinc, Int.mul_assoc]
    rw [← e, Int.sub_zero, Int.add_zero, ← Int.sub_mul]
    congr 1
    omega
  · rw [if_neg hka, if_neg hka]
    by_cases hkb : flN p k = b
    · rw [if_pos hkb, if_pos hkb]
      rw [hkb] at hinc
      have e : fInc p ws k * (qu ws a * qu ws b) = sOf p k * (12 * qu ws a) := by rw [Int.mul_comm (qu ws a), ← Int.mul_assoc, hinc, Int.mul_assoc]
      rw [← e, Int.add_zero, Int.zero_sub, Int.sub_neg, ← Int.add_mul]
      congr 1
      omega
    · rw [if_neg hkb, if_neg hkb]
      simp
theorem fair_comes (now : Int) (r : List Pk) (k : Nat) (s : FS) (hlt : ∀ j ∈ s.w, j < k) :
    (comeL (fairM p ws) now r k s).2.v = s.v ∧ (∀ j, j < k → (comeL (fairM p ws) now r k s).2.tg j = s.tg j) ∧ ∀ f, fQ p f s.w ≠ [] → fQ p f (comeL (fairM p ws) now r k s).2.w ≠ [] ∧ fStart p ws (comeL (fairM p ws) now r k s).2 f = fStart p ws s f := by
  induction r generalizing k s with
  | nil => exact ⟨rfl, fun _ _ => rfl, fun _ h => ⟨h, rfl⟩⟩
  | cons x r ih =>
    unfold comeL
    split
    · obtain ⟨e1, e2, e3⟩ := ih (k + 1) (fCome p ws s k) (fun j hj => by
        rcases List.mem_append.1 hj with h9 | h9
        · have := hlt j h9; omega
        · rw [List.mem_singleton.1 h9]; omega)
      refine ⟨e1, fun j hj => (e2 j (by omega)).trans (upd_other _ _ (by omega)), fun f hf => ?_⟩
      have hw : fQ p f (fCome p ws s k).w = fQ p f s.w ++ fQ p f [k] := fQ_app _ _ _ _
      obtain ⟨g1, g2⟩ := e3 f (by rw [hw]; intro e; exact hf (List.append_eq_nil_iff.1 e).1)
      refine ⟨g1, g2.trans ?_⟩
      unfold fStart
      rw [hw]
      cases hc : fQ p f s.w with
      | nil => exact absurd hc hf
      | cons j r =>
        have hj := fQ_mem.1 (show j ∈ fQ p f s.w by rw [hc]; exact List.mem_cons_self)
        show upd s.tg k _ j - _ = _
        rw [upd_other _ _ (by have := hlt j hj.1; omega)]
    · exact ⟨rfl, fun _ _ => rfl, fun _ h => ⟨h, rfl⟩⟩
end
structure FairJ (p : List Pk) (ws : List Int) (a b : Nat) (lo hi : Int) (t : St FS) : Prop where
  came : ∀ j, j < t.next → aOf p j ≤ t.now
  fr : ∀ i (h : i < t.out.length), t.out[i].f ≤ t.now
  to_ : ∀ i (h : i < t.out.length), t.out[i].t ≤ t.now
  lv : ∀ i (h : i < t.out.length), i + 1 = t.out.length → t.now = t.out[i].t → t.s.tg t.out[i].p.toNat ≤ t.s.v
  mono : ∀ i (h : i + 1 < t.out.length), t.out[i + 1].f = t.out[i].t → t.s.tg t.out[i].p.toNat ≤ t.s.tg t.out[i + 1].p.toNat
  tr : ∃ P Q : Nat → Int, ∀ i (h : i < t.out.length), WtP p a (t.out.take i) t.out[i] → WtP p b (t.out.take i) t.out[i] →
    (lo ≤ P i ∧ P i ≤ hi ∧ lo ≤ Q i ∧ Q i ≤ hi ∧ Q i = P i - cnt p (12 * qu ws a) (12 * qu ws b) a b t.out[i]) ∧ (i + 1 < t.out.length → P (i + 1) = Q i) ∧ (i + 1 = t.out.length → Q i = fPot p ws a b t.s ∧ fQ p a t.s.w ≠ [] ∧ fQ p b t.s.w ≠ [])
theorem fair_step {p : List Pk} {per : Int} {ws : List Int} {a b : Nat} {lo hi : Int} (hp : ∀ x ∈ p, okPk x) (hs : p.Pairwise (fun x y => x.a ≤ y.a)) (h0 : 1 ≤ per) (hw : wOk ws) (hne : a ≠ b)
    (hbd : ∀ m s, FI p ws m s → fQ p a s.w ≠ [] → fQ p b s.w ≠ [] → lo ≤ fPot p ws a b s ∧ fPot p ws a b s ≤ hi) (t : St FS) (h : Inv (fairM p ws) p t) (hlt : t.out.length < p.length) (hj : FairJ p ws a b lo hi t) : FairJ p ws a b lo hi (stepS (fairM p ws) p per t) := by
  have hM := fairOk (p := p) (ws := ws) hp hw
  obtain ⟨hc, hlt2⟩ := comeL_inv hM t.now (p.drop t.next) t.next t.s rfl h.toC
  have hall := comeL_all hM hs h hj.came
  obtain ⟨hv, htg, hpc⟩ := fair_comes (p := p) (ws := ws) t.now (p.drop t.next) t.next t.s h.ok.lt
  obtain ⟨P, Q, htr⟩ := hj.tr
  have hsent : ∀ y ∈ t.out, y.p.toNat < t.next := fun y hy => List.mem_range.1 (h.perm.mem_iff.1 (List.mem_append_left _ (List.mem_map.2 ⟨y, hy, rfl⟩)))
  unfold stepS
  generalize comeL (fairM p ws) t.now (p.drop t.next) t.next t.s = q at hc hlt2 hall hpc hv htg
  have hin : ∀ j, j < p.length → aOf p j ≤ t.now → (∀ y ∈ t.out, y.p ≠ j) → j ∈ q.2.w := fun j hj1 hj2 hj3 => by
    have hjq := (hall j hj1).2 hj2
    rcases List.mem_append.1 (hc.perm.mem_iff.2 (List.mem_range.2 hjq)) with h1 | h1
    · obtain ⟨y, hy, e⟩ := List.mem_map.1 h1
      have := h.pos y hy
      exact absurd (show y.p = (j : Int) by omega) (hj3 y hy)
    · exact h1
  have htg' : ∀ i (h : i < t.out.length), q.2.tg t.out[i].p.toNat = t.s.tg t.out[i].p.toNat := fun i hi => htg _ (hsent _ (List.getElem_mem hi))
  cases hpk : (fairM p ws).pick q.2 with
  | none =>
    have hw0 : q.2.w = [] := hM.w_none _ _ hc.ok hpk
    have hid := hc.idle hM hpk
    have hq1 : q.1 < p.length := by omega
    have hnow := hlt2 hq1
    refine ⟨fun j hjj => ?_, fun i hi => ?_, fun i hi => ?_, fun i hi h8 h9 => ?_, fun i hi h9 => ?_, P, Q, fun i hi ha hb => ?_⟩
    · show aOf p j ≤ aOf p q.1
      exact aOf_mono hs (Nat.le_of_lt hjj) hq1
    · have := hj.fr i hi
      show _ ≤ aOf p q.1
      simp only; omega
    · have := hj.to_ i hi
      show _ ≤ aOf p q.1
      simp only; omega
    · have hi' : i < t.out.length := hi
      have := hj.to_ i hi'
      have h9' : aOf p q.1 = t.out[i].t := h9
      omega
    · show q.2.tg _ ≤ q.2.tg _
      have hi' : i + 1 < t.out.length := hi
      have h9' : t.out[i + 1].f = t.out[i].t := h9
      have := hj.mono i hi' h9'
      have e1 := htg' i (by omega)
      have e2 := htg' (i + 1) hi'
      simp only
      rw [e1, e2]
      exact this
    · obtain ⟨h1, h2, _⟩ := htr i hi ha hb
      refine ⟨h1, h2, fun h9 => ?_⟩
      obtain ⟨j, j1, j2, j3, j4, j5⟩ := ha
      have h9' : i + 1 = t.out.length := h9
      have hfr := hj.fr i hi
      have hsplit : t.out = t.out.take i ++ [t.out[i]'hi] := by
        rw [← List.take_succ_eq_append_getElem hi, h9', List.take_length]
      have := hin j j1 (Int.le_trans j3 hfr) (fun y hy => by
        rw [hsplit] at hy
        rcases List.mem_append.1 hy with hy | hy
        · exact j4 y hy
        · rw [List.mem_singleton.1 hy]; exact j5)
      rw [hw0] at this
      simp at this
  | some ks =>
    obtain ⟨k, s'⟩ := ks
    have hk : k < q.1 := hc.pick_lt hM hpk
    have hkl : k < p.length := Nat.lt_of_lt_of_le hk hc.k_le
    have hok := hp _ (List.getElem_mem hkl)
    have m1 : 0 ≤ per * sOf p k := Int.mul_nonneg (by omega) (by rw [sOf_of hkl]; have := hok.2.2.1; omega)
    obtain ⟨hri, hvv, hvk, htk, hperm, hqq⟩ := FI.pick hp hw hc.ok hpk
    obtain ⟨x, hx⟩ : ∃ x : Sn, x = ⟨(k : Int), t.now, t.now + per * sOf p k⟩ := ⟨_, rfl⟩
    have hxp : x.p = (k : Int) := by rw [hx]
    have hxf : x.f = t.now := by rw [hx]
    have hxt : x.t = t.now + per * sOf p k := by rw [hx]
    show FairJ p ws a b lo hi ⟨t.out ++ [⟨(k : Int), t.now, t.now + per * sOf p k⟩], t.now + per * sOf p k, q.1, s'⟩
    rw [← hx]
    have hin2 : ∀ f, WtP p f t.out x → fQ p f s'.w ≠ [] ∧ fQ p f q.2.w ≠ [] := fun f ⟨j, j1, j2, j3, j4, j5⟩ => by
      have hjw := hin j j1 (by rw [← hxf]; exact j3) j4
      have hjw' : j ∈ s'.w := by
        rcases List.mem_cons.1 (hperm.mem_iff.1 hjw) with e | e
        · exact absurd (by rw [hxp, e]) j5
        · exact e
      have e1 : flN p j = f := j2
      exact ⟨List.ne_nil_of_mem (fQ_mem.2 ⟨hjw', e1⟩), List.ne_nil_of_mem (fQ_mem.2 ⟨hjw, e1⟩)⟩
    have e2' : (t.out ++ [x])[t.out.length]'(by simp) = x := List.getElem_concat_length rfl _
    refine ⟨fun j hjj => ?_, fun i hi => ?_, fun i hi => ?_, fun i hi h8 h9 => ?_, fun i hi h9 => ?_, fun i => if i = t.out.length then fPot p ws a b q.2 else P i, fun i => if i = t.out.length then fPot p ws a b s' else Q i, fun i hi ha hb => ?_⟩
    · have hjj' : j < q.1 := hjj
      have := (hall j (Nat.lt_of_lt_of_le hjj' hc.k_le)).1 hjj'
      show aOf p j ≤ t.now + per * sOf p k
      omega
    · show _ ≤ t.now + per * sOf p k
      have hi' : i < t.out.length + 1 := by simpa using hi
      rcases Nat.lt_or_ge i t.out.length with h9 | h9
      · have := hj.fr i h9
        simp only [List.getElem_append_left h9]
        omega
      · obtain rfl : i = t.out.length := by omega
        rw [List.getElem_concat_length rfl, hxf]
        omega
    · show _ ≤ t.now + per * sOf p k
      have hi' : i < t.out.length + 1 := by simpa using hi
      rcases Nat.lt_or_ge i t.out.length with h9 | h9
      · have := hj.to_ i h9
        simp only [List.getElem_append_left h9]
        omega
      · obtain rfl : i = t.out.length := by omega
        rw [List.getElem_concat_length rfl, hxt]
        omega
    · have h8' : i + 1 = t.out.length + 1 := by simpa using h8
      obtain rfl : i = t.out.length := by omega
      show s'.tg ((t.out ++ [x])[t.out.length]'hi).p.toNat ≤ s'.v
      rw [e2', hxp, Int.toNat_natCast, htk, hvk]
      exact Int.le_refl _
    · have hi' : i + 1 < t.out.length + 1 := by simpa using hi
      have hil : i < t.out.length := by omega
      show s'.tg _ ≤ s'.tg _
      have h9' : ((t.out ++ [x])[i + 1]'hi).f = ((t.out ++ [x])[i]'(Nat.lt_of_succ_lt hi)).t := h9
      rw [htk]
      simp only
      rw [List.getElem_append_left hil] at h9' ⊢
      rcases Nat.lt_or_ge (i + 1) t.out.length with h10 | h10
      · rw [List.getElem_append_left h10] at h9' ⊢
        rw [htg' i hil, htg' (i + 1) h10]
        exact hj.mono i h10 h9'
      · have e3 : i + 1 = t.out.length := by omega
        have e4 : (t.out ++ [x])[i + 1]'hi = x := by simp only [e3]; exact e2'
        rw [e4] at h9' ⊢
        rw [htg' i hil, hxp, Int.toNat_natCast]
        have := hj.lv i hil e3 (by rw [← h9', hxf])
        omega
    · have hi' : i < t.out.length + 1 := by simpa using hi
      simp only [List.length_append, List.length_cons, List.length_nil]
      rcases Nat.lt_or_ge i t.out.length with h9 | h9
      · simp only [List.take_append_of_le_length (Nat.le_of_lt h9), List.getElem_append_left h9] at ha hb ⊢
        obtain ⟨h1, h2, h3⟩ := htr i h9 ha hb
        have hn : ¬ i = t.out.length := by omega
        rw [if_neg hn, if_neg hn]
        refine ⟨h1, fun h8 => ?_, fun h8 => by omega⟩
        by_cases h7 : i + 1 = t.out.length
        · rw [if_pos h7]
          obtain ⟨g1, g2, g3⟩ := h3 h7
          rw [g1]
          unfold fPot
          rw [(hpc a g2).2, (hpc b g3).2]
        · rw [if_neg h7]
          exact h2 (by omega)
      · obtain rfl : i = t.out.length := by omega
        have e1 : (t.out ++ [x]).take t.out.length = t.out := List.take_left' rfl
        rw [e1, e2'] at ha hb
        rw [e2']
        obtain ⟨a1, a3⟩ := hin2 a ha
        obtain ⟨b1, b3⟩ := hin2 b hb
        rw [if_pos rfl, if_pos rfl]
        have hpot := fPot_pick hp hw hc.ok hne hpk a1 b1
        have hcnt : cnt p (12 * qu ws a) (12 * qu ws b) a b x = cntK p (12 * qu ws a) (12 * qu ws b) a b k := by
          unfold cnt cntK flS flN
          rw [hxp, Int.toNat_natCast]
        refine ⟨⟨(hbd _ _ hc.ok a3 b3).1, (hbd _ _ hc.ok a3 b3).2, (hbd _ _ hri a1 b1).1, (hbd _ _ hri a1 b1).2, by rw [hcnt]; exact hpot⟩, fun h8 => by omega, fun _ => ⟨rfl, a1, b1⟩⟩
/-- The spread of two flows, of scaled counts. -/
theorem spr_scale (p : List Pk) (qa qb : Int) (a b : Nat) (r : List Sn) (most sum low high : Int) : sprGo p (12 * qa) (12 * qb) a b (12 * most) (12 * sum) (12 * low) (12 * high) r = 12 * sprGo p qa qb a b most sum low high r := by
  induction r generalizing most sum low high with
  | nil => rfl
  | cons s r ih =>
    have hc : cnt p (12 * qa) (12 * qb) a b s = 12 * cnt p qa qb a b s := by
      unfold cnt
      rw [Int.mul_left_comm (sOf p s.p.toNat) 12 qb, Int.mul_left_comm (sOf p s.p.toNat) 12 qa]
      split <;> split <;> omega
    unfold sprGo
    rw [hc]
    split
    · rw [← ih]
      congr 1 <;> omega
    · have := ih most 0 0 0
      rw [← this]
      rfl
theorem fair_shares {p : List Pk} {per : Int} {ws : List Int} {a b : Nat} {X Y : Int} (hp : ∀ x ∈ p, okPk x) (hs : p.Pairwise (fun x y => x.a ≤ y.a)) (h0 : 1 ≤ per) (h1 : per ≤ 1000) (hw : wOk ws) (ha8 : a < 8) (hb8 : b < 8)
    (hX : ∀ j, j < p.length → flN p j = a → sOf p j ≤ X) (hY : ∀ j, j < p.length → flN p j = b → sOf p j ≤ Y) (hX0 : 0 ≤ X) (hY0 : 0 ≤ Y) :
    sprL p (qu ws a) (qu ws b) a b (fairL p per ws) ≤ X * qu ws b + Y * qu ws a := by
  have hA := (hw a ha8).1
  have hB := (hw b hb8).1
  have m5 := Int.mul_nonneg hX0 (show 0 ≤ qu ws b by omega)
  have m6 := Int.mul_nonneg hY0 (show 0 ≤ qu ws a by omega)
  by_cases hne : a = b
  · subst hne
    rw [spr_same]
    omega
  · have hM := fairOk (p := p) (ws := ws) hp hw
    obtain ⟨e1, e2, e3, e4⟩ := srv_perm hM hp h0 h1 (s0 := fs0) rfl (fs0_ok p ws)
    have hJ := run_ind hM hp h0 h1 (FairJ p ws a b _ _) (fun t x y z => fair_step hp hs h0 hw hne (fun m s h ha hb => fPot_bd hp hw h hX hY ha8 hb8 ha hb) t x y z) (2 * p.length + 1) _ (inv_start (M := fairM p ws) (s0 := fs0) p rfl (fs0_ok p ws))
      ⟨fun j hj => by simp at hj, fun i hi => by simp at hi, fun i hi => by simp at hi, fun i hi => by simp at hi, fun i hi => by simp at hi, fun _ => 0, fun _ => 0, fun i hi => by simp at hi⟩
    obtain ⟨P, Q, htr⟩ := hJ.tr
    have hT : Tr p (12 * qu ws a) (12 * qu ws b) a b _ _ (fairL p per ws) P Q := ⟨fun i hi ha hb => by
      obtain ⟨⟨g1, g2, g3, g4, g5⟩, g6, _⟩ := htr i hi (wt_of e2 e3 e4 hi ha) (wt_of e2 e3 e4 hi hb)
      exact ⟨g1, g2, g3, g4, g5, g6⟩⟩
    have h9 := spr_le hT (by omega)
    have h8 := spr_scale p (qu ws a) (qu ws b) a b (fairL p per ws) 0 0 0 0
    unfold sprL at h9 ⊢
    simp only [Int.mul_zero] at h8
    omega
/-- Tags do not fall while the link is busy. -/
theorem fair_rises {p : List Pk} {per : Int} {ws : List Int} (hp : ∀ x ∈ p, okPk x) (hs : p.Pairwise (fun x y => x.a ≤ y.a)) (h0 : 1 ≤ per) (h1 : per ≤ 1000) (hw : wOk ws) (i : Nat) (hi : i + 1 < (fairL p per ws).length) (he : (fairL p per ws)[i + 1].f = (fairL p per ws)[i].t) :
    fairT p per ws (fairL p per ws)[i].p.toNat ≤ fairT p per ws (fairL p per ws)[i + 1].p.toNat := by
  have hM := fairOk (p := p) (ws := ws) hp hw
  obtain ⟨X, hX⟩ : ∃ X : Int, X = 1500 := ⟨_, rfl⟩
  have hb : ∀ j, j < p.length → sOf p j ≤ X := fun j hj => by
    rw [sOf_of hj, hX]
    exact (hp _ (List.getElem_mem hj)).2.2.2.1
  have hJ := run_ind hM hp h0 h1 (FairJ p ws 0 1 _ _) (fun t x y z => fair_step hp hs h0 hw (by omega) (fun m s h ha hb2 => fPot_bd (X := X) (Y := X) hp hw h (fun j hj _ => hb j hj) (fun j hj _ => hb j hj) (by omega) (by omega) ha hb2) t x y z) (2 * p.length + 1) _ (inv_start (M := fairM p ws) (s0 := fs0) p rfl (fs0_ok p ws))
    ⟨fun j hj => by simp at hj, fun i hi => by simp at hi, fun i hi => by simp at hi, fun i hi => by simp at hi, fun i hi => by simp at hi, fun _ => 0, fun _ => 0, fun i hi => by simp at hi⟩
  exact hJ.mono i hi he
end Go.Proofs.YthgpbdlmadjndaaDoor
namespace Go.Proofs.YthgpbdlmadjndaaDoor
section
variable {σ : Type} {M : Pol σ} {p : List Pk} {per : Int} {t : St σ}
theorem gcame_step (hM : PolOk M p.length) (hp : ∀ x ∈ p, okPk x) (hs : p.Pairwise (fun x y => x.a ≤ y.a)) (h0 : 1 ≤ per) (h : Inv M p t) (hlt : t.out.length < p.length) (hc : ∀ j, j < t.next → aOf p j ≤ t.now) : ∀ j, j < (stepS M p per t).next → aOf p j ≤ (stepS M p per t).now := by
  obtain ⟨hci, hlt2⟩ := comeL_inv hM t.now (p.drop t.next) t.next t.s rfl h.toC
  have hall := comeL_all hM hs h hc
  unfold stepS
  generalize comeL M t.now (p.drop t.next) t.next t.s = q at hci hlt2 hall
  cases hpk : M.pick q.2 with
  | none =>
    have hid := hci.idle hM hpk
    intro j hj
    exact aOf_mono hs (Nat.le_of_lt hj) (by simp only at hj; omega)
  | some ks =>
    obtain ⟨k, s'⟩ := ks
    have hk : k < q.1 := hci.pick_lt hM hpk
    have hkl : k < p.length := Nat.lt_of_lt_of_le hk hci.k_le
    intro j hj
    have h1 := (hall j (Nat.lt_of_lt_of_le hj hci.k_le)).1 hj
    show aOf p j ≤ t.now + per * sOf p k
    have h2 := (hp _ (List.getElem_mem hkl)).2.2.1
    rw [sOf_of hkl]
    have : 0 ≤ per * p[k].s := Int.mul_nonneg (by omega) (by omega)
    omega
/-- Those that wait: come, and not sent. -/
theorem gwait_iff (hM : PolOk M p.length) (hs : p.Pairwise (fun x y => x.a ≤ y.a)) (h : Inv M p t) (hc : ∀ j, j < t.next → aOf p j ≤ t.now) (j : Nat) (hl : j < p.length) :
    j ∈ M.wait (comeL M t.now (p.drop t.next) t.next t.s).2 ↔ (dnB t.out j = false ∧ aOf p j ≤ t.now) := by
  obtain ⟨hci, _⟩ := comeL_inv hM t.now (p.drop t.next) t.next t.s rfl h.toC
  have hall := comeL_all hM hs h hc j hl
  generalize comeL M t.now (p.drop t.next) t.next t.s = q at hci hall
  have hnd : ((t.out.map fun x => x.p.toNat) ++ M.wait q.2).Nodup := (hci.perm.nodup_iff).2 List.nodup_range
  have hm : ∀ j, (j ∈ (t.out.map fun x => x.p.toNat) ∨ j ∈ M.wait q.2) ↔ j < q.1 := fun j => (List.mem_append.symm).trans ((hci.perm.mem_iff).trans List.mem_range)
  rw [← hall, dnB_not]
  refine ⟨fun h1 => ⟨fun y hy e => ?_, (hm j).1 (.inr h1)⟩, fun ⟨h1, h2⟩ => ?_⟩
  · exact (List.nodup_append.1 hnd).2.2 _ (List.mem_map.2 ⟨y, hy, by omega⟩) _ h1 rfl
  · rcases (hm j).2 h2 with h3 | h3
    · obtain ⟨y, hy, e⟩ := List.mem_map.1 h3
      have := h.pos y hy
      exact absurd (show y.p = (j : Int) by omega) (h1 y hy)
    · exact h3
/-- Where none waits, the first that was not sent is the next to come. -/
theorem gfirst (hM : PolOk M p.length) (h : Inv M p t) (hlt : t.out.length < p.length) {first : Int} (hf : FirstAt t.out p.length first) (hpk : M.pick (comeL M t.now (p.drop t.next) t.next t.s).2 = none) :
    first = ((comeL M t.now (p.drop t.next) t.next t.s).1 : Int) ∧ (comeL M t.now (p.drop t.next) t.next t.s).1 < p.length := by
  obtain ⟨hc, hlt2⟩ := comeL_inv hM t.now (p.drop t.next) t.next t.s rfl h.toC
  generalize comeL M t.now (p.drop t.next) t.next t.s = q at hc hlt2 hpk
  have hid := hc.idle hM hpk
  have hw := hM.w_none _ _ hc.ok hpk
  have hm : ∀ j, j ∈ (t.out.map fun x => x.p.toNat) ↔ j < q.1 := fun j => by
    have := (hc.perm.mem_iff (a := j)).trans List.mem_range
    rw [hw, List.append_nil] at this
    exact this
  have hdq : dnB t.out q.1 = false := dnB_not.2 fun y hy e => by
    have := (hm q.1).1 (List.mem_map.2 ⟨y, hy, by omega⟩)
    omega
  have hdl : ∀ j, j < q.1 → dnB t.out j = true := fun j hjq => by
    obtain ⟨y, hy, e⟩ := List.mem_map.1 ((hm j).2 hjq)
    have := h.pos y hy
    exact dnB_iff.2 ⟨y, hy, by omega⟩
  refine ⟨?_, by omega⟩
  rcases hf with ⟨e, hf⟩ | ⟨f, hfl, e, h1, h2⟩
  · have := hf q.1 (by omega)
    rw [hdq] at this; cases this
  · rcases Nat.lt_trichotomy f q.1 with h9 | h9 | h9
    · rw [hdl f h9] at h1; cases h1
    · omega
    · have := h2 q.1 h9
      rw [hdq] at this; cases this
/-- Packets come one by one: those ahead of i have been looked at. -/
structure CAt (M : Pol σ) (p : List Pk) (t : St σ) (i k : Nat) (s : σ) : Prop where
  run : comeL M t.now (p.drop t.next) t.next t.s = comeL M t.now (p.drop k) k s
  inv : InvC M p t.out k s
  ge : t.next ≤ k
  at_ : k ≤ i ∨ k = t.next
  iff : ∀ j, j < i → (j < k ↔ aOf p j ≤ t.now)
theorem CAt.start (h : Inv M p t) : CAt M p t 0 t.next t.s := ⟨rfl, h.toC, Nat.le_refl _, .inr rfl, fun _ h => absurd h (Nat.not_lt_zero _)⟩
theorem CAt.old {i k : Nat} {s : σ} (h : CAt M p t i k s) (hc : ∀ j, j < t.next → aOf p j ≤ t.now) (hi : i < k) : CAt M p t (i + 1) k s ∧ aOf p i ≤ t.now := by
  have hk : k = t.next := by rcases h.at_ with h1 | h1 <;> omega
  have ha : aOf p i ≤ t.now := hc i (by omega)
  refine ⟨⟨h.run, h.inv, h.ge, .inr hk, fun j hj => ?_⟩, ha⟩
  rcases Nat.lt_succ_iff_lt_or_eq.1 hj with h9 | rfl
  · exact h.iff j h9
  · exact ⟨fun _ => ha, fun _ => hi⟩
theorem CAt.late {i k : Nat} {s : σ} (h : CAt M p t i k s) (hi : k ≤ i) (ha : t.now < aOf p i) : CAt M p t (i + 1) k s := by
  refine ⟨h.run, h.inv, h.ge, .inl (by omega), fun j hj => ?_⟩
  rcases Nat.lt_succ_iff_lt_or_eq.1 hj with h9 | rfl
  · exact h.iff j h9
  · exact ⟨fun _ => by omega, fun _ => by omega⟩
theorem CAt.now_ {i k : Nat} {s : σ} (h : CAt M p t i k s) (hs : p.Pairwise (fun x y => x.a ≤ y.a)) (hi : k ≤ i) (hil : i < p.length) (ha : aOf p i ≤ t.now) : k = i := by
  rcases Nat.eq_or_lt_of_le hi with h9 | h9
  · exact h9
  · have h1 := h.iff k h9
    have h2 := aOf_mono hs (Nat.le_of_lt h9) hil
    omega
theorem CAt.come {i : Nat} {s : σ} (h : CAt M p t i i s) (hM : PolOk M p.length) (hil : i < p.length) (ha : aOf p i ≤ t.now) : CAt M p t (i + 1) (i + 1) (M.come s i) := by
  refine ⟨?_, h.inv.come hM hil, by have := h.ge; omega, .inl (Nat.le_refl _), fun j hj => ?_⟩
  · rw [h.run, List.drop_eq_getElem_cons hil]
    rw [aOf_of hil] at ha
    exact if_pos ha
  · rcases Nat.lt_succ_iff_lt_or_eq.1 hj with h9 | rfl
    · have := h.iff j h9
      exact ⟨fun _ => this.1 h9, fun _ => hj⟩
    · exact ⟨fun _ => ha, fun _ => hj⟩
theorem CAt.end_ {k : Nat} {s : σ} (h : CAt M p t p.length k s) : comeL M t.now (p.drop t.next) t.next t.s = (k, s) := by
  rw [h.run]
  refine comeL_out M p t.now k s fun hk => ?_
  have := h.iff k hk
  omega
/-- One that has not come was not sent. -/
theorem CAt.not_sent {i k : Nat} {s : σ} (h : CAt M p t i k s) (hpos : ∀ x ∈ t.out, 0 ≤ x.p) {j : Nat} (hj : k ≤ j) : dnB t.out j = false := dnB_not.2 fun y hy e => by
  have h1 : y.p.toNat ∈ (t.out.map fun x => x.p.toNat) ++ M.wait s := List.mem_append_left _ (List.mem_map.2 ⟨y, hy, rfl⟩)
  have := List.mem_range.1 ((h.inv.perm.mem_iff).1 h1)
  omega
end
theorem BestAt.congr {p : List Pk} {key key' : Nat → Int} {now : Int} {out : List Sn} {i : Nat} {best : Int} (h : BestAt p key now out i best) (hk : ∀ j, j < i → key' j = key j) : BestAt p key' now out i best := by
  rcases h with ⟨e, h⟩ | ⟨b, hb, e, h1, h2, h3⟩
  · exact .inl ⟨e, h⟩
  · refine .inr ⟨b, hb, e, h1, h2, fun j hj hd ha => ?_⟩
    rw [hk j hj, hk b hb]
    exact h3 j hj hd ha
section
variable {p : List Pk} {per : Int} {ws : List Int} {t : St FS}
theorem fair_none (hp : ∀ x ∈ p, okPk x) (hw : wOk ws) (hs : p.Pairwise (fun x y => x.a ≤ y.a)) (h : Inv (fairM p ws) p t) (hc : ∀ j, j < t.next → aOf p j ≤ t.now) (hlt : t.out.length < p.length) {k : Nat} {s : FS} (hq : CAt (fairM p ws) p t p.length k s) {best first : Int}
    (hb : BestAt p s.tg t.now t.out p.length best) (hf : FirstAt t.out p.length first) (hn : best < 0) :
    first = (k : Int) ∧ k < p.length ∧ stepS (fairM p ws) p per t = ⟨t.out, aOf p k, k, fRest s⟩ := by
  have hM := fairOk hp hw
  have hwt := gwait_iff hM hs h hc
  have hfi := fun x => gfirst hM h hlt hf x
  have hst : ∀ {k s}, comeL (fairM p ws) t.now (p.drop t.next) t.next t.s = (k, s) → (fairM p ws).pick s = none → stepS (fairM p ws) p per t = ⟨t.out, aOf p k, k, (fairM p ws).rest s⟩ := fun h1 h2 => step_none h1 h2
  rw [hq.end_] at hwt hfi
  have hq2 : s.w = [] := by
    refine List.eq_nil_iff_forall_not_mem.2 fun j hjm => ?_
    have hjl : j < p.length := Nat.lt_of_lt_of_le (hq.inv.wait_lt hjm) hq.inv.k_le
    obtain ⟨h1, h2⟩ := (hwt j hjl).1 hjm
    rcases hb with ⟨e, hb⟩ | ⟨b, hb, e, _⟩
    · have := hb j hjl h1; omega
    · omega
  have hpk : (fairM p ws).pick s = none := if_pos (by rw [hq2]; rfl)
  obtain ⟨f1, f2⟩ := hfi hpk
  exact ⟨f1, f2, hst hq.end_ hpk⟩
theorem fair_some (hp : ∀ x ∈ p, okPk x) (hw : wOk ws) (hs : p.Pairwise (fun x y => x.a ≤ y.a)) (h : Inv (fairM p ws) p t) (hc : ∀ j, j < t.next → aOf p j ≤ t.now) {k : Nat} {s : FS} (hq : CAt (fairM p ws) p t p.length k s) {best : Int}
    (hb : BestAt p s.tg t.now t.out p.length best) (hn : 0 ≤ best) :
    ∃ (b : Nat) (w' : List Nat), best = b ∧ b < p.length ∧ dnB t.out b = false ∧ stepS (fairM p ws) p per t = ⟨t.out ++ [⟨b, t.now, t.now + per * sOf p b⟩], t.now + per * sOf p b, k, { s with w := w', v := s.tg b }⟩ := by
  have hM := fairOk hp hw
  have hwt := gwait_iff hM hs h hc
  have hst : ∀ {k j : Nat} {s s'}, comeL (fairM p ws) t.now (p.drop t.next) t.next t.s = (k, s) → (fairM p ws).pick s = some (j, s') → stepS (fairM p ws) p per t = ⟨t.out ++ [⟨j, t.now, t.now + per * sOf p j⟩], t.now + per * sOf p j, k, s'⟩ := fun h1 h2 => step_some h1 h2
  rw [hq.end_] at hwt
  rcases hb with ⟨e, hb⟩ | ⟨b, hbl, e, h1, h2, h3⟩
  · omega
  · have hbm : b ∈ s.w := (hwt b hbl).2 ⟨h1, h2⟩
    have hne : s.w.length ≠ 0 := fun h9 => by rw [List.eq_nil_of_length_eq_zero h9] at hbm; cases hbm
    have hB := bestI_ok s.tg s.w (by omega)
    have hBl := hB.lt
    have eg : s.w.getD (bestI s.tg s.w) 0 = s.w[bestI s.tg s.w] := by simp [List.getD, hBl]
    have hk2 : s.w[bestI s.tg s.w] ∈ s.w := List.getElem_mem _
    have hkl : s.w[bestI s.tg s.w] < p.length := Nat.lt_of_lt_of_le (hq.inv.wait_lt hk2) hq.inv.k_le
    obtain ⟨g1, g2⟩ := (hwt _ hkl).1 hk2
    have h4 := h3 _ hkl g1 g2
    obtain ⟨a, ha, ea⟩ := List.getElem_of_mem hbm
    have e1 : s.w.getD a 0 = b := by simp [List.getD, ha, ea]
    have h5 := hB.le a ha
    rw [e1, eg] at h5
    have heq : s.tg b = s.tg s.w[bestI s.tg s.w] := by omega
    have hok : FI p ws k s := hq.inv.ok
    have hbk : b = s.w[bestI s.tg s.w] := by
      refine Nat.le_antisymm (h4.2 heq.symm) ?_
      rcases Nat.lt_or_ge a (bestI s.tg s.w) with h6 | h6
      · have := hB.first a h6
        rw [e1, eg] at this
        omega
      · rcases Nat.eq_or_lt_of_le h6 with h7 | h7
        · subst ea
          simp only [h7]; exact Nat.le_refl _
        · have := List.pairwise_iff_getElem.1 hok.asc _ _ hBl ha h7
          omega
    have hfb : fBest s = b := by unfold fBest; rw [eg, ← hbk]
    have hpk : (fairM p ws).pick s = some (b, { s with w := s.w.eraseIdx (bestI s.tg s.w), v := s.tg b }) := by
      show fPick s = _
      unfold fPick
      rw [if_neg hne, hfb]
    exact ⟨b, _, e, hbl, h1, hst hq.end_ hpk⟩
end
theorem tag_div {z q : Int} (h : q ∣ 12) : z * 12 / q = z * (12 / q) := Int.mul_ediv_assoc z h
end Go.Proofs.YthgpbdlmadjndaaDoor
