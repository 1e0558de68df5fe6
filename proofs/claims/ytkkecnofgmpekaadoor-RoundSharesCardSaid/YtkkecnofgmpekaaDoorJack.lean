/- JACKSON: where all come at once, by deadlines nobody can be less late, in whatever order they are sent. Plainly. No program. No condition. -/
import Derived.Test.YtkkecnofgmpekaaDoorLeastP
namespace Go.Proofs.YtkkecnofgmpekaaDoor
/-- One is sent behind the other, from a tick on. -/
def chain (p : List Pk) (per : Int) : Int → List Sn → Prop
  | _, [] => True
  | now, x :: r => x.t = now + per * sOf p x.p.toNat ∧ chain p per x.t r
def endT (now : Int) : List Sn → Int
  | [] => now
  | x :: r => endT x.t r
def sumD (p : List Pk) (per : Int) (T : Nat → Bool) : List Sn → Int
  | [] => 0
  | x :: r => (if T x.p.toNat then per * sOf p x.p.toNat else 0) + sumD p per T r
section
variable {p : List Pk} {per : Int}
theorem chain_add {now : Int} {l : List Sn} {x : Sn} (h : chain p per now l) (hx : x.t = endT now l + per * sOf p x.p.toNat) : chain p per now (l ++ [x]) ∧ endT now (l ++ [x]) = x.t := by
  induction l generalizing now with
  | nil => exact ⟨⟨hx, trivial⟩, rfl⟩
  | cons y r ih =>
    obtain ⟨h1, h2⟩ := h
    obtain ⟨h3, h4⟩ := ih h2 hx
    exact ⟨⟨h1, h3⟩, h4⟩
theorem chain_split {now : Int} {l r : List Sn} (h : chain p per now (l ++ r)) : chain p per now l ∧ chain p per (endT now l) r := by
  induction l generalizing now with
  | nil => exact ⟨trivial, h⟩
  | cons y l ih =>
    obtain ⟨h1, h2⟩ := h
    obtain ⟨h3, h4⟩ := ih h2
    exact ⟨⟨h1, h3⟩, h4⟩
theorem chain_end {now : Int} {l : List Sn} (h : chain p per now l) : endT now l = now + sumD p per (fun _ => true) l := by
  induction l generalizing now with
  | nil => simp [endT, sumD]
  | cons y r ih =>
    obtain ⟨h1, h2⟩ := h
    unfold endT sumD
    rw [ih h2, h1]
    simp only [if_true]
    omega
theorem sumD_app (T : Nat → Bool) (l r : List Sn) : sumD p per T (l ++ r) = sumD p per T l + sumD p per T r := by
  induction l with
  | nil => simp [sumD]
  | cons y l ih => simp only [List.cons_append, sumD]; rw [ih]; omega
theorem sumD_perm (T : Nat → Bool) {l r : List Sn} (h : (l.map fun x => x.p.toNat).Perm (r.map fun x => x.p.toNat)) : sumD p per T l = sumD p per T r := by
  have key : ∀ l : List Sn, sumD p per T l = ((l.map fun x => x.p.toNat).map fun k => if T k then per * sOf p k else 0).foldr (· + ·) 0 := fun l => by
    induction l with
    | nil => rfl
    | cons y l ih => unfold sumD; rw [ih]; rfl
  rw [key, key]
  refine List.Perm.foldr_eq' (h.map _) ?_ 0
  intro a _ b _ z
  omega
theorem sumD_nonneg (h : ∀ k, 0 ≤ per * sOf p k) (T : Nat → Bool) (l : List Sn) : 0 ≤ sumD p per T l := by
  induction l with
  | nil => exact Int.le_refl _
  | cons y l ih => unfold sumD; have := h y.p.toNat; split <;> omega
theorem sumD_le (h : ∀ k, 0 ≤ per * sOf p k) (T : Nat → Bool) (l : List Sn) : sumD p per T l ≤ sumD p per (fun _ => true) l := by
  induction l with
  | nil => exact Int.le_refl _
  | cons y l ih => unfold sumD; have := h y.p.toNat; simp only [if_true]; split <;> omega
theorem sumD_all (T : Nat → Bool) (l : List Sn) (hT : ∀ x ∈ l, T x.p.toNat = true) : sumD p per T l = sumD p per (fun _ => true) l := by
  induction l with
  | nil => rfl
  | cons y l ih => unfold sumD; rw [hT y List.mem_cons_self, ih fun x hx => hT x (List.mem_cons_of_mem _ hx)]
theorem sumD_none (T : Nat → Bool) (l : List Sn) (hT : ∀ x ∈ l, T x.p.toNat = false) : sumD p per T l = 0 := by
  induction l with
  | nil => rfl
  | cons y l ih => unfold sumD; rw [hT y List.mem_cons_self, ih fun x hx => hT x (List.mem_cons_of_mem _ hx)]; simp
/-- The last one of a set is through no sooner than all of the set take. -/
theorem last_of (h : ∀ k, 0 ≤ per * sOf p k) (T : Nat → Bool) (l : List Sn) (now : Int) (hc : chain p per now l) (hT : ∃ x ∈ l, T x.p.toNat = true) : ∃ z ∈ l, T z.p.toNat = true ∧ now + sumD p per T l ≤ z.t := by
  induction l generalizing now with
  | nil => obtain ⟨x, hx, _⟩ := hT; cases hx
  | cons y r ih =>
    obtain ⟨h1, h2⟩ := hc
    by_cases hr : ∃ x ∈ r, T x.p.toNat = true
    · obtain ⟨z, hz, hTz, hle⟩ := ih y.t h2 hr
      refine ⟨z, List.mem_cons_of_mem _ hz, hTz, ?_⟩
      unfold sumD
      have := h y.p.toNat
      split <;> omega
    · have hy : T y.p.toNat = true := by
        obtain ⟨x, hx, hTx⟩ := hT
        rcases List.mem_cons.1 hx with rfl | hx
        · exact hTx
        · exact absurd ⟨x, hx, hTx⟩ hr
      refine ⟨y, List.mem_cons_self, hy, ?_⟩
      unfold sumD
      rw [hy, sumD_none T r fun x hx => by
        cases hx2 : T x.p.toNat with
        | false => rfl
        | true => exact absurd ⟨x, hx, hx2⟩ hr]
      simp only [if_true]
      omega
end
structure JackJ (p : List Pk) (per a0 : Int) (t : St (List Nat)) : Prop where
  e : t.out = [] → t.now ≤ a0
  c : t.out ≠ [] → chain p per a0 t.out ∧ t.now = endT a0 t.out ∧ a0 ≤ t.now
theorem jack_step {p : List Pk} {per a0 : Int} {key : Nat → Int} (hp : ∀ x ∈ p, okPk x) (hs : p.Pairwise (fun x y => x.a ≤ y.a)) (h0 : 1 ≤ per) (ha : ∀ j, j < p.length → aOf p j = a0) (t : St (List Nat)) (h : Inv (leastM key) p t) (hlt : t.out.length < p.length) (hrj : RankJ p key t) (hj : JackJ p per a0 t) : JackJ p per a0 (stepS (leastM key) p per t) := by
  obtain ⟨hc, hlt2⟩ := comeL_inv (leastOk key _) t.now (p.drop t.next) t.next t.s rfl h.toC
  have hall := comeL_all (leastOk key _) hs h hrj.came
  unfold stepS
  generalize comeL (leastM key) t.now (p.drop t.next) t.next t.s = q at hc hlt2 hall
  cases hpk : (leastM key).pick q.2 with
  | none =>
    have hid := hc.idle (leastOk key _) hpk
    have h1 := hlt2 (by omega)
    rw [ha _ (by omega)] at h1
    have hn : t.out = [] := by
      refine Classical.byContradiction fun h9 => ?_
      have := (hj.c h9).2.2
      omega
    refine ⟨fun _ => ?_, fun h9 => absurd hn h9⟩
    show aOf p q.1 ≤ a0
    rw [ha _ (by omega)]; exact Int.le_refl _
  | some ks =>
    obtain ⟨k, s'⟩ := ks
    have hk : k < q.1 := hc.pick_lt (leastOk key _) hpk
    have hkl : k < p.length := Nat.lt_of_lt_of_le hk hc.k_le
    have hok := hp _ (List.getElem_mem hkl)
    have m1 : 0 ≤ per * sOf p k := Int.mul_nonneg (by omega) (by rw [sOf_of hkl]; have := hok.2.2.1; omega)
    have h1 := (hall k hkl).1 hk
    rw [ha k hkl] at h1
    refine ⟨fun h9 => by simp at h9, fun _ => ?_⟩
    have hx : chain p per a0 t.out ∧ t.now = endT a0 t.out := by
      by_cases h9 : t.out = []
      · have := hj.e h9
        rw [h9]
        exact ⟨trivial, by show t.now = a0; omega⟩
      · exact ⟨(hj.c h9).1, (hj.c h9).2.1⟩
    obtain ⟨h2, h3⟩ := chain_add (x := ⟨k, t.now, t.now + per * sOf p k⟩) hx.1 (by simp only [Int.toNat_natCast]; rw [← hx.2])
    refine ⟨h2, h3.symm, ?_⟩
    simp only
    omega
theorem leastL_perm {p : List Pk} {per : Int} {key : Nat → Int} (hp : ∀ x ∈ p, okPk x) (h0 : 1 ≤ per) (h1 : per ≤ 1000) : ((leastL p per key).map fun x => x.p.toNat).Perm (List.range p.length) := by
  obtain ⟨hi, hl⟩ := run_all (leastOk key _) hp h0 h1 (2 * p.length + 1) _ (least_start p key) (mu_start p _) (Nat.zero_le _)
  have hc := hi.toC.cnt
  have hn := hi.next_le
  have hpm := hi.perm
  have hw : (leastM key).wait (serveS (leastM key) p per []).s = [] := List.eq_nil_of_length_eq_zero (by show ((leastM key).wait (runS (leastM key) p per (2 * p.length + 1) ⟨[], 0, 0, []⟩).s).length = 0; omega)
  have hx : (runS (leastM key) p per (2 * p.length + 1) ⟨[], 0, 0, []⟩).next = p.length := by omega
  rw [hx] at hpm
  unfold serveS at hw
  rw [hw, List.append_nil] at hpm
  exact hpm
theorem leastL_pos {p : List Pk} {per : Int} {key : Nat → Int} (hp : ∀ x ∈ p, okPk x) (h0 : 1 ≤ per) (h1 : per ≤ 1000) : ∀ x ∈ leastL p per key, 0 ≤ x.p :=
  (run_all (leastOk key _) hp h0 h1 (2 * p.length + 1) _ (least_start p key) (mu_start p _) (Nat.zero_le _)).1.pos
theorem jack_chain {p : List Pk} {per a0 : Int} {key : Nat → Int} (hp : ∀ x ∈ p, okPk x) (hs : p.Pairwise (fun x y => x.a ≤ y.a)) (h0 : 1 ≤ per) (h1 : per ≤ 1000) (ha : ∀ j, j < p.length → aOf p j = a0) (hz : 0 ≤ a0) : chain p per a0 (leastL p per key) := by
  have hj := run_ind (leastOk key _) hp h0 h1 (fun t => RankJ p key t ∧ JackJ p per a0 t) (fun t a b c => ⟨rank_step hp hs h0 t a b c.1, jack_step hp hs h0 ha t a b c.1 c.2⟩) (2 * p.length + 1) _ (least_start p key)
    ⟨⟨fun j hj => by simp at hj, fun i hi => by simp at hi⟩, fun _ => hz, fun h => absurd rfl h⟩
  by_cases h9 : leastL p per key = []
  · rw [h9]; trivial
  · exact (hj.2.c h9).1
/-- Nobody can be less late. -/
theorem jackson {p : List Pk} {per a0 : Int} {key : Nat → Int} (hp : ∀ x ∈ p, okPk x) (hs : p.Pairwise (fun x y => x.a ≤ y.a)) (h0 : 1 ≤ per) (h1 : per ≤ 1000) (ha : ∀ j, j < p.length → aOf p j = a0) (hz : 0 ≤ a0)
    (o : List Sn) (ho : chain p per a0 o) (hop : (o.map fun x => x.p.toNat).Perm (List.range p.length)) (x : Sn) (hx : x ∈ leastL p per key) : ∃ z ∈ o, x.t - key x.p.toNat ≤ z.t - key z.p.toNat := by
  have hl := leastL_ok (key := key) hp hs h0 h1
  have hpm := leastL_perm (key := key) hp h0 h1
  have hpos := leastL_pos (key := key) hp h0 h1
  have hc := jack_chain (key := key) hp hs h0 h1 ha hz
  have hd : ∀ k, 0 ≤ per * sOf p k := fun k => by
    refine Int.mul_nonneg (by omega) ?_
    by_cases hk : k < p.length
    · rw [sOf_of hk]; have := (hp _ (List.getElem_mem hk)).2.2.1; omega
    · unfold sOf
      simp [List.getD, hk]
  generalize leastL p per key = l at hx hl hpm hpos hc
  obtain ⟨i, hi, rfl⟩ := List.getElem_of_mem hx
  have hsp : l = l.take (i + 1) ++ l.drop (i + 1) := (List.take_append_drop _ _).symm
  have htk : l.take (i + 1) = l.take i ++ [l[i]] := by rw [List.take_succ_eq_append_getElem hi]
  have hc1 : chain p per a0 (l.take (i + 1)) := by rw [hsp] at hc; exact (chain_split hc).1
  have hend : l[i].t = a0 + sumD p per (fun _ => true) (l.take (i + 1)) := by
    rw [← chain_end hc1, htk]
    have : ∀ (now : Int) (l : List Sn) (x : Sn), endT now (l ++ [x]) = x.t := fun now l x => by
      induction l generalizing now with
      | nil => rfl
      | cons y r ih => exact ih y.t
    rw [this]
  let T : Nat → Bool := fun k => (l.take (i + 1)).any fun y => y.p.toNat == k
  have hT : ∀ k, T k = true ↔ ∃ y ∈ l.take (i + 1), y.p.toNat = k := fun k => by
    show (l.take (i + 1)).any (fun y => y.p.toNat == k) = true ↔ _
    rw [List.any_eq_true]
    exact ⟨fun ⟨y, h1, h2⟩ => ⟨y, h1, by simpa using h2⟩, fun ⟨y, h1, h2⟩ => ⟨y, h1, by simpa using h2⟩⟩
  have hge : sumD p per (fun _ => true) (l.take (i + 1)) ≤ sumD p per T o := by
    rw [sumD_perm T (hop.trans hpm.symm), ← sumD_all T (l.take (i + 1)) fun y hy => (hT _).2 ⟨y, hy, rfl⟩]
    have e1 : sumD p per T l = sumD p per T (l.take (i + 1)) + sumD p per T (l.drop (i + 1)) := by rw [← sumD_app, ← hsp]
    have := sumD_nonneg hd T (l.drop (i + 1))
    omega
  have hxl : l[i] ∈ l.take (i + 1) := by rw [htk]; exact List.mem_append_right _ (List.mem_singleton.2 rfl)
  have hin : ∃ z ∈ o, T z.p.toNat = true := by
    have : l[i].p.toNat ∈ o.map fun x => x.p.toNat := (hop.trans hpm.symm).mem_iff.2 (List.mem_map.2 ⟨l[i], hx, rfl⟩)
    obtain ⟨z, hz1, hz2⟩ := List.mem_map.1 this
    exact ⟨z, hz1, (hT _).2 ⟨l[i], hxl, hz2.symm⟩⟩
  obtain ⟨z, hz1, hz2, hz3⟩ := last_of hd T o a0 ho hin
  refine ⟨z, hz1, ?_⟩
  obtain ⟨y, hy, e⟩ := (hT _).1 hz2
  obtain ⟨j, hj, rfl⟩ := List.getElem_of_mem hy
  have hjl : j < l.length := by rw [List.length_take] at hj; omega
  have hji : j ≤ i := by rw [List.length_take] at hj; omega
  rw [List.getElem_take] at e
  have hyj := hl j hjl
  have hxi := hl i hi
  have hk : key l[j].p.toNat ≤ key l[i].p.toNat := by
    refine (hyj.least l[i].p.toNat hxi.lt (fun y hy e2 => ?_) ?_).1
    · refine hxi.fresh y ?_ (by have := hxi.pos; omega)
      obtain ⟨m, hm, rfl⟩ := List.getElem_of_mem hy
      rw [List.length_take] at hm
      rw [List.getElem_take]
      exact List.mem_take_iff_getElem.2 ⟨m, by omega, rfl⟩
    · rw [ha _ hxi.lt]
      have := hyj.came
      rw [ha _ hyj.lt] at this
      exact this
  rw [← e]
  omega
end Go.Proofs.YtkkecnofgmpekaaDoor
