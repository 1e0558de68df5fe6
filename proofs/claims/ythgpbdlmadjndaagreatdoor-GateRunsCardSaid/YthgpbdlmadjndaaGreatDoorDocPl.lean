/- How the document puts packets in order, plainly: each is put in behind those that come no later. No program in sight. A link by keys that are all the same is a link in order, plainly. No program. No condition. JACKSON: where all come at once, by deadlines nobody can be less late, in whatever order they are sent. Plainly. No program. No condition. JACKSON's law for whatever order: the plain part. No program. No condition. The document's link round by round, plainly: those that wait, a turn that fails. No program. No condition. -/
import Derived.Test.YthgpbdlmadjndaaGreatDoorGateP
import Derived.Test.YthgpbdlmadjndaaGreatDoorPlnM
import Derived.Test.YthgpbdlmadjndaaGreatDoorLate
import Derived.Test.YthgpbdlmadjndaaGreatDoorRkM
namespace Go.Proofs.YthgpbdlmadjndaaGreatDoor
def pkO (p : List Pk) (at_ : Nat → Int) (k : Nat) : Pk := ⟨fOf p k, sOf p k, at_ k⟩
def outO (p : List Pk) (at_ : Nat → Int) (n : Nat) : List Pk := (ordL at_ n).map (pkO p at_)
theorem outO_all (p : List Pk) (at_ : Nat → Int) : outO p at_ p.length = gOut p at_ := rfl
theorem outO_len (p : List Pk) (at_ : Nat → Int) (n : Nat) : (outO p at_ n).length = n := by
  unfold outO
  rw [List.length_map, ordL_len]
theorem outO_sorted (p : List Pk) (at_ : Nat → Int) (n : Nat) : (outO p at_ n).Pairwise (fun x y => x.a ≤ y.a) := by
  unfold outO
  rw [List.pairwise_map]
  refine (ordL_lex at_ n).imp fun {a b} h => ?_
  show at_ a ≤ at_ b
  unfold LexN at h
  omega
/-- Where the first of those that come later stands. -/
theorem cut_at {l : List Pk} {t : Int} {j : Nat} (hs : l.Pairwise (fun x y => x.a ≤ y.a)) (hj : j ≤ l.length) (hgt : ∀ m (h : m < l.length), j ≤ m → t < l[m].a) (hle : ∀ (h : j - 1 < l.length), 0 < j → l[j - 1].a ≤ t) :
    l.filter (fun x => decide (x.a ≤ t)) = l.take j ∧ l.filter (fun x => !decide (x.a ≤ t)) = l.drop j := by
  have h1 : ∀ x ∈ l.take j, x.a ≤ t := fun x hx => by
    obtain ⟨i, hi, rfl⟩ := List.mem_iff_getElem.1 hx
    rw [List.length_take] at hi
    rw [List.getElem_take]
    have h2 := hle (by omega) (by omega)
    rcases Nat.lt_or_ge i (j - 1) with h3 | h3
    · have := List.pairwise_iff_getElem.1 hs i (j - 1) (by omega) (by omega) h3
      omega
    · obtain rfl : i = j - 1 := by omega
      exact h2
  have h2 : ∀ x ∈ l.drop j, t < x.a := fun x hx => by
    obtain ⟨i, hi, rfl⟩ := List.mem_iff_getElem.1 hx
    rw [List.length_drop] at hi
    rw [List.getElem_drop]
    exact hgt _ (by omega) (by omega)
  have e := List.take_append_drop j l
  constructor
  · conv => lhs; rw [← e]
    rw [List.filter_append, List.filter_eq_self.2 (fun x hx => decide_eq_true (h1 x hx)), List.filter_eq_nil_iff.2 (fun x hx => by have := h2 x hx; simp; omega), List.append_nil]
  · conv => lhs; rw [← e]
    rw [List.filter_append, List.filter_eq_nil_iff.2 (fun x hx => by have := h1 x hx; simp; omega), List.filter_eq_self.2 (fun x hx => by have := h2 x hx; simp; omega), List.nil_append]
theorem outO_succ (p : List Pk) (at_ : Nat → Int) (n : Nat) {j : Nat} (hj : j ≤ (outO p at_ n).length) (hgt : ∀ m (h : m < (outO p at_ n).length), j ≤ m → at_ n < (outO p at_ n)[m].a) (hle : ∀ (h : j - 1 < (outO p at_ n).length), 0 < j → (outO p at_ n)[j - 1].a ≤ at_ n) :
    outO p at_ (n + 1) = (outO p at_ n).take j ++ pkO p at_ n :: (outO p at_ n).drop j := by
  obtain ⟨e1, e2⟩ := cut_at (outO_sorted p at_ n) hj hgt hle
  rw [← e1, ← e2]
  show ((insO at_ n (ordL at_ n)).map (pkO p at_)) = _
  unfold insO outO
  rw [List.map_append, List.map_cons, List.filter_map, List.filter_map]
  rfl
theorem outO_next {p : List Pk} {at_ : Nat → Int} {n : Nat} {out : List Pk} {j : Nat} (ho : out = outO p at_ n) (hj : j ≤ out.length) (hgt : ∀ m (h : m < out.length), j ≤ m → at_ n < out[m].a) (hle : ∀ (h : j - 1 < out.length), 0 < j → out[j - 1].a ≤ at_ n) :
    outO p at_ (n + 1) = out.take j ++ pkO p at_ n :: out.drop j := by
  subst ho
  exact outO_succ p at_ n hj hgt hle
end Go.Proofs.YthgpbdlmadjndaaGreatDoor
namespace Go.Proofs.YthgpbdlmadjndaaGreatDoor
structure LinJ (p : List Pk) (per : Int) (t : St (List Nat)) : Prop where
  idx : ∀ i (h : i < t.out.length), t.out[i].p = i
  rj : RankJ p (fun _ => 0) t
  eq : lindL per 0 0 p = t.out ++ lindL per t.now t.out.length (p.drop t.out.length)
theorem dn_idx {out : List Sn} (h : ∀ i (h : i < out.length), out[i].p = i) (j : Nat) : dnB out j = decide (j < out.length) := by
  by_cases hj : j < out.length
  · rw [decide_eq_true hj]; exact dnB_iff.2 ⟨out[j], List.getElem_mem hj, h j hj⟩
  · rw [decide_eq_false hj]
    refine dnB_not.2 fun y hy e => ?_
    obtain ⟨i, hi, rfl⟩ := List.getElem_of_mem hy
    have := h i hi
    omega
theorem lin_step {p : List Pk} {per : Int} (hp : ∀ x ∈ p, okPk x) (hs : p.Pairwise (fun x y => x.a ≤ y.a)) (h0 : 1 ≤ per) (t : St (List Nat)) (h : Inv (leastM fun _ => 0) p t) (hlt : t.out.length < p.length) (hj : LinJ p per t) : LinJ p per (stepS (leastM fun _ => 0) p per t) := by
  have hr := rank_step hp hs h0 t h hlt hj.rj
  have hd := dn_idx hj.idx
  have hdr := List.drop_eq_getElem_cons hlt
  have eq := hj.eq
  rw [hdr] at eq
  have ea := aOf_of hlt
  have es := sOf_of hlt
  by_cases hc : aOf p t.out.length ≤ t.now
  · have hb : BestAt p (fun _ => 0) t.now t.out p.length (t.out.length : Int) := .inr ⟨t.out.length, hlt, rfl, by rw [hd]; exact decide_eq_false (Nat.lt_irrefl _), hc, fun j _ hdj _ => ⟨Int.le_refl _, fun _ => by rw [hd] at hdj; have := of_decide_eq_false hdj; omega⟩⟩
    obtain ⟨k, n, s, e1, hk, _, e2⟩ := ref_some (per := per) hs h hj.rj hb (by omega)
    obtain rfl : k = t.out.length := by omega
    rw [e2] at hr ⊢
    refine ⟨fun i hi => ?_, hr, ?_⟩
    · simp only [List.length_append, List.length_cons, List.length_nil] at hi
      rcases Nat.lt_or_ge i t.out.length with h9 | h9
      · simp only; rw [List.getElem_append_left h9]; exact hj.idx i h9
      · obtain rfl : i = t.out.length := by omega
        simp only; rw [List.getElem_concat_length rfl]
    · simp only [List.length_append, List.length_cons, List.length_nil]
      rw [eq, List.append_assoc]
      congr 1
      simp only [lindL]
      rw [ea] at hc
      rw [if_neg (by omega), es]
      rfl
  · have hb : BestAt p (fun _ => 0) t.now t.out p.length (-1) := .inl ⟨rfl, fun j hjl hdj => by
      rw [hd] at hdj
      have := of_decide_eq_false hdj
      have := aOf_mono hs (show t.out.length ≤ j by omega) hjl
      omega⟩
    have hf : FirstAt t.out p.length (t.out.length : Int) := .inr ⟨t.out.length, hlt, rfl, by rw [hd]; exact decide_eq_false (Nat.lt_irrefl _), fun j hjl => by rw [hd]; exact decide_eq_true hjl⟩
    obtain ⟨f, n, s, e1, hfl, e2⟩ := ref_none (per := per) hs h hj.rj hlt hb hf (by omega)
    obtain rfl : f = t.out.length := by omega
    rw [e2] at hr ⊢
    refine ⟨hj.idx, hr, ?_⟩
    simp only
    rw [eq, hdr]
    rw [ea] at hc ⊢
    simp only [lindL]
    rw [if_pos (by omega), if_neg (Int.lt_irrefl _)]
theorem leastL_lind {p : List Pk} {per : Int} (hp : ∀ x ∈ p, okPk x) (hs : p.Pairwise (fun x y => x.a ≤ y.a)) (h0 : 1 ≤ per) (h1 : per ≤ 1000) : leastL p per (fun _ => 0) = lindL per 0 0 p := by
  have hi := least_start p (fun _ => 0)
  have hj := run_ind (leastOk _ _) hp h0 h1 (LinJ p per) (fun t a b c => lin_step hp hs h0 t a b c) (2 * p.length + 1) _ hi ⟨fun i h => absurd h (by simp), ⟨fun j hj => by simp at hj, fun i hi => by simp at hi⟩, rfl⟩
  have hl := (run_all (leastOk (fun _ => 0) _) hp h0 h1 (2 * p.length + 1) _ hi (mu_start p []) (Nat.zero_le _)).2
  have := hj.eq
  rw [hl, List.drop_eq_nil_of_le (Nat.le_refl _)] at this
  show (serveS (leastM fun _ => 0) p per []).out = _
  rw [this]
  simp [serveS, lindL]
/-- Keys that are the same at each packet: the same run. -/
theorem bestGo_congr {key key' : Nat → Int} (s r : List Nat) (h : ∀ k ∈ r, key k = key' k) (b i : Nat) (kb : Int) : bestGo key b kb i r = bestGo key' b kb i r := by
  induction r generalizing b i kb with
  | nil => rfl
  | cons k r ih =>
    have ih' := fun b i kb => ih (fun x hx => h x (List.mem_cons_of_mem _ hx)) b i kb
    unfold bestGo
    rw [h k List.mem_cons_self]
    split
    · exact ih' ..
    · exact ih' ..
end Go.Proofs.YthgpbdlmadjndaaGreatDoor
namespace Go.Proofs.YthgpbdlmadjndaaGreatDoor
/-- One is sent behind the other, from a tick on. -/
def chain (p : List Pk) (per : Int) : Int → List Sn → Prop
  | _, [] => True
  | now, x :: r => x.t = now + per * sOf p x.p.toNat ∧ chain p per x.t r
def endT (now : Int) : List Sn → Int
  | [] => now
  | x :: r => endT x.t r
def sumD (p : List Pk) (per : Int) (T : Nat → Bool) : List Sn → Int
  | [] => 0
  | x :: r => (if T x.p.toNat then per * sOf p x.p.toNat else 0) + sumD p per T r
section
variable {p : List Pk} {per : Int}
theorem chain_add {now : Int} {l : List Sn} {x : Sn} (h : chain p per now l) (hx : x.t = endT now l + per * sOf p x.p.toNat) : chain p per now (l ++ [x]) ∧ endT now (l ++ [x]) = x.t := by
  induction l generalizing now with
  | nil => exact ⟨⟨hx, trivial⟩, rfl⟩
  | cons y r ih =>
    obtain ⟨h1, h2⟩ := h
    obtain ⟨h3, h4⟩ := ih h2 hx
    exact ⟨⟨h1, h3⟩, h4⟩
theorem chain_split {now : Int} {l r : List Sn} (h : chain p per now (l ++ r)) : chain p per now l ∧ chain p per (endT now l) r := by
  induction l generalizing now with
  | nil => exact ⟨trivial, h⟩
  | cons y l ih =>
    obtain ⟨h1, h2⟩ := h
    obtain ⟨h3, h4⟩ := ih h2
    exact ⟨⟨h1, h3⟩, h4⟩
theorem chain_end {now : Int} {l : List Sn} (h : chain p per now l) : endT now l = now + sumD p per (fun _ => true) l := by
  induction l generalizing now with
  | nil => simp [endT, sumD]
  | cons y r ih =>
    obtain ⟨h1, h2⟩ := h
    unfold endT sumD
    rw [ih h2, h1]
    simp only [if_true]
    omega
theorem sumD_app (T : Nat → Bool) (l r : List Sn) : sumD p per T (l ++ r) = sumD p per T l + sumD p per T r := by
  induction l with
  | nil => simp [sumD]
  | cons y l ih => simp only [List.cons_append, sumD]; rw [ih]; omega
theorem sumD_perm (T : Nat → Bool) {l r : List Sn} (h : (l.map fun x => x.p.toNat).Perm (r.map fun x => x.p.toNat)) : sumD p per T l = sumD p per T r := by
  have key : ∀ l : List Sn, sumD p per T l = ((l.map fun x => x.p.toNat).map fun k => if T k then per * sOf p k else 0).foldr (· + ·) 0 := fun l => by
    induction l with
    | nil => rfl
    | cons y l ih => unfold sumD; rw [ih]; rfl
  rw [key, key]
  refine List.Perm.foldr_eq' (h.map _) ?_ 0
  intro a _ b _ z
  omega
theorem sumD_nonneg (h : ∀ k, 0 ≤ per * sOf p k) (T : Nat → Bool) (l : List Sn) : 0 ≤ sumD p per T l := by
  induction l with
  | nil => exact Int.le_refl _
  | cons y l ih => unfold sumD; have := h y.p.toNat; split <;> omega
theorem sumD_le (h : ∀ k, 0 ≤ per * sOf p k) (T : Nat → Bool) (l : List Sn) : sumD p per T l ≤ sumD p per (fun _ => true) l := by
  induction l with
  | nil => exact Int.le_refl _
  | cons y l ih => unfold sumD; have := h y.p.toNat; simp only [if_true]; split <;> omega
theorem sumD_all (T : Nat → Bool) (l : List Sn) (hT : ∀ x ∈ l, T x.p.toNat = true) : sumD p per T l = sumD p per (fun _ => true) l := by
  induction l with
  | nil => rfl
  | cons y l ih => unfold sumD; rw [hT y List.mem_cons_self, ih fun x hx => hT x (List.mem_cons_of_mem _ hx)]
theorem sumD_none (T : Nat → Bool) (l : List Sn) (hT : ∀ x ∈ l, T x.p.toNat = false) : sumD p per T l = 0 := by
  induction l with
  | nil => rfl
  | cons y l ih => unfold sumD; rw [hT y List.mem_cons_self, ih fun x hx => hT x (List.mem_cons_of_mem _ hx)]; simp
/-- The last one of a set is through no sooner than all of the set take. -/
theorem last_of (h : ∀ k, 0 ≤ per * sOf p k) (T : Nat → Bool) (l : List Sn) (now : Int) (hc : chain p per now l) (hT : ∃ x ∈ l, T x.p.toNat = true) : ∃ z ∈ l, T z.p.toNat = true ∧ now + sumD p per T l ≤ z.t := by
  induction l generalizing now with
  | nil => obtain ⟨x, hx, _⟩ := hT; cases hx
  | cons y r ih =>
    obtain ⟨h1, h2⟩ := hc
    by_cases hr : ∃ x ∈ r, T x.p.toNat = true
    · obtain ⟨z, hz, hTz, hle⟩ := ih y.t h2 hr
      refine ⟨z, List.mem_cons_of_mem _ hz, hTz, ?_⟩
      unfold sumD
      have := h y.p.toNat
      split <;> omega
    · have hy : T y.p.toNat = true := by
        obtain ⟨x, hx, hTx⟩ := hT
        rcases List.mem_cons.1 hx with rfl | hx
        · exact hTx
        · exact absurd ⟨x, hx, hTx⟩ hr
      refine ⟨y, List.mem_cons_self, hy, ?_⟩
      unfold sumD
      rw [hy, sumD_none T r fun x hx => by
        cases hx2 : T x.p.toNat with
        | false => rfl
        | true => exact absurd ⟨x, hx, hx2⟩ hr]
      simp only [if_true]
      omega
end
structure JackJ (p : List Pk) (per a0 : Int) (t : St (List Nat)) : Prop where
  e : t.out = [] → t.now ≤ a0
  c : t.out ≠ [] → chain p per a0 t.out ∧ t.now = endT a0 t.out ∧ a0 ≤ t.now
theorem jack_step {p : List Pk} {per a0 : Int} {key : Nat → Int} (hp : ∀ x ∈ p, okPk x) (hs : p.Pairwise (fun x y => x.a ≤ y.a)) (h0 : 1 ≤ per) (ha : ∀ j, j < p.length → aOf p j = a0) (t : St (List Nat)) (h : Inv (leastM key) p t) (hlt : t.out.length < p.length) (hrj : RankJ p key t) (hj : JackJ p per a0 t) : JackJ p per a0 (stepS (leastM key) p per t) := by
  obtain ⟨hc, hlt2⟩ := comeL_inv (leastOk key _) t.now (p.drop t.next) t.next t.s rfl h.toC
  have hall := comeL_all (leastOk key _) hs h hrj.came
  unfold stepS
  generalize comeL (leastM key) t.now (p.drop t.next) t.next t.s = q at hc hlt2 hall
  cases hpk : (leastM key).pick q.2 with
  | none =>
    have hid := hc.idle (leastOk key _) hpk
    have h1 := hlt2 (by omega)
    rw [ha _ (by omega)] at h1
    have hn : t.out = [] := by
      refine Classical.byContradiction fun h9 => ?_
      have := (hj.c h9).2.2
      omega
    refine ⟨fun _ => ?_, fun h9 => absurd hn h9⟩
    show aOf p q.1 ≤ a0
    rw [ha _ (by omega)]; exact Int.le_refl _
  | some ks =>
    obtain ⟨k, s'⟩ := ks
    have hk : k < q.1 := hc.pick_lt (leastOk key _) hpk
    have hkl : k < p.length := Nat.lt_of_lt_of_le hk hc.k_le
    have hok := hp _ (List.getElem_mem hkl)
    have m1 : 0 ≤ per * sOf p k := Int.mul_nonneg (by omega) (by rw [sOf_of hkl]; have := hok.2.2.1; omega)
    have h1 := (hall k hkl).1 hk
    rw [ha k hkl] at h1
    refine ⟨fun h9 => by simp at h9, fun _ => ?_⟩
    have hx : chain p per a0 t.out ∧ t.now = endT a0 t.out := by
      by_cases h9 : t.out = []
      · have := hj.e h9
        rw [h9]
        exact ⟨trivial, by show t.now = a0; omega⟩
      · exact ⟨(hj.c h9).1, (hj.c h9).2.1⟩
    obtain ⟨h2, h3⟩ := chain_add (x := ⟨k, t.now, t.now + per * sOf p k⟩) hx.1 (by simp only [Int.toNat_natCast]; rw [← hx.2])
    refine ⟨h2, h3.symm, ?_⟩
    simp only
    omega
theorem leastL_perm {p : List Pk} {per : Int} {key : Nat → Int} (hp : ∀ x ∈ p, okPk x) (h0 : 1 ≤ per) (h1 : per ≤ 1000) : ((leastL p per key).map fun x => x.p.toNat).Perm (List.range p.length) := by
  obtain ⟨hi, hl⟩ := run_all (leastOk key _) hp h0 h1 (2 * p.length + 1) _ (least_start p key) (mu_start p _) (Nat.zero_le _)
  have hc := hi.toC.cnt
  have hn := hi.next_le
  have hpm := hi.perm
  have hw : (leastM key).wait (serveS (leastM key) p per []).s = [] := List.eq_nil_of_length_eq_zero (by show ((leastM key).wait (runS (leastM key) p per (2 * p.length + 1) ⟨[], 0, 0, []⟩).s).length = 0; omega)
  have hx : (runS (leastM key) p per (2 * p.length + 1) ⟨[], 0, 0, []⟩).next = p.length := by omega
  rw [hx] at hpm
  unfold serveS at hw
  rw [hw, List.append_nil] at hpm
  exact hpm
theorem leastL_pos {p : List Pk} {per : Int} {key : Nat → Int} (hp : ∀ x ∈ p, okPk x) (h0 : 1 ≤ per) (h1 : per ≤ 1000) : ∀ x ∈ leastL p per key, 0 ≤ x.p :=
  (run_all (leastOk key _) hp h0 h1 (2 * p.length + 1) _ (least_start p key) (mu_start p _) (Nat.zero_le _)).1.pos
theorem jack_chain {p : List Pk} {per a0 : Int} {key : Nat → Int} (hp : ∀ x ∈ p, okPk x) (hs : p.Pairwise (fun x y => x.a ≤ y.a)) (h0 : 1 ≤ per) (h1 : per ≤ 1000) (ha : ∀ j, j < p.length → aOf p j = a0) (hz : 0 ≤ a0) : chain p per a0 (leastL p per key) := by
  have hj := run_ind (leastOk key _) hp h0 h1 (fun t => RankJ p key t ∧ JackJ p per a0 t) (fun t a b c => ⟨rank_step hp hs h0 t a b c.1, jack_step hp hs h0 ha t a b c.1 c.2⟩) (2 * p.length + 1) _ (least_start p key)
    ⟨⟨fun j hj => by simp at hj, fun i hi => by simp at hi⟩, fun _ => hz, fun h => absurd rfl h⟩
  by_cases h9 : leastL p per key = []
  · rw [h9]; trivial
  · exact (hj.2.c h9).1
/-- Nobody can be less late. -/
theorem jackson {p : List Pk} {per a0 : Int} {key : Nat → Int} (hp : ∀ x ∈ p, okPk x) (hs : p.Pairwise (fun x y => x.a ≤ y.a)) (h0 : 1 ≤ per) (h1 : per ≤ 1000) (ha : ∀ j, j < p.length → aOf p j = a0) (hz : 0 ≤ a0)
    (o : List Sn) (ho : chain p per a0 o) (hop : (o.map fun x => x.p.toNat).Perm (List.range p.length)) (x : Sn) (hx : x ∈ leastL p per key) : ∃ z ∈ o, x.t - key x.p.toNat ≤ z.t - key z.p.toNat := by
  have hl := leastL_ok (key := key) hp hs h0 h1
  have hpm := leastL_perm (key := key) hp h0 h1
  have hpos := leastL_pos (key := key) hp h0 h1
  have hc := jack_chain (key := key) hp hs h0 h1 ha hz
  have hd : ∀ k, 0 ≤ per * sOf p k := fun k => by
    refine Int.mul_nonneg (by omega) ?_
    by_cases hk : k < p.length
    · rw [sOf_of hk]; have := (hp _ (List.getElem_mem hk)).2.2.1; omega
    · unfold sOf
      simp [List.getD, hk]
  generalize leastL p per key = l at hx hl hpm hpos hc
  obtain ⟨i, hi, rfl⟩ := List.getElem_of_mem hx
  have hsp : l = l.take (i + 1) ++ l.drop (i + 1) := (List.take_append_drop _ _).symm
  have htk : l.take (i + 1) = l.take i ++ [l[i]] := by rw [List.take_succ_eq_append_getElem hi]
  have hc1 : chain p per a0 (l.take (i + 1)) := by rw [hsp] at hc; exact (chain_split hc).1
  have hend : l[i].t = a0 + sumD p per (fun _ => true) (l.take (i + 1)) := by
    rw [← chain_end hc1, htk]
    have : ∀ (now : Int) (l : List Sn) (x : Sn), endT now (l ++ [x]) = x.t := fun now l x => by
      induction l generalizing now with
      | nil => rfl
      | cons y r ih => exact ih y.t
    rw [this]
  let T : Nat → Bool := fun k => (l.take (i + 1)).any fun y => y.p.toNat == k
  have hT : ∀ k, T k = true ↔ ∃ y ∈ l.take (i + 1), y.p.toNat = k := fun k => by
    show (l.take (i + 1)).any (fun y => y.p.toNat == k) = true ↔ _
    rw [List.any_eq_true]
    exact ⟨fun ⟨y, h1, h2⟩ => ⟨y, h1, by simpa using h2⟩, fun ⟨y, h1, h2⟩ => ⟨y, h1, by simpa using h2⟩⟩
  have hge : sumD p per (fun _ => true) (l.take (i + 1)) ≤ sumD p per T o := by
    rw [sumD_perm T (hop.trans hpm.symm), ← sumD_all T (l.take (i + 1)) fun y hy => (hT _).2 ⟨y, hy, rfl⟩]
    have e1 : sumD p per T l = sumD p per T (l.take (i + 1)) + sumD p per T (l.drop (i + 1)) := by rw [← sumD_app, ← hsp]
    have := sumD_nonneg hd T (l.drop (i + 1))
    omega
  have hxl : l[i] ∈ l.take (i + 1) := by rw [htk]; exact List.mem_append_right _ (List.mem_singleton.2 rfl)
  have hin : ∃ z ∈ o, T z.p.toNat = true := by
    have : l[i].p.toNat ∈ o.map fun x => x.p.toNat := (hop.trans hpm.symm).mem_iff.2 (List.mem_map.2 ⟨l[i], hx, rfl⟩)
    obtain ⟨z, hz1, hz2⟩ := List.mem_map.1 this
    exact ⟨z, hz1, (hT _).2 ⟨l[i], hxl, hz2.symm⟩⟩
  obtain ⟨z, hz1, hz2, hz3⟩ := last_of hd T o a0 ho hin
  refine ⟨z, hz1, ?_⟩
  obtain ⟨y, hy, e⟩ := (hT _).1 hz2
  obtain ⟨j, hj, rfl⟩ := List.getElem_of_mem hy
  have hjl : j < l.length := by rw [List.length_take] at hj; omega
  have hji : j ≤ i := by rw [List.length_take] at hj; omega
  rw [List.getElem_take] at e
  have hyj := hl j hjl
  have hxi := hl i hi
  have hk : key l[j].p.toNat ≤ key l[i].p.toNat := by
    refine (hyj.least l[i].p.toNat hxi.lt (fun y hy e2 => ?_) ?_).1
    · refine hxi.fresh y ?_ (by have := hxi.pos; omega)
      obtain ⟨m, hm, rfl⟩ := List.getElem_of_mem hy
      rw [List.length_take] at hm
      rw [List.getElem_take]
      exact List.mem_take_iff_getElem.2 ⟨m, by omega, rfl⟩
    · rw [ha _ hxi.lt]
      have := hyj.came
      rw [ha _ hyj.lt] at this
      exact this
  rw [← e]
  omega
end Go.Proofs.YthgpbdlmadjndaaGreatDoor
namespace Go.Proofs.YthgpbdlmadjndaaGreatDoor
structure Oth (p : List Pk) (per a0 : Int) (ol i : Nat) (acc : List Sn) (now : Int) : Prop where
  ch : chain p per a0 acc
  nw : now = endT a0 acc
  nd : (acc.map fun x => x.p.toNat).Nodup
  ok : ∀ x ∈ acc, 0 ≤ x.p ∧ x.p.toNat < p.length
  all : ∀ j, j < p.length → ol + j < i → dnB acc j = true
  len : acc.length ≤ i
  n0 : 0 ≤ now
  n1 : now ≤ 1099511627776 + 1500000 * i
  top : ∀ x ∈ acc, 0 ≤ x.t ∧ x.t ≤ 1099511627776 + 1500000 * i
section
variable {p : List Pk} {per a0 : Int} {ol i : Nat} {acc : List Sn} {now : Int}
theorem oth_start (h0 : 0 ≤ a0) (h1 : a0 ≤ 1099511627776) : Oth p per a0 ol 0 [] a0 :=
  ⟨trivial, rfl, List.nodup_nil, by simp, fun j _ h => absurd h (Nat.not_lt_zero _), Nat.le_refl _, h0, by simpa using h1, by simp⟩
theorem Oth.skip (h : Oth p per a0 ol i acc now) (hs : ∀ j, i = ol + j → dnB acc j = true) : Oth p per a0 ol (i + 1) acc now :=
  ⟨h.ch, h.nw, h.nd, h.ok, fun j hj hi => by
    rcases Nat.lt_succ_iff_lt_or_eq.1 hi with h9 | h9
    · exact h.all j hj h9
    · exact hs j h9.symm, Nat.le_succ_of_le h.len, h.n0, by have := h.n1; omega, fun x hx => by have := h.top x hx; omega⟩
theorem Oth.take_ (h : Oth p per a0 ol i acc now) (hp : ∀ x ∈ p, okPk x) (h0 : 1 ≤ per) (h1 : per ≤ 1000) {k : Nat} (hk : k < p.length) (hd : dnB acc k = false) (hs : ∀ j, i = ol + j → j = k) :
    Oth p per a0 ol (i + 1) (acc ++ [⟨k, now, now + per * p[k].s⟩]) (now + per * p[k].s) := by
  have hok := hp _ (List.getElem_mem hk)
  have m1 : 0 ≤ per * p[k].s := Int.mul_nonneg (by omega) (by have := hok.2.2.1; omega)
  have m2 : per * p[k].s ≤ 1500000 := by
    have := Int.mul_le_mul h1 hok.2.2.2.1 (by have := hok.2.2.1; omega) (by omega : (0:Int) ≤ 1000)
    omega
  have q0 := h.n0
  have q1 := h.n1
  obtain ⟨c1, c2⟩ := chain_add (x := ⟨k, now, now + per * p[k].s⟩) h.ch (by simp only [Int.toNat_natCast]; rw [sOf_of hk, ← h.nw])
  refine ⟨c1, c2.symm, ?_, fun x hx => ?_, fun j hj hi => ?_, ?_, by omega, by omega, fun x hx => ?_⟩
  · rw [List.map_append, List.nodup_append]
    refine ⟨h.nd, by simp, fun a ha b hb e => ?_⟩
    obtain ⟨y, hy, rfl⟩ := List.mem_map.1 ha
    simp at hb
    have := (h.ok y hy).1
    exact dnB_not.1 hd y hy (by omega)
  · rcases List.mem_append.1 hx with hx | hx
    · exact h.ok x hx
    · rw [List.mem_singleton.1 hx]; simp; exact hk
  · rw [dnB_add]
    rcases Nat.lt_succ_iff_lt_or_eq.1 hi with h9 | h9
    · rw [h.all j hj h9]; rfl
    · have := hs j h9.symm
      subst this
      simp
  · simp; have := h.len; omega
  · rcases List.mem_append.1 hx with hx | hx
    · have := h.top x hx; omega
    · rw [List.mem_singleton.1 hx]; simp only; omega
theorem Oth.perm (h : Oth p per a0 ol (ol + p.length) acc now) : (acc.map fun x => x.p.toNat).Perm (List.range p.length) := by
  refine (List.perm_ext_iff_of_nodup h.nd List.nodup_range).2 fun j => ?_
  rw [List.mem_range]
  refine ⟨fun hj => ?_, fun hj => ?_⟩
  · obtain ⟨x, hx, rfl⟩ := List.mem_map.1 hj
    exact (h.ok x hx).2
  · obtain ⟨y, hy, e⟩ := dnB_iff.1 (h.all j hj (by omega))
    exact List.mem_map.2 ⟨y, hy, by omega⟩
end
theorem sentBad_none {n : Nat} {l : List Sn} (h : ∀ x ∈ l, 0 ≤ x.p ∧ x.p.toNat < n) (k : Nat) : sentBad n l k = -1 := by
  induction l generalizing k with
  | nil => rfl
  | cons x r ih =>
    unfold sentBad
    have := h x List.mem_cons_self
    rw [if_pos (by omega)]
    exact ih (fun y hy => h y (List.mem_cons_of_mem _ hy)) _
theorem lateGo_ge (p : List Pk) (dues : List Int) (l : List Sn) (n : Int) : n ≤ lateGo p dues n l ∧ ∀ x ∈ l, lateY p dues x ≤ lateGo p dues n l := by
  induction l generalizing n with
  | nil => exact ⟨Int.le_refl _, by simp⟩
  | cons x r ih =>
    obtain ⟨h1, h2⟩ := ih (if n < lateY p dues x then lateY p dues x else n)
    have h3 : n ≤ (if n < lateY p dues x then lateY p dues x else n) := by split <;> omega
    have h4 : lateY p dues x ≤ (if n < lateY p dues x then lateY p dues x else n) := by split <;> omega
    refine ⟨Int.le_trans h3 h1, fun y hy => ?_⟩
    rcases List.mem_cons.1 hy with rfl | hy
    · exact Int.le_trans h4 h1
    · exact h2 y hy
theorem lateGo_or (p : List Pk) (dues : List Int) (l : List Sn) (n : Int) : lateGo p dues n l = n ∨ ∃ x ∈ l, lateGo p dues n l = lateY p dues x := by
  induction l generalizing n with
  | nil => exact .inl rfl
  | cons x r ih =>
    rcases ih (if n < lateY p dues x then lateY p dues x else n) with h | ⟨y, hy, h⟩
    · by_cases hc : n < lateY p dues x
      · rw [if_pos hc] at h
        exact .inr ⟨x, List.mem_cons_self, by show lateGo p dues (if n < lateY p dues x then lateY p dues x else n) r = _; rw [if_pos hc]; exact h⟩
      · rw [if_neg hc] at h
        exact .inl (by show lateGo p dues (if n < lateY p dues x then lateY p dues x else n) r = _; rw [if_neg hc]; exact h)
    · exact .inr ⟨y, List.mem_cons_of_mem _ hy, h⟩
theorem lateY_key (p : List Pk) (dues : List Int) (x : Sn) : lateY p dues x = x.t - dueKey p dues x.p.toNat := by
  unfold lateY dueKey
  omega
theorem dues_le {p : List Pk} {per a0 : Int} {dues : List Int} (hp : ∀ x ∈ p, okPk x) (hs : p.Pairwise (fun x y => x.a ≤ y.a)) (h0 : 1 ≤ per) (h1 : per ≤ 1000) (ha : ∀ j, j < p.length → aOf p j = a0) (hz : 0 ≤ a0) {ol : Nat} {acc : List Sn} {now : Int} (h : Oth p per a0 ol (ol + p.length) acc now) :
    lateGo p dues 0 (leastL p per (dueKey p dues)) ≤ lateGo p dues 0 acc := by
  rcases lateGo_or p dues (leastL p per (dueKey p dues)) 0 with e | ⟨x, hx, e⟩
  · rw [e]; exact (lateGo_ge p dues acc 0).1
  · rw [e]
    obtain ⟨z, hz1, hz2⟩ := jackson (key := dueKey p dues) hp hs h0 h1 ha hz acc h.ch h.perm x hx
    rw [← lateY_key, ← lateY_key] at hz2
    exact Int.le_trans hz2 ((lateGo_ge p dues acc 0).2 z hz1)
theorem srv_top {σ : Type} {M : Pol σ} {p : List Pk} {per : Int} {s0 : σ} (hM : PolOk M p.length) (hp : ∀ x ∈ p, okPk x) (h0 : 1 ≤ per) (h1 : per ≤ 1000) (hw : M.wait s0 = []) (ho : M.ok 0 s0) :
    (∀ x ∈ (serveS M p per s0).out, 0 ≤ x.f ∧ x.f ≤ x.t ∧ x.t ≤ 1099511627776 + 1500000 * p.length) ∧ (∀ x ∈ (serveS M p per s0).out, 0 ≤ x.p ∧ x.p.toNat < p.length) := by
  have hi := inv_start p hw ho
  have hJ := run_ind hM hp h0 h1 (fun t => ∀ x ∈ t.out, (0 ≤ x.f ∧ x.f ≤ x.t ∧ x.t ≤ t.now) ∧ 0 ≤ x.p ∧ x.p.toNat < p.length) (fun t hInv hlt hj => by
    obtain ⟨hc, hlt2⟩ := comeL_inv hM t.now (p.drop t.next) t.next t.s rfl hInv.toC
    have hn0 := hInv.now0
    unfold stepS
    generalize comeL M t.now (p.drop t.next) t.next t.s = q at hc hlt2
    cases hpk : M.pick q.2 with
    | none =>
      have hid := hc.idle hM hpk
      have h9 := hlt2 (by omega)
      intro x hx
      have := hj x hx
      simp only at hx ⊢
      omega
    | some ks =>
      obtain ⟨k, s'⟩ := ks
      have hk : k < q.1 := hc.pick_lt hM hpk
      have hkl : k < p.length := Nat.lt_of_lt_of_le hk hc.k_le
      have hok := hp _ (List.getElem_mem hkl)
      have m1 : 0 ≤ per * sOf p k := Int.mul_nonneg (by omega) (by rw [sOf_of hkl]; have := hok.2.2.1; omega)
      intro x hx
      simp only at hx ⊢
      rcases List.mem_append.1 hx with hx | hx
      · have := hj x hx; omega
      · rw [List.mem_singleton.1 hx]; simp only [Int.toNat_natCast]; omega) (2 * p.length + 1) _ hi (by simp)
  obtain ⟨hI, hl⟩ := run_all hM hp h0 h1 (2 * p.length + 1) _ hi (mu_start p s0) (Nat.zero_le _)
  have hn := hI.now1
  rw [hl] at hn
  refine ⟨fun x hx => ?_, fun x hx => (hJ x hx).2⟩
  have := (hJ x hx).1
  omega
end Go.Proofs.YthgpbdlmadjndaaGreatDoor
namespace Go.Proofs.YthgpbdlmadjndaaGreatDoor
theorem asc_ext {l l' : List Nat} (h : l.Pairwise (· < ·)) (h' : l'.Pairwise (· < ·)) (hm : ∀ j, j ∈ l ↔ j ∈ l') : l = l' := by
  induction l generalizing l' with
  | nil =>
    cases l' with
    | nil => rfl
    | cons y r => exact absurd ((hm y).2 List.mem_cons_self) (by simp)
  | cons x r ih =>
    cases l' with
    | nil => exact absurd ((hm x).1 List.mem_cons_self) (by simp)
    | cons y r' =>
      obtain ⟨h1, h2⟩ := List.pairwise_cons.1 h
      obtain ⟨h3, h4⟩ := List.pairwise_cons.1 h'
      have hxy : x = y := by
        rcases List.mem_cons.1 ((hm x).1 List.mem_cons_self) with e | e
        · exact e
        · rcases List.mem_cons.1 ((hm y).2 List.mem_cons_self) with e' | e'
          · exact e'.symm
          · have := h1 y e'; have := h3 x e; omega
      subst hxy
      congr 1
      refine ih h2 h4 fun j => ⟨fun hj => ?_, fun hj => ?_⟩
      · rcases List.mem_cons.1 ((hm j).1 (List.mem_cons_of_mem _ hj)) with e | e
        · have := h1 j hj; omega
        · exact e
      · rcases List.mem_cons.1 ((hm j).2 (List.mem_cons_of_mem _ hj)) with e | e
        · have := h3 j hj; omega
        · exact e
def waitB (p : List Pk) (d : Nat → Bool) (g : Nat) (now : Int) (j : Nat) : Bool := decide (flN p j = g) && (!d j && decide (aOf p j ≤ now))
def waitL (p : List Pk) (d : Nat → Bool) (g : Nat) (now : Int) : List Nat := (List.range p.length).filter (waitB p d g now)
theorem waitL_mem {p : List Pk} {d : Nat → Bool} {g : Nat} {now : Int} {j : Nat} : j ∈ waitL p d g now ↔ j < p.length ∧ flN p j = g ∧ d j = false ∧ aOf p j ≤ now := by
  unfold waitL waitB
  rw [List.mem_filter, List.mem_range]
  simp
theorem waitL_asc (p : List Pk) (d : Nat → Bool) (g : Nat) (now : Int) : (waitL p d g now).Pairwise (· < ·) := List.Pairwise.filter _ List.pairwise_lt_range
theorem mem_rWait {s : RS} {j : Nat} : j ∈ rWait s ↔ ∃ g, g < 8 ∧ j ∈ s.q g := by
  unfold rWait
  rw [List.mem_flatMap]
  exact ⟨fun ⟨g, h1, h2⟩ => ⟨g, List.mem_range.1 h1, h2⟩, fun ⟨g, h1, h2⟩ => ⟨g, List.mem_range.2 h1, h2⟩⟩
section
variable {p : List Pk} {qs : List Int} {m : Nat} {s : RS} {d : Nat → Bool} {now : Int}
theorem wait_q (h : RI p qs m s) (hw : ∀ j, j < p.length → (j ∈ rWait s ↔ (d j = false ∧ aOf p j ≤ now))) {g : Nat} (hg : g < 8) : waitL p d g now = s.q g := by
  refine asc_ext (waitL_asc _ _ _ _) (h.so g) fun j => ?_
  rw [waitL_mem]
  refine ⟨fun ⟨h1, h2, h3, h4⟩ => ?_, fun hj => ?_⟩
  · obtain ⟨g', _, h5⟩ := mem_rWait.1 ((hw j h1).2 ⟨h3, h4⟩)
    have := (h.fl g' j h5).2
    rw [← h2, this]
    exact h5
  · obtain ⟨h1, h2⟩ := h.fl g j hj
    have hl : j < p.length := by have := h.le; omega
    exact ⟨hl, h2, (hw j hl).1 (mem_rWait.2 ⟨g, hg, hj⟩)⟩
theorem wait_tail (h : RI p qs m s) (hw : ∀ j, j < p.length → (j ∈ rWait s ↔ (d j = false ∧ aOf p j ≤ now))) {g k : Nat} {r : List Nat} (hg : g < 8) (hk : s.q g = k :: r) {d' : Nat → Bool} (hd : ∀ j, d' j = (d j || (k == j))) : waitL p d' g now = r := by
  have hso := h.so g
  rw [hk] at hso
  obtain ⟨h1, h2⟩ := List.pairwise_cons.1 hso
  refine asc_ext (waitL_asc _ _ _ _) h2 fun j => ?_
  have hq := wait_q h hw hg
  have hm : j ∈ k :: r ↔ j ∈ waitL p d g now := by rw [hq, hk]
  rw [waitL_mem] at hm ⊢
  rw [hd, Bool.or_eq_false_iff, beq_eq_false_iff_ne]
  refine ⟨fun ⟨a1, a2, ⟨a3, a5⟩, a4⟩ => ?_, fun hj => ?_⟩
  · rcases List.mem_cons.1 (hm.2 ⟨a1, a2, a3, a4⟩) with e | e
    · exact absurd e.symm a5
    · exact e
  · obtain ⟨a1, a2, a3, a4⟩ := hm.1 (List.mem_cons_of_mem _ hj)
    have := h1 j hj
    exact ⟨a1, a2, ⟨a3, by omega⟩, a4⟩
end
section
variable {p : List Pk} {qs : List Int} {m g : Nat} {s s1 : RS}
theorem fail_mu (hp : ∀ x ∈ p, okPk x) (hq : ∀ g, 0 ≤ qu qs g) (hq1 : ∀ g, g < 8 → 1 ≤ qu qs g) (h : RI p qs m s) (ht : rTurn qs s = some (g, s1)) (hc : ¬ sOf p (rHead s1 g) ≤ s1.c g) : RI p qs m (rEnd s1 g) ∧ rMu (rEnd s1 g) < rMu s := by
  obtain ⟨h1, h2, h3, h4, h5, h6⟩ := h.turn hq ht
  have h5' : s1.q g ≠ [] := by rw [h3]; exact h5
  have hg := h1.g8 hp h5'
  have hh := (h1.head h5').1
  have hk' : rHead s1 g < p.length := by have := h1.le; omega
  have hz := (hp _ (List.getElem_mem hk')).2.2.2.1
  have hc2 := hc
  rw [sOf_of hk'] at hc2
  exact ⟨(h1.end_ h2 hc).1, mu_turn (hq1 g hg) hg ht h2 (by omega) h6⟩
theorem rPick_more (hp : ∀ x ∈ p, okPk x) (hq : ∀ g, 0 ≤ qu qs g) (hq1 : ∀ g, g < 8 → 1 ≤ qu qs g) (f : Nat) (s : RS) (h : RI p qs m s) (hf : rMu s ≤ f) : rPick p qs (f + 1) s = rPick p qs f s := by
  induction f generalizing s with
  | zero => unfold rMu at hf; omega
  | succ f ih =>
    rw [rPick, rPick]
    cases ht : rTurn qs s with
    | none => rfl
    | some x =>
      obtain ⟨g, s1⟩ := x
      simp only
      by_cases hc : sOf p (rHead s1 g) ≤ s1.c g
      · rw [if_pos hc, if_pos hc]
      · rw [if_neg hc, if_neg hc]
        obtain ⟨a1, a2⟩ := fail_mu hp hq hq1 h ht hc
        exact ih _ a1 (by omega)
theorem rPick_fuel (hp : ∀ x ∈ p, okPk x) (hq : ∀ g, 0 ≤ qu qs g) (hq1 : ∀ g, g < 8 → 1 ≤ qu qs g) (h : RI p qs m s) (f : Nat) (hf : rMu s ≤ f) : rPick p qs f s = rPick p qs (rMu s) s := by
  obtain ⟨n, rfl⟩ : ∃ n, f = rMu s + n := ⟨f - rMu s, by omega⟩
  clear hf
  induction n with
  | zero => rfl
  | succ n ih => rw [← Nat.add_assoc, rPick_more hp hq hq1 _ s h (by omega)]; exact ih
theorem rMu_succ (s : RS) : ∃ n, rMu s = n + 1 := ⟨_, rfl⟩
theorem rPick_idle (ht : rTurn qs s = none) : rPick p qs (rMu s) s = none := by
  obtain ⟨n, e⟩ := rMu_succ s
  rw [e, rPick, ht]
theorem rPick_fit (ht : rTurn qs s = some (g, s1)) (hc : sOf p (rHead s1 g) ≤ s1.c g) : rPick p qs (rMu s) s = some (rHead s1 g, rSend p s1 g) := by
  obtain ⟨n, e⟩ := rMu_succ s
  rw [e, rPick, ht]
  exact if_pos hc
theorem rPick_end (hp : ∀ x ∈ p, okPk x) (hq : ∀ g, 0 ≤ qu qs g) (hq1 : ∀ g, g < 8 → 1 ≤ qu qs g) (h : RI p qs m s) (ht : rTurn qs s = some (g, s1)) (hc : ¬ sOf p (rHead s1 g) ≤ s1.c g) : rPick p qs (rMu s) s = rPick p qs (rMu (rEnd s1 g)) (rEnd s1 g) := by
  obtain ⟨n, e⟩ := rMu_succ s
  obtain ⟨a1, a2⟩ := fail_mu hp hq hq1 h ht hc
  have e2 : rPick p qs (n + 1) s = rPick p qs n (rEnd s1 g) := by rw [rPick, ht]; exact if_neg hc
  rw [e, e2]
  exact rPick_fuel hp hq hq1 a1 n (by omega)
end
structure ROut (p : List Pk) (per : Int) (qs : List Int) (f : Nat) (t : St RS) : Prop where
  run : serveS (roundM p qs) p per rs0 = runS (roundM p qs) p per f t
  fuel : mu p t ≤ f
  inv : Inv (roundM p qs) p t
  cm : ∀ j, j < t.next → aOf p j ≤ t.now
section
variable {p : List Pk} {per : Int} {qs : List Int} {f k g : Nat} {t : St RS} {s s1 : RS}
theorem ROut.step (hp : ∀ x ∈ p, okPk x) (hs : p.Pairwise (fun x y => x.a ≤ y.a)) (h0 : 1 ≤ per) (h1 : per ≤ 1000) (hq : ∀ g, 0 ≤ qu qs g) (hq1 : ∀ g, g < 8 → 1 ≤ qu qs g) (h : ROut p per qs f t) (hlt : t.out.length < p.length) : ROut p per qs (f - 1) (stepS (roundM p qs) p per t) ∧ mu p (stepS (roundM p qs) p per t) < mu p t := by
  have hM := roundOk hp hq hq1
  obtain ⟨a1, a2⟩ := step_inv hM hp h0 h1 h.inv hlt
  have hf := h.fuel
  exact ⟨⟨h.run.trans (runS_step _ _ _ _ _ hlt h.fuel), by omega, a1, gcame_step hM hp hs h0 h.inv hlt h.cm⟩, a2⟩
/-- A turn that fails is no step. -/
theorem ROut.fail (hp : ∀ x ∈ p, okPk x) (hs : p.Pairwise (fun x y => x.a ≤ y.a)) (hq : ∀ g, 0 ≤ qu qs g) (hq1 : ∀ g, g < 8 → 1 ≤ qu qs g) (h : ROut p per qs f t) (hlt : t.out.length < p.length) (hc : comeL (roundM p qs) t.now (p.drop t.next) t.next t.s = (k, s)) (ht : rTurn qs s = some (g, s1)) (hn : ¬ sOf p (rHead s1 g) ≤ s1.c g) : ROut p per qs f ⟨t.out, t.now, k, rEnd s1 g⟩ := by
  have hM := roundOk hp hq hq1
  obtain ⟨hci, hlt2⟩ := comeL_inv hM t.now (p.drop t.next) t.next t.s rfl h.inv.toC
  have hall := comeL_all hM hs h.inv h.cm
  rw [hc] at hci hlt2 hall
  simp only at hci hlt2 hall
  have hri : RI p qs k s := hci.ok
  obtain ⟨b1, b2⟩ := fail_mu hp hq hq1 hri ht hn
  obtain ⟨_, _, hqq, _, hne, _⟩ := hri.turn hq ht
  have hrw : rWait (rEnd s1 g) = rWait s := by unfold rWait rEnd; rw [← hqq]
  have hpe : (roundM p qs).pick s = (roundM p qs).pick (rEnd s1 g) := rPick_end hp hq hq1 hri ht hn
  have hinv : Inv (roundM p qs) p ⟨t.out, t.now, k, rEnd s1 g⟩ := ⟨hci.k_le, by show ((t.out.map fun x => x.p.toNat) ++ rWait (rEnd s1 g)).Perm (List.range k); rw [hrw]; exact hci.perm, h.inv.pos, h.inv.now0, h.inv.now1, b1⟩
  have hc' : comeL (roundM p qs) t.now (p.drop k) k (rEnd s1 g) = (k, rEnd s1 g) := comeL_out _ p t.now k _ hlt2
  have hst : stepS (roundM p qs) p per t = stepS (roundM p qs) p per ⟨t.out, t.now, k, rEnd s1 g⟩ := by
    cases hpk : (roundM p qs).pick s with
    | none =>
      have := rPick_none hp hq hq1 (rMu s) s k hri (Nat.le_refl _) hpk
      have hl : lst s ≠ [] := fun e => by
        have := (hri.mem g).2 hne
        rw [e] at this
        cases this
      exact absurd this hl
    | some x =>
      obtain ⟨j, s'⟩ := x
      have e1 := step_some (M := roundM p qs) (p := p) (per := per) (t := t) hc hpk
      have e2 := step_some (M := roundM p qs) (p := p) (per := per) (t := ⟨t.out, t.now, k, rEnd s1 g⟩) hc' (by rw [← hpe]; exact hpk)
      rw [e1, e2]
  have hfu := h.fuel
  have hmu : mu p (⟨t.out, t.now, k, rEnd s1 g⟩ : St RS) = mu p t := rfl
  refine ⟨?_, hfu, hinv, fun j hj => ?_⟩
  · rw [h.run, runS_step _ _ _ _ t hlt hfu, hst]
    exact (runS_step _ _ _ _ (⟨t.out, t.now, k, rEnd s1 g⟩ : St RS) hlt hfu).symm
  · exact (hall j (Nat.lt_of_lt_of_le hj hci.k_le)).1 hj
theorem ROut.wait (hp : ∀ x ∈ p, okPk x) (hs : p.Pairwise (fun x y => x.a ≤ y.a)) (hq : ∀ g, 0 ≤ qu qs g) (hq1 : ∀ g, g < 8 → 1 ≤ qu qs g) (h : ROut p per qs f t) (hc : comeL (roundM p qs) t.now (p.drop t.next) t.next t.s = (k, s)) : ∀ j, j < p.length → (j ∈ rWait s ↔ (dnB t.out j = false ∧ aOf p j ≤ t.now)) := fun j hj => by
  have := gwait_iff (roundOk hp hq hq1) hs h.inv h.cm j hj
  rw [hc] at this
  exact this
/-- None waits: all that came were sent; the next one was not. -/
theorem ROut.idle (hp : ∀ x ∈ p, okPk x) (hq : ∀ g, 0 ≤ qu qs g) (hq1 : ∀ g, g < 8 → 1 ≤ qu qs g) (h : ROut p per qs f t) (hlt : t.out.length < p.length) (hc : comeL (roundM p qs) t.now (p.drop t.next) t.next t.s = (k, s)) (ht : rTurn qs s = none) : k < p.length ∧ dnB t.out k = false ∧ (∀ j, j < k → dnB t.out j = true) ∧ stepS (roundM p qs) p per t = ⟨t.out, aOf p k, k, s⟩ := by
  have hM := roundOk hp hq hq1
  have hpk : (roundM p qs).pick s = none := rPick_idle ht
  obtain ⟨hci, _⟩ := comeL_inv hM t.now (p.drop t.next) t.next t.s rfl h.inv.toC
  rw [hc] at hci
  simp only at hci
  have hid := hci.idle hM hpk
  have hw := hM.w_none _ _ hci.ok hpk
  have hm : ∀ j, j ∈ (t.out.map fun x => x.p.toNat) ↔ j < k := fun j => by
    have := (hci.perm.mem_iff (a := j)).trans List.mem_range
    rw [hw, List.append_nil] at this
    exact this
  refine ⟨by omega, dnB_not.2 fun y hy e => ?_, fun j hj => ?_, step_none hc hpk⟩
  · have := (hm k).1 (List.mem_map.2 ⟨y, hy, by omega⟩)
    omega
  · obtain ⟨y, hy, e⟩ := List.mem_map.1 ((hm j).2 hj)
    have := h.inv.pos y hy
    exact dnB_iff.2 ⟨y, hy, by omega⟩
end
theorem rMu_le {p : List Pk} {qs : List Int} {m : Nat} {s : RS} (h : RI p qs m s) : rMu s ≤ 24002 := by
  have h1 : ∀ g, lack s g ≤ 1500 := fun g => by unfold lack; have := h.pos g; omega
  have h2 : sum8 (lack s) ≤ 12000 := by
    have e : ∀ f : Nat → Nat, sum8 f = f 0 + (f 1 + (f 2 + (f 3 + (f 4 + (f 5 + (f 6 + (f 7 + 0))))))) := fun f => rfl
    rw [e]
    have := h1 0; have := h1 1; have := h1 2; have := h1 3; have := h1 4; have := h1 5; have := h1 6; have := h1 7
    omega
  unfold rMu
  split <;> omega
end Go.Proofs.YthgpbdlmadjndaaGreatDoor
