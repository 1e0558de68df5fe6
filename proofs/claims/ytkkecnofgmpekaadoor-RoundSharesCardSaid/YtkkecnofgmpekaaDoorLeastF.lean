/- A link by keys that are all the same is a link in order, plainly. No program. No condition. -/
import Derived.Test.YtkkecnofgmpekaaDoorLeastP
namespace Go.Proofs.YtkkecnofgmpekaaDoor
structure LinJ (p : List Pk) (per : Int) (t : St (List Nat)) : Prop where
  idx : ∀ i (h : i < t.out.length), t.out[i].p = i
  rj : RankJ p (fun _ => 0) t
  eq : lindL per 0 0 p = t.out ++ lindL per t.now t.out.length (p.drop t.out.length)
theorem dn_idx {out : List Sn} (h : ∀ i (h : i < out.length), out[i].p = i) (j : Nat) : dnB out j = decide (j < out.length) := by
  by_cases hj : j < out.length
  · rw [decide_eq_true hj]; exact dnB_iff.2 ⟨out[j], List.getElem_mem hj, h j hj⟩
  · rw [decide_eq_false hj]
    refine dnB_not.2 fun y hy e => ?_
    obtain ⟨i, hi, rfl⟩ := List.getElem_of_mem hy
    have := h i hi
    omega
theorem lin_step {p : List Pk} {per : Int} (hp : ∀ x ∈ p, okPk x) (hs : p.Pairwise (fun x y => x.a ≤ y.a)) (h0 : 1 ≤ per) (t : St (List Nat)) (h : Inv (leastM fun _ => 0) p t) (hlt : t.out.length < p.length) (hj : LinJ p per t) : LinJ p per (stepS (leastM fun _ => 0) p per t) := by
  have hr := rank_step hp hs h0 t h hlt hj.rj
  have hd := dn_idx hj.idx
  have hdr := List.drop_eq_getElem_cons hlt
  have eq := hj.eq
  rw [hdr] at eq
  have ea := aOf_of hlt
  have es := sOf_of hlt
  by_cases hc : aOf p t.out.length ≤ t.now
  · have hb : BestAt p (fun _ => 0) t.now t.out p.length (t.out.length : Int) := .inr ⟨t.out.length, hlt, rfl, by rw [hd]; exact decide_eq_false (Nat.lt_irrefl _), hc, fun j _ hdj _ => ⟨Int.le_refl _, fun _ => by rw [hd] at hdj; have := of_decide_eq_false hdj; omega⟩⟩
    obtain ⟨k, n, s, e1, hk, _, e2⟩ := ref_some (per := per) hs h hj.rj hb (by omega)
    obtain rfl : k = t.out.length := by omega
    rw [e2] at hr ⊢
    refine ⟨fun i hi => ?_, hr, ?_⟩
    · simp only [List.length_append, List.length_cons, List.length_nil] at hi
      rcases Nat.lt_or_ge i t.out.length with h9 | h9
      · simp only; rw [List.getElem_append_left h9]; exact hj.idx i h9
      · obtain rfl : i = t.out.length := by omega
        simp only; rw [List.getElem_concat_length rfl]
    · simp only [List.length_append, List.length_cons, List.length_nil]
      rw [eq, List.append_assoc]
      congr 1
      simp only [lindL]
      rw [ea] at hc
      rw [if_neg (by omega), es]
      rfl
  · have hb : BestAt p (fun _ => 0) t.now t.out p.length (-1) := .inl ⟨rfl, fun j hjl hdj => by
      rw [hd] at hdj
      have := of_decide_eq_false hdj
      have := aOf_mono hs (show t.out.length ≤ j by omega) hjl
      omega⟩
    have hf : FirstAt t.out p.length (t.out.length : Int) := .inr ⟨t.out.length, hlt, rfl, by rw [hd]; exact decide_eq_false (Nat.lt_irrefl _), fun j hjl => by rw [hd]; exact decide_eq_true hjl⟩
    obtain ⟨f, n, s, e1, hfl, e2⟩ := ref_none (per := per) hs h hj.rj hlt hb hf (by omega)
    obtain rfl : f = t.out.length := by omega
    rw [e2] at hr ⊢
    refine ⟨hj.idx, hr, ?_⟩
    simp only
    rw [eq, hdr]
    rw [ea] at hc ⊢
    simp only [lindL]
    rw [if_pos (by omega), if_neg (Int.lt_irrefl _)]
theorem leastL_lind {p : List Pk} {per : Int} (hp : ∀ x ∈ p, okPk x) (hs : p.Pairwise (fun x y => x.a ≤ y.a)) (h0 : 1 ≤ per) (h1 : per ≤ 1000) : leastL p per (fun _ => 0) = lindL per 0 0 p := by
  have hi := least_start p (fun _ => 0)
  have hj := run_ind (leastOk _ _) hp h0 h1 (LinJ p per) (fun t a b c => lin_step hp hs h0 t a b c) (2 * p.length + 1) _ hi ⟨fun i h => absurd h (by simp), ⟨fun j hj => by simp at hj, fun i hi => by simp at hi⟩, rfl⟩
  have hl := (run_all (leastOk (fun _ => 0) _) hp h0 h1 (2 * p.length + 1) _ hi (mu_start p []) (Nat.zero_le _)).2
  have := hj.eq
  rw [hl, List.drop_eq_nil_of_le (Nat.le_refl _)] at this
  show (serveS (leastM fun _ => 0) p per []).out = _
  rw [this]
  simp [serveS, lindL]
/-- Keys that are the same at each packet: the same run. -/
theorem bestGo_congr {key key' : Nat → Int} (s r : List Nat) (h : ∀ k ∈ r, key k = key' k) (b i : Nat) (kb : Int) : bestGo key b kb i r = bestGo key' b kb i r := by
  induction r generalizing b i kb with
  | nil => rfl
  | cons k r ih =>
    have ih' := fun b i kb => ih (fun x hx => h x (List.mem_cons_of_mem _ hx)) b i kb
    unfold bestGo
    rw [h k List.mem_cons_self]
    split
    · exact ih' ..
    · exact ih' ..
end Go.Proofs.YtkkecnofgmpekaaDoor
