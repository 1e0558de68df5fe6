/- slices.Delete of one place, at a list that the call owns. Conditions written at each. -/
import Derived.Test.YtkkecnofgmpekaaDoorRankA
import Derived.Test.YtkkecnofgmpekaaDoorShelf
import Derived.WalkSmall
import Derived.Laws.OwnMore
namespace Go.Proofs.YtkkecnofgmpekaaDoor
open Go.RowKit
set_option maxRecDepth 100000
theorem ownsRow_setAll {base : Nat} {e : TypeId} {size g cap n : Nat} : ∀ (vs : List Value) (o : Nat) (w : World) (xs : List Value), w.ownsRow base e size (.slice (some ⟨g, 0, none⟩) n cap) n xs → o + vs.length ≤ xs.length →
    (w.setCells g o vs).ownsRow base e size (.slice (some ⟨g, 0, none⟩) n cap) n (xs.take o ++ vs ++ xs.drop (o + vs.length)) ∧ w.grownBy (w.setCells g o vs) (some g)
  | [], o, w, xs, h, _ => by
    simp only [World.setCells, List.append_nil, List.length_nil, Nat.add_zero, List.take_append_drop]
    exact ⟨h, rfl, rfl, rfl, Nat.le_refl _, fun _ _ _ => rfl⟩
  | v :: r, o, w, xs, h, hl => by
    have hl' : o < xs.length := by simp only [List.length_cons] at hl; omega
    obtain ⟨h1, g1⟩ := h.stored o v
    obtain ⟨h2, g2⟩ := ownsRow_setAll r (o + 1) (w.setCell ⟨g, o, none⟩ v) (xs.set o v) h1 (by simp only [List.length_cons, List.length_set] at hl ⊢; omega)
    refine ⟨?_, g2.os.trans g1.os, g2.tape.trans g1.tape, g2.output.trans g1.output, Nat.le_trans g1.size g2.size, fun k hk hne => (g2.block k (Nat.lt_of_lt_of_le hk g1.size) hne).trans (g1.block k hk hne)⟩
    have e1 : (xs.set o v).take (o + 1) ++ r ++ (xs.set o v).drop (o + 1 + r.length) = xs.take o ++ v :: r ++ xs.drop (o + (v :: r).length) := by
      rw [List.take_succ_eq_append_getElem (by simpa using hl'), List.take_set_of_le (Nat.le_refl _), List.getElem_set_self, List.drop_set_of_lt (by omega)]
      simp only [List.append_assoc, List.singleton_append, List.cons_append, List.nil_append, List.length_cons]
      rw [show o + 1 + r.length = o + (r.length + 1) by omega]
    rw [← e1]
    exact h2
theorem below_setAll {B : Nat} {a : World} (b : Nat) (hb : B ≤ b) : ∀ (vs : List Value) (o : Nat) {w : World}, Below B a w → Below B a (w.setCells b o vs)
  | [], _, _, h => h
  | v :: r, o, _, h => below_setAll b hb r (o + 1) (h.setCell (p := ⟨b, o, none⟩) hb v)
theorem flat_nCs (s : List Nat) : s.flatMap nCs = s.map fun n : Nat => Value.int .i64 n := by
  induction s with
  | nil => rfl
  | cons x r ih => simp [nCs, ih]
theorem del_any (B : Nat) (w : World) (s : List Nat) (A : Option Addr) (c b : Nat) (h : w.ownsRow B 3 1 (.slice A s.length c) s.length (s.flatMap nCs)) (hb : b < s.length) :
    Calls Tryd.prog 73 #[.slice A s.length c, .int .i64 b, .int .i64 (b + 1 : Int)] w fun e w' => e = .returned (.slice A (s.eraseIdx b).length c) ∧ w'.ownsRow B 3 1 (.slice A (s.eraseIdx b).length c) (s.eraseIdx b).length ((s.eraseIdx b).flatMap nCs) ∧ Below B w w' ∧ w.heap.size ≤ w'.heap.size ∧ (∀ k, k < w.heap.size → some k ≠ (Value.slice A s.length c).ownBlock → w'.heap[k]? = w.heap[k]?) := by
  have hlen : (s.eraseIdx b).length = s.length - 1 := List.length_eraseIdx_of_lt hb
  obtain ⟨hx, h0⟩ := id h
  rcases h0 with ⟨_, h1⟩ | ⟨g, cap, cur, hv, hg, hh, hn, hcap, hsz, htake⟩
  · omega
  · cases hv
    have hz : ∀ j, j < (s.map Int.ofNat).length → w.cell? ⟨g, 0 + j, none⟩ = some (.int .i64 ((s.map Int.ofNat).getD j 0)) := fun j hj => by
      have hj' : j < s.length := by simpa using hj
      rw [Nat.zero_add, h.cellAt j (by omega), flat_nCs]
      simp [List.getD, hj']
    have hf : ∀ j, j < s.length → w.frozen? ⟨g, 0 + j, none⟩ = false := fun j _ => by rw [Nat.zero_add]; exact h.frozenAt j
    have hd := Tryd.slices_Delete_int_cells g 0 s.length c b (b + 1) (s.map Int.ofNat) w (by simp) hn (Nat.le_trans hcap (by decide)) (by omega) (by omega) hz hf
    have hvs : (((s.map Int.ofNat).take s.length).take b ++ ((s.map Int.ofNat).take s.length).drop (b + 1) ++ List.replicate (b + 1 - b) 0).map (Value.int .i64) = (s.eraseIdx b).flatMap nCs ++ [.int .i64 0] := by
      have e0 : (s.map Int.ofNat).take s.length = s.map Int.ofNat := List.take_of_length_le (by simp)
      have e1 : ∀ r : List Nat, (r.map Int.ofNat).map (Value.int .i64) = r.map fun n : Nat => Value.int .i64 n := fun r => by rw [List.map_map]; rfl
      have e2 : b + 1 - b = 1 := by omega
      rw [e0, e2, flat_nCs, List.eraseIdx_eq_take_drop_succ, ← List.map_take, ← List.map_drop, ← List.map_append, List.map_append, e1]
      rfl
    rw [hvs] at hd
    refine hd.mono fun e w' ⟨he, q, hw⟩ => ?_
    have hr0 : (w.drewN q).ownsRow B 3 1 (.slice (some ⟨g, 0, none⟩) s.length c) s.length (s.flatMap nCs) := h
    obtain ⟨h1, g1⟩ := ownsRow_setAll ((s.eraseIdx b).flatMap nCs ++ [.int .i64 0]) 0 (w.drewN q) (s.flatMap nCs) hr0 (by rw [flat_nCs, flat_nCs]; simp; omega)
    rw [← hw] at h1 g1
    have e9 : (s.flatMap nCs).take 0 ++ ((s.eraseIdx b).flatMap nCs ++ [.int .i64 0]) ++ (s.flatMap nCs).drop (0 + ((s.eraseIdx b).flatMap nCs ++ [Value.int .i64 0]).length) = (s.eraseIdx b).flatMap nCs ++ [.int .i64 0] := by
      rw [List.drop_of_length_le (by rw [flat_nCs, flat_nCs]; simp; omega)]
      simp
    rw [e9] at h1
    have el : s.length = (s.eraseIdx b).length + 1 := by omega
    refine ⟨?_, ?_, ?_, g1.size, fun k hk hne => g1.block k hk fun e => hne (by rw [e]; rfl)⟩
    · rw [he, hlen, show b + 1 - b = 1 by omega]
    · rw [el] at h1
      exact ownsRow_pop (by rw [flat_nCs]; simp) h1
    · rw [hw]
      exact below_setAll g hg _ _ (below_drewN (Below.refl B w) q)
end Go.Proofs.YtkkecnofgmpekaaDoor
