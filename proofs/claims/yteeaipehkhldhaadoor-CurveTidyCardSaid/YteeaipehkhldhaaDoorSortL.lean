/- slices.SortFunc of lines by tidy's order: the row holds the same lines, in order. slices.Clone of lines. Conditions: where they lie; few lines. -/
import Derived.Test.YteeaipehkhldhaaDoorCmp
import Derived.Test.YteeaipehkhldhaaDoorOwnL
import Derived.Test.YteeaipehkhldhaaDoorShelfS
import Derived.Laws.OwnMore
namespace Go.Proofs.YteeaipehkhldhaaDoor
open Go.RowKit
set_option maxRecDepth 100000
instance : Inhabited Ln := ⟨⟨0, 0⟩⟩
set_option maxHeartbeats 400000 in
theorem cloneLn_any (A : Option Addr) (c : Nat) (l : List Ln) (w : World) (B : Nat) (hB : B ≤ w.heap.size) (h : RdL w B A l) (hl : l.length ≤ 4294967296) :
    Calls Tryd.prog 83 #[.slice A l.length c] w (EndOwn Ln.cs 2 24 l w) := by
  obtain ⟨i0, hi0, hz0, hz1, hz2⟩ := info_parts infoLn
  have r1 := @Lib.run_eql_slice_nil Tryd.prog
  cases A with
  | none =>
    obtain rfl : l = [] := by
      rcases l with _ | ⟨x, r⟩
      · rfl
      · obtain ⟨b, o, h9, _⟩ := h (by simp)
        cases h9
    go_enter Tryd.func83, Tryd.ntmps83
    go_wp2_with fail
    go_ret
    exact ⟨none, 0, rfl, ⟨by simp, .inl ⟨rfl, rfl⟩⟩, Below.refl _ _⟩
  | some ad =>
    have hown : (w.alloc (.cells #[] 24)).ownsRow w.heap.size 24 2 (.slice (some ⟨w.heap.size, 0, none⟩) 0 0) 0 [] := World.ownsRow_made w #[] 0 (Nat.le_refl _) (Nat.zero_le _) rfl
    have kb : Below w.heap.size w (w.alloc (.cells #[] 24)) := (Below.refl _ _).alloc (Nat.le_refl _) _
    go_enter Tryd.func83, Tryd.ntmps83
    go_wp2_with (at_builtin; refine wpList_append_rd _ Ln.cs rfl (.tmp 5) (.tmp 6) 22 rfl w.heap.size 24 i0 _ 2 16 Tryd.underlying22 hi0 hz0 hz1 hz2 rfl (by omega) Ln.cs_len Ln.cs_one (.slice (some ⟨w.heap.size, 0, none⟩) 0 0) 0 [] rfl hown B (some ad) c l rfl (h.below (kb.mono hB)) (by simp only [maxLen]; omega) (by omega) (by simp) ?_; intro v1 w1 hown1 hg1 hat1; simp only [Nat.zero_add, List.nil_append] at hown1; obtain ⟨A1, c1, rfl⟩ := own_slice hown1 (by omega))
    go_ret
    exact ⟨A1, c1, rfl, hown1, below_app kb hown hg1 (Nat.le_refl _) (by simp)⟩
theorem flatK_get (l : List Ln) (j : Nat) (hj : j < l.length * 2) : (Go.Sort.flatK Ln.cs 2 l.toArray)[j]! = (l.flatMap Ln.cs)[j]'(by rw [flat_len Ln.cs 2 Ln.cs_len]; exact hj) := by
  have h1 := Go.Sort.get_flatK Ln.cs 2 l.toArray j (by simpa using hj)
  rw [h1]
  have h2 := flat_get Ln.cs 2 (by omega) Ln.cs_len l j
  have hq : j / 2 < l.length := by omega
  rw [List.getElem?_eq_getElem hq, Option.bind_some] at h2
  have h3 : (l.flatMap Ln.cs)[j]? = some ((l.flatMap Ln.cs)[j]'(by rw [flat_len Ln.cs 2 Ln.cs_len]; exact hj)) := List.getElem?_eq_getElem _
  rw [h3] at h2
  have h4 : l.toArray[j / 2]! = l[j / 2] := by rw [getElem!_pos l.toArray (j / 2) (by simpa using hq)]; simp
  rw [h4, List.getElem!_eq_getElem?_getD, ← h2]
  rfl
theorem lex_swo : Go.Sort.SWO (Go.Proofs.ltOf cmpL) := by
  have key : ∀ x y : Ln, Go.Proofs.ltOf cmpL x y = decide (x.b < y.b ∨ (x.b = y.b ∧ x.r < y.r)) := fun x y => by
    unfold Go.Proofs.ltOf
    exact decide_eq_decide.2 (cmpL_lt x y)
  refine ⟨fun x => ?_, fun x y z h1 h2 => ?_, fun x y z h1 h2 => ?_⟩
  · rw [key]; exact decide_eq_false (by omega)
  · rw [key] at *
    have h1 := of_decide_eq_true h1
    have h2 := of_decide_eq_true h2
    exact decide_eq_true (by omega)
  · rw [key] at *
    have h1 := of_decide_eq_false h1
    have h2 := of_decide_eq_false h2
    exact decide_eq_false (by omega)
set_option maxHeartbeats 1000000 in
theorem sortLn_any (g cap base : Nat) (l : List Ln) (w : World) (h : w.ownsRow base 24 2 (.slice (some ⟨g, 0, none⟩) l.length cap) l.length (l.flatMap Ln.cs)) (hl : l.length ≤ 4294967296) :
    Calls Tryd.prog 84 #[.slice (some ⟨g, 0, none⟩) l.length cap, .func (.func 85) #[] #[]] w fun e w' => e = .returned (.tuple #[]) ∧ ∃ s : List Ln, s.Perm l ∧ s.Pairwise lexLe ∧ w'.ownsRow base 24 2 (.slice (some ⟨g, 0, none⟩) s.length cap) s.length (s.flatMap Ln.cs) ∧ Below base w w' := by
  obtain ⟨_, ⟨h1, _⟩ | ⟨g', cap', cur, hv, hg, hh, hn, hc, hs, ht⟩⟩ := h
  · simp at h1
  · simp only [Value.slice.injEq, Option.some.injEq, Addr.mk.injEq, and_true, true_and] at hv
    obtain ⟨rfl, rfl⟩ := hv
    have hlt : g < w.heap.size := lt_of_block hh
    have hcl : l.length * 2 ≤ cur.size := by omega
    have hcell : ∀ j (hj : j < l.length * 2), cur[j]? = some ((l.flatMap Ln.cs)[j]'(by rw [flat_len Ln.cs 2 Ln.cs_len]; exact hj)) := fun j hj => by
      have h9 : (cur.toList.take (l.length * 2))[j]? = (l.flatMap Ln.cs)[j]? := by rw [ht]
      rw [List.getElem?_take, if_pos hj] at h9
      rw [List.getElem?_eq_getElem (show j < (l.flatMap Ln.cs).length by rw [flat_len Ln.cs 2 Ln.cs_len]; exact hj)] at h9
      rw [← h9]
      simp
    have hH : Go.Sort.HoldsK Ln.cs 2 w g 0 l.toArray := fun j hj => by
      have hj2 : j < l.length * 2 := by simpa using hj
      rw [Nat.zero_add, flatK_get l j hj2]
      refine ⟨(cell_blk hh j).trans (hcell j hj2), ?_⟩
      simp [World.frozen?, hh]
    have eg : ∀ args w, (callFunc 85 args).run Tryd.prog w = .ok (.enter 85 args) w := enters_of Tryd.func85 (by kernel_rfl) rfl
    have hcmp : Go.Proofs.CmpLays Tryd.prog 85 #[] Ln.cs 2 cmpL g 0 l.toArray.size w := fun m os dk _ x y => (tdy1_any x y _).mono fun e w' ⟨e1, q, os', e2⟩ => ⟨e1, q, os', e2⟩
    have hS := AnyQ.slices_SortFunc Tryd.sortF 2 Tryd.isAgg24 Tryd.sizeOf24 Ln.cs Ln.cs_len Ln.cs_one cmpL lex_swo 85 #[] g 0 cap l.toArray w eg hcmp hH hlt (by simp; omega)
    change Calls Tryd.prog 84 _ _ _ at hS
    refine hS.mono ?_
    rintro e w' ⟨rfl, d', n, os, hpm, hso, rfl⟩
    refine ⟨rfl, d'.toList, ?_, ?_, ?_, ?_⟩
    · obtain ⟨p1, _, p3⟩ := hpm
      have e1 : d'.extract 0 l.toArray.size = d' := by rw [← p1]; simp
      have e2 : l.toArray.extract 0 l.toArray.size = l.toArray := by simp
      rw [e1, e2] at p3
      exact p3
    · obtain ⟨p1, _, _⟩ := hpm
      rw [List.pairwise_iff_getElem]
      intro i j hi hj hij
      have h9 := hso i j (Nat.zero_le _) hij (by rw [← p1]; simpa using hj)
      have hi' : i < d'.size := by simpa using hi
      have hj' : j < d'.size := by simpa using hj
      rw [getElem!_pos d' i hi', getElem!_pos d' j hj'] at h9
      unfold Go.Proofs.ltOf at h9
      have h8 := of_decide_eq_false h9
      rw [cmpL_lt] at h8
      simp only [Array.getElem_toList]
      unfold lexLe
      omega
    · obtain ⟨p1, _, _⟩ := hpm
      have hd : d'.size = l.length := by simpa using p1
      have hfs : (Go.Sort.flatK Ln.cs 2 d').size = l.length * 2 := by simp [hd]
      have hblk : (Go.Proofs.sortWorldK Ln.cs 2 w g 0 n d' os).heap[g]? = some (.cells (Go.Sort.putCells id 0 (Go.Sort.flatK Ln.cs 2 d') cur) 24 (0, 0)) := by
        unfold Go.Proofs.sortWorldK
        rw [Go.Sort.heap_grow_old _ _ (by simp [Go.Sort.putRowK, Go.Sort.ahead]; exact hlt)]
        unfold Go.Sort.putRowK Go.Sort.putRow Go.Sort.mapBlock Go.Sort.ahead
        simp only [Array.getElem?_modify, if_true]
        rw [hh]
        rfl
      have hlen : d'.toList.length = l.length := by simpa using hd
      refine ⟨by rw [flat_len Ln.cs 2 Ln.cs_len], .inr ⟨g, cap, _, by rw [hlen], hg, hblk, by rw [hlen]; exact hn, hc, by unfold Go.Sort.putCells; rw [Array.size_mapIdx]; exact hs, ?_⟩⟩
      rw [hlen]
      apply List.ext_getElem?
      intro j
      rw [List.getElem?_take]
      by_cases hj : j < l.length * 2
      · rw [if_pos hj]
        have h5 : j < cur.size := by omega
        have h6 : (Go.Sort.putCells id 0 (Go.Sort.flatK Ln.cs 2 d') cur)[j]? = some (Go.Sort.flatK Ln.cs 2 d')[j]! := by
          unfold Go.Sort.putCells
          rw [Array.getElem?_mapIdx, Array.getElem?_eq_getElem h5]
          simp [hfs, hj]
        have h7 := flatK_get d'.toList j (by rw [hlen]; exact hj)
        rw [show d'.toList.toArray = d' from by simp] at h7
        rw [List.getElem?_eq_getElem (show j < (d'.toList.flatMap Ln.cs).length by rw [flat_len Ln.cs 2 Ln.cs_len, hlen]; exact hj), ← h7, ← h6]
        simp
      · rw [if_neg hj, List.getElem?_eq_none (by rw [flat_len Ln.cs 2 Ln.cs_len, hlen]; omega)]
    · unfold Go.Proofs.sortWorldK
      have hk : Below base w (Go.Sort.putRowK Ln.cs 2 (Go.Sort.ahead w n) g 0 d') := by
        refine ⟨rfl, rfl, rfl, by simp [Go.Sort.putRowK, Go.Sort.ahead], fun i hi => ?_⟩
        unfold Go.Sort.putRowK Go.Sort.putRow Go.Sort.mapBlock Go.Sort.ahead
        simp only [Array.getElem?_modify]
        rw [if_neg (by omega)]
      refine hk.trans ?_
      have := below_grown_sl base (Go.Sort.putRowK Ln.cs 2 (Go.Sort.ahead w n) g 0 d') 0 os (by simp [Go.Sort.putRowK, Go.Sort.ahead]; omega)
      exact this
end Go.Proofs.YteeaipehkhldhaaDoor
