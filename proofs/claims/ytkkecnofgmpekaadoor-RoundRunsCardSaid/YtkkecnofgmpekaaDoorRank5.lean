/- Package rank: least, and Run by ranks. Conditions: the sentinels that they name lie in their variables. -/
import Derived.Test.YtkkecnofgmpekaaDoorRankB
import Derived.Test.YtkkecnofgmpekaaDoorLeastPl
namespace Go.Proofs.YtkkecnofgmpekaaDoor
open Go.RowKit
set_option maxRecDepth 100000
set_option maxHeartbeats 400000 in
theorem least_any (A : Option Addr) (c : Nat) (p : List Pk) (per : Int) (c1 c2 : Value) (key : Nat → Int) (w : World) (B0 : Nat) (hB : B0 ≤ w.heap.size) (h : RdP w B0 A p)
    (hp : ∀ x ∈ p, okPk x) (hl : p.length ≤ 300) (h0 : 1 ≤ per) (h1 : per ≤ 1000) (hK : KeyFn 57 c1 c2 p.length key (fun w' => Below w.heap.size w w')) :
    Calls Tryd.prog 56 #[.slice A p.length c, .int .i64 per, .func (.func 57) #[] #[c1, c2]] w (EndOwn Sn.cs 3 34 (leastL p per key) w) := by
  have hbel : Below w.heap.size w ((w.alloc (.cells #[.func (.func 57) #[] #[c1, c2]] 82)).alloc (.cells #[.slice none 0 0] 35)) := ((Below.refl _ _).alloc (Nat.le_refl _) _).alloc (by simp) _
  have hKK : KeyFn 57 c1 c2 p.length key (fun w' => Below (w.heap.size + 1) ((w.alloc (.cells #[.func (.func 57) #[] #[c1, c2]] 82)).alloc (.cells #[.slice none 0 0] 35)) w') :=
    ⟨fun k w' hw hk => hK.call k w' (hbel.trans (hw.mono (Nat.le_succ _))) hk, fun w' m hw => below_drewN hw m⟩
  have HK := Lib.hid hKK
  clear hK hKK
  go_enter Tryd.func56, Tryd.ntmps56
  go_wp2_with fail
  refine (srv_any (R := leastR (w.heap.size + 1) w.heap.size) (M := leastM key) (Mem := LeastMem p.length (w.heap.size + 1) (w.heap.size + 1) ((w.alloc (.cells #[.func (.func 57) #[] #[c1, c2]] 82)).alloc (.cells #[.slice none 0 0] 35))) A c p per (w.heap.size + 1) [] (fun b => b = w.heap.size + 1 ∨ (Value.slice none ([] : List Nat).length 0).ownBlock = some b) _ (by simp)
    (((h.more hB).below hbel).more (Nat.le_succ _)) hp hl h0 h1 (leastOk key _) (leastPicker _ _ _ _ _ c1 c2 key hl (Nat.lt_succ_self _) ((Blk.new _ _ _).alloc _) HK.out) ⟨Below.refl _ _, by simp, none, 0, heap_alloc_new2 _ _ _, ⟨by simp, .inl ⟨rfl, rfl⟩⟩, Nat.le_refl _, by simp [Value.ownBlock], by simp, fun b => Iff.rfl⟩ rfl ⟨by simp, List.Pairwise.nil⟩).mono ?_
  rintro e w2 ⟨A', c', own', rfl, row, hb2, _⟩
  go_wp2_with fail
  go_ret
  exact ⟨A', c', rfl, own_mono row hbel.size, hbel.trans (hb2.mono (Nat.le_succ _))⟩
/-- The error of a link by numbers of flows. -/
def rankErr (p : List Pk) (per : Int) (l : List Int) (most : Int) : Nat × Int := if (lookErr p per).1 = 0 then (numErr l most, -1) else lookErr p per
theorem outIdx_none {most : Int} {l : List Int} {k : Nat} (h : ¬ 0 ≤ outIdx most l k) : ∀ n ∈ l, 0 ≤ n ∧ n ≤ most := by
  induction l generalizing k with
  | nil => simp
  | cons x r ih =>
    unfold outIdx at h
    split at h
    · exact absurd (Int.natCast_nonneg k) h
    · rename_i h1
      intro n hn
      rcases List.mem_cons.1 hn with rfl | hn
      · simp only [outB, decide_eq_true_eq] at h1; omega
      · exact ih h n hn
theorem rankErr_ok {p : List Pk} {per : Int} {l : List Int} {most : Int} (h : (rankErr p per l most).1 = 0) : (lookErr p per).1 = 0 ∧ numErr l most = 0 ∧ l.length = 8 ∧ (∀ n ∈ l, 0 ≤ n ∧ n ≤ most) ∧ rankErr p per l most = (0, -1) := by
  unfold rankErr at h ⊢
  by_cases h1 : (lookErr p per).1 = 0
  · rw [if_pos h1] at h ⊢
    have h' := h
    unfold numErr at h
    by_cases h8 : l.length = 8
    · rw [if_pos h8] at h
      by_cases ho : 0 ≤ outIdx most l 0
      · rw [if_pos ho] at h; simp at h
      · exact ⟨h1, h', h8, outIdx_none ho, by rw [show numErr l most = 0 from h']⟩
    · rw [if_neg h8] at h; simp at h
  · rw [if_neg h1] at h; exact absurd h h1
set_option maxHeartbeats 1000000 in
theorem rankRun_ok (A A' : Option Addr) (c c' : Nat) (p : List Pk) (per : Int) (ranks : List Int) (S : Nat → Addr) (w : World) (B : Nat) (hB : B ≤ w.heap.size) (h : RdP w B A p) (h' : RdI w B A' ranks) (hS : Snt w B S [2, 3, 5]) (hl : p.length ≤ 9223372036854775807) (hl' : ranks.length ≤ 9223372036854775807) (hok : (rankErr p per ranks 100).1 = 0) :
    Calls Tryd.prog 19 #[.slice A p.length c, .int .i64 per, .slice A' ranks.length c'] w (EndOwnEr Sn.cs 3 34 (leastL p per (rankKey p ranks)) S (rankErr p per ranks 100).1 (rankErr p per ranks 100).2 w) := by
  obtain ⟨e1, e2, h8, _, e3⟩ := rankErr_ok hok
  obtain ⟨hf, h300, hpk, h0, h1⟩ := lookErr_ok e1
  have Hf := Lib.hid hf
  have Hn := Lib.hid e2
  have He := Lib.hid e3
  have H8 := Lib.hid h8
  clear hf hok e1 e2 e3 h8
  have ba : Below w.heap.size w ((w.alloc (.cells #[.slice A p.length c] 22)).alloc (.cells #[.slice A' ranks.length c'] 35)) := ((Below.refl _ _).alloc (Nat.le_refl _) _).alloc (by simp) _
  have bp : Blk ((w.alloc (.cells #[.slice A p.length c] 22)).alloc (.cells #[.slice A' ranks.length c'] 35)) w.heap.size 22 #[.slice A p.length c] := (Blk.new _ _ _).alloc _
  have br : Blk ((w.alloc (.cells #[.slice A p.length c] 22)).alloc (.cells #[.slice A' ranks.length c'] 35)) (w.heap.size + 1) 35 #[.slice A' ranks.length c'] := heap_alloc_new2 _ _ _
  obtain ⟨wa, hwa⟩ : ∃ wa, wa = ((w.alloc (.cells #[.slice A p.length c] 22)).alloc (.cells #[.slice A' ranks.length c'] 35)) := ⟨_, rfl⟩
  rw [← hwa] at ba bp br
  have sa : wa.heap.size = w.heap.size + 2 := by rw [hwa]; simp
  have x0 : wa.cell? ⟨w.heap.size, 0, none⟩ = some (.slice A p.length c) := bp.cell 0
  have x1 : wa.cell? ⟨w.heap.size + 1, 0, none⟩ = some (.slice A' ranks.length c') := br.cell 0
  go_enter Tryd.func19, Tryd.ntmps19
  go_wp2_with fail
  rw [← hwa]
  refine (look_any A c p per S wa B (by omega) (h.below (ba.mono hB)) ((hS.below (ba.mono hB)).sub (by simp)) hl).mono ?_
  rintro e w1 ⟨v, rfl, hv, hb1⟩
  obtain rfl := hv.nil_of (by rw [Hf.out])
  have y0 : w1.cell? ⟨w.heap.size + 1, 0, none⟩ = some (.slice A' ranks.length c') := (hb1.cell (p := ⟨w.heap.size + 1, 0, none⟩) (by simp only; omega)).trans x1
  have z1 := hb1.size
  have k1 := ba.trans (hb1.mono (by omega))
  go_wp2_with fail
  refine (rnumbers_any A' c' ranks 100 S w1 B (by omega) (h'.below (k1.mono hB)) ((hS.below (k1.mono hB)).sub (by simp)) hl').mono ?_
  rintro e w2 ⟨v, rfl, hv, hb2⟩
  obtain rfl := hv.nil_of Hn.out
  have z2 := hb2.size
  have k12 : Below wa.heap.size wa w2 := hb1.trans (hb2.mono z1)
  have k2 := ba.trans (k12.mono (by omega))
  have y1 : w2.cell? ⟨w.heap.size, 0, none⟩ = some (.slice A p.length c) := (k12.cell (p := ⟨w.heap.size, 0, none⟩) (by simp only; omega)).trans x0
  have hK : KeyFn 57 (.pointer (some ⟨w.heap.size + 1, 0, none⟩)) (.pointer (some ⟨w.heap.size, 0, none⟩)) p.length (rankKey p ranks) (fun w' => Below w2.heap.size w2 w') :=
    ⟨fun k w' hw hk => rkey_any k A A' c c' p ranks w.heap.size (w.heap.size + 1) w' B ((h.below (k2.mono hB)).below (hw.mono (by omega))) ((h'.below (k2.mono hB)).below (hw.mono (by omega))) ((bp.below k12 (by omega)).below hw (by omega)) ((br.below k12 (by omega)).below hw (by omega)) hk H8.out (hpk _ (List.getElem_mem hk)).1 (hpk _ (List.getElem_mem hk)).2.1,
      fun w' m hw => below_drewN hw m⟩
  have HK := Lib.hid hK
  clear hK
  go_wp2_with fail
  refine (least_any A c p per _ _ (rankKey p ranks) w2 B (by omega) (h.below (k2.mono hB)) hpk h300 h0 h1 HK.out).mono ?_
  rintro e w3 ⟨A3, c3, rfl, row, hb3⟩
  go_wp2_with fail
  go_ret2
  rw [He.out]
  exact ⟨A3, c3, _, rfl, own_mono row k2.size, .nil, k2.trans (hb3.mono k2.size)⟩
set_option maxHeartbeats 1000000 in
theorem rankRun_bad (A A' : Option Addr) (c c' : Nat) (p : List Pk) (per : Int) (ranks : List Int) (S : Nat → Addr) (w : World) (B : Nat) (hB : B ≤ w.heap.size) (h : RdP w B A p) (h' : RdI w B A' ranks) (hS : Snt w B S [2, 3, 5]) (hl : p.length ≤ 9223372036854775807) (hl' : ranks.length ≤ 9223372036854775807) (hok : (rankErr p per ranks 100).1 ≠ 0) :
    Calls Tryd.prog 19 #[.slice A p.length c, .int .i64 per, .slice A' ranks.length c'] w (EndOwnEr Sn.cs 3 34 [] S (rankErr p per ranks 100).1 (rankErr p per ranks 100).2 w) := by
  have ba : Below w.heap.size w ((w.alloc (.cells #[.slice A p.length c] 22)).alloc (.cells #[.slice A' ranks.length c'] 35)) := ((Below.refl _ _).alloc (Nat.le_refl _) _).alloc (by simp) _
  have br : Blk ((w.alloc (.cells #[.slice A p.length c] 22)).alloc (.cells #[.slice A' ranks.length c'] 35)) (w.heap.size + 1) 35 #[.slice A' ranks.length c'] := heap_alloc_new2 _ _ _
  obtain ⟨wa, hwa⟩ : ∃ wa, wa = ((w.alloc (.cells #[.slice A p.length c] 22)).alloc (.cells #[.slice A' ranks.length c'] 35)) := ⟨_, rfl⟩
  rw [← hwa] at ba br
  have sa : wa.heap.size = w.heap.size + 2 := by rw [hwa]; simp
  have x0 : wa.cell? ⟨w.heap.size, 0, none⟩ = some (.slice A p.length c) := by rw [hwa]; exact (show Blk _ w.heap.size 22 #[.slice A p.length c] from (Blk.new _ _ _).alloc _).cell 0
  have x1 : wa.cell? ⟨w.heap.size + 1, 0, none⟩ = some (.slice A' ranks.length c') := br.cell 0
  by_cases h1 : (lookErr p per).1 = 0
  · obtain ⟨hf, _, _, _, _⟩ := lookErr_ok h1
    have He := Lib.hid (show rankErr p per ranks 100 = (numErr ranks 100, -1) from if_pos h1)
    have Hn := Lib.hid (show numErr ranks 100 ≠ 0 from by rw [He.out] at hok; exact hok)
    have Hf := Lib.hid hf
    clear hok hf h1
    go_enter Tryd.func19, Tryd.ntmps19
    go_wp2_with fail
    rw [← hwa]
    refine (look_any A c p per S wa B (by omega) (h.below (ba.mono hB)) ((hS.below (ba.mono hB)).sub (by simp)) hl).mono ?_
    rintro e w1 ⟨v, rfl, hv, hb1⟩
    obtain rfl := hv.nil_of (by rw [Hf.out])
    have y0 : w1.cell? ⟨w.heap.size + 1, 0, none⟩ = some (.slice A' ranks.length c') := (hb1.cell (p := ⟨w.heap.size + 1, 0, none⟩) (by simp only; omega)).trans x1
    have z1 := hb1.size
    have k1 := ba.trans (hb1.mono (by omega))
    go_wp2_with fail
    refine (rnumbers_any A' c' ranks 100 S w1 B (by omega) (h'.below (k1.mono hB)) ((hS.below (k1.mono hB)).sub (by simp)) hl').mono ?_
    rintro e w2 ⟨v, rfl, hv, hb2⟩
    obtain ⟨T, a, rfl⟩ := hv.some_of Hn.out
    go_wp2_with fail
    go_ret2
    rw [He.out]
    exact ⟨none, 0, _, rfl, ⟨by simp, .inl ⟨rfl, rfl⟩⟩, hv, k1.trans (hb2.mono k1.size)⟩
  · have He := Lib.hid (show rankErr p per ranks 100 = lookErr p per from if_neg h1)
    have Hn := Lib.hid h1
    clear hok h1
    go_enter Tryd.func19, Tryd.ntmps19
    go_wp2_with fail
    rw [← hwa]
    refine (look_any A c p per S wa B (by omega) (h.below (ba.mono hB)) ((hS.below (ba.mono hB)).sub (by simp)) hl).mono ?_
    rintro e w1 ⟨v, rfl, hv, hb1⟩
    obtain ⟨T, a, rfl⟩ := hv.some_of Hn.out
    go_wp2_with fail
    go_ret2
    rw [He.out]
    exact ⟨none, 0, _, rfl, ⟨by simp, .inl ⟨rfl, rfl⟩⟩, hv, ba.trans (hb1.mono ba.size)⟩
end Go.Proofs.YtkkecnofgmpekaaDoor
