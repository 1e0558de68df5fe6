/- package plain's Code: the number and the place of an error. Conditions: the nine sentinels lie in their variables, apart from each other; errors.errorType holds the type error. -/
import Derived.Test.YteeaipehkhldhaaDoorIs2
import Derived.Test.YteeaipehkhldhaaDoorErr
namespace Go.Proofs.YteeaipehkhldhaaDoor
open Go.RowKit
set_option maxRecDepth 100000
/-- All nine sentinels, apart; the variable errors.errorType. -/
structure All9 (w : World) (B : Nat) (S : Nat → Addr) : Prop where
  s : Snt w B S [1, 2, 3, 4, 5, 6, 7, 8, 9]
  blk : ∀ k, 1 ≤ k → k ≤ 9 → ∃ cs t, w.heap[(S k).block]? = some (.cells cs t (0, 0))
  ne : ∀ j k, 1 ≤ j → j ≤ 9 → 1 ≤ k → k ≤ 9 → j ≠ k → S j ≠ S k
  gB : 9 < B
  g : w.cell? ⟨9, 0, none⟩ = some (.iface 139 (.agg #[.pointer (some ⟨10, 28, none⟩)]))
theorem All9.below {w w' : World} {B : Nat} {S : Nat → Addr} (h : All9 w B S) (hb : Below B w w') : All9 w' B S where
  s := h.s.below hb
  blk := fun k h1 h9 => by
    obtain ⟨cs, t, e⟩ := h.blk k h1 h9
    exact ⟨cs, t, (hb.block _ (h.s k (by simp; omega)).2.1).trans e⟩
  ne := h.ne
  gB := h.gB
  g := (hb.cell h.gB).trans h.g
theorem All9.more {w : World} {B B' : Nat} {S : Nat → Addr} (h : All9 w B S) (hB : B ≤ B') : All9 w B' S := ⟨h.s.more hB, h.blk, h.ne, Nat.lt_of_lt_of_le h.gB hB, h.g⟩

/-- What errors.Is says of an error and each sentinel. -/
def IsAll (w : World) (S : Nat → Addr) (v : Value) (k : Nat) : Prop := ∀ j, 1 ≤ j → j ≤ 9 → ∀ w', Below w.heap.size w w' → Calls Tryd.prog 57 #[v, sv S j] w' fun e w'' => e = .returned (.bool (j == k)) ∧ w' = w''
theorem isAll_bare {w : World} {B : Nat} {S : Nat → Addr} (h : All9 w B S) (hB : B ≤ w.heap.size) {k : Nat} (h1 : 1 ≤ k) (h9 : k ≤ 9) : IsAll w S (sv S k) k := fun j j1 j9 w' hb => by
  have h' := h.below (hb.mono hB)
  by_cases e : j = k
  · subst e
    rw [beq_self_eq_true]
    exact is_same (S j) w'
  · obtain ⟨c1, t1, b1⟩ := h'.blk k h1 h9
    obtain ⟨c2, t2, b2⟩ := h'.blk j j1 j9
    rw [beq_eq_false_iff_ne.2 e]
    exact is_other (S k) (S j) c1 c2 t1 t2 w' (h.ne k j h1 h9 j1 j9 (fun h => e h.symm)) b1 b2
theorem isAll_fault {w : World} {B : Nat} {S : Nat → Addr} (h : All9 w B S) (hB : B ≤ w.heap.size) {k : Nat} (h1 : 1 ≤ k) (h9 : k ≤ 9) {f : Nat} {x : Value} (hf : Blk w f 40 #[x, sv S k]) : IsAll w S (.iface 38 (.pointer (some ⟨f, 0, none⟩))) k := fun j j1 j9 w' hb => by
  have h' := h.below (hb.mono hB)
  have hf' := hf.below hb hf.lt
  by_cases e : j = k
  · subst e
    rw [beq_self_eq_true]
    exact is_fault_same f x (S j) w' hf'
  · obtain ⟨c1, t1, b1⟩ := h'.blk k h1 h9
    obtain ⟨c2, t2, b2⟩ := h'.blk j j1 j9
    rw [beq_eq_false_iff_ne.2 e]
    exact is_fault_other f x (S k) (S j) c1 c2 t1 t2 w' hf' (h.ne k j h1 h9 j1 j9 (fun h => e h.symm)) b1 b2
theorem isAll_else {w : World} {B : Nat} {S : Nat → Addr} (h : All9 w B S) (hB : B ≤ w.heap.size) {a : Addr} {c : Array Value} {t : TypeId} (ha : w.heap[a.block]? = some (.cells c t (0, 0))) (hn : ∀ j, 1 ≤ j → j ≤ 9 → a ≠ S j) : IsAll w S (.iface 98 (.pointer (some a))) 10 := fun j j1 j9 w' hb => by
  have h' := h.below (hb.mono hB)
  obtain ⟨c2, t2, b2⟩ := h'.blk j j1 j9
  rw [beq_eq_false_iff_ne.2 (by omega)]
  have hlt : a.block < w.heap.size := by
    rcases Nat.lt_or_ge a.block w.heap.size with h | h
    · exact h
    · rw [Array.getElem?_eq_none h] at ha; cases ha
  exact is_other a (S j) c c2 t t2 w' (hn j j1 j9) ((hb.block _ hlt).trans ha) b2

/-- Ten: another error. -/
def codeNum (k : Nat) : Int := if k = 10 then -1 else k
theorem ret_pair {a b : Int} {x y : Int} (h : a = b) (h2 : x = y) : Ending.returned (.tuple #[.int .i64 a, .int .i64 x]) = .returned (.tuple #[.int .i64 b, .int .i64 y]) := by rw [h, h2]
theorem codeNum_of {n k : Nat} (h : n + 1 = k) (h9 : k ≤ 9) : ((n : Int) + 1) = codeNum k := by unfold codeNum; rw [if_neg (by omega)]; omega
theorem code_nil (w : World) : Calls Tryd.prog 20 #[.nilIface] w fun e w' => e = .returned (.tuple #[.int .i64 0, .int .i64 (-1)]) ∧ w = w' := by
  go_enter Tryd.func20, Tryd.ntmps20
  go_wp2
  go_ret2
  exact ⟨rfl, rfl⟩

set_option maxHeartbeats 2000000 in
theorem code_miss (e0 : Addr) (k : Nat) (S : Nat → Addr) (w : World) (B : Nat) (hB : B ≤ w.heap.size) (h : All9 w B S) (hk1 : 1 ≤ k) (hk2 : k ≤ 10) (hIs : IsAll w S (.iface 98 (.pointer (some e0))) k) :
    Calls Tryd.prog 20 #[.iface 98 (.pointer (some e0))] w fun e w' => e = .returned (.tuple #[.int .i64 (codeNum k), .int .i64 (-1)]) ∧ Below w.heap.size w w' := by
  have hcells : ∀ (b9 : Nat) (w9 : World), Blk w9 b9 28 #[sv S 1, sv S 2, sv S 3, sv S 4, sv S 5, sv S 6, sv S 7, sv S 8, sv S 9] → ∀ i, i < 9 → w9.cell? ⟨b9, i, none⟩ = some (sv S (i + 1)) := fun b9 w9 h9 i hi => by
    have := h9.cell i
    rw [this]
    have : i = 0 ∨ i = 1 ∨ i = 2 ∨ i = 3 ∨ i = 4 ∨ i = 5 ∨ i = 6 ∨ i = 7 ∨ i = 8 := by omega
    rcases this with rfl | rfl | rfl | rfl | rfl | rfl | rfl | rfl | rfl <;> rfl
  have HC := Lib.hid hcells
  have HI := Lib.hid hIs
  have HK := Lib.hid hk1
  clear hcells hIs
  go_enter Tryd.func20, Tryd.ntmps20
  go_wp2_with fail
  refine (as_miss e0 w.heap.size _ ((h.below ((Below.refl _ _).alloc hB _)).g)).mono ?_
  rintro e w1 ⟨rfl, k1⟩
  have kk : Below w.heap.size w w1 := ((Below.refl _ _).alloc (Nat.le_refl _) _).trans (k1.mono (by simp))
  have h1 := h.below (kk.mono hB)
  have g1 : w1.cell? ⟨G 1, 0, none⟩ = some (sv S 1) := (h1.s 1 (by simp)).2.2
  have g2 : w1.cell? ⟨G 2, 0, none⟩ = some (sv S 2) := (h1.s 2 (by simp)).2.2
  have g3 : w1.cell? ⟨G 3, 0, none⟩ = some (sv S 3) := (h1.s 3 (by simp)).2.2
  have g4 : w1.cell? ⟨G 4, 0, none⟩ = some (sv S 4) := (h1.s 4 (by simp)).2.2
  have g5 : w1.cell? ⟨G 5, 0, none⟩ = some (sv S 5) := (h1.s 5 (by simp)).2.2
  have g6 : w1.cell? ⟨G 6, 0, none⟩ = some (sv S 6) := (h1.s 6 (by simp)).2.2
  have g7 : w1.cell? ⟨G 7, 0, none⟩ = some (sv S 7) := (h1.s 7 (by simp)).2.2
  have g8 : w1.cell? ⟨G 8, 0, none⟩ = some (sv S 8) := (h1.s 8 (by simp)).2.2
  have g9 : w1.cell? ⟨G 9, 0, none⟩ = some (sv S 9) := (h1.s 9 (by simp)).2.2
  simp only [G, sv] at g1 g2 g3 g4 g5 g6 g7 g8 g9
  go_wp2_with fail
  go_loopw [3, 27] (fun at_ ix wr => ∃ n : Nat, ix = .int .i64 n ∧ at_ = .int .i64 (-1) ∧ n ≤ 9 ∧ n < k ∧ Blk wr w1.heap.size 28 #[sv S 1, sv S 2, sv S 3, sv S 4, sv S 5, sv S 6, sv S 7, sv S 8, sv S 9] ∧ Below w.heap.size w wr) (fun _ ix _ => 9 - (intOf ix).toNat)
  case atStart => exact ⟨0, rfl, rfl, by omega, by omega, Blk.new _ _ _, kk.alloc kk.size _⟩
  case round =>
    obtain ⟨n, rfl, rfl, hn9, hnk, b9, bw⟩ := hrel
    have B9 := Lib.hid b9
    have BW := Lib.hid bw
    clear b9 bw
    by_cases hlt : n < 9
    · have cn := HC.out _ _ B9.out n hlt
      by_cases hnk2 : n + 1 = k
      · have Hn := Lib.hid hnk2
        clear hnk2
        simp only [sv] at cn
        go_wp2_with fail
        refine (HI.out (n + 1) (by omega) (by omega) _ BW.out).mono ?_
        rintro e w9 ⟨rfl, rfl⟩
        rw [show ((n + 1 == k) = true) from beq_iff_eq.2 Hn.out]
        go_wp2_with fail
        go_ret2
        exact ⟨ret_pair (codeNum_of Hn.out (by have := Hn.out; omega)) rfl, BW.out⟩
      · have Hn := Lib.hid hnk2
        have hn3 : n + 1 < k := by omega
        clear hnk2
        simp only [sv] at cn
        go_wp2_with fail
        refine (HI.out (n + 1) (by omega) (by omega) _ BW.out).mono ?_
        rintro e w9 ⟨rfl, rfl⟩
        rw [show ((n + 1 == k) = false) from beq_eq_false_iff_ne.2 Hn.out]
        go_wp2_with fail
        go_roundw
        case rel => exact ⟨n + 1, by go_num, rfl, by omega, by omega, B9.out, BW.out⟩
        case measure => simp [intOf]; omega
    · have h10 : k = 10 := by omega
      have H10 := Lib.hid h10
      clear h10
      go_wp2_with fail
      go_ret2
      exact ⟨ret_pair (by rw [H10.out]; rfl) rfl, BW.out⟩

set_option maxHeartbeats 2000000 in
theorem code_hit (f : Nat) (a : Int) (t : Value) (k : Nat) (S : Nat → Addr) (w : World) (B : Nat) (hB : B ≤ w.heap.size) (h : All9 w B S) (hk1 : 1 ≤ k) (hk2 : k ≤ 9) (hf : Blk w f 40 #[.int .i64 a, t]) (hIs : IsAll w S (.iface 38 (.pointer (some ⟨f, 0, none⟩))) k) :
    Calls Tryd.prog 20 #[.iface 38 (.pointer (some ⟨f, 0, none⟩))] w fun e w' => e = .returned (.tuple #[.int .i64 k, .int .i64 a]) ∧ Below w.heap.size w w' := by
  have hcells : ∀ (b9 : Nat) (w9 : World), Blk w9 b9 28 #[sv S 1, sv S 2, sv S 3, sv S 4, sv S 5, sv S 6, sv S 7, sv S 8, sv S 9] → ∀ i, i < 9 → w9.cell? ⟨b9, i, none⟩ = some (sv S (i + 1)) := fun b9 w9 h9 i hi => by
    have := h9.cell i
    rw [this]
    have : i = 0 ∨ i = 1 ∨ i = 2 ∨ i = 3 ∨ i = 4 ∨ i = 5 ∨ i = 6 ∨ i = 7 ∨ i = 8 := by omega
    rcases this with rfl | rfl | rfl | rfl | rfl | rfl | rfl | rfl | rfl <;> rfl
  have HC := Lib.hid hcells
  have HI := Lib.hid hIs
  have HK := Lib.hid hk1
  clear hcells hIs
  go_enter Tryd.func20, Tryd.ntmps20
  go_wp2_with fail
  refine (as_hit ⟨f, 0, none⟩ w.heap.size (.pointer none) _ ((h.below ((Below.refl _ _).alloc hB _)).g) (Blk.new _ _ _)).mono ?_
  rintro e w1 ⟨rfl, hb4, k1⟩
  have k1' := k1 w.heap.size (Nat.le_refl _)
  have kk : Below w.heap.size w w1 := ((Below.refl _ _).alloc (Nat.le_refl _) _).trans k1'
  have p1 : w1.cell? ⟨w.heap.size, 0, none⟩ = some (.pointer (some ⟨f, 0, none⟩)) := hb4.cell 0
  have p2 : w1.cell? ⟨f, 0, none⟩ = some (.int .i64 a) := (hf.below kk hf.lt).cell 0
  have h1 := h.below (kk.mono hB)
  have g1 : w1.cell? ⟨G 1, 0, none⟩ = some (sv S 1) := (h1.s 1 (by simp)).2.2
  have g2 : w1.cell? ⟨G 2, 0, none⟩ = some (sv S 2) := (h1.s 2 (by simp)).2.2
  have g3 : w1.cell? ⟨G 3, 0, none⟩ = some (sv S 3) := (h1.s 3 (by simp)).2.2
  have g4 : w1.cell? ⟨G 4, 0, none⟩ = some (sv S 4) := (h1.s 4 (by simp)).2.2
  have g5 : w1.cell? ⟨G 5, 0, none⟩ = some (sv S 5) := (h1.s 5 (by simp)).2.2
  have g6 : w1.cell? ⟨G 6, 0, none⟩ = some (sv S 6) := (h1.s 6 (by simp)).2.2
  have g7 : w1.cell? ⟨G 7, 0, none⟩ = some (sv S 7) := (h1.s 7 (by simp)).2.2
  have g8 : w1.cell? ⟨G 8, 0, none⟩ = some (sv S 8) := (h1.s 8 (by simp)).2.2
  have g9 : w1.cell? ⟨G 9, 0, none⟩ = some (sv S 9) := (h1.s 9 (by simp)).2.2
  simp only [G, sv] at g1 g2 g3 g4 g5 g6 g7 g8 g9
  clear h1 hb4 k1 k1'
  go_wp2_with fail
  go_loopw [3, 27] (fun at_ ix wr => ∃ n : Nat, ix = .int .i64 n ∧ at_ = .int .i64 (a) ∧ n ≤ 9 ∧ n < k ∧ Blk wr w1.heap.size 28 #[sv S 1, sv S 2, sv S 3, sv S 4, sv S 5, sv S 6, sv S 7, sv S 8, sv S 9] ∧ Below w.heap.size w wr) (fun _ ix _ => 9 - (intOf ix).toNat)
  case atStart => exact ⟨0, rfl, rfl, by omega, by omega, Blk.new _ _ _, kk.alloc kk.size _⟩
  case round =>
    obtain ⟨n, rfl, rfl, hn9, hnk, b9, bw⟩ := hrel
    have B9 := Lib.hid b9
    have BW := Lib.hid bw
    clear b9 bw
    by_cases hlt : n < 9
    · have cn := HC.out _ _ B9.out n hlt
      by_cases hnk2 : n + 1 = k
      · have Hn := Lib.hid hnk2
        clear hnk2
        simp only [sv] at cn
        go_wp2_with fail
        refine (HI.out (n + 1) (by omega) (by omega) _ BW.out).mono ?_
        rintro e w9 ⟨rfl, rfl⟩
        rw [show ((n + 1 == k) = true) from beq_iff_eq.2 Hn.out]
        go_wp2_with fail
        go_ret2
        exact ⟨ret_pair (by have := Hn.out; omega) rfl, BW.out⟩
      · have Hn := Lib.hid hnk2
        have hn3 : n + 1 < k := by omega
        clear hnk2
        simp only [sv] at cn
        go_wp2_with fail
        refine (HI.out (n + 1) (by omega) (by omega) _ BW.out).mono ?_
        rintro e w9 ⟨rfl, rfl⟩
        rw [show ((n + 1 == k) = false) from beq_eq_false_iff_ne.2 Hn.out]
        go_wp2_with fail
        go_roundw
        case rel => exact ⟨n + 1, by go_num, rfl, by omega, by omega, B9.out, BW.out⟩
        case measure => simp [intOf]; omega
    · omega

/-- plain.Code tells an error's number and place. -/
theorem code_any (v : Value) (k : Nat) (a : Int) (S : Nat → Addr) (w : World) (B : Nat) (hB : B ≤ w.heap.size) (h : All9 w B S) (hv : Er w B S v k a) :
    Calls Tryd.prog 20 #[v] w fun e w' => e = .returned (.tuple #[.int .i64 k, .int .i64 a]) ∧ Below w.heap.size w w' := by
  cases hv with
  | nil => exact (code_nil w).mono fun e w' ⟨h1, h2⟩ => ⟨h1, h2 ▸ Below.refl _ _⟩
  | bare k h1 h9 =>
    have := code_miss (S k) k S w B hB h h1 (by omega) (isAll_bare h hB h1 h9)
    rw [show codeNum k = k from if_neg (by omega)] at this
    exact this
  | fault k h1 h9 b a hb hk => exact code_hit b a (sv S k) k S w B hB h h1 h9 hk (isAll_fault h hB h1 h9 hk)
end Go.Proofs.YteeaipehkhldhaaDoor
