/- Package round's numbers of flows: eight, each from 1 to 3000. Condition: the sentinels that it names lie in their variables. -/
import Derived.Test.YtkkecnofgmpekaaDoorRankN
import Derived.Test.YtkkecnofgmpekaaDoorSprPlain
namespace Go.Proofs.YtkkecnofgmpekaaDoor
open Go.RowKit
set_option maxRecDepth 100000
def outQ (n : Int) : Bool := decide (n < 1 ∨ 3000 < n)
theorem qnum1_any (n : Int) (w : World) :
    Calls Tryd.prog 74 #[.int .i64 n] w fun e w' => e = .returned (.bool (outQ n)) ∧ w = w' := by
  by_cases h0 : n < 1
  · go_enter Tryd.func74, Tryd.ntmps74
    go_wp2
    go_ret
    exact ⟨ret_bool (by symm; exact decide_eq_true (.inl h0)), rfl⟩
  · have h1 : 1 ≤ n := by omega
    have He := Lib.hid (show outQ n = decide (3000 < n) from decide_eq_decide.2 (by omega))
    clear h0
    go_enter Tryd.func74, Tryd.ntmps74
    go_wp2
    go_ret
    exact ⟨ret_bool (by rw [He.out]; first | rfl | (simp; omega)), rfl⟩
/-- The place of the first number out of bounds; -1: none. -/
def qIdx : List Int → Nat → Int
  | [], _ => -1
  | n :: r, k => if outQ n then k else qIdx r (k + 1)
theorem qIdx_none {l : List Int} {k : Nat} (h : ¬ 0 ≤ qIdx l k) : ∀ n ∈ l, 1 ≤ n ∧ n ≤ 3000 := by
  induction l generalizing k with
  | nil => simp
  | cons x r ih =>
    unfold qIdx at h
    split at h
    · exact absurd (Int.natCast_nonneg k) h
    · rename_i h1
      intro n hn
      rcases List.mem_cons.1 hn with rfl | hn
      · simp only [outQ, decide_eq_true_eq] at h1; omega
      · exact ih h n hn
theorem qIdx_ge (l : List Int) (k : Nat) : qIdx l k = -1 ∨ (k : Int) ≤ qIdx l k := by
  induction l generalizing k with
  | nil => exact .inl rfl
  | cons n r ih =>
    unfold qIdx
    split
    · exact .inr (Int.le_refl _)
    · rcases ih (k + 1) with h | h
      · exact .inl h
      · exact .inr (by omega)
theorem qidx_any (A : Option Addr) (c : Nat) (l : List Int) (w : World) (B : Nat) (h : RdI w B A l) (hl : l.length ≤ 9223372036854775807) :
    Calls Tryd.prog 85 #[.slice A l.length c, .func (.func 74) #[] #[]] w fun e w' => e = .returned (.int .i64 (qIdx l 0)) ∧ w = w' := by
  go_enter Tryd.func85, Tryd.ntmps85
  go_wp2
  go_loopw [5, 8] (fun _ i wr => ∃ k : Nat, k ≤ l.length ∧ i = .int .i64 k ∧ qIdx l 0 = qIdx (l.drop k) k ∧ w = wr) (fun _ i _ => l.length - (intOf i).toNat)
  case atStart => exact ⟨0, Nat.zero_le _, rfl, rfl, rfl⟩
  case round =>
    obtain ⟨k, hk, rfl, hbad, rfl⟩ := hrel
    by_cases hlt : k < l.length
    · obtain ⟨q, o, rfl, hq, h0⟩ := RdI.get h hlt
      rw [List.drop_eq_getElem_cons hlt] at hbad
      have Hbad := Lib.hid hbad
      clear hbad
      go_wp2_with fail
      refine (qnum1_any _ _).mono ?_
      rintro e w1 ⟨rfl, rfl⟩
      cases hx : outQ l[k]
      · have Hx := Lib.hid hx; clear hx
        go_wp2_with fail
        go_roundw
        case rel => exact ⟨k + 1, by omega, by go_num, by rw [Hbad.out]; simp [qIdx, Hx.out], by trivial⟩
        case measure => simp [intOf]; omega
      · have Hx := Lib.hid hx; clear hx
        go_wp2_with fail
        go_ret
        exact ⟨ret_int (by rw [Hbad.out]; simp [qIdx, Hx.out]), rfl⟩
    · rw [List.drop_eq_nil_of_le (by omega)] at hbad
      have Hbad := Lib.hid hbad
      clear hbad
      go_wp2_with fail
      go_ret
      exact ⟨ret_int (by rw [Hbad.out]; rfl), rfl⟩
theorem qcontains_any (A : Option Addr) (c : Nat) (l : List Int) (w : World) (B : Nat) (h : RdI w B A l) (hl : l.length ≤ 9223372036854775807) :
    Calls Tryd.prog 69 #[.slice A l.length c, .func (.func 74) #[] #[]] w fun e w' => e = .returned (.bool (decide (0 ≤ qIdx l 0))) ∧ w = w' := by
  go_enter Tryd.func69, Tryd.ntmps69
  go_wp2_with fail
  refine (qidx_any A c l w B h hl).mono ?_
  rintro e w1 ⟨rfl, rfl⟩
  go_wp2_with fail
  go_ret
  exact ⟨rfl, rfl⟩
/-- The number of the error of flows' numbers. -/
def quErr (l : List Int) : Nat := if l.length = 8 then (if 0 ≤ qIdx l 0 then 2 else 0) else 3
theorem qnumbers_any (A : Option Addr) (c : Nat) (l : List Int) (S : Nat → Addr) (w : World) (B : Nat) (hB : B ≤ w.heap.size) (h : RdI w B A l) (hS : Snt w B S [2, 3]) (hl : l.length ≤ 9223372036854775807) :
    Calls Tryd.prog 58 #[.slice A l.length c] w (EndEr S (quErr l) (-1) w) := by
  have ba := Below.refl w.heap.size w
  have g2 : w.cell? ⟨G 2, 0, none⟩ = some (sv S 2) := ((hS.below (ba.mono hB)) 2 (by simp)).2.2
  have g3 : w.cell? ⟨G 3, 0, none⟩ = some (sv S 3) := ((hS.below (ba.mono hB)) 3 (by simp)).2.2
  have l2 := (hS 2 (by simp)).1
  have l3 := (hS 3 (by simp)).1
  simp only [G, sv] at g2 g3 l2 l3
  by_cases h8 : l.length = 8
  · have hb1 : ((l.length : Int) != 8) = false := by rw [h8]; rfl
    by_cases ho : 0 ≤ qIdx l 0
    · have Hf := Lib.hid (show quErr l = 2 by unfold quErr; rw [if_pos h8, if_pos ho])
      have Ho := Lib.hid (show decide (0 ≤ qIdx l 0) = true from decide_eq_true ho)
      clear h8 ho
      go_enter Tryd.func58, Tryd.ntmps58
      go_wp2_with fail
      refine (qcontains_any A c l _ B h hl).mono ?_
      rintro e w1 ⟨rfl, rfl⟩
      rw [Ho.out]
      go_wp2_with fail
      go_ret
      rw [Hf.out]
      exact ⟨_, rfl, .bare 2 (by omega) (by omega), ba⟩
    · have Hf := Lib.hid (show quErr l = 0 by unfold quErr; rw [if_pos h8, if_neg ho])
      have Ho := Lib.hid (show decide (0 ≤ qIdx l 0) = false from decide_eq_false ho)
      clear h8 ho
      go_enter Tryd.func58, Tryd.ntmps58
      go_wp2_with fail
      refine (qcontains_any A c l _ B h hl).mono ?_
      rintro e w1 ⟨rfl, rfl⟩
      rw [Ho.out]
      go_wp2_with fail
      go_ret
      rw [Hf.out]
      exact ⟨_, rfl, .nil, ba⟩
  · have hb1 : ((l.length : Int) != 8) = true := by simp; omega
    have Hf := Lib.hid (show quErr l = 3 from if_neg h8)
    clear h8
    go_enter Tryd.func58, Tryd.ntmps58
    go_wp2_with fail
    go_ret
    rw [Hf.out]
    exact ⟨_, rfl, .bare 3 (by omega) (by omega), ba⟩
end Go.Proofs.YtkkecnofgmpekaaDoor
