/- floodgatelaw2's OwnSent, TameSent, lateOf; floodgateref1's SentFault, NumbersError. Conditions written at each. -/
import Derived.Test.YthgpbdlmadjndaaGreatDoorLate
import Derived.Test.YthgpbdlmadjndaaGreatDoorFvB
namespace Go.Proofs.YthgpbdlmadjndaaGreatDoor
open Go.RowKit
set_option maxRecDepth 100000
theorem ownSent_any (A : Option Addr) (c : Nat) (l : List Sn) (w : World) (B : Nat) (h : RdS w B A l) (hl : l.length ≤ 4294967296) :
    Calls Tryz.prog 24 #[.slice A l.length c] w (EndOwn Sn.cs 3 62 l w) := by
  obtain ⟨i0, hi0, hz0, hz1, hz2⟩ := info_parts infoSn
  go_enter Tryz.func24, Tryz.ntmps24
  go_wp2_with (at_builtin; refine wpList_append_rd _ Sn.cs rfl (.tmp 4) (.tmp 5) _ rfl w.heap.size 62 i0 _ 3 24 Tryz.underlying39 hi0 hz0 hz1 hz2 rfl (by omega) Sn.cs_len Sn.cs_one (.slice none 0 0) 0 [] rfl ⟨by simp, .inl ⟨rfl, rfl⟩⟩ B A c l rfl h (by simp only [maxLen]; omega) (by omega) (Nat.le_refl _) ?_; intro v1 w1 hown1 hg1 hat1; simp only [Nat.zero_add, List.nil_append] at hown1; obtain ⟨A1, c1, rfl⟩ := own_slice hown1 (by omega))
  go_ret
  exact ⟨A1, c1, rfl, hown1, (Below.refl _ _).grown hg1 (Nat.le_refl _) (by simp [Value.ownBlock])⟩
def tameX (x : Sn) : Bool := decide (-1125899906842624 ≤ x.f ∧ x.f ≤ 1125899906842624 ∧ -1125899906842624 ≤ x.t ∧ x.t ≤ 1125899906842624)
def tameB (l : List Sn) : Bool := l.all tameX
def tameN (l : List Sn) : Int := if tameB l then 1 else 0
theorem tameB_of {l : List Sn} (h : tameB l = true) : ∀ x ∈ l, tame50 x.t := fun x hx => by
  have := of_decide_eq_true (List.all_eq_true.1 h x hx)
  exact ⟨this.2.2.1, this.2.2.2⟩
/-- The number of the error of flows' numbers, from a least one to a greatest. -/
def numE (l : List Int) (least most : Int) : Nat := if l.length = 8 then (if l.all (fun n => decide (least ≤ n ∧ n ≤ most)) then 0 else 2) else 3
theorem numE_eq (l : List Int) (most : Int) : numE l 0 most = numErr l most := by
  have key : ∀ (l : List Int) (k : Nat), l.all (fun n => decide (0 ≤ n ∧ n ≤ most)) = decide (¬ 0 ≤ outIdx most l k) := fun l => by
    induction l with
    | nil => intro k; rfl
    | cons x r ih =>
      intro k
      show (decide (0 ≤ x ∧ x ≤ most) && _) = _
      unfold outIdx
      by_cases hx : 0 ≤ x ∧ x ≤ most
      · rw [decide_eq_true hx, if_neg (by unfold outB; rw [decide_eq_true_iff]; omega), Bool.true_and]
        exact ih (k + 1)
      · rw [decide_eq_false hx, if_pos (by unfold outB; rw [decide_eq_true_iff]; omega), Bool.false_and]
        symm
        rw [decide_eq_false_iff_not]
        exact fun h => h (Int.natCast_nonneg k)
  unfold numE numErr
  split
  · rw [key l 0]
    by_cases h : 0 ≤ outIdx most l 0
    · rw [if_pos h, decide_eq_false (fun h9 => h9 h)]; rfl
    · rw [if_neg h, decide_eq_true h]; rfl
  · rfl
theorem numbersError_any (A : Option Addr) (c : Nat) (l : List Int) (least most : Int) (w : World) (B : Nat) (h : RdI w B A l) (hl : l.length ≤ 9223372036854775807) :
    Calls Tryz.prog 33 #[.slice A l.length c, .int .i64 least, .int .i64 most] w fun e w' => e = .returned (.int .i64 (numE l least most)) ∧ w = w' := by
  by_cases h8 : l.length = 8
  · have hb1 : ((l.length : Int) != 8) = false := by rw [h8]; rfl
    have H8 := Lib.hid h8
    clear h8
    go_enter Tryz.func33, Tryz.ntmps33
    go_wp2_with fail
    go_loopw [7] (fun i wr => ∃ k : Nat, k ≤ l.length ∧ i = .int .i64 k ∧ l.all (fun n => decide (least ≤ n ∧ n ≤ most)) = (l.drop k).all (fun n => decide (least ≤ n ∧ n ≤ most)) ∧ w = wr) (fun i _ => l.length - (intOf i).toNat)
    case atStart => exact ⟨0, Nat.zero_le _, rfl, rfl, rfl⟩
    case round =>
      obtain ⟨k, hk, rfl, hb, rfl⟩ := hrel
      by_cases hlt : k < l.length
      · obtain ⟨b, o, rfl, hbb, d0⟩ := RdI.get h hlt
        rw [List.drop_eq_getElem_cons hlt] at hb
        have q1 : (k : Int) < (l.length : Int) := by omega
        have q2 : (0 : Int) ≤ (k : Int) := by omega
        by_cases hx : least ≤ l[k] ∧ l[k] ≤ most
        · have Hb := Lib.hid (show l.all (fun n => decide (least ≤ n ∧ n ≤ most)) = (l.drop (k + 1)).all (fun n => decide (least ≤ n ∧ n ≤ most)) by rw [hb, List.all_cons, decide_eq_true hx, Bool.true_and])
          obtain ⟨x1, x2⟩ := hx
          clear hb
          go_wp2_with fail
          go_roundw
          case rel => exact ⟨k + 1, hlt, by go_num, Hb.out, by trivial⟩
          case measure => simp [intOf]; omega
        · have Hb := Lib.hid (show numE l least most = 2 by unfold numE; rw [if_pos H8.out, hb, List.all_cons, decide_eq_false hx]; rfl)
          have hx2 : l[k] < least ∨ (least ≤ l[k] ∧ most < l[k]) := by omega
          clear hb hx
          rcases hx2 with x1 | ⟨x1, x2⟩
          all_goals
            go_wp2_with fail
            go_ret
            exact ⟨ret_int (by rw [Hb.out]; rfl), rfl⟩
      · have Hb := Lib.hid (show numE l least most = 0 by unfold numE; rw [if_pos H8.out, hb, List.drop_eq_nil_of_le (by omega)]; rfl)
        clear hb
        go_wp2_with fail
        go_ret
        exact ⟨ret_int (by rw [Hb.out]; rfl), rfl⟩
  · have hb1 : ((l.length : Int) != 8) = true := by simp; omega
    have Hb := Lib.hid (show numE l least most = 3 from if_neg h8)
    clear h8
    go_enter Tryz.func33, Tryz.ntmps33
    go_wp2_with fail
    go_ret
    exact ⟨ret_int (by rw [Hb.out]; rfl), rfl⟩
end Go.Proofs.YthgpbdlmadjndaaGreatDoor
