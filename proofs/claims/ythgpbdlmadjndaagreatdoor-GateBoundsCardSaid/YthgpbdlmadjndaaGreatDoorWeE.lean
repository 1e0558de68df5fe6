/- floodgateref2.WeightsError. Condition written at it. -/
import Derived.Test.YthgpbdlmadjndaaGreatDoorSentRef
import Derived.Test.YthgpbdlmadjndaaGreatDoorFrC
namespace Go.Proofs.YthgpbdlmadjndaaGreatDoor
open Go.RowKit
set_option maxRecDepth 100000
theorem weIdx_all {l : List Int} (h : ∀ n ∈ l, outW n = false) (k : Nat) : weIdx l k = -1 := by
  induction l generalizing k with
  | nil => rfl
  | cons x r ih =>
    unfold weIdx
    rw [h x List.mem_cons_self]
    exact ih (fun n hn => h n (List.mem_cons_of_mem _ hn)) (k + 1)
theorem weIdx_ex {l : List Int} (h : ∃ n ∈ l, outW n = true) (k : Nat) : 0 ≤ weIdx l k := by
  induction l generalizing k with
  | nil => obtain ⟨n, hn, _⟩ := h; cases hn
  | cons x r ih =>
    unfold weIdx
    by_cases hx : outW x = true
    · rw [if_pos hx]; exact Int.natCast_nonneg k
    · rw [if_neg hx]
      obtain ⟨n, hn, ho⟩ := h
      rcases List.mem_cons.1 hn with rfl | hn
      · exact absurd ho hx
      · exact ih ⟨n, hn, ho⟩ (k + 1)
theorem numE_ok {l : List Int} (h : numE l 1 12 = 0) : l.length = 8 ∧ ∀ n ∈ l, 1 ≤ n ∧ n ≤ 12 := by
  unfold numE at h
  by_cases h8 : l.length = 8
  · rw [if_pos h8] at h
    by_cases ha : l.all (fun n => decide (1 ≤ n ∧ n ≤ 12)) = true
    · exact ⟨h8, fun n hn => of_decide_eq_true (List.all_eq_true.1 ha n hn)⟩
    · rw [if_neg ha] at h; omega
  · rw [if_neg h8] at h; omega
theorem numE_we {l : List Int} (h : numE l 1 12 ≠ 0) : weErr l = numE l 1 12 := by
  unfold numE at h ⊢
  unfold weErr
  by_cases h8 : l.length = 8
  · rw [if_pos h8] at h ⊢
    rw [if_pos h8]
    by_cases ha : l.all (fun n => decide (1 ≤ n ∧ n ≤ 12)) = true
    · rw [if_pos ha] at h; exact absurd rfl h
    · rw [if_neg ha]
      rw [Bool.not_eq_true, List.all_eq_false] at ha
      obtain ⟨n, hn, hd⟩ := ha
      rw [decide_eq_true_iff] at hd
      rw [if_pos (weIdx_ex ⟨n, hn, decide_eq_true (by omega)⟩ 0)]
  · rw [if_neg h8, if_neg h8]
set_option maxHeartbeats 1000000 in
theorem weightsError_any (A : Option Addr) (c : Nat) (l : List Int) (w : World) (B : Nat) (h : RdI w B A l) (hl : l.length ≤ 9223372036854775807) :
    Calls Tryz.prog 34 #[.slice A l.length c] w fun e w' => e = .returned (.int .i64 (weErr l)) ∧ w = w' := by
  by_cases hn : numE l 1 12 = 0
  · obtain ⟨h8, hb⟩ := numE_ok hn
    have Hn := Lib.hid hn
    have H8 := Lib.hid h8
    clear hn h8
    go_enter Tryz.func34, Tryz.ntmps34
    go_wp2_with fail
    refine (numbersError_any A c l 1 12 w B h hl).mono ?_
    rintro e wx ⟨rfl, rfl⟩
    rw [Hn.out]
    go_wp2_with fail
    go_loopw [3, 4] (fun ev iv wr => ∃ (k : Nat) (e : Int), k ≤ l.length ∧ iv = .int .i64 k ∧ ev = .int .i64 e ∧ wr = w ∧ ((e = 0 ∧ ∀ (j : Nat) (hj : j < l.length), j < k → 12 % l[j] = 0) ∨ (e = 2 ∧ ∃ (j : Nat) (hj : j < l.length), ¬ 12 % l[j] = 0))) (fun _ iv _ => l.length - (intOf iv).toNat)
    case atStart => exact ⟨0, 0, Nat.zero_le _, rfl, rfl, rfl, .inl ⟨rfl, fun j hj h0 => absurd h0 (Nat.not_lt_zero _)⟩⟩
    case round =>
      obtain ⟨k, e, hk, rfl, rfl, rfl, he⟩ := hrel
      rcases he with ⟨rfl, hz⟩ | ⟨rfl, hz⟩
      · have HZ := Lib.hid hz
        clear hz
        by_cases hlt : k < l.length
        · obtain ⟨q, o, rfl, hq, d0⟩ := RdI.get h hlt
          obtain ⟨b1, b2⟩ := hb _ (List.getElem_mem hlt)
          obtain ⟨x, hx⟩ : ∃ x, x = l[k] := ⟨_, rfl⟩
          rw [← hx] at d0 b1 b2
          have y0 : x ≠ 0 := by omega
          have j1 : (0 : Int) ≤ (k : Int) := by omega
          have j2 : (k : Int) < (l.length : Int) := by omega
          by_cases hr : 12 % x = 0
          · have HR := Lib.hid (show 12 % l[k] = 0 by rw [← hx]; exact hr)
            have hrb : (12 % x != 0) = false := by rw [hr]; rfl
            have Hx := Lib.hid hx
            clear hr hx
            go_wp2_with fail
            go_roundw
            case rel => exact ⟨k + 1, 0, hlt, by go_num, rfl, by trivial, .inl ⟨rfl, fun j hj hjk => by
              rcases Nat.lt_succ_iff_lt_or_eq.1 hjk with h9 | rfl
              · exact HZ.out j hj h9
              · exact HR.out⟩⟩
            case measure => simp [intOf]; omega
          · have HR := Lib.hid (show ¬ 12 % l[k] = 0 by rw [← hx]; exact hr)
            have hrb : (12 % x != 0) = true := by simp [hr]
            have Hx := Lib.hid hx
            clear hr hx
            go_wp2_with fail
            go_roundw
            case rel => exact ⟨k + 1, 2, hlt, by go_num, rfl, by trivial, .inr ⟨rfl, k, hlt, HR.out⟩⟩
            case measure => simp [intOf]; omega
        · have Hw := Lib.hid (show weErr l = 0 by
            unfold weErr
            rw [if_pos H8.out, weIdx_all (fun n hn => by
              obtain ⟨j, hj, rfl⟩ := List.mem_iff_getElem.1 hn
              have h1 := hb _ (List.getElem_mem hj)
              have h2 := HZ.out j hj (by omega)
              exact decide_eq_false (by omega)) 0]
            rfl)
          go_wp2_with fail
          go_ret
          exact ⟨ret_int (by rw [Hw.out]; rfl), rfl⟩
      · have Hw := Lib.hid (show weErr l = 2 by
          obtain ⟨j, hj, h2⟩ := hz
          unfold weErr
          rw [if_pos H8.out, if_pos (weIdx_ex ⟨l[j], List.getElem_mem hj, decide_eq_true (.inr (.inr h2))⟩ 0)])
        clear hz
        by_cases hlt : k < l.length
        · go_wp2_with fail
          go_ret
          exact ⟨ret_int (by rw [Hw.out]; rfl), rfl⟩
        · go_wp2_with fail
          go_ret
          exact ⟨ret_int (by rw [Hw.out]; rfl), rfl⟩
  · have Hw := Lib.hid (numE_we hn)
    obtain ⟨en, hen⟩ : ∃ en, en = numE l 1 12 := ⟨_, rfl⟩
    rw [← hen] at hn
    have Hen := Lib.hid hen
    have hne : ((en : Int) == 0) = false := beq_eq_false_iff_ne.2 (by omega)
    clear hen hn
    go_enter Tryz.func34, Tryz.ntmps34
    go_wp2_with fail
    refine (numbersError_any A c l 1 12 w B h hl).mono ?_
    rintro e wx ⟨rfl, rfl⟩
    rw [← Hen.out]
    go_wp2_with fail
    go_loopw [3, 4] (fun ev iv wr => iv = .int .i64 0 ∧ ev = .int .i64 en ∧ wr = w) (fun _ _ _ => 0)
    case atStart => exact ⟨rfl, rfl, rfl⟩
    case round =>
      obtain ⟨rfl, rfl, rfl⟩ := hrel
      by_cases hlt : 0 < l.length
      · have hlt2 : (0 : Int) < (l.length : Int) := by omega
        go_wp2_with fail
        go_ret
        exact ⟨ret_int (by rw [Hw.out, ← Hen.out]), rfl⟩
      · have hlt2 : ¬ (0 : Int) < (l.length : Int) := by omega
        go_wp2_with fail
        go_ret
        exact ⟨ret_int (by rw [Hw.out, ← Hen.out]), rfl⟩
end Go.Proofs.YthgpbdlmadjndaaGreatDoor
