/- play.Packets, floodgateref2.PacketsOf: packets of a script. Condition: the script fits memory. -/
import Derived.Test.YthgpbdlmadjndaaDoorFifo
import Derived.Test.YthgpbdlmadjndaaDoorSameI
import Derived.Test.YthgpbdlmadjndaaDoorDelays
import Derived.Laws.OwnMore
namespace Go.Proofs.YthgpbdlmadjndaaDoor
open Go.RowKit
set_option maxRecDepth 100000
def rollPk (v t : Int) : Pk := ⟨v / 7 % 3, 1 + v / 21 % 300, t⟩
def rollGo : List Pk → Int → List Int → List Pk
  | acc, _, [] => acc
  | acc, t, v :: r => if acc.length = 300 then acc else if v < 0 then rollGo acc t r else rollGo (acc ++ [rollPk v (t + v % 7)]) (t + v % 7) r
def rollL (s : List Int) : List Pk := rollGo [] 0 s
/-- Right packets, in order, none behind a tick. -/
structure RollOk (acc : List Pk) (t : Int) : Prop where
  len : acc.length ≤ 300
  ok : ∀ x ∈ acc, 0 ≤ x.f ∧ x.f ≤ 2 ∧ 1 ≤ x.s ∧ x.s ≤ 300 ∧ 0 ≤ x.a ∧ x.a ≤ t
  so : acc.Pairwise (fun x y => x.a ≤ y.a)
theorem RollOk.snoc {acc : List Pk} {t v : Int} (h : RollOk acc t) (hl : acc.length ≠ 300) (hv : 0 ≤ v) (ht : 0 ≤ t) : RollOk (acc ++ [rollPk v (t + v % 7)]) (t + v % 7) := by
  have h1 := h.len
  refine ⟨by simp; omega, fun x hx => ?_, List.pairwise_append.2 ⟨h.so, List.pairwise_singleton _ _, fun a ha b hb => ?_⟩⟩
  · rcases List.mem_append.1 hx with hx | hx
    · have := h.ok x hx
      omega
    · rw [List.mem_singleton.1 hx]
      unfold rollPk
      simp only
      omega
  · rw [List.mem_singleton.1 hb]
    have := h.ok a ha
    unfold rollPk
    simp only
    omega
theorem rollGo_ok (s : List Int) (acc : List Pk) (t : Int) (h : RollOk acc t) (ht : 0 ≤ t) : ∃ t', RollOk (rollGo acc t s) t' ∧ t' ≤ t + 6 * s.length := by
  induction s generalizing acc t with
  | nil => exact ⟨t, h, by simp⟩
  | cons v r ih =>
    unfold rollGo
    by_cases h1 : acc.length = 300
    · rw [if_pos h1]
      exact ⟨t, h, by omega⟩
    · rw [if_neg h1]
      by_cases h2 : v < 0
      · rw [if_pos h2]
        obtain ⟨t', a, b⟩ := ih acc t h ht
        refine ⟨t', a, ?_⟩
        simp only [List.length_cons]; omega
      · rw [if_neg h2]
        obtain ⟨t', a, b⟩ := ih _ _ (h.snoc (v := v) h1 (by omega) ht) (by omega)
        refine ⟨t', a, ?_⟩
        simp only [List.length_cons]; omega
theorem rollL_ok (s : List Int) : ∃ t', RollOk (rollL s) t' ∧ t' ≤ 6 * s.length := by
  obtain ⟨t', a, b⟩ := rollGo_ok s [] 0 ⟨by simp, by simp, List.Pairwise.nil⟩ (Int.le_refl _)
  exact ⟨t', a, by omega⟩
set_option maxHeartbeats 2000000 in
theorem packets_any (A : Option Addr) (c : Nat) (s : List Int) (w : World) (B : Nat) (hB : B ≤ w.heap.size) (h : RdI w B A s) (hl : s.length ≤ 4294967296) (hw : ∀ v ∈ s, v ≤ 9223372036854775807) :
    Calls Tryd.prog 11 #[.slice A s.length c] w (EndOwn Pk.cs 3 42 (rollL s) w) := by
  obtain ⟨i0, hi0, hz0, hz1, hz2⟩ := info_parts infoPk
  go_enter Tryd.func11, Tryd.ntmps11
  go_wp2
  go_loopw [3, 4, 9] (fun v tv iv wr => ∃ (k : Nat) (acc : List Pk) (t : Int) (A' : Option Addr) (c' : Nat), k ≤ s.length ∧ v = .slice A' acc.length c' ∧ tv = .int .i64 t ∧ iv = .int .i64 k ∧ rollL s = rollGo acc t (s.drop k) ∧ acc.length ≤ 300 ∧ 0 ≤ t ∧ t ≤ 6 * (k : Int) ∧ wr.ownsRow w.heap.size 42 3 (.slice A' acc.length c') acc.length (acc.flatMap Pk.cs) ∧ Below w.heap.size w wr) (fun _ _ iv _ => s.length - (intOf iv).toNat)
  case atStart => exact ⟨0, [], 0, none, 0, Nat.zero_le _, rfl, rfl, rfl, rfl, by simp, Int.le_refl _, by omega, ⟨by simp, .inl ⟨rfl, rfl⟩⟩, Below.refl _ _⟩
  case round =>
    obtain ⟨k, acc, t, A', c', hk, rfl, rfl, rfl, hroll, hal, ht0, ht1, row, hbw⟩ := hrel
    have zw := hbw.size
    by_cases hlt : k < s.length
    · obtain ⟨q, o, rfl, hq, d0⟩ := RdI.get (h.below (hbw.mono hB)) hlt
      rw [List.drop_eq_getElem_cons hlt, rollGo] at hroll
      have hv := hw _ (List.getElem_mem hlt)
      obtain ⟨x, hx⟩ : ∃ x, x = s[k] := ⟨_, rfl⟩
      rw [← hx] at hroll hv d0
      have Hx := Lib.hid hx
      clear hx
      have q1 : (0 : Int) ≤ (k : Int) := by omega
      have q2 : (k : Int) < (s.length : Int) := by omega
      have Row := Lib.hid row
      clear row
      by_cases h3 : acc.length = 300
      · rw [if_pos h3] at hroll
        have Hroll := Lib.hid hroll
        have h3' : ((acc.length : Int) == 300) = true := by rw [h3]; rfl
        clear hroll h3
        go_wp2_with fail
        go_ret
        rw [Hroll.out]
        exact ⟨A', c', rfl, Row.out, hbw⟩
      · have h3' : ((acc.length : Int) == 300) = false := by simp; omega
        rw [if_neg h3] at hroll
        by_cases hneg : x < 0
        · rw [if_pos hneg] at hroll
          have Hroll := Lib.hid hroll
          clear hroll h3
          go_wp2_with fail
          go_roundw
          case rel => exact ⟨k + 1, acc, t, A', c', hlt, rfl, rfl, by go_num, Hroll.out, hal, ht0, by omega, Row.out, hbw⟩
          case measure => simp [intOf]; omega
        · rw [if_neg hneg] at hroll
          have n0 : 0 ≤ x := by omega
          have b0 : 0 ≤ t + x % 7 := by omega
          have b1 : t + x % 7 ≤ 9223372036854775807 := by omega
          have b2 : 0 ≤ x / 7 := by omega
          have b3 : x / 7 ≤ 9223372036854775807 := by omega
          have b4 : 0 ≤ x / 21 := by omega
          have b5 : x / 21 ≤ 9223372036854775807 := by omega
          have b6 : 0 ≤ x / 21 % 300 := by omega
          have b7 : x / 21 % 300 ≤ 299 := by omega
          have b8 : 0 ≤ x % 7 := by omega
          have b9 : x % 7 ≤ 6 := by omega
          obtain ⟨out', hout'⟩ : ∃ out', out' = acc ++ [rollPk x (t + x % 7)] := ⟨_, rfl⟩
          rw [← hout'] at hroll
          have hol : out'.length ≤ 300 := by rw [hout']; simp; omega
          have Hroll := Lib.hid hroll
          have Ho := Lib.hid hout'
          have Hol := Lib.hid hol
          have hnew : RdP (wr.alloc (.cells #[.int .i64 (x / 7 % 3), .int .i64 (1 + x / 21 % 300), .int .i64 (t + x % 7)] 42)) (wr.heap.size + 1) (some ⟨wr.heap.size, 0, none⟩) [rollPk x (t + x % 7)] := RdP.new_ (rollPk x (t + x % 7))
          have Hnew := Lib.hid hnew
          clear hroll h3 hout' hol hnew
          go_wp2_with (at_builtin; refine wpList_append_rd _ Pk.cs rfl (.tmp 22) (.tmp 32) 26 rfl w.heap.size 42 i0 (.agg #[.int .i64 0, .int .i64 0, .int .i64 0]) 3 24 Tryd.underlying26 hi0 hz0 hz1 hz2 rfl (by omega) Pk.cs_len Pk.cs_one (.slice A' acc.length c') acc.length (acc.flatMap Pk.cs) rfl (Row.out.alloc _) (wr.heap.size + 1) (some ⟨wr.heap.size, 0, none⟩) 1 [rollPk x (t + x % 7)] rfl Hnew.out (by simp only [maxLen, List.length_cons, List.length_nil]; omega) (by simp only [List.length_cons, List.length_nil]; omega) (by simp; omega) ?_; intro v3 w3 row3 g3 at3; obtain ⟨A5, c5, hv5, row3⟩ := own_app row3 (by omega); rw [← Ho.out] at hv5 row3; rw [hv5]; clear hv5)
          have k3 := below_app (hbw.alloc zw (.cells #[.int .i64 (x / 7 % 3), .int .i64 (1 + x / 21 % 300), .int .i64 (t + x % 7)] 42)) (Row.out.alloc _) g3 (Nat.le_refl _) (by simp; omega)
          go_roundw
          case rel => exact ⟨k + 1, out', t + x % 7, A5, c5, hlt, rfl, rfl, by go_num, Hroll.out, Hol.out, b0, by omega, row3, k3⟩
          case measure => simp [intOf]; omega
    · rw [List.drop_eq_nil_of_le (by omega)] at hroll
      have Hroll := Lib.hid (show rollL s = acc from hroll)
      clear hroll
      go_wp2_with fail
      go_ret
      rw [Hroll.out]
      exact ⟨A', c', rfl, row, hbw⟩
set_option maxHeartbeats 2000000 in
theorem packetsOf_any (A : Option Addr) (c : Nat) (s : List Int) (w : World) (B : Nat) (hB : B ≤ w.heap.size) (h : RdI w B A s) (hl : s.length ≤ 4294967296) (hw : ∀ v ∈ s, v ≤ 9223372036854775807) :
    Calls Tryd.prog 12 #[.slice A s.length c] w (EndOwn Pk.cs 3 42 (rollL s) w) := by
  obtain ⟨i0, hi0, hz0, hz1, hz2⟩ := info_parts infoPk
  go_enter Tryd.func12, Tryd.ntmps12
  go_wp2
  go_loopw [3, 4, 5] (fun v tv iv wr => ∃ (k : Nat) (acc : List Pk) (t : Int) (A' : Option Addr) (c' : Nat), k ≤ s.length ∧ v = .slice A' acc.length c' ∧ tv = .int .i64 t ∧ iv = .int .i64 k ∧ rollL s = rollGo acc t (s.drop k) ∧ acc.length ≤ 300 ∧ 0 ≤ t ∧ t ≤ 6 * (k : Int) ∧ wr.ownsRow w.heap.size 42 3 (.slice A' acc.length c') acc.length (acc.flatMap Pk.cs) ∧ Below w.heap.size w wr) (fun _ _ iv _ => s.length - (intOf iv).toNat)
  case atStart => exact ⟨0, [], 0, none, 0, Nat.zero_le _, rfl, rfl, rfl, rfl, by simp, Int.le_refl _, by omega, ⟨by simp, .inl ⟨rfl, rfl⟩⟩, Below.refl _ _⟩
  case round =>
    obtain ⟨k, acc, t, A', c', hk, rfl, rfl, rfl, hroll, hal, ht0, ht1, row, hbw⟩ := hrel
    have zw := hbw.size
    by_cases hlt : k < s.length
    · obtain ⟨q, o, rfl, hq, d0⟩ := RdI.get (h.below (hbw.mono hB)) hlt
      rw [List.drop_eq_getElem_cons hlt, rollGo] at hroll
      have hv := hw _ (List.getElem_mem hlt)
      obtain ⟨x, hx⟩ : ∃ x, x = s[k] := ⟨_, rfl⟩
      rw [← hx] at hroll hv d0
      have Hx := Lib.hid hx
      clear hx
      have q1 : (0 : Int) ≤ (k : Int) := by omega
      have q2 : (k : Int) < (s.length : Int) := by omega
      have Row := Lib.hid row
      clear row
      by_cases h3 : acc.length = 300
      · rw [if_pos h3] at hroll
        have Hroll := Lib.hid hroll
        have h3' : ¬ (acc.length : Int) < 300 := by omega
        clear hroll h3
        go_wp2_with fail
        go_ret
        rw [Hroll.out]
        exact ⟨A', c', rfl, Row.out, hbw⟩
      · have h3' : (acc.length : Int) < 300 := by omega
        rw [if_neg h3] at hroll
        by_cases hneg : x < 0
        · rw [if_pos hneg] at hroll
          have Hroll := Lib.hid hroll
          clear hroll h3
          go_wp2_with fail
          go_roundw
          case rel => exact ⟨k + 1, acc, t, A', c', hlt, rfl, rfl, by go_num, Hroll.out, hal, ht0, by omega, Row.out, hbw⟩
          case measure => simp [intOf]; omega
        · rw [if_neg hneg] at hroll
          have n0 : 0 ≤ x := by omega
          have b0 : 0 ≤ t + x % 7 := by omega
          have b1 : t + x % 7 ≤ 9223372036854775807 := by omega
          have b2 : 0 ≤ x / 7 := by omega
          have b3 : x / 7 ≤ 9223372036854775807 := by omega
          have b4 : 0 ≤ x / 21 := by omega
          have b5 : x / 21 ≤ 9223372036854775807 := by omega
          have b6 : 0 ≤ x / 21 % 300 := by omega
          have b7 : x / 21 % 300 ≤ 299 := by omega
          have b8 : 0 ≤ x % 7 := by omega
          have b9 : x % 7 ≤ 6 := by omega
          obtain ⟨out', hout'⟩ : ∃ out', out' = acc ++ [rollPk x (t + x % 7)] := ⟨_, rfl⟩
          rw [← hout'] at hroll
          have hol : out'.length ≤ 300 := by rw [hout']; simp; omega
          have Hroll := Lib.hid hroll
          have Ho := Lib.hid hout'
          have Hol := Lib.hid hol
          have hnew : RdP (wr.alloc (.cells #[.int .i64 (x / 7 % 3), .int .i64 (x / 21 % 300 + 1), .int .i64 (t + x % 7)] 42)) (wr.heap.size + 1) (some ⟨wr.heap.size, 0, none⟩) [rollPk x (t + x % 7)] := by rw [show x / 21 % 300 + 1 = 1 + x / 21 % 300 by omega]; exact RdP.new_ (rollPk x (t + x % 7))
          have Hnew := Lib.hid hnew
          clear hroll h3 hout' hol hnew
          go_wp2_with (at_builtin; refine wpList_append_rd _ Pk.cs rfl (.tmp 28) (.tmp 38) 26 rfl w.heap.size 42 i0 (.agg #[.int .i64 0, .int .i64 0, .int .i64 0]) 3 24 Tryd.underlying26 hi0 hz0 hz1 hz2 rfl (by omega) Pk.cs_len Pk.cs_one (.slice A' acc.length c') acc.length (acc.flatMap Pk.cs) rfl (Row.out.alloc _) (wr.heap.size + 1) (some ⟨wr.heap.size, 0, none⟩) 1 [rollPk x (t + x % 7)] rfl Hnew.out (by simp only [maxLen, List.length_cons, List.length_nil]; omega) (by simp only [List.length_cons, List.length_nil]; omega) (by simp; omega) ?_; intro v3 w3 row3 g3 at3; obtain ⟨A5, c5, hv5, row3⟩ := own_app row3 (by omega); rw [← Ho.out] at hv5 row3; rw [hv5]; clear hv5)
          have k3 := below_app (hbw.alloc zw (.cells #[.int .i64 (x / 7 % 3), .int .i64 (x / 21 % 300 + 1), .int .i64 (t + x % 7)] 42)) (Row.out.alloc _) g3 (Nat.le_refl _) (by simp; omega)
          go_roundw
          case rel => exact ⟨k + 1, out', t + x % 7, A5, c5, hlt, rfl, rfl, by go_num, Hroll.out, Hol.out, b0, by omega, row3, k3⟩
          case measure => simp [intOf]; omega
    · rw [List.drop_eq_nil_of_le (by omega)] at hroll
      have Hroll := Lib.hid (show rollL s = acc from hroll)
      clear hroll
      go_wp2_with fail
      go_ret
      rw [Hroll.out]
      exact ⟨A', c', rfl, row, hbw⟩
end Go.Proofs.YthgpbdlmadjndaaDoor
