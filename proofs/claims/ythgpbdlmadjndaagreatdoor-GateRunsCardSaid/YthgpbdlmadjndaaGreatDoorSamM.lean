/- floodgateref1.SameSent: the same ones are told to be the same. Condition: the list fits memory. floodgateref1.SamePackets. Condition: the lists fit memory. -/
import Derived.Test.YthgpbdlmadjndaaGreatDoorFifoM2
import Derived.Test.YthgpbdlmadjndaaGreatDoorMiscM
import Derived.Test.YthgpbdlmadjndaaGreatDoorShB
namespace Go.Proofs.YthgpbdlmadjndaaGreatDoor
open Go.RowKit
set_option maxRecDepth 100000
theorem sameSn_any (A A' : Option Addr) (c c' : Nat) (l : List Sn) (w : World) (B : Nat) (h : RdS w B A l) (h' : RdS w B A' l) (hl : l.length ≤ 9223372036854775807) :
    Calls Tryz.prog 17 #[.slice A l.length c, .slice A' l.length c'] w fun e w' => e = .returned (.bool true) ∧ ∃ m, w' = w.drewN m := by
  go_enter Tryz.func17, Tryz.ntmps17
  go_wp2_with fail
  go_loopw [5] (fun i wr => ∃ k m : Nat, k ≤ l.length ∧ i = .int .i64 k ∧ wr = w.drewN m) (fun i _ => l.length - (intOf i).toNat)
  case atStart => exact ⟨0, 0, Nat.zero_le _, rfl, rfl⟩
  case round =>
    obtain ⟨k, m, hk, rfl, rfl⟩ := hrel
    by_cases hlt : k < l.length
    · obtain ⟨b, o, rfl, hb, d0, d1, d2⟩ := RdS.get h hlt
      obtain ⟨b', o', rfl, hb', e0, e1, e2⟩ := RdS.get h' hlt
      have q1 : (0 : Int) ≤ (k : Int) := by omega
      have q2 : (k : Int) < (l.length : Int) := by omega
      go_wp2_with fail
      go_quiet (fail)
      go_wp2_with fail
      go_roundw
      case rel => exact ⟨k + 1, _, hlt, by go_num, rfl⟩
      case measure => simp [intOf]; omega
    · go_wp2_with fail
      go_ret
      exact ⟨rfl, _, rfl⟩
end Go.Proofs.YthgpbdlmadjndaaGreatDoor
namespace Go.Proofs.YthgpbdlmadjndaaGreatDoor
open Go.RowKit
set_option maxRecDepth 100000
theorem pk_ne {x y : Pk} (h : x ≠ y) : ((x.f == y.f) = false) ∨ ((x.f == y.f) = true ∧ (x.s == y.s) = false) ∨ ((x.f == y.f) = true ∧ (x.s == y.s) = true ∧ (x.a == y.a) = false) := by
  obtain ⟨a, b, c⟩ := x
  obtain ⟨d, e, f⟩ := y
  simp only [beq_eq_false_iff_ne, beq_iff_eq, ne_eq, Pk.mk.injEq, not_and] at h ⊢
  by_cases h1 : a = d
  · by_cases h2 : b = e
    · exact .inr (.inr ⟨h1, h2, h h1 h2⟩)
    · exact .inr (.inl ⟨h1, h2⟩)
  · exact .inl h1
theorem take_eq_of {l l' : List Pk} {k : Nat} (h : l.take k = l'.take k) (hk : k < l.length) (hk' : k < l'.length) (he : l[k] = l'[k]) : l.take (k + 1) = l'.take (k + 1) := by
  rw [List.take_succ_eq_append_getElem hk, List.take_succ_eq_append_getElem hk', h, he]
set_option maxHeartbeats 1000000 in
theorem samePk_any (A A' : Option Addr) (c c' : Nat) (l l' : List Pk) (w : World) (B : Nat) (h : RdP w B A l) (h' : RdP w B A' l') (hl : l.length ≤ 9223372036854775807) (hl' : l'.length ≤ 9223372036854775807) :
    Calls Tryz.prog 16 #[.slice A l.length c, .slice A' l'.length c'] w fun e w' => e = .returned (.bool (decide (l = l'))) ∧ ∃ m, w' = w.drewN m := by
  by_cases hn : l.length = l'.length
  · have hb1 : ((l.length : Int) != (l'.length : Int)) = false := by rw [hn]; simp
    have Hn := Lib.hid hn
    clear hn
    go_enter Tryz.func16, Tryz.ntmps16
    go_wp2_with fail
    go_loopw [5] (fun i wr => ∃ k m : Nat, k ≤ l.length ∧ i = .int .i64 k ∧ l.take k = l'.take k ∧ wr = w.drewN m) (fun i _ => l.length - (intOf i).toNat)
    case atStart => exact ⟨0, 0, Nat.zero_le _, rfl, rfl, rfl⟩
    case round =>
      obtain ⟨k, m, hk, rfl, ht, rfl⟩ := hrel
      have Ht := Lib.hid ht
      clear ht
      by_cases hlt : k < l.length
      · have hlt2 : k < l'.length := by rw [← Hn.out]; exact hlt
        obtain ⟨b, o, rfl, hb, d0, d1, d2⟩ := RdP.get h hlt
        obtain ⟨b', o', rfl, hb', e0, e1, e2⟩ := RdP.get h' hlt2
        have q1 : (0 : Int) ≤ (k : Int) := by omega
        have q2 : (k : Int) < (l.length : Int) := by omega
        have q3 : (k : Int) < (l'.length : Int) := by omega
        by_cases he : l[k] = l'[k]
        · have Ht2 := Lib.hid (take_eq_of Ht.out hlt hlt2 he)
          rw [← he] at e0 e1 e2
          clear he
          go_wp2_with fail
          go_quiet (fail)
          go_wp2_with fail
          go_roundw
          case rel => exact ⟨k + 1, _, hlt, by go_num, Ht2.out, rfl⟩
          case measure => simp [intOf]; omega
        · have Hf := Lib.hid (show decide (l = l') = false from decide_eq_false (fun e9 => he (by subst e9; rfl)))
          have hc := pk_ne he
          clear he
          rcases hc with hc | ⟨hc1, hc⟩ | ⟨hc1, hc2, hc⟩
          all_goals
            go_wp2_with fail
            go_quiet (fail)
            go_wp2_with fail
            go_ret
            rw [Hf.out]
            exact ⟨rfl, _, World.drewN_drewN _ _ _⟩
      · have Hf := Lib.hid (show decide (l = l') = true from decide_eq_true (by have := Ht.out; rw [List.take_of_length_le (by omega), List.take_of_length_le (by rw [← Hn.out]; omega)] at this; exact this))
        go_wp2_with fail
        go_ret
        rw [Hf.out]
        exact ⟨rfl, _, rfl⟩
  · have hb1 : ((l.length : Int) != (l'.length : Int)) = true := by simp; omega
    have Hf := Lib.hid (show decide (l = l') = false from decide_eq_false (fun e9 => hn (by rw [e9])))
    clear hn
    go_enter Tryz.func16, Tryz.ntmps16
    go_wp2_with fail
    go_ret
    rw [Hf.out]
    exact ⟨rfl, 0, rfl⟩
end Go.Proofs.YthgpbdlmadjndaaGreatDoor
