/- floodgateref1.SameInts: whether two lists of numbers are the same. Condition: both fit memory. -/
import Derived.Test.YtkkecnofgmpekaaDoorProg
import Derived.Test.YtkkecnofgmpekaaDoorMem
import Derived.WalkKit
import Derived.WalkLawsBesides
import Derived.WalkSpells
import Derived.BigQuiet
import Derived.Deep.QuietTactic
namespace Go.Proofs.YtkkecnofgmpekaaDoor
open Go.RowKit
set_option maxRecDepth 100000
theorem RdI.get {w : World} {B : Nat} {A : Option Addr} {l : List Int} (h : RdI w B A l) {i : Nat} (hi : i < l.length) : ∃ b o, A = some ⟨b, o, none⟩ ∧ b < B ∧ w.cell? ⟨b, o + i, none⟩ = some (.int .i64 l[i]) := by
  obtain ⟨b, o, e, hb, hc⟩ := h.at_ hi
  have := hc 0 _ rfl
  simp only [Nat.mul_one, Nat.add_zero] at this
  exact ⟨b, o, e, hb, this⟩
theorem take_ne {α : Type} {a b : List α} {k : Nat} (h1 : k < a.length) (h2 : k < b.length) (h : a[k] ≠ b[k]) : a ≠ b := fun e => by subst e; exact h rfl
theorem take_next {α : Type} {a b : List α} {k : Nat} (ht : a.take k = b.take k) (h1 : k < a.length) (h2 : k < b.length) (h : a[k] = b[k]) : a.take (k + 1) = b.take (k + 1) := by
  rw [List.take_succ_eq_append_getElem h1, List.take_succ_eq_append_getElem h2, ht, h]
set_option maxHeartbeats 400000 in
theorem sameI_any (A A' : Option Addr) (c c' : Nat) (a b : List Int) (w : World) (B : Nat) (h : RdI w B A a) (h' : RdI w B A' b) (hl : a.length ≤ 9223372036854775807) (hl' : b.length ≤ 9223372036854775807) :
    Calls Tryd.prog 36 #[.slice A a.length c, .slice A' b.length c'] w fun e w' => e = .returned (.bool (decide (a = b))) ∧ ∃ n, w.drewN n = w' := by
  by_cases hlen : a.length = b.length
  · have hb1 : ((a.length : Int) != (b.length : Int)) = false := by rw [hlen]; simp
    have Hlen := Lib.hid hlen
    clear hlen
    go_enter Tryd.func36, Tryd.ntmps36
    go_wp2
    go_loopw [5] (fun i wr => ∃ k n : Nat, k ≤ a.length ∧ i = .int .i64 k ∧ a.take k = b.take k ∧ w.drewN n = wr) (fun i _ => a.length - (intOf i).toNat)
    case atStart => exact ⟨0, 0, Nat.zero_le _, rfl, by simp, rfl⟩
    case round =>
      obtain ⟨k, n, hk, rfl, ht, rfl⟩ := hrel
      have Ht := Lib.hid ht
      clear ht
      by_cases hlt : k < a.length
      · have hlt2 : k < b.length := by have := Hlen.out; omega
        obtain ⟨q, o, rfl, hb, d0⟩ := RdI.get h hlt
        obtain ⟨q', o', rfl, hb', d0'⟩ := RdI.get h' hlt2
        have hi2 : (k : Int) < (b.length : Int) := by omega
        cases he : (a[k] != b[k])
        · have He := Lib.hid (show a[k] = b[k] by simpa using he)
          go_wp2_with fail
          go_quiet (fail)
          go_wp2
          go_roundw
          case rel => exact ⟨k + 1, _, by omega, by go_num, take_next Ht.out hlt hlt2 He.out, rfl⟩
          case measure => simp [intOf]; omega
        · have He := Lib.hid (show a[k] ≠ b[k] by simpa using he)
          go_wp2_with fail
          go_quiet (fail)
          go_wp2
          go_ret
          exact ⟨ret_bool (by symm; exact decide_eq_false (take_ne hlt hlt2 He.out)), n + nq, (World.drewN_drewN _ _ _).symm⟩
      · have hk2 : a.length ≤ k := by omega
        go_wp2
        go_ret
        exact ⟨ret_bool (by symm; exact decide_eq_true (by have := Ht.out; rwa [List.take_of_length_le hk2, List.take_of_length_le (by have := Hlen.out; omega)] at this)), n, rfl⟩
  · have hb1 : ((a.length : Int) != (b.length : Int)) = true := by simp; omega
    have Hf := Lib.hid (show decide (a = b) = false from decide_eq_false (fun e => hlen (by rw [e])))
    clear hlen
    go_enter Tryd.func36, Tryd.ntmps36
    go_wp2
    go_ret
    exact ⟨ret_bool Hf.out.symm, 0, rfl⟩
end Go.Proofs.YtkkecnofgmpekaaDoor
