/- floodgateref1.SameSent: the same ones are told to be the same. Condition: the list fits memory. -/
import Derived.Test.YthgpbdlmadjndaaDoorFifoM2
import Derived.Test.YthgpbdlmadjndaaDoorMiscM
namespace Go.Proofs.YthgpbdlmadjndaaDoor
open Go.RowKit
set_option maxRecDepth 100000
theorem sameSn_any (A A' : Option Addr) (c c' : Nat) (l : List Sn) (w : World) (B : Nat) (h : RdS w B A l) (h' : RdS w B A' l) (hl : l.length ≤ 9223372036854775807) :
    Calls Tryd.prog 33 #[.slice A l.length c, .slice A' l.length c'] w fun e w' => e = .returned (.bool true) ∧ ∃ m, w' = w.drewN m := by
  go_enter Tryd.func33, Tryd.ntmps33
  go_wp2_with fail
  go_loopw [5] (fun i wr => ∃ k m : Nat, k ≤ l.length ∧ i = .int .i64 k ∧ wr = w.drewN m) (fun i _ => l.length - (intOf i).toNat)
  case atStart => exact ⟨0, 0, Nat.zero_le _, rfl, rfl⟩
  case round =>
    obtain ⟨k, m, hk, rfl, rfl⟩ := hrel
    by_cases hlt : k < l.length
    · obtain ⟨b, o, rfl, hb, d0, d1, d2⟩ := RdS.get h hlt
      obtain ⟨b', o', rfl, hb', e0, e1, e2⟩ := RdS.get h' hlt
      have q1 : (0 : Int) ≤ (k : Int) := by omega
      have q2 : (k : Int) < (l.length : Int) := by omega
      go_wp2_with fail
      go_quiet (fail)
      go_wp2_with fail
      go_roundw
      case rel => exact ⟨k + 1, _, hlt, by go_num, rfl⟩
      case measure => simp [intOf]; omega
    · go_wp2_with fail
      go_ret
      exact ⟨rfl, _, rfl⟩
end Go.Proofs.YthgpbdlmadjndaaDoor
