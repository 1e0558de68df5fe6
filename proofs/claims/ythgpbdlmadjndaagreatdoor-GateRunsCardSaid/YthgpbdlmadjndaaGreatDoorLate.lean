/- Package rank's Late. Conditions: ticks are not too great; the sentinels that it names lie in their variables. -/
import Derived.Test.YthgpbdlmadjndaaGreatDoorRkM
import Derived.Test.YthgpbdlmadjndaaGreatDoorMiscM
import Derived.StillTailTactics
namespace Go.Proofs.YthgpbdlmadjndaaGreatDoor
open Go.RowKit
set_option maxRecDepth 100000
def lateY (p : List Pk) (dues : List Int) (x : Sn) : Int := x.t - aOf p x.p.toNat - dues.getD (fOf p x.p.toNat).toNat 0
def lateGo (p : List Pk) (dues : List Int) : Int → List Sn → Int
  | n, [] => n
  | n, x :: r => lateGo p dues (if n < lateY p dues x then lateY p dues x else n) r
def lateErr (p : List Pk) (l : List Sn) (dues : List Int) : Nat × Int := if (pktErr p).1 ≠ 0 then pktErr p else if numErr dues 1099511627776 ≠ 0 then (numErr dues 1099511627776, -1) else delErr p.length l
def lateV (p : List Pk) (l : List Sn) (dues : List Int) : Int := if (lateErr p l dues).1 = 0 then lateGo p dues 0 l else 0
theorem numErr_ok {l : List Int} {most : Int} (h : numErr l most = 0) : l.length = 8 ∧ ∀ n ∈ l, 0 ≤ n ∧ n ≤ most := by
  unfold numErr at h
  by_cases h8 : l.length = 8
  · rw [if_pos h8] at h
    by_cases ho : 0 ≤ outIdx most l 0
    · rw [if_pos ho] at h; omega
    · exact ⟨h8, outIdx_none ho⟩
  · rw [if_neg h8] at h; omega
end Go.Proofs.YthgpbdlmadjndaaGreatDoor
