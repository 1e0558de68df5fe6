/- Package rank: the key of Run, and the closures of least, as a picker. Conditions written at each. -/
import Derived.Test.YtkkecnofgmpekaaDoorSrv
import Derived.Test.YtkkecnofgmpekaaDoorBlk
import Derived.Test.YtkkecnofgmpekaaDoorRankN
import Derived.Test.YtkkecnofgmpekaaDoorRankP
import Derived.Test.YtkkecnofgmpekaaDoorShelf
namespace Go.Proofs.YtkkecnofgmpekaaDoor
open Go.RowKit
set_option maxRecDepth 100000
def rankKey (p : List Pk) (ranks : List Int) (k : Nat) : Int := ranks.getD (fOf p k).toNat 0
theorem rkey_any (k : Nat) (A A' : Option Addr) (c c' : Nat) (p : List Pk) (l : List Int) (bp br : Nat) (w : World) (B : Nat) (hp : RdP w B A p) (hl : RdI w B A' l) (h1 : Blk w bp 22 #[.slice A p.length c]) (h2 : Blk w br 35 #[.slice A' l.length c'])
    (hk : k < p.length) (h8 : l.length = 8) (hf0 : 0 ≤ p[k].f) (hf1 : p[k].f < 8) :
    Calls Tryd.prog 57 #[.int .i64 k, .pointer (some ⟨br, 0, none⟩), .pointer (some ⟨bp, 0, none⟩)] w fun e w' => e = .returned (.int .i64 (rankKey p l k)) ∧ ∃ m, w' = w.drewN m := by
  have c1 : w.cell? ⟨bp, 0, none⟩ = some (.slice A p.length c) := h1.cell 0
  have c2 : w.cell? ⟨br, 0, none⟩ = some (.slice A' l.length c') := h2.cell 0
  obtain ⟨b, o, rfl, hb, d0, d1, d2⟩ := RdP.get hp hk
  obtain ⟨f, hf⟩ : ∃ f : Nat, p[k].f = f := ⟨p[k].f.toNat, by omega⟩
  have hfl : f < l.length := by omega
  obtain ⟨b', o', rfl, hb', e0⟩ := RdI.get hl hfl
  have Hk := Lib.hid (show rankKey p l k = l[f] by unfold rankKey; rw [fOf_of hk, hf, Int.toNat_natCast]; simp [List.getD, hfl])
  rw [hf] at d0
  clear hf hf0 hf1 h1 h2 h8
  have q1 : (0 : Int) ≤ (f : Int) := by omega
  have q2 : (f : Int) < (l.length : Int) := by omega
  have q3 : (0 : Int) ≤ (k : Int) := by omega
  have q4 : (k : Int) < (p.length : Int) := by omega
  go_enter Tryd.func57, Tryd.ntmps57
  go_wp2_with fail
  go_quiet (fail)
  go_wp2
  go_ret
  exact ⟨ret_int Hk.out.symm, _, rfl⟩
end Go.Proofs.YtkkecnofgmpekaaDoor
