/- floodgatelaw2.sends returns true; fitPackets. Condition: the sentinels that the calls name lie in their variables. -/
import Derived.Test.YthgpbdlmadjndaaDoorLindP
import Derived.Test.YthgpbdlmadjndaaDoorOwnP
namespace Go.Proofs.YthgpbdlmadjndaaDoor
open Go.RowKit
set_option maxRecDepth 100000
theorem RdS.get {w : World} {B : Nat} {A : Option Addr} {l : List Sn} (h : RdS w B A l) {i : Nat} (hi : i < l.length) :
    ∃ b o, A = some ⟨b, o, none⟩ ∧ b < B ∧ w.cell? ⟨b, o + i * 3, none⟩ = some (.int .i64 l[i].p) ∧ w.cell? ⟨b, o + i * 3 + 1, none⟩ = some (.int .i64 l[i].f) ∧ w.cell? ⟨b, o + i * 3 + 2, none⟩ = some (.int .i64 l[i].t) := by
  obtain ⟨b, o, e, hb, hc⟩ := h.at_ hi
  exact ⟨b, o, e, hb, hc 0 _ rfl, hc 1 _ rfl, hc 2 _ rfl⟩

def fitB (n most : Nat) : Bool := decide (n ≤ most ∨ n = 301)
end Go.Proofs.YthgpbdlmadjndaaDoor
