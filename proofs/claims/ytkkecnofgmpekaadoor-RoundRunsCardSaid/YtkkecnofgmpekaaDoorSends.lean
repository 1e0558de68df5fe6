/- floodgatelaw2.sends returns true; fitPackets. Condition: the sentinels that the calls name lie in their variables. -/
import Derived.Test.YtkkecnofgmpekaaDoorLindP
import Derived.Test.YtkkecnofgmpekaaDoorOwnP
namespace Go.Proofs.YtkkecnofgmpekaaDoor
open Go.RowKit
set_option maxRecDepth 100000
theorem RdS.get {w : World} {B : Nat} {A : Option Addr} {l : List Sn} (h : RdS w B A l) {i : Nat} (hi : i < l.length) :
    ∃ b o, A = some ⟨b, o, none⟩ ∧ b < B ∧ w.cell? ⟨b, o + i * 3, none⟩ = some (.int .i64 l[i].p) ∧ w.cell? ⟨b, o + i * 3 + 1, none⟩ = some (.int .i64 l[i].f) ∧ w.cell? ⟨b, o + i * 3 + 2, none⟩ = some (.int .i64 l[i].t) := by
  obtain ⟨b, o, e, hb, hc⟩ := h.at_ hi
  exact ⟨b, o, e, hb, hc 0 _ rfl, hc 1 _ rfl, hc 2 _ rfl⟩

theorem sends_any (S : Nat → Addr) (w : World) (B : Nat) (hB : B ≤ w.heap.size) (hS : Snt w B S [2, 5]) :
    Calls Tryd.prog 15 #[] w fun e w' => e = .returned (.bool true) ∧ Below w.heap.size w w' := by
  have He := Lib.hid (show (lookErr [⟨0, 3, 5⟩] 2).1 = 0 by decide)
  have Hl := Lib.hid (show fifoL [⟨0, 3, 5⟩] 2 = [⟨0, 5, 11⟩] by decide)
  go_enter Tryd.func15, Tryd.ntmps15
  go_wp2_with fail
  refine (fifoRun_ok (some ⟨w.heap.size, 0, none⟩) 1 [⟨0, 3, 5⟩] 2 S _ (w.heap.size + 1) (by simp) (RdP.new_ ⟨0, 3, 5⟩) ((hS.below (((Below.refl _ _).alloc (Nat.le_refl _) _).mono hB)).more (by omega)) (by simp) He.out).mono ?_
  rintro e w1 ⟨A', c', v, rfl, row, hv, hb1⟩
  obtain rfl := hv.nil_of He.out
  rw [Hl.out] at row ⊢
  obtain ⟨b, o, rfl, hb, c0, c1, c2⟩ := RdS.get (RdS.of_own row) (show 0 < [(⟨0, 5, 11⟩ : Sn)].length by decide)
  simp only [Nat.zero_mul, Nat.add_zero, List.getElem_cons_zero] at c0 c1 c2
  go_wp2_with fail
  go_ret
  exact ⟨rfl, ((Below.refl _ _).alloc (Nat.le_refl _) _).trans (hb1.mono (by simp))⟩

def fitB (n most : Nat) : Bool := decide (n ≤ most ∨ n = 301)
theorem fit_any (A : Option Addr) (c : Nat) (n most : Nat) (w : World) (hn : n ≤ 9223372036854775807) :
    Calls Tryd.prog 16 #[.slice A n c, .int .i64 most] w fun e w' => e = .returned (.bool (fitB n most)) ∧ w = w' := by
  by_cases h : n ≤ most
  · go_enter Tryd.func16, Tryd.ntmps16
    go_wp2
    go_ret
    exact ⟨ret_bool (by symm; exact decide_eq_true (.inl h)), rfl⟩
  · have h1 : most < n := by omega
    by_cases h2 : n = 301
    · subst h2
      go_enter Tryd.func16, Tryd.ntmps16
      go_wp2
      go_ret
      exact ⟨ret_bool (by symm; exact decide_eq_true (.inr rfl)), rfl⟩
    · have h3 : ((n : Int) == 301) = false := by rw [beq_eq_false_iff_ne]; omega
      have Hf := Lib.hid (show fitB n most = false from decide_eq_false (by omega))
      clear h2 h
      go_enter Tryd.func16, Tryd.ntmps16
      go_wp2
      go_ret
      exact ⟨ret_bool (by rw [Hf.out]; first | rfl | (simp; omega)), rfl⟩
end Go.Proofs.YtkkecnofgmpekaaDoor
