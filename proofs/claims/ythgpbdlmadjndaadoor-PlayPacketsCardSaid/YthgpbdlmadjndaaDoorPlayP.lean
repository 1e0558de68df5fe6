/- The law PlayPackets: its parts. Conditions written at each. -/
import Derived.Test.YthgpbdlmadjndaaDoorTally
import Derived.Test.YthgpbdlmadjndaaDoorSameP
import Derived.Test.YthgpbdlmadjndaaDoorCoded3
import Derived.Test.YthgpbdlmadjndaaDoorPkRefB
namespace Go.Proofs.YthgpbdlmadjndaaDoor
open Go.RowKit
set_option maxRecDepth 100000
theorem pktBad_good (l : List Pk) (m : Int) (k : Nat) (hx : ∀ x ∈ l, okPk x ∧ m ≤ x.a) (hs : l.Pairwise (fun x y => x.a ≤ y.a)) : (pktBad l m k).1 = 0 := by
  induction l generalizing m k with
  | nil => rfl
  | cons x r ih =>
    obtain ⟨h1, h2⟩ := hx x List.mem_cons_self
    obtain ⟨h3, h4⟩ := List.pairwise_cons.1 hs
    unfold pktBad
    rw [if_pos h1, if_neg (by omega)]
    exact ih x.a (k + 1) (fun y hy => ⟨(hx y (List.mem_cons_of_mem _ hy)).1, h3 y hy⟩) h4
theorem rollOk_good {acc : List Pk} {t : Int} (h : RollOk acc t) (ht : t ≤ 1099511627776) : (pktErr acc).1 = 0 := by
  unfold pktErr
  rw [if_neg (by have := h.len; omega)]
  refine pktBad_good acc 0 0 (fun x hx => ?_) h.so
  have := h.ok x hx
  unfold okPk
  exact ⟨⟨by omega, by omega, by omega, by omega, by omega, by omega⟩, by omega⟩
set_option maxHeartbeats 1000000 in
theorem tallies_bad (A A' : Option Addr) (c c' : Nat) (p : List Pk) (l : List Sn) (S : Nat → Addr) (w : World) (B : Nat) (hB : B ≤ w.heap.size) (h : RdP w B A p) (h' : RdS w B A' l) (hS : Snt w B S [2, 3, 4, 5]) (hl : p.length ≤ 300) (hl' : l.length ≤ 1000)
    (ht : ∀ x ∈ l, tame50 x.t) (h1 : (pktErr p).1 = 0) (h3 : (delErr p.length l).1 ≠ 0) :
    Calls Tryd.prog 14 #[.slice A p.length c, .slice A' l.length c'] w fun e w' => ∃ v, e = .returned (.tuple #[.slice none 0 0, v]) ∧ Er w' w'.heap.size S v (delErr p.length l).1 (delErr p.length l).2 ∧ Below w.heap.size w w' := by
  have hpk := pktErr_okPk h1
  have Hc := Lib.hid (pktErr_nil h1)
  have hta : ∀ x ∈ p, tame50 x.a := fun x hx => by
    have := (hpk x hx).2.2.2.2
    unfold tame50
    omega
  have Hd := Lib.hid h3
  clear h1 h3
  go_enter Tryd.func14, Tryd.ntmps14
  go_wp2_with fail
  refine (pcheck_any A c p S _ B hB h (hS.sub (by simp)) (by omega)).mono ?_
  rintro e w1 ⟨v, rfl, hv, k1⟩
  obtain rfl := hv.nil_of (by rw [Hc.out])
  have z1 := k1.size
  go_wp2_with fail
  refine (delays_any A A' c c' p l S w1 B (by omega) (h.below (k1.mono hB)) (h'.below (k1.mono hB)) ((hS.below (k1.mono hB)).sub (by simp)) (by omega) (by omega) ht hta).mono ?_
  rintro e w2 ⟨A3, c3, v, rfl, o3, hv, k2⟩
  obtain ⟨T, a, rfl⟩ := hv.some_of Hd.out
  go_wp2_with fail
  go_ret2
  exact ⟨_, rfl, hv, k1.trans (k2.mono z1)⟩
def rs2 : List Int := [-1, 22]
theorem rolled_any (w : World) : Calls Tryd.prog 9 #[] w fun e w' => e = .returned (.bool true) ∧ Below w.heap.size w w' := by
  have Hl := Lib.hid (show rollL rs2 = [⟨0, 2, 1⟩] by decide)
  obtain ⟨wa, hwa⟩ : ∃ wa : World, wa = w.alloc (.cells #[.int .i64 (-1), .int .i64 22] 3) := ⟨_, rfl⟩
  have ba : Below w.heap.size w wa := by rw [hwa]; exact (Below.refl _ _).alloc (Nat.le_refl _) _
  have sa : wa.heap.size = w.heap.size + 1 := by rw [hwa]; simp
  have hq : RdI wa wa.heap.size (some ⟨w.heap.size, 0, none⟩) rs2 := by
    refine Rd.of_block (cs := #[.int .i64 (-1), .int .i64 22]) (T := 3) (z := (0, 0)) ?_ rfl (by omega) (by omega) iCs_len
    rw [hwa]
    exact Blk.new _ _ _
  have Hwa := Lib.hid hwa
  clear hwa sa
  go_enter Tryd.func9, Tryd.ntmps9
  go_wp2_with fail
  rw [← Hwa.out]
  refine (packets_any (some ⟨w.heap.size, 0, none⟩) 2 rs2 wa wa.heap.size (Nat.le_refl _) hq (by decide) (by decide)).mono ?_
  rintro e w1 ⟨A', c', rfl, row, hb1⟩
  rw [Hl.out] at row ⊢
  obtain ⟨b, o, rfl, hb, c0, c1, c2⟩ := RdP.get (RdP.of_own row) (show 0 < [(⟨0, 2, 1⟩ : Pk)].length by decide)
  simp only [Nat.zero_mul, Nat.add_zero, List.getElem_cons_zero] at c0 c1 c2
  clear row
  go_wp2_with fail
  go_ret
  exact ⟨rfl, ba.trans (hb1.mono ba.size)⟩
end Go.Proofs.YthgpbdlmadjndaaDoor
