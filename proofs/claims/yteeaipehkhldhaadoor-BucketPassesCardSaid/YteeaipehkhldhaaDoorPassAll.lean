/- The law BucketPasses returns true: all its ways. Condition: the sentinels lie in their variables. -/
import Derived.Test.YteeaipehkhldhaaDoorPasses
namespace Go.Proofs.YteeaipehkhldhaaDoor
open Go.RowKit
set_option maxRecDepth 100000
set_option maxHeartbeats 1000000 in
theorem pass_early (line : Ln) (A : Option Addr) (c : Nat) (p : List Pk) (S : Nat → Addr) (w : World) (h : RdP w w.heap.size A p) (hS : Snt w w.heap.size S [2, 3, 4, 5]) (hl : p.length ≤ 9223372036854775807)
    (hx : lineErr line = 2 ∨ (lineErr line = 0 ∧ fitB p.length 60 = false) ∨ (lineErr line = 0 ∧ fitB p.length 60 = true ∧ (pktErr p).1 ≠ 0)) :
    Calls Tryd.prog 7 #[.agg #[.int .i64 line.b, .int .i64 line.r], .slice A p.length c] w fun e w' => e = .returned (.bool true) ∧ Below w.heap.size w w' := by
  obtain ⟨lb, lr⟩ := line
  have ba : Below w.heap.size w (w.alloc (.cells #[.int .i64 lb, .int .i64 lr] 24)) := (Below.refl _ _).alloc (Nat.le_refl _) _
  obtain ⟨w0, hw0⟩ : ∃ w0, w0 = w.alloc (.cells #[.int .i64 lb, .int .i64 lr] 24) := ⟨_, rfl⟩
  have b0 : Blk w0 w.heap.size 24 #[.int .i64 lb, .int .i64 lr] := by rw [hw0]; exact Blk.new _ _ _
  have s0 : w0.heap.size = w.heap.size + 1 := by rw [hw0]; simp
  rw [← hw0] at ba
  have x0 : w0.cell? ⟨w.heap.size, 0, none⟩ = some (.int .i64 lb) := b0.cell 0
  have x1 : w0.cell? ⟨w.heap.size, 1, none⟩ = some (.int .i64 lr) := b0.cell 1
  have xc : ∀ w', Below w0.heap.size w0 w' → w'.cell? ⟨w.heap.size, 0, none⟩ = some (.int .i64 lb) ∧ w'.cell? ⟨w.heap.size, 1, none⟩ = some (.int .i64 lr) := fun w' hb => ⟨(hb.cell (p := ⟨w.heap.size, 0, none⟩) (by simp only; omega)).trans x0, (hb.cell (p := ⟨w.heap.size, 1, none⟩) (by simp only; omega)).trans x1⟩
  have Xc := Lib.hid xc
  clear xc
  have hS0 := (hS.below ba).more (Nat.le_of_lt (show w.heap.size < w0.heap.size by omega))
  have fl := fld0
  rcases hx with hx | ⟨hx, hx2⟩ | ⟨hx, hx2, hx5⟩
  · have Hx := Lib.hid hx
    clear hx
    go_enter Tryd.func7, Tryd.ntmps7
    go_wp2_with fail
    rw [← hw0]
    refine (filled_any S w0 hS0).mono ?_
    rintro e w1 ⟨rfl, k1⟩
    obtain ⟨y0, y1⟩ := Xc.out w1 k1
    go_wp2_with fail
    refine (lineErr_any ⟨lb, lr⟩ w1).mono ?_
    rintro e w2 ⟨rfl, k2⟩
    rw [Hx.out]
    have k2' := k1.trans (k2.mono k1.size)
    have k2w := ba.trans (k2'.mono (by omega))
    go_wp2_with fail
    go_ret
    exact ⟨rfl, k2w⟩
  · have Hx := Lib.hid hx
    have Hf := Lib.hid hx2
    clear hx hx2
    go_enter Tryd.func7, Tryd.ntmps7
    go_wp2_with fail
    rw [← hw0]
    refine (filled_any S w0 hS0).mono ?_
    rintro e w1 ⟨rfl, k1⟩
    obtain ⟨y0, y1⟩ := Xc.out w1 k1
    go_wp2_with fail
    refine (lineErr_any ⟨lb, lr⟩ w1).mono ?_
    rintro e w2 ⟨rfl, k2⟩
    rw [Hx.out]
    have k2' := k1.trans (k2.mono k1.size)
    have k2w := ba.trans (k2'.mono (by omega))
    go_wp2_with fail
    refine (fit1_any A c p.length 60 _ hl).mono ?_
    rintro e wx ⟨rfl, rfl⟩
    rw [Hf.out]
    go_wp2_with fail
    go_ret
    exact ⟨rfl, k2w⟩
  · have Hx := Lib.hid hx
    have Hf := Lib.hid hx2
    have h5 : (0 : Int) < ((pktErr p).1 : Int) := by omega
    clear hx hx2 hx5
    go_enter Tryd.func7, Tryd.ntmps7
    go_wp2_with fail
    rw [← hw0]
    refine (filled_any S w0 hS0).mono ?_
    rintro e w1 ⟨rfl, k1⟩
    obtain ⟨y0, y1⟩ := Xc.out w1 k1
    go_wp2_with fail
    refine (lineErr_any ⟨lb, lr⟩ w1).mono ?_
    rintro e w2 ⟨rfl, k2⟩
    rw [Hx.out]
    have k2' := k1.trans (k2.mono k1.size)
    have k2w := ba.trans (k2'.mono (by omega))
    go_wp2_with fail
    refine (fit1_any A c p.length 60 _ hl).mono ?_
    rintro e wx ⟨rfl, rfl⟩
    rw [Hf.out]
    go_wp2_with fail
    refine (packetsFault_any A c p w2 _ k2w.size (h.below k2w) hl).mono ?_
    rintro e w3 ⟨rfl, k3⟩
    unfold fv
    go_wp2_with fail
    go_ret
    exact ⟨rfl, k2w.trans (k3.mono k2w.size)⟩
theorem bucketPasses_any (line : Ln) (A : Option Addr) (c : Nat) (p : List Pk) (S : Nat → Addr) (w : World) (h : RdP w w.heap.size A p) (hS : Snt w w.heap.size S [2, 3, 4, 5]) (hl : p.length ≤ 9223372036854775807) :
    Calls Tryd.prog 7 #[.agg #[.int .i64 line.b, .int .i64 line.r], .slice A p.length c] w fun e w' => e = .returned (.bool true) ∧ Below w.heap.size w w' := by
  have hle : lineErr line = 0 ∨ lineErr line = 2 := by
    unfold lineErr
    split
    · exact .inl rfl
    · exact .inr rfl
  rcases hle with h0 | h0
  · cases hf : fitB p.length 60
    · exact pass_early line A c p S w h hS hl (.inr (.inl ⟨h0, hf⟩))
    · by_cases hok : (pktErr p).1 = 0
      · exact pass_main line A c p S w h hS h0 hf hok
      · exact pass_early line A c p S w h hS hl (.inr (.inr ⟨h0, hf, hok⟩))
  · exact pass_early line A c p S w h hS hl (.inl h0)
end Go.Proofs.YteeaipehkhldhaaDoor
