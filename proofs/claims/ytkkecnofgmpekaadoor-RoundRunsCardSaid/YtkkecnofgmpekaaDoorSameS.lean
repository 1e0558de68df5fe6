/- floodgateref1.SameSent: the same ones are told to be the same; FifoOf. Conditions written at each. -/
import Derived.Test.YtkkecnofgmpekaaDoorLeastOf
namespace Go.Proofs.YtkkecnofgmpekaaDoor
open Go.RowKit
set_option maxRecDepth 100000
theorem sameSent_any (A A' : Option Addr) (c c' : Nat) (l : List Sn) (w : World) (B : Nat) (h : RdS w B A l) (h' : RdS w B A' l) (hl : l.length ≤ 9223372036854775807) :
    Calls Tryd.prog 31 #[.slice A l.length c, .slice A' l.length c'] w fun e w' => e = .returned (.bool true) ∧ ∃ m, w' = w.drewN m := by
  go_enter Tryd.func31, Tryd.ntmps31
  go_wp2_with fail
  go_loopw [5] (fun i wr => ∃ k m : Nat, k ≤ l.length ∧ i = .int .i64 k ∧ wr = w.drewN m) (fun i _ => l.length - (intOf i).toNat)
  case atStart => exact ⟨0, 0, Nat.zero_le _, rfl, rfl⟩
  case round =>
    obtain ⟨k, m, hk, rfl, rfl⟩ := hrel
    by_cases hlt : k < l.length
    · obtain ⟨b, o, rfl, hb, d0, d1, d2⟩ := RdS.get h hlt
      obtain ⟨b', o', rfl, hb', e0, e1, e2⟩ := RdS.get h' hlt
      have q1 : (0 : Int) ≤ (k : Int) := by omega
      have q2 : (k : Int) < (l.length : Int) := by omega
      go_wp2_with fail
      go_quiet (fail)
      go_wp2_with fail
      go_roundw
      case rel => exact ⟨k + 1, _, hlt, by go_num, rfl⟩
      case measure => simp [intOf]; omega
    · go_wp2_with fail
      go_ret
      exact ⟨rfl, _, rfl⟩
theorem rep_get (n i : Nat) (h : i < (List.replicate n (0 : Int)).length) : (List.replicate n (0 : Int))[i] = 0 := by simp
theorem keyOf_rep (n : Nat) : keyOf (List.replicate n 0) = fun _ => 0 := by
  funext k
  unfold keyOf
  by_cases h : k < n
  · simp [List.getD, h]
  · simp [List.getD, h]
set_option maxHeartbeats 1000000 in
theorem fifoOf_any (A : Option Addr) (c : Nat) (p : List Pk) (per : Int) (w : World) (B : Nat) (hB : B ≤ w.heap.size) (h : RdP w B A p) (hp : ∀ x ∈ p, okPk x) (hs : p.Pairwise (fun x y => x.a ≤ y.a)) (hl : p.length ≤ 300) (h0 : 1 ≤ per) (h1 : per ≤ 1000) :
    Calls Tryd.prog 32 #[.slice A p.length c, .int .i64 per] w (EndOwn Sn.cs 3 34 (fifoL p per) w) := by
  obtain ⟨i0, hi0, hz0, hz1, hz2⟩ := info_parts infoInt
  have He := Lib.hid (show fifoL p per = leastL p per (keyOf (List.replicate p.length 0)) by rw [keyOf_rep, fifoL_eq hp h0 h1, leastL_lind hp hs h0 h1])
  go_enter Tryd.func32, Tryd.ntmps32
  go_wp2_with (at_make; refine wpList_make_full _ rfl (.tmp 8) (.tmp 8) 35 rfl w.heap.size 3 i0 (.int .i64 0) 1 Tryd.underlying35 hi0 hz0 hz1 .i64 .i64 p.length p.length p.length rfl rfl rfl rfl (by rw [hz2]; omega) (by simp only [maxLen]; omega) (Nat.le_refl _) ?_; intro w1 row1 g1; have k1 : Below w.heap.size w w1 := (Below.refl _ _).grown g1 (Nat.le_refl _) (by simp))
  have e0 : (madeCells (Value.cells (.int .i64 0)) (p.length * 1)).toList = (List.replicate p.length (0 : Int)).flatMap iCs := by
    rw [show Value.cells (.int .i64 0) = #[.int .i64 0] from rfl, toList_madeCells_one, Nat.mul_one]
    generalize p.length = n
    induction n with
    | zero => rfl
    | succ n ih => rw [List.replicate_succ, List.replicate_succ, ih]; rfl
  rw [e0] at row1
  have elen : (List.replicate p.length (0 : Int)).length = p.length := List.length_replicate
  have r1 : RdI w1 w1.heap.size (some ⟨w.heap.size, 0, none⟩) (List.replicate p.length (0 : Int)) := Rd.of_own (base := w.heap.size) (e := 3) (c := p.length) (by rw [elen]; exact row1) (by omega) iCs_len
  have HC := leastOf_any A (some ⟨w.heap.size, 0, none⟩) c p.length p per (List.replicate p.length 0) w1 _ (Nat.le_refl _) ((h.below (k1.mono hB)).more (Nat.le_trans hB k1.size)) r1 hp hs hl h0 h1 elen
  rw [elen] at HC
  refine HC.mono ?_
  rintro e w2 ⟨A2, c2, rfl, row2, k2⟩
  go_wp2_with fail
  go_ret
  rw [He.out]
  exact ⟨A2, c2, rfl, own_mono row2 k1.size, k1.trans (k2.mono k1.size)⟩
end Go.Proofs.YtkkecnofgmpekaaDoor
