/- floodgatelaw2's OwnSent, TameSent, lateOf; floodgateref1's SentFault, NumbersError. Conditions written at each. -/
import Derived.Test.YthgpbdlmadjndaaDoorMiscM
import Derived.Test.YthgpbdlmadjndaaDoorFvB
namespace Go.Proofs.YthgpbdlmadjndaaDoor
open Go.RowKit
set_option maxRecDepth 100000
theorem ownSent_any (A : Option Addr) (c : Nat) (l : List Sn) (w : World) (B : Nat) (h : RdS w B A l) (hl : l.length ≤ 4294967296) :
    Calls Tryd.prog 15 #[.slice A l.length c] w (EndOwn Sn.cs 3 44 l w) := by
  obtain ⟨i0, hi0, hz0, hz1, hz2⟩ := info_parts infoSn
  go_enter Tryd.func15, Tryd.ntmps15
  go_wp2_with (at_builtin; refine wpList_append_rd _ Sn.cs rfl (.tmp 4) (.tmp 5) _ rfl w.heap.size 44 i0 _ 3 24 Tryd.underlying23 hi0 hz0 hz1 hz2 rfl (by omega) Sn.cs_len Sn.cs_one (.slice none 0 0) 0 [] rfl ⟨by simp, .inl ⟨rfl, rfl⟩⟩ B A c l rfl h (by simp only [maxLen]; omega) (by omega) (Nat.le_refl _) ?_; intro v1 w1 hown1 hg1 hat1; simp only [Nat.zero_add, List.nil_append] at hown1; obtain ⟨A1, c1, rfl⟩ := own_slice hown1 (by omega))
  go_ret
  exact ⟨A1, c1, rfl, hown1, (Below.refl _ _).grown hg1 (Nat.le_refl _) (by simp [Value.ownBlock])⟩
def tameX (x : Sn) : Bool := decide (-1125899906842624 ≤ x.f ∧ x.f ≤ 1125899906842624 ∧ -1125899906842624 ≤ x.t ∧ x.t ≤ 1125899906842624)
def tameB (l : List Sn) : Bool := l.all tameX
def tameN (l : List Sn) : Int := if tameB l then 1 else 0
theorem tameB_of {l : List Sn} (h : tameB l = true) : ∀ x ∈ l, tame50 x.t := fun x hx => by
  have := of_decide_eq_true (List.all_eq_true.1 h x hx)
  exact ⟨this.2.2.1, this.2.2.2⟩
set_option maxHeartbeats 1000000 in
theorem tame_any (A : Option Addr) (c : Nat) (l : List Sn) (w : World) (B : Nat) (h : RdS w B A l) (hl : l.length ≤ 9223372036854775807) :
    Calls Tryd.prog 10 #[.slice A l.length c] w fun e w' => e = .returned (.int .i64 (tameN l)) ∧ w = w' := by
  go_enter Tryd.func10, Tryd.ntmps10
  go_wp2
  go_loopw [3] (fun i wr => ∃ k : Nat, k ≤ l.length ∧ i = .int .i64 k ∧ tameB l = tameB (l.drop k) ∧ w = wr) (fun i _ => l.length - (intOf i).toNat)
  case atStart => exact ⟨0, Nat.zero_le _, rfl, rfl, rfl⟩
  case round =>
    obtain ⟨k, hk, rfl, hb, rfl⟩ := hrel
    by_cases hlt : k < l.length
    · obtain ⟨b, o, rfl, hbb, d0, d1, d2⟩ := RdS.get h hlt
      rw [List.drop_eq_getElem_cons hlt] at hb
      have q1 : (k : Int) < (l.length : Int) := by omega
      have q2 : (0 : Int) ≤ (k : Int) := by omega
      by_cases hx : -1125899906842624 ≤ l[k].f ∧ l[k].f ≤ 1125899906842624 ∧ -1125899906842624 ≤ l[k].t ∧ l[k].t ≤ 1125899906842624
      · have Hb := Lib.hid (show tameB l = tameB (l.drop (k + 1)) by rw [hb]; show (tameX l[k] && _) = _; rw [show tameX l[k] = true from decide_eq_true hx]; rfl)
        obtain ⟨x1, x2, x3, x4⟩ := hx
        clear hb
        go_wp2_with fail
        go_roundw
        case rel => exact ⟨k + 1, hlt, by go_num, Hb.out, by trivial⟩
        case measure => simp [intOf]; omega
      · have Hb := Lib.hid (show tameN l = 0 by unfold tameN; rw [hb, show tameB (l[k] :: l.drop (k + 1)) = false by show (tameX l[k] && _) = _; rw [show tameX l[k] = false from decide_eq_false hx]; rfl]; rfl)
        have hx2 : l[k].f < -1125899906842624 ∨ (-1125899906842624 ≤ l[k].f ∧ 1125899906842624 < l[k].f) ∨ (-1125899906842624 ≤ l[k].f ∧ l[k].f ≤ 1125899906842624 ∧ l[k].t < -1125899906842624) ∨ (-1125899906842624 ≤ l[k].f ∧ l[k].f ≤ 1125899906842624 ∧ -1125899906842624 ≤ l[k].t ∧ 1125899906842624 < l[k].t) := by omega
        clear hb hx
        rcases hx2 with x1 | ⟨x1, x2⟩ | ⟨x1, x2, x3⟩ | ⟨x1, x2, x3, x4⟩
        all_goals
          go_wp2_with fail
          go_ret
          exact ⟨ret_int Hb.out.symm, rfl⟩
    · have Hb := Lib.hid (show tameN l = 1 by unfold tameN; rw [hb, List.drop_eq_nil_of_le (by omega)]; rfl)
      clear hb
      go_wp2_with fail
      go_ret
      exact ⟨ret_int Hb.out.symm, rfl⟩
set_option maxHeartbeats 1000000 in
theorem sentFault_any (A A' : Option Addr) (c c' : Nat) (n : Nat) (l : List Sn) (w : World) (B : Nat) (hB : B ≤ w.heap.size) (h : RdS w B A' l) (hn : n ≤ 9223372036854775807) (hl : l.length ≤ 9223372036854775807) :
    Calls Tryd.prog 16 #[.slice A n c, .slice A' l.length c'] w fun e w' => e = .returned (fv (delErr n l).1 (delErr n l).2) ∧ Below w.heap.size w w' := by
  have ba : Below w.heap.size w (w.alloc (.cells #[.int .i64 0, .int .i64 0] 36)) := (Below.refl _ _).alloc (Nat.le_refl _) _
  go_enter Tryd.func16, Tryd.ntmps16
  go_wp2_with fail
  go_loopw [5] (fun i wr => ∃ k : Nat, k ≤ l.length ∧ i = .int .i64 k ∧ sentBad n l 0 = sentBad n (l.drop k) k ∧ wr = w.alloc (.cells #[.int .i64 0, .int .i64 0] 36)) (fun i _ => l.length - (intOf i).toNat)
  case atStart => exact ⟨0, Nat.zero_le _, rfl, rfl, rfl⟩
  case round =>
    obtain ⟨k, hk, rfl, hbad, rfl⟩ := hrel
    by_cases hlt : k < l.length
    · obtain ⟨b, o, rfl, hb, d0, d1, d2⟩ := RdS.get (h.below (ba.mono hB)) hlt
      rw [List.drop_eq_getElem_cons hlt] at hbad
      have q1 : (k : Int) < (l.length : Int) := by omega
      have q2 : (0 : Int) ≤ (k : Int) := by omega
      by_cases hx : 0 ≤ l[k].p ∧ l[k].p < n
      · have Hbad := Lib.hid (show sentBad n l 0 = sentBad n (l.drop (k + 1)) (k + 1) by rw [hbad]; exact if_pos hx)
        obtain ⟨x1, x2⟩ := hx
        clear hbad
        go_wp2_with fail
        go_roundw
        case rel => exact ⟨k + 1, hlt, by go_num, Hbad.out, by trivial⟩
        case measure => simp [intOf]; omega
      · have Hbad := Lib.hid (show sentBad n l 0 = k by rw [hbad]; exact if_neg hx)
        have He := Lib.hid (show delErr n l = (4, (k : Int)) by unfold delErr; rw [if_neg (by rw [Hbad.out]; omega), Hbad.out])
        have hx2 : l[k].p < 0 ∨ (0 ≤ l[k].p ∧ (n : Int) ≤ l[k].p) := by omega
        have b0 : Blk (w.alloc (.cells #[.int .i64 0, .int .i64 0] 36)) w.heap.size 36 #[.int .i64 0, .int .i64 0] := Blk.new _ _ _
        clear hbad hx
        rcases hx2 with x1 | ⟨x1, x2⟩
        all_goals
          go_wp2_with fail
          exact bodyPost_ret (v := fv 4 k) (results_cell_row (p := 4) rfl _ _ w.heap.size 36 #[.int .i64 4, .int .i64 k] (0, 0) _ rfl (heap_alloc_new _ _) Tryd.underlying36 rfl infoFv) rfl
            ⟨by rw [He.out]; rfl, (Below.refl _ _).alloc (Nat.le_refl _) _⟩
    · have He := Lib.hid (show delErr n l = (0, -1) by unfold delErr; rw [if_pos]; rw [hbad, List.drop_eq_nil_of_le (by omega)]; rfl)
      clear hbad
      go_wp2_with fail
      refine (fine_any _).mono ?_
      rintro e w1 ⟨rfl, k1⟩
      have b1 : Blk w1 w.heap.size 36 #[.int .i64 0, .int .i64 0] := new_blk k1
      have c0 := b1.cell 0
      have c1 := b1.cell 1
      have z0 := b1.frozen 0
      have z1 := b1.frozen 1
      simp only [List.getElem?_toArray, List.getElem?_cons_zero, List.getElem?_cons_succ] at c0 c1
      unfold fv
      go_wp2_with fail
      exact bodyPost_ret (v := fv 0 (-1)) (results_cell_row (p := 4) rfl _ _ w.heap.size 36 #[.int .i64 0, .int .i64 (-1)] (0, 0) _ rfl ((b1.set_ 0 (.int .i64 0)).set_ 1 (.int .i64 (-1))) Tryd.underlying36 rfl infoFv) rfl
        ⟨by rw [He.out]; rfl, ((ba.trans (k1.mono ba.size)).setCell (p := ⟨w.heap.size, 0, none⟩) (Nat.le_refl _) _).setCell (p := ⟨w.heap.size, 1, none⟩) (Nat.le_refl _) _⟩
end Go.Proofs.YthgpbdlmadjndaaDoor
