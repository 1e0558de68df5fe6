/- Package audit: the book; whether one of the others is so. Conditions written at each. -/
import Derived.Test.YthgpbdlmadjndaaDoorAudP
import Derived.Test.YthgpbdlmadjndaaDoorDelays
import Derived.Test.YthgpbdlmadjndaaDoorBools
namespace Go.Proofs.YthgpbdlmadjndaaDoor
open Go.RowKit
set_option maxRecDepth 100000
/-- The book, in the block at g. -/
def bookCs (A : Option Addr) (n c : Nat) (per : Int) (gs : Nat) (to : Int) : Array Value := #[.slice A n c, .int .i64 per, .slice (some ⟨gs, 0, none⟩) n n, .int .i64 to]
theorem aone1_any (j bb bx g gs m : Nat) (A : Option Addr) (c : Nat) (p : List Pk) (per to : Int) (x : Sn) (w : World) (B : Nat) (hp : RdP w B A p) (h1 : Blk w bb 86 #[.pointer (some ⟨g, 0, none⟩)]) (h2 : Blk w bx 44 #[.int .i64 x.p, .int .i64 x.f, .int .i64 x.t]) (h3 : Blk w g 88 (bookCs A p.length c per gs to)) (hj : j < p.length) :
    Calls Tryd.prog 68 #[.int .i64 (j : Int), .pointer (some ⟨bb, 0, none⟩), .pointer (some ⟨bx, 0, none⟩)] (w.drewN m) fun e w' => e = .returned (.bool (decide (aOf p j < x.f))) ∧ ∃ m', w' = (w.drewN m).drewN m' := by
  obtain ⟨b, o, rfl, hb, d0, d1, d2⟩ := RdP.get hp hj
  have e0 : w.cell? ⟨bb, 0, none⟩ = some (.pointer (some ⟨g, 0, none⟩)) := h1.cell 0
  have e1 : w.cell? ⟨bx, 1, none⟩ = some (.int .i64 x.f) := h2.cell 1
  have e2 : w.cell? ⟨g, 0, none⟩ = some (.slice (some ⟨b, o, none⟩) p.length c) := h3.cell 0
  have q1 : (0 : Int) ≤ (j : Int) := by omega
  have q2 : (j : Int) < (p.length : Int) := by omega
  have He := Lib.hid (aOf_of hj)
  obtain ⟨V, hV⟩ : ∃ V : World, V = w.drewN m := ⟨_, rfl⟩
  have f0 : V.cell? ⟨bb, 0, none⟩ = some (.pointer (some ⟨g, 0, none⟩)) := by rw [hV]; exact e0
  have f1 : V.cell? ⟨bx, 1, none⟩ = some (.int .i64 x.f) := by rw [hV]; exact e1
  have f2 : V.cell? ⟨g, 0, none⟩ = some (.slice (some ⟨b, o, none⟩) p.length c) := by rw [hV]; exact e2
  have f3 : V.cell? ⟨b, o + j * 3 + 2, none⟩ = some (.int .i64 p[j].a) := by rw [hV]; exact d2
  rw [← hV]
  clear h1 h2 h3 hV e0 e1 e2 d0 d1 d2
  go_enter Tryd.func68, Tryd.ntmps68
  go_wp2_with fail
  go_quiet (fail)
  rename Nat => nq
  go_wp2_with fail
  go_ret
  exact ⟨ret_bool (by rw [He.out]), nq, rfl⟩
theorem aone2_any (j k bk bb bq g gs m : Nat) (A : Option Addr) (c : Nat) (p : List Pk) (per to : Int) (q : Pk) (w : World) (B : Nat) (hp : RdP w B A p) (h0 : Blk w bk 3 #[.int .i64 (k : Int)]) (h1 : Blk w bb 86 #[.pointer (some ⟨g, 0, none⟩)]) (h2 : Blk w bq 42 #[.int .i64 q.f, .int .i64 q.s, .int .i64 q.a]) (h3 : Blk w g 88 (bookCs A p.length c per gs to)) (hj : j < p.length) (hk : k < p.length) (hq : q = p[k]) :
    Calls Tryd.prog 69 #[.int .i64 (j : Int), .pointer (some ⟨bk, 0, none⟩), .pointer (some ⟨bb, 0, none⟩), .pointer (some ⟨bq, 0, none⟩)] (w.drewN m) fun e w' => e = .returned (.bool (decide (j < k) && sameFl p k j)) ∧ ∃ m', w' = (w.drewN m).drewN m' := by
  obtain ⟨b, o, rfl, hb, d0, d1, d2⟩ := RdP.get hp hj
  have e9 : w.cell? ⟨bk, 0, none⟩ = some (.int .i64 (k : Int)) := h0.cell 0
  have e0 : w.cell? ⟨bb, 0, none⟩ = some (.pointer (some ⟨g, 0, none⟩)) := h1.cell 0
  have e1 : w.cell? ⟨bq, 0, none⟩ = some (.int .i64 q.f) := h2.cell 0
  have e2 : w.cell? ⟨g, 0, none⟩ = some (.slice (some ⟨b, o, none⟩) p.length c) := h3.cell 0
  have q1 : (0 : Int) ≤ (j : Int) := by omega
  have q2 : (j : Int) < (p.length : Int) := by omega
  have hs : sameFl p k j = decide (p[j].f = q.f) := by unfold sameFl; rw [fOf_of hj, fOf_of hk, hq]
  obtain ⟨V, hV⟩ : ∃ V : World, V = w.drewN m := ⟨_, rfl⟩
  have f9 : V.cell? ⟨bk, 0, none⟩ = some (.int .i64 (k : Int)) := by rw [hV]; exact e9
  have f0 : V.cell? ⟨bb, 0, none⟩ = some (.pointer (some ⟨g, 0, none⟩)) := by rw [hV]; exact e0
  have f1 : V.cell? ⟨bq, 0, none⟩ = some (.int .i64 q.f) := by rw [hV]; exact e1
  have f2 : V.cell? ⟨g, 0, none⟩ = some (.slice (some ⟨b, o, none⟩) p.length c) := by rw [hV]; exact e2
  have f3 : V.cell? ⟨b, o + j * 3, none⟩ = some (.int .i64 p[j].f) := by rw [hV]; exact d0
  rw [← hV]
  clear h0 h1 h2 h3 hV e0 e1 e2 e9 d0 d1 d2 hq
  by_cases hjk : j < k
  · have z1 : (j : Int) < (k : Int) := by omega
    have He := Lib.hid (show (decide (j < k) && sameFl p k j) = decide (p[j].f = q.f) by rw [hs, decide_eq_true hjk, Bool.true_and])
    clear hs
    go_enter Tryd.func69, Tryd.ntmps69
    go_wp2_with fail
    go_quiet (fail)
    rename Nat => nq
    go_wp2_with fail
    go_ret
    exact ⟨ret_bool (by rw [He.out]; first | rfl | exact beq_eq_decide _ _ | simp), nq, rfl⟩
  · have z1 : ¬ (j : Int) < (k : Int) := by omega
    have He := Lib.hid (show (decide (j < k) && sameFl p k j) = false by rw [decide_eq_false hjk, Bool.false_and])
    clear hs
    go_enter Tryd.func69, Tryd.ntmps69
    go_wp2_with fail
    go_quiet (fail)
    rename Nat => nq
    go_wp2_with fail
    go_ret
    exact ⟨ret_bool (by rw [He.out]), nq, rfl⟩
theorem aone0_any (j m : Nat) (w : World) : Calls Tryd.prog 44 #[.int .i64 (j : Int)] (w.drewN m) fun e w' => e = .returned (.bool true) ∧ ∃ m', w' = (w.drewN m).drewN m' := by
  go_enter Tryd.func44, Tryd.ntmps44
  go_wp2
  go_ret
  exact ⟨rfl, 0, rfl⟩
set_option maxHeartbeats 1000000 in
theorem oth1_any (bb bx g gs : Nat) (A : Option Addr) (c : Nat) (p : List Pk) (per to : Int) (d P : Nat → Bool) (base : Nat) (w : World) (hb : Blk w g 88 (bookCs A p.length c per gs to)) (hr : BRow w base 4 gs p.length d) (hl : p.length ≤ 9223372036854775807)
    (hK : ∀ j m, j < p.length → Calls Tryd.prog 68 #[.int .i64 (j : Int), .pointer (some ⟨bb, 0, none⟩), .pointer (some ⟨bx, 0, none⟩)] (w.drewN m) fun e w' => e = .returned (.bool (P j)) ∧ ∃ m', w' = (w.drewN m).drewN m') :
    Calls Tryd.prog 43 #[.pointer (some ⟨g, 0, none⟩), .func (.func 68) #[] #[.pointer (some ⟨bb, 0, none⟩), .pointer (some ⟨bx, 0, none⟩)]] w fun e w' => e = .returned (.bool (oth p.length d P)) ∧ ∃ m, w' = w.drewN m := by
  have HK := Lib.hid hK
  have HR := Lib.hid hr
  have e0 : w.cell? ⟨g, 0, none⟩ = some (.slice A p.length c) := hb.cell 0
  have e2 : w.cell? ⟨g, 2, none⟩ = some (.slice (some ⟨gs, 0, none⟩) p.length p.length) := hb.cell 2
  clear hK hb hr
  go_enter Tryd.func43, Tryd.ntmps43
  go_wp2
  go_loopw [11] (fun iv wr => ∃ k m : Nat, k ≤ p.length ∧ iv = .int .i64 k ∧ oth p.length d P = othGo d P (p.length - k) k ∧ wr = w.drewN m) (fun iv _ => p.length - (intOf iv).toNat)
  case atStart => exact ⟨0, 0, Nat.zero_le _, rfl, rfl, rfl⟩
  case round =>
    obtain ⟨k, m, hk, rfl, ho, rfl⟩ := hrel
    by_cases hlt : k < p.length
    · rw [othGo_step hlt] at ho
      have q1 : (0 : Int) ≤ (k : Int) := by omega
      have q2 : (k : Int) < (p.length : Int) := by omega
      have e3 : w.cell? ⟨gs, k, none⟩ = some (.bool (d k)) := BRow.cell HR.out hlt
      cases hd : d k
      · rw [hd] at e3 ho
        have Ho := Lib.hid ho
        clear hd ho
        go_wp2_with fail
        refine (HK.out k m hlt).mono ?_
        rintro e w1 ⟨rfl, m', rfl⟩
        cases hP : P k
        · have Ho2 := Lib.hid (show oth p.length d P = othGo d P (p.length - (k + 1)) (k + 1) by rw [Ho.out, hP]; simp)
          clear hP
          go_wp2_with fail
          go_roundw
          case rel => exact ⟨k + 1, m + m', hlt, by go_num, Ho2.out, by first | rfl | exact World.drewN_drewN _ _ _⟩
          case measure => simp [intOf]; omega
        · have Ho2 := Lib.hid (show oth p.length d P = true by rw [Ho.out, hP]; simp)
          clear hP
          go_wp2_with fail
          go_ret
          rw [Ho2.out]
          exact ⟨rfl, m + m', by first | rfl | exact World.drewN_drewN _ _ _⟩
      · rw [hd] at e3 ho
        have Ho := Lib.hid (show oth p.length d P = othGo d P (p.length - (k + 1)) (k + 1) by rw [ho]; simp)
        clear hd ho
        go_wp2_with fail
        go_roundw
        case rel => exact ⟨k + 1, m, hlt, by go_num, Ho.out, rfl⟩
        case measure => simp [intOf]; omega
    · rw [othGo_end (by omega)] at ho
      have Ho := Lib.hid ho
      clear ho
      go_wp2_with fail
      go_ret
      rw [Ho.out]
      exact ⟨rfl, m, rfl⟩
set_option maxHeartbeats 1000000 in
theorem oth2_any (bk bb bq g gs : Nat) (A : Option Addr) (c : Nat) (p : List Pk) (per to : Int) (d P : Nat → Bool) (base : Nat) (w : World) (hb : Blk w g 88 (bookCs A p.length c per gs to)) (hr : BRow w base 4 gs p.length d) (hl : p.length ≤ 9223372036854775807)
    (hK : ∀ j m, j < p.length → Calls Tryd.prog 69 #[.int .i64 (j : Int), .pointer (some ⟨bk, 0, none⟩), .pointer (some ⟨bb, 0, none⟩), .pointer (some ⟨bq, 0, none⟩)] (w.drewN m) fun e w' => e = .returned (.bool (P j)) ∧ ∃ m', w' = (w.drewN m).drewN m') :
    Calls Tryd.prog 43 #[.pointer (some ⟨g, 0, none⟩), .func (.func 69) #[] #[.pointer (some ⟨bk, 0, none⟩), .pointer (some ⟨bb, 0, none⟩), .pointer (some ⟨bq, 0, none⟩)]] w fun e w' => e = .returned (.bool (oth p.length d P)) ∧ ∃ m, w' = w.drewN m := by
  have HK := Lib.hid hK
  have HR := Lib.hid hr
  have e0 : w.cell? ⟨g, 0, none⟩ = some (.slice A p.length c) := hb.cell 0
  have e2 : w.cell? ⟨g, 2, none⟩ = some (.slice (some ⟨gs, 0, none⟩) p.length p.length) := hb.cell 2
  clear hK hb hr
  go_enter Tryd.func43, Tryd.ntmps43
  go_wp2
  go_loopw [11] (fun iv wr => ∃ k m : Nat, k ≤ p.length ∧ iv = .int .i64 k ∧ oth p.length d P = othGo d P (p.length - k) k ∧ wr = w.drewN m) (fun iv _ => p.length - (intOf iv).toNat)
  case atStart => exact ⟨0, 0, Nat.zero_le _, rfl, rfl, rfl⟩
  case round =>
    obtain ⟨k, m, hk, rfl, ho, rfl⟩ := hrel
    by_cases hlt : k < p.length
    · rw [othGo_step hlt] at ho
      have q1 : (0 : Int) ≤ (k : Int) := by omega
      have q2 : (k : Int) < (p.length : Int) := by omega
      have e3 : w.cell? ⟨gs, k, none⟩ = some (.bool (d k)) := BRow.cell HR.out hlt
      cases hd : d k
      · rw [hd] at e3 ho
        have Ho := Lib.hid ho
        clear hd ho
        go_wp2_with fail
        refine (HK.out k m hlt).mono ?_
        rintro e w1 ⟨rfl, m', rfl⟩
        cases hP : P k
        · have Ho2 := Lib.hid (show oth p.length d P = othGo d P (p.length - (k + 1)) (k + 1) by rw [Ho.out, hP]; simp)
          clear hP
          go_wp2_with fail
          go_roundw
          case rel => exact ⟨k + 1, m + m', hlt, by go_num, Ho2.out, by first | rfl | exact World.drewN_drewN _ _ _⟩
          case measure => simp [intOf]; omega
        · have Ho2 := Lib.hid (show oth p.length d P = true by rw [Ho.out, hP]; simp)
          clear hP
          go_wp2_with fail
          go_ret
          rw [Ho2.out]
          exact ⟨rfl, m + m', by first | rfl | exact World.drewN_drewN _ _ _⟩
      · rw [hd] at e3 ho
        have Ho := Lib.hid (show oth p.length d P = othGo d P (p.length - (k + 1)) (k + 1) by rw [ho]; simp)
        clear hd ho
        go_wp2_with fail
        go_roundw
        case rel => exact ⟨k + 1, m, hlt, by go_num, Ho.out, rfl⟩
        case measure => simp [intOf]; omega
    · rw [othGo_end (by omega)] at ho
      have Ho := Lib.hid ho
      clear ho
      go_wp2_with fail
      go_ret
      rw [Ho.out]
      exact ⟨rfl, m, rfl⟩
set_option maxHeartbeats 1000000 in
theorem oth0_any (g gs : Nat) (A : Option Addr) (c : Nat) (p : List Pk) (per to : Int) (d P : Nat → Bool) (base : Nat) (w : World) (hb : Blk w g 88 (bookCs A p.length c per gs to)) (hr : BRow w base 4 gs p.length d) (hl : p.length ≤ 9223372036854775807)
    (hK : ∀ j m, j < p.length → Calls Tryd.prog 44 #[.int .i64 (j : Int)] (w.drewN m) fun e w' => e = .returned (.bool (P j)) ∧ ∃ m', w' = (w.drewN m).drewN m') :
    Calls Tryd.prog 43 #[.pointer (some ⟨g, 0, none⟩), .func (.func 44) #[] #[]] w fun e w' => e = .returned (.bool (oth p.length d P)) ∧ ∃ m, w' = w.drewN m := by
  have HK := Lib.hid hK
  have HR := Lib.hid hr
  have e0 : w.cell? ⟨g, 0, none⟩ = some (.slice A p.length c) := hb.cell 0
  have e2 : w.cell? ⟨g, 2, none⟩ = some (.slice (some ⟨gs, 0, none⟩) p.length p.length) := hb.cell 2
  clear hK hb hr
  go_enter Tryd.func43, Tryd.ntmps43
  go_wp2
  go_loopw [11] (fun iv wr => ∃ k m : Nat, k ≤ p.length ∧ iv = .int .i64 k ∧ oth p.length d P = othGo d P (p.length - k) k ∧ wr = w.drewN m) (fun iv _ => p.length - (intOf iv).toNat)
  case atStart => exact ⟨0, 0, Nat.zero_le _, rfl, rfl, rfl⟩
  case round =>
    obtain ⟨k, m, hk, rfl, ho, rfl⟩ := hrel
    by_cases hlt : k < p.length
    · rw [othGo_step hlt] at ho
      have q1 : (0 : Int) ≤ (k : Int) := by omega
      have q2 : (k : Int) < (p.length : Int) := by omega
      have e3 : w.cell? ⟨gs, k, none⟩ = some (.bool (d k)) := BRow.cell HR.out hlt
      cases hd : d k
      · rw [hd] at e3 ho
        have Ho := Lib.hid ho
        clear hd ho
        go_wp2_with fail
        refine (HK.out k m hlt).mono ?_
        rintro e w1 ⟨rfl, m', rfl⟩
        cases hP : P k
        · have Ho2 := Lib.hid (show oth p.length d P = othGo d P (p.length - (k + 1)) (k + 1) by rw [Ho.out, hP]; simp)
          clear hP
          go_wp2_with fail
          go_roundw
          case rel => exact ⟨k + 1, m + m', hlt, by go_num, Ho2.out, by first | rfl | exact World.drewN_drewN _ _ _⟩
          case measure => simp [intOf]; omega
        · have Ho2 := Lib.hid (show oth p.length d P = true by rw [Ho.out, hP]; simp)
          clear hP
          go_wp2_with fail
          go_ret
          rw [Ho2.out]
          exact ⟨rfl, m + m', by first | rfl | exact World.drewN_drewN _ _ _⟩
      · rw [hd] at e3 ho
        have Ho := Lib.hid (show oth p.length d P = othGo d P (p.length - (k + 1)) (k + 1) by rw [ho]; simp)
        clear hd ho
        go_wp2_with fail
        go_roundw
        case rel => exact ⟨k + 1, m, hlt, by go_num, Ho.out, rfl⟩
        case measure => simp [intOf]; omega
    · rw [othGo_end (by omega)] at ho
      have Ho := Lib.hid ho
      clear ho
      go_wp2_with fail
      go_ret
      rw [Ho.out]
      exact ⟨rfl, m, rfl⟩
end Go.Proofs.YthgpbdlmadjndaaDoor
