/- Package audit: the book; whether one of the others is so. Conditions written at each. Package audit: one that is sent. Conditions written at each. Package audit: Check. Conditions: ticks are not too great; the sentinels that it names lie in their variables. -/
import Derived.Test.YthgpbdlmadjndaaGreatDoorAudP
import Derived.Test.YthgpbdlmadjndaaGreatDoorMiscM
import Derived.Test.YthgpbdlmadjndaaGreatDoorBools
import Derived.StillTailTactics
import Derived.Laws.OwnMore
namespace Go.Proofs.YthgpbdlmadjndaaGreatDoor
open Go.RowKit
set_option maxRecDepth 100000
/-- The book, in the block at g. -/
def bookCs (A : Option Addr) (n c : Nat) (per : Int) (gs : Nat) (to : Int) : Array Value := #[.slice A n c, .int .i64 per, .slice (some ⟨gs, 0, none⟩) n n, .int .i64 to]
theorem aone1_any (j bb bx g gs m : Nat) (A : Option Addr) (c : Nat) (p : List Pk) (per to : Int) (x : Sn) (w : World) (B : Nat) (hp : RdP w B A p) (h1 : Blk w bb 103 #[.pointer (some ⟨g, 0, none⟩)]) (h2 : Blk w bx 62 #[.int .i64 x.p, .int .i64 x.f, .int .i64 x.t]) (h3 : Blk w g 106 (bookCs A p.length c per gs to)) (hj : j < p.length) :
    Calls Tryz.prog 81 #[.int .i64 (j : Int), .pointer (some ⟨bb, 0, none⟩), .pointer (some ⟨bx, 0, none⟩)] (w.drewN m) fun e w' => e = .returned (.bool (decide (aOf p j < x.f))) ∧ ∃ m', w' = (w.drewN m).drewN m' := by
  obtain ⟨b, o, rfl, hb, d0, d1, d2⟩ := RdP.get hp hj
  have e0 : w.cell? ⟨bb, 0, none⟩ = some (.pointer (some ⟨g, 0, none⟩)) := h1.cell 0
  have e1 : w.cell? ⟨bx, 1, none⟩ = some (.int .i64 x.f) := h2.cell 1
  have e2 : w.cell? ⟨g, 0, none⟩ = some (.slice (some ⟨b, o, none⟩) p.length c) := h3.cell 0
  have q1 : (0 : Int) ≤ (j : Int) := by omega
  have q2 : (j : Int) < (p.length : Int) := by omega
  have He := Lib.hid (aOf_of hj)
  obtain ⟨V, hV⟩ : ∃ V : World, V = w.drewN m := ⟨_, rfl⟩
  have f0 : V.cell? ⟨bb, 0, none⟩ = some (.pointer (some ⟨g, 0, none⟩)) := by rw [hV]; exact e0
  have f1 : V.cell? ⟨bx, 1, none⟩ = some (.int .i64 x.f) := by rw [hV]; exact e1
  have f2 : V.cell? ⟨g, 0, none⟩ = some (.slice (some ⟨b, o, none⟩) p.length c) := by rw [hV]; exact e2
  have f3 : V.cell? ⟨b, o + j * 3 + 2, none⟩ = some (.int .i64 p[j].a) := by rw [hV]; exact d2
  rw [← hV]
  clear h1 h2 h3 hV e0 e1 e2 d0 d1 d2
  go_enter Tryz.func81, Tryz.ntmps81
  go_wp2_with fail
  go_quiet (fail)
  rename Nat => nq
  go_wp2_with fail
  go_ret
  exact ⟨ret_bool (by rw [He.out]), nq, rfl⟩
theorem aone2_any (j k bk bb bq g gs m : Nat) (A : Option Addr) (c : Nat) (p : List Pk) (per to : Int) (q : Pk) (w : World) (B : Nat) (hp : RdP w B A p) (h0 : Blk w bk 3 #[.int .i64 (k : Int)]) (h1 : Blk w bb 103 #[.pointer (some ⟨g, 0, none⟩)]) (h2 : Blk w bq 58 #[.int .i64 q.f, .int .i64 q.s, .int .i64 q.a]) (h3 : Blk w g 106 (bookCs A p.length c per gs to)) (hj : j < p.length) (hk : k < p.length) (hq : q = p[k]) :
    Calls Tryz.prog 82 #[.int .i64 (j : Int), .pointer (some ⟨bk, 0, none⟩), .pointer (some ⟨bb, 0, none⟩), .pointer (some ⟨bq, 0, none⟩)] (w.drewN m) fun e w' => e = .returned (.bool (decide (j < k) && sameFl p k j)) ∧ ∃ m', w' = (w.drewN m).drewN m' := by
  obtain ⟨b, o, rfl, hb, d0, d1, d2⟩ := RdP.get hp hj
  have e9 : w.cell? ⟨bk, 0, none⟩ = some (.int .i64 (k : Int)) := h0.cell 0
  have e0 : w.cell? ⟨bb, 0, none⟩ = some (.pointer (some ⟨g, 0, none⟩)) := h1.cell 0
  have e1 : w.cell? ⟨bq, 0, none⟩ = some (.int .i64 q.f) := h2.cell 0
  have e2 : w.cell? ⟨g, 0, none⟩ = some (.slice (some ⟨b, o, none⟩) p.length c) := h3.cell 0
  have q1 : (0 : Int) ≤ (j : Int) := by omega
  have q2 : (j : Int) < (p.length : Int) := by omega
  have hs : sameFl p k j = decide (p[j].f = q.f) := by unfold sameFl; rw [fOf_of hj, fOf_of hk, hq]
  obtain ⟨V, hV⟩ : ∃ V : World, V = w.drewN m := ⟨_, rfl⟩
  have f9 : V.cell? ⟨bk, 0, none⟩ = some (.int .i64 (k : Int)) := by rw [hV]; exact e9
  have f0 : V.cell? ⟨bb, 0, none⟩ = some (.pointer (some ⟨g, 0, none⟩)) := by rw [hV]; exact e0
  have f1 : V.cell? ⟨bq, 0, none⟩ = some (.int .i64 q.f) := by rw [hV]; exact e1
  have f2 : V.cell? ⟨g, 0, none⟩ = some (.slice (some ⟨b, o, none⟩) p.length c) := by rw [hV]; exact e2
  have f3 : V.cell? ⟨b, o + j * 3, none⟩ = some (.int .i64 p[j].f) := by rw [hV]; exact d0
  rw [← hV]
  clear h0 h1 h2 h3 hV e0 e1 e2 e9 d0 d1 d2 hq
  by_cases hjk : j < k
  · have z1 : (j : Int) < (k : Int) := by omega
    have He := Lib.hid (show (decide (j < k) && sameFl p k j) = decide (p[j].f = q.f) by rw [hs, decide_eq_true hjk, Bool.true_and])
    clear hs
    go_enter Tryz.func82, Tryz.ntmps82
    go_wp2_with fail
    go_quiet (fail)
    rename Nat => nq
    go_wp2_with fail
    go_ret
    exact ⟨ret_bool (by rw [He.out]; first | rfl | exact beq_eq_decide _ _ | simp), nq, rfl⟩
  · have z1 : ¬ (j : Int) < (k : Int) := by omega
    have He := Lib.hid (show (decide (j < k) && sameFl p k j) = false by rw [decide_eq_false hjk, Bool.false_and])
    clear hs
    go_enter Tryz.func82, Tryz.ntmps82
    go_wp2_with fail
    go_quiet (fail)
    rename Nat => nq
    go_wp2_with fail
    go_ret
    exact ⟨ret_bool (by rw [He.out]), nq, rfl⟩
theorem aone0_any (j m : Nat) (w : World) : Calls Tryz.prog 56 #[.int .i64 (j : Int)] (w.drewN m) fun e w' => e = .returned (.bool true) ∧ ∃ m', w' = (w.drewN m).drewN m' := by
  go_enter Tryz.func56, Tryz.ntmps56
  go_wp2
  go_ret
  exact ⟨rfl, 0, rfl⟩
set_option maxHeartbeats 1000000 in
theorem oth1_any (bb bx g gs : Nat) (A : Option Addr) (c : Nat) (p : List Pk) (per to : Int) (d P : Nat → Bool) (base : Nat) (w : World) (hb : Blk w g 106 (bookCs A p.length c per gs to)) (hr : BRow w base 4 gs p.length d) (hl : p.length ≤ 9223372036854775807)
    (hK : ∀ j m, j < p.length → Calls Tryz.prog 81 #[.int .i64 (j : Int), .pointer (some ⟨bb, 0, none⟩), .pointer (some ⟨bx, 0, none⟩)] (w.drewN m) fun e w' => e = .returned (.bool (P j)) ∧ ∃ m', w' = (w.drewN m).drewN m') :
    Calls Tryz.prog 55 #[.pointer (some ⟨g, 0, none⟩), .func (.func 81) #[] #[.pointer (some ⟨bb, 0, none⟩), .pointer (some ⟨bx, 0, none⟩)]] w fun e w' => e = .returned (.bool (oth p.length d P)) ∧ ∃ m, w' = w.drewN m := by
  have HK := Lib.hid hK
  have HR := Lib.hid hr
  have e0 : w.cell? ⟨g, 0, none⟩ = some (.slice A p.length c) := hb.cell 0
  have e2 : w.cell? ⟨g, 2, none⟩ = some (.slice (some ⟨gs, 0, none⟩) p.length p.length) := hb.cell 2
  clear hK hb hr
  go_enter Tryz.func55, Tryz.ntmps55
  go_wp2
  go_loopw [11] (fun iv wr => ∃ k m : Nat, k ≤ p.length ∧ iv = .int .i64 k ∧ oth p.length d P = othGo d P (p.length - k) k ∧ wr = w.drewN m) (fun iv _ => p.length - (intOf iv).toNat)
  case atStart => exact ⟨0, 0, Nat.zero_le _, rfl, rfl, rfl⟩
  case round =>
    obtain ⟨k, m, hk, rfl, ho, rfl⟩ := hrel
    by_cases hlt : k < p.length
    · rw [othGo_step hlt] at ho
      have q1 : (0 : Int) ≤ (k : Int) := by omega
      have q2 : (k : Int) < (p.length : Int) := by omega
      have e3 : w.cell? ⟨gs, k, none⟩ = some (.bool (d k)) := BRow.cell HR.out hlt
      cases hd : d k
      · rw [hd] at e3 ho
        have Ho := Lib.hid ho
        clear hd ho
        go_wp2_with fail
        refine (HK.out k m hlt).mono ?_
        rintro e w1 ⟨rfl, m', rfl⟩
        cases hP : P k
        · have Ho2 := Lib.hid (show oth p.length d P = othGo d P (p.length - (k + 1)) (k + 1) by rw [Ho.out, hP]; simp)
          clear hP
          go_wp2_with fail
          go_roundw
          case rel => exact ⟨k + 1, m + m', hlt, by go_num, Ho2.out, by first | rfl | exact World.drewN_drewN _ _ _⟩
          case measure => simp [intOf]; omega
        · have Ho2 := Lib.hid (show oth p.length d P = true by rw [Ho.out, hP]; simp)
          clear hP
          go_wp2_with fail
          go_ret
          rw [Ho2.out]
          exact ⟨rfl, m + m', by first | rfl | exact World.drewN_drewN _ _ _⟩
      · rw [hd] at e3 ho
        have Ho := Lib.hid (show oth p.length d P = othGo d P (p.length - (k + 1)) (k + 1) by rw [ho]; simp)
        clear hd ho
        go_wp2_with fail
        go_roundw
        case rel => exact ⟨k + 1, m, hlt, by go_num, Ho.out, rfl⟩
        case measure => simp [intOf]; omega
    · rw [othGo_end (by omega)] at ho
      have Ho := Lib.hid ho
      clear ho
      go_wp2_with fail
      go_ret
      rw [Ho.out]
      exact ⟨rfl, m, rfl⟩
set_option maxHeartbeats 1000000 in
theorem oth2_any (bk bb bq g gs : Nat) (A : Option Addr) (c : Nat) (p : List Pk) (per to : Int) (d P : Nat → Bool) (base : Nat) (w : World) (hb : Blk w g 106 (bookCs A p.length c per gs to)) (hr : BRow w base 4 gs p.length d) (hl : p.length ≤ 9223372036854775807)
    (hK : ∀ j m, j < p.length → Calls Tryz.prog 82 #[.int .i64 (j : Int), .pointer (some ⟨bk, 0, none⟩), .pointer (some ⟨bb, 0, none⟩), .pointer (some ⟨bq, 0, none⟩)] (w.drewN m) fun e w' => e = .returned (.bool (P j)) ∧ ∃ m', w' = (w.drewN m).drewN m') :
    Calls Tryz.prog 55 #[.pointer (some ⟨g, 0, none⟩), .func (.func 82) #[] #[.pointer (some ⟨bk, 0, none⟩), .pointer (some ⟨bb, 0, none⟩), .pointer (some ⟨bq, 0, none⟩)]] w fun e w' => e = .returned (.bool (oth p.length d P)) ∧ ∃ m, w' = w.drewN m := by
  have HK := Lib.hid hK
  have HR := Lib.hid hr
  have e0 : w.cell? ⟨g, 0, none⟩ = some (.slice A p.length c) := hb.cell 0
  have e2 : w.cell? ⟨g, 2, none⟩ = some (.slice (some ⟨gs, 0, none⟩) p.length p.length) := hb.cell 2
  clear hK hb hr
  go_enter Tryz.func55, Tryz.ntmps55
  go_wp2
  go_loopw [11] (fun iv wr => ∃ k m : Nat, k ≤ p.length ∧ iv = .int .i64 k ∧ oth p.length d P = othGo d P (p.length - k) k ∧ wr = w.drewN m) (fun iv _ => p.length - (intOf iv).toNat)
  case atStart => exact ⟨0, 0, Nat.zero_le _, rfl, rfl, rfl⟩
  case round =>
    obtain ⟨k, m, hk, rfl, ho, rfl⟩ := hrel
    by_cases hlt : k < p.length
    · rw [othGo_step hlt] at ho
      have q1 : (0 : Int) ≤ (k : Int) := by omega
      have q2 : (k : Int) < (p.length : Int) := by omega
      have e3 : w.cell? ⟨gs, k, none⟩ = some (.bool (d k)) := BRow.cell HR.out hlt
      cases hd : d k
      · rw [hd] at e3 ho
        have Ho := Lib.hid ho
        clear hd ho
        go_wp2_with fail
        refine (HK.out k m hlt).mono ?_
        rintro e w1 ⟨rfl, m', rfl⟩
        cases hP : P k
        · have Ho2 := Lib.hid (show oth p.length d P = othGo d P (p.length - (k + 1)) (k + 1) by rw [Ho.out, hP]; simp)
          clear hP
          go_wp2_with fail
          go_roundw
          case rel => exact ⟨k + 1, m + m', hlt, by go_num, Ho2.out, by first | rfl | exact World.drewN_drewN _ _ _⟩
          case measure => simp [intOf]; omega
        · have Ho2 := Lib.hid (show oth p.length d P = true by rw [Ho.out, hP]; simp)
          clear hP
          go_wp2_with fail
          go_ret
          rw [Ho2.out]
          exact ⟨rfl, m + m', by first | rfl | exact World.drewN_drewN _ _ _⟩
      · rw [hd] at e3 ho
        have Ho := Lib.hid (show oth p.length d P = othGo d P (p.length - (k + 1)) (k + 1) by rw [ho]; simp)
        clear hd ho
        go_wp2_with fail
        go_roundw
        case rel => exact ⟨k + 1, m, hlt, by go_num, Ho.out, rfl⟩
        case measure => simp [intOf]; omega
    · rw [othGo_end (by omega)] at ho
      have Ho := Lib.hid ho
      clear ho
      go_wp2_with fail
      go_ret
      rw [Ho.out]
      exact ⟨rfl, m, rfl⟩
set_option maxHeartbeats 1000000 in
theorem oth0_any (g gs : Nat) (A : Option Addr) (c : Nat) (p : List Pk) (per to : Int) (d P : Nat → Bool) (base : Nat) (w : World) (hb : Blk w g 106 (bookCs A p.length c per gs to)) (hr : BRow w base 4 gs p.length d) (hl : p.length ≤ 9223372036854775807)
    (hK : ∀ j m, j < p.length → Calls Tryz.prog 56 #[.int .i64 (j : Int)] (w.drewN m) fun e w' => e = .returned (.bool (P j)) ∧ ∃ m', w' = (w.drewN m).drewN m') :
    Calls Tryz.prog 55 #[.pointer (some ⟨g, 0, none⟩), .func (.func 56) #[] #[]] w fun e w' => e = .returned (.bool (oth p.length d P)) ∧ ∃ m, w' = w.drewN m := by
  have HK := Lib.hid hK
  have HR := Lib.hid hr
  have e0 : w.cell? ⟨g, 0, none⟩ = some (.slice A p.length c) := hb.cell 0
  have e2 : w.cell? ⟨g, 2, none⟩ = some (.slice (some ⟨gs, 0, none⟩) p.length p.length) := hb.cell 2
  clear hK hb hr
  go_enter Tryz.func55, Tryz.ntmps55
  go_wp2
  go_loopw [11] (fun iv wr => ∃ k m : Nat, k ≤ p.length ∧ iv = .int .i64 k ∧ oth p.length d P = othGo d P (p.length - k) k ∧ wr = w.drewN m) (fun iv _ => p.length - (intOf iv).toNat)
  case atStart => exact ⟨0, 0, Nat.zero_le _, rfl, rfl, rfl⟩
  case round =>
    obtain ⟨k, m, hk, rfl, ho, rfl⟩ := hrel
    by_cases hlt : k < p.length
    · rw [othGo_step hlt] at ho
      have q1 : (0 : Int) ≤ (k : Int) := by omega
      have q2 : (k : Int) < (p.length : Int) := by omega
      have e3 : w.cell? ⟨gs, k, none⟩ = some (.bool (d k)) := BRow.cell HR.out hlt
      cases hd : d k
      · rw [hd] at e3 ho
        have Ho := Lib.hid ho
        clear hd ho
        go_wp2_with fail
        refine (HK.out k m hlt).mono ?_
        rintro e w1 ⟨rfl, m', rfl⟩
        cases hP : P k
        · have Ho2 := Lib.hid (show oth p.length d P = othGo d P (p.length - (k + 1)) (k + 1) by rw [Ho.out, hP]; simp)
          clear hP
          go_wp2_with fail
          go_roundw
          case rel => exact ⟨k + 1, m + m', hlt, by go_num, Ho2.out, by first | rfl | exact World.drewN_drewN _ _ _⟩
          case measure => simp [intOf]; omega
        · have Ho2 := Lib.hid (show oth p.length d P = true by rw [Ho.out, hP]; simp)
          clear hP
          go_wp2_with fail
          go_ret
          rw [Ho2.out]
          exact ⟨rfl, m + m', by first | rfl | exact World.drewN_drewN _ _ _⟩
      · rw [hd] at e3 ho
        have Ho := Lib.hid (show oth p.length d P = othGo d P (p.length - (k + 1)) (k + 1) by rw [ho]; simp)
        clear hd ho
        go_wp2_with fail
        go_roundw
        case rel => exact ⟨k + 1, m, hlt, by go_num, Ho.out, rfl⟩
        case measure => simp [intOf]; omega
    · rw [othGo_end (by omega)] at ho
      have Ho := Lib.hid ho
      clear ho
      go_wp2_with fail
      go_ret
      rw [Ho.out]
      exact ⟨rfl, m, rfl⟩
end Go.Proofs.YthgpbdlmadjndaaGreatDoor
namespace Go.Proofs.YthgpbdlmadjndaaGreatDoor
open Go.RowKit
set_option maxRecDepth 100000
theorem own_same {w w' : World} {base : Nat} {e : TypeId} {size : Nat} {v : Value} {n : Nat} {xs : List Value} (h : w.ownsRow base e size v n xs) (hs : ∀ g, v.ownBlock = some g → w'.heap[g]? = w.heap[g]?) : w'.ownsRow base e size v n xs := by
  obtain ⟨h1, h2⟩ := h
  refine ⟨h1, ?_⟩
  rcases h2 with h2 | ⟨g, cap, cur, hv, hg, hh, r⟩
  · exact .inl h2
  · exact .inr ⟨g, cap, cur, hv, hg, (hs g (by rw [hv]; rfl)).trans hh, r⟩
def auVal (x : Sn) : Value := .agg #[.int .i64 x.p, .int .i64 x.f, .int .i64 x.t]
/-- What book.one finds. -/
structure OneIn (w : World) (B g gs base : Nat) (A : Option Addr) (c : Nat) (p : List Pk) (per to : Int) (d : Nat → Bool) : Prop where
  hp : RdP w B A p
  hb : Blk w g 106 (bookCs A p.length c per gs to)
  hr : BRow w base 4 gs p.length d
  hg : B ≤ g
  hgs : B ≤ gs
  ne : g ≠ gs
theorem OneIn.lt {w : World} {B g gs base : Nat} {A : Option Addr} {c : Nat} {p : List Pk} {per to : Int} {d : Nat → Bool} (h : OneIn w B g gs base A c p per to d) : g < w.heap.size ∧ gs < w.heap.size := ⟨h.hb.lt, own_lt h.hr _ rfl⟩
theorem OneIn.below {w w' : World} {B g gs base : Nat} {A : Option Addr} {c : Nat} {p : List Pk} {per to : Int} {d : Nat → Bool} (h : OneIn w B g gs base A c p per to d) (hb : Below w.heap.size w w') : OneIn w' B g gs base A c p per to d :=
  ⟨h.hp.below (hb.mono (Nat.le_trans h.hg (Nat.le_of_lt h.lt.1))), h.hb.below hb h.lt.1, own_same h.hr fun x hx => hb.block x (own_lt h.hr x hx), h.hg, h.hgs, h.ne⟩
/-- The world behind book.one's boxes. -/
def oneW (w : World) (g : Nat) (x : Sn) : World := ((w.alloc (.cells #[.pointer (some ⟨g, 0, none⟩)] 103)).alloc (.cells #[.int .i64 x.p, .int .i64 x.f, .int .i64 x.t] 62)).alloc (.cells #[.int .i64 x.p] 3)
structure OneV (V w : World) (g : Nat) (x : Sn) : Prop where
  k : Blk V (w.heap.size + 1 + 1) 3 #[.int .i64 x.p]
  b : Blk V w.heap.size 103 #[.pointer (some ⟨g, 0, none⟩)]
  x : Blk V (w.heap.size + 1) 62 #[.int .i64 x.p, .int .i64 x.f, .int .i64 x.t]
  bel : Below w.heap.size w V
  sz : w.heap.size + 3 ≤ V.heap.size
theorem oneV_new (w : World) (g : Nat) (x : Sn) : OneV (oneW w g x) w g x where
  k := by
    have := Blk.new ((w.alloc (.cells #[.pointer (some ⟨g, 0, none⟩)] 103)).alloc (.cells #[.int .i64 x.p, .int .i64 x.f, .int .i64 x.t] 62)) 3 #[.int .i64 x.p]
    simpa [oneW] using this
  b := ((Blk.new _ _ _).alloc _).alloc _
  x := by
    have := (Blk.new (w.alloc (.cells #[.pointer (some ⟨g, 0, none⟩)] 103)) 62 #[.int .i64 x.p, .int .i64 x.f, .int .i64 x.t]).alloc (.cells #[.int .i64 x.p] 3)
    simpa [oneW] using this
  bel := (((Below.refl _ _).alloc (Nat.le_refl _) _).alloc (by simp) _).alloc (by simp; omega) _
  sz := by simp [oneW]
theorem OneV.drewN {V w : World} {g : Nat} {x : Sn} (h : OneV V w g x) (n : Nat) : OneV (V.drewN n) w g x := ⟨h.k, h.b, h.x, below_drewN h.bel n, h.sz⟩
theorem OneV.drew {V w : World} {g : Nat} {x : Sn} (h : OneV V w g x) : OneV V.drew w g x := ⟨h.k, h.b, h.x, h.bel.drew, h.sz⟩
theorem OneIn.drewN {w : World} {B g gs base : Nat} {A : Option Addr} {c : Nat} {p : List Pk} {per to : Int} {d : Nat → Bool} (h : OneIn w B g gs base A c p per to d) (n : Nat) : OneIn (w.drewN n) B g gs base A c p per to d := ⟨h.hp, h.hb, h.hr, h.hg, h.hgs, h.ne⟩
theorem OneV.alloc {V w : World} {g : Nat} {x : Sn} (h : OneV V w g x) (o : Obj) : OneV (V.alloc o) w g x := ⟨h.k.alloc o, h.b.alloc o, h.x.alloc o, h.bel.alloc (by have := h.sz; omega) o, by have := h.sz; simp; omega⟩
set_option maxHeartbeats 2000000 in
theorem one_none (g gs base : Nat) (A : Option Addr) (c : Nat) (p : List Pk) (per to : Int) (d : Nat → Bool) (x : Sn) (S : Nat → Addr) (w : World) (B : Nat) (hI : OneIn w B g gs base A c p per to d) (hS : Snt w B S [3, 4, 5, 7, 8]) (hl : p.length ≤ 300) (hx : x.p < 0 ∨ (0 ≤ x.p ∧ (p.length : Int) ≤ x.p) ∨ (0 ≤ x.p ∧ x.p < p.length ∧ d x.p.toNat = true)) :
    Calls Tryz.prog 54 #[.pointer (some ⟨g, 0, none⟩), auVal x] w fun e w' => e = .returned (sv S 4) ∧ Below w.heap.size w w' := by
  have hB : B ≤ w.heap.size := Nat.le_trans hI.hg (Nat.le_of_lt hI.lt.1)
  obtain ⟨V, hV⟩ : ∃ V : World, V = oneW w g x := ⟨_, rfl⟩
  have hv : OneV V w g x := by rw [hV]; exact oneV_new w g x
  have hi : OneIn V B g gs base A c p per to d := hI.below hv.bel
  have fk : V.cell? ⟨w.heap.size + 1 + 1, 0, none⟩ = some (.int .i64 x.p) := hv.k.cell 0
  have fb : V.cell? ⟨w.heap.size, 0, none⟩ = some (.pointer (some ⟨g, 0, none⟩)) := hv.b.cell 0
  have f0 : V.cell? ⟨g, 0, none⟩ = some (.slice A p.length c) := hi.hb.cell 0
  have f2 : V.cell? ⟨g, 2, none⟩ = some (.slice (some ⟨gs, 0, none⟩) p.length p.length) := hi.hb.cell 2
  have HI := Lib.hid hi
  have HVV := Lib.hid hv
  have HV := Lib.hid (show V = ((w.alloc (.cells #[.pointer (some ⟨g, 0, none⟩)] 103)).alloc (.cells #[.int .i64 x.p, .int .i64 x.f, .int .i64 x.t] 62)).alloc (.cells #[.int .i64 x.p] 3) from hV)
  have hgsw := hI.lt.2
  clear hV hI hi hv
  unfold auVal
  go_enter Tryz.func54, Tryz.ntmps54
  go_wp2_with fail
  rw [← HV.out]
  rcases hx with h1 | ⟨h1, h2⟩ | ⟨h1, h2, h3⟩
  · go_quiet (fail)
    rename Nat => n1
    obtain ⟨V1, hV1⟩ : ∃ V1 : World, V1 = V.drewN n1 := ⟨_, rfl⟩
    have b1 : Below w.heap.size w V1 := by rw [hV1]; exact below_drewN HVV.out.bel n1
    rw [← hV1]
    clear hV1 fk fb f0 f2
    have gE : V1.cell? ⟨G 4, 0, none⟩ = some (sv S 4) := ((hS.below ((b1).mono hB)) 4 (by simp)).2.2
    simp only [G, sv] at gE
    go_wp2_with fail
    go_ret
    exact ⟨rfl, b1⟩
  · have h3 : ¬ x.p < 0 := by omega
    go_quiet (fail)
    rename Nat => n1
    obtain ⟨V1, hV1⟩ : ∃ V1 : World, V1 = V.drewN n1 := ⟨_, rfl⟩
    have b1 : Below w.heap.size w V1 := by rw [hV1]; exact below_drewN HVV.out.bel n1
    rw [← hV1]
    clear hV1 fk fb f0 f2
    have gE : V1.cell? ⟨G 4, 0, none⟩ = some (sv S 4) := ((hS.below ((b1).mono hB)) 4 (by simp)).2.2
    simp only [G, sv] at gE
    go_wp2_with fail
    go_ret
    exact ⟨rfl, b1⟩
  · obtain ⟨k, hk⟩ : ∃ k : Nat, x.p = k := ⟨x.p.toNat, by omega⟩
    rw [hk, Int.toNat_natCast] at h3
    rw [hk] at fk h1 h2
    have hkl : k < p.length := by omega
    have fs : V.cell? ⟨gs, k, none⟩ = some (.bool true) := by rw [← h3]; exact BRow.cell HI.out.hr hkl
    have h4 : ¬ (k : Int) < 0 := by omega
    have h5 : ¬ (p.length : Int) ≤ (k : Int) := by omega
    have Hk := Lib.hid hk
    have H3 := Lib.hid h3
    clear hk h3
    go_quiet (fail)
    rename Nat => n1
    obtain ⟨V1, hV1⟩ : ∃ V1 : World, V1 = V.drewN n1 := ⟨_, rfl⟩
    have b1 : Below w.heap.size w V1 := by rw [hV1]; exact below_drewN HVV.out.bel n1
    rw [← hV1]
    clear hV1 fk fb f0 f2 fs
    have gE : V1.cell? ⟨G 4, 0, none⟩ = some (sv S 4) := ((hS.below ((b1).mono hB)) 4 (by simp)).2.2
    simp only [G, sv] at gE
    go_wp2_with fail
    go_ret
    exact ⟨rfl, b1⟩
set_option maxHeartbeats 2000000 in
theorem one_old (g gs base : Nat) (A : Option Addr) (c : Nat) (p : List Pk) (per to : Int) (d : Nat → Bool) (x : Sn) (S : Nat → Addr) (w : World) (B : Nat) (hI : OneIn w B g gs base A c p per to d) (hS : Snt w B S [3, 4, 5, 7, 8]) (hl : p.length ≤ 300) (h1 : 0 ≤ x.p) (h2 : x.p < p.length) (hd : d x.p.toNat = false) (hx : x.f < aOf p x.p.toNat ∨ (¬ x.f < aOf p x.p.toNat ∧ x.f < to)) :
    Calls Tryz.prog 54 #[.pointer (some ⟨g, 0, none⟩), auVal x] w fun e w' => e = .returned (sv S 5) ∧ Below w.heap.size w w' := by
  have hB : B ≤ w.heap.size := Nat.le_trans hI.hg (Nat.le_of_lt hI.lt.1)
  obtain ⟨V, hV⟩ : ∃ V : World, V = oneW w g x := ⟨_, rfl⟩
  have hv : OneV V w g x := by rw [hV]; exact oneV_new w g x
  have hi : OneIn V B g gs base A c p per to d := hI.below hv.bel
  have fk : V.cell? ⟨w.heap.size + 1 + 1, 0, none⟩ = some (.int .i64 x.p) := hv.k.cell 0
  have fb : V.cell? ⟨w.heap.size, 0, none⟩ = some (.pointer (some ⟨g, 0, none⟩)) := hv.b.cell 0
  have f0 : V.cell? ⟨g, 0, none⟩ = some (.slice A p.length c) := hi.hb.cell 0
  have f2 : V.cell? ⟨g, 2, none⟩ = some (.slice (some ⟨gs, 0, none⟩) p.length p.length) := hi.hb.cell 2
  have HI := Lib.hid hi
  have HVV := Lib.hid hv
  have HV := Lib.hid (show V = ((w.alloc (.cells #[.pointer (some ⟨g, 0, none⟩)] 103)).alloc (.cells #[.int .i64 x.p, .int .i64 x.f, .int .i64 x.t] 62)).alloc (.cells #[.int .i64 x.p] 3) from hV)
  have hgsw := hI.lt.2
  clear hV hI hi hv
  unfold auVal
  go_enter Tryz.func54, Tryz.ntmps54
  go_wp2_with fail
  rw [← HV.out]
  obtain ⟨k, hk⟩ : ∃ k : Nat, x.p = k := ⟨x.p.toNat, by omega⟩
  rw [hk, Int.toNat_natCast] at hd
  rw [hk] at fk h1 h2
  have hkl : k < p.length := by omega
  have fs : V.cell? ⟨gs, k, none⟩ = some (.bool false) := by rw [← hd]; exact BRow.cell HI.out.hr hkl
  have h4 : ¬ (k : Int) < 0 := by omega
  have h5 : ¬ (p.length : Int) ≤ (k : Int) := by omega
  obtain ⟨b, o, rfl, hb, d0, d1, d2⟩ := RdP.get HI.out.hp hkl
  have Hk := Lib.hid hk
  have Hd := Lib.hid hd
  clear hk hd
  have ha : aOf p x.p.toNat = p[k].a := by rw [Hk.out, Int.toNat_natCast, aOf_of hkl]
  have hz : sOf p x.p.toNat = p[k].s := by rw [Hk.out, Int.toNat_natCast, sOf_of hkl]
  rw [ha] at hx
  clear ha hz
  go_quiet (fail)
  rename Nat => n1
  obtain ⟨V1, hV1⟩ : ∃ V1 : World, V1 = V.drewN n1 := ⟨_, rfl⟩
  have v1 : OneV V1 w g x := by rw [hV1]; exact HVV.out.drewN n1
  have i1 : OneIn V1 B g gs base (some ⟨b, o, none⟩) c p per to d := by rw [hV1]; exact ⟨HI.out.hp, HI.out.hb, HI.out.hr, HI.out.hg, HI.out.hgs, HI.out.ne⟩
  have k1 : V1.cell? ⟨w.heap.size + 1 + 1, 0, none⟩ = some (.int .i64 (k : Int)) := by rw [hV1]; exact fk
  have k2 : V1.cell? ⟨w.heap.size, 0, none⟩ = some (.pointer (some ⟨g, 0, none⟩)) := by rw [hV1]; exact fb
  have k3 : V1.cell? ⟨g, 0, none⟩ = some (.slice (some ⟨b, o, none⟩) p.length c) := by rw [hV1]; exact f0
  have e0 : V1.cell? ⟨b, o + k * 3, none⟩ = some (.int .i64 p[k].f) := by rw [hV1]; exact d0
  have e1 : V1.cell? ⟨b, o + k * 3 + 1, none⟩ = some (.int .i64 p[k].s) := by rw [hV1]; exact d1
  have e2 : V1.cell? ⟨b, o + k * 3 + 2, none⟩ = some (.int .i64 p[k].a) := by rw [hV1]; exact d2
  have HV1 := Lib.hid v1
  have HI1 := Lib.hid i1
  rw [← hV1]
  clear hV1 fk fb f0 f2 fs d0 d1 d2 v1 i1
  have bz : Below V1.heap.size V1 (V1.alloc (.cells #[.int .i64 0, .int .i64 0, .int .i64 0] 58)) := (Below.refl _ _).alloc (Nat.le_refl _) _
  have old : ∀ (q : Addr) (u : Value), V1.cell? q = some u → (V1.alloc (.cells #[.int .i64 0, .int .i64 0, .int .i64 0] 58)).cell? q = some u := fun q u hq => (bz.cell (p := q) (World.block_lt_of_cell? _ _ hq)).trans hq
  have y1 := old _ _ k1
  have y2 := old _ _ k2
  have y3 := old _ _ k3
  have y4 := old _ _ e0
  have y5 := old _ _ e1
  have y6 := old _ _ e2
  clear bz old
  go_wp2_with fail
  go_region
  obtain ⟨V2, hV2⟩ : ∃ V2 : World, V2 = (V1.alloc (.cells #[.int .i64 p[k].f, .int .i64 p[k].s, .int .i64 p[k].a] 58)).drew := ⟨_, rfl⟩
  have v2 : OneV V2 w g x := by rw [hV2]; exact (HV1.out.alloc _).drew
  have i2 : OneIn V2 B g gs base (some ⟨b, o, none⟩) c p per to d := by rw [hV2]; exact (HI1.out.below ((Below.refl _ _).alloc (Nat.le_refl _) _)).drewN 1
  have q2 : Blk V2 V1.heap.size 58 #[.int .i64 p[k].f, .int .i64 p[k].s, .int .i64 p[k].a] := by rw [hV2]; exact Blk.new V1 _ _
  have s2 : V1.heap.size < V2.heap.size := q2.lt
  rw [← hV2]
  clear hV2 k1 k2 k3 e0 e1 e2 y1 y2 y3 y4 y5 y6
  have x1 : V2.cell? ⟨w.heap.size + 1, 1, none⟩ = some (.int .i64 x.f) := v2.x.cell 1
  have x2 : V2.cell? ⟨V1.heap.size, 2, none⟩ = some (.int .i64 p[k].a) := q2.cell 2
  have x3 : V2.cell? ⟨w.heap.size, 0, none⟩ = some (.pointer (some ⟨g, 0, none⟩)) := v2.b.cell 0
  have x4 : V2.cell? ⟨g, 3, none⟩ = some (.int .i64 to) := i2.hb.cell 3
  have HV2 := Lib.hid v2
  have HI2 := Lib.hid i2
  have HQ2 := Lib.hid q2
  clear v2 i2 q2
  go_wp2_with fail
  rcases hx with hx | ⟨hx, hx2⟩
  · go_quiet (fail)
    rename Nat => n3
    obtain ⟨V3, hV3⟩ : ∃ V3 : World, V3 = V2.drewN n3 := ⟨_, rfl⟩
    have HV3 := Lib.hid (show OneV V3 w g x by rw [hV3]; exact HV2.out.drewN n3)
    have HI3 := Lib.hid (show OneIn V3 B g gs base (some ⟨b, o, none⟩) c p per to d by rw [hV3]; exact HI2.out.drewN n3)
    have HQ3 := Lib.hid (show Blk V3 V1.heap.size 58 #[.int .i64 p[k].f, .int .i64 p[k].s, .int .i64 p[k].a] by rw [hV3]; exact HQ2.out)
    rw [← hV3]
    clear hV3
    clear x1 x2 x3 x4
    have gE : V3.cell? ⟨G 5, 0, none⟩ = some (sv S 5) := ((hS.below ((HV3.out.bel).mono hB)) 5 (by simp)).2.2
    simp only [G, sv] at gE
    go_wp2_with fail
    go_ret
    exact ⟨rfl, HV3.out.bel⟩
  · go_quiet (fail)
    rename Nat => n3
    obtain ⟨V3, hV3⟩ : ∃ V3 : World, V3 = V2.drewN n3 := ⟨_, rfl⟩
    have HV3 := Lib.hid (show OneV V3 w g x by rw [hV3]; exact HV2.out.drewN n3)
    have HI3 := Lib.hid (show OneIn V3 B g gs base (some ⟨b, o, none⟩) c p per to d by rw [hV3]; exact HI2.out.drewN n3)
    have HQ3 := Lib.hid (show Blk V3 V1.heap.size 58 #[.int .i64 p[k].f, .int .i64 p[k].s, .int .i64 p[k].a] by rw [hV3]; exact HQ2.out)
    rw [← hV3]
    clear hV3
    clear x1 x2 x3 x4
    have gE : V3.cell? ⟨G 5, 0, none⟩ = some (sv S 5) := ((hS.below ((HV3.out.bel).mono hB)) 5 (by simp)).2.2
    simp only [G, sv] at gE
    go_wp2_with fail
    go_ret
    exact ⟨rfl, HV3.out.bel⟩
set_option maxHeartbeats 2000000 in
theorem one_shape (g gs base : Nat) (A : Option Addr) (c : Nat) (p : List Pk) (per to : Int) (d : Nat → Bool) (x : Sn) (S : Nat → Addr) (w : World) (B : Nat) (hI : OneIn w B g gs base A c p per to d) (hS : Snt w B S [3, 4, 5, 7, 8]) (hl : p.length ≤ 300) (h1 : 0 ≤ x.p) (h2 : x.p < p.length) (hd : d x.p.toNat = false) (hx : ¬ x.f < aOf p x.p.toNat) (hto : ¬ x.f < to) (hper : 1 ≤ per) (hper2 : per ≤ 1000) (hpk : ∀ y ∈ p, okPk y) (hxf : tame50 x.f) (hsh : x.t ≠ x.f + per * sOf p x.p.toNat) :
    Calls Tryz.prog 54 #[.pointer (some ⟨g, 0, none⟩), auVal x] w fun e w' => e = .returned (sv S 3) ∧ Below w.heap.size w w' := by
  have hB : B ≤ w.heap.size := Nat.le_trans hI.hg (Nat.le_of_lt hI.lt.1)
  obtain ⟨V, hV⟩ : ∃ V : World, V = oneW w g x := ⟨_, rfl⟩
  have hv : OneV V w g x := by rw [hV]; exact oneV_new w g x
  have hi : OneIn V B g gs base A c p per to d := hI.below hv.bel
  have fk : V.cell? ⟨w.heap.size + 1 + 1, 0, none⟩ = some (.int .i64 x.p) := hv.k.cell 0
  have fb : V.cell? ⟨w.heap.size, 0, none⟩ = some (.pointer (some ⟨g, 0, none⟩)) := hv.b.cell 0
  have f0 : V.cell? ⟨g, 0, none⟩ = some (.slice A p.length c) := hi.hb.cell 0
  have f2 : V.cell? ⟨g, 2, none⟩ = some (.slice (some ⟨gs, 0, none⟩) p.length p.length) := hi.hb.cell 2
  have HI := Lib.hid hi
  have HVV := Lib.hid hv
  have HV := Lib.hid (show V = ((w.alloc (.cells #[.pointer (some ⟨g, 0, none⟩)] 103)).alloc (.cells #[.int .i64 x.p, .int .i64 x.f, .int .i64 x.t] 62)).alloc (.cells #[.int .i64 x.p] 3) from hV)
  have hgsw := hI.lt.2
  clear hV hI hi hv
  unfold auVal
  go_enter Tryz.func54, Tryz.ntmps54
  go_wp2_with fail
  rw [← HV.out]
  obtain ⟨k, hk⟩ : ∃ k : Nat, x.p = k := ⟨x.p.toNat, by omega⟩
  rw [hk, Int.toNat_natCast] at hd
  rw [hk] at fk h1 h2
  have hkl : k < p.length := by omega
  have fs : V.cell? ⟨gs, k, none⟩ = some (.bool false) := by rw [← hd]; exact BRow.cell HI.out.hr hkl
  have h4 : ¬ (k : Int) < 0 := by omega
  have h5 : ¬ (p.length : Int) ≤ (k : Int) := by omega
  obtain ⟨b, o, rfl, hb, d0, d1, d2⟩ := RdP.get HI.out.hp hkl
  have Hk := Lib.hid hk
  have Hd := Lib.hid hd
  clear hk hd
  have ha : aOf p x.p.toNat = p[k].a := by rw [Hk.out, Int.toNat_natCast, aOf_of hkl]
  have hz : sOf p x.p.toNat = p[k].s := by rw [Hk.out, Int.toNat_natCast, sOf_of hkl]
  rw [ha] at hx
  rw [hz] at hsh
  clear ha hz
  have hok := hpk _ (List.getElem_mem hkl)
  have m0 : 0 ≤ per * p[k].s := Int.mul_nonneg (by omega) (by have := hok.2.2.1; omega)
  have m1 : per * p[k].s ≤ 1500000 := by
    have := Int.mul_le_mul hper2 hok.2.2.2.1 (by have := hok.2.2.1; omega) (by omega : (0:Int) ≤ 1000)
    omega
  unfold tame50 at hxf
  obtain ⟨xf1, xf2⟩ := hxf
  clear hok
  have hne : (x.t != x.f + per * p[k].s) = true := by simp; exact hsh
  clear hsh
  go_quiet (fail)
  rename Nat => n1
  obtain ⟨V1, hV1⟩ : ∃ V1 : World, V1 = V.drewN n1 := ⟨_, rfl⟩
  have v1 : OneV V1 w g x := by rw [hV1]; exact HVV.out.drewN n1
  have i1 : OneIn V1 B g gs base (some ⟨b, o, none⟩) c p per to d := by rw [hV1]; exact ⟨HI.out.hp, HI.out.hb, HI.out.hr, HI.out.hg, HI.out.hgs, HI.out.ne⟩
  have k1 : V1.cell? ⟨w.heap.size + 1 + 1, 0, none⟩ = some (.int .i64 (k : Int)) := by rw [hV1]; exact fk
  have k2 : V1.cell? ⟨w.heap.size, 0, none⟩ = some (.pointer (some ⟨g, 0, none⟩)) := by rw [hV1]; exact fb
  have k3 : V1.cell? ⟨g, 0, none⟩ = some (.slice (some ⟨b, o, none⟩) p.length c) := by rw [hV1]; exact f0
  have e0 : V1.cell? ⟨b, o + k * 3, none⟩ = some (.int .i64 p[k].f) := by rw [hV1]; exact d0
  have e1 : V1.cell? ⟨b, o + k * 3 + 1, none⟩ = some (.int .i64 p[k].s) := by rw [hV1]; exact d1
  have e2 : V1.cell? ⟨b, o + k * 3 + 2, none⟩ = some (.int .i64 p[k].a) := by rw [hV1]; exact d2
  have HV1 := Lib.hid v1
  have HI1 := Lib.hid i1
  rw [← hV1]
  clear hV1 fk fb f0 f2 fs d0 d1 d2 v1 i1
  have bz : Below V1.heap.size V1 (V1.alloc (.cells #[.int .i64 0, .int .i64 0, .int .i64 0] 58)) := (Below.refl _ _).alloc (Nat.le_refl _) _
  have old : ∀ (q : Addr) (u : Value), V1.cell? q = some u → (V1.alloc (.cells #[.int .i64 0, .int .i64 0, .int .i64 0] 58)).cell? q = some u := fun q u hq => (bz.cell (p := q) (World.block_lt_of_cell? _ _ hq)).trans hq
  have y1 := old _ _ k1
  have y2 := old _ _ k2
  have y3 := old _ _ k3
  have y4 := old _ _ e0
  have y5 := old _ _ e1
  have y6 := old _ _ e2
  clear bz old
  go_wp2_with fail
  go_region
  obtain ⟨V2, hV2⟩ : ∃ V2 : World, V2 = (V1.alloc (.cells #[.int .i64 p[k].f, .int .i64 p[k].s, .int .i64 p[k].a] 58)).drew := ⟨_, rfl⟩
  have v2 : OneV V2 w g x := by rw [hV2]; exact (HV1.out.alloc _).drew
  have i2 : OneIn V2 B g gs base (some ⟨b, o, none⟩) c p per to d := by rw [hV2]; exact (HI1.out.below ((Below.refl _ _).alloc (Nat.le_refl _) _)).drewN 1
  have q2 : Blk V2 V1.heap.size 58 #[.int .i64 p[k].f, .int .i64 p[k].s, .int .i64 p[k].a] := by rw [hV2]; exact Blk.new V1 _ _
  have s2 : V1.heap.size < V2.heap.size := q2.lt
  rw [← hV2]
  clear hV2 k1 k2 k3 e0 e1 e2 y1 y2 y3 y4 y5 y6
  have x1 : V2.cell? ⟨w.heap.size + 1, 1, none⟩ = some (.int .i64 x.f) := v2.x.cell 1
  have x2 : V2.cell? ⟨V1.heap.size, 2, none⟩ = some (.int .i64 p[k].a) := q2.cell 2
  have x3 : V2.cell? ⟨w.heap.size, 0, none⟩ = some (.pointer (some ⟨g, 0, none⟩)) := v2.b.cell 0
  have x4 : V2.cell? ⟨g, 3, none⟩ = some (.int .i64 to) := i2.hb.cell 3
  have HV2 := Lib.hid v2
  have HI2 := Lib.hid i2
  have HQ2 := Lib.hid q2
  clear v2 i2 q2
  go_wp2_with fail
  go_quiet (fail)
  rename Nat => n3
  obtain ⟨V3, hV3⟩ : ∃ V3 : World, V3 = V2.drewN n3 := ⟨_, rfl⟩
  have HV3 := Lib.hid (show OneV V3 w g x by rw [hV3]; exact HV2.out.drewN n3)
  have HI3 := Lib.hid (show OneIn V3 B g gs base (some ⟨b, o, none⟩) c p per to d by rw [hV3]; exact HI2.out.drewN n3)
  have HQ3 := Lib.hid (show Blk V3 V1.heap.size 58 #[.int .i64 p[k].f, .int .i64 p[k].s, .int .i64 p[k].a] by rw [hV3]; exact HQ2.out)
  rw [← hV3]
  clear hV3
  clear x1 x2 x3 x4
  have zx13 : V3.cell? ⟨w.heap.size + 1, 1, none⟩ = some (.int .i64 x.f) := HV3.out.x.cell 1
  have zx23 : V3.cell? ⟨w.heap.size + 1, 2, none⟩ = some (.int .i64 x.t) := HV3.out.x.cell 2
  have zq13 : V3.cell? ⟨V1.heap.size, 1, none⟩ = some (.int .i64 p[k].s) := HQ3.out.cell 1
  have zb3 : V3.cell? ⟨w.heap.size, 0, none⟩ = some (.pointer (some ⟨g, 0, none⟩)) := HV3.out.b.cell 0
  have zper3 : V3.cell? ⟨g, 1, none⟩ = some (.int .i64 per) := HI3.out.hb.cell 1
  go_wp2_with fail
  go_quiet (fail)
  rename Nat => n4
  obtain ⟨V4, hV4⟩ : ∃ V4 : World, V4 = V3.drewN n4 := ⟨_, rfl⟩
  have HV4 := Lib.hid (show OneV V4 w g x by rw [hV4]; exact HV3.out.drewN n4)
  have HI4 := Lib.hid (show OneIn V4 B g gs base (some ⟨b, o, none⟩) c p per to d by rw [hV4]; exact HI3.out.drewN n4)
  have HQ4 := Lib.hid (show Blk V4 V1.heap.size 58 #[.int .i64 p[k].f, .int .i64 p[k].s, .int .i64 p[k].a] by rw [hV4]; exact HQ3.out)
  rw [← hV4]
  clear hV4
  clear zx13 zx23 zq13 zb3 zper3
  have gE : V4.cell? ⟨G 3, 0, none⟩ = some (sv S 3) := ((hS.below ((HV4.out.bel).mono hB)) 3 (by simp)).2.2
  simp only [G, sv] at gE
  go_wp2_with fail
  go_ret
  exact ⟨rfl, HV4.out.bel⟩
set_option maxHeartbeats 2000000 in
theorem one_idle (g gs base : Nat) (A : Option Addr) (c : Nat) (p : List Pk) (per to : Int) (d : Nat → Bool) (x : Sn) (S : Nat → Addr) (w : World) (B : Nat) (hI : OneIn w B g gs base A c p per to d) (hS : Snt w B S [3, 4, 5, 7, 8]) (hl : p.length ≤ 300) (h1 : 0 ≤ x.p) (h2 : x.p < p.length) (hd : d x.p.toNat = false) (hx : ¬ x.f < aOf p x.p.toNat) (hto : ¬ x.f < to) (hper : 1 ≤ per) (hper2 : per ≤ 1000) (hpk : ∀ y ∈ p, okPk y) (hxf : tame50 x.f) (Hsh : Hid (x.t = x.f + per * sOf p x.p.toNat)) (hlt : to < x.f) (ho : oth p.length d (fun j => decide (aOf p j < x.f)) = true) :
    Calls Tryz.prog 54 #[.pointer (some ⟨g, 0, none⟩), auVal x] w fun e w' => e = .returned (sv S 7) ∧ Below w.heap.size w w' := by
  have hB : B ≤ w.heap.size := Nat.le_trans hI.hg (Nat.le_of_lt hI.lt.1)
  obtain ⟨V, hV⟩ : ∃ V : World, V = oneW w g x := ⟨_, rfl⟩
  have hv : OneV V w g x := by rw [hV]; exact oneV_new w g x
  have hi : OneIn V B g gs base A c p per to d := hI.below hv.bel
  have fk : V.cell? ⟨w.heap.size + 1 + 1, 0, none⟩ = some (.int .i64 x.p) := hv.k.cell 0
  have fb : V.cell? ⟨w.heap.size, 0, none⟩ = some (.pointer (some ⟨g, 0, none⟩)) := hv.b.cell 0
  have f0 : V.cell? ⟨g, 0, none⟩ = some (.slice A p.length c) := hi.hb.cell 0
  have f2 : V.cell? ⟨g, 2, none⟩ = some (.slice (some ⟨gs, 0, none⟩) p.length p.length) := hi.hb.cell 2
  have HI := Lib.hid hi
  have HVV := Lib.hid hv
  have HV := Lib.hid (show V = ((w.alloc (.cells #[.pointer (some ⟨g, 0, none⟩)] 103)).alloc (.cells #[.int .i64 x.p, .int .i64 x.f, .int .i64 x.t] 62)).alloc (.cells #[.int .i64 x.p] 3) from hV)
  have hgsw := hI.lt.2
  clear hV hI hi hv
  unfold auVal
  go_enter Tryz.func54, Tryz.ntmps54
  go_wp2_with fail
  rw [← HV.out]
  have HO := Lib.hid ho
  clear ho
  obtain ⟨k, hk⟩ : ∃ k : Nat, x.p = k := ⟨x.p.toNat, by omega⟩
  rw [hk, Int.toNat_natCast] at hd
  rw [hk] at fk h1 h2
  have hkl : k < p.length := by omega
  have fs : V.cell? ⟨gs, k, none⟩ = some (.bool false) := by rw [← hd]; exact BRow.cell HI.out.hr hkl
  have h4 : ¬ (k : Int) < 0 := by omega
  have h5 : ¬ (p.length : Int) ≤ (k : Int) := by omega
  obtain ⟨b, o, rfl, hb, d0, d1, d2⟩ := RdP.get HI.out.hp hkl
  have Hk := Lib.hid hk
  have Hd := Lib.hid hd
  clear hk hd
  have ha : aOf p x.p.toNat = p[k].a := by rw [Hk.out, Int.toNat_natCast, aOf_of hkl]
  have hz : sOf p x.p.toNat = p[k].s := by rw [Hk.out, Int.toNat_natCast, sOf_of hkl]
  have hsh := Hsh.out
  rw [ha] at hx
  rw [hz] at hsh
  clear ha hz
  have hok := hpk _ (List.getElem_mem hkl)
  have m0 : 0 ≤ per * p[k].s := Int.mul_nonneg (by omega) (by have := hok.2.2.1; omega)
  have m1 : per * p[k].s ≤ 1500000 := by
    have := Int.mul_le_mul hper2 hok.2.2.2.1 (by have := hok.2.2.1; omega) (by omega : (0:Int) ≤ 1000)
    omega
  unfold tame50 at hxf
  obtain ⟨xf1, xf2⟩ := hxf
  clear hok
  have hne : (x.t != x.f + per * p[k].s) = false := by simp; exact hsh
  clear hsh
  go_quiet (fail)
  rename Nat => n1
  obtain ⟨V1, hV1⟩ : ∃ V1 : World, V1 = V.drewN n1 := ⟨_, rfl⟩
  have v1 : OneV V1 w g x := by rw [hV1]; exact HVV.out.drewN n1
  have i1 : OneIn V1 B g gs base (some ⟨b, o, none⟩) c p per to d := by rw [hV1]; exact ⟨HI.out.hp, HI.out.hb, HI.out.hr, HI.out.hg, HI.out.hgs, HI.out.ne⟩
  have k1 : V1.cell? ⟨w.heap.size + 1 + 1, 0, none⟩ = some (.int .i64 (k : Int)) := by rw [hV1]; exact fk
  have k2 : V1.cell? ⟨w.heap.size, 0, none⟩ = some (.pointer (some ⟨g, 0, none⟩)) := by rw [hV1]; exact fb
  have k3 : V1.cell? ⟨g, 0, none⟩ = some (.slice (some ⟨b, o, none⟩) p.length c) := by rw [hV1]; exact f0
  have e0 : V1.cell? ⟨b, o + k * 3, none⟩ = some (.int .i64 p[k].f) := by rw [hV1]; exact d0
  have e1 : V1.cell? ⟨b, o + k * 3 + 1, none⟩ = some (.int .i64 p[k].s) := by rw [hV1]; exact d1
  have e2 : V1.cell? ⟨b, o + k * 3 + 2, none⟩ = some (.int .i64 p[k].a) := by rw [hV1]; exact d2
  have HV1 := Lib.hid v1
  have HI1 := Lib.hid i1
  rw [← hV1]
  clear hV1 fk fb f0 f2 fs d0 d1 d2 v1 i1
  have bz : Below V1.heap.size V1 (V1.alloc (.cells #[.int .i64 0, .int .i64 0, .int .i64 0] 58)) := (Below.refl _ _).alloc (Nat.le_refl _) _
  have old : ∀ (q : Addr) (u : Value), V1.cell? q = some u → (V1.alloc (.cells #[.int .i64 0, .int .i64 0, .int .i64 0] 58)).cell? q = some u := fun q u hq => (bz.cell (p := q) (World.block_lt_of_cell? _ _ hq)).trans hq
  have y1 := old _ _ k1
  have y2 := old _ _ k2
  have y3 := old _ _ k3
  have y4 := old _ _ e0
  have y5 := old _ _ e1
  have y6 := old _ _ e2
  clear bz old
  go_wp2_with fail
  go_region
  obtain ⟨V2, hV2⟩ : ∃ V2 : World, V2 = (V1.alloc (.cells #[.int .i64 p[k].f, .int .i64 p[k].s, .int .i64 p[k].a] 58)).drew := ⟨_, rfl⟩
  have v2 : OneV V2 w g x := by rw [hV2]; exact (HV1.out.alloc _).drew
  have i2 : OneIn V2 B g gs base (some ⟨b, o, none⟩) c p per to d := by rw [hV2]; exact (HI1.out.below ((Below.refl _ _).alloc (Nat.le_refl _) _)).drewN 1
  have q2 : Blk V2 V1.heap.size 58 #[.int .i64 p[k].f, .int .i64 p[k].s, .int .i64 p[k].a] := by rw [hV2]; exact Blk.new V1 _ _
  have s2 : V1.heap.size < V2.heap.size := q2.lt
  rw [← hV2]
  clear hV2 k1 k2 k3 e0 e1 e2 y1 y2 y3 y4 y5 y6
  have x1 : V2.cell? ⟨w.heap.size + 1, 1, none⟩ = some (.int .i64 x.f) := v2.x.cell 1
  have x2 : V2.cell? ⟨V1.heap.size, 2, none⟩ = some (.int .i64 p[k].a) := q2.cell 2
  have x3 : V2.cell? ⟨w.heap.size, 0, none⟩ = some (.pointer (some ⟨g, 0, none⟩)) := v2.b.cell 0
  have x4 : V2.cell? ⟨g, 3, none⟩ = some (.int .i64 to) := i2.hb.cell 3
  have HV2 := Lib.hid v2
  have HI2 := Lib.hid i2
  have HQ2 := Lib.hid q2
  clear v2 i2 q2
  go_wp2_with fail
  go_quiet (fail)
  rename Nat => n3
  obtain ⟨V3, hV3⟩ : ∃ V3 : World, V3 = V2.drewN n3 := ⟨_, rfl⟩
  have HV3 := Lib.hid (show OneV V3 w g x by rw [hV3]; exact HV2.out.drewN n3)
  have HI3 := Lib.hid (show OneIn V3 B g gs base (some ⟨b, o, none⟩) c p per to d by rw [hV3]; exact HI2.out.drewN n3)
  have HQ3 := Lib.hid (show Blk V3 V1.heap.size 58 #[.int .i64 p[k].f, .int .i64 p[k].s, .int .i64 p[k].a] by rw [hV3]; exact HQ2.out)
  rw [← hV3]
  clear hV3
  clear x1 x2 x3 x4
  have zx13 : V3.cell? ⟨w.heap.size + 1, 1, none⟩ = some (.int .i64 x.f) := HV3.out.x.cell 1
  have zx23 : V3.cell? ⟨w.heap.size + 1, 2, none⟩ = some (.int .i64 x.t) := HV3.out.x.cell 2
  have zq13 : V3.cell? ⟨V1.heap.size, 1, none⟩ = some (.int .i64 p[k].s) := HQ3.out.cell 1
  have zb3 : V3.cell? ⟨w.heap.size, 0, none⟩ = some (.pointer (some ⟨g, 0, none⟩)) := HV3.out.b.cell 0
  have zper3 : V3.cell? ⟨g, 1, none⟩ = some (.int .i64 per) := HI3.out.hb.cell 1
  go_wp2_with fail
  go_quiet (fail)
  rename Nat => n4
  obtain ⟨V4, hV4⟩ : ∃ V4 : World, V4 = V3.drewN n4 := ⟨_, rfl⟩
  have HV4 := Lib.hid (show OneV V4 w g x by rw [hV4]; exact HV3.out.drewN n4)
  have HI4 := Lib.hid (show OneIn V4 B g gs base (some ⟨b, o, none⟩) c p per to d by rw [hV4]; exact HI3.out.drewN n4)
  have HQ4 := Lib.hid (show Blk V4 V1.heap.size 58 #[.int .i64 p[k].f, .int .i64 p[k].s, .int .i64 p[k].a] by rw [hV4]; exact HQ3.out)
  rw [← hV4]
  clear hV4
  clear zx13 zx23 zq13 zb3 zper3
  have zx14 : V4.cell? ⟨w.heap.size + 1, 1, none⟩ = some (.int .i64 x.f) := HV4.out.x.cell 1
  have zb4 : V4.cell? ⟨w.heap.size, 0, none⟩ = some (.pointer (some ⟨g, 0, none⟩)) := HV4.out.b.cell 0
  have zto4 : V4.cell? ⟨g, 3, none⟩ = some (.int .i64 to) := HI4.out.hb.cell 3
  go_wp2_with fail
  have HK9 : Hid (∀ n : Nat, Calls Tryz.prog 55 #[.pointer (some ⟨g, 0, none⟩), .func (.func 81) #[] #[.pointer (some ⟨w.heap.size, 0, none⟩), .pointer (some ⟨w.heap.size + 1, 0, none⟩)]] (V4.drewN n) fun e w' => e = .returned (.bool true) ∧ ∃ m, w' = (V4.drewN n).drewN m) := Lib.hid fun n => by
    have hc := oth1_any w.heap.size (w.heap.size + 1) g gs (some ⟨b, o, none⟩) c p per to d (fun j => decide (aOf p j < x.f)) base (V4.drewN n) (HI4.out.drewN n).hb (HI4.out.drewN n).hr (by omega) (fun j m hj => aone1_any j w.heap.size (w.heap.size + 1) g gs m (some ⟨b, o, none⟩) c p per to x (V4.drewN n) B (HI4.out.drewN n).hp (HV4.out.drewN n).b (HV4.out.drewN n).x (HI4.out.drewN n).hb hj)
    rw [HO.out] at hc
    exact hc
  go_quiet ((go_at_call 55; exact Calls.quiet_of (HK9.out _)))
  rename Nat => n5
  obtain ⟨V5, hV5⟩ : ∃ V5 : World, V5 = V4.drewN n5 := ⟨_, rfl⟩
  have HV5 := Lib.hid (show OneV V5 w g x by rw [hV5]; exact HV4.out.drewN n5)
  have HI5 := Lib.hid (show OneIn V5 B g gs base (some ⟨b, o, none⟩) c p per to d by rw [hV5]; exact HI4.out.drewN n5)
  have HQ5 := Lib.hid (show Blk V5 V1.heap.size 58 #[.int .i64 p[k].f, .int .i64 p[k].s, .int .i64 p[k].a] by rw [hV5]; exact HQ4.out)
  rw [← hV5]
  clear hV5
  clear zx14 zb4 zto4
  have gE : V5.cell? ⟨G 7, 0, none⟩ = some (sv S 7) := ((hS.below ((HV5.out.bel).mono hB)) 7 (by simp)).2.2
  simp only [G, sv] at gE
  go_wp2_with fail
  go_ret
  exact ⟨rfl, HV5.out.bel⟩
set_option maxHeartbeats 2000000 in
theorem one_turnA (g gs base : Nat) (A : Option Addr) (c : Nat) (p : List Pk) (per to : Int) (d : Nat → Bool) (x : Sn) (S : Nat → Addr) (w : World) (B : Nat) (hI : OneIn w B g gs base A c p per to d) (hS : Snt w B S [3, 4, 5, 7, 8]) (hl : p.length ≤ 300) (h1 : 0 ≤ x.p) (h2 : x.p < p.length) (hd : d x.p.toNat = false) (hx : ¬ x.f < aOf p x.p.toNat) (hto : ¬ x.f < to) (hper : 1 ≤ per) (hper2 : per ≤ 1000) (hpk : ∀ y ∈ p, okPk y) (hxf : tame50 x.f) (Hsh : Hid (x.t = x.f + per * sOf p x.p.toNat)) (hlt : to < x.f) (ho : oth p.length d (fun j => decide (aOf p j < x.f)) = false) (ho2 : oth p.length d (fun j => decide (j < x.p.toNat) && sameFl p x.p.toNat j) = true) :
    Calls Tryz.prog 54 #[.pointer (some ⟨g, 0, none⟩), auVal x] w fun e w' => e = .returned (sv S 8) ∧ Below w.heap.size w w' := by
  have hB : B ≤ w.heap.size := Nat.le_trans hI.hg (Nat.le_of_lt hI.lt.1)
  obtain ⟨V, hV⟩ : ∃ V : World, V = oneW w g x := ⟨_, rfl⟩
  have hv : OneV V w g x := by rw [hV]; exact oneV_new w g x
  have hi : OneIn V B g gs base A c p per to d := hI.below hv.bel
  have fk : V.cell? ⟨w.heap.size + 1 + 1, 0, none⟩ = some (.int .i64 x.p) := hv.k.cell 0
  have fb : V.cell? ⟨w.heap.size, 0, none⟩ = some (.pointer (some ⟨g, 0, none⟩)) := hv.b.cell 0
  have f0 : V.cell? ⟨g, 0, none⟩ = some (.slice A p.length c) := hi.hb.cell 0
  have f2 : V.cell? ⟨g, 2, none⟩ = some (.slice (some ⟨gs, 0, none⟩) p.length p.length) := hi.hb.cell 2
  have HI := Lib.hid hi
  have HVV := Lib.hid hv
  have HV := Lib.hid (show V = ((w.alloc (.cells #[.pointer (some ⟨g, 0, none⟩)] 103)).alloc (.cells #[.int .i64 x.p, .int .i64 x.f, .int .i64 x.t] 62)).alloc (.cells #[.int .i64 x.p] 3) from hV)
  have hgsw := hI.lt.2
  clear hV hI hi hv
  unfold auVal
  go_enter Tryz.func54, Tryz.ntmps54
  go_wp2_with fail
  rw [← HV.out]
  have HO := Lib.hid ho
  clear ho
  have HO2 := Lib.hid ho2
  clear ho2
  obtain ⟨k, hk⟩ : ∃ k : Nat, x.p = k := ⟨x.p.toNat, by omega⟩
  rw [hk, Int.toNat_natCast] at hd
  rw [hk] at fk h1 h2
  have hkl : k < p.length := by omega
  have fs : V.cell? ⟨gs, k, none⟩ = some (.bool false) := by rw [← hd]; exact BRow.cell HI.out.hr hkl
  have h4 : ¬ (k : Int) < 0 := by omega
  have h5 : ¬ (p.length : Int) ≤ (k : Int) := by omega
  obtain ⟨b, o, rfl, hb, d0, d1, d2⟩ := RdP.get HI.out.hp hkl
  have Hk := Lib.hid hk
  have Hd := Lib.hid hd
  clear hk hd
  have ha : aOf p x.p.toNat = p[k].a := by rw [Hk.out, Int.toNat_natCast, aOf_of hkl]
  have hz : sOf p x.p.toNat = p[k].s := by rw [Hk.out, Int.toNat_natCast, sOf_of hkl]
  have hsh := Hsh.out
  rw [ha] at hx
  rw [hz] at hsh
  clear ha hz
  have hok := hpk _ (List.getElem_mem hkl)
  have m0 : 0 ≤ per * p[k].s := Int.mul_nonneg (by omega) (by have := hok.2.2.1; omega)
  have m1 : per * p[k].s ≤ 1500000 := by
    have := Int.mul_le_mul hper2 hok.2.2.2.1 (by have := hok.2.2.1; omega) (by omega : (0:Int) ≤ 1000)
    omega
  unfold tame50 at hxf
  obtain ⟨xf1, xf2⟩ := hxf
  clear hok
  have hne : (x.t != x.f + per * p[k].s) = false := by simp; exact hsh
  clear hsh
  go_quiet (fail)
  rename Nat => n1
  obtain ⟨V1, hV1⟩ : ∃ V1 : World, V1 = V.drewN n1 := ⟨_, rfl⟩
  have v1 : OneV V1 w g x := by rw [hV1]; exact HVV.out.drewN n1
  have i1 : OneIn V1 B g gs base (some ⟨b, o, none⟩) c p per to d := by rw [hV1]; exact ⟨HI.out.hp, HI.out.hb, HI.out.hr, HI.out.hg, HI.out.hgs, HI.out.ne⟩
  have k1 : V1.cell? ⟨w.heap.size + 1 + 1, 0, none⟩ = some (.int .i64 (k : Int)) := by rw [hV1]; exact fk
  have k2 : V1.cell? ⟨w.heap.size, 0, none⟩ = some (.pointer (some ⟨g, 0, none⟩)) := by rw [hV1]; exact fb
  have k3 : V1.cell? ⟨g, 0, none⟩ = some (.slice (some ⟨b, o, none⟩) p.length c) := by rw [hV1]; exact f0
  have e0 : V1.cell? ⟨b, o + k * 3, none⟩ = some (.int .i64 p[k].f) := by rw [hV1]; exact d0
  have e1 : V1.cell? ⟨b, o + k * 3 + 1, none⟩ = some (.int .i64 p[k].s) := by rw [hV1]; exact d1
  have e2 : V1.cell? ⟨b, o + k * 3 + 2, none⟩ = some (.int .i64 p[k].a) := by rw [hV1]; exact d2
  have HV1 := Lib.hid v1
  have HI1 := Lib.hid i1
  rw [← hV1]
  clear hV1 fk fb f0 f2 fs d0 d1 d2 v1 i1
  have bz : Below V1.heap.size V1 (V1.alloc (.cells #[.int .i64 0, .int .i64 0, .int .i64 0] 58)) := (Below.refl _ _).alloc (Nat.le_refl _) _
  have old : ∀ (q : Addr) (u : Value), V1.cell? q = some u → (V1.alloc (.cells #[.int .i64 0, .int .i64 0, .int .i64 0] 58)).cell? q = some u := fun q u hq => (bz.cell (p := q) (World.block_lt_of_cell? _ _ hq)).trans hq
  have y1 := old _ _ k1
  have y2 := old _ _ k2
  have y3 := old _ _ k3
  have y4 := old _ _ e0
  have y5 := old _ _ e1
  have y6 := old _ _ e2
  clear bz old
  go_wp2_with fail
  go_region
  obtain ⟨V2, hV2⟩ : ∃ V2 : World, V2 = (V1.alloc (.cells #[.int .i64 p[k].f, .int .i64 p[k].s, .int .i64 p[k].a] 58)).drew := ⟨_, rfl⟩
  have v2 : OneV V2 w g x := by rw [hV2]; exact (HV1.out.alloc _).drew
  have i2 : OneIn V2 B g gs base (some ⟨b, o, none⟩) c p per to d := by rw [hV2]; exact (HI1.out.below ((Below.refl _ _).alloc (Nat.le_refl _) _)).drewN 1
  have q2 : Blk V2 V1.heap.size 58 #[.int .i64 p[k].f, .int .i64 p[k].s, .int .i64 p[k].a] := by rw [hV2]; exact Blk.new V1 _ _
  have s2 : V1.heap.size < V2.heap.size := q2.lt
  rw [← hV2]
  clear hV2 k1 k2 k3 e0 e1 e2 y1 y2 y3 y4 y5 y6
  have x1 : V2.cell? ⟨w.heap.size + 1, 1, none⟩ = some (.int .i64 x.f) := v2.x.cell 1
  have x2 : V2.cell? ⟨V1.heap.size, 2, none⟩ = some (.int .i64 p[k].a) := q2.cell 2
  have x3 : V2.cell? ⟨w.heap.size, 0, none⟩ = some (.pointer (some ⟨g, 0, none⟩)) := v2.b.cell 0
  have x4 : V2.cell? ⟨g, 3, none⟩ = some (.int .i64 to) := i2.hb.cell 3
  have HV2 := Lib.hid v2
  have HI2 := Lib.hid i2
  have HQ2 := Lib.hid q2
  clear v2 i2 q2
  go_wp2_with fail
  go_quiet (fail)
  rename Nat => n3
  obtain ⟨V3, hV3⟩ : ∃ V3 : World, V3 = V2.drewN n3 := ⟨_, rfl⟩
  have HV3 := Lib.hid (show OneV V3 w g x by rw [hV3]; exact HV2.out.drewN n3)
  have HI3 := Lib.hid (show OneIn V3 B g gs base (some ⟨b, o, none⟩) c p per to d by rw [hV3]; exact HI2.out.drewN n3)
  have HQ3 := Lib.hid (show Blk V3 V1.heap.size 58 #[.int .i64 p[k].f, .int .i64 p[k].s, .int .i64 p[k].a] by rw [hV3]; exact HQ2.out)
  rw [← hV3]
  clear hV3
  clear x1 x2 x3 x4
  have zx13 : V3.cell? ⟨w.heap.size + 1, 1, none⟩ = some (.int .i64 x.f) := HV3.out.x.cell 1
  have zx23 : V3.cell? ⟨w.heap.size + 1, 2, none⟩ = some (.int .i64 x.t) := HV3.out.x.cell 2
  have zq13 : V3.cell? ⟨V1.heap.size, 1, none⟩ = some (.int .i64 p[k].s) := HQ3.out.cell 1
  have zb3 : V3.cell? ⟨w.heap.size, 0, none⟩ = some (.pointer (some ⟨g, 0, none⟩)) := HV3.out.b.cell 0
  have zper3 : V3.cell? ⟨g, 1, none⟩ = some (.int .i64 per) := HI3.out.hb.cell 1
  go_wp2_with fail
  go_quiet (fail)
  rename Nat => n4
  obtain ⟨V4, hV4⟩ : ∃ V4 : World, V4 = V3.drewN n4 := ⟨_, rfl⟩
  have HV4 := Lib.hid (show OneV V4 w g x by rw [hV4]; exact HV3.out.drewN n4)
  have HI4 := Lib.hid (show OneIn V4 B g gs base (some ⟨b, o, none⟩) c p per to d by rw [hV4]; exact HI3.out.drewN n4)
  have HQ4 := Lib.hid (show Blk V4 V1.heap.size 58 #[.int .i64 p[k].f, .int .i64 p[k].s, .int .i64 p[k].a] by rw [hV4]; exact HQ3.out)
  rw [← hV4]
  clear hV4
  clear zx13 zx23 zq13 zb3 zper3
  have zx14 : V4.cell? ⟨w.heap.size + 1, 1, none⟩ = some (.int .i64 x.f) := HV4.out.x.cell 1
  have zb4 : V4.cell? ⟨w.heap.size, 0, none⟩ = some (.pointer (some ⟨g, 0, none⟩)) := HV4.out.b.cell 0
  have zto4 : V4.cell? ⟨g, 3, none⟩ = some (.int .i64 to) := HI4.out.hb.cell 3
  go_wp2_with fail
  have HK9 : Hid (∀ n : Nat, Calls Tryz.prog 55 #[.pointer (some ⟨g, 0, none⟩), .func (.func 81) #[] #[.pointer (some ⟨w.heap.size, 0, none⟩), .pointer (some ⟨w.heap.size + 1, 0, none⟩)]] (V4.drewN n) fun e w' => e = .returned (.bool false) ∧ ∃ m, w' = (V4.drewN n).drewN m) := Lib.hid fun n => by
    have hc := oth1_any w.heap.size (w.heap.size + 1) g gs (some ⟨b, o, none⟩) c p per to d (fun j => decide (aOf p j < x.f)) base (V4.drewN n) (HI4.out.drewN n).hb (HI4.out.drewN n).hr (by omega) (fun j m hj => aone1_any j w.heap.size (w.heap.size + 1) g gs m (some ⟨b, o, none⟩) c p per to x (V4.drewN n) B (HI4.out.drewN n).hp (HV4.out.drewN n).b (HV4.out.drewN n).x (HI4.out.drewN n).hb hj)
    rw [HO.out] at hc
    exact hc
  go_quiet ((go_at_call 55; exact Calls.quiet_of (HK9.out _)))
  rename Nat => n5
  obtain ⟨V5, hV5⟩ : ∃ V5 : World, V5 = V4.drewN n5 := ⟨_, rfl⟩
  have HV5 := Lib.hid (show OneV V5 w g x by rw [hV5]; exact HV4.out.drewN n5)
  have HI5 := Lib.hid (show OneIn V5 B g gs base (some ⟨b, o, none⟩) c p per to d by rw [hV5]; exact HI4.out.drewN n5)
  have HQ5 := Lib.hid (show Blk V5 V1.heap.size 58 #[.int .i64 p[k].f, .int .i64 p[k].s, .int .i64 p[k].a] by rw [hV5]; exact HQ4.out)
  rw [← hV5]
  clear hV5
  clear zx14 zb4 zto4
  have HK11 : Hid (Calls Tryz.prog 55 #[.pointer (some ⟨g, 0, none⟩), .func (.func 82) #[] #[.pointer (some ⟨w.heap.size + 1 + 1, 0, none⟩), .pointer (some ⟨w.heap.size, 0, none⟩), .pointer (some ⟨V1.heap.size, 0, none⟩)]] V5 fun e w' => e = .returned (.bool true) ∧ ∃ m, w' = V5.drewN m) := Lib.hid (by
    have hk9 : Blk V5 (w.heap.size + 1 + 1) 3 #[.int .i64 (k : Int)] := by have := HV5.out.k; rw [Hk.out] at this; exact this
    have hc := oth2_any (w.heap.size + 1 + 1) w.heap.size V1.heap.size g gs (some ⟨b, o, none⟩) c p per to d (fun j => decide (j < k) && sameFl p k j) base V5 HI5.out.hb HI5.out.hr (by omega) (fun j m hj => aone2_any j k (w.heap.size + 1 + 1) w.heap.size V1.heap.size g gs m (some ⟨b, o, none⟩) c p per to p[k] V5 B HI5.out.hp hk9 HV5.out.b HQ5.out HI5.out.hb hj hkl rfl)
    have ho2 := HO2.out
    rw [Hk.out, Int.toNat_natCast] at ho2
    rw [ho2] at hc
    exact hc)
  have zb5 : V5.cell? ⟨w.heap.size, 0, none⟩ = some (.pointer (some ⟨g, 0, none⟩)) := HV5.out.b.cell 0
  go_wp2_with fail
  refine HK11.out.mono ?_
  rintro e w6 ⟨rfl, n6, hV6⟩
  have HV6 := Lib.hid (show OneV w6 w g x by rw [hV6]; exact HV5.out.drewN n6)
  have HI6 := Lib.hid (show OneIn w6 B g gs base (some ⟨b, o, none⟩) c p per to d by rw [hV6]; exact HI5.out.drewN n6)
  clear hV6
  clear zb5
  have gE : w6.cell? ⟨G 8, 0, none⟩ = some (sv S 8) := ((hS.below ((HV6.out.bel).mono hB)) 8 (by simp)).2.2
  simp only [G, sv] at gE
  go_wp2_with fail
  go_ret
  exact ⟨rfl, HV6.out.bel⟩
set_option maxHeartbeats 2000000 in
theorem one_okA (g gs base : Nat) (A : Option Addr) (c : Nat) (p : List Pk) (per to : Int) (d : Nat → Bool) (x : Sn) (S : Nat → Addr) (w : World) (B : Nat) (hI : OneIn w B g gs base A c p per to d) (hS : Snt w B S [3, 4, 5, 7, 8]) (hl : p.length ≤ 300) (h1 : 0 ≤ x.p) (h2 : x.p < p.length) (hd : d x.p.toNat = false) (hx : ¬ x.f < aOf p x.p.toNat) (hto : ¬ x.f < to) (hper : 1 ≤ per) (hper2 : per ≤ 1000) (hpk : ∀ y ∈ p, okPk y) (hxf : tame50 x.f) (Hsh : Hid (x.t = x.f + per * sOf p x.p.toNat)) (hlt : to < x.f) (ho : oth p.length d (fun j => decide (aOf p j < x.f)) = false) (ho2 : oth p.length d (fun j => decide (j < x.p.toNat) && sameFl p x.p.toNat j) = false) :
    Calls Tryz.prog 54 #[.pointer (some ⟨g, 0, none⟩), auVal x] w fun e w' => e = .returned .nilIface ∧ OneIn w' B g gs base A c p per x.t (dSet d x.p.toNat) ∧ Below B w w' := by
  have hB : B ≤ w.heap.size := Nat.le_trans hI.hg (Nat.le_of_lt hI.lt.1)
  obtain ⟨V, hV⟩ : ∃ V : World, V = oneW w g x := ⟨_, rfl⟩
  have hv : OneV V w g x := by rw [hV]; exact oneV_new w g x
  have hi : OneIn V B g gs base A c p per to d := hI.below hv.bel
  have fk : V.cell? ⟨w.heap.size + 1 + 1, 0, none⟩ = some (.int .i64 x.p) := hv.k.cell 0
  have fb : V.cell? ⟨w.heap.size, 0, none⟩ = some (.pointer (some ⟨g, 0, none⟩)) := hv.b.cell 0
  have f0 : V.cell? ⟨g, 0, none⟩ = some (.slice A p.length c) := hi.hb.cell 0
  have f2 : V.cell? ⟨g, 2, none⟩ = some (.slice (some ⟨gs, 0, none⟩) p.length p.length) := hi.hb.cell 2
  have HI := Lib.hid hi
  have HVV := Lib.hid hv
  have HV := Lib.hid (show V = ((w.alloc (.cells #[.pointer (some ⟨g, 0, none⟩)] 103)).alloc (.cells #[.int .i64 x.p, .int .i64 x.f, .int .i64 x.t] 62)).alloc (.cells #[.int .i64 x.p] 3) from hV)
  have hgsw := hI.lt.2
  clear hV hI hi hv
  unfold auVal
  go_enter Tryz.func54, Tryz.ntmps54
  go_wp2_with fail
  rw [← HV.out]
  have HO := Lib.hid ho
  clear ho
  have HO2 := Lib.hid ho2
  clear ho2
  obtain ⟨k, hk⟩ : ∃ k : Nat, x.p = k := ⟨x.p.toNat, by omega⟩
  rw [hk, Int.toNat_natCast] at hd
  rw [hk] at fk h1 h2
  have hkl : k < p.length := by omega
  have fs : V.cell? ⟨gs, k, none⟩ = some (.bool false) := by rw [← hd]; exact BRow.cell HI.out.hr hkl
  have h4 : ¬ (k : Int) < 0 := by omega
  have h5 : ¬ (p.length : Int) ≤ (k : Int) := by omega
  obtain ⟨b, o, rfl, hb, d0, d1, d2⟩ := RdP.get HI.out.hp hkl
  have Hk := Lib.hid hk
  have Hd := Lib.hid hd
  clear hk hd
  have ha : aOf p x.p.toNat = p[k].a := by rw [Hk.out, Int.toNat_natCast, aOf_of hkl]
  have hz : sOf p x.p.toNat = p[k].s := by rw [Hk.out, Int.toNat_natCast, sOf_of hkl]
  have hsh := Hsh.out
  rw [ha] at hx
  rw [hz] at hsh
  clear ha hz
  have hok := hpk _ (List.getElem_mem hkl)
  have m0 : 0 ≤ per * p[k].s := Int.mul_nonneg (by omega) (by have := hok.2.2.1; omega)
  have m1 : per * p[k].s ≤ 1500000 := by
    have := Int.mul_le_mul hper2 hok.2.2.2.1 (by have := hok.2.2.1; omega) (by omega : (0:Int) ≤ 1000)
    omega
  unfold tame50 at hxf
  obtain ⟨xf1, xf2⟩ := hxf
  clear hok
  have hne : (x.t != x.f + per * p[k].s) = false := by simp; exact hsh
  clear hsh
  go_quiet (fail)
  rename Nat => n1
  obtain ⟨V1, hV1⟩ : ∃ V1 : World, V1 = V.drewN n1 := ⟨_, rfl⟩
  have v1 : OneV V1 w g x := by rw [hV1]; exact HVV.out.drewN n1
  have i1 : OneIn V1 B g gs base (some ⟨b, o, none⟩) c p per to d := by rw [hV1]; exact ⟨HI.out.hp, HI.out.hb, HI.out.hr, HI.out.hg, HI.out.hgs, HI.out.ne⟩
  have k1 : V1.cell? ⟨w.heap.size + 1 + 1, 0, none⟩ = some (.int .i64 (k : Int)) := by rw [hV1]; exact fk
  have k2 : V1.cell? ⟨w.heap.size, 0, none⟩ = some (.pointer (some ⟨g, 0, none⟩)) := by rw [hV1]; exact fb
  have k3 : V1.cell? ⟨g, 0, none⟩ = some (.slice (some ⟨b, o, none⟩) p.length c) := by rw [hV1]; exact f0
  have e0 : V1.cell? ⟨b, o + k * 3, none⟩ = some (.int .i64 p[k].f) := by rw [hV1]; exact d0
  have e1 : V1.cell? ⟨b, o + k * 3 + 1, none⟩ = some (.int .i64 p[k].s) := by rw [hV1]; exact d1
  have e2 : V1.cell? ⟨b, o + k * 3 + 2, none⟩ = some (.int .i64 p[k].a) := by rw [hV1]; exact d2
  have HV1 := Lib.hid v1
  have HI1 := Lib.hid i1
  rw [← hV1]
  clear hV1 fk fb f0 f2 fs d0 d1 d2 v1 i1
  have bz : Below V1.heap.size V1 (V1.alloc (.cells #[.int .i64 0, .int .i64 0, .int .i64 0] 58)) := (Below.refl _ _).alloc (Nat.le_refl _) _
  have old : ∀ (q : Addr) (u : Value), V1.cell? q = some u → (V1.alloc (.cells #[.int .i64 0, .int .i64 0, .int .i64 0] 58)).cell? q = some u := fun q u hq => (bz.cell (p := q) (World.block_lt_of_cell? _ _ hq)).trans hq
  have y1 := old _ _ k1
  have y2 := old _ _ k2
  have y3 := old _ _ k3
  have y4 := old _ _ e0
  have y5 := old _ _ e1
  have y6 := old _ _ e2
  clear bz old
  go_wp2_with fail
  go_region
  obtain ⟨V2, hV2⟩ : ∃ V2 : World, V2 = (V1.alloc (.cells #[.int .i64 p[k].f, .int .i64 p[k].s, .int .i64 p[k].a] 58)).drew := ⟨_, rfl⟩
  have v2 : OneV V2 w g x := by rw [hV2]; exact (HV1.out.alloc _).drew
  have i2 : OneIn V2 B g gs base (some ⟨b, o, none⟩) c p per to d := by rw [hV2]; exact (HI1.out.below ((Below.refl _ _).alloc (Nat.le_refl _) _)).drewN 1
  have q2 : Blk V2 V1.heap.size 58 #[.int .i64 p[k].f, .int .i64 p[k].s, .int .i64 p[k].a] := by rw [hV2]; exact Blk.new V1 _ _
  have s2 : V1.heap.size < V2.heap.size := q2.lt
  rw [← hV2]
  clear hV2 k1 k2 k3 e0 e1 e2 y1 y2 y3 y4 y5 y6
  have x1 : V2.cell? ⟨w.heap.size + 1, 1, none⟩ = some (.int .i64 x.f) := v2.x.cell 1
  have x2 : V2.cell? ⟨V1.heap.size, 2, none⟩ = some (.int .i64 p[k].a) := q2.cell 2
  have x3 : V2.cell? ⟨w.heap.size, 0, none⟩ = some (.pointer (some ⟨g, 0, none⟩)) := v2.b.cell 0
  have x4 : V2.cell? ⟨g, 3, none⟩ = some (.int .i64 to) := i2.hb.cell 3
  have HV2 := Lib.hid v2
  have HI2 := Lib.hid i2
  have HQ2 := Lib.hid q2
  clear v2 i2 q2
  go_wp2_with fail
  go_quiet (fail)
  rename Nat => n3
  obtain ⟨V3, hV3⟩ : ∃ V3 : World, V3 = V2.drewN n3 := ⟨_, rfl⟩
  have HV3 := Lib.hid (show OneV V3 w g x by rw [hV3]; exact HV2.out.drewN n3)
  have HI3 := Lib.hid (show OneIn V3 B g gs base (some ⟨b, o, none⟩) c p per to d by rw [hV3]; exact HI2.out.drewN n3)
  have HQ3 := Lib.hid (show Blk V3 V1.heap.size 58 #[.int .i64 p[k].f, .int .i64 p[k].s, .int .i64 p[k].a] by rw [hV3]; exact HQ2.out)
  rw [← hV3]
  clear hV3
  clear x1 x2 x3 x4
  have zx13 : V3.cell? ⟨w.heap.size + 1, 1, none⟩ = some (.int .i64 x.f) := HV3.out.x.cell 1
  have zx23 : V3.cell? ⟨w.heap.size + 1, 2, none⟩ = some (.int .i64 x.t) := HV3.out.x.cell 2
  have zq13 : V3.cell? ⟨V1.heap.size, 1, none⟩ = some (.int .i64 p[k].s) := HQ3.out.cell 1
  have zb3 : V3.cell? ⟨w.heap.size, 0, none⟩ = some (.pointer (some ⟨g, 0, none⟩)) := HV3.out.b.cell 0
  have zper3 : V3.cell? ⟨g, 1, none⟩ = some (.int .i64 per) := HI3.out.hb.cell 1
  go_wp2_with fail
  go_quiet (fail)
  rename Nat => n4
  obtain ⟨V4, hV4⟩ : ∃ V4 : World, V4 = V3.drewN n4 := ⟨_, rfl⟩
  have HV4 := Lib.hid (show OneV V4 w g x by rw [hV4]; exact HV3.out.drewN n4)
  have HI4 := Lib.hid (show OneIn V4 B g gs base (some ⟨b, o, none⟩) c p per to d by rw [hV4]; exact HI3.out.drewN n4)
  have HQ4 := Lib.hid (show Blk V4 V1.heap.size 58 #[.int .i64 p[k].f, .int .i64 p[k].s, .int .i64 p[k].a] by rw [hV4]; exact HQ3.out)
  rw [← hV4]
  clear hV4
  clear zx13 zx23 zq13 zb3 zper3
  have zx14 : V4.cell? ⟨w.heap.size + 1, 1, none⟩ = some (.int .i64 x.f) := HV4.out.x.cell 1
  have zb4 : V4.cell? ⟨w.heap.size, 0, none⟩ = some (.pointer (some ⟨g, 0, none⟩)) := HV4.out.b.cell 0
  have zto4 : V4.cell? ⟨g, 3, none⟩ = some (.int .i64 to) := HI4.out.hb.cell 3
  go_wp2_with fail
  have HK9 : Hid (∀ n : Nat, Calls Tryz.prog 55 #[.pointer (some ⟨g, 0, none⟩), .func (.func 81) #[] #[.pointer (some ⟨w.heap.size, 0, none⟩), .pointer (some ⟨w.heap.size + 1, 0, none⟩)]] (V4.drewN n) fun e w' => e = .returned (.bool false) ∧ ∃ m, w' = (V4.drewN n).drewN m) := Lib.hid fun n => by
    have hc := oth1_any w.heap.size (w.heap.size + 1) g gs (some ⟨b, o, none⟩) c p per to d (fun j => decide (aOf p j < x.f)) base (V4.drewN n) (HI4.out.drewN n).hb (HI4.out.drewN n).hr (by omega) (fun j m hj => aone1_any j w.heap.size (w.heap.size + 1) g gs m (some ⟨b, o, none⟩) c p per to x (V4.drewN n) B (HI4.out.drewN n).hp (HV4.out.drewN n).b (HV4.out.drewN n).x (HI4.out.drewN n).hb hj)
    rw [HO.out] at hc
    exact hc
  go_quiet ((go_at_call 55; exact Calls.quiet_of (HK9.out _)))
  rename Nat => n5
  obtain ⟨V5, hV5⟩ : ∃ V5 : World, V5 = V4.drewN n5 := ⟨_, rfl⟩
  have HV5 := Lib.hid (show OneV V5 w g x by rw [hV5]; exact HV4.out.drewN n5)
  have HI5 := Lib.hid (show OneIn V5 B g gs base (some ⟨b, o, none⟩) c p per to d by rw [hV5]; exact HI4.out.drewN n5)
  have HQ5 := Lib.hid (show Blk V5 V1.heap.size 58 #[.int .i64 p[k].f, .int .i64 p[k].s, .int .i64 p[k].a] by rw [hV5]; exact HQ4.out)
  rw [← hV5]
  clear hV5
  clear zx14 zb4 zto4
  have HK11 : Hid (Calls Tryz.prog 55 #[.pointer (some ⟨g, 0, none⟩), .func (.func 82) #[] #[.pointer (some ⟨w.heap.size + 1 + 1, 0, none⟩), .pointer (some ⟨w.heap.size, 0, none⟩), .pointer (some ⟨V1.heap.size, 0, none⟩)]] V5 fun e w' => e = .returned (.bool false) ∧ ∃ m, w' = V5.drewN m) := Lib.hid (by
    have hk9 : Blk V5 (w.heap.size + 1 + 1) 3 #[.int .i64 (k : Int)] := by have := HV5.out.k; rw [Hk.out] at this; exact this
    have hc := oth2_any (w.heap.size + 1 + 1) w.heap.size V1.heap.size g gs (some ⟨b, o, none⟩) c p per to d (fun j => decide (j < k) && sameFl p k j) base V5 HI5.out.hb HI5.out.hr (by omega) (fun j m hj => aone2_any j k (w.heap.size + 1 + 1) w.heap.size V1.heap.size g gs m (some ⟨b, o, none⟩) c p per to p[k] V5 B HI5.out.hp hk9 HV5.out.b HQ5.out HI5.out.hb hj hkl rfl)
    have ho2 := HO2.out
    rw [Hk.out, Int.toNat_natCast] at ho2
    rw [ho2] at hc
    exact hc)
  have zb5 : V5.cell? ⟨w.heap.size, 0, none⟩ = some (.pointer (some ⟨g, 0, none⟩)) := HV5.out.b.cell 0
  go_wp2_with fail
  refine HK11.out.mono ?_
  rintro e w6 ⟨rfl, n6, hV6⟩
  have HV6 := Lib.hid (show OneV w6 w g x by rw [hV6]; exact HV5.out.drewN n6)
  have HI6 := Lib.hid (show OneIn w6 B g gs base (some ⟨b, o, none⟩) c p per to d by rw [hV6]; exact HI5.out.drewN n6)
  clear hV6
  clear zb5
  have zx26 : w6.cell? ⟨w.heap.size + 1, 2, none⟩ = some (.int .i64 x.t) := HV6.out.x.cell 2
  have zb6 : w6.cell? ⟨w.heap.size, 0, none⟩ = some (.pointer (some ⟨g, 0, none⟩)) := HV6.out.b.cell 0
  have zto6 : w6.cell? ⟨g, 3, none⟩ = some (.int .i64 to) := HI6.out.hb.cell 3
  have zsent6 : w6.cell? ⟨g, 2, none⟩ = some (.slice (some ⟨gs, 0, none⟩) p.length p.length) := HI6.out.hb.cell 2
  have zk6 : w6.cell? ⟨w.heap.size + 1 + 1, 0, none⟩ = some (.int .i64 (k : Int)) := (HV6.out.k.cell 0).trans (by rw [Hk.out]; rfl)
  have y1 : w6.cell? ⟨gs, k, none⟩ = some (.bool (d k)) := BRow.cell HI6.out.hr hkl
  have y2 := HI6.out.hr.frozenAt k
  have y3 := HI6.out.hb.frozen 3
  have hne9 : g ≠ gs := HI6.out.ne
  have y4 : (w6.setCell ⟨gs, k, none⟩ (.bool true)).cell? ⟨g, 3, none⟩ = some (.int .i64 to) := by
    rw [World.cell?_setCell_other _ _ _ _ (fun e => hne9 (by have := congrArg Addr.block e; simp only at this; omega))]
    exact zto6
  have bS : Blk (w6.setCell ⟨gs, k, none⟩ (.bool true)) g 106 (bookCs (some ⟨b, o, none⟩) p.length c per gs to) := HI6.out.hb.same (Below.heap_setCell w6 ⟨gs, k, none⟩ (.bool true) g hne9)
  have y5 := bS.frozen 3
  have oldS : ∀ (q : Addr) (u : Value), q.block ≠ gs → w6.cell? q = some u → (w6.setCell ⟨gs, k, none⟩ (.bool true)).cell? q = some u := fun q u hq hu => by
    rw [World.cell?_setCell_other _ _ _ _ (fun e => hq (congrArg Addr.block e).symm)]
    exact hu
  have hgl : gs < w.heap.size := hgsw
  have u1 := oldS _ _ (by simp only; omega) zx26
  have u2 := oldS _ _ (by simp only; omega) zb6
  have u3 := oldS _ _ (by simp only; omega) zk6
  have u4 := oldS _ _ (fun e => hne9 e) zsent6
  have BS := Lib.hid bS
  clear oldS
  clear bS hne9
  go_wp2_with fail
  go_region
  go_wp2_with fail
  go_ret
  have hkk : x.p.toNat = k := by rw [Hk.out]; exact Int.toNat_natCast k
  rw [hkk]
  have bb : Below B w6 (((w6.setCell ⟨gs, k, none⟩ (.bool true)).setCell ⟨g, 3, none⟩ (.int .i64 x.t)).drew) := (((Below.refl B w6).setCell (p := ⟨gs, k, none⟩) HI6.out.hgs _).setCell (p := ⟨g, 3, none⟩) HI6.out.hg _).drew
  have r1 : BRow (w6.setCell ⟨gs, k, none⟩ (.bool true)) base 4 gs p.length (dSet d k) := HI6.out.hr.set_ k
  have r2 : BRow (((w6.setCell ⟨gs, k, none⟩ (.bool true)).setCell ⟨g, 3, none⟩ (.int .i64 x.t)).drew) base 4 gs p.length (dSet d k) := own_same r1 fun y hy => by
    have hy' : gs = y := by simpa [Value.ownBlock] using hy
    subst hy'
    exact Below.heap_setCell _ ⟨g, 3, none⟩ _ gs (fun e => HI6.out.ne e.symm)
  exact ⟨rfl, ⟨HI6.out.hp.below bb, BS.out.set_ 3 _, r2, HI6.out.hg, HI6.out.hgs, HI6.out.ne⟩, (HV6.out.bel.mono hB).trans bb⟩
set_option maxHeartbeats 2000000 in
theorem one_turnB (g gs base : Nat) (A : Option Addr) (c : Nat) (p : List Pk) (per to : Int) (d : Nat → Bool) (x : Sn) (S : Nat → Addr) (w : World) (B : Nat) (hI : OneIn w B g gs base A c p per to d) (hS : Snt w B S [3, 4, 5, 7, 8]) (hl : p.length ≤ 300) (h1 : 0 ≤ x.p) (h2 : x.p < p.length) (hd : d x.p.toNat = false) (hx : ¬ x.f < aOf p x.p.toNat) (hto : ¬ x.f < to) (hper : 1 ≤ per) (hper2 : per ≤ 1000) (hpk : ∀ y ∈ p, okPk y) (hxf : tame50 x.f) (Hsh : Hid (x.t = x.f + per * sOf p x.p.toNat)) (hlt : ¬ to < x.f) (ho2 : oth p.length d (fun j => decide (j < x.p.toNat) && sameFl p x.p.toNat j) = true) :
    Calls Tryz.prog 54 #[.pointer (some ⟨g, 0, none⟩), auVal x] w fun e w' => e = .returned (sv S 8) ∧ Below w.heap.size w w' := by
  have hB : B ≤ w.heap.size := Nat.le_trans hI.hg (Nat.le_of_lt hI.lt.1)
  obtain ⟨V, hV⟩ : ∃ V : World, V = oneW w g x := ⟨_, rfl⟩
  have hv : OneV V w g x := by rw [hV]; exact oneV_new w g x
  have hi : OneIn V B g gs base A c p per to d := hI.below hv.bel
  have fk : V.cell? ⟨w.heap.size + 1 + 1, 0, none⟩ = some (.int .i64 x.p) := hv.k.cell 0
  have fb : V.cell? ⟨w.heap.size, 0, none⟩ = some (.pointer (some ⟨g, 0, none⟩)) := hv.b.cell 0
  have f0 : V.cell? ⟨g, 0, none⟩ = some (.slice A p.length c) := hi.hb.cell 0
  have f2 : V.cell? ⟨g, 2, none⟩ = some (.slice (some ⟨gs, 0, none⟩) p.length p.length) := hi.hb.cell 2
  have HI := Lib.hid hi
  have HVV := Lib.hid hv
  have HV := Lib.hid (show V = ((w.alloc (.cells #[.pointer (some ⟨g, 0, none⟩)] 103)).alloc (.cells #[.int .i64 x.p, .int .i64 x.f, .int .i64 x.t] 62)).alloc (.cells #[.int .i64 x.p] 3) from hV)
  have hgsw := hI.lt.2
  clear hV hI hi hv
  unfold auVal
  go_enter Tryz.func54, Tryz.ntmps54
  go_wp2_with fail
  rw [← HV.out]
  have HO2 := Lib.hid ho2
  clear ho2
  obtain ⟨k, hk⟩ : ∃ k : Nat, x.p = k := ⟨x.p.toNat, by omega⟩
  rw [hk, Int.toNat_natCast] at hd
  rw [hk] at fk h1 h2
  have hkl : k < p.length := by omega
  have fs : V.cell? ⟨gs, k, none⟩ = some (.bool false) := by rw [← hd]; exact BRow.cell HI.out.hr hkl
  have h4 : ¬ (k : Int) < 0 := by omega
  have h5 : ¬ (p.length : Int) ≤ (k : Int) := by omega
  obtain ⟨b, o, rfl, hb, d0, d1, d2⟩ := RdP.get HI.out.hp hkl
  have Hk := Lib.hid hk
  have Hd := Lib.hid hd
  clear hk hd
  have ha : aOf p x.p.toNat = p[k].a := by rw [Hk.out, Int.toNat_natCast, aOf_of hkl]
  have hz : sOf p x.p.toNat = p[k].s := by rw [Hk.out, Int.toNat_natCast, sOf_of hkl]
  have hsh := Hsh.out
  rw [ha] at hx
  rw [hz] at hsh
  clear ha hz
  have hok := hpk _ (List.getElem_mem hkl)
  have m0 : 0 ≤ per * p[k].s := Int.mul_nonneg (by omega) (by have := hok.2.2.1; omega)
  have m1 : per * p[k].s ≤ 1500000 := by
    have := Int.mul_le_mul hper2 hok.2.2.2.1 (by have := hok.2.2.1; omega) (by omega : (0:Int) ≤ 1000)
    omega
  unfold tame50 at hxf
  obtain ⟨xf1, xf2⟩ := hxf
  clear hok
  have hne : (x.t != x.f + per * p[k].s) = false := by simp; exact hsh
  clear hsh
  go_quiet (fail)
  rename Nat => n1
  obtain ⟨V1, hV1⟩ : ∃ V1 : World, V1 = V.drewN n1 := ⟨_, rfl⟩
  have v1 : OneV V1 w g x := by rw [hV1]; exact HVV.out.drewN n1
  have i1 : OneIn V1 B g gs base (some ⟨b, o, none⟩) c p per to d := by rw [hV1]; exact ⟨HI.out.hp, HI.out.hb, HI.out.hr, HI.out.hg, HI.out.hgs, HI.out.ne⟩
  have k1 : V1.cell? ⟨w.heap.size + 1 + 1, 0, none⟩ = some (.int .i64 (k : Int)) := by rw [hV1]; exact fk
  have k2 : V1.cell? ⟨w.heap.size, 0, none⟩ = some (.pointer (some ⟨g, 0, none⟩)) := by rw [hV1]; exact fb
  have k3 : V1.cell? ⟨g, 0, none⟩ = some (.slice (some ⟨b, o, none⟩) p.length c) := by rw [hV1]; exact f0
  have e0 : V1.cell? ⟨b, o + k * 3, none⟩ = some (.int .i64 p[k].f) := by rw [hV1]; exact d0
  have e1 : V1.cell? ⟨b, o + k * 3 + 1, none⟩ = some (.int .i64 p[k].s) := by rw [hV1]; exact d1
  have e2 : V1.cell? ⟨b, o + k * 3 + 2, none⟩ = some (.int .i64 p[k].a) := by rw [hV1]; exact d2
  have HV1 := Lib.hid v1
  have HI1 := Lib.hid i1
  rw [← hV1]
  clear hV1 fk fb f0 f2 fs d0 d1 d2 v1 i1
  have bz : Below V1.heap.size V1 (V1.alloc (.cells #[.int .i64 0, .int .i64 0, .int .i64 0] 58)) := (Below.refl _ _).alloc (Nat.le_refl _) _
  have old : ∀ (q : Addr) (u : Value), V1.cell? q = some u → (V1.alloc (.cells #[.int .i64 0, .int .i64 0, .int .i64 0] 58)).cell? q = some u := fun q u hq => (bz.cell (p := q) (World.block_lt_of_cell? _ _ hq)).trans hq
  have y1 := old _ _ k1
  have y2 := old _ _ k2
  have y3 := old _ _ k3
  have y4 := old _ _ e0
  have y5 := old _ _ e1
  have y6 := old _ _ e2
  clear bz old
  go_wp2_with fail
  go_region
  obtain ⟨V2, hV2⟩ : ∃ V2 : World, V2 = (V1.alloc (.cells #[.int .i64 p[k].f, .int .i64 p[k].s, .int .i64 p[k].a] 58)).drew := ⟨_, rfl⟩
  have v2 : OneV V2 w g x := by rw [hV2]; exact (HV1.out.alloc _).drew
  have i2 : OneIn V2 B g gs base (some ⟨b, o, none⟩) c p per to d := by rw [hV2]; exact (HI1.out.below ((Below.refl _ _).alloc (Nat.le_refl _) _)).drewN 1
  have q2 : Blk V2 V1.heap.size 58 #[.int .i64 p[k].f, .int .i64 p[k].s, .int .i64 p[k].a] := by rw [hV2]; exact Blk.new V1 _ _
  have s2 : V1.heap.size < V2.heap.size := q2.lt
  rw [← hV2]
  clear hV2 k1 k2 k3 e0 e1 e2 y1 y2 y3 y4 y5 y6
  have x1 : V2.cell? ⟨w.heap.size + 1, 1, none⟩ = some (.int .i64 x.f) := v2.x.cell 1
  have x2 : V2.cell? ⟨V1.heap.size, 2, none⟩ = some (.int .i64 p[k].a) := q2.cell 2
  have x3 : V2.cell? ⟨w.heap.size, 0, none⟩ = some (.pointer (some ⟨g, 0, none⟩)) := v2.b.cell 0
  have x4 : V2.cell? ⟨g, 3, none⟩ = some (.int .i64 to) := i2.hb.cell 3
  have HV2 := Lib.hid v2
  have HI2 := Lib.hid i2
  have HQ2 := Lib.hid q2
  clear v2 i2 q2
  go_wp2_with fail
  go_quiet (fail)
  rename Nat => n3
  obtain ⟨V3, hV3⟩ : ∃ V3 : World, V3 = V2.drewN n3 := ⟨_, rfl⟩
  have HV3 := Lib.hid (show OneV V3 w g x by rw [hV3]; exact HV2.out.drewN n3)
  have HI3 := Lib.hid (show OneIn V3 B g gs base (some ⟨b, o, none⟩) c p per to d by rw [hV3]; exact HI2.out.drewN n3)
  have HQ3 := Lib.hid (show Blk V3 V1.heap.size 58 #[.int .i64 p[k].f, .int .i64 p[k].s, .int .i64 p[k].a] by rw [hV3]; exact HQ2.out)
  rw [← hV3]
  clear hV3
  clear x1 x2 x3 x4
  have zx13 : V3.cell? ⟨w.heap.size + 1, 1, none⟩ = some (.int .i64 x.f) := HV3.out.x.cell 1
  have zx23 : V3.cell? ⟨w.heap.size + 1, 2, none⟩ = some (.int .i64 x.t) := HV3.out.x.cell 2
  have zq13 : V3.cell? ⟨V1.heap.size, 1, none⟩ = some (.int .i64 p[k].s) := HQ3.out.cell 1
  have zb3 : V3.cell? ⟨w.heap.size, 0, none⟩ = some (.pointer (some ⟨g, 0, none⟩)) := HV3.out.b.cell 0
  have zper3 : V3.cell? ⟨g, 1, none⟩ = some (.int .i64 per) := HI3.out.hb.cell 1
  go_wp2_with fail
  go_quiet (fail)
  rename Nat => n4
  obtain ⟨V4, hV4⟩ : ∃ V4 : World, V4 = V3.drewN n4 := ⟨_, rfl⟩
  have HV4 := Lib.hid (show OneV V4 w g x by rw [hV4]; exact HV3.out.drewN n4)
  have HI4 := Lib.hid (show OneIn V4 B g gs base (some ⟨b, o, none⟩) c p per to d by rw [hV4]; exact HI3.out.drewN n4)
  have HQ4 := Lib.hid (show Blk V4 V1.heap.size 58 #[.int .i64 p[k].f, .int .i64 p[k].s, .int .i64 p[k].a] by rw [hV4]; exact HQ3.out)
  rw [← hV4]
  clear hV4
  clear zx13 zx23 zq13 zb3 zper3
  have zx14 : V4.cell? ⟨w.heap.size + 1, 1, none⟩ = some (.int .i64 x.f) := HV4.out.x.cell 1
  have zb4 : V4.cell? ⟨w.heap.size, 0, none⟩ = some (.pointer (some ⟨g, 0, none⟩)) := HV4.out.b.cell 0
  have zto4 : V4.cell? ⟨g, 3, none⟩ = some (.int .i64 to) := HI4.out.hb.cell 3
  go_wp2_with fail
  have hg0 : decide (to < x.f) = false := decide_eq_false (by omega)
  go_quiet (fail)
  rename Nat => n5
  obtain ⟨V5, hV5⟩ : ∃ V5 : World, V5 = V4.drewN n5 := ⟨_, rfl⟩
  have HV5 := Lib.hid (show OneV V5 w g x by rw [hV5]; exact HV4.out.drewN n5)
  have HI5 := Lib.hid (show OneIn V5 B g gs base (some ⟨b, o, none⟩) c p per to d by rw [hV5]; exact HI4.out.drewN n5)
  have HQ5 := Lib.hid (show Blk V5 V1.heap.size 58 #[.int .i64 p[k].f, .int .i64 p[k].s, .int .i64 p[k].a] by rw [hV5]; exact HQ4.out)
  rw [← hV5]
  clear hV5
  clear zx14 zb4 zto4
  have HK11 : Hid (Calls Tryz.prog 55 #[.pointer (some ⟨g, 0, none⟩), .func (.func 82) #[] #[.pointer (some ⟨w.heap.size + 1 + 1, 0, none⟩), .pointer (some ⟨w.heap.size, 0, none⟩), .pointer (some ⟨V1.heap.size, 0, none⟩)]] V5 fun e w' => e = .returned (.bool true) ∧ ∃ m, w' = V5.drewN m) := Lib.hid (by
    have hk9 : Blk V5 (w.heap.size + 1 + 1) 3 #[.int .i64 (k : Int)] := by have := HV5.out.k; rw [Hk.out] at this; exact this
    have hc := oth2_any (w.heap.size + 1 + 1) w.heap.size V1.heap.size g gs (some ⟨b, o, none⟩) c p per to d (fun j => decide (j < k) && sameFl p k j) base V5 HI5.out.hb HI5.out.hr (by omega) (fun j m hj => aone2_any j k (w.heap.size + 1 + 1) w.heap.size V1.heap.size g gs m (some ⟨b, o, none⟩) c p per to p[k] V5 B HI5.out.hp hk9 HV5.out.b HQ5.out HI5.out.hb hj hkl rfl)
    have ho2 := HO2.out
    rw [Hk.out, Int.toNat_natCast] at ho2
    rw [ho2] at hc
    exact hc)
  have zb5 : V5.cell? ⟨w.heap.size, 0, none⟩ = some (.pointer (some ⟨g, 0, none⟩)) := HV5.out.b.cell 0
  go_wp2_with fail
  refine HK11.out.mono ?_
  rintro e w6 ⟨rfl, n6, hV6⟩
  have HV6 := Lib.hid (show OneV w6 w g x by rw [hV6]; exact HV5.out.drewN n6)
  have HI6 := Lib.hid (show OneIn w6 B g gs base (some ⟨b, o, none⟩) c p per to d by rw [hV6]; exact HI5.out.drewN n6)
  clear hV6
  clear zb5
  have gE : w6.cell? ⟨G 8, 0, none⟩ = some (sv S 8) := ((hS.below ((HV6.out.bel).mono hB)) 8 (by simp)).2.2
  simp only [G, sv] at gE
  go_wp2_with fail
  go_ret
  exact ⟨rfl, HV6.out.bel⟩
set_option maxHeartbeats 2000000 in
theorem one_okB (g gs base : Nat) (A : Option Addr) (c : Nat) (p : List Pk) (per to : Int) (d : Nat → Bool) (x : Sn) (S : Nat → Addr) (w : World) (B : Nat) (hI : OneIn w B g gs base A c p per to d) (hS : Snt w B S [3, 4, 5, 7, 8]) (hl : p.length ≤ 300) (h1 : 0 ≤ x.p) (h2 : x.p < p.length) (hd : d x.p.toNat = false) (hx : ¬ x.f < aOf p x.p.toNat) (hto : ¬ x.f < to) (hper : 1 ≤ per) (hper2 : per ≤ 1000) (hpk : ∀ y ∈ p, okPk y) (hxf : tame50 x.f) (Hsh : Hid (x.t = x.f + per * sOf p x.p.toNat)) (hlt : ¬ to < x.f) (ho2 : oth p.length d (fun j => decide (j < x.p.toNat) && sameFl p x.p.toNat j) = false) :
    Calls Tryz.prog 54 #[.pointer (some ⟨g, 0, none⟩), auVal x] w fun e w' => e = .returned .nilIface ∧ OneIn w' B g gs base A c p per x.t (dSet d x.p.toNat) ∧ Below B w w' := by
  have hB : B ≤ w.heap.size := Nat.le_trans hI.hg (Nat.le_of_lt hI.lt.1)
  obtain ⟨V, hV⟩ : ∃ V : World, V = oneW w g x := ⟨_, rfl⟩
  have hv : OneV V w g x := by rw [hV]; exact oneV_new w g x
  have hi : OneIn V B g gs base A c p per to d := hI.below hv.bel
  have fk : V.cell? ⟨w.heap.size + 1 + 1, 0, none⟩ = some (.int .i64 x.p) := hv.k.cell 0
  have fb : V.cell? ⟨w.heap.size, 0, none⟩ = some (.pointer (some ⟨g, 0, none⟩)) := hv.b.cell 0
  have f0 : V.cell? ⟨g, 0, none⟩ = some (.slice A p.length c) := hi.hb.cell 0
  have f2 : V.cell? ⟨g, 2, none⟩ = some (.slice (some ⟨gs, 0, none⟩) p.length p.length) := hi.hb.cell 2
  have HI := Lib.hid hi
  have HVV := Lib.hid hv
  have HV := Lib.hid (show V = ((w.alloc (.cells #[.pointer (some ⟨g, 0, none⟩)] 103)).alloc (.cells #[.int .i64 x.p, .int .i64 x.f, .int .i64 x.t] 62)).alloc (.cells #[.int .i64 x.p] 3) from hV)
  have hgsw := hI.lt.2
  clear hV hI hi hv
  unfold auVal
  go_enter Tryz.func54, Tryz.ntmps54
  go_wp2_with fail
  rw [← HV.out]
  have HO2 := Lib.hid ho2
  clear ho2
  obtain ⟨k, hk⟩ : ∃ k : Nat, x.p = k := ⟨x.p.toNat, by omega⟩
  rw [hk, Int.toNat_natCast] at hd
  rw [hk] at fk h1 h2
  have hkl : k < p.length := by omega
  have fs : V.cell? ⟨gs, k, none⟩ = some (.bool false) := by rw [← hd]; exact BRow.cell HI.out.hr hkl
  have h4 : ¬ (k : Int) < 0 := by omega
  have h5 : ¬ (p.length : Int) ≤ (k : Int) := by omega
  obtain ⟨b, o, rfl, hb, d0, d1, d2⟩ := RdP.get HI.out.hp hkl
  have Hk := Lib.hid hk
  have Hd := Lib.hid hd
  clear hk hd
  have ha : aOf p x.p.toNat = p[k].a := by rw [Hk.out, Int.toNat_natCast, aOf_of hkl]
  have hz : sOf p x.p.toNat = p[k].s := by rw [Hk.out, Int.toNat_natCast, sOf_of hkl]
  have hsh := Hsh.out
  rw [ha] at hx
  rw [hz] at hsh
  clear ha hz
  have hok := hpk _ (List.getElem_mem hkl)
  have m0 : 0 ≤ per * p[k].s := Int.mul_nonneg (by omega) (by have := hok.2.2.1; omega)
  have m1 : per * p[k].s ≤ 1500000 := by
    have := Int.mul_le_mul hper2 hok.2.2.2.1 (by have := hok.2.2.1; omega) (by omega : (0:Int) ≤ 1000)
    omega
  unfold tame50 at hxf
  obtain ⟨xf1, xf2⟩ := hxf
  clear hok
  have hne : (x.t != x.f + per * p[k].s) = false := by simp; exact hsh
  clear hsh
  go_quiet (fail)
  rename Nat => n1
  obtain ⟨V1, hV1⟩ : ∃ V1 : World, V1 = V.drewN n1 := ⟨_, rfl⟩
  have v1 : OneV V1 w g x := by rw [hV1]; exact HVV.out.drewN n1
  have i1 : OneIn V1 B g gs base (some ⟨b, o, none⟩) c p per to d := by rw [hV1]; exact ⟨HI.out.hp, HI.out.hb, HI.out.hr, HI.out.hg, HI.out.hgs, HI.out.ne⟩
  have k1 : V1.cell? ⟨w.heap.size + 1 + 1, 0, none⟩ = some (.int .i64 (k : Int)) := by rw [hV1]; exact fk
  have k2 : V1.cell? ⟨w.heap.size, 0, none⟩ = some (.pointer (some ⟨g, 0, none⟩)) := by rw [hV1]; exact fb
  have k3 : V1.cell? ⟨g, 0, none⟩ = some (.slice (some ⟨b, o, none⟩) p.length c) := by rw [hV1]; exact f0
  have e0 : V1.cell? ⟨b, o + k * 3, none⟩ = some (.int .i64 p[k].f) := by rw [hV1]; exact d0
  have e1 : V1.cell? ⟨b, o + k * 3 + 1, none⟩ = some (.int .i64 p[k].s) := by rw [hV1]; exact d1
  have e2 : V1.cell? ⟨b, o + k * 3 + 2, none⟩ = some (.int .i64 p[k].a) := by rw [hV1]; exact d2
  have HV1 := Lib.hid v1
  have HI1 := Lib.hid i1
  rw [← hV1]
  clear hV1 fk fb f0 f2 fs d0 d1 d2 v1 i1
  have bz : Below V1.heap.size V1 (V1.alloc (.cells #[.int .i64 0, .int .i64 0, .int .i64 0] 58)) := (Below.refl _ _).alloc (Nat.le_refl _) _
  have old : ∀ (q : Addr) (u : Value), V1.cell? q = some u → (V1.alloc (.cells #[.int .i64 0, .int .i64 0, .int .i64 0] 58)).cell? q = some u := fun q u hq => (bz.cell (p := q) (World.block_lt_of_cell? _ _ hq)).trans hq
  have y1 := old _ _ k1
  have y2 := old _ _ k2
  have y3 := old _ _ k3
  have y4 := old _ _ e0
  have y5 := old _ _ e1
  have y6 := old _ _ e2
  clear bz old
  go_wp2_with fail
  go_region
  obtain ⟨V2, hV2⟩ : ∃ V2 : World, V2 = (V1.alloc (.cells #[.int .i64 p[k].f, .int .i64 p[k].s, .int .i64 p[k].a] 58)).drew := ⟨_, rfl⟩
  have v2 : OneV V2 w g x := by rw [hV2]; exact (HV1.out.alloc _).drew
  have i2 : OneIn V2 B g gs base (some ⟨b, o, none⟩) c p per to d := by rw [hV2]; exact (HI1.out.below ((Below.refl _ _).alloc (Nat.le_refl _) _)).drewN 1
  have q2 : Blk V2 V1.heap.size 58 #[.int .i64 p[k].f, .int .i64 p[k].s, .int .i64 p[k].a] := by rw [hV2]; exact Blk.new V1 _ _
  have s2 : V1.heap.size < V2.heap.size := q2.lt
  rw [← hV2]
  clear hV2 k1 k2 k3 e0 e1 e2 y1 y2 y3 y4 y5 y6
  have x1 : V2.cell? ⟨w.heap.size + 1, 1, none⟩ = some (.int .i64 x.f) := v2.x.cell 1
  have x2 : V2.cell? ⟨V1.heap.size, 2, none⟩ = some (.int .i64 p[k].a) := q2.cell 2
  have x3 : V2.cell? ⟨w.heap.size, 0, none⟩ = some (.pointer (some ⟨g, 0, none⟩)) := v2.b.cell 0
  have x4 : V2.cell? ⟨g, 3, none⟩ = some (.int .i64 to) := i2.hb.cell 3
  have HV2 := Lib.hid v2
  have HI2 := Lib.hid i2
  have HQ2 := Lib.hid q2
  clear v2 i2 q2
  go_wp2_with fail
  go_quiet (fail)
  rename Nat => n3
  obtain ⟨V3, hV3⟩ : ∃ V3 : World, V3 = V2.drewN n3 := ⟨_, rfl⟩
  have HV3 := Lib.hid (show OneV V3 w g x by rw [hV3]; exact HV2.out.drewN n3)
  have HI3 := Lib.hid (show OneIn V3 B g gs base (some ⟨b, o, none⟩) c p per to d by rw [hV3]; exact HI2.out.drewN n3)
  have HQ3 := Lib.hid (show Blk V3 V1.heap.size 58 #[.int .i64 p[k].f, .int .i64 p[k].s, .int .i64 p[k].a] by rw [hV3]; exact HQ2.out)
  rw [← hV3]
  clear hV3
  clear x1 x2 x3 x4
  have zx13 : V3.cell? ⟨w.heap.size + 1, 1, none⟩ = some (.int .i64 x.f) := HV3.out.x.cell 1
  have zx23 : V3.cell? ⟨w.heap.size + 1, 2, none⟩ = some (.int .i64 x.t) := HV3.out.x.cell 2
  have zq13 : V3.cell? ⟨V1.heap.size, 1, none⟩ = some (.int .i64 p[k].s) := HQ3.out.cell 1
  have zb3 : V3.cell? ⟨w.heap.size, 0, none⟩ = some (.pointer (some ⟨g, 0, none⟩)) := HV3.out.b.cell 0
  have zper3 : V3.cell? ⟨g, 1, none⟩ = some (.int .i64 per) := HI3.out.hb.cell 1
  go_wp2_with fail
  go_quiet (fail)
  rename Nat => n4
  obtain ⟨V4, hV4⟩ : ∃ V4 : World, V4 = V3.drewN n4 := ⟨_, rfl⟩
  have HV4 := Lib.hid (show OneV V4 w g x by rw [hV4]; exact HV3.out.drewN n4)
  have HI4 := Lib.hid (show OneIn V4 B g gs base (some ⟨b, o, none⟩) c p per to d by rw [hV4]; exact HI3.out.drewN n4)
  have HQ4 := Lib.hid (show Blk V4 V1.heap.size 58 #[.int .i64 p[k].f, .int .i64 p[k].s, .int .i64 p[k].a] by rw [hV4]; exact HQ3.out)
  rw [← hV4]
  clear hV4
  clear zx13 zx23 zq13 zb3 zper3
  have zx14 : V4.cell? ⟨w.heap.size + 1, 1, none⟩ = some (.int .i64 x.f) := HV4.out.x.cell 1
  have zb4 : V4.cell? ⟨w.heap.size, 0, none⟩ = some (.pointer (some ⟨g, 0, none⟩)) := HV4.out.b.cell 0
  have zto4 : V4.cell? ⟨g, 3, none⟩ = some (.int .i64 to) := HI4.out.hb.cell 3
  go_wp2_with fail
  have hg0 : decide (to < x.f) = false := decide_eq_false (by omega)
  go_quiet (fail)
  rename Nat => n5
  obtain ⟨V5, hV5⟩ : ∃ V5 : World, V5 = V4.drewN n5 := ⟨_, rfl⟩
  have HV5 := Lib.hid (show OneV V5 w g x by rw [hV5]; exact HV4.out.drewN n5)
  have HI5 := Lib.hid (show OneIn V5 B g gs base (some ⟨b, o, none⟩) c p per to d by rw [hV5]; exact HI4.out.drewN n5)
  have HQ5 := Lib.hid (show Blk V5 V1.heap.size 58 #[.int .i64 p[k].f, .int .i64 p[k].s, .int .i64 p[k].a] by rw [hV5]; exact HQ4.out)
  rw [← hV5]
  clear hV5
  clear zx14 zb4 zto4
  have HK11 : Hid (Calls Tryz.prog 55 #[.pointer (some ⟨g, 0, none⟩), .func (.func 82) #[] #[.pointer (some ⟨w.heap.size + 1 + 1, 0, none⟩), .pointer (some ⟨w.heap.size, 0, none⟩), .pointer (some ⟨V1.heap.size, 0, none⟩)]] V5 fun e w' => e = .returned (.bool false) ∧ ∃ m, w' = V5.drewN m) := Lib.hid (by
    have hk9 : Blk V5 (w.heap.size + 1 + 1) 3 #[.int .i64 (k : Int)] := by have := HV5.out.k; rw [Hk.out] at this; exact this
    have hc := oth2_any (w.heap.size + 1 + 1) w.heap.size V1.heap.size g gs (some ⟨b, o, none⟩) c p per to d (fun j => decide (j < k) && sameFl p k j) base V5 HI5.out.hb HI5.out.hr (by omega) (fun j m hj => aone2_any j k (w.heap.size + 1 + 1) w.heap.size V1.heap.size g gs m (some ⟨b, o, none⟩) c p per to p[k] V5 B HI5.out.hp hk9 HV5.out.b HQ5.out HI5.out.hb hj hkl rfl)
    have ho2 := HO2.out
    rw [Hk.out, Int.toNat_natCast] at ho2
    rw [ho2] at hc
    exact hc)
  have zb5 : V5.cell? ⟨w.heap.size, 0, none⟩ = some (.pointer (some ⟨g, 0, none⟩)) := HV5.out.b.cell 0
  go_wp2_with fail
  refine HK11.out.mono ?_
  rintro e w6 ⟨rfl, n6, hV6⟩
  have HV6 := Lib.hid (show OneV w6 w g x by rw [hV6]; exact HV5.out.drewN n6)
  have HI6 := Lib.hid (show OneIn w6 B g gs base (some ⟨b, o, none⟩) c p per to d by rw [hV6]; exact HI5.out.drewN n6)
  clear hV6
  clear zb5
  have zx26 : w6.cell? ⟨w.heap.size + 1, 2, none⟩ = some (.int .i64 x.t) := HV6.out.x.cell 2
  have zb6 : w6.cell? ⟨w.heap.size, 0, none⟩ = some (.pointer (some ⟨g, 0, none⟩)) := HV6.out.b.cell 0
  have zto6 : w6.cell? ⟨g, 3, none⟩ = some (.int .i64 to) := HI6.out.hb.cell 3
  have zsent6 : w6.cell? ⟨g, 2, none⟩ = some (.slice (some ⟨gs, 0, none⟩) p.length p.length) := HI6.out.hb.cell 2
  have zk6 : w6.cell? ⟨w.heap.size + 1 + 1, 0, none⟩ = some (.int .i64 (k : Int)) := (HV6.out.k.cell 0).trans (by rw [Hk.out]; rfl)
  have y1 : w6.cell? ⟨gs, k, none⟩ = some (.bool (d k)) := BRow.cell HI6.out.hr hkl
  have y2 := HI6.out.hr.frozenAt k
  have y3 := HI6.out.hb.frozen 3
  have hne9 : g ≠ gs := HI6.out.ne
  have y4 : (w6.setCell ⟨gs, k, none⟩ (.bool true)).cell? ⟨g, 3, none⟩ = some (.int .i64 to) := by
    rw [World.cell?_setCell_other _ _ _ _ (fun e => hne9 (by have := congrArg Addr.block e; simp only at this; omega))]
    exact zto6
  have bS : Blk (w6.setCell ⟨gs, k, none⟩ (.bool true)) g 106 (bookCs (some ⟨b, o, none⟩) p.length c per gs to) := HI6.out.hb.same (Below.heap_setCell w6 ⟨gs, k, none⟩ (.bool true) g hne9)
  have y5 := bS.frozen 3
  have oldS : ∀ (q : Addr) (u : Value), q.block ≠ gs → w6.cell? q = some u → (w6.setCell ⟨gs, k, none⟩ (.bool true)).cell? q = some u := fun q u hq hu => by
    rw [World.cell?_setCell_other _ _ _ _ (fun e => hq (congrArg Addr.block e).symm)]
    exact hu
  have hgl : gs < w.heap.size := hgsw
  have u1 := oldS _ _ (by simp only; omega) zx26
  have u2 := oldS _ _ (by simp only; omega) zb6
  have u3 := oldS _ _ (by simp only; omega) zk6
  have u4 := oldS _ _ (fun e => hne9 e) zsent6
  have BS := Lib.hid bS
  clear oldS
  clear bS hne9
  go_wp2_with fail
  go_region
  go_wp2_with fail
  go_ret
  have hkk : x.p.toNat = k := by rw [Hk.out]; exact Int.toNat_natCast k
  rw [hkk]
  have bb : Below B w6 (((w6.setCell ⟨gs, k, none⟩ (.bool true)).setCell ⟨g, 3, none⟩ (.int .i64 x.t)).drew) := (((Below.refl B w6).setCell (p := ⟨gs, k, none⟩) HI6.out.hgs _).setCell (p := ⟨g, 3, none⟩) HI6.out.hg _).drew
  have r1 : BRow (w6.setCell ⟨gs, k, none⟩ (.bool true)) base 4 gs p.length (dSet d k) := HI6.out.hr.set_ k
  have r2 : BRow (((w6.setCell ⟨gs, k, none⟩ (.bool true)).setCell ⟨g, 3, none⟩ (.int .i64 x.t)).drew) base 4 gs p.length (dSet d k) := own_same r1 fun y hy => by
    have hy' : gs = y := by simpa [Value.ownBlock] using hy
    subst hy'
    exact Below.heap_setCell _ ⟨g, 3, none⟩ _ gs (fun e => HI6.out.ne e.symm)
  exact ⟨rfl, ⟨HI6.out.hp.below bb, BS.out.set_ 3 _, r2, HI6.out.hg, HI6.out.hgs, HI6.out.ne⟩, (HV6.out.bel.mono hB).trans bb⟩
theorem auErr_no {p : List Pk} {per : Int} {d : Nat → Bool} {to : Int} {x : Sn} (h : ¬ (x.p < 0 ∨ (p.length : Int) ≤ x.p ∨ d x.p.toNat = true)) : 0 ≤ x.p ∧ x.p < p.length ∧ d x.p.toNat = false := by
  refine ⟨by omega, by omega, ?_⟩
  cases hd : d x.p.toNat
  · rfl
  · exact absurd (.inr (.inr hd)) h
theorem one_any (g gs base : Nat) (A : Option Addr) (c : Nat) (p : List Pk) (per to : Int) (d : Nat → Bool) (x : Sn) (S : Nat → Addr) (w : World) (B : Nat) (hI : OneIn w B g gs base A c p per to d) (hS : Snt w B S [3, 4, 5, 7, 8]) (hl : p.length ≤ 300) (hper : 1 ≤ per) (hper2 : per ≤ 1000) (hpk : ∀ y ∈ p, okPk y) (hxf : tame50 x.f) :
    Calls Tryz.prog 54 #[.pointer (some ⟨g, 0, none⟩), auVal x] w fun e w' => (auErr p per d to x = 0 → e = .returned .nilIface ∧ OneIn w' B g gs base A c p per x.t (dSet d x.p.toNat) ∧ Below B w w') ∧ (auErr p per d to x ≠ 0 → e = .returned (sv S (auErr p per d to x)) ∧ Below w.heap.size w w') := by
  have bad : ∀ (k : Nat), k ≠ 0 → auErr p per d to x = k → (Calls Tryz.prog 54 #[.pointer (some ⟨g, 0, none⟩), auVal x] w fun e w' => e = .returned (sv S k) ∧ Below w.heap.size w w') → Calls Tryz.prog 54 #[.pointer (some ⟨g, 0, none⟩), auVal x] w fun e w' => (auErr p per d to x = 0 → e = .returned .nilIface ∧ OneIn w' B g gs base A c p per x.t (dSet d x.p.toNat) ∧ Below B w w') ∧ (auErr p per d to x ≠ 0 → e = .returned (sv S (auErr p per d to x)) ∧ Below w.heap.size w w') := fun k hk he hc => hc.mono fun e w' h => ⟨fun h0 => absurd (he.symm.trans h0) hk, fun _ => by rw [he]; exact h⟩
  have good : auErr p per d to x = 0 → (Calls Tryz.prog 54 #[.pointer (some ⟨g, 0, none⟩), auVal x] w fun e w' => e = .returned .nilIface ∧ OneIn w' B g gs base A c p per x.t (dSet d x.p.toNat) ∧ Below B w w') → Calls Tryz.prog 54 #[.pointer (some ⟨g, 0, none⟩), auVal x] w fun e w' => (auErr p per d to x = 0 → e = .returned .nilIface ∧ OneIn w' B g gs base A c p per x.t (dSet d x.p.toNat) ∧ Below B w w') ∧ (auErr p per d to x ≠ 0 → e = .returned (sv S (auErr p per d to x)) ∧ Below w.heap.size w w') := fun he hc => hc.mono fun e w' h => ⟨fun _ => h, fun h0 => absurd he h0⟩
  by_cases c1 : x.p < 0 ∨ (p.length : Int) ≤ x.p ∨ d x.p.toNat = true
  · refine bad 4 (by omega) (if_pos c1) (one_none g gs base A c p per to d x S w B hI hS hl ?_)
    by_cases h1 : x.p < 0
    · exact .inl h1
    · by_cases h2 : (p.length : Int) ≤ x.p
      · exact .inr (.inl ⟨by omega, h2⟩)
      · exact .inr (.inr ⟨by omega, by omega, by rcases c1 with h | h | h; exact absurd h h1; exact absurd h h2; exact h⟩)
  · obtain ⟨h1, h2, hd⟩ := auErr_no (per := per) (to := to) c1
    by_cases c2 : x.f < aOf p x.p.toNat ∨ x.f < to
    · refine bad 5 (by omega) (by unfold auErr; rw [if_neg c1, if_pos c2]) (one_old g gs base A c p per to d x S w B hI hS hl h1 h2 hd ?_)
      by_cases h3 : x.f < aOf p x.p.toNat
      · exact .inl h3
      · exact .inr ⟨h3, by rcases c2 with h | h; exact absurd h h3; exact h⟩
    · have hx : ¬ x.f < aOf p x.p.toNat := fun h => c2 (.inl h)
      have hto : ¬ x.f < to := fun h => c2 (.inr h)
      by_cases c3 : x.t ≠ x.f + per * sOf p x.p.toNat
      · exact bad 3 (by omega) (by unfold auErr; rw [if_neg c1, if_neg c2, if_pos c3]) (one_shape g gs base A c p per to d x S w B hI hS hl h1 h2 hd hx hto hper hper2 hpk hxf c3)
      · have hsh : Hid (x.t = x.f + per * sOf p x.p.toNat) := Lib.hid (by omega)
        by_cases hlt : to < x.f
        · cases ho : oth p.length d (fun j => decide (aOf p j < x.f))
          · have c4 : ¬ (to < x.f ∧ oth p.length d (fun j => decide (aOf p j < x.f)) = true) := fun h => by rw [ho] at h; simp at h
            cases ho2 : oth p.length d (fun j => decide (j < x.p.toNat) && sameFl p x.p.toNat j)
            · exact good (by unfold auErr; rw [if_neg c1, if_neg c2, if_neg c3, if_neg c4, if_neg (by rw [ho2]; simp)]) (one_okA g gs base A c p per to d x S w B hI hS hl h1 h2 hd hx hto hper hper2 hpk hxf hsh hlt ho ho2)
            · exact bad 8 (by omega) (by unfold auErr; rw [if_neg c1, if_neg c2, if_neg c3, if_neg c4, if_pos ho2]) (one_turnA g gs base A c p per to d x S w B hI hS hl h1 h2 hd hx hto hper hper2 hpk hxf hsh hlt ho ho2)
          · exact bad 7 (by omega) (by unfold auErr; rw [if_neg c1, if_neg c2, if_neg c3, if_pos ⟨hlt, ho⟩]) (one_idle g gs base A c p per to d x S w B hI hS hl h1 h2 hd hx hto hper hper2 hpk hxf hsh hlt ho)
        · have c4 : ¬ (to < x.f ∧ oth p.length d (fun j => decide (aOf p j < x.f)) = true) := fun h => hlt h.1
          cases ho2 : oth p.length d (fun j => decide (j < x.p.toNat) && sameFl p x.p.toNat j)
          · exact good (by unfold auErr; rw [if_neg c1, if_neg c2, if_neg c3, if_neg c4, if_neg (by rw [ho2]; simp)]) (one_okB g gs base A c p per to d x S w B hI hS hl h1 h2 hd hx hto hper hper2 hpk hxf hsh hlt ho2)
          · exact bad 8 (by omega) (by unfold auErr; rw [if_neg c1, if_neg c2, if_neg c3, if_neg c4, if_pos ho2]) (one_turnB g gs base A c p per to d x S w B hI hS hl h1 h2 hd hx hto hper hper2 hpk hxf hsh hlt ho2)
end Go.Proofs.YthgpbdlmadjndaaGreatDoor
namespace Go.Proofs.YthgpbdlmadjndaaGreatDoor
open Go.RowKit
set_option maxRecDepth 100000
theorem infoBool2 : (Tryz.prog.info? 4).map (fun i => (i.zero, i.size, i.bytes)) = some (some (.bool false), 1, 1) := by kernel_rfl
theorem auErr_le (p : List Pk) (per : Int) (d : Nat → Bool) (to : Int) (x : Sn) : auErr p per d to x ≤ 8 := by
  unfold auErr
  repeat' split
  all_goals omega
set_option maxHeartbeats 4000000 in
theorem audCheck_ok (A A' : Option Addr) (c c' : Nat) (p : List Pk) (per : Int) (l : List Sn) (S : Nat → Addr) (w : World) (B : Nat) (hB : B ≤ w.heap.size) (h : RdP w B A p) (h' : RdS w B A' l) (hS : Snt w B S [2, 3, 4, 5, 7, 8]) (hl' : l.length ≤ 1000) (ht : ∀ x ∈ l, tame50 x.f) (hlk : (lookErr p per).1 = 0) :
    Calls Tryz.prog 23 #[.slice A p.length c, .int .i64 per, .slice A' l.length c'] w (EndEr S (auGo p per (fun _ => false) 0 l 0).1 (auGo p per (fun _ => false) 0 l 0).2 w) := by
  obtain ⟨hf, hl, hpk, h0, h1⟩ := lookErr_ok hlk
  obtain ⟨i1, hi1, hy0, hy1, hy2⟩ := info_parts infoBool2
  have Hf := Lib.hid hf
  clear hf hlk
  go_enter Tryz.func23, Tryz.ntmps23
  go_wp2_with fail
  refine (look_any A c p per S w B hB h (hS.sub (by simp)) (by omega)).mono ?_
  rintro e w1 ⟨v, rfl, hv, k1⟩
  obtain rfl := hv.nil_of (by rw [Hf.out])
  have z1 := k1.size
  go_wp2_with (at_make; refine wpList_make_full _ rfl (.tmp 21) (.tmp 21) 104 rfl w1.heap.size 4 i1 (.bool false) 1 Tryz.underlying104 hi1 hy0 hy1 .i64 .i64 p.length p.length p.length rfl rfl rfl rfl (by rw [hy2]; omega) (by simp only [maxLen]; omega) (Nat.le_refl _) ?_; intro w2 row2 g2; rw [boolRow_new] at row2; have k2 : Below w1.heap.size w1 w2 := (Below.refl _ _).grown g2 (Nat.le_refl _) (by simp); have s2 : w1.heap.size < w2.heap.size := own_lt row2 _ rfl)
  have hI0 : OneIn (w2.alloc (.cells (bookCs A p.length c per w1.heap.size 0) 106)) w1.heap.size w2.heap.size w1.heap.size w1.heap.size A c p per 0 (fun _ => false) :=
    ⟨((h.below (k1.mono hB)).more (Nat.le_trans hB z1)).below (k2.alloc (Nat.le_of_lt s2) _), Blk.new _ _ _, row2.alloc _, Nat.le_of_lt s2, Nat.le_refl _, by omega⟩
  have k3 : Below w1.heap.size w1 (w2.alloc (.cells (bookCs A p.length c per w1.heap.size 0) 106)) := k2.alloc (Nat.le_of_lt s2) _
  go_loopw [27] (fun iv wr => ∃ (i : Nat) (d : Nat → Bool) (to : Int), i ≤ l.length ∧ iv = .int .i64 i ∧ OneIn wr w1.heap.size w2.heap.size w1.heap.size w1.heap.size A c p per to d ∧ auGo p per (fun _ => false) 0 l 0 = auGo p per d to (l.drop i) i ∧ Below w1.heap.size w1 wr) (fun iv _ => l.length - (intOf iv).toNat)
  case atStart => exact ⟨0, fun _ => false, 0, Nat.zero_le _, rfl, hI0, rfl, k3⟩
  case round =>
    obtain ⟨i, d, to, hi, rfl, hI, hgo, hbw⟩ := hrel
    have HI := Lib.hid hI
    have zw := hbw.size
    have kw := k1.trans (hbw.mono z1)
    clear hI hI0 k3 row2
    by_cases hlt : i < l.length
    · obtain ⟨q, o, rfl, hq, d0, d1, d2⟩ := RdS.get (h'.below (kw.mono hB)) hlt
      rw [List.drop_eq_getElem_cons hlt, auGo] at hgo
      have htx := ht _ (List.getElem_mem hlt)
      obtain ⟨x, hx⟩ : ∃ x : Sn, x = l[i] := ⟨_, rfl⟩
      rw [← hx] at d0 d1 d2 hgo htx
      have Hgo := Lib.hid hgo
      have q1 : (0 : Int) ≤ (i : Int) := by omega
      have q2 : (i : Int) < (l.length : Int) := by omega
      obtain ⟨X, hX⟩ : ∃ X : World, X = wr.alloc (.cells #[.int .i64 x.p, .int .i64 x.f, .int .i64 x.t] 62) := ⟨_, rfl⟩
      have kx : Below wr.heap.size wr X := by rw [hX]; exact (Below.refl _ _).alloc (Nat.le_refl _) _
      have iX : OneIn X w1.heap.size w2.heap.size w1.heap.size w1.heap.size A c p per to d := HI.out.below kx
      have kX := hbw.trans (kx.mono zw)
      have hone := one_any w2.heap.size w1.heap.size w1.heap.size A c p per to d x S X w1.heap.size iX ((((hS.below (kw.mono hB)).below ((kx.mono zw).mono (Nat.le_trans hB z1))).more (Nat.le_trans hB z1)).sub (by simp)) hl h0 h1 hpk htx
      unfold auVal at hone
      have Hone := Lib.hid hone
      have HX := Lib.hid hX
      have zX := kX.size
      have zxx := kx.size
      clear hgo hx hX hone iX
      go_wp2_with fail
      rw [← HX.out]
      refine Hone.out.mono ?_
      rintro e w4 ⟨hgood, hbad⟩
      by_cases he : auErr p per d to x = 0
      · obtain ⟨rfl, i4, k4⟩ := hgood he
        have Hgo2 := Lib.hid (show auGo p per (fun _ => false) 0 l 0 = auGo p per (dSet d x.p.toNat) x.t (l.drop (i + 1)) (i + 1) by rw [Hgo.out, if_neg (by omega)])
        have I4 := Lib.hid i4
        clear hgood hbad he i4
        go_wp2_with fail
        go_roundw
        case rel => exact ⟨i + 1, dSet d x.p.toNat, x.t, hlt, by go_num, I4.out, Hgo2.out, kX.trans k4⟩
        case measure => simp [intOf]; omega
      · obtain ⟨rfl, k4⟩ := hbad he
        have Hgo2 := Lib.hid (show auGo p per (fun _ => false) 0 l 0 = (auErr p per d to x, (i : Int)) by rw [Hgo.out, if_pos he])
        have hle := auErr_le p per d to x
        obtain ⟨en, hen⟩ : ∃ en, en = auErr p per d to x := ⟨_, rfl⟩
        rw [← hen] at he hle
        have Hen := Lib.hid hen
        rw [← hen]
        have he1 : 1 ≤ en := by omega
        have k5 := k1.trans ((kX.trans (k4.mono zX)).mono z1)
        clear hgood hbad hen he
        unfold sv
        go_wp2_with fail
        go_ret
        rw [Hgo2.out, ← Hen.out]
        exact ⟨_, rfl, .fault en he1 (by omega) _ _ (by simp) (heap_alloc_new _ _), k5.alloc k5.size _⟩
    · rw [List.drop_eq_nil_of_le (by omega), auGo] at hgo
      have Hgo := Lib.hid hgo
      have hoth := oth0_any w2.heap.size w1.heap.size A c p per to d (fun _ => true) w1.heap.size wr HI.out.hb HI.out.hr (by omega) (fun j m _ => aone0_any j m wr)
      have Hoth := Lib.hid hoth
      clear hgo hoth
      go_wp2_with fail
      refine Hoth.out.mono ?_
      rintro e w4 ⟨rfl, m4, hm4⟩
      have k4 : Below w.heap.size w w4 := by rw [hm4]; exact below_drewN kw m4
      cases ho : oth p.length d (fun _ => true)
      · have Hg := Lib.hid (show auGo p per (fun _ => false) 0 l 0 = (0, -1) by rw [Hgo.out, ho]; rfl)
        clear ho hm4
        go_wp2_with fail
        go_ret
        rw [Hg.out]
        exact ⟨_, rfl, .nil, k4⟩
      · have Hg := Lib.hid (show auGo p per (fun _ => false) 0 l 0 = (4, -1) by rw [Hgo.out, ho]; rfl)
        have gE : w4.cell? ⟨G 4, 0, none⟩ = some (sv S 4) := ((hS.below (k4.mono hB)) 4 (by simp)).2.2
        simp only [G, sv] at gE
        clear ho hm4
        go_wp2_with fail
        go_ret
        rw [Hg.out]
        exact ⟨_, rfl, .bare 4 (by omega) (by omega), k4⟩
theorem audCheck_any (A A' : Option Addr) (c c' : Nat) (p : List Pk) (per : Int) (l : List Sn) (S : Nat → Addr) (w : World) (B : Nat) (hB : B ≤ w.heap.size) (h : RdP w B A p) (h' : RdS w B A' l) (hS : Snt w B S [2, 3, 4, 5, 7, 8]) (hl : p.length ≤ 9223372036854775807) (hl' : l.length ≤ 1000) (ht : ∀ x ∈ l, tame50 x.f) :
    Calls Tryz.prog 23 #[.slice A p.length c, .int .i64 per, .slice A' l.length c'] w (EndEr S (audErr p per l).1 (audErr p per l).2 w) := by
  by_cases hlk : (lookErr p per).1 = 0
  · rw [show audErr p per l = auGo p per (fun _ => false) 0 l 0 from if_neg (by omega)]
    exact audCheck_ok A A' c c' p per l S w B hB h h' hS hl' ht hlk
  · rw [show audErr p per l = lookErr p per from if_pos hlk]
    have Hn := Lib.hid hlk
    clear hlk
    go_enter Tryz.func23, Tryz.ntmps23
    go_wp2_with fail
    refine (look_any A c p per S w B hB h (hS.sub (by simp)) hl).mono ?_
    rintro e w1 ⟨v, rfl, hv, k1⟩
    obtain ⟨T, a, rfl⟩ := hv.some_of Hn.out
    go_wp2_with fail
    go_ret
    exact ⟨_, rfl, hv, k1⟩
end Go.Proofs.YthgpbdlmadjndaaGreatDoor
