/- floodgateref2.sentError: the error's number of one that is sent. Conditions written at each. -/
import Derived.Test.YthgpbdlmadjndaaDoorAud3
namespace Go.Proofs.YthgpbdlmadjndaaDoor
open Go.RowKit
set_option maxRecDepth 100000
def auRest (p : List Pk) (d : Nat → Bool) (to f : Int) (k : Nat) : Nat := if to < f ∧ oth p.length d (fun j => decide (aOf p j < f)) = true then 7 else if othGo d (sameFl p k) k 0 = true then 8 else 0
theorem auRest7 {p : List Pk} {d : Nat → Bool} {to f : Int} {k : Nat} (h : to < f ∧ oth p.length d (fun j => decide (aOf p j < f)) = true) : auRest p d to f k = 7 := if_pos h
theorem auRest8 {p : List Pk} {d : Nat → Bool} {to f : Int} {k : Nat} (h : ¬ (to < f ∧ oth p.length d (fun j => decide (aOf p j < f)) = true)) (h2 : othGo d (sameFl p k) k 0 = true) : auRest p d to f k = 8 := by unfold auRest; rw [if_neg h, if_pos h2]
theorem auRest0 {p : List Pk} {d : Nat → Bool} {to f : Int} {k : Nat} (h : ¬ (to < f ∧ oth p.length d (fun j => decide (aOf p j < f)) = true)) (h2 : othGo d (sameFl p k) k 0 = false) : auRest p d to f k = 0 := by unfold auRest; rw [if_neg h, if_neg (by rw [h2]; simp)]
set_option maxHeartbeats 2000000 in
theorem sent_none (gs base : Nat) (A : Option Addr) (c : Nat) (p : List Pk) (per to : Int) (d : Nat → Bool) (x : Sn) (w : World) (B : Nat) (hp : RdP w B A p) (hr : BRow w base 4 gs p.length d) (hl : p.length ≤ 300) (hx : x.p < 0 ∨ (0 ≤ x.p ∧ (p.length : Int) ≤ x.p) ∨ (0 ≤ x.p ∧ x.p < p.length ∧ d x.p.toNat = true)) :
    Calls Tryd.prog 46 #[.slice A p.length c, .int .i64 per, .slice (some ⟨gs, 0, none⟩) p.length p.length, .int .i64 to, auVal x] w fun e w' => e = .returned (.int .i64 4) ∧ Below w.heap.size w w' := by
  have bx : Below w.heap.size w (w.alloc (.cells #[.int .i64 x.p, .int .i64 x.f, .int .i64 x.t] 44)) := (Below.refl _ _).alloc (Nat.le_refl _) _
  rcases hx with h1 | ⟨h1, h2⟩ | ⟨h1, h2, h3⟩
  · unfold auVal
    go_enter Tryd.func46, Tryd.ntmps46
    go_wp2_with fail
    go_ret
    exact ⟨rfl, bx⟩
  · have h3 : ¬ x.p < 0 := by omega
    unfold auVal
    go_enter Tryd.func46, Tryd.ntmps46
    go_wp2_with fail
    go_ret
    exact ⟨rfl, bx⟩
  · obtain ⟨k, hk⟩ : ∃ k : Nat, x.p = k := ⟨x.p.toNat, by omega⟩
    have hkl : k < p.length := by omega
    obtain ⟨xp, xf, xt⟩ := x
    simp only at *
    subst hk
    simp only [Int.toNat_natCast] at *
    have n1 : ¬ (k : Int) < 0 := by omega
    have n2 : ¬ (p.length : Int) ≤ (k : Int) := by omega
    have p1 : (0 : Int) ≤ (k : Int) := by omega
    have p2 : (k : Int) < (p.length : Int) := by omega
    have e0 : (w.alloc (.cells #[.int .i64 (k : Int), .int .i64 xf, .int .i64 xt] 44)).cell? ⟨gs, k, none⟩ = some (.bool true) := by
      rw [← h3]
      exact (bx.cell (p := ⟨gs, k, none⟩) (own_lt hr _ rfl)).trans (BRow.cell hr hkl)
    clear h3 hr
    unfold auVal
    go_enter Tryd.func46, Tryd.ntmps46
    go_wp2_with fail
    go_ret
    exact ⟨rfl, bx⟩
set_option maxHeartbeats 2000000 in
theorem sent_old (gs base : Nat) (A : Option Addr) (c : Nat) (p : List Pk) (per to : Int) (d : Nat → Bool) (x : Sn) (w : World) (B : Nat) (hp : RdP w B A p) (hr : BRow w base 4 gs p.length d) (hl : p.length ≤ 300) (h1 : 0 ≤ x.p) (h2 : x.p < p.length) (hd : d x.p.toNat = false) (hx : x.f < aOf p x.p.toNat ∨ (¬ x.f < aOf p x.p.toNat ∧ x.f < to)) :
    Calls Tryd.prog 46 #[.slice A p.length c, .int .i64 per, .slice (some ⟨gs, 0, none⟩) p.length p.length, .int .i64 to, auVal x] w fun e w' => e = .returned (.int .i64 5) ∧ Below w.heap.size w w' := by
  have bx : Below w.heap.size w (w.alloc (.cells #[.int .i64 x.p, .int .i64 x.f, .int .i64 x.t] 44)) := (Below.refl _ _).alloc (Nat.le_refl _) _
  obtain ⟨k, hk⟩ : ∃ k : Nat, x.p = k := ⟨x.p.toNat, by omega⟩
  have hkl : k < p.length := by omega
  obtain ⟨xp, xf, xt⟩ := x
  simp only at *
  subst hk
  simp only [Int.toNat_natCast] at *
  have n1 : ¬ (k : Int) < 0 := by omega
  have n2 : ¬ (p.length : Int) ≤ (k : Int) := by omega
  have p1 : (0 : Int) ≤ (k : Int) := by omega
  have p2 : (k : Int) < (p.length : Int) := by omega
  have HR := Lib.hid hr
  have e0 : (w.alloc (.cells #[.int .i64 (k : Int), .int .i64 xf, .int .i64 xt] 44)).cell? ⟨gs, k, none⟩ = some (.bool false) := by
    rw [← hd]
    exact (bx.cell (p := ⟨gs, k, none⟩) (own_lt hr _ rfl)).trans (BRow.cell hr hkl)
  obtain ⟨b, o, rfl, hb, d0, d1, d2⟩ := RdP.get hp hkl
  have c0 : (w.alloc (.cells #[.int .i64 (k : Int), .int .i64 xf, .int .i64 xt] 44)).cell? ⟨b, o + k * 3, none⟩ = some (.int .i64 p[k].f) := (bx.cell (p := ⟨b, o + k * 3, none⟩) (World.block_lt_of_cell? _ _ d0)).trans d0
  have c1 : (w.alloc (.cells #[.int .i64 (k : Int), .int .i64 xf, .int .i64 xt] 44)).cell? ⟨b, o + k * 3 + 1, none⟩ = some (.int .i64 p[k].s) := (bx.cell (p := ⟨b, o + k * 3 + 1, none⟩) (World.block_lt_of_cell? _ _ d1)).trans d1
  have c2 : (w.alloc (.cells #[.int .i64 (k : Int), .int .i64 xf, .int .i64 xt] 44)).cell? ⟨b, o + k * 3 + 2, none⟩ = some (.int .i64 p[k].a) := (bx.cell (p := ⟨b, o + k * 3 + 2, none⟩) (World.block_lt_of_cell? _ _ d2)).trans d2
  have bq := bx.alloc (by simp) (.cells #[.int .i64 p[k].f, .int .i64 p[k].s, .int .i64 p[k].a] 42)
  have Hd := Lib.hid hd
  clear hr hd
  rw [aOf_of hkl] at hx
  rcases hx with hx | ⟨hx, hx2⟩
  · unfold auVal
    go_enter Tryd.func46, Tryd.ntmps46
    go_wp2_with fail
    go_ret
    exact ⟨rfl, bq⟩
  · unfold auVal
    go_enter Tryd.func46, Tryd.ntmps46
    go_wp2_with fail
    go_ret
    exact ⟨rfl, bq⟩
set_option maxHeartbeats 2000000 in
theorem sent_shape (gs base : Nat) (A : Option Addr) (c : Nat) (p : List Pk) (per to : Int) (d : Nat → Bool) (x : Sn) (w : World) (B : Nat) (hp : RdP w B A p) (hr : BRow w base 4 gs p.length d) (hl : p.length ≤ 300) (h1 : 0 ≤ x.p) (h2 : x.p < p.length) (hd : d x.p.toNat = false) (hx : ¬ x.f < aOf p x.p.toNat) (hto : ¬ x.f < to) (hper : 1 ≤ per) (hper2 : per ≤ 1000) (hpk : ∀ y ∈ p, okPk y) (hxf : tame50 x.f) (hxt : tame50 x.t) (hsh : x.t ≠ x.f + per * sOf p x.p.toNat) :
    Calls Tryd.prog 46 #[.slice A p.length c, .int .i64 per, .slice (some ⟨gs, 0, none⟩) p.length p.length, .int .i64 to, auVal x] w fun e w' => e = .returned (.int .i64 3) ∧ Below w.heap.size w w' := by
  have bx : Below w.heap.size w (w.alloc (.cells #[.int .i64 x.p, .int .i64 x.f, .int .i64 x.t] 44)) := (Below.refl _ _).alloc (Nat.le_refl _) _
  obtain ⟨k, hk⟩ : ∃ k : Nat, x.p = k := ⟨x.p.toNat, by omega⟩
  have hkl : k < p.length := by omega
  obtain ⟨xp, xf, xt⟩ := x
  simp only at *
  subst hk
  simp only [Int.toNat_natCast] at *
  have n1 : ¬ (k : Int) < 0 := by omega
  have n2 : ¬ (p.length : Int) ≤ (k : Int) := by omega
  have p1 : (0 : Int) ≤ (k : Int) := by omega
  have p2 : (k : Int) < (p.length : Int) := by omega
  have HR := Lib.hid hr
  have e0 : (w.alloc (.cells #[.int .i64 (k : Int), .int .i64 xf, .int .i64 xt] 44)).cell? ⟨gs, k, none⟩ = some (.bool false) := by
    rw [← hd]
    exact (bx.cell (p := ⟨gs, k, none⟩) (own_lt hr _ rfl)).trans (BRow.cell hr hkl)
  obtain ⟨b, o, rfl, hb, d0, d1, d2⟩ := RdP.get hp hkl
  have c0 : (w.alloc (.cells #[.int .i64 (k : Int), .int .i64 xf, .int .i64 xt] 44)).cell? ⟨b, o + k * 3, none⟩ = some (.int .i64 p[k].f) := (bx.cell (p := ⟨b, o + k * 3, none⟩) (World.block_lt_of_cell? _ _ d0)).trans d0
  have c1 : (w.alloc (.cells #[.int .i64 (k : Int), .int .i64 xf, .int .i64 xt] 44)).cell? ⟨b, o + k * 3 + 1, none⟩ = some (.int .i64 p[k].s) := (bx.cell (p := ⟨b, o + k * 3 + 1, none⟩) (World.block_lt_of_cell? _ _ d1)).trans d1
  have c2 : (w.alloc (.cells #[.int .i64 (k : Int), .int .i64 xf, .int .i64 xt] 44)).cell? ⟨b, o + k * 3 + 2, none⟩ = some (.int .i64 p[k].a) := (bx.cell (p := ⟨b, o + k * 3 + 2, none⟩) (World.block_lt_of_cell? _ _ d2)).trans d2
  have bq := bx.alloc (by simp) (.cells #[.int .i64 p[k].f, .int .i64 p[k].s, .int .i64 p[k].a] 42)
  have Hd := Lib.hid hd
  clear hr hd
  rw [aOf_of hkl] at hx
  rw [sOf_of hkl] at hsh
  have hok := hpk _ (List.getElem_mem hkl)
  have m0 : 0 ≤ per * p[k].s := Int.mul_nonneg (by omega) (by have := hok.2.2.1; omega)
  have m1 : per * p[k].s ≤ 1500000 := by
    have := Int.mul_le_mul hper2 hok.2.2.2.1 (by have := hok.2.2.1; omega) (by omega : (0:Int) ≤ 1000)
    omega
  unfold tame50 at hxf hxt
  obtain ⟨xf1, xf2⟩ := hxf
  obtain ⟨xt1, xt2⟩ := hxt
  have y1 : -9223372036854775808 ≤ xt - xf := by omega
  have y2 : xt - xf ≤ 9223372036854775807 := by omega
  clear hok
  have hne : (xt - xf != per * p[k].s) = true := by simp; omega
  clear hsh
  unfold auVal
  go_enter Tryd.func46, Tryd.ntmps46
  go_wp2_with fail
  go_ret
  exact ⟨rfl, bq⟩
set_option maxHeartbeats 2000000 in
theorem sent_rest (gs base : Nat) (A : Option Addr) (c : Nat) (p : List Pk) (per to : Int) (d : Nat → Bool) (x : Sn) (w : World) (B : Nat) (hp : RdP w B A p) (hr : BRow w base 4 gs p.length d) (hl : p.length ≤ 300) (h1 : 0 ≤ x.p) (h2 : x.p < p.length) (hd : d x.p.toNat = false) (hx : ¬ x.f < aOf p x.p.toNat) (hto : ¬ x.f < to) (hper : 1 ≤ per) (hper2 : per ≤ 1000) (hpk : ∀ y ∈ p, okPk y) (hxf : tame50 x.f) (hxt : tame50 x.t) (hsh : x.t = x.f + per * sOf p x.p.toNat) :
    Calls Tryd.prog 46 #[.slice A p.length c, .int .i64 per, .slice (some ⟨gs, 0, none⟩) p.length p.length, .int .i64 to, auVal x] w fun e w' => e = .returned (.int .i64 ((auRest p d to x.f x.p.toNat : Nat) : Int)) ∧ Below w.heap.size w w' := by
  have bx : Below w.heap.size w (w.alloc (.cells #[.int .i64 x.p, .int .i64 x.f, .int .i64 x.t] 44)) := (Below.refl _ _).alloc (Nat.le_refl _) _
  obtain ⟨k, hk⟩ : ∃ k : Nat, x.p = k := ⟨x.p.toNat, by omega⟩
  have hkl : k < p.length := by omega
  obtain ⟨xp, xf, xt⟩ := x
  simp only at *
  subst hk
  simp only [Int.toNat_natCast] at *
  have n1 : ¬ (k : Int) < 0 := by omega
  have n2 : ¬ (p.length : Int) ≤ (k : Int) := by omega
  have p1 : (0 : Int) ≤ (k : Int) := by omega
  have p2 : (k : Int) < (p.length : Int) := by omega
  have HR := Lib.hid hr
  have e0 : (w.alloc (.cells #[.int .i64 (k : Int), .int .i64 xf, .int .i64 xt] 44)).cell? ⟨gs, k, none⟩ = some (.bool false) := by
    rw [← hd]
    exact (bx.cell (p := ⟨gs, k, none⟩) (own_lt hr _ rfl)).trans (BRow.cell hr hkl)
  obtain ⟨b, o, rfl, hb, d0, d1, d2⟩ := RdP.get hp hkl
  have c0 : (w.alloc (.cells #[.int .i64 (k : Int), .int .i64 xf, .int .i64 xt] 44)).cell? ⟨b, o + k * 3, none⟩ = some (.int .i64 p[k].f) := (bx.cell (p := ⟨b, o + k * 3, none⟩) (World.block_lt_of_cell? _ _ d0)).trans d0
  have c1 : (w.alloc (.cells #[.int .i64 (k : Int), .int .i64 xf, .int .i64 xt] 44)).cell? ⟨b, o + k * 3 + 1, none⟩ = some (.int .i64 p[k].s) := (bx.cell (p := ⟨b, o + k * 3 + 1, none⟩) (World.block_lt_of_cell? _ _ d1)).trans d1
  have c2 : (w.alloc (.cells #[.int .i64 (k : Int), .int .i64 xf, .int .i64 xt] 44)).cell? ⟨b, o + k * 3 + 2, none⟩ = some (.int .i64 p[k].a) := (bx.cell (p := ⟨b, o + k * 3 + 2, none⟩) (World.block_lt_of_cell? _ _ d2)).trans d2
  have bq := bx.alloc (by simp) (.cells #[.int .i64 p[k].f, .int .i64 p[k].s, .int .i64 p[k].a] 42)
  have Hd := Lib.hid hd
  clear hr hd
  rw [aOf_of hkl] at hx
  rw [sOf_of hkl] at hsh
  have hok := hpk _ (List.getElem_mem hkl)
  have m0 : 0 ≤ per * p[k].s := Int.mul_nonneg (by omega) (by have := hok.2.2.1; omega)
  have m1 : per * p[k].s ≤ 1500000 := by
    have := Int.mul_le_mul hper2 hok.2.2.2.1 (by have := hok.2.2.1; omega) (by omega : (0:Int) ≤ 1000)
    omega
  unfold tame50 at hxf hxt
  obtain ⟨xf1, xf2⟩ := hxf
  obtain ⟨xt1, xt2⟩ := hxt
  have y1 : -9223372036854775808 ≤ xt - xf := by omega
  have y2 : xt - xf ≤ 9223372036854775807 := by omega
  clear hok
  have hne : (xt - xf != per * p[k].s) = false := by simp; omega
  obtain ⟨V, hV⟩ : ∃ V : World, V = (w.alloc (.cells #[.int .i64 (k : Int), .int .i64 xf, .int .i64 xt] 44)).alloc (.cells #[.int .i64 p[k].f, .int .i64 p[k].s, .int .i64 p[k].a] 42) := ⟨_, rfl⟩
  rw [← hV] at bq
  have v1 : V.cell? ⟨w.heap.size, 1, none⟩ = some (.int .i64 xf) := by
    rw [hV]
    exact ((Blk.new w 44 #[.int .i64 (k : Int), .int .i64 xf, .int .i64 xt]).alloc _).cell 1
  have v0 : V.cell? ⟨w.heap.size, 0, none⟩ = some (.int .i64 (k : Int)) := by
    rw [hV]
    exact ((Blk.new w 44 #[.int .i64 (k : Int), .int .i64 xf, .int .i64 xt]).alloc _).cell 0
  have v2 : V.cell? ⟨w.heap.size + 1, 0, none⟩ = some (.int .i64 p[k].f) := by
    rw [hV]
    exact Blk.cell (heap_alloc_new2 w _ (.cells #[.int .i64 p[k].f, .int .i64 p[k].s, .int .i64 p[k].a] 42)) 0
  have vp : RdP V B (some ⟨b, o, none⟩) p := fun h0 => by
    obtain ⟨b', o', e', hb', hf'⟩ := hp h0
    exact ⟨b', o', e', hb', fun i y hi j u hu => by
      have := hf' i y hi j u hu
      exact (bq.cell (p := ⟨b', o' + i * 3 + j, none⟩) (World.block_lt_of_cell? _ _ this)).trans this⟩
  have vr : BRow V base 4 gs p.length d := own_same HR.out fun y hy => bq.block y (own_lt HR.out y hy)
  have VP := Lib.hid vp
  have VR := Lib.hid vr
  have HV := Lib.hid hV
  have Hsh := Lib.hid hsh
  clear hsh hV vp vr hp hpk
  unfold auVal
  go_enter Tryd.func46, Tryd.ntmps46
  go_wp2_with fail
  rw [← HV.out]
  go_loopw [12] (fun iv wr => ∃ i m : Nat, i ≤ p.length ∧ iv = .int .i64 i ∧ (decide (to < xf) && oth p.length d (fun j => decide (aOf p j < xf))) = (decide (to < xf) && othGo d (fun j => decide (aOf p j < xf)) (p.length - i) i) ∧ wr = V.drewN m) (fun iv _ => p.length - (intOf iv).toNat)
  case atStart => exact ⟨0, 0, Nat.zero_le _, rfl, rfl, rfl⟩
  case round =>
    obtain ⟨i, m, hi, rfl, ho, rfl⟩ := hrel
    by_cases hlt : i < p.length
    · rw [othGo_step hlt] at ho
      have q1 : (0 : Int) ≤ (i : Int) := by omega
      have q2 : (i : Int) < (p.length : Int) := by omega
      have f1 : V.cell? ⟨gs, i, none⟩ = some (.bool (d i)) := BRow.cell VR.out hlt
      obtain ⟨b', o', e', _, g0, g1, g2⟩ := RdP.get VP.out hlt
      simp only [Option.some.injEq, Addr.mk.injEq, and_true] at e'
      obtain ⟨rfl, rfl⟩ := e'
      have ha := aOf_of hlt
      cases hdi : d i
      · rw [hdi] at f1 ho
        by_cases hto2 : to < xf
        · by_cases hai : p[i].a < xf
          · have Hr := Lib.hid (show to < xf ∧ oth p.length d (fun j => decide (aOf p j < xf)) = true from ⟨hto2, by rw [decide_eq_true hto2, ha, decide_eq_true hai] at ho; simpa using ho⟩)
            clear ho ha hdi
            go_wp2_with fail
            go_quiet (fail)
            rename Nat => nq
            go_wp2_with fail
            go_ret
            rw [auRest7 Hr.out]
            exact ⟨rfl, by first | exact below_drewN (below_drewN bq _) _ | exact below_drewN bq _⟩
          · have Ho := Lib.hid (show (decide (to < xf) && oth p.length d (fun j => decide (aOf p j < xf))) = (decide (to < xf) && othGo d (fun j => decide (aOf p j < xf)) (p.length - (i + 1)) (i + 1)) by rw [ho, ha, decide_eq_false hai]; simp)
            clear ho ha hdi
            go_wp2_with fail
            go_quiet (fail)
            rename Nat => nq
            go_wp2_with fail
            go_roundw
            case rel => exact ⟨i + 1, m + nq, hlt, by go_num, Ho.out, by first | rfl | exact World.drewN_drewN _ _ _⟩
            case measure => simp [intOf]; omega
        · have Ho := Lib.hid (show (decide (to < xf) && oth p.length d (fun j => decide (aOf p j < xf))) = (decide (to < xf) && othGo d (fun j => decide (aOf p j < xf)) (p.length - (i + 1)) (i + 1)) by rw [decide_eq_false hto2]; rfl)
          have hg0 : decide (to < xf) = false := decide_eq_false hto2
          clear ho ha hdi
          go_wp2_with fail
          go_quiet (fail)
          rename Nat => nq
          go_wp2_with fail
          go_roundw
          case rel => exact ⟨i + 1, m + nq, hlt, by go_num, Ho.out, by first | rfl | exact World.drewN_drewN _ _ _⟩
          case measure => simp [intOf]; omega
      · rw [hdi] at f1 ho
        have Ho := Lib.hid (show (decide (to < xf) && oth p.length d (fun j => decide (aOf p j < xf))) = (decide (to < xf) && othGo d (fun j => decide (aOf p j < xf)) (p.length - (i + 1)) (i + 1)) by rw [ho]; simp)
        clear ho ha hdi
        go_wp2_with fail
        go_quiet (fail)
        rename Nat => nq
        go_wp2_with fail
        go_roundw
        case rel => exact ⟨i + 1, m + nq, hlt, by go_num, Ho.out, by first | rfl | exact World.drewN_drewN _ _ _⟩
        case measure => simp [intOf]; omega
    · rw [othGo_end (by omega), Bool.and_false] at ho
      have Hr := Lib.hid (show ¬ (to < xf ∧ oth p.length d (fun j => decide (aOf p j < xf)) = true) from fun h => by rw [decide_eq_true h.1, h.2] at ho; simp at ho)
      clear ho
      go_wp2_with fail
      go_loopw [13] (fun iv wr => ∃ i m : Nat, i ≤ k ∧ iv = .int .i64 i ∧ othGo d (sameFl p k) k 0 = othGo d (sameFl p k) (k - i) i ∧ wr = V.drewN m) (fun iv _ => k - (intOf iv).toNat)
      case atStart => exact ⟨0, m, Nat.zero_le _, rfl, rfl, rfl⟩
      case round =>
        obtain ⟨i2, m2, hi2, rfl, ho, rfl⟩ := hrel
        by_cases hlt2 : i2 < k
        · rw [othGo_step hlt2] at ho
          have hlp : i2 < p.length := by omega
          have q1 : (0 : Int) ≤ (i2 : Int) := by omega
          have q2 : (i2 : Int) < (p.length : Int) := by omega
          have q3 : (i2 : Int) < (k : Int) := by omega
          have f1 : V.cell? ⟨gs, i2, none⟩ = some (.bool (d i2)) := BRow.cell VR.out hlp
          obtain ⟨b', o', e', _, g0, g1, g2⟩ := RdP.get VP.out hlp
          simp only [Option.some.injEq, Addr.mk.injEq, and_true] at e'
          obtain ⟨rfl, rfl⟩ := e'
          have hs : sameFl p k i2 = decide (p[i2].f = p[k].f) := by unfold sameFl; rw [fOf_of hlp, fOf_of hkl]
          cases hdi : d i2
          · rw [hdi] at f1 ho
            by_cases hfl : p[i2].f = p[k].f
            · have Ho := Lib.hid (show othGo d (sameFl p k) k 0 = true by rw [ho, hs, decide_eq_true hfl]; simp)
              have hfb : (p[i2].f == p[k].f) = true := by simp [hfl]
              clear ho hs hdi hfl
              go_wp2_with fail
              go_quiet (fail)
              rename Nat => nq
              go_wp2_with fail
              go_ret
              rw [auRest8 Hr.out Ho.out]
              exact ⟨rfl, by first | exact below_drewN (below_drewN bq _) _ | exact below_drewN bq _⟩
            · have Ho := Lib.hid (show othGo d (sameFl p k) k 0 = othGo d (sameFl p k) (k - (i2 + 1)) (i2 + 1) by rw [ho, hs, decide_eq_false hfl]; simp)
              have hfb : (p[i2].f == p[k].f) = false := by simp [hfl]
              clear ho hs hdi hfl
              go_wp2_with fail
              go_quiet (fail)
              rename Nat => nq
              go_wp2_with fail
              go_roundw
              case rel => exact ⟨i2 + 1, m2 + nq, hlt2, by go_num, Ho.out, by first | rfl | exact World.drewN_drewN _ _ _⟩
              case measure => simp [intOf]; omega
          · rw [hdi] at f1 ho
            have Ho := Lib.hid (show othGo d (sameFl p k) k 0 = othGo d (sameFl p k) (k - (i2 + 1)) (i2 + 1) by rw [ho]; simp)
            clear ho hs hdi
            go_wp2_with fail
            go_quiet (fail)
            rename Nat => nq
            go_wp2_with fail
            go_roundw
            case rel => exact ⟨i2 + 1, m2 + nq, hlt2, by go_num, Ho.out, by first | rfl | exact World.drewN_drewN _ _ _⟩
            case measure => simp [intOf]; omega
        · rw [othGo_end (by omega)] at ho
          have Ho := Lib.hid ho
          have q3 : ¬ (i2 : Int) < (k : Int) := by omega
          clear ho
          go_wp2_with fail
          go_ret
          rw [auRest0 Hr.out Ho.out]
          exact ⟨rfl, by first | exact below_drewN (below_drewN bq _) _ | exact below_drewN bq _⟩
theorem auErr_rest {p : List Pk} {per : Int} {d : Nat → Bool} {to : Int} {x : Sn} (h1 : ¬ (x.p < 0 ∨ (p.length : Int) ≤ x.p ∨ d x.p.toNat = true)) (h2 : ¬ (x.f < aOf p x.p.toNat ∨ x.f < to)) (h3 : ¬ x.t ≠ x.f + per * sOf p x.p.toNat) : auErr p per d to x = auRest p d to x.f x.p.toNat := by
  have hk : x.p.toNat ≤ p.length := by omega
  unfold auErr auRest
  rw [if_neg h1, if_neg h2, if_neg h3]
  simp only [oth_lt hk]
theorem sent_any (gs base : Nat) (A : Option Addr) (c : Nat) (p : List Pk) (per to : Int) (d : Nat → Bool) (x : Sn) (w : World) (B : Nat) (hp : RdP w B A p) (hr : BRow w base 4 gs p.length d) (hl : p.length ≤ 300) (hper : 1 ≤ per) (hper2 : per ≤ 1000) (hpk : ∀ y ∈ p, okPk y) (hxf : tame50 x.f) (hxt : tame50 x.t) :
    Calls Tryd.prog 46 #[.slice A p.length c, .int .i64 per, .slice (some ⟨gs, 0, none⟩) p.length p.length, .int .i64 to, auVal x] w fun e w' => e = .returned (.int .i64 ((auErr p per d to x : Nat) : Int)) ∧ Below w.heap.size w w' := by
  by_cases c1 : x.p < 0 ∨ (p.length : Int) ≤ x.p ∨ d x.p.toNat = true
  · rw [show auErr p per d to x = 4 from if_pos c1]
    refine sent_none gs base A c p per to d x w B hp hr hl ?_
    by_cases h1 : x.p < 0
    · exact .inl h1
    · by_cases h2 : (p.length : Int) ≤ x.p
      · exact .inr (.inl ⟨by omega, h2⟩)
      · exact .inr (.inr ⟨by omega, by omega, by rcases c1 with h | h | h; exact absurd h h1; exact absurd h h2; exact h⟩)
  · obtain ⟨h1, h2, hd⟩ := auErr_no (per := per) (to := to) c1
    by_cases c2 : x.f < aOf p x.p.toNat ∨ x.f < to
    · rw [show auErr p per d to x = 5 by unfold auErr; rw [if_neg c1, if_pos c2]]
      refine sent_old gs base A c p per to d x w B hp hr hl h1 h2 hd ?_
      by_cases h3 : x.f < aOf p x.p.toNat
      · exact .inl h3
      · exact .inr ⟨h3, by rcases c2 with h | h; exact absurd h h3; exact h⟩
    · have hx : ¬ x.f < aOf p x.p.toNat := fun h => c2 (.inl h)
      have hto : ¬ x.f < to := fun h => c2 (.inr h)
      by_cases c3 : x.t ≠ x.f + per * sOf p x.p.toNat
      · rw [show auErr p per d to x = 3 by unfold auErr; rw [if_neg c1, if_neg c2, if_pos c3]]
        exact sent_shape gs base A c p per to d x w B hp hr hl h1 h2 hd hx hto hper hper2 hpk hxf hxt c3
      · rw [auErr_rest c1 c2 c3]
        exact sent_rest gs base A c p per to d x w B hp hr hl h1 h2 hd hx hto hper hper2 hpk hxf hxt (by omega)
end Go.Proofs.YthgpbdlmadjndaaDoor
