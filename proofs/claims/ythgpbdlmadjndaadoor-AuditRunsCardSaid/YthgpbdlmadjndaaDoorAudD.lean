/- floodgateref2.sentError: the error's number of one that is sent. Conditions written at each. Package audit: Bytes. Conditions: ticks are not too great, few are sent; the sentinels that it names lie in their variables. -/
import Derived.Test.YthgpbdlmadjndaaDoorAudB
import Derived.Test.YthgpbdlmadjndaaDoorDelays
import Derived.Test.YthgpbdlmadjndaaDoorSentRef
namespace Go.Proofs.YthgpbdlmadjndaaDoor
open Go.RowKit
set_option maxRecDepth 100000
def auRest (p : List Pk) (d : Nat → Bool) (to f : Int) (k : Nat) : Nat := if to < f ∧ oth p.length d (fun j => decide (aOf p j < f)) = true then 7 else if othGo d (sameFl p k) k 0 = true then 8 else 0
theorem auRest7 {p : List Pk} {d : Nat → Bool} {to f : Int} {k : Nat} (h : to < f ∧ oth p.length d (fun j => decide (aOf p j < f)) = true) : auRest p d to f k = 7 := if_pos h
theorem auRest8 {p : List Pk} {d : Nat → Bool} {to f : Int} {k : Nat} (h : ¬ (to < f ∧ oth p.length d (fun j => decide (aOf p j < f)) = true)) (h2 : othGo d (sameFl p k) k 0 = true) : auRest p d to f k = 8 := by unfold auRest; rw [if_neg h, if_pos h2]
theorem auRest0 {p : List Pk} {d : Nat → Bool} {to f : Int} {k : Nat} (h : ¬ (to < f ∧ oth p.length d (fun j => decide (aOf p j < f)) = true)) (h2 : othGo d (sameFl p k) k 0 = false) : auRest p d to f k = 0 := by unfold auRest; rw [if_neg h, if_neg (by rw [h2]; simp)]
set_option maxHeartbeats 2000000 in
theorem sent_none (gs base : Nat) (A : Option Addr) (c : Nat) (p : List Pk) (per to : Int) (d : Nat → Bool) (x : Sn) (w : World) (B : Nat) (hp : RdP w B A p) (hr : BRow w base 4 gs p.length d) (hl : p.length ≤ 300) (hx : x.p < 0 ∨ (0 ≤ x.p ∧ (p.length : Int) ≤ x.p) ∨ (0 ≤ x.p ∧ x.p < p.length ∧ d x.p.toNat = true)) :
    Calls Tryd.prog 46 #[.slice A p.length c, .int .i64 per, .slice (some ⟨gs, 0, none⟩) p.length p.length, .int .i64 to, auVal x] w fun e w' => e = .returned (.int .i64 4) ∧ Below w.heap.size w w' := by
  have bx : Below w.heap.size w (w.alloc (.cells #[.int .i64 x.p, .int .i64 x.f, .int .i64 x.t] 44)) := (Below.refl _ _).alloc (Nat.le_refl _) _
  rcases hx with h1 | ⟨h1, h2⟩ | ⟨h1, h2, h3⟩
  · unfold auVal
    go_enter Tryd.func46, Tryd.ntmps46
    go_wp2_with fail
    go_ret
    exact ⟨rfl, bx⟩
  · have h3 : ¬ x.p < 0 := by omega
    unfold auVal
    go_enter Tryd.func46, Tryd.ntmps46
    go_wp2_with fail
    go_ret
    exact ⟨rfl, bx⟩
  · obtain ⟨k, hk⟩ : ∃ k : Nat, x.p = k := ⟨x.p.toNat, by omega⟩
    have hkl : k < p.length := by omega
    obtain ⟨xp, xf, xt⟩ := x
    simp only at *
    subst hk
    simp only [Int.toNat_natCast] at *
    have n1 : ¬ (k : Int) < 0 := by omega
    have n2 : ¬ (p.length : Int) ≤ (k : Int) := by omega
    have p1 : (0 : Int) ≤ (k : Int) := by omega
    have p2 : (k : Int) < (p.length : Int) := by omega
    have e0 : (w.alloc (.cells #[.int .i64 (k : Int), .int .i64 xf, .int .i64 xt] 44)).cell? ⟨gs, k, none⟩ = some (.bool true) := by
      rw [← h3]
      exact (bx.cell (p := ⟨gs, k, none⟩) (own_lt hr _ rfl)).trans (BRow.cell hr hkl)
    clear h3 hr
    unfold auVal
    go_enter Tryd.func46, Tryd.ntmps46
    go_wp2_with fail
    go_ret
    exact ⟨rfl, bx⟩
set_option maxHeartbeats 2000000 in
theorem sent_old (gs base : Nat) (A : Option Addr) (c : Nat) (p : List Pk) (per to : Int) (d : Nat → Bool) (x : Sn) (w : World) (B : Nat) (hp : RdP w B A p) (hr : BRow w base 4 gs p.length d) (hl : p.length ≤ 300) (h1 : 0 ≤ x.p) (h2 : x.p < p.length) (hd : d x.p.toNat = false) (hx : x.f < aOf p x.p.toNat ∨ (¬ x.f < aOf p x.p.toNat ∧ x.f < to)) :
    Calls Tryd.prog 46 #[.slice A p.length c, .int .i64 per, .slice (some ⟨gs, 0, none⟩) p.length p.length, .int .i64 to, auVal x] w fun e w' => e = .returned (.int .i64 5) ∧ Below w.heap.size w w' := by
  have bx : Below w.heap.size w (w.alloc (.cells #[.int .i64 x.p, .int .i64 x.f, .int .i64 x.t] 44)) := (Below.refl _ _).alloc (Nat.le_refl _) _
  obtain ⟨k, hk⟩ : ∃ k : Nat, x.p = k := ⟨x.p.toNat, by omega⟩
  have hkl : k < p.length := by omega
  obtain ⟨xp, xf, xt⟩ := x
  simp only at *
  subst hk
  simp only [Int.toNat_natCast] at *
  have n1 : ¬ (k : Int) < 0 := by omega
  have n2 : ¬ (p.length : Int) ≤ (k : Int) := by omega
  have p1 : (0 : Int) ≤ (k : Int) := by omega
  have p2 : (k : Int) < (p.length : Int) := by omega
  have HR := Lib.hid hr
  have e0 : (w.alloc (.cells #[.int .i64 (k : Int), .int .i64 xf, .int .i64 xt] 44)).cell? ⟨gs, k, none⟩ = some (.bool false) := by
    rw [← hd]
    exact (bx.cell (p := ⟨gs, k, none⟩) (own_lt hr _ rfl)).trans (BRow.cell hr hkl)
  obtain ⟨b, o, rfl, hb, d0, d1, d2⟩ := RdP.get hp hkl
  have c0 : (w.alloc (.cells #[.int .i64 (k : Int), .int .i64 xf, .int .i64 xt] 44)).cell? ⟨b, o + k * 3, none⟩ = some (.int .i64 p[k].f) := (bx.cell (p := ⟨b, o + k * 3, none⟩) (World.block_lt_of_cell? _ _ d0)).trans d0
  have c1 : (w.alloc (.cells #[.int .i64 (k : Int), .int .i64 xf, .int .i64 xt] 44)).cell? ⟨b, o + k * 3 + 1, none⟩ = some (.int .i64 p[k].s) := (bx.cell (p := ⟨b, o + k * 3 + 1, none⟩) (World.block_lt_of_cell? _ _ d1)).trans d1
  have c2 : (w.alloc (.cells #[.int .i64 (k : Int), .int .i64 xf, .int .i64 xt] 44)).cell? ⟨b, o + k * 3 + 2, none⟩ = some (.int .i64 p[k].a) := (bx.cell (p := ⟨b, o + k * 3 + 2, none⟩) (World.block_lt_of_cell? _ _ d2)).trans d2
  have bq := bx.alloc (by simp) (.cells #[.int .i64 p[k].f, .int .i64 p[k].s, .int .i64 p[k].a] 42)
  have Hd := Lib.hid hd
  clear hr hd
  rw [aOf_of hkl] at hx
  rcases hx with hx | ⟨hx, hx2⟩
  · unfold auVal
    go_enter Tryd.func46, Tryd.ntmps46
    go_wp2_with fail
    go_ret
    exact ⟨rfl, bq⟩
  · unfold auVal
    go_enter Tryd.func46, Tryd.ntmps46
    go_wp2_with fail
    go_ret
    exact ⟨rfl, bq⟩
set_option maxHeartbeats 2000000 in
theorem sent_shape (gs base : Nat) (A : Option Addr) (c : Nat) (p : List Pk) (per to : Int) (d : Nat → Bool) (x : Sn) (w : World) (B : Nat) (hp : RdP w B A p) (hr : BRow w base 4 gs p.length d) (hl : p.length ≤ 300) (h1 : 0 ≤ x.p) (h2 : x.p < p.length) (hd : d x.p.toNat = false) (hx : ¬ x.f < aOf p x.p.toNat) (hto : ¬ x.f < to) (hper : 1 ≤ per) (hper2 : per ≤ 1000) (hpk : ∀ y ∈ p, okPk y) (hxf : tame50 x.f) (hxt : tame50 x.t) (hsh : x.t ≠ x.f + per * sOf p x.p.toNat) :
    Calls Tryd.prog 46 #[.slice A p.length c, .int .i64 per, .slice (some ⟨gs, 0, none⟩) p.length p.length, .int .i64 to, auVal x] w fun e w' => e = .returned (.int .i64 3) ∧ Below w.heap.size w w' := by
  have bx : Below w.heap.size w (w.alloc (.cells #[.int .i64 x.p, .int .i64 x.f, .int .i64 x.t] 44)) := (Below.refl _ _).alloc (Nat.le_refl _) _
  obtain ⟨k, hk⟩ : ∃ k : Nat, x.p = k := ⟨x.p.toNat, by omega⟩
  have hkl : k < p.length := by omega
  obtain ⟨xp, xf, xt⟩ := x
  simp only at *
  subst hk
  simp only [Int.toNat_natCast] at *
  have n1 : ¬ (k : Int) < 0 := by omega
  have n2 : ¬ (p.length : Int) ≤ (k : Int) := by omega
  have p1 : (0 : Int) ≤ (k : Int) := by omega
  have p2 : (k : Int) < (p.length : Int) := by omega
  have HR := Lib.hid hr
  have e0 : (w.alloc (.cells #[.int .i64 (k : Int), .int .i64 xf, .int .i64 xt] 44)).cell? ⟨gs, k, none⟩ = some (.bool false) := by
    rw [← hd]
    exact (bx.cell (p := ⟨gs, k, none⟩) (own_lt hr _ rfl)).trans (BRow.cell hr hkl)
  obtain ⟨b, o, rfl, hb, d0, d1, d2⟩ := RdP.get hp hkl
  have c0 : (w.alloc (.cells #[.int .i64 (k : Int), .int .i64 xf, .int .i64 xt] 44)).cell? ⟨b, o + k * 3, none⟩ = some (.int .i64 p[k].f) := (bx.cell (p := ⟨b, o + k * 3, none⟩) (World.block_lt_of_cell? _ _ d0)).trans d0
  have c1 : (w.alloc (.cells #[.int .i64 (k : Int), .int .i64 xf, .int .i64 xt] 44)).cell? ⟨b, o + k * 3 + 1, none⟩ = some (.int .i64 p[k].s) := (bx.cell (p := ⟨b, o + k * 3 + 1, none⟩) (World.block_lt_of_cell? _ _ d1)).trans d1
  have c2 : (w.alloc (.cells #[.int .i64 (k : Int), .int .i64 xf, .int .i64 xt] 44)).cell? ⟨b, o + k * 3 + 2, none⟩ = some (.int .i64 p[k].a) := (bx.cell (p := ⟨b, o + k * 3 + 2, none⟩) (World.block_lt_of_cell? _ _ d2)).trans d2
  have bq := bx.alloc (by simp) (.cells #[.int .i64 p[k].f, .int .i64 p[k].s, .int .i64 p[k].a] 42)
  have Hd := Lib.hid hd
  clear hr hd
  rw [aOf_of hkl] at hx
  rw [sOf_of hkl] at hsh
  have hok := hpk _ (List.getElem_mem hkl)
  have m0 : 0 ≤ per * p[k].s := Int.mul_nonneg (by omega) (by have := hok.2.2.1; omega)
  have m1 : per * p[k].s ≤ 1500000 := by
    have := Int.mul_le_mul hper2 hok.2.2.2.1 (by have := hok.2.2.1; omega) (by omega : (0:Int) ≤ 1000)
    omega
  unfold tame50 at hxf hxt
  obtain ⟨xf1, xf2⟩ := hxf
  obtain ⟨xt1, xt2⟩ := hxt
  have y1 : -9223372036854775808 ≤ xt - xf := by omega
  have y2 : xt - xf ≤ 9223372036854775807 := by omega
  clear hok
  have hne : (xt - xf != per * p[k].s) = true := by simp; omega
  clear hsh
  unfold auVal
  go_enter Tryd.func46, Tryd.ntmps46
  go_wp2_with fail
  go_ret
  exact ⟨rfl, bq⟩
set_option maxHeartbeats 2000000 in
theorem sent_rest (gs base : Nat) (A : Option Addr) (c : Nat) (p : List Pk) (per to : Int) (d : Nat → Bool) (x : Sn) (w : World) (B : Nat) (hp : RdP w B A p) (hr : BRow w base 4 gs p.length d) (hl : p.length ≤ 300) (h1 : 0 ≤ x.p) (h2 : x.p < p.length) (hd : d x.p.toNat = false) (hx : ¬ x.f < aOf p x.p.toNat) (hto : ¬ x.f < to) (hper : 1 ≤ per) (hper2 : per ≤ 1000) (hpk : ∀ y ∈ p, okPk y) (hxf : tame50 x.f) (hxt : tame50 x.t) (hsh : x.t = x.f + per * sOf p x.p.toNat) :
    Calls Tryd.prog 46 #[.slice A p.length c, .int .i64 per, .slice (some ⟨gs, 0, none⟩) p.length p.length, .int .i64 to, auVal x] w fun e w' => e = .returned (.int .i64 ((auRest p d to x.f x.p.toNat : Nat) : Int)) ∧ Below w.heap.size w w' := by
  have bx : Below w.heap.size w (w.alloc (.cells #[.int .i64 x.p, .int .i64 x.f, .int .i64 x.t] 44)) := (Below.refl _ _).alloc (Nat.le_refl _) _
  obtain ⟨k, hk⟩ : ∃ k : Nat, x.p = k := ⟨x.p.toNat, by omega⟩
  have hkl : k < p.length := by omega
  obtain ⟨xp, xf, xt⟩ := x
  simp only at *
  subst hk
  simp only [Int.toNat_natCast] at *
  have n1 : ¬ (k : Int) < 0 := by omega
  have n2 : ¬ (p.length : Int) ≤ (k : Int) := by omega
  have p1 : (0 : Int) ≤ (k : Int) := by omega
  have p2 : (k : Int) < (p.length : Int) := by omega
  have HR := Lib.hid hr
  have e0 : (w.alloc (.cells #[.int .i64 (k : Int), .int .i64 xf, .int .i64 xt] 44)).cell? ⟨gs, k, none⟩ = some (.bool false) := by
    rw [← hd]
    exact (bx.cell (p := ⟨gs, k, none⟩) (own_lt hr _ rfl)).trans (BRow.cell hr hkl)
  obtain ⟨b, o, rfl, hb, d0, d1, d2⟩ := RdP.get hp hkl
  have c0 : (w.alloc (.cells #[.int .i64 (k : Int), .int .i64 xf, .int .i64 xt] 44)).cell? ⟨b, o + k * 3, none⟩ = some (.int .i64 p[k].f) := (bx.cell (p := ⟨b, o + k * 3, none⟩) (World.block_lt_of_cell? _ _ d0)).trans d0
  have c1 : (w.alloc (.cells #[.int .i64 (k : Int), .int .i64 xf, .int .i64 xt] 44)).cell? ⟨b, o + k * 3 + 1, none⟩ = some (.int .i64 p[k].s) := (bx.cell (p := ⟨b, o + k * 3 + 1, none⟩) (World.block_lt_of_cell? _ _ d1)).trans d1
  have c2 : (w.alloc (.cells #[.int .i64 (k : Int), .int .i64 xf, .int .i64 xt] 44)).cell? ⟨b, o + k * 3 + 2, none⟩ = some (.int .i64 p[k].a) := (bx.cell (p := ⟨b, o + k * 3 + 2, none⟩) (World.block_lt_of_cell? _ _ d2)).trans d2
  have bq := bx.alloc (by simp) (.cells #[.int .i64 p[k].f, .int .i64 p[k].s, .int .i64 p[k].a] 42)
  have Hd := Lib.hid hd
  clear hr hd
  rw [aOf_of hkl] at hx
  rw [sOf_of hkl] at hsh
  have hok := hpk _ (List.getElem_mem hkl)
  have m0 : 0 ≤ per * p[k].s := Int.mul_nonneg (by omega) (by have := hok.2.2.1; omega)
  have m1 : per * p[k].s ≤ 1500000 := by
    have := Int.mul_le_mul hper2 hok.2.2.2.1 (by have := hok.2.2.1; omega) (by omega : (0:Int) ≤ 1000)
    omega
  unfold tame50 at hxf hxt
  obtain ⟨xf1, xf2⟩ := hxf
  obtain ⟨xt1, xt2⟩ := hxt
  have y1 : -9223372036854775808 ≤ xt - xf := by omega
  have y2 : xt - xf ≤ 9223372036854775807 := by omega
  clear hok
  have hne : (xt - xf != per * p[k].s) = false := by simp; omega
  obtain ⟨V, hV⟩ : ∃ V : World, V = (w.alloc (.cells #[.int .i64 (k : Int), .int .i64 xf, .int .i64 xt] 44)).alloc (.cells #[.int .i64 p[k].f, .int .i64 p[k].s, .int .i64 p[k].a] 42) := ⟨_, rfl⟩
  rw [← hV] at bq
  have v1 : V.cell? ⟨w.heap.size, 1, none⟩ = some (.int .i64 xf) := by
    rw [hV]
    exact ((Blk.new w 44 #[.int .i64 (k : Int), .int .i64 xf, .int .i64 xt]).alloc _).cell 1
  have v0 : V.cell? ⟨w.heap.size, 0, none⟩ = some (.int .i64 (k : Int)) := by
    rw [hV]
    exact ((Blk.new w 44 #[.int .i64 (k : Int), .int .i64 xf, .int .i64 xt]).alloc _).cell 0
  have v2 : V.cell? ⟨w.heap.size + 1, 0, none⟩ = some (.int .i64 p[k].f) := by
    rw [hV]
    exact Blk.cell (heap_alloc_new2 w _ (.cells #[.int .i64 p[k].f, .int .i64 p[k].s, .int .i64 p[k].a] 42)) 0
  have vp : RdP V B (some ⟨b, o, none⟩) p := fun h0 => by
    obtain ⟨b', o', e', hb', hf'⟩ := hp h0
    exact ⟨b', o', e', hb', fun i y hi j u hu => by
      have := hf' i y hi j u hu
      exact (bq.cell (p := ⟨b', o' + i * 3 + j, none⟩) (World.block_lt_of_cell? _ _ this)).trans this⟩
  have vr : BRow V base 4 gs p.length d := own_same HR.out fun y hy => bq.block y (own_lt HR.out y hy)
  have VP := Lib.hid vp
  have VR := Lib.hid vr
  have HV := Lib.hid hV
  have Hsh := Lib.hid hsh
  clear hsh hV vp vr hp hpk
  unfold auVal
  go_enter Tryd.func46, Tryd.ntmps46
  go_wp2_with fail
  rw [← HV.out]
  go_loopw [12] (fun iv wr => ∃ i m : Nat, i ≤ p.length ∧ iv = .int .i64 i ∧ (decide (to < xf) && oth p.length d (fun j => decide (aOf p j < xf))) = (decide (to < xf) && othGo d (fun j => decide (aOf p j < xf)) (p.length - i) i) ∧ wr = V.drewN m) (fun iv _ => p.length - (intOf iv).toNat)
  case atStart => exact ⟨0, 0, Nat.zero_le _, rfl, rfl, rfl⟩
  case round =>
    obtain ⟨i, m, hi, rfl, ho, rfl⟩ := hrel
    by_cases hlt : i < p.length
    · rw [othGo_step hlt] at ho
      have q1 : (0 : Int) ≤ (i : Int) := by omega
      have q2 : (i : Int) < (p.length : Int) := by omega
      have f1 : V.cell? ⟨gs, i, none⟩ = some (.bool (d i)) := BRow.cell VR.out hlt
      obtain ⟨b', o', e', _, g0, g1, g2⟩ := RdP.get VP.out hlt
      simp only [Option.some.injEq, Addr.mk.injEq, and_true] at e'
      obtain ⟨rfl, rfl⟩ := e'
      have ha := aOf_of hlt
      cases hdi : d i
      · rw [hdi] at f1 ho
        by_cases hto2 : to < xf
        · by_cases hai : p[i].a < xf
          · have Hr := Lib.hid (show to < xf ∧ oth p.length d (fun j => decide (aOf p j < xf)) = true from ⟨hto2, by rw [decide_eq_true hto2, ha, decide_eq_true hai] at ho; simpa using ho⟩)
            clear ho ha hdi
            go_wp2_with fail
            go_quiet (fail)
            rename Nat => nq
            go_wp2_with fail
            go_ret
            rw [auRest7 Hr.out]
            exact ⟨rfl, by first | exact below_drewN (below_drewN bq _) _ | exact below_drewN bq _⟩
          · have Ho := Lib.hid (show (decide (to < xf) && oth p.length d (fun j => decide (aOf p j < xf))) = (decide (to < xf) && othGo d (fun j => decide (aOf p j < xf)) (p.length - (i + 1)) (i + 1)) by rw [ho, ha, decide_eq_false hai]; simp)
            clear ho ha hdi
            go_wp2_with fail
            go_quiet (fail)
            rename Nat => nq
            go_wp2_with fail
            go_roundw
            case rel => exact ⟨i + 1, m + nq, hlt, by go_num, Ho.out, by first | rfl | exact World.drewN_drewN _ _ _⟩
            case measure => simp [intOf]; omega
        · have Ho := Lib.hid (show (decide (to < xf) && oth p.length d (fun j => decide (aOf p j < xf))) = (decide (to < xf) && othGo d (fun j => decide (aOf p j < xf)) (p.length - (i + 1)) (i + 1)) by rw [decide_eq_false hto2]; rfl)
          have hg0 : decide (to < xf) = false := decide_eq_false hto2
          clear ho ha hdi
          go_wp2_with fail
          go_quiet (fail)
          rename Nat => nq
          go_wp2_with fail
          go_roundw
          case rel => exact ⟨i + 1, m + nq, hlt, by go_num, Ho.out, by first | rfl | exact World.drewN_drewN _ _ _⟩
          case measure => simp [intOf]; omega
      · rw [hdi] at f1 ho
        have Ho := Lib.hid (show (decide (to < xf) && oth p.length d (fun j => decide (aOf p j < xf))) = (decide (to < xf) && othGo d (fun j => decide (aOf p j < xf)) (p.length - (i + 1)) (i + 1)) by rw [ho]; simp)
        clear ho ha hdi
        go_wp2_with fail
        go_quiet (fail)
        rename Nat => nq
        go_wp2_with fail
        go_roundw
        case rel => exact ⟨i + 1, m + nq, hlt, by go_num, Ho.out, by first | rfl | exact World.drewN_drewN _ _ _⟩
        case measure => simp [intOf]; omega
    · rw [othGo_end (by omega), Bool.and_false] at ho
      have Hr := Lib.hid (show ¬ (to < xf ∧ oth p.length d (fun j => decide (aOf p j < xf)) = true) from fun h => by rw [decide_eq_true h.1, h.2] at ho; simp at ho)
      clear ho
      go_wp2_with fail
      go_loopw [13] (fun iv wr => ∃ i m : Nat, i ≤ k ∧ iv = .int .i64 i ∧ othGo d (sameFl p k) k 0 = othGo d (sameFl p k) (k - i) i ∧ wr = V.drewN m) (fun iv _ => k - (intOf iv).toNat)
      case atStart => exact ⟨0, m, Nat.zero_le _, rfl, rfl, rfl⟩
      case round =>
        obtain ⟨i2, m2, hi2, rfl, ho, rfl⟩ := hrel
        by_cases hlt2 : i2 < k
        · rw [othGo_step hlt2] at ho
          have hlp : i2 < p.length := by omega
          have q1 : (0 : Int) ≤ (i2 : Int) := by omega
          have q2 : (i2 : Int) < (p.length : Int) := by omega
          have q3 : (i2 : Int) < (k : Int) := by omega
          have f1 : V.cell? ⟨gs, i2, none⟩ = some (.bool (d i2)) := BRow.cell VR.out hlp
          obtain ⟨b', o', e', _, g0, g1, g2⟩ := RdP.get VP.out hlp
          simp only [Option.some.injEq, Addr.mk.injEq, and_true] at e'
          obtain ⟨rfl, rfl⟩ := e'
          have hs : sameFl p k i2 = decide (p[i2].f = p[k].f) := by unfold sameFl; rw [fOf_of hlp, fOf_of hkl]
          cases hdi : d i2
          · rw [hdi] at f1 ho
            by_cases hfl : p[i2].f = p[k].f
            · have Ho := Lib.hid (show othGo d (sameFl p k) k 0 = true by rw [ho, hs, decide_eq_true hfl]; simp)
              have hfb : (p[i2].f == p[k].f) = true := by simp [hfl]
              clear ho hs hdi hfl
              go_wp2_with fail
              go_quiet (fail)
              rename Nat => nq
              go_wp2_with fail
              go_ret
              rw [auRest8 Hr.out Ho.out]
              exact ⟨rfl, by first | exact below_drewN (below_drewN bq _) _ | exact below_drewN bq _⟩
            · have Ho := Lib.hid (show othGo d (sameFl p k) k 0 = othGo d (sameFl p k) (k - (i2 + 1)) (i2 + 1) by rw [ho, hs, decide_eq_false hfl]; simp)
              have hfb : (p[i2].f == p[k].f) = false := by simp [hfl]
              clear ho hs hdi hfl
              go_wp2_with fail
              go_quiet (fail)
              rename Nat => nq
              go_wp2_with fail
              go_roundw
              case rel => exact ⟨i2 + 1, m2 + nq, hlt2, by go_num, Ho.out, by first | rfl | exact World.drewN_drewN _ _ _⟩
              case measure => simp [intOf]; omega
          · rw [hdi] at f1 ho
            have Ho := Lib.hid (show othGo d (sameFl p k) k 0 = othGo d (sameFl p k) (k - (i2 + 1)) (i2 + 1) by rw [ho]; simp)
            clear ho hs hdi
            go_wp2_with fail
            go_quiet (fail)
            rename Nat => nq
            go_wp2_with fail
            go_roundw
            case rel => exact ⟨i2 + 1, m2 + nq, hlt2, by go_num, Ho.out, by first | rfl | exact World.drewN_drewN _ _ _⟩
            case measure => simp [intOf]; omega
        · rw [othGo_end (by omega)] at ho
          have Ho := Lib.hid ho
          have q3 : ¬ (i2 : Int) < (k : Int) := by omega
          clear ho
          go_wp2_with fail
          go_ret
          rw [auRest0 Hr.out Ho.out]
          exact ⟨rfl, by first | exact below_drewN (below_drewN bq _) _ | exact below_drewN bq _⟩
theorem auErr_rest {p : List Pk} {per : Int} {d : Nat → Bool} {to : Int} {x : Sn} (h1 : ¬ (x.p < 0 ∨ (p.length : Int) ≤ x.p ∨ d x.p.toNat = true)) (h2 : ¬ (x.f < aOf p x.p.toNat ∨ x.f < to)) (h3 : ¬ x.t ≠ x.f + per * sOf p x.p.toNat) : auErr p per d to x = auRest p d to x.f x.p.toNat := by
  have hk : x.p.toNat ≤ p.length := by omega
  unfold auErr auRest
  rw [if_neg h1, if_neg h2, if_neg h3]
  simp only [oth_lt hk]
theorem sent_any (gs base : Nat) (A : Option Addr) (c : Nat) (p : List Pk) (per to : Int) (d : Nat → Bool) (x : Sn) (w : World) (B : Nat) (hp : RdP w B A p) (hr : BRow w base 4 gs p.length d) (hl : p.length ≤ 300) (hper : 1 ≤ per) (hper2 : per ≤ 1000) (hpk : ∀ y ∈ p, okPk y) (hxf : tame50 x.f) (hxt : tame50 x.t) :
    Calls Tryd.prog 46 #[.slice A p.length c, .int .i64 per, .slice (some ⟨gs, 0, none⟩) p.length p.length, .int .i64 to, auVal x] w fun e w' => e = .returned (.int .i64 ((auErr p per d to x : Nat) : Int)) ∧ Below w.heap.size w w' := by
  by_cases c1 : x.p < 0 ∨ (p.length : Int) ≤ x.p ∨ d x.p.toNat = true
  · rw [show auErr p per d to x = 4 from if_pos c1]
    refine sent_none gs base A c p per to d x w B hp hr hl ?_
    by_cases h1 : x.p < 0
    · exact .inl h1
    · by_cases h2 : (p.length : Int) ≤ x.p
      · exact .inr (.inl ⟨by omega, h2⟩)
      · exact .inr (.inr ⟨by omega, by omega, by rcases c1 with h | h | h; exact absurd h h1; exact absurd h h2; exact h⟩)
  · obtain ⟨h1, h2, hd⟩ := auErr_no (per := per) (to := to) c1
    by_cases c2 : x.f < aOf p x.p.toNat ∨ x.f < to
    · rw [show auErr p per d to x = 5 by unfold auErr; rw [if_neg c1, if_pos c2]]
      refine sent_old gs base A c p per to d x w B hp hr hl h1 h2 hd ?_
      by_cases h3 : x.f < aOf p x.p.toNat
      · exact .inl h3
      · exact .inr ⟨h3, by rcases c2 with h | h; exact absurd h h3; exact h⟩
    · have hx : ¬ x.f < aOf p x.p.toNat := fun h => c2 (.inl h)
      have hto : ¬ x.f < to := fun h => c2 (.inr h)
      by_cases c3 : x.t ≠ x.f + per * sOf p x.p.toNat
      · rw [show auErr p per d to x = 3 by unfold auErr; rw [if_neg c1, if_neg c2, if_pos c3]]
        exact sent_shape gs base A c p per to d x w B hp hr hl h1 h2 hd hx hto hper hper2 hpk hxf hxt c3
      · rw [auErr_rest c1 c2 c3]
        exact sent_rest gs base A c p per to d x w B hp hr hl h1 h2 hd hx hto hper hper2 hpk hxf hxt (by omega)
end Go.Proofs.YthgpbdlmadjndaaDoor
namespace Go.Proofs.YthgpbdlmadjndaaDoor
open Go.RowKit
set_option maxRecDepth 100000
def byIn (p : List Pk) (f : Int) (lo hi : Int) (x : Sn) : Bool := decide (fOf p x.p.toNat = f ∧ lo < x.t ∧ x.t ≤ hi)
def byGo (p : List Pk) (f lo hi : Int) : Int → List Sn → Int
  | n, [] => n
  | n, x :: r => byGo p f lo hi (if byIn p f lo hi x = true then n + sOf p x.p.toNat else n) r
def byErr (p : List Pk) (l : List Sn) (f : Int) : Nat × Int := if (pktErr p).1 ≠ 0 then pktErr p else if (delErr p.length l).1 ≠ 0 then delErr p.length l else if f < 0 ∨ 8 ≤ f then (2, -1) else (0, -1)
def byV (p : List Pk) (l : List Sn) (f lo hi : Int) : Int := if (byErr p l f).1 = 0 then byGo p f lo hi 0 l else 0
set_option maxHeartbeats 4000000 in
theorem bytes_ok (A A' : Option Addr) (c c' : Nat) (p : List Pk) (l : List Sn) (f lo hi : Int) (S : Nat → Addr) (w : World) (B : Nat) (hB : B ≤ w.heap.size) (h : RdP w B A p) (h' : RdS w B A' l) (hS : Snt w B S [2, 3, 4, 5, 7, 8]) (hl : p.length ≤ 9223372036854775807) (hl' : l.length ≤ 1000)
    (ht : ∀ x ∈ l, tame50 x.t) (h1 : (pktErr p).1 = 0) (h3 : (delErr p.length l).1 = 0) (hf0 : ¬ f < 0) (hf8 : ¬ 8 ≤ f) :
    Calls Tryd.prog 23 #[.slice A p.length c, .slice A' l.length c', .int .i64 f, .int .i64 lo, .int .i64 hi] w (EndVEr (.int .i64 (byGo p f lo hi 0 l)) S 0 (-1) w) := by
  have hpk := pktErr_okPk h1
  have Hc := Lib.hid (pktErr_nil h1)
  have hta : ∀ x ∈ p, tame50 x.a := fun x hx => by
    have := (hpk x hx).2.2.2.2
    unfold tame50
    omega
  obtain ⟨hbad, hd0⟩ := delErr_ok h3
  have hsp : ∀ y ∈ l, 0 ≤ y.p ∧ y.p.toNat < p.length := fun y hy => by
    have := sentBad_ok hbad y hy
    omega
  have Hd := Lib.hid hd0
  clear h1 h3 hbad hd0
  go_enter Tryd.func23, Tryd.ntmps23
  go_wp2_with fail
  refine (pcheck_any A c p S _ B hB h (hS.sub (by simp)) hl).mono ?_
  rintro e w1 ⟨v, rfl, hv, k1⟩
  obtain rfl := hv.nil_of (by rw [Hc.out])
  have z1 := k1.size
  go_wp2_with fail
  refine (delays_any A A' c c' p l S w1 B (by omega) (h.below (k1.mono hB)) (h'.below (k1.mono hB)) ((hS.below (k1.mono hB)).sub (by simp)) hl (by omega) ht hta).mono ?_
  rintro e w2 ⟨A3, c3, v, rfl, o3, hv, k2⟩
  obtain rfl := hv.nil_of (by rw [Hd.out])
  have k2' := k1.trans (k2.mono z1)
  have z2 := k2'.size
  clear o3 hv
  go_wp2_with fail
  go_loopw [15, 42] (fun nv iv wr => ∃ (k : Nat) (n : Int), k ≤ l.length ∧ iv = .int .i64 k ∧ nv = .int .i64 n ∧ byGo p f lo hi 0 l = byGo p f lo hi n (l.drop k) ∧ 0 ≤ n ∧ n ≤ 1500 * (k : Int) ∧ Below w2.heap.size w2 wr) (fun _ iv _ => l.length - (intOf iv).toNat)
  case atStart => exact ⟨0, 0, Nat.zero_le _, rfl, rfl, rfl, Int.le_refl _, by omega, Below.refl _ _⟩
  case round =>
    obtain ⟨k, n, hk, rfl, rfl, hby, n0, n1, hbw⟩ := hrel
    have zw := hbw.size
    have kw := k2'.trans (hbw.mono z2)
    by_cases hlt : k < l.length
    · obtain ⟨q, o, rfl, hqq, d0, d1, d2⟩ := RdS.get (h'.below (kw.mono hB)) hlt
      have hsk := hsp _ (List.getElem_mem hlt)
      obtain ⟨m, hn⟩ : ∃ m : Nat, l[k].p = m := ⟨l[k].p.toNat, by omega⟩
      have hnl : m < p.length := by omega
      obtain ⟨b1, o1, rfl, hb1, f0, f1, f2⟩ := RdP.get (h.below (kw.mono hB)) hnl
      have hok := hpk _ (List.getElem_mem hnl)
      obtain ⟨z, hz⟩ : ∃ z, z = p[m].s := ⟨_, rfl⟩
      obtain ⟨g, hg⟩ : ∃ g, g = p[m].f := ⟨_, rfl⟩
      obtain ⟨pa, hpa⟩ : ∃ pa, pa = p[m].a := ⟨_, rfl⟩
      have hz1 : 1 ≤ z := by rw [hz]; exact hok.2.2.1
      have hz2 : z ≤ 1500 := by rw [hz]; exact hok.2.2.2.1
      have hfl : fOf p l[k].p.toNat = g := by rw [hn, Int.toNat_natCast, fOf_of hnl, hg]
      have hsz : sOf p l[k].p.toNat = z := by rw [hn, Int.toNat_natCast, sOf_of hnl, hz]
      rw [List.drop_eq_getElem_cons hlt] at hby
      obtain ⟨x, hx⟩ : ∃ x : Sn, x = l[k] := ⟨_, rfl⟩
      rw [hn] at d0
      rw [← hx] at d1 d2 hfl hsz hby
      rw [← hg] at f0
      rw [← hz] at f1
      rw [← hpa] at f2
      have bx := (Below.refl wr.heap.size wr).alloc (Nat.le_refl _) (.cells #[.int .i64 (m : Int), .int .i64 x.f, .int .i64 x.t] 44)
      have old : ∀ (a : Addr) (u : Value), wr.cell? a = some u → (wr.alloc (.cells #[.int .i64 (m : Int), .int .i64 x.f, .int .i64 x.t] 44)).cell? a = some u := fun a u ha => (bx.cell (p := a) (World.block_lt_of_cell? _ _ ha)).trans ha
      have u0 := old _ _ f0
      have u1 := old _ _ f1
      have u2 := old _ _ f2
      have bq := bx.alloc (by simp) (.cells #[.int .i64 g, .int .i64 z, .int .i64 pa] 42)
      have kq := hbw.trans (bq.mono zw)
      have p1 : (0 : Int) ≤ (k : Int) := by omega
      have p2 : (k : Int) < (l.length : Int) := by omega
      have p3 : (0 : Int) ≤ (m : Int) := by omega
      have p4 : (m : Int) < (p.length : Int) := by omega
      have s1 : -9223372036854775808 ≤ n + z := by omega
      have s2 : n + z ≤ 9223372036854775807 := by omega
      clear hn hok hg hz hpa hx hsk f0 f1 f2 old bx bq
      by_cases hgf : g = f
      · have j1 : (g == f) = true := by simp [hgf]
        by_cases hlo : lo < x.t
        · by_cases hhi : x.t ≤ hi
          · have Hby := Lib.hid (show byGo p f lo hi 0 l = byGo p f lo hi (n + z) (l.drop (k + 1)) by rw [hby]; show byGo p f lo hi (if byIn p f lo hi x = true then n + sOf p x.p.toNat else n) _ = _; rw [if_pos (by unfold byIn; rw [hfl]; exact decide_eq_true ⟨hgf, hlo, hhi⟩), hsz])
            clear hby hfl hsz hgf
            go_wp2_with fail
            go_roundw
            case rel => exact ⟨k + 1, n + z, hlt, by go_num, rfl, Hby.out, by omega, by omega, kq⟩
            case measure => simp [intOf]; omega
          · have Hby := Lib.hid (show byGo p f lo hi 0 l = byGo p f lo hi n (l.drop (k + 1)) by rw [hby]; show byGo p f lo hi (if byIn p f lo hi x = true then n + sOf p x.p.toNat else n) _ = _; rw [if_neg (by unfold byIn; simp; intro _ _; omega)])
            clear hby hfl hsz hgf
            go_wp2_with fail
            go_roundw
            case rel => exact ⟨k + 1, n, hlt, by go_num, rfl, Hby.out, n0, by omega, kq⟩
            case measure => simp [intOf]; omega
        · have Hby := Lib.hid (show byGo p f lo hi 0 l = byGo p f lo hi n (l.drop (k + 1)) by rw [hby]; show byGo p f lo hi (if byIn p f lo hi x = true then n + sOf p x.p.toNat else n) _ = _; rw [if_neg (by unfold byIn; simp; intro _ h9; omega)])
          clear hby hfl hsz hgf
          go_wp2_with fail
          go_roundw
          case rel => exact ⟨k + 1, n, hlt, by go_num, rfl, Hby.out, n0, by omega, kq⟩
          case measure => simp [intOf]; omega
      · have j1 : (g == f) = false := by simp [hgf]
        have Hby := Lib.hid (show byGo p f lo hi 0 l = byGo p f lo hi n (l.drop (k + 1)) by rw [hby]; show byGo p f lo hi (if byIn p f lo hi x = true then n + sOf p x.p.toNat else n) _ = _; rw [if_neg (by unfold byIn; rw [hfl]; simp [hgf])])
        clear hby hfl hsz hgf
        go_wp2_with fail
        go_roundw
        case rel => exact ⟨k + 1, n, hlt, by go_num, rfl, Hby.out, n0, by omega, kq⟩
        case measure => simp [intOf]; omega
    · rw [List.drop_eq_nil_of_le (by omega)] at hby
      have Hby := Lib.hid (show byGo p f lo hi 0 l = n from hby)
      clear hby
      go_wp2_with fail
      go_ret2
      rw [Hby.out]
      exact ⟨.nilIface, rfl, .nil, kw⟩
set_option maxHeartbeats 2000000 in
theorem bytes_any (A A' : Option Addr) (c c' : Nat) (p : List Pk) (l : List Sn) (f lo hi : Int) (S : Nat → Addr) (w : World) (B : Nat) (hB : B ≤ w.heap.size) (h : RdP w B A p) (h' : RdS w B A' l) (hS : Snt w B S [2, 3, 4, 5, 7, 8]) (hl : p.length ≤ 9223372036854775807) (hl' : l.length ≤ 1000)
    (ht : ∀ x ∈ l, tame50 x.t) :
    Calls Tryd.prog 23 #[.slice A p.length c, .slice A' l.length c', .int .i64 f, .int .i64 lo, .int .i64 hi] w (EndVEr (.int .i64 (byV p l f lo hi)) S (byErr p l f).1 (byErr p l f).2 w) := by
  by_cases h1 : (pktErr p).1 = 0
  · have hpk := pktErr_okPk h1
    have hta : ∀ x ∈ p, tame50 x.a := fun x hx => by
      have := (hpk x hx).2.2.2.2
      unfold tame50
      omega
    have Hc := Lib.hid (pktErr_nil h1)
    by_cases h3 : (delErr p.length l).1 = 0
    · by_cases hf : f < 0 ∨ 8 ≤ f
      · have He := Lib.hid (show byErr p l f = (2, -1) by unfold byErr; rw [if_neg (by omega), if_neg (by omega), if_pos hf])
        have Hv := Lib.hid (show byV p l f lo hi = 0 by unfold byV; rw [He.out]; rfl)
        have Hd := Lib.hid (delErr_ok h3).2
        have hf4 : f < 0 ∨ (¬ f < 0 ∧ 8 ≤ f) := by omega
        clear h1 h3 hf
        rcases hf4 with hf1 | ⟨hf1, hf2⟩
        all_goals
          go_enter Tryd.func23, Tryd.ntmps23
          go_wp2_with fail
          refine (pcheck_any A c p S _ B hB h (hS.sub (by simp)) hl).mono ?_
          rintro e w1 ⟨v, rfl, hv, k1⟩
          obtain rfl := hv.nil_of (by rw [Hc.out])
          have z1 := k1.size
          go_wp2_with fail
          refine (delays_any A A' c c' p l S w1 B (by omega) (h.below (k1.mono hB)) (h'.below (k1.mono hB)) ((hS.below (k1.mono hB)).sub (by simp)) hl (by omega) ht hta).mono ?_
          rintro e w2 ⟨A3, c3, v, rfl, o3, hv, k2⟩
          obtain rfl := hv.nil_of (by rw [Hd.out])
          have k2' := k1.trans (k2.mono z1)
          have gE : w2.cell? ⟨G 2, 0, none⟩ = some (sv S 2) := ((hS.below (k2'.mono hB)) 2 (by simp)).2.2
          simp only [G, sv] at gE
          clear o3 hv
          go_wp2_with fail
          go_quiet (fail)
          rename Nat => nq
          go_wp2_with fail
          go_ret2
          rw [Hv.out, He.out]
          exact ⟨_, rfl, .bare 2 (by omega) (by omega), below_drewN k2' nq⟩
      · have e1 : byErr p l f = (0, -1) := by unfold byErr; rw [if_neg (by omega), if_neg (by omega), if_neg hf]
        have e2 : byV p l f lo hi = byGo p f lo hi 0 l := by unfold byV; rw [e1]; rfl
        rw [e1, e2]
        exact bytes_ok A A' c c' p l f lo hi S w B hB h h' hS hl hl' ht h1 h3 (by omega) (by omega)
    · have He := Lib.hid (show byErr p l f = delErr p.length l by unfold byErr; rw [if_neg (by omega), if_pos h3])
      have Hv := Lib.hid (show byV p l f lo hi = 0 by unfold byV; rw [He.out, if_neg h3])
      have Hd := Lib.hid h3
      clear h1 h3
      go_enter Tryd.func23, Tryd.ntmps23
      go_wp2_with fail
      refine (pcheck_any A c p S _ B hB h (hS.sub (by simp)) hl).mono ?_
      rintro e w1 ⟨v, rfl, hv, k1⟩
      obtain rfl := hv.nil_of (by rw [Hc.out])
      have z1 := k1.size
      go_wp2_with fail
      refine (delays_any A A' c c' p l S w1 B (by omega) (h.below (k1.mono hB)) (h'.below (k1.mono hB)) ((hS.below (k1.mono hB)).sub (by simp)) hl (by omega) ht hta).mono ?_
      rintro e w2 ⟨A3, c3, v, rfl, o3, hv, k2⟩
      obtain ⟨T, a, rfl⟩ := hv.some_of Hd.out
      go_wp2_with fail
      go_ret2
      rw [Hv.out, He.out]
      exact ⟨_, rfl, hv, k1.trans (k2.mono z1)⟩
  · have He := Lib.hid (show byErr p l f = pktErr p by unfold byErr; rw [if_pos h1])
    have Hv := Lib.hid (show byV p l f lo hi = 0 by unfold byV; rw [He.out, if_neg h1])
    have Hn := Lib.hid h1
    clear h1
    go_enter Tryd.func23, Tryd.ntmps23
    go_wp2_with fail
    refine (pcheck_any A c p S _ B hB h (hS.sub (by simp)) hl).mono ?_
    rintro e w1 ⟨v, rfl, hv, k1⟩
    obtain ⟨T, a, rfl⟩ := hv.some_of Hn.out
    go_wp2_with fail
    go_ret2
    rw [Hv.out, He.out]
    exact ⟨_, rfl, hv, k1⟩
end Go.Proofs.YthgpbdlmadjndaaDoor
