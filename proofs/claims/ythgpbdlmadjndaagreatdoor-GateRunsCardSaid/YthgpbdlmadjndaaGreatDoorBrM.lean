/- The document's bucket: HasAt, Take, When compute what the bucket's plain functions say. Conditions written at each. The document's buckets in a row of pointers of the call's own. Conditions written at each. The document's ShapeOf computes what Shape does. Conditions: right packets, a right curve. -/
import Derived.Test.YthgpbdlmadjndaaGreatDoorBkM
import Derived.Test.YthgpbdlmadjndaaGreatDoorShB
namespace Go.Proofs.YthgpbdlmadjndaaGreatDoor
open Go.RowKit
set_option maxRecDepth 100000
def Bu.rc (s : Bu) : Array Value := #[.int .i64 s.b, .int .i64 s.r, .int .i64 s.has, .int .i64 s.at_, .int .i64 s.last]
theorem ceil_div {l r : Int} (hr : 0 < r) : (l + r - 1) / r = if l / r * r < l then l / r + 1 else l / r := by
  have h1 := Int.emod_add_mul_ediv l r
  have h2 := Int.emod_nonneg l (by omega : r ≠ 0)
  have h3 := Int.emod_lt_of_pos l hr
  obtain ⟨d, hd⟩ : ∃ d, d = l / r := ⟨_, rfl⟩
  rw [← hd] at h1 ⊢
  have hm : d * r = r * d := Int.mul_comm _ _
  split
  · rename_i h
    refine Int.le_antisymm ?_ ?_
    · refine Int.le_of_lt_add_one (Int.ediv_lt_of_lt_mul hr ?_)
      have : (d + 1 + 1) * r = d * r + r + r := by rw [Int.add_mul, Int.add_mul]; omega
      omega
    · refine Int.le_ediv_of_mul_le hr ?_
      have : (d + 1) * r = d * r + r := by rw [Int.add_mul]; omega
      omega
  · rename_i h
    refine Int.le_antisymm ?_ ?_
    · refine Int.le_of_lt_add_one (Int.ediv_lt_of_lt_mul hr ?_)
      have : (d + 1) * r = d * r + r := by rw [Int.add_mul]; omega
      omega
    · refine Int.le_ediv_of_mul_le hr ?_
      omega
theorem hasAt_any (g : Nat) (s : Bu) (t : Int) (w : World) (h : Blk w g 122 s.rc) (hs : BuOk s) (ht : s.at_ ≤ t) (ht2 : t ≤ 1099511627776) :
    Calls Tryz.prog 104 #[.pointer (some ⟨g, 0, none⟩), .int .i64 t] w fun e w' => e = .returned (.int .i64 (holdsB s t)) ∧ ∃ m, w' = w.drewN m := by
  obtain ⟨b, r, a, hh, la⟩ := s
  have c0 : w.cell? ⟨g, 0, none⟩ = some (.int .i64 b) := h.cell 0
  have c1 : w.cell? ⟨g, 1, none⟩ = some (.int .i64 r) := h.cell 1
  have c2 : w.cell? ⟨g, 2, none⟩ = some (.int .i64 hh) := h.cell 2
  have c3 : w.cell? ⟨g, 3, none⟩ = some (.int .i64 a) := h.cell 3
  have hsl := holds_slack hs ht
  obtain ⟨b1, b2, r1, r2, h1, h2, a1, a2, l2⟩ := hs
  simp only at b1 b2 r1 r2 h1 h2 a1 a2 l2 hsl ht
  clear h
  by_cases hr : r = 0
  · subst hr
    have Hv := Lib.hid (show holdsB ⟨b, 0, a, hh, la⟩ t = hh from (if_neg (fun h9 => by have := h9.1; simp at this)).trans (by simp))
    clear hsl
    go_enter Tryz.func104, Tryz.ntmps104
    go_wp2_with fail
    go_ret
    exact ⟨by rw [Hv.out]; rfl, 0, rfl⟩
  · have e1 : (r == 0) = false := beq_eq_false_iff_ne.2 hr
    have hr0 : 0 < r := by omega
    have q0 : 0 ≤ (1000 * b - hh) / r := Int.ediv_nonneg (by omega) (by omega)
    have q1 : (1000 * b - hh) / r ≤ 1000 * b - hh := Int.ediv_le_self _ (by omega)
    by_cases hf : hh = 1000 * b
    · have e2 : (hh == 1000 * b) = true := beq_iff_eq.2 hf
      have Hv := Lib.hid (show holdsB ⟨b, r, a, hh, la⟩ t = hh by
        unfold holdsB
        simp only
        by_cases h9 : 0 < r ∧ (1000 * b - hh) / r < t - a
        · rw [if_pos h9, hf]
        · have hz := hsl h9
          rw [if_neg h9]
          omega)
      clear hsl hf hr
      go_enter Tryz.func104, Tryz.ntmps104
      go_wp2_with fail
      go_ret
      exact ⟨by rw [Hv.out]; rfl, 0, rfl⟩
    · have e2 : (hh == 1000 * b) = false := beq_eq_false_iff_ne.2 hf
      by_cases hc : (1000 * b - hh) / r < t - a
      · have Hv := Lib.hid (show holdsB ⟨b, r, a, hh, la⟩ t = 1000 * b from if_pos ⟨hr0, hc⟩)
        clear hsl hf
        go_enter Tryz.func104, Tryz.ntmps104
        go_wp2_with fail
        go_ret
        exact ⟨ret_int Hv.out.symm, 0, rfl⟩
      · have Hv := Lib.hid (show holdsB ⟨b, r, a, hh, la⟩ t = hh + r * (t - a) from if_neg (fun h9 => hc h9.2))
        obtain ⟨m1, m2⟩ := hsl (fun h9 => hc h9.2)
        rw [Int.mul_comm] at m1 m2
        have hc2 : t - a ≤ (1000 * b - hh) / r := by omega
        clear hsl hc hf hr
        go_enter Tryz.func104, Tryz.ntmps104
        go_wp2_with fail
        go_quiet (fail)
        go_wp2_with fail
        go_ret
        exact ⟨ret_int (by rw [Hv.out, Int.mul_comm]), _, rfl⟩
set_option maxHeartbeats 400000 in
theorem rtake_any (g : Nat) (s : Bu) (t n : Int) (w : World) (h : Blk w g 122 s.rc) (hs : BuOk s) (hk : lookB s t n = 0) :
    Calls Tryz.prog 72 #[.pointer (some ⟨g, 0, none⟩), .int .i64 t, .int .i64 n] w fun e w' => e = .returned (.bool (takeB s t n)) ∧ Blk w' g 122 (tookB s t n).rc ∧ OnlyG g w w' := by
  obtain ⟨q1, q2, q3, q4, q5⟩ := lookB_ok hk
  have q6 := hs.a2
  have q7 := hs.b2
  obtain ⟨q8, q9⟩ := holds_range hs (show s.at_ ≤ t by omega)
  have q10 := hs.h1
  obtain ⟨hv, hhv⟩ : ∃ hv, hv = holdsB s t := ⟨_, rfl⟩
  have Hk := Lib.hid hk
  have Hhv := Lib.hid hhv
  rw [← hhv] at q8 q9
  have c4 : w.cell? ⟨g, 4, none⟩ = some (.int .i64 s.last) := h.cell 4
  have f4 := h.frozen 4
  have b1 : Blk (w.setCell ⟨g, 4, none⟩ (.int .i64 t)) g 122 (Bu.rc ⟨s.b, s.r, s.at_, s.has, t⟩) := h.set_ 4 _
  have B1 := Lib.hid b1
  have hs1 : BuOk ⟨s.b, s.r, s.at_, s.has, t⟩ := ⟨hs.b1, hs.b2, hs.r1, hs.r2, hs.h1, hs.h2, hs.a1, by simp only; omega, q2⟩
  have Hh1 := Lib.hid (show holdsB ⟨s.b, s.r, s.at_, s.has, t⟩ t = hv by rw [hhv]; rfl)
  have on1 := (OnlyG.refl g w).set_ 4 (.int .i64 t)
  clear hk hhv h b1
  by_cases hc : hv < 1000 * n
  · have Ht := Lib.hid (show takeB s t n = false from decide_eq_false (fun h9 => by rw [← Hhv.out] at h9; omega))
    have Hs := Lib.hid (show tookB s t n = ⟨s.b, s.r, s.at_, s.has, t⟩ by unfold tookB; rw [if_neg (by rw [Hk.out]; simp), if_pos (by rw [← Hhv.out]; exact hc)])
    go_enter Tryz.func72, Tryz.ntmps72
    go_wp2_with fail
    refine (hasAt_any g ⟨s.b, s.r, s.at_, s.has, t⟩ t _ B1.out hs1 (by simp only; omega) q2).mono ?_
    rintro e w2 ⟨rfl, m, rfl⟩
    rw [Hh1.out]
    go_wp2_with fail
    go_ret
    rw [Ht.out, Hs.out]
    exact ⟨rfl, B1.out, on1.drewN m⟩
  · have hc2 : 1000 * n ≤ hv := by omega
    have Ht := Lib.hid (show takeB s t n = true from decide_eq_true ⟨Hk.out, by rw [← Hhv.out]; exact hc2⟩)
    have Hs := Lib.hid (show tookB s t n = ⟨s.b, s.r, t, hv - 1000 * n, t⟩ by unfold tookB; rw [if_neg (by rw [Hk.out]; simp), if_neg (by rw [← Hhv.out]; exact hc), ← Hhv.out])
    clear hc
    have b2 := B1.out.set_ 2 (.int .i64 (hv - 1000 * n))
    have x2 : (w.setCell ⟨g, 4, none⟩ (.int .i64 t)).cell? ⟨g, 2, none⟩ = some (.int .i64 s.has) := B1.out.cell 2
    have y2 := B1.out.frozen 2
    have x3 : ((w.setCell ⟨g, 4, none⟩ (.int .i64 t)).setCell ⟨g, 2, none⟩ (.int .i64 (hv - 1000 * n))).cell? ⟨g, 3, none⟩ = some (.int .i64 s.at_) := b2.cell 3
    have y3 := b2.frozen 3
    have X3 : (w.setCell ⟨g, 4, none⟩ (.int .i64 t)).cell? ⟨g, 3, none⟩ = some (.int .i64 s.at_) := B1.out.cell 3
    have Y3 := B1.out.frozen 3
    clear b2
    go_enter Tryz.func72, Tryz.ntmps72
    go_wp2_with fail
    refine (hasAt_any g ⟨s.b, s.r, s.at_, s.has, t⟩ t _ B1.out hs1 (by simp only; omega) q2).mono ?_
    rintro e w2 ⟨rfl, m, rfl⟩
    rw [Hh1.out]
    go_wp2_with fail
    go_ret
    rw [Ht.out, Hs.out]
    exact ⟨rfl, ((B1.out.drewN m).set_ 2 (.int .i64 (hv - 1000 * n))).set_ 3 (.int .i64 t), ((on1.drewN m).set_ 2 (.int .i64 (hv - 1000 * n))).set_ 3 (.int .i64 t)⟩
/-- The document's When: -1 where it is never. -/
def whenR (s : Bu) (t n : Int) : Int := if (whenB s t n).1 = 0 then (whenB s t n).2 else -1
set_option maxHeartbeats 1000000 in
theorem rwhen_any (g : Nat) (s : Bu) (t n : Int) (w : World) (h : Blk w g 122 s.rc) (hs : BuOk s) (hk : lookB s t n = 0) :
    Calls Tryz.prog 71 #[.pointer (some ⟨g, 0, none⟩), .int .i64 t, .int .i64 n] w fun e w' => e = .returned (.int .i64 (whenR s t n)) ∧ ∃ m, w' = w.drewN m := by
  obtain ⟨q1, q2, q3, q4, q5⟩ := lookB_ok hk
  have q6 := hs.a2
  have q7 := hs.b2
  have q71 := hs.b1
  obtain ⟨q8, q9⟩ := holds_range hs (show s.at_ ≤ t by omega)
  have q10 := hs.h1
  have r1 := hs.r1
  have r2 := hs.r2
  obtain ⟨hv, hhv⟩ : ∃ hv, hv = holdsB s t := ⟨_, rfl⟩
  have Hk := Lib.hid hk
  have Hhv := Lib.hid hhv
  rw [← hhv] at q8 q9
  have c0 : w.cell? ⟨g, 0, none⟩ = some (.int .i64 s.b) := h.cell 0
  have c1 : w.cell? ⟨g, 1, none⟩ = some (.int .i64 s.r) := h.cell 1
  have H := Lib.hid h
  clear hk hhv h
  by_cases hb : s.b < n
  · have Hw := Lib.hid (show whenR s t n = -1 by have e : whenB s t n = (4, 0) := by { unfold whenB; rw [if_neg (by rw [Hk.out]; simp), if_pos hb] }; unfold whenR; rw [e]; rfl)
    go_enter Tryz.func71, Tryz.ntmps71
    go_wp2_with fail
    go_ret
    exact ⟨by rw [Hw.out]; rfl, 0, rfl⟩
  · have hb2 : n ≤ s.b := by omega
    by_cases hl : 1000 * n - hv ≤ 0
    · have Hw := Lib.hid (show whenR s t n = t by have e : whenB s t n = (0, t) := by { unfold whenB; rw [if_neg (by rw [Hk.out]; simp), if_neg hb, if_pos (by rw [← Hhv.out]; exact hl)] }; unfold whenR; rw [e]; rfl)
      clear hb
      go_enter Tryz.func71, Tryz.ntmps71
      go_wp2_with fail
      refine (hasAt_any g s t _ H.out hs (by omega) q2).mono ?_
      rintro e w2 ⟨rfl, m, rfl⟩
      rw [← Hhv.out]
      go_wp2_with fail
      go_ret
      exact ⟨by rw [Hw.out]; rfl, m, rfl⟩
    · have hl2 : 0 < 1000 * n - hv := by omega
      by_cases hr : s.r = 0
      · have Hw := Lib.hid (show whenR s t n = -1 by have e : whenB s t n = (4, 0) := by { unfold whenB; rw [if_neg (by rw [Hk.out]; simp), if_neg hb, if_neg (by rw [← Hhv.out]; exact hl), if_pos hr] }; unfold whenR; rw [e]; rfl)
        rw [hr] at c1
        clear hb hl hr
        go_enter Tryz.func71, Tryz.ntmps71
        go_wp2_with fail
        refine (hasAt_any g s t _ H.out hs (by omega) q2).mono ?_
        rintro e w2 ⟨rfl, m, rfl⟩
        rw [← Hhv.out]
        go_wp2_with fail
        go_ret
        exact ⟨by rw [Hw.out]; rfl, m, rfl⟩
      · have hr2 : 0 < s.r := by omega
        have hr3 : (s.r == 0) = false := beq_eq_false_iff_ne.2 hr
        have hr4 : s.r ≠ 0 := hr
        have hce := ceil_div (l := 1000 * n - hv) hr2
        have d0 : 0 ≤ (1000 * n - hv) / s.r := Int.ediv_nonneg (by omega) (by omega)
        have d1 : (1000 * n - hv) / s.r ≤ (1000 * n - hv) := Int.ediv_le_self _ (by omega)
        have d2 : (1000 * n - hv) / s.r * s.r ≤ (1000 * n - hv) := Int.ediv_mul_le _ (by omega)
        have d3 : 0 ≤ (1000 * n - hv) / s.r * s.r := Int.mul_nonneg d0 (by omega)
        have hlk1 : (1000 * n - hv) ≤ 2000000 := by omega
        obtain ⟨D, hD⟩ : ∃ D, D = if (1000 * n - hv) / s.r * s.r < (1000 * n - hv) then (1000 * n - hv) / s.r + 1 else (1000 * n - hv) / s.r := ⟨_, rfl⟩
        have hwb : whenB s t n = if 1099511627776 < t + D then (4, 0) else (0, t + D) := by
          unfold whenB
          rw [if_neg (by rw [Hk.out]; simp), if_neg hb, if_neg (by rw [← Hhv.out]; exact hl), if_neg hr, ← Hhv.out, hce, ← hD]
        have lk2 : 0 < (1000 * n - hv) := by omega
        by_cases hx : (1000 * n - hv) / s.r * s.r < (1000 * n - hv)
        · rw [if_pos hx] at hD
          by_cases ht : 1099511627776 < t + D
          · have Hw := Lib.hid (show whenR s t n = -1 by unfold whenR; rw [hwb, if_pos ht]; rfl)
            rw [hD] at ht
            have ht' : 1099511627776 < t + ((1000 * n - hv) / s.r + 1) := ht
            clear hb hl hr hce hD hwb ht
            go_enter Tryz.func71, Tryz.ntmps71
            go_wp2_with fail
            refine (hasAt_any g s t _ H.out hs (by omega) q2).mono ?_
            rintro e w2 ⟨rfl, m, rfl⟩
            rw [← Hhv.out]
            go_wp2_with fail
            go_ret
            exact ⟨by rw [Hw.out]; rfl, m, rfl⟩
          · have Hw := Lib.hid (show whenR s t n = t + ((1000 * n - hv) / s.r + 1) by unfold whenR; rw [hwb, if_neg ht, hD]; rfl)
            rw [hD] at ht
            have ht' : t + ((1000 * n - hv) / s.r + 1) ≤ 1099511627776 := by omega
            clear hb hl hr hce hD hwb ht
            go_enter Tryz.func71, Tryz.ntmps71
            go_wp2_with fail
            refine (hasAt_any g s t _ H.out hs (by omega) q2).mono ?_
            rintro e w2 ⟨rfl, m, rfl⟩
            rw [← Hhv.out]
            go_wp2_with fail
            go_ret
            exact ⟨by rw [Hw.out]; rfl, m, rfl⟩
        · rw [if_neg hx] at hD
          have hx2 : (1000 * n - hv) ≤ (1000 * n - hv) / s.r * s.r := by omega
          by_cases ht : 1099511627776 < t + D
          · have Hw := Lib.hid (show whenR s t n = -1 by unfold whenR; rw [hwb, if_pos ht]; rfl)
            rw [hD] at ht
            have ht' : 1099511627776 < t + (1000 * n - hv) / s.r := ht
            clear hb hl hr hce hD hwb ht hx
            go_enter Tryz.func71, Tryz.ntmps71
            go_wp2_with fail
            refine (hasAt_any g s t _ H.out hs (by omega) q2).mono ?_
            rintro e w2 ⟨rfl, m, rfl⟩
            rw [← Hhv.out]
            go_wp2_with fail
            go_ret
            exact ⟨by rw [Hw.out]; rfl, m, rfl⟩
          · have Hw := Lib.hid (show whenR s t n = t + (1000 * n - hv) / s.r by unfold whenR; rw [hwb, if_neg ht, hD]; rfl)
            rw [hD] at ht
            have ht' : t + (1000 * n - hv) / s.r ≤ 1099511627776 := by omega
            clear hb hl hr hce hD hwb ht hx
            go_enter Tryz.func71, Tryz.ntmps71
            go_wp2_with fail
            refine (hasAt_any g s t _ H.out hs (by omega) q2).mono ?_
            rintro e w2 ⟨rfl, m, rfl⟩
            rw [← Hhv.out]
            go_wp2_with fail
            go_ret
            exact ⟨by rw [Hw.out]; rfl, m, rfl⟩
end Go.Proofs.YthgpbdlmadjndaaGreatDoor
namespace Go.Proofs.YthgpbdlmadjndaaGreatDoor
open Go.RowKit
set_option maxRecDepth 100000
structure BrMem (base : Nat) (w : World) (A : Option Addr) (c : Nat) (bs : List (Nat × Bu)) : Prop where
  row : w.ownsRow base 120 1 (.slice A bs.length c) bs.length (bs.flatMap pC)
  bk : ∀ x ∈ bs, Blk w x.1 122 x.2.rc
  nd : (bs.map (·.1)).Nodup
  ge : ∀ x ∈ bs, base ≤ x.1
  far : ∀ x ∈ bs, (Value.slice A bs.length c).ownBlock ≠ some x.1
section
variable {base : Nat} {w w' : World} {A : Option Addr} {c : Nat} {bs : List (Nat × Bu)}
theorem BrMem.drewN (h : BrMem base w A c bs) (m : Nat) : BrMem base (w.drewN m) A c bs := ⟨h.row, h.bk, h.nd, h.ge, h.far⟩
theorem BrMem.rd (h : BrMem base w A c bs) : Rd w w.heap.size 1 pC A bs := Rd.of_own h.row (by omega) pC_len
theorem BrMem.get (h : BrMem base w A c bs) {k : Nat} (hk : k < bs.length) : ∃ b o, A = some ⟨b, o, none⟩ ∧ b < w.heap.size ∧ w.cell? ⟨b, o + k, none⟩ = some (.pointer (some ⟨bs[k].1, 0, none⟩)) := by
  obtain ⟨b, o, e, hb, hc⟩ := h.rd.at_ hk
  have := hc 0 _ rfl
  simp only [Nat.mul_one, Nat.add_zero] at this
  exact ⟨b, o, e, hb, this⟩
theorem BrMem.step (h : BrMem base w A c bs) {k : Nat} (hk : k < bs.length) {s' : Bu} (ho : OnlyG bs[k].1 w w') (hb : Blk w' bs[k].1 122 s'.rc) : BrMem base w' A c (bs.set k (bs[k].1, s')) := by
  have hfst : (bs.set k (bs[k].1, s')).map (·.1) = bs.map (·.1) := by
    rw [List.map_set]
    apply List.ext_getElem?
    intro j
    rw [List.getElem?_set]
    split
    · rename_i h9; subst h9; simp [hk]
    · rfl
  have hflat : (bs.set k (bs[k].1, s')).flatMap pC = bs.flatMap pC := by
    have : ∀ l : List (Nat × Bu), l.flatMap pC = (l.map (·.1)).map fun g => Value.pointer (some ⟨g, 0, none⟩) := fun l => by
      induction l with
      | nil => rfl
      | cons x r ih => rw [List.flatMap_cons, ih]; rfl
    rw [this, this, hfst]
  refine ⟨?_, fun x hx => ?_, by rw [hfst]; exact h.nd, fun x hx => ?_, fun x hx => ?_⟩
  · rw [hflat, List.length_set]
    have hne := h.far _ (List.getElem_mem hk)
    obtain ⟨h1, h2⟩ := h.row
    refine ⟨h1, ?_⟩
    rcases h2 with h2 | ⟨g', cap, cur, hv, hg', hh, r⟩
    · exact .inl h2
    · exact .inr ⟨g', cap, cur, hv, hg', (ho.blk g' (fun e => hne (by rw [hv, e]; rfl))).trans hh, r⟩
  · obtain ⟨j, hj, e⟩ := List.getElem_of_mem hx
    rw [List.length_set] at hj
    rw [List.getElem_set] at e
    split at e
    · subst e; exact hb
    · rename_i hjk
      subst e
      have hne : bs[j].1 ≠ bs[k].1 := fun e => by
        have h9 := List.pairwise_iff_getElem.1 h.nd
        rcases Nat.lt_or_gt_of_ne hjk with h8 | h8
        · exact h9 k j (by simpa using hk) (by simpa using hj) h8 (by simpa using e.symm)
        · exact h9 j k (by simpa using hj) (by simpa using hk) h8 (by simpa using e)
      exact (h.bk _ (List.getElem_mem hj)).same (ho.blk _ hne)
  · have : x.1 ∈ bs.map (·.1) := by rw [← hfst]; exact List.mem_map.2 ⟨x, hx, rfl⟩
    obtain ⟨y, hy, e⟩ := List.mem_map.1 this
    have := h.ge y hy
    omega
  · rw [List.length_set]
    have : x.1 ∈ bs.map (·.1) := by rw [← hfst]; exact List.mem_map.2 ⟨x, hx, rfl⟩
    obtain ⟨y, hy, e⟩ := List.mem_map.1 this
    have := h.far y hy
    rw [e] at this
    exact this
end
theorem BrMem.below {base : Nat} {w w' : World} {A : Option Addr} {c : Nat} {bs : List (Nat × Bu)} (h : BrMem base w A c bs) (hb : Below w.heap.size w w') : BrMem base w' A c bs :=
  ⟨own_below h.row hb (Nat.le_refl _), fun x hx => (h.bk x hx).below hb (h.bk x hx).lt, h.nd, h.ge, h.far⟩
theorem BrMem.drew {base : Nat} {w : World} {A : Option Addr} {c : Nat} {bs : List (Nat × Bu)} (h : BrMem base w A c bs) : BrMem base w.drew A c bs := ⟨h.row, h.bk, h.nd, h.ge, h.far⟩
theorem BrMem.set_ {base : Nat} {w : World} {A : Option Addr} {c : Nat} {bs : List (Nat × Bu)} (h : BrMem base w A c bs) {a : Addr} (h1 : ∀ x ∈ bs, x.1 ≠ a.block) (h2 : (Value.slice A bs.length c).ownBlock ≠ some a.block) (u : Value) : BrMem base (w.setCell a u) A c bs :=
  ⟨ownsRow_setCell_other h.row h2 u, fun x hx => (h.bk x hx).far (h1 x hx) u, h.nd, h.ge, h.far⟩
theorem BrMem.nil_ (base : Nat) (w : World) : BrMem base w none 0 [] := ⟨⟨by simp, .inl ⟨rfl, rfl⟩⟩, by simp, List.nodup_nil, by simp, by simp⟩
theorem br_app {base : Nat} {w1 w2 w3 : World} {A A' : Option Addr} {c c' : Nat} {bs : List (Nat × Bu)} {y : Nat × Bu} {o : Obj} (h : BrMem base w1 A c bs) (k : Below w1.heap.size w1 w2) (hy : w1.heap.size ≤ y.1) (hb : Blk w2 y.1 122 y.2.rc) (hbase : base ≤ w1.heap.size)
    (row : w3.ownsRow base 120 1 (.slice A' (bs ++ [y]).length c') (bs ++ [y]).length ((bs ++ [y]).flatMap pC)) (g : (w2.alloc o).grownBy w3 (Value.slice A bs.length c).ownBlock) (at3 : (Value.slice A' (bs ++ [y]).length c').ownBlock = (Value.slice A bs.length c).ownBlock ∨ (Value.slice A' (bs ++ [y]).length c').ownBlock = some (w2.alloc o).heap.size) : BrMem base w3 A' c' (bs ++ [y]) := by
  have hlt : ∀ x ∈ bs, x.1 < w1.heap.size := fun x hx => (h.bk x hx).lt
  have hrow : ∀ b, (Value.slice A bs.length c).ownBlock = some b → b < w1.heap.size := fun b hb => own_lt' h.row b hb
  have hyl : y.1 < w2.heap.size := hb.lt
  have z := k.size
  refine ⟨row, fun x hx => ?_, ?_, fun x hx => ?_, fun x hx => ?_⟩
  · rcases List.mem_append.1 hx with hx | hx
    · exact (((h.bk x hx).below k (hlt x hx)).alloc o).grown g (fun e => h.far x hx e.symm)
    · rw [List.mem_singleton.1 hx]
      exact (hb.alloc o).grown g (fun e => by have := hrow _ e.symm; omega)
  · rw [List.map_append]
    refine List.nodup_append.2 ⟨h.nd, by simp, fun a ha b hb => ?_⟩
    obtain ⟨x, hx, rfl⟩ := List.mem_map.1 ha
    simp only [List.map_cons, List.map_nil, List.mem_singleton] at hb
    have := hlt x hx
    omega
  · rcases List.mem_append.1 hx with hx | hx
    · exact h.ge x hx
    · rw [List.mem_singleton.1 hx]; omega
  · intro e
    rcases at3 with h9 | h9
    · rw [h9] at e
      rcases List.mem_append.1 hx with hx | hx
      · exact h.far x hx e
      · rw [List.mem_singleton.1 hx] at e
        have := hrow _ e
        omega
    · rw [h9] at e
      injection e with e
      have hs : (w2.alloc o).heap.size = w2.heap.size + 1 := by simp
      rcases List.mem_append.1 hx with hx | hx
      · have := hlt x hx; omega
      · rw [List.mem_singleton.1 hx] at e; omega
end Go.Proofs.YthgpbdlmadjndaaGreatDoor
namespace Go.Proofs.YthgpbdlmadjndaaGreatDoor
open Go.RowKit
set_option maxRecDepth 100000
theorem infoPtR : (Tryz.prog.info? 120).map (fun i => (i.zero, i.size, i.bytes)) = some (some (.pointer none), 1, 8) := by kernel_rfl
theorem infoPkR : (Tryz.prog.info? 58).map (fun i => (i.zero, i.size, i.bytes)) = some (some (.agg #[.int .i64 0, .int .i64 0, .int .i64 0]), 3, 24) := by kernel_rfl
/-- What ShapeOf gives: the list, and which one never leaves. -/
def EndSh (l : List Pk) (n : Int) (w : World) (e : Ending) (w' : World) : Prop :=
  ∃ A1 c1, e = .returned (.tuple #[.slice A1 l.length c1, .int .i64 n]) ∧ w'.ownsRow w.heap.size 58 3 (.slice A1 l.length c1) l.length (l.flatMap Pk.cs) ∧ Below w.heap.size w w'
theorem OnlyG.of_same {g b : Nat} {w w' : World} (h : OnlyG g w w') (hb : b ≠ g) {T : TypeId} {cs : Array Value} (hk : Blk w b T cs) : Blk w' b T cs := hk.same (h.blk b hb)
/-- What holds of a packet that is shaped. -/
structure QRel (w : World) (p : List Pk) (base wo Q : Nat) (A5 : Option Addr) (c5 : Nat) (bs : List (Nat × Bu)) (A7 : Option Addr) (c7 : Nat) (acc : List Pk) (x : Pk) (t : Int) (wr : World) : Prop where
  q : Blk wr Q 58 #[.int .i64 x.f, .int .i64 x.s, .int .i64 t]
  bm : BrMem base wr A5 c5 bs
  row : wr.ownsRow wo 58 3 (.slice A7 acc.length c7) acc.length (acc.flatMap Pk.cs)
  bel : Below w.heap.size w wr
  lo : wo ≤ wr.heap.size
theorem QRel.drewN {w : World} {p : List Pk} {base wo Q : Nat} {A5 : Option Addr} {c5 : Nat} {bs : List (Nat × Bu)} {A7 : Option Addr} {c7 : Nat} {acc : List Pk} {x : Pk} {t : Int} {wr : World} (h : QRel w p base wo Q A5 c5 bs A7 c7 acc x t wr) (m : Nat) : QRel w p base wo Q A5 c5 bs A7 c7 acc x t (wr.drewN m) := ⟨h.q, h.bm.drewN m, h.row, below_drewN h.bel m, h.lo⟩
theorem QRel.at_ {w : World} {p : List Pk} {base wo Q : Nat} {A5 : Option Addr} {c5 : Nat} {bs : List (Nat × Bu)} {A7 : Option Addr} {c7 : Nat} {acc : List Pk} {x : Pk} {t : Int} {wr : World} (h : QRel w p base wo Q A5 c5 bs A7 c7 acc x t wr) (t' : Int) (hwq : w.heap.size ≤ Q) (hq1 : ∀ y ∈ bs, y.1 ≠ Q) (hq2 : (Value.slice A5 bs.length c5).ownBlock ≠ some Q) (hq3 : (Value.slice A7 acc.length c7).ownBlock ≠ some Q) : QRel w p base wo Q A5 c5 bs A7 c7 acc x t' (wr.setCell ⟨Q, 2, none⟩ (.int .i64 t')) :=
  ⟨h.q.set_ 2 (.int .i64 t'), h.bm.set_ (a := ⟨Q, 2, none⟩) hq1 hq2 _, ownsRow_setCell_other h.row hq3 _, h.bel.setCell (p := ⟨Q, 2, none⟩) hwq _, by rw [setCell_size]; exact h.lo⟩
theorem QRel.step {w : World} {p : List Pk} {base wo Q : Nat} {A5 : Option Addr} {c5 : Nat} {bs : List (Nat × Bu)} {A7 : Option Addr} {c7 : Nat} {acc : List Pk} {x : Pk} {t : Int} {wr w' : World} (h : QRel w p base wo Q A5 c5 bs A7 c7 acc x t wr) {k : Nat} (hk : k < bs.length) {s' : Bu} (ho : OnlyG bs[k].1 wr w') (hb : Blk w' bs[k].1 122 s'.rc) (hQ : bs[k].1 ≠ Q) (hwo : bs[k].1 < wo) (hw : w.heap.size ≤ bs[k].1) : QRel w p base wo Q A5 c5 (bs.set k (bs[k].1, s')) A7 c7 acc x t w' := by
  refine ⟨ho.of_same (fun e => hQ e.symm) h.q, h.bm.step hk ho hb, ?_, h.bel.trans (ho.bel.mono hw), Nat.le_trans h.lo ho.bel.size⟩
  obtain ⟨h1, h2⟩ := h.row
  refine ⟨h1, ?_⟩
  rcases h2 with h2 | ⟨g', cap, cur, hv, hg', hh, r⟩
  · exact .inl h2
  · exact .inr ⟨g', cap, cur, hv, hg', (ho.blk g' (fun e => by omega)).trans hh, r⟩
theorem BrMem.belowB {base B : Nat} {w w' : World} {A : Option Addr} {c : Nat} {bs : List (Nat × Bu)} (h : BrMem base w A c bs) (hb : Below B w w') (h1 : ∀ x ∈ bs, x.1 < B) (h2 : ∀ g, (Value.slice A bs.length c).ownBlock = some g → g < B) : BrMem base w' A c bs := by
  refine ⟨?_, fun x hx => (h.bk x hx).below hb (h1 x hx), h.nd, h.ge, h.far⟩
  obtain ⟨r1, r2⟩ := h.row
  refine ⟨r1, ?_⟩
  rcases r2 with r2 | ⟨g', cap, cur, hv, hg', hh, r⟩
  · exact .inl r2
  · exact .inr ⟨g', cap, cur, hv, hg', (hb.block g' (h2 g' (by rw [hv]; rfl))).trans hh, r⟩
theorem QRel.drew {w : World} {p : List Pk} {base wo Q : Nat} {A5 : Option Addr} {c5 : Nat} {bs : List (Nat × Bu)} {A7 : Option Addr} {c7 : Nat} {acc : List Pk} {x : Pk} {t : Int} {wr : World} (h : QRel w p base wo Q A5 c5 bs A7 c7 acc x t wr) : QRel w p base wo Q A5 c5 bs A7 c7 acc x t wr.drew := ⟨h.q, h.bm.drew, h.row, h.bel.drew, h.lo⟩
theorem look_from {s : Bu} {F n last : Int} (h : s.last ≤ last) (h1 : last ≤ F) (h0 : 0 ≤ F) (h2 : F ≤ 1099511627776) (h3 : 1 ≤ n) (h4 : n ≤ 1500) : lookB s F n = 0 := by
  unfold lookB
  rw [if_neg (by omega), if_neg (by omega)]
set_option maxHeartbeats 8000000 in
theorem shapeOf_any (A A' : Option Addr) (c c' : Nat) (l : List Ln) (p : List Pk) (w : World) (B : Nat) (hB : B ≤ w.heap.size) (h : RdL w B A l) (h' : RdP w B A' p) (hl : l.length ≤ 9223372036854775807) (h1 : (pktErr p).1 = 0) (h2 : (crvErr l).1 = 0) :
    Calls Tryz.prog 43 #[.slice A l.length c, .slice A' p.length c'] w (EndSh (shapeR l p).1 (shapeR l p).2 w) := by
  have hpk := pktErr_okPk h1
  have h300 := pktErr_len h1
  obtain ⟨l1, l6, hlo, _⟩ := crvErr_ok h2
  have Hp := Lib.hid hpk
  have Hlo := Lib.hid hlo
  obtain ⟨i0, hi0, hz0, hz1, hz2⟩ := info_parts infoPtR
  obtain ⟨i1, hi1, hy0, hy1, hy2⟩ := info_parts infoPkR
  clear h1 h2 hpk hlo
  go_enter Tryz.func43, Tryz.ntmps43
  go_wp2_with fail
  go_loopw [6, 7] (fun av iv wr => ∃ (k : Nat) (A5 : Option Addr) (c5 : Nat) (bs : List (Nat × Bu)), k ≤ l.length ∧ bs.length = k ∧ av = .slice A5 bs.length c5 ∧ iv = .int .i64 k ∧ bs.map (·.2) = (l.take k).map newB ∧ BrMem w.heap.size wr A5 c5 bs ∧ Below w.heap.size w wr) (fun _ iv _ => l.length - (intOf iv).toNat)
  case atStart => exact ⟨0, none, 0, [], Nat.zero_le _, rfl, rfl, rfl, rfl, BrMem.nil_ _ _, Below.refl _ _⟩
  case round =>
    obtain ⟨k, A5, c5, bs, hk, hbl, rfl, rfl, hsnd, hm, hbw⟩ := hrel
    have Hm := Lib.hid hm
    have Hsnd := Lib.hid hsnd
    have zw := hbw.size
    clear hm hsnd
    by_cases hlt : k < l.length
    · obtain ⟨b, o, rfl, hb, d0, d1⟩ := RdL.get (h.below (hbw.mono hB)) hlt
      obtain ⟨x, hx⟩ : ∃ x, x = l[k] := ⟨_, rfl⟩
      rw [← hx] at d0 d1
      have hxo : okLn x := by rw [hx]; exact Hlo.out _ (List.getElem_mem hlt)
      have Hx := Lib.hid hx
      have Hxo := Lib.hid hxo
      have Hbl := Lib.hid hbl
      have hu : IntKind.i64.wrap (1000 * x.b) = 1000 * x.b := by rw [IntKind.wrap_i64]; have h9 := hxo; unfold okLn at h9; omega
      have HU := Lib.hid hu
      have hec : (#[.int .i64 x.b, .int .i64 x.r, .int .i64 (IntKind.i64.wrap (1000 * x.b)), .int .i64 0, .int .i64 0] : Array Value) = (newB x).rc := by rw [hu]; rfl
      have hbB : Blk (wr.alloc (.cells #[.int .i64 x.b, .int .i64 x.r, .int .i64 (IntKind.i64.wrap (1000 * x.b)), .int .i64 0, .int .i64 0] 122)) wr.heap.size 122 (newB x).rc := by
        unfold Blk
        rw [heap_alloc_new, hec]
      have HB := Lib.hid hbB
      have q1 : bs.length + 1 ≤ maxLen := by simp only [maxLen]; omega
      have q2 : (bs.length + 1) * 8 ≤ 140737488355328 := by omega
      have j1 : (0 : Int) ≤ (bs.length : Int) := by omega
      have Hrow2 := (Hm.out.row.alloc (.cells #[.int .i64 x.b, .int .i64 x.r, .int .i64 (IntKind.i64.wrap (1000 * x.b)), .int .i64 0, .int .i64 0] 122)).alloc (.cells #[.pointer (some ⟨wr.heap.size, 0, none⟩)] 120)
      have hnew : Rd ((wr.alloc (.cells #[.int .i64 x.b, .int .i64 x.r, .int .i64 (IntKind.i64.wrap (1000 * x.b)), .int .i64 0, .int .i64 0] 122)).alloc (.cells #[.pointer (some ⟨wr.heap.size, 0, none⟩)] 120)) (wr.heap.size + 2) 1 pC (some ⟨wr.heap.size + 1, 0, none⟩) [(wr.heap.size, newB x)] := Rd.of_block (heap_alloc_new2 _ _ _) rfl (Nat.lt_succ_self _) Nat.one_pos pC_len
      have hq7 : w.heap.size ≤ ((wr.alloc (.cells #[.int .i64 x.b, .int .i64 x.r, .int .i64 (IntKind.i64.wrap (1000 * x.b)), .int .i64 0, .int .i64 0] 122)).alloc (.cells #[.pointer (some ⟨wr.heap.size, 0, none⟩)] 120)).heap.size := by simp; omega
      obtain ⟨bs', hbs'⟩ : ∃ bs', bs' = bs ++ [(wr.heap.size, newB x)] := ⟨_, rfl⟩
      have Hbs := Lib.hid hbs'
      have kv : Below wr.heap.size wr (wr.alloc (.cells #[.int .i64 x.b, .int .i64 x.r, .int .i64 (IntKind.i64.wrap (1000 * x.b)), .int .i64 0, .int .i64 0] 122)) := (Below.refl _ _).alloc (Nat.le_refl _) _
      have KV := Lib.hid kv
      subst hbl
      clear hx hu hec hbB hbs' kv
      go_wp2_with fail
      go_region_law (refine step_append_rd _ pC rfl (.tmp 21) (.tmp 34) 119 rfl w.heap.size 120 i0 (.pointer none) 1 8 Tryz.underlying119 hi0 hz0 hz1 hz2 rfl Nat.one_pos pC_len pC_one (.slice A5 bs.length c5) bs.length (bs.flatMap pC) rfl Hrow2 (wr.heap.size + 2) (some ⟨wr.heap.size + 1, 0, none⟩) 1 [(wr.heap.size, newB x)] rfl hnew q1 q2 hq7 ?_; intro v3 w3 row3 g3 at3)
      all_goals
        obtain ⟨A12, c12, hv12, row12⟩ := own_app (l := bs) (l' := [(wr.heap.size, newB x)]) row3 (by omega)
        rw [hv12] at at3 ⊢
        clear hv12 row3
        have hm12 : BrMem w.heap.size w3 A12 c12 (bs ++ [(wr.heap.size, newB x)]) := br_app Hm.out KV.out (Nat.le_refl _) HB.out zw row12 ⟨g3.os, g3.tape, g3.output, g3.size, g3.block⟩ at3
        have k12 : Below w.heap.size w w3 := below_app ((hbw.alloc zw _).alloc (le_alloc zw _) _).drew Hrow2.drew ⟨g3.os, g3.tape, g3.output, g3.size, g3.block⟩ (Nat.le_refl _) hq7
        have Hm12 := Lib.hid hm12
        have hsn : (bs ++ [(wr.heap.size, newB x)]).map (·.2) = (l.take (bs.length + 1)).map newB := by rw [List.map_append, Hsnd.out, List.take_succ_eq_append_getElem hlt, List.map_append, ← Hx.out]; rfl
        have HSN := Lib.hid hsn
        have hln : (bs ++ [(wr.heap.size, newB x)]).length = bs.length + 1 := by simp
        clear row12 g3 at3 hm12 hsn
        go_wp2_with fail
        go_roundw
        case rel => exact ⟨bs.length + 1, A12, c12, bs ++ [(wr.heap.size, newB x)], hlt, hln, by rw [hln], by go_num, HSN.out, Hm12.out, k12⟩
        case measure => simp [intOf]; omega
    · have hke : k = l.length := by omega
      have Hs2 := Lib.hid (show bs.map (·.2) = l.map newB by rw [Hsnd.out, List.take_of_length_le (by omega)])
      have hb6 : bs.length ≤ 1000 := by omega
      obtain ⟨wo, rfl⟩ : ∃ wo : World, wo = wr := ⟨_, rfl⟩
      clear hke hbl
      have hlt6 : ∀ x ∈ bs, x.1 < wo.heap.size := fun x hx => (Hm.out.bk x hx).lt
      have hrl6 : ∀ b, (Value.slice A5 bs.length c5).ownBlock = some b → b < wo.heap.size := fun b hb => own_lt' Hm.out.row b hb
      have hbsok : BsOk bs 0 := fun x hx => by
        have : x.2 ∈ bs.map (·.2) := List.mem_map.2 ⟨x, hx, rfl⟩
        rw [Hs2.out] at this
        obtain ⟨y, hy, e⟩ := List.mem_map.1 this
        rw [← e]
        exact ⟨newB_ok (Hlo.out y hy), Int.le_refl _⟩
      have heq0 : shapeR l p = glue [] (shapeGo p (bs.map (·.2)) 0 0) := by
        rw [Hs2.out]
        unfold shapeR glue
        split
        · rename_i h9; exact Prod.ext rfl h9
        · rename_i h9
          have key : ∀ (p : List Pk) (ss : List Bu) (last : Int) (i : Nat), (shapeGo p ss last i).2 ≠ -1 → (shapeGo p ss last i).1 = [] := fun p => by
            induction p with
            | nil => intro ss last i h8; exact absurd rfl h8
            | cons x r ih =>
              intro ss last i h8
              unfold shapeGo at h8 ⊢
              split
              · rfl
              · rename_i T hT
                rw [hT] at h8
                simp only at h8
                split
                · rename_i h7; rw [if_pos h7] at h8; exact absurd rfl h8
                · rfl
          exact Prod.ext (key p _ 0 0 h9) rfl
      have Heq0 := Lib.hid heq0
      have Hok0 := Lib.hid hbsok
      have Hlt6 := Lib.hid hlt6
      have Hrl6 := Lib.hid hrl6
      clear heq0 hbsok hlt6 hrl6
      go_wp2_with fail
      go_loopw [8, 9] (fun ov iv wr => ∃ (k : Nat) (acc : List Pk) (A7 : Option Addr) (c7 : Nat) (bs2 : List (Nat × Bu)) (last : Int), k ≤ p.length ∧ acc.length = k ∧ iv = .int .i64 k ∧ ov = .slice A7 acc.length c7 ∧ bs2.length = bs.length ∧ bs2.map (·.1) = bs.map (·.1) ∧ BsOk bs2 last ∧ 0 ≤ last ∧ last ≤ 1099511627776 ∧ (k = 0 ∧ last = 0 ∨ ∃ (j : Nat) (hj : j < acc.length), k = j + 1 ∧ acc[j].a = last) ∧ shapeR l p = glue acc (shapeGo (p.drop k) (bs2.map (·.2)) last k) ∧ BrMem w.heap.size wr A5 c5 bs2 ∧ wr.ownsRow wo.heap.size 58 3 (.slice A7 acc.length c7) acc.length (acc.flatMap Pk.cs) ∧ Below w.heap.size w wr ∧ wo.heap.size ≤ wr.heap.size) (fun _ iv _ => p.length - (intOf iv).toNat)
      case atStart => exact ⟨0, [], none, 0, bs, 0, Nat.zero_le _, rfl, rfl, rfl, rfl, rfl, Hok0.out, Int.le_refl _, by omega, .inl ⟨rfl, rfl⟩, Heq0.out, Hm.out, ⟨by simp, .inl ⟨rfl, rfl⟩⟩, hbw, Nat.le_refl _⟩
      case round =>
        obtain ⟨k, acc, A7, c7, bs2, last, hk, hacc, rfl, rfl, hb2l, hb2f, hok2, hla0, hla1, hlast, heq, hm2, row2, kb2, hz2'⟩ := hrel
        have zw2 := kb2.size
        have Hm2 := Lib.hid hm2
        have Row2 := Lib.hid row2
        have Hok2 := Lib.hid hok2
        have Heq := Lib.hid heq
        have Hb2f := Lib.hid hb2f
        have Hacc := Lib.hid hacc
        have Hlast := Lib.hid hlast
        have Hb2l := Lib.hid hb2l
        have hlt2 : ∀ x ∈ bs2, x.1 < wo.heap.size := fun x hx => by
          have : x.1 ∈ bs2.map (·.1) := List.mem_map.2 ⟨x, hx, rfl⟩
          rw [Hb2f.out] at this
          obtain ⟨y, hy, e⟩ := List.mem_map.1 this
          rw [← e]; exact Hlt6.out y hy
        have Hlt2 := Lib.hid hlt2
        clear hm2 row2 hok2 heq hb2f hlt2 hlast hb2l
        by_cases hlt : k < p.length
        · have hd : p.drop k = p[k] :: p.drop (k + 1) := List.drop_eq_getElem_cons hlt
          obtain ⟨x, hx⟩ : ∃ x, x = p[k] := ⟨_, rfl⟩
          obtain ⟨b, o, rfl, hbb, d0, d1, d2⟩ := RdP.get (h'.below (kb2.mono hB)) hlt
          have hpo : okPk x := by rw [hx]; exact Hp.out _ (List.getElem_mem hlt)
          rw [← hx] at d0 d1 d2 hd
          have Hd := Lib.hid hd
          have r1 : (k : Int) < (p.length : Int) := by omega
          have r2 : (0 : Int) ≤ (k : Int) := by omega
          obtain ⟨p1, p2, p3, p4, p5, p6⟩ := hpo
          have hfr := fr_ge last x.a
          obtain ⟨Q, hQ⟩ : ∃ Q, Q = wr.heap.size := ⟨_, rfl⟩
          obtain ⟨W0, hW0⟩ : ∃ W0 : World, W0 = wr.alloc (.cells #[.int .i64 x.f, .int .i64 x.s, .int .i64 x.a] 58) := ⟨_, rfl⟩
          have qr0 : QRel w p w.heap.size wo.heap.size Q A5 c5 bs2 A7 c7 acc x x.a W0 := by
            rw [hW0, hQ]
            exact ⟨Blk.new _ _ _, Hm2.out.below ((Below.refl _ _).alloc (Nat.le_refl _) _), Row2.out.alloc _, kb2.alloc zw2 _, Nat.le_trans hz2' (by simp)⟩
          have hQo : wo.heap.size ≤ Q := by omega
          have hQ1 : ∀ y ∈ bs2, y.1 ≠ Q := fun y hy => by have := Hlt2.out y hy; omega
          have hQ2 : (Value.slice A5 bs2.length c5).ownBlock ≠ some Q := fun e => by
            have e2 : (Value.slice A5 bs.length c5).ownBlock = some Q := by cases A5 <;> exact e
            have := Hrl6.out Q e2
            omega
          have hQ3 : (Value.slice A7 acc.length c7).ownBlock ≠ some Q := fun e => by have := own_lt' Row2.out Q e; omega
          have hQw : w.heap.size ≤ Q := by omega
          have HQ1 := Lib.hid hQ1
          have HQ2 := Lib.hid hQ2
          have HQ3 := Lib.hid hQ3
          have QR0 := Lib.hid qr0
          have HW0 := Lib.hid hW0
          have HQ := Lib.hid hQ
          have s0 : W0.cell? ⟨Q, 2, none⟩ = some (.int .i64 x.a) := qr0.q.cell 2
          have z0 := qr0.q.frozen 2
          have hx0 := hx
          clear hd hx hx0 hQ hQ1 hQ2 hQ3 qr0 hW0
          obtain ⟨F, hF⟩ : ∃ F, F = fr last x.a := ⟨_, rfl⟩
          rw [← hF] at hfr
          have HF := Lib.hid hF
          have hF2 : F ≤ 1099511627776 := by omega
          obtain ⟨L, hL⟩ : ∃ L, L = last := ⟨_, rfl⟩
          have bw0 : Below B wr W0 := by rw [HW0.out]; exact (Below.refl _ _).alloc (Nat.le_trans hB zw2) _
          have ways : (decide ((0 : Int) < (k : Int)) = false ∧ x.a = F) ∨ (∃ (b7 o7 j : Nat), A7 = some ⟨b7, o7, none⟩ ∧ (k : Int) - 1 = (j : Int) ∧ (j : Int) < (acc.length : Int) ∧ 0 < k ∧ wr.cell? ⟨b7, o7 + j * 3 + 2, none⟩ = some (.int .i64 last) ∧ b7 < wr.heap.size) := by
            rcases Hlast.out with ⟨e1, e2⟩ | ⟨j, hj, e1, e2⟩
            · refine .inl ⟨decide_eq_false (by omega), ?_⟩
              rw [HF.out]
              unfold fr
              split <;> omega
            · obtain ⟨b7, o7, e7, hb7, _, _, c7'⟩ := RdP.get (RdP.of_own Row2.out) hj
              exact .inr ⟨b7, o7, j, e7, by omega, by omega, by omega, by rw [e2] at c7'; exact c7', hb7⟩
          have bwz : Below wr.heap.size wr W0 := by rw [HW0.out]; exact (Below.refl _ _).alloc (Nat.le_refl _) _
          clear hF hL
          clear hacc
          rcases ways with ⟨e0, eF⟩ | ⟨b7, o7, j, rfl, ej, jl, k0, c7', hb7⟩
          focus
            have s0' : W0.cell? ⟨Q, 2, none⟩ = some (.int .i64 F) := by rw [← eF]; exact s0
            have q3 : QRel w p w.heap.size wo.heap.size Q A5 c5 bs2 A7 c7 acc x F W0 := by have := QR0.out; rw [eF] at this; exact this
            have Q3 := Lib.hid q3
            have E0 := Lib.hid e0
            clear s0 q3 eF e0
            go_wp2_with fail
            rw [← HQ.out, ← HW0.out]
            have e0 := E0.out
            have e00 : decide (0 < k) = false := by rw [decide_eq_false_iff_not] at e0 ⊢; omega
            go_quiet (fail)
            rename Nat => nq
            obtain ⟨W3, hW3⟩ : ∃ W3 : World, W3 = W0.drewN nq := ⟨_, rfl⟩
            rw [← hW3]
            have q3 : QRel w p w.heap.size wo.heap.size Q A5 c5 bs2 A7 c7 acc x F W3 := by rw [hW3]; exact Q3.out.drewN nq
            have s3 : W3.cell? ⟨Q, 2, none⟩ = some (.int .i64 F) := q3.q.cell 2
            have QR3 := Lib.hid q3
            clear hW3 q3 s0' e0 e00
            go_wp2_with fail
          rotate_left
          focus
            have d7 : W0.cell? ⟨b7, o7 + j * 3 + 2, none⟩ = some (.int .i64 last) := (bwz.cell (p := ⟨b7, o7 + j * 3 + 2, none⟩) hb7).trans c7'
            have hbQ : b7 < Q := by rw [HQ.out]; exact hb7
            obtain rfl : k = j + 1 := by omega
            have q3 : (0 : Int) < ((j + 1 : Nat) : Int) := by omega
            have q4 : ((j + 1 : Nat) : Int) - 1 = (j : Int) := by omega
            have jb : (j : Int) ≤ 300 := by omega
            have j0 : (0 : Int) ≤ (j : Int) := by omega
            have hwj : IntKind.i64.wrap (j : Int) = (j : Int) := by rw [IntKind.wrap_i64]; omega
            clear ej k0
            by_cases hgt : x.a < last
            focus
              have eF : last = F := by rw [HF.out]; unfold fr; rw [if_neg (by omega)]
              have q3 : ∀ m : Nat, QRel w p w.heap.size wo.heap.size Q A5 c5 bs2 (some ⟨b7, o7, none⟩) c7 acc x F ((W0.drewN m).setCell ⟨Q, 2, none⟩ (.int .i64 F)) := fun m => (QR0.out.drewN m).at_ F hQw HQ1.out HQ2.out HQ3.out
              have Q3 := Lib.hid q3
              have EF := Lib.hid eF
              rw [eF] at d7 hgt
              clear q3 eF
              go_wp2_with fail
              rw [← HQ.out, ← HW0.out]
              go_quiet (fail)
              rename Nat => nq
              go_wp2_with fail
              obtain ⟨W3, hW3⟩ : ∃ W3 : World, W3 = (W0.drewN nq).setCell ⟨Q, 2, none⟩ (.int .i64 F) := ⟨_, rfl⟩
              rw [← hW3]
              have QR3 := Lib.hid (show QRel w p w.heap.size wo.heap.size Q A5 c5 bs2 (some ⟨b7, o7, none⟩) c7 acc x F W3 by rw [hW3]; exact Q3.out nq)
              have s3 : W3.cell? ⟨Q, 2, none⟩ = some (.int .i64 F) := QR3.out.q.cell 2
              clear hW3 s0 hgt
            rotate_left
            focus
              have eF : x.a = F := by rw [HF.out]; unfold fr; split <;> omega
              have s0' : W0.cell? ⟨Q, 2, none⟩ = some (.int .i64 F) := by rw [← eF]; exact s0
              have q3 : QRel w p w.heap.size wo.heap.size Q A5 c5 bs2 (some ⟨b7, o7, none⟩) c7 acc x F W0 := by have := QR0.out; rw [eF] at this; exact this
              have Q3 := Lib.hid q3
              have hg2 : decide (F < last) = false := decide_eq_false (by omega)
              have Hg2 := Lib.hid hg2
              have EF := Lib.hid eF
              clear s0 q3 eF hgt hg2
              go_wp2_with fail
              rw [← HQ.out, ← HW0.out]
              have hg2 := Hg2.out
              go_quiet (fail)
              rename Nat => nq
              obtain ⟨W3, hW3⟩ : ∃ W3 : World, W3 = W0.drewN nq := ⟨_, rfl⟩
              rw [← hW3]
              have QR3 := Lib.hid (show QRel w p w.heap.size wo.heap.size Q A5 c5 bs2 (some ⟨b7, o7, none⟩) c7 acc x F W3 by rw [hW3]; exact Q3.out.drewN nq)
              have s3 : W3.cell? ⟨Q, 2, none⟩ = some (.int .i64 F) := QR3.out.q.cell 2
              clear hW3 s0' hg2
              go_wp2_with fail
            all_goals
              generalize hA7 : (some (⟨b7, o7, none⟩ : Addr)) = A7 at *
              rw [show (j : Int) + 1 = ((j + 1 : Nat) : Int) from by omega]
              generalize hjk : j + 1 = k at *
              have Hjk := Lib.hid hjk
              clear hA7 hjk q3 q4 d7 hwj jb j0 jl
          all_goals
            go_loopw [12] (fun iv wr => ∃ (k3 : Nat) (t : Int), k3 ≤ bs.length ∧ iv = .int .i64 k3 ∧ F ≤ t ∧ t ≤ 1099511627776 ∧ leaveT bs2 F x.s F = leaveT (bs2.drop k3) F x.s t ∧ QRel w p w.heap.size wo.heap.size Q A5 c5 bs2 A7 c7 acc x t wr) (fun iv _ => bs.length - (intOf iv).toNat)
            case atStart => exact ⟨0, F, Nat.zero_le _, rfl, Int.le_refl _, hF2, rfl, QR3.out⟩
            case round =>
              obtain ⟨k3, t, hk3, rfl, hFt, ht2, hlv, qr⟩ := hrel
              have QR := Lib.hid qr
              have Hlv := Lib.hid hlv
              have z2 : wr.cell? ⟨Q, 2, none⟩ = some (.int .i64 t) := qr.q.cell 2
              have y2 := qr.q.frozen 2
              have z1 : wr.cell? ⟨Q, 1, none⟩ = some (.int .i64 x.s) := qr.q.cell 1
              clear hlv qr s3
              by_cases hlt3 : k3 < bs.length
              · have hlt4 : k3 < bs2.length := by rw [Hb2l.out]; exact hlt3
                obtain ⟨b5, o5, rfl, hb5, d5⟩ := QR.out.bm.get hlt4
                obtain ⟨y, hy⟩ : ∃ y, y = bs2[k3] := ⟨_, rfl⟩
                have hmem : y ∈ bs2 := by rw [hy]; exact List.getElem_mem hlt4
                rw [← hy] at d5
                obtain ⟨ho1, ho2⟩ := Hok2.out y hmem
                have hlk : lookB y.2 F x.s = 0 := look_from ho2 (by omega) (by omega) hF2 p3 p4
                have hdr : bs2.drop k3 = y :: bs2.drop (k3 + 1) := by rw [hy]; exact List.drop_eq_getElem_cons hlt4
                have Hce := Lib.hid (rwhen_any y.1 y.2 F x.s wr.drew (QR.out.drew.bm.bk y hmem) ho1 hlk)
                have Ho1 := Lib.hid ho1
                have Hdr := Lib.hid hdr
                have u1 : (k3 : Int) < (bs.length : Int) := by omega
                have u2 : (0 : Int) ≤ (k3 : Int) := by omega
                clear hy hlk hdr ho1 ho2
                by_cases hw : (whenB y.2 F x.s).1 = 0
                · obtain ⟨T0, hT0⟩ : ∃ T0, T0 = (whenB y.2 F x.s).2 := ⟨_, rfl⟩
                  have hwr : whenR y.2 F x.s = T0 := by unfold whenR; rw [if_pos hw, hT0]
                  obtain ⟨_, g1, g2⟩ := whenB_le Ho1.out hw
                  rw [← hT0] at g1 g2
                  rw [hwr] at Hce
                  have Hlv2 := Lib.hid (show leaveT bs2 F x.s F = leaveT (bs2.drop (k3 + 1)) F x.s (if t < T0 then T0 else t) by rw [Hlv.out, Hdr.out, leaveT, if_pos hw, ← hT0])
                  have g3 : (0 : Int) ≤ T0 := by omega
                  clear hw hT0 hwr Hlv
                  by_cases htT : t < T0
                  · have Hlv := Lib.hid (show leaveT bs2 F x.s F = leaveT (bs2.drop (k3 + 1)) F x.s T0 by have := Hlv2.out; rw [if_pos htT] at this; exact this)
                    clear Hlv2
                    go_wp2_with fail
                    go_region_held3 (fun w' => w'.cell? ⟨b5, o5 + k3, none⟩ = some (.pointer (some ⟨y.1, 0, none⟩)) ∧ w'.cell? ⟨Q, 1, none⟩ = some (.int .i64 x.s))
                      (first
                        | go_keep)
                      (first
                        | (go_at_call 71; refine (Hce.out).mono ?_; rintro e w9 ⟨rfl, m9, rfl⟩))
                    all_goals
                      obtain ⟨v2, hv2⟩ : ∃ v2 : World, v2 = wr.drewN (1 + m9) := ⟨_, rfl⟩
                      rw [← hv2]
                      have QR2 := Lib.hid (show QRel w p w.heap.size wo.heap.size Q (some ⟨b5, o5, none⟩) c5 bs2 A7 c7 acc x t v2 by rw [hv2]; exact QR.out.drewN _)
                      have z2' : v2.cell? ⟨Q, 2, none⟩ = some (.int .i64 t) := QR2.out.q.cell 2
                      have y2' := QR2.out.q.frozen 2
                      clear hv2 z2 z1 y2 d5
                      go_wp2_with fail
                      have QR3' := Lib.hid (QR2.out.at_ T0 hQw HQ1.out HQ2.out HQ3.out)
                      go_roundw
                      case rel => exact ⟨k3 + 1, T0, hlt3, by go_num, by omega, g2, Hlv.out, QR3'.out⟩
                      case measure => simp [intOf]; omega
                  · have Hlv := Lib.hid (show leaveT bs2 F x.s F = leaveT (bs2.drop (k3 + 1)) F x.s t by have := Hlv2.out; rw [if_neg htT] at this; exact this)
                    have htT2 : T0 ≤ t := by omega
                    clear Hlv2
                    go_wp2_with fail
                    go_region_held3 (fun w' => w'.cell? ⟨b5, o5 + k3, none⟩ = some (.pointer (some ⟨y.1, 0, none⟩)) ∧ w'.cell? ⟨Q, 1, none⟩ = some (.int .i64 x.s))
                      (first
                        | go_keep)
                      (first
                        | (go_at_call 71; refine (Hce.out).mono ?_; rintro e w9 ⟨rfl, m9, rfl⟩))
                    all_goals
                      obtain ⟨v2, hv2⟩ : ∃ v2 : World, v2 = wr.drewN (1 + m9) := ⟨_, rfl⟩
                      rw [← hv2]
                      have QR2 := Lib.hid (show QRel w p w.heap.size wo.heap.size Q (some ⟨b5, o5, none⟩) c5 bs2 A7 c7 acc x t v2 by rw [hv2]; exact QR.out.drewN _)
                      have z2' : v2.cell? ⟨Q, 2, none⟩ = some (.int .i64 t) := QR2.out.q.cell 2
                      have y2' := QR2.out.q.frozen 2
                      clear hv2 z2 z1 y2 d5
                      go_wp2_with fail
                      go_roundw
                      case rel => exact ⟨k3 + 1, t, hlt3, by go_num, hFt, ht2, Hlv.out, QR2.out⟩
                      case measure => simp [intOf]; omega
                · have hwr : whenR y.2 F x.s = -1 := by unfold whenR; rw [if_neg hw]
                  rw [hwr] at Hce
                  have Hnone := Lib.hid (show leaveT bs2 F x.s F = none by rw [Hlv.out, Hdr.out, leaveT, if_neg hw])
                  have Hsh := Lib.hid (show shapeR l p = ([], (k : Int)) by rw [Heq.out, Hd.out]; exact glue_none (by rw [← leaveT_eq, ← HF.out]; exact Hnone.out))
                  have kw := QR.out.bel
                  have KW := Lib.hid kw
                  clear hw hwr Hlv kw
                  go_wp2_with fail
                  go_region_held3 (fun w' => w'.cell? ⟨b5, o5 + k3, none⟩ = some (.pointer (some ⟨y.1, 0, none⟩)) ∧ w'.cell? ⟨Q, 1, none⟩ = some (.int .i64 x.s))
                    (first
                      | go_keep)
                    (first
                      | (go_at_call 71; refine (Hce.out).mono ?_; rintro e w9 ⟨rfl, m9, rfl⟩))
                  all_goals
                    go_wp2_with fail
                    go_ret2
                    rw [Hsh.out]
                    exact ⟨none, 0, rfl, ⟨by simp, .inl ⟨rfl, rfl⟩⟩, below_drewN KW.out _⟩
              · have hsome : leaveT bs2 F x.s F = some t := by rw [Hlv.out, List.drop_eq_nil_of_le (by rw [Hb2l.out]; omega)]; rfl
                have hsome' : leaveT bs2 (fr last x.a) x.s (fr last x.a) = some t := by rw [← HF.out]; exact hsome
                obtain ⟨s1, s2, s3, s4⟩ := bsOk_step Hok2.out ⟨p5, p6⟩ hla1 hsome'
                have Hs1 := Lib.hid s1
                have Hsh := Lib.hid (show shapeR l p = glue (acc ++ [⟨x.f, x.s, t⟩]) (shapeGo (p.drop (k + 1)) ((bs2.map (tookP t x.s)).map (·.2)) t (k + 1)) by rw [Heq.out, Hd.out, glue_some (by rw [← leaveT_eq]; exact hsome'), map_took])
                clear hsome hsome' s1 Hlv
                obtain ⟨W4, hW4⟩ : ∃ W4 : World, W4 = wr := ⟨_, rfl⟩
                go_wp2_with fail
                go_loopw [14] (fun iv wr => ∃ k4 : Nat, k4 ≤ bs.length ∧ iv = .int .i64 k4 ∧ QRel w p w.heap.size wo.heap.size Q A5 c5 (tookTo bs2 t x.s k4) A7 c7 acc x t wr) (fun iv _ => bs.length - (intOf iv).toNat)
                case atStart => exact ⟨0, Nat.zero_le _, rfl, QR.out⟩
                case round =>
                  obtain ⟨k4, hk4, rfl, qr⟩ := hrel
                  have QR := Lib.hid qr
                  have x2 : wr.cell? ⟨Q, 2, none⟩ = some (.int .i64 t) := qr.q.cell 2
                  have x1 : wr.cell? ⟨Q, 1, none⟩ = some (.int .i64 x.s) := qr.q.cell 1
                  clear qr z2 z1 y2 hW4
                  by_cases hlt5 : k4 < bs.length
                  · have hlt4 : k4 < bs2.length := by rw [Hb2l.out]; exact hlt5
                    have hlt6 : k4 < (tookTo bs2 t x.s k4).length := by rw [tookTo_len]; exact hlt4
                    obtain ⟨b5, o5, rfl, hb5, d5⟩ := QR.out.bm.get hlt6
                    rw [tookTo_at hlt4 hlt6] at d5
                    have Hat := Lib.hid (tookTo_at hlt4 hlt6)
                    have hbk := QR.out.bm.bk _ (List.getElem_mem hlt6)
                    rw [tookTo_at hlt4 hlt6] at hbk
                    have hmem : bs2[k4] ∈ bs2 := List.getElem_mem hlt4
                    obtain ⟨ho1, ho2⟩ := Hok2.out _ hmem
                    have hlk : lookB bs2[k4].2 t x.s = 0 := look_after ho1 (look_from ho2 (by omega) (by omega) hF2 p3 p4) hFt ht2
                    have hbk' : Blk wr.drew bs2[k4].1 122 bs2[k4].2.rc := hbk
                    have Hce := Lib.hid (rtake_any bs2[k4].1 bs2[k4].2 t x.s wr.drew hbk' ho1 hlk)
                    have hyQ := HQ1.out _ hmem
                    have hyo := Hlt2.out _ hmem
                    have hyw := Hm2.out.ge _ hmem
                    have HyQ := Lib.hid hyQ
                    have hb5y : b5 ≠ bs2[k4].1 := fun e => QR.out.bm.far _ (List.getElem_mem hlt6) (by rw [Hat.out, ← e]; rfl)
                    have Hb5y := Lib.hid hb5y
                    clear hb5y
                    obtain ⟨y, hy⟩ : ∃ y, y = bs2[k4] := ⟨_, rfl⟩
                    rw [← hy] at d5 Hat Hce HyQ hyo hyw Hb5y
                    have Hy := Lib.hid hy
                    have u1 : (k4 : Int) < (bs.length : Int) := by omega
                    have u2 : (0 : Int) ≤ (k4 : Int) := by omega
                    clear hbk hbk' ho1 ho2 hlk hyQ hy
                    go_wp2_with fail
                    go_region_held3 (fun w' => w'.cell? ⟨b5, o5 + k4, none⟩ = some (.pointer (some ⟨y.1, 0, none⟩)) ∧ w'.cell? ⟨Q, 1, none⟩ = some (.int .i64 x.s) ∧ w'.cell? ⟨Q, 2, none⟩ = some (.int .i64 t))
                      (first
                        | go_keep
                        | exact ⟨(World.cell?_of_block (a := ⟨b5, o5 + k4, none⟩) (on9.blk b5 Hb5y.out)).trans d5, (World.cell?_of_block (a := ⟨Q, 1, none⟩) (on9.blk Q (fun e => HyQ.out e.symm))).trans x1, (World.cell?_of_block (a := ⟨Q, 2, none⟩) (on9.blk Q (fun e => HyQ.out e.symm))).trans x2⟩)
                      (first
                        | (go_at_call 72; refine (Hce.out).mono ?_; rintro e w9 ⟨rfl, b9, on9⟩))
                    all_goals
                      have QR9 := Lib.hid (show QRel w p w.heap.size wo.heap.size Q (some ⟨b5, o5, none⟩) c5 (tookTo bs2 t x.s (k4 + 1)) A7 c7 acc x t w9 by
                        have h9 := QR.out.drew.step hlt6 (s' := tookB y.2 t x.s) (w' := w9) (by rw [Hat.out]; exact on9) (by rw [Hat.out]; exact b9) (by rw [Hat.out]; exact HyQ.out) (by rw [Hat.out]; exact hyo) (by rw [Hat.out]; exact hyw)
                        rw [Hat.out] at h9
                        rw [tookTo_succ hlt4, ← Hy.out]
                        exact h9)
                      clear b9 on9 d5 x1 x2
                      go_wp2_with fail
                      go_roundw
                      case rel => exact ⟨k4 + 1, hlt5, by go_num, QR9.out⟩
                      case measure => simp [intOf]; omega
                  · obtain ⟨bs3, hbs3⟩ : ∃ bs3, bs3 = bs2.map (tookP t x.s) := ⟨_, rfl⟩
                    have QR5 := Lib.hid (show QRel w p w.heap.size wo.heap.size Q A5 c5 bs3 A7 c7 acc x t wr by
                      have h9 := QR.out
                      rw [show k4 = bs2.length by rw [Hb2l.out]; omega, tookTo_all] at h9
                      rw [hbs3]; exact h9)
                    rw [← hbs3] at Hs1 Hsh
                    have Hbs3 := Lib.hid hbs3
                    have x0 : wr.cell? ⟨Q, 0, none⟩ = some (.int .i64 x.f) := QR5.out.q.cell 0
                    have zr := QR5.out.lo
                    have hal : acc.length + 1 ≤ 301 := by rw [Hacc.out]; omega
                    have Hnew := Lib.hid (show Rd (wr.alloc (.cells #[.int .i64 x.f, .int .i64 x.s, .int .i64 t] 58)) (wr.heap.size + 1) 3 Pk.cs (some ⟨wr.heap.size, 0, none⟩) [(⟨x.f, x.s, t⟩ : Pk)] from Rd.of_block (heap_alloc_new _ _) rfl (Nat.lt_succ_self _) (by omega) Pk.cs_len)
                    clear QR hbs3
                    go_wp2_with (at_builtin; refine wpList_append_rd _ Pk.cs rfl (.tmp 106) (.tmp 108) 26 rfl wo.heap.size 58 i1 (.agg #[.int .i64 0, .int .i64 0, .int .i64 0]) 3 24 Tryz.underlying26 hi1 hy0 hy1 hy2 rfl (by omega) Pk.cs_len Pk.cs_one (.slice A7 acc.length c7) acc.length (acc.flatMap Pk.cs) rfl (QR5.out.row.alloc _) (wr.heap.size + 1) (some ⟨wr.heap.size, 0, none⟩) 1 [⟨x.f, x.s, t⟩] rfl Hnew.out (by simp only [maxLen, List.length_cons, List.length_nil]; omega) (by simp only [List.length_cons, List.length_nil]; omega) (by simp; omega) ?_; intro v9 w9 row9 g9 at9; obtain ⟨A9, c9, hv9, row9⟩ := own_app (l := acc) (l' := [(⟨x.f, x.s, t⟩ : Pk)]) row9 (by omega); rw [hv9] at at9 ⊢; clear hv9)
                    have hf3 : bs3.map (·.1) = bs.map (·.1) := by rw [Hbs3.out, List.map_map, ← Hb2f.out]; rfl
                    have hbl3 : bs3.length = bs.length := by rw [Hbs3.out, List.length_map]; exact Hb2l.out
                    have k9 : Below wo.heap.size wr w9 := below_app ((Below.refl _ _).alloc zr _) (QR5.out.row.alloc _) g9 (Nat.le_refl _) (le_alloc zr _)
                    have bm9 : BrMem w.heap.size w9 A5 c5 bs3 := QR5.out.bm.belowB k9 (fun y hy => by
                      have : y.1 ∈ bs3.map (·.1) := List.mem_map.2 ⟨y, hy, rfl⟩
                      rw [hf3] at this
                      obtain ⟨z, hz, e⟩ := List.mem_map.1 this
                      rw [← e]; exact Hlt6.out z hz) (fun g e => Hrl6.out g (by rw [hbl3] at e; exact e))
                    refine ⟨⟨k + 1, acc ++ [⟨x.f, x.s, t⟩], A9, c9, bs3, t, hlt, by rw [List.length_append, Hacc.out]; rfl, by go_num, by rw [List.length_append]; rfl, hbl3, hf3, Hs1.out, by omega, ht2, .inr ⟨acc.length, by simp, by rw [Hacc.out], by simp⟩, Hsh.out, bm9, row9, QR5.out.bel.trans (k9.mono zw), Nat.le_trans zr k9.size⟩, ?_⟩
                    first
                      | (simp [intOf]; omega)
                      | (have hjk := Hjk.out; simp [intOf]; omega)
        · have hd : p.drop k = [] := List.drop_eq_nil_of_le (by omega)
          have hsh : shapeR l p = (acc, -1) := by
            rw [Heq.out, hd]
            show glue acc ([], -1) = _
            unfold glue
            rw [if_pos rfl, List.append_nil]
          have Hsh := Lib.hid hsh
          clear hd hsh
          go_wp2_with fail
          go_ret2
          rw [Hsh.out]
          exact ⟨A7, c7, by rw [Hacc.out]; rfl, own_mono Row2.out zw, kb2⟩
end Go.Proofs.YthgpbdlmadjndaaGreatDoor
