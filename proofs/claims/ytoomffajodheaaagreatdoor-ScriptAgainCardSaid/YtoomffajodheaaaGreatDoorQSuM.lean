/- Package curve: the order of tidy's sort. No condition. slices.SortFunc of lines by tidy's order: the row holds the same lines, in order. slices.Clone of lines. Conditions: where they lie; few lines. Package curve: tidy, at right lines. Conditions: where they lie; at least one, few. Package curve: Tidy, and Sum, of whatever is asked. Conditions: the sentinels that they name lie in their variables. -/
import Derived.Test.YtoomffajodheaaaGreatDoorQDlA
import Derived.Test.YtoomffajodheaaaGreatDoorQTdPl
import Derived.Test.YtoomffajodheaaaGreatDoorQBaseM
import Derived.Deep.RegionHeld3
import Derived.Deep.CutRange
import Derived.Test.YtoomffajodheaaaGreatDoorQCvM
import Derived.Test.YtoomffajodheaaaGreatDoorQShelfX
import Derived.Laws.OwnMore
set_option linter.all false
namespace Go.Proofs.YtoomffajodheaaaGreatDoor
open Go.RowKit
set_option maxRecDepth 100000
def ccmpI (a b : Int) : Int := if a < b then -1 else if b < a then 1 else 0
theorem isNaN_any (a : Int) (w : World) : Calls Tryz.prog 152 #[.int .i64 a] w fun e w' => e = .returned (.bool false) ∧ w' = w := by
  have h1 : (a != a) = false := by simp
  go_enter Tryz.func152, Tryz.ntmps152
  go_wp2_with fail
  go_ret
  exact ⟨by first | rfl | simp, rfl⟩
theorem ccompare_any (a b : Int) (w : World) : Calls Tryz.prog 128 #[.int .i64 a, .int .i64 b] w fun e w' => e = .returned (.int .i64 (ccmpI a b)) ∧ w' = w := by
  by_cases h1 : a < b
  · have E := Lib.hid (show ccmpI a b = -1 from if_pos h1)
    go_enter Tryz.func128, Tryz.ntmps128
    go_wp2_with fail
    refine (isNaN_any a w).mono ?_
    rintro e w1 ⟨rfl, hw1⟩
    obtain rfl : w = w1 := hw1.symm
    clear hw1
    go_wp2_with fail
    refine (isNaN_any b w).mono ?_
    rintro e w1 ⟨rfl, hw1⟩
    obtain rfl : w = w1 := hw1.symm
    clear hw1
    go_wp2_with fail
    go_ret
    exact ⟨by rw [E.out]; rfl, rfl⟩
  · by_cases h2 : b < a
    · have E := Lib.hid (show ccmpI a b = 1 from (if_neg h1).trans (if_pos h2))
      go_enter Tryz.func128, Tryz.ntmps128
      go_wp2_with fail
      refine (isNaN_any a w).mono ?_
      rintro e w1 ⟨rfl, hw1⟩
      obtain rfl : w = w1 := hw1.symm
      clear hw1
      go_wp2_with fail
      refine (isNaN_any b w).mono ?_
      rintro e w1 ⟨rfl, hw1⟩
      obtain rfl : w = w1 := hw1.symm
      clear hw1
      go_wp2_with fail
      go_ret
      exact ⟨by rw [E.out]; rfl, rfl⟩
    · have E := Lib.hid (show ccmpI a b = 0 from (if_neg h1).trans (if_neg h2))
      go_enter Tryz.func128, Tryz.ntmps128
      go_wp2_with fail
      refine (isNaN_any a w).mono ?_
      rintro e w1 ⟨rfl, hw1⟩
      obtain rfl : w = w1 := hw1.symm
      clear hw1
      go_wp2_with fail
      refine (isNaN_any b w).mono ?_
      rintro e w1 ⟨rfl, hw1⟩
      obtain rfl : w = w1 := hw1.symm
      clear hw1
      go_wp2_with fail
      go_ret
      exact ⟨by rw [E.out]; rfl, rfl⟩
def orI (m n : Int) : Int := if m = 0 then n else m
theorem or2_any (g : Nat) (m n : Int) (w : World) (h0 : w.cell? ⟨g, 0, none⟩ = some (.int .i64 m)) (h1 : w.cell? ⟨g, 1, none⟩ = some (.int .i64 n)) :
    Calls Tryz.prog 158 #[.slice (some ⟨g, 0, none⟩) 2 2] w fun e w' => e = .returned (.int .i64 (orI m n)) ∧ w' = w := by
  go_enter Tryz.func158, Tryz.ntmps158
  go_wp2_with fail
  go_loopw [8] (fun iv wr => ∃ k : Nat, k ≤ 2 ∧ iv = .int .i64 k ∧ (1 ≤ k → m = 0) ∧ (2 ≤ k → n = 0) ∧ wr = w) (fun iv _ => 2 - (intOf iv).toNat)
  case atStart => exact ⟨0, by omega, rfl, fun h => by omega, fun h => by omega, rfl⟩
  case round =>
    obtain ⟨k, hk, rfl, hm, hn, hwr⟩ := hrel
    obtain rfl : w = wr := hwr.symm
    have HM := Lib.hid hm
    have HN := Lib.hid hn
    clear hwr hm hn
    match k, hk with
    | 0, _ =>
      by_cases hm0 : m = 0
      · have E := Lib.hid hm0
        subst hm0
        go_wp2_with fail
        go_roundw
        case rel => exact ⟨1, by omega, rfl, by first | exact fun _ => rfl | simp, fun h => (by omega), by first | rfl | trivial⟩
        case measure => simp [intOf]
      · have hb : (m != 0) = true := by simp [hm0]
        have E := Lib.hid (show orI m n = m from if_neg hm0)
        clear hm0
        go_wp2_with fail
        go_ret
        exact ⟨by rw [E.out]; rfl, rfl⟩
    | 1, _ =>
      by_cases hn0 : n = 0
      · subst hn0
        go_wp2_with fail
        go_roundw
        case rel => exact ⟨2, by omega, rfl, fun _ => HM.out (by omega), by first | exact fun _ => rfl | simp, by first | rfl | trivial⟩
        case measure => simp [intOf]
      · have hb : (n != 0) = true := by simp [hn0]
        have E := Lib.hid (show orI m n = n from if_pos (HM.out (by omega)))
        clear hn0
        go_wp2_with fail
        go_ret
        exact ⟨by rw [E.out]; rfl, rfl⟩
    | 2, _ =>
      have E := Lib.hid (show orI m n = 0 by unfold orI; rw [if_pos (HM.out (by omega)), HN.out (by omega)])
      go_wp2_with fail
      go_ret
      exact ⟨by rw [E.out]; rfl, rfl⟩
def cmpL (x y : Ln) : Int := orI (ccmpI x.b y.b) (ccmpI x.r y.r)
theorem cmpL_lt (x y : Ln) : cmpL x y < 0 ↔ x.b < y.b ∨ (x.b = y.b ∧ x.r < y.r) := by
  unfold cmpL orI ccmpI
  split <;> split <;> omega
set_option maxHeartbeats 2000000 in
theorem tdy1_any (x y : Ln) (w : World) :
    Calls Tryz.prog 157 #[.agg #[.int .i64 x.b, .int .i64 x.r], .agg #[.int .i64 y.b, .int .i64 y.r]] w fun e w' => e = .returned (.int .i64 (cmpL x y)) ∧ Grew w w' := by
  go_enter Tryz.func157, Tryz.ntmps157
  go_upto_region 1 with fail
  obtain ⟨V, hV⟩ : ∃ V : World, V = (w.alloc (.cells #[.int .i64 x.b, .int .i64 x.r] 75)).alloc (.cells #[.int .i64 y.b, .int .i64 y.r] 75) := ⟨_, rfl⟩
  have gV : Grew w V := by rw [hV]; exact (Grew.alloc _ _).trans (Grew.alloc _ _)
  have bx : Blk V w.heap.size 75 #[.int .i64 x.b, .int .i64 x.r] := by rw [hV]; exact (Blk.new _ _ _).alloc _
  have by_ : Blk V (w.heap.size + 1) 75 #[.int .i64 y.b, .int .i64 y.r] := by
    have := Blk.new (w.alloc (.cells #[.int .i64 x.b, .int .i64 x.r] 75)) 75 #[.int .i64 y.b, .int .i64 y.r]
    rw [show (w.alloc (.cells #[.int .i64 x.b, .int .i64 x.r] 75)).heap.size = w.heap.size + 1 by simp] at this
    rw [hV]
    exact this
  obtain ⟨gx, hgx⟩ : ∃ gx, gx = w.heap.size := ⟨_, rfl⟩
  rw [← hV, ← hgx]
  rw [← hgx] at bx by_
  have x0 : V.cell? ⟨gx, 0, none⟩ = some (.int .i64 x.b) := bx.cell 0
  have x1 : V.cell? ⟨gx, 1, none⟩ = some (.int .i64 x.r) := bx.cell 1
  have y0 : V.cell? ⟨gx + 1, 0, none⟩ = some (.int .i64 y.b) := by_.cell 0
  have y1 : V.cell? ⟨gx + 1, 1, none⟩ = some (.int .i64 y.r) := by_.cell 1
  have bo : Blk (V.alloc (.cells #[.int .i64 (ccmpI x.b y.b), .int .i64 (ccmpI x.r y.r)] 3)).drew V.heap.size 3 #[.int .i64 (ccmpI x.b y.b), .int .i64 (ccmpI x.r y.r)] := Blk.new V _ _
  have OC := Lib.hid (or2_any V.heap.size (ccmpI x.b y.b) (ccmpI x.r y.r) (V.alloc (.cells #[.int .i64 (ccmpI x.b y.b), .int .i64 (ccmpI x.r y.r)] 3)).drew (bo.cell 0) (bo.cell 1))
  clear hV hgx bx by_ bo
  go_region_held3 (fun w' => w'.cell? ⟨gx, 0, none⟩ = some (.int .i64 x.b) ∧ w'.cell? ⟨gx, 1, none⟩ = some (.int .i64 x.r) ∧ w'.cell? ⟨gx + 1, 0, none⟩ = some (.int .i64 y.b) ∧ w'.cell? ⟨gx + 1, 1, none⟩ = some (.int .i64 y.r))
    (first | go_keep)
    (first
      | (go_at_call 128; refine (ccompare_any _ _ _).mono ?_; rintro e w6 ⟨rfl, rfl⟩)
      | (go_at_call 158; refine OC.out.mono ?_; rintro e w7 ⟨rfl, rfl⟩))
  all_goals
    go_wp2_with fail
    go_ret
    exact ⟨rfl, gV.trans ((Grew.alloc _ _).trans (Grew.drewN _ 1))⟩
end Go.Proofs.YtoomffajodheaaaGreatDoor
namespace Go.Proofs.YtoomffajodheaaaGreatDoor
open Go.RowKit
set_option maxRecDepth 100000
instance : Inhabited Ln := ⟨⟨0, 0⟩⟩
set_option maxHeartbeats 400000 in
theorem cloneLn_any (A : Option Addr) (c : Nat) (l : List Ln) (w : World) (B : Nat) (hB : B ≤ w.heap.size) (h : RdL w B A l) (hl : l.length ≤ 4294967296) :
    Calls Tryz.prog 155 #[.slice A l.length c] w (EndOwn Ln.cs 2 75 l w) := by
  obtain ⟨i0, hi0, hz0, hz1, hz2⟩ := info_parts infoLn
  have r1 := @Lib.run_eql_slice_nil Tryz.prog
  cases A with
  | none =>
    obtain rfl : l = [] := by
      rcases l with _ | ⟨x, r⟩
      · rfl
      · obtain ⟨b, o, h9, _⟩ := h (by simp)
        cases h9
    go_enter Tryz.func155, Tryz.ntmps155
    go_wp2_with fail
    go_ret
    exact ⟨none, 0, rfl, ⟨by simp, .inl ⟨rfl, rfl⟩⟩, Below.refl _ _⟩
  | some ad =>
    have hown : (w.alloc (.cells #[] 75)).ownsRow w.heap.size 75 2 (.slice (some ⟨w.heap.size, 0, none⟩) 0 0) 0 [] := World.ownsRow_made w #[] 0 (Nat.le_refl _) (Nat.zero_le _) rfl
    have kb : Below w.heap.size w (w.alloc (.cells #[] 75)) := (Below.refl _ _).alloc (Nat.le_refl _) _
    go_enter Tryz.func155, Tryz.ntmps155
    go_wp2_with (at_builtin; refine wpList_append_rd _ Ln.cs rfl (.tmp 5) (.tmp 6) 57 rfl w.heap.size 75 i0 _ 2 16 Tryz.underlying57 hi0 hz0 hz1 hz2 rfl (by omega) Ln.cs_len Ln.cs_one (.slice (some ⟨w.heap.size, 0, none⟩) 0 0) 0 [] rfl hown B (some ad) c l rfl (h.below (kb.mono hB)) (by simp only [maxLen]; omega) (by omega) (by simp) ?_; intro v1 w1 hown1 hg1 hat1; simp only [Nat.zero_add, List.nil_append] at hown1; obtain ⟨A1, c1, rfl⟩ := own_slice hown1 (by omega))
    go_ret
    exact ⟨A1, c1, rfl, hown1, below_app kb hown hg1 (Nat.le_refl _) (by simp)⟩
theorem flatK_get (l : List Ln) (j : Nat) (hj : j < l.length * 2) : (Go.Sort.flatK Ln.cs 2 l.toArray)[j]! = (l.flatMap Ln.cs)[j]'(by rw [flat_len Ln.cs 2 Ln.cs_len]; exact hj) := by
  have h1 := Go.Sort.get_flatK Ln.cs 2 l.toArray j (by simpa using hj)
  rw [h1]
  have h2 := flat_get Ln.cs 2 (by omega) Ln.cs_len l j
  have hq : j / 2 < l.length := by omega
  rw [List.getElem?_eq_getElem hq, Option.bind_some] at h2
  have h3 : (l.flatMap Ln.cs)[j]? = some ((l.flatMap Ln.cs)[j]'(by rw [flat_len Ln.cs 2 Ln.cs_len]; exact hj)) := List.getElem?_eq_getElem _
  rw [h3] at h2
  have h4 : l.toArray[j / 2]! = l[j / 2] := by rw [getElem!_pos l.toArray (j / 2) (by simpa using hq)]; simp
  rw [h4, List.getElem!_eq_getElem?_getD, ← h2]
  rfl
theorem lex_swo : Go.Sort.SWO (Go.Proofs.ltOf cmpL) := by
  have key : ∀ x y : Ln, Go.Proofs.ltOf cmpL x y = decide (x.b < y.b ∨ (x.b = y.b ∧ x.r < y.r)) := fun x y => by
    unfold Go.Proofs.ltOf
    exact decide_eq_decide.2 (cmpL_lt x y)
  refine ⟨fun x => ?_, fun x y z h1 h2 => ?_, fun x y z h1 h2 => ?_⟩
  · rw [key]; exact decide_eq_false (by omega)
  · rw [key] at *
    have h1 := of_decide_eq_true h1
    have h2 := of_decide_eq_true h2
    exact decide_eq_true (by omega)
  · rw [key] at *
    have h1 := of_decide_eq_false h1
    have h2 := of_decide_eq_false h2
    exact decide_eq_false (by omega)
set_option maxHeartbeats 1000000 in
theorem sortLn_any (g cap base : Nat) (l : List Ln) (w : World) (h : w.ownsRow base 75 2 (.slice (some ⟨g, 0, none⟩) l.length cap) l.length (l.flatMap Ln.cs)) (hl : l.length ≤ 4294967296) :
    Calls Tryz.prog 156 #[.slice (some ⟨g, 0, none⟩) l.length cap, .func (.func 157) #[] #[]] w fun e w' => e = .returned (.tuple #[]) ∧ ∃ s : List Ln, s.Perm l ∧ s.Pairwise lexLe ∧ w'.ownsRow base 75 2 (.slice (some ⟨g, 0, none⟩) s.length cap) s.length (s.flatMap Ln.cs) ∧ Below base w w' := by
  obtain ⟨_, ⟨h1, _⟩ | ⟨g', cap', cur, hv, hg, hh, hn, hc, hs, ht⟩⟩ := h
  · simp at h1
  · simp only [Value.slice.injEq, Option.some.injEq, Addr.mk.injEq, and_true, true_and] at hv
    obtain ⟨rfl, rfl⟩ := hv
    have hlt : g < w.heap.size := lt_of_block hh
    have hcl : l.length * 2 ≤ cur.size := by omega
    have hcell : ∀ j (hj : j < l.length * 2), cur[j]? = some ((l.flatMap Ln.cs)[j]'(by rw [flat_len Ln.cs 2 Ln.cs_len]; exact hj)) := fun j hj => by
      have h9 : (cur.toList.take (l.length * 2))[j]? = (l.flatMap Ln.cs)[j]? := by rw [ht]
      rw [List.getElem?_take, if_pos hj] at h9
      rw [List.getElem?_eq_getElem (show j < (l.flatMap Ln.cs).length by rw [flat_len Ln.cs 2 Ln.cs_len]; exact hj)] at h9
      rw [← h9]
      simp
    have hH : Go.Sort.HoldsK Ln.cs 2 w g 0 l.toArray := fun j hj => by
      have hj2 : j < l.length * 2 := by simpa using hj
      rw [Nat.zero_add, flatK_get l j hj2]
      refine ⟨(cell_blk hh j).trans (hcell j hj2), ?_⟩
      simp [World.frozen?, hh]
    have eg : ∀ args w, (callFunc 157 args).run Tryz.prog w = .ok (.enter 157 args) w := enters_of Tryz.func157 (by kernel_rfl) rfl
    have hcmp : Go.Proofs.CmpLays Tryz.prog 157 #[] Ln.cs 2 cmpL g 0 l.toArray.size w := fun m os dk _ x y => (tdy1_any x y _).mono fun e w' ⟨e1, q, os', e2⟩ => ⟨e1, q, os', e2⟩
    have hS := AnyQ.slices_SortFunc Tryz.sortF 2 Tryz.isAgg75 Tryz.sizeOf75 Ln.cs Ln.cs_len Ln.cs_one cmpL lex_swo 157 #[] g 0 cap l.toArray w eg hcmp hH hlt (by simp; omega)
    change Calls Tryz.prog 156 _ _ _ at hS
    refine hS.mono ?_
    rintro e w' ⟨rfl, d', n, os, hpm, hso, rfl⟩
    refine ⟨rfl, d'.toList, ?_, ?_, ?_, ?_⟩
    · obtain ⟨p1, _, p3⟩ := hpm
      have e1 : d'.extract 0 l.toArray.size = d' := by rw [← p1]; simp
      have e2 : l.toArray.extract 0 l.toArray.size = l.toArray := by simp
      rw [e1, e2] at p3
      exact p3
    · obtain ⟨p1, _, _⟩ := hpm
      rw [List.pairwise_iff_getElem]
      intro i j hi hj hij
      have h9 := hso i j (Nat.zero_le _) hij (by rw [← p1]; simpa using hj)
      have hi' : i < d'.size := by simpa using hi
      have hj' : j < d'.size := by simpa using hj
      rw [getElem!_pos d' i hi', getElem!_pos d' j hj'] at h9
      unfold Go.Proofs.ltOf at h9
      have h8 := of_decide_eq_false h9
      rw [cmpL_lt] at h8
      simp only [Array.getElem_toList]
      unfold lexLe
      omega
    · obtain ⟨p1, _, _⟩ := hpm
      have hd : d'.size = l.length := by simpa using p1
      have hfs : (Go.Sort.flatK Ln.cs 2 d').size = l.length * 2 := by simp [hd]
      have hblk : (Go.Proofs.sortWorldK Ln.cs 2 w g 0 n d' os).heap[g]? = some (.cells (Go.Sort.putCells id 0 (Go.Sort.flatK Ln.cs 2 d') cur) 75 (0, 0)) := by
        unfold Go.Proofs.sortWorldK
        rw [Go.Sort.heap_grow_old _ _ (by simp [Go.Sort.putRowK, Go.Sort.ahead]; exact hlt)]
        unfold Go.Sort.putRowK Go.Sort.putRow Go.Sort.mapBlock Go.Sort.ahead
        simp only [Array.getElem?_modify, if_true]
        rw [hh]
        rfl
      have hlen : d'.toList.length = l.length := by simpa using hd
      refine ⟨by rw [flat_len Ln.cs 2 Ln.cs_len], .inr ⟨g, cap, _, by rw [hlen], hg, hblk, by rw [hlen]; exact hn, hc, by unfold Go.Sort.putCells; rw [Array.size_mapIdx]; exact hs, ?_⟩⟩
      rw [hlen]
      apply List.ext_getElem?
      intro j
      rw [List.getElem?_take]
      by_cases hj : j < l.length * 2
      · rw [if_pos hj]
        have h5 : j < cur.size := by omega
        have h6 : (Go.Sort.putCells id 0 (Go.Sort.flatK Ln.cs 2 d') cur)[j]? = some (Go.Sort.flatK Ln.cs 2 d')[j]! := by
          unfold Go.Sort.putCells
          rw [Array.getElem?_mapIdx, Array.getElem?_eq_getElem h5]
          simp [hfs, hj]
        have h7 := flatK_get d'.toList j (by rw [hlen]; exact hj)
        rw [show d'.toList.toArray = d' from by simp] at h7
        rw [List.getElem?_eq_getElem (show j < (d'.toList.flatMap Ln.cs).length by rw [flat_len Ln.cs 2 Ln.cs_len, hlen]; exact hj), ← h7, ← h6]
        simp
      · rw [if_neg hj, List.getElem?_eq_none (by rw [flat_len Ln.cs 2 Ln.cs_len, hlen]; omega)]
    · unfold Go.Proofs.sortWorldK
      have hk : Below base w (Go.Sort.putRowK Ln.cs 2 (Go.Sort.ahead w n) g 0 d') := by
        refine ⟨rfl, rfl, rfl, by simp [Go.Sort.putRowK, Go.Sort.ahead], fun i hi => ?_⟩
        unfold Go.Sort.putRowK Go.Sort.putRow Go.Sort.mapBlock Go.Sort.ahead
        simp only [Array.getElem?_modify]
        rw [if_neg (by omega)]
      refine hk.trans ?_
      have := below_grown_sl base (Go.Sort.putRowK Ln.cs 2 (Go.Sort.ahead w n) g 0 d') 0 os (by simp [Go.Sort.putRowK, Go.Sort.ahead]; omega)
      exact this
end Go.Proofs.YtoomffajodheaaaGreatDoor
namespace Go.Proofs.YtoomffajodheaaaGreatDoor
open Go.RowKit
set_option maxRecDepth 100000
theorem prod_bd {a b : Int} (ha : -100000 ≤ a ∧ a ≤ 100000) (hb : -100000 ≤ b ∧ b ≤ 100000) : -10000000000 ≤ a * b ∧ a * b ≤ 10000000000 := by
  have h1 := Int.mul_nonneg (show 0 ≤ 100000 - a by omega) (show 0 ≤ 100000 - b by omega)
  have h2 := Int.mul_nonneg (show 0 ≤ 100000 + a by omega) (show 0 ≤ 100000 + b by omega)
  have h3 := Int.mul_nonneg (show 0 ≤ 100000 - a by omega) (show 0 ≤ 100000 + b by omega)
  have h4 := Int.mul_nonneg (show 0 ≤ 100000 + a by omega) (show 0 ≤ 100000 - b by omega)
  rw [Int.sub_mul, Int.mul_sub, Int.mul_sub] at h1
  rw [Int.add_mul, Int.mul_add, Int.mul_add] at h2
  rw [Int.sub_mul, Int.mul_add, Int.mul_add] at h3
  rw [Int.add_mul, Int.mul_sub, Int.mul_sub] at h4
  omega
theorem needless_any (a b c : Ln) (w : World) (ha : okLn a) (hb : okLn b) (hc : okLn c) :
    Calls Tryz.prog 159 #[.agg #[.int .i64 a.b, .int .i64 a.r], .agg #[.int .i64 b.b, .int .i64 b.r], .agg #[.int .i64 c.b, .int .i64 c.r]] w fun e w' => e = .returned (.bool (needB a b c)) ∧ Grew w w' := by
  obtain ⟨a1, a2, a3, a4⟩ := ha
  obtain ⟨b1, b2, b3, b4⟩ := hb
  obtain ⟨c1, c2, c3, c4⟩ := hc
  obtain ⟨m0, m1⟩ := prod_bd (a := c.b - a.b) (b := a.r - b.r) (by omega) (by omega)
  obtain ⟨n0, n1⟩ := prod_bd (a := b.b - a.b) (b := a.r - c.r) (by omega) (by omega)
  have E := Lib.hid (show needB a b c = decide ((c.b - a.b) * (a.r - b.r) ≤ (b.b - a.b) * (a.r - c.r)) from rfl)
  go_enter Tryz.func159, Tryz.ntmps159
  go_wp2_with fail
  go_ret
  exact ⟨by rw [E.out]; rfl, ((Grew.alloc _ _).trans (Grew.alloc _ _)).trans (Grew.alloc _ _)⟩
theorem own_trunc {w : World} {base : Nat} {e : TypeId} {sz : Nat} {f : Ln → List Value} {A : Option Addr} {c : Nat} {l l' : List Ln} (hf : ∀ x, (f x).length = sz) (h : w.ownsRow base e sz (.slice A (l ++ l').length c) (l ++ l').length ((l ++ l').flatMap f)) : w.ownsRow base e sz (.slice A l.length c) l.length (l.flatMap f) := by
  obtain ⟨_, ⟨h1, h2⟩ | ⟨g, cap, cur, hv, hg, hh, hn, hc, hs, ht⟩⟩ := h
  · have hl : l ++ l' = [] := List.eq_nil_of_length_eq_zero h2
    obtain ⟨rfl, rfl⟩ := List.append_eq_nil_iff.1 hl
    exact ⟨by simp, .inl ⟨h1, rfl⟩⟩
  · simp only [Value.slice.injEq, true_and] at hv
    obtain ⟨rfl, rfl⟩ := hv
    refine ⟨by rw [flat_len f sz hf], .inr ⟨g, c, cur, rfl, hg, hh, by rw [List.length_append] at hn; omega, hc, hs, ?_⟩⟩
    have h9 : (cur.toList.take ((l ++ l').length * sz)).take (l.length * sz) = ((l ++ l').flatMap f).take (l.length * sz) := by rw [ht]
    rw [List.take_take, List.flatMap_append, ← flat_len f sz hf l, List.take_left, flat_len f sz hf l] at h9
    rw [← h9]
    congr 1
    have := Nat.mul_le_mul_right sz (show l.length ≤ (l ++ l').length by simp)
    omega
theorem own_capL {w : World} {base : Nat} {e : TypeId} {sz : Nat} {A : Option Addr} {n c : Nat} {xs : List Value} (h : w.ownsRow base e sz (.slice A n c) n xs) : n ≤ c := by
  obtain ⟨_, ⟨h1, h2⟩ | ⟨g, cap, cur, hv, hg, hh, hn, hc, hs, ht⟩⟩ := h
  · omega
  · simp only [Value.slice.injEq, true_and] at hv
    omega
set_option maxHeartbeats 8000000 in
theorem tidy_any (A : Option Addr) (c : Nat) (l : List Ln) (w : World) (B : Nat) (hB : B ≤ w.heap.size) (h : RdL w B A l) (h1 : 1 ≤ l.length) (hl : l.length ≤ 1000) (hok : ∀ x ∈ l, okLn x) :
    Calls Tryz.prog 132 #[.slice A l.length c] w (EndOwn Ln.cs 2 75 (tidyRef l) w) := by
  obtain ⟨i0, hi0, hz0, hz1, hz2⟩ := info_parts infoLn
  go_enter Tryz.func132, Tryz.ntmps132
  go_wp2_with fail
  refine (cloneLn_any A c l w B hB h (by omega)).mono ?_
  rintro e w1 ⟨A1, c1, rfl, o1, k1⟩
  obtain ⟨g, cap, hv1, _, hlt1⟩ := o1.form (by omega)
  simp only [Value.slice.injEq, true_and] at hv1
  obtain ⟨rfl, rfl⟩ := hv1
  go_wp2_with fail
  refine (sortLn_any g c1 w.heap.size l w1 o1 (by omega)).mono ?_
  rintro e w2 ⟨rfl, s, hp, hs, o2, k2⟩
  have hsl : s.length = l.length := hp.length_eq
  have hsok : ∀ x ∈ s, okLn x := fun x hx => hok x (hp.mem_iff.1 hx)
  have k2' : Below w.heap.size w w2 := k1.trans k2
  have hT : tidyRef l = (hullL s).reverse := (tidy_eq (fun x => hp.mem_iff) hs (fun y hy => (hsok y hy).2.2.1)).symm
  have r2 := RdL.of_own o2
  rw [← hsl]
  have HT := Lib.hid hT
  have HOK := Lib.hid hsok
  have K2 := Lib.hid k2'
  have z2 := k2'.size
  have R2 := Lib.hid r2
  have hs1 : 1 ≤ s.length := by omega
  have hs2 : s.length ≤ 1000 := by omega
  clear hT hsok k2' r2 o2 o1 hs hp k1 k2 hok h hlt1 hsl h1 hl
  go_wp2_with fail
  go_loopw [3, 14] (fun ov iv wr => ∃ (k : Nat) (st : List Ln) (A3 : Option Addr) (c3 : Nat), k ≤ s.length ∧ iv = .int .i64 k ∧ ov = .slice A3 st.reverse.length c3 ∧ st = (s.take k).foldl hullStep [] ∧ st.length ≤ k ∧ (∀ x ∈ st, okLn x) ∧ wr.ownsRow w2.heap.size 75 2 (.slice A3 st.reverse.length c3) st.reverse.length (st.reverse.flatMap Ln.cs) ∧ Below w2.heap.size w2 wr) (fun _ iv _ => s.length - (intOf iv).toNat)
  case atStart => exact ⟨0, [], none, 0, Nat.zero_le _, rfl, rfl, rfl, by simp, by simp, ⟨by simp, .inl ⟨rfl, rfl⟩⟩, Below.refl _ _⟩
  case round =>
    obtain ⟨k, st, A3, c3, hk, rfl, rfl, hst, hsk, hso, row, hbw⟩ := hrel
    have HST := Lib.hid hst
    have HSO := Lib.hid hso
    have ROW := Lib.hid row
    have zw := hbw.size
    clear hst hso row
    by_cases hlt : k < s.length
    · have hokk := HOK.out _ (List.getElem_mem hlt)
      have OKK := Lib.hid hokk
      obtain ⟨r1, r2, r3, r4⟩ := hokk
      have hstep : (s.take (k + 1)).foldl hullStep [] = hullStep st s[k] := by
        rw [List.take_succ_eq_append_getElem hlt, List.foldl_append, ← HST.out]
        rfl
      have HSTEP := Lib.hid hstep
      obtain ⟨b, o, e0, hb, d0, d1⟩ := RdL.get (R2.out.below hbw) hlt
      simp only [Option.some.injEq, Addr.mk.injEq, and_true] at e0
      obtain ⟨rfl, rfl⟩ := e0
      simp only [Nat.zero_add] at d0 d1
      clear hstep
      go_upto_region 7 with fail
      obtain ⟨V, hV⟩ : ∃ V : World, V = wr.alloc (.cells #[.int .i64 s[k].b, .int .i64 s[k].r] 75) := ⟨_, rfl⟩
      have bx : Blk V wr.heap.size 75 #[.int .i64 s[k].b, .int .i64 s[k].r] := by rw [hV]; exact Blk.new _ _ _
      have rowV : V.ownsRow w2.heap.size 75 2 (.slice A3 st.reverse.length c3) st.reverse.length (st.reverse.flatMap Ln.cs) := by rw [hV]; exact ROW.out.alloc _
      have kV : Below w2.heap.size w2 V := by rw [hV]; exact hbw.alloc zw _
      obtain ⟨gx, hgx⟩ : ∃ gx, gx = wr.heap.size := ⟨_, rfl⟩
      have hgxn : ∀ q, (Value.slice A3 st.reverse.length c3).ownBlock = some q → q ≠ gx := fun q hq => by have := own_ltL ROW.out q hq; omega
      rw [← hV, ← hgx]
      rw [← hgx] at bx
      have x0 : V.cell? ⟨gx, 0, none⟩ = some (.int .i64 s[k].b) := bx.cell 0
      have x1 : V.cell? ⟨gx, 1, none⟩ = some (.int .i64 s[k].r) := bx.cell 1
      have BX := Lib.hid bx
      have ROWV := Lib.hid rowV
      obtain ⟨x, hx⟩ : ∃ x, x = s[k] := ⟨_, rfl⟩
      rw [← hx] at x0 x1 r1 r2 r3 r4
      rw [← hx] at OKK HSTEP BX
      clear hV hgx bx rowV d0 d1 hx
      cases st with
      | nil =>
        have E := Lib.hid (show hullStep [] x = [x] from rfl)
        have Hnew := Lib.hid (show Rd (V.alloc (.cells #[.int .i64 x.b, .int .i64 x.r] 75)) (V.heap.size + 1) 2 Ln.cs (some ⟨V.heap.size, 0, none⟩) [x] from RdL.new_ x)
        have zV : w2.heap.size ≤ V.heap.size := kV.size
        have ROW0 := Lib.hid (show V.ownsRow w2.heap.size 75 2 (.slice A3 0 c3) 0 [] from ROWV.out)
        have e0 : ([] : List Ln).reverse.length = 0 := rfl
        rw [e0]
        clear e0
        go_upto_region 8 with fail
        go_quiet (fail)
        rename Nat => nq
        go_wp2_with fail
        go_loopw [3, 7] (fun ov kv wr => ov = .slice A3 0 c3 ∧ kv = .int .i64 0 ∧ ∃ q, wr = V.drewN q) (fun _ _ _ => 0)
        case atStart => exact ⟨rfl, rfl, nq, rfl⟩
        case round =>
          obtain ⟨rfl, rfl, q, rfl⟩ := hrel
          go_wp2_with fail
          go_quiet (fail)
          rename Nat => nq2
          obtain ⟨X, hX⟩ : ∃ X : World, X = (V.drewN q).drewN nq2 := ⟨_, rfl⟩
          have ROW2 := Lib.hid (show X.ownsRow w2.heap.size 75 2 (.slice A3 0 c3) 0 [] by rw [hX]; exact ROW0.out)
          have kX : Below w2.heap.size w2 X := by rw [hX]; exact below_drewN (below_drewN kV _) _
          have y0 : X.cell? ⟨gx, 0, none⟩ = some (.int .i64 x.b) := by rw [hX]; exact x0
          have y1 : X.cell? ⟨gx, 1, none⟩ = some (.int .i64 x.r) := by rw [hX]; exact x1
          have zX := kX.size
          rw [← hX]
          clear hX x0 x1
          go_wp2_with (at_builtin; refine wpList_append_rd _ Ln.cs rfl (.tmp 57) (.tmp 59) _ rfl w2.heap.size 75 i0 _ 2 16 Tryz.underlying57 hi0 hz0 hz1 hz2 rfl (by omega) Ln.cs_len Ln.cs_one (.slice A3 0 c3) 0 [] rfl (ROW2.out.alloc _) (X.heap.size + 1) (some ⟨X.heap.size, 0, none⟩) 1 [x] rfl (RdL.new_ x) (by simp only [maxLen, List.length_cons, List.length_nil]; omega) (by simp only [List.length_cons, List.length_nil]; omega) (by simp; omega) ?_; intro v3 w3 row3 g3' at3; simp only [Nat.zero_add, List.nil_append] at row3; obtain ⟨A9, c9, rfl⟩ := own_slice row3 (by omega); have k3 := below_app (kX.alloc zX _) (ROW2.out.alloc _) g3' (Nat.le_refl _) (by simp; omega))
          have hst2 : [x] = (s.take (k + 1)).foldl hullStep [] := by rw [HSTEP.out, E.out]
          refine ⟨⟨k + 1, [x], A9, c9, hlt, by go_num, rfl, hst2, by simp, fun y hy => (by simp at hy; subst hy; exact OKK.out), row3, k3⟩, ?_⟩
          simp [intOf]
          omega
      | cons t r =>
        have hgt : ((t :: r).reverse : List Ln) = r.reverse ++ [t] := by simp
        obtain ⟨m, hm⟩ : ∃ m, m = r.reverse.length := ⟨_, rfl⟩
        have hlen : (t :: r).reverse.length = m + 1 := by rw [hm]; simp
        have hmk : m + 1 ≤ k := by rw [← hlen]; simpa using hsk
        rw [hlen]
        obtain ⟨b3, o3, rfl, hb3, t0, t1⟩ := RdL.get (i := m) (RdL.of_own ROWV.out) (by rw [hlen]; omega)
        have htm : (t :: r).reverse[m]'(by rw [hlen]; omega) = t := by
          simp only [hgt]
          rw [List.getElem_append_right (by omega)]
          simp [hm]
        rw [htm] at t0 t1
        have HM := Lib.hid hm
        clear hm htm hgt
        go_upto_region 8 with fail
        have hw1 : IntKind.i64.wrap ((m : Int) + 1 - 1) = m := by rw [IntKind.wrap_i64]; omega
        have i0' : (0 : Int) ≤ (m : Int) := by omega
        have i1' : (m : Int) < (m : Int) + 1 := by omega
        have i2' : (0 : Int) < (m : Int) + 1 := by omega
        by_cases hc : t.r ≤ x.r
        · have E := Lib.hid (show hullStep (t :: r) x = t :: r from if_pos hc)
          go_quiet (fail)
          rename Nat => nq
          go_wp2_with fail
          refine ⟨⟨k + 1, t :: r, some ⟨b3, o3, none⟩, c3, hlt, by go_num, by rw [hlen], by rw [HSTEP.out, E.out], by omega, HSO.out, ROWV.out, below_drewN kV nq⟩, ?_⟩
          simp [intOf]
          omega
        · have E := Lib.hid (show hullStep (t :: r) x = x :: hullPop x (t :: r) from if_neg hc)
          go_quiet (fail)
          rename Nat => nq
          go_wp2_with fail
          go_loopw [3, 7] (fun ov kv wr => ∃ (st' : List Ln) (n' : Nat), 1 ≤ n' ∧ n' ≤ m + 1 ∧ n' = st'.reverse.length ∧ hullPop x (t :: r) = hullPop x st' ∧ (∀ y ∈ st', y ∈ t :: r) ∧ ov = .slice (some ⟨b3, o3, none⟩) n' c3 ∧ kv = .int .i64 n' ∧ wr.ownsRow w2.heap.size 75 2 (.slice (some ⟨b3, o3, none⟩) st'.reverse.length c3) st'.reverse.length (st'.reverse.flatMap Ln.cs) ∧ Below w2.heap.size w2 wr ∧ Blk wr gx 75 #[.int .i64 x.b, .int .i64 x.r]) (fun _ kv _ => (intOf kv).toNat)
          case atStart => exact ⟨t :: r, m + 1, by omega, Nat.le_refl _, hlen.symm, rfl, fun y hy => hy, rfl, rfl, ROWV.out, below_drewN kV nq, BX.out.drewN nq⟩
          case round =>
            obtain ⟨st', n', hn1, hnm, hn', hpop, hsub, rfl, rfl, row', kw', bx'⟩ := hrel
            have HPOP := Lib.hid hpop
            have HSUB := Lib.hid hsub
            have ROW' := Lib.hid row'
            have HN' := Lib.hid hn'
            have x0 : wr.cell? ⟨gx, 0, none⟩ = some (.int .i64 x.b) := bx'.cell 0
            have x1 : wr.cell? ⟨gx, 1, none⟩ = some (.int .i64 x.r) := bx'.cell 1
            clear hpop hsub row' hn'
            go_wp2_with fail
            match st', HPOP, HSUB, ROW', HN' with
            | [], _, _, _, HN' => exact absurd HN'.out (by simp; omega)
            | [b1], HPOP, HSUB, ROW', HN' =>
              obtain rfl : n' = 1 := HN'.out
              go_quiet (fail)
              rename Nat => nq2
              obtain ⟨X, hX⟩ : ∃ X : World, X = wr.drewN nq2 := ⟨_, rfl⟩
              have ROW2 := Lib.hid (show X.ownsRow w2.heap.size 75 2 (.slice (some ⟨b3, o3, none⟩) 1 c3) 1 ([b1].reverse.flatMap Ln.cs) by rw [hX]; exact ROW'.out)
              have kX : Below w2.heap.size w2 X := by rw [hX]; exact below_drewN kw' _
              have y0 : X.cell? ⟨gx, 0, none⟩ = some (.int .i64 x.b) := by rw [hX]; exact x0
              have y1 : X.cell? ⟨gx, 1, none⟩ = some (.int .i64 x.r) := by rw [hX]; exact x1
              have zX := kX.size
              rw [← hX]
              clear hX
              clear x0 x1
              go_wp2_with (at_builtin; refine wpList_append_rd _ Ln.cs rfl (.tmp 57) (.tmp 59) _ rfl w2.heap.size 75 i0 _ 2 16 Tryz.underlying57 hi0 hz0 hz1 hz2 rfl (by omega) Ln.cs_len Ln.cs_one (.slice (some ⟨b3, o3, none⟩) 1 c3) 1 ([b1].reverse.flatMap Ln.cs) rfl (ROW2.out.alloc _) (X.heap.size + 1) (some ⟨X.heap.size, 0, none⟩) 1 [x] rfl (RdL.new_ x) (by simp only [maxLen, List.length_cons, List.length_nil] <;> omega) (by simp only [List.length_cons, List.length_nil] <;> omega) (by simp <;> omega) ?_; intro v3 w3 row3 g3' at3; have row4 : w3.ownsRow w2.heap.size 75 2 v3 ([b1].reverse.length + [x].length) ([b1].reverse.flatMap Ln.cs ++ [x].flatMap Ln.cs) := (by rw [show [b1].reverse.length = 1 from rfl]; exact row3); obtain ⟨A9, c9, hv9, row5⟩ := own_app (l := [b1].reverse) (l' := [x]) row4 (by omega); subst hv9; have k3 := below_app (kX.alloc zX _) (ROW2.out.alloc _) g3' (Nat.le_refl _) (by simp; omega))
              have hst2 : x :: [b1] = (s.take (k + 1)).foldl hullStep [] := by rw [HSTEP.out, E.out, HPOP.out, show hullPop x [b1] = [b1] from rfl]
              have erev : [b1].reverse ++ [x] = (x :: [b1]).reverse := by simp
              rw [erev] at row5
              refine ⟨⟨k + 1, x :: [b1], A9, c9, hlt, by go_num, by rw [← erev]; first | done | simp, hst2, by (simp; omega), fun y hy => (by rcases List.mem_cons.1 hy with e | e; rw [e]; exact OKK.out; exact HSO.out y (HSUB.out y e)), row5, k3⟩, ?_⟩
              simp [intOf]
              omega
            | b1 :: a1 :: r1, HPOP, HSUB, ROW', HN' =>
              obtain ⟨q, hq⟩ : ∃ q, q = r1.length := ⟨_, rfl⟩
              have hnq : n' = q + 2 := by rw [HN'.out, hq]; simp
              obtain ⟨q1, hq1⟩ : ∃ q1, q1 = q + 1 := ⟨_, rfl⟩
              have hrev : (b1 :: a1 :: r1).reverse = r1.reverse ++ [a1, b1] := by simp
              have hlen' : (b1 :: a1 :: r1).reverse.length = q + 2 := by rw [← hnq]; exact HN'.out.symm
              obtain ⟨b4, o4, e4, hb4, a0', a1'⟩ := RdL.get (i := q) (RdL.of_own ROW'.out) (by rw [hlen']; omega)
              obtain ⟨b5, o5, e5, hb5, b0', b1'⟩ := RdL.get (i := q1) (RdL.of_own ROW'.out) (by rw [hlen']; omega)
              simp only [Option.some.injEq, Addr.mk.injEq, and_true] at e4 e5
              obtain ⟨rfl, rfl⟩ := e4
              obtain ⟨rfl, rfl⟩ := e5
              have ha1 : (b1 :: a1 :: r1).reverse[q]'(by rw [hlen']; omega) = a1 := by
                simp only [hrev]
                rw [List.getElem_append_right (by simp [hq])]
                simp [hq]
              have hb1 : (b1 :: a1 :: r1).reverse[q1]'(by rw [hlen']; omega) = b1 := by
                subst hq1
                simp only [hrev]
                rw [List.getElem_append_right (by simp [hq])]
                simp [hq]
              rw [ha1] at a0' a1'
              rw [hb1] at b0' b1'
              have okA := HSO.out a1 (HSUB.out a1 (by simp))
              have okB := HSO.out b1 (HSUB.out b1 (by simp))
              have v1 : IntKind.i64.wrap ((n' : Int) - 1) = (q1 : Int) := by rw [IntKind.wrap_i64]; omega
              have v2 : IntKind.i64.wrap ((n' : Int) - 2) = (q : Int) := by rw [IntKind.wrap_i64]; omega
              have j0 : (0 : Int) ≤ (q : Int) := by omega
              have j1 : (q : Int) < (n' : Int) := by omega
              have j2 : (0 : Int) ≤ (q1 : Int) := by omega
              have j3 : (q1 : Int) < (n' : Int) := by omega
              have j4 : (1 : Int) < (n' : Int) := by omega
              have HNQ := Lib.hid hnq
              have HQ1 := Lib.hid hq1
              have KP := Lib.hid (show ∀ W, Below wr.heap.size wr W → W.cell? ⟨b3, o3 + q * 2, none⟩ = some (.int .i64 a1.b) ∧ W.cell? ⟨b3, o3 + q * 2 + 1, none⟩ = some (.int .i64 a1.r) ∧ W.cell? ⟨b3, o3 + q1 * 2, none⟩ = some (.int .i64 b1.b) ∧ W.cell? ⟨b3, o3 + q1 * 2 + 1, none⟩ = some (.int .i64 b1.r) ∧ W.cell? ⟨gx, 0, none⟩ = some (.int .i64 x.b) ∧ W.cell? ⟨gx, 1, none⟩ = some (.int .i64 x.r) from fun W hb => ⟨(hb.cell (p := ⟨b3, o3 + q * 2, none⟩) hb4).trans a0', (hb.cell (p := ⟨b3, o3 + q * 2 + 1, none⟩) hb4).trans a1', (hb.cell (p := ⟨b3, o3 + q1 * 2, none⟩) hb4).trans b0', (hb.cell (p := ⟨b3, o3 + q1 * 2 + 1, none⟩) hb4).trans b1', (hb.cell (p := ⟨gx, 0, none⟩) bx'.lt).trans x0, (hb.cell (p := ⟨gx, 1, none⟩) bx'.lt).trans x1⟩)
              have HLEN' := Lib.hid hlen'
              clear hq hrev hlen' ha1 hb1 hnq hq1
              cases hnb : needB a1 b1 x with
              | true =>
                have HNB := Lib.hid hnb
                clear hnb
                go_region_held3 (fun W => W.cell? ⟨b3, o3 + q * 2, none⟩ = some (.int .i64 a1.b) ∧ W.cell? ⟨b3, o3 + q * 2 + 1, none⟩ = some (.int .i64 a1.r) ∧ W.cell? ⟨b3, o3 + q1 * 2, none⟩ = some (.int .i64 b1.b) ∧ W.cell? ⟨b3, o3 + q1 * 2 + 1, none⟩ = some (.int .i64 b1.r) ∧ W.cell? ⟨gx, 0, none⟩ = some (.int .i64 x.b) ∧ W.cell? ⟨gx, 1, none⟩ = some (.int .i64 x.r))
                  (first | go_keep | exact KP.out _ (((Below.refl _ _).drew).trans (k6.below (Nat.le_refl _))))
                  (first | (go_at_call 159; refine (needless_any a1 b1 x _ okA okB OKK.out).mono ?_; rw [HNB.out]; rintro e w6 ⟨rfl, k6⟩))
                have kw6 : Below w2.heap.size w2 w6 := kw'.trans ((((Below.refl _ _).drew).trans (k6.below (Nat.le_refl _))).mono kw'.size)
                have k66 : Below wr.heap.size wr w6 := ((Below.refl _ _).drew).trans (k6.below (Nat.le_refl _))
                have row6 : w6.ownsRow w2.heap.size 75 2 (.slice (some ⟨b3, o3, none⟩) (a1 :: r1).reverse.length c3) (a1 :: r1).reverse.length ((a1 :: r1).reverse.flatMap Ln.cs) := by
                  have h9 : w6.ownsRow w2.heap.size 75 2 (.slice (some ⟨b3, o3, none⟩) (b1 :: a1 :: r1).reverse.length c3) (b1 :: a1 :: r1).reverse.length ((b1 :: a1 :: r1).reverse.flatMap Ln.cs) := own_same ROW'.out fun q9 hq9 => k66.block q9 (own_ltL ROW'.out q9 hq9)
                  rw [List.reverse_cons] at h9
                  exact own_trunc Ln.cs_len h9
                have bx6 := bx'.below k66 bx'.lt
                have hcap := own_capL ROW'.out
                have hcap2 : n' ≤ c3 := by rw [HN'.out]; exact hcap
                have hpop2 : hullPop x (t :: r) = hullPop x (a1 :: r1) := by rw [HPOP.out, hullPop, if_pos HNB.out]
                have hn2 : q1 = (a1 :: r1).reverse.length := by
                  have e9 := HLEN'.out
                  have e8 := HQ1.out
                  simp at e9 ⊢
                  omega
                have HN2 := Lib.hid hn2
                have hq1b : 1 ≤ q1 ∧ q1 ≤ m + 1 := by have := HQ1.out; have := HNQ.out; omega
                have hnq1 : (n' : Int) - 1 = (q1 : Int) := by have := HQ1.out; have := HNQ.out; omega
                have ROW6 := Lib.hid row6
                clear hcap hn2 row6 x0 x1 a0' a1' b0' b1'
                go_wp2_with fail
                go_roundw
                case rel => exact ⟨a1 :: r1, q1, hq1b.1, hq1b.2, HN2.out, hpop2, fun y hy => HSUB.out y (List.mem_cons_of_mem _ hy), rfl, rfl, by rw [← HN2.out]; rw [← HN2.out] at ROW6; exact ROW6.out, kw6, bx6⟩
                case measure => simp [intOf]; omega
              | false =>
                have HNB := Lib.hid hnb
                clear hnb
                go_region_held3 (fun W => W.cell? ⟨b3, o3 + q * 2, none⟩ = some (.int .i64 a1.b) ∧ W.cell? ⟨b3, o3 + q * 2 + 1, none⟩ = some (.int .i64 a1.r) ∧ W.cell? ⟨b3, o3 + q1 * 2, none⟩ = some (.int .i64 b1.b) ∧ W.cell? ⟨b3, o3 + q1 * 2 + 1, none⟩ = some (.int .i64 b1.r) ∧ W.cell? ⟨gx, 0, none⟩ = some (.int .i64 x.b) ∧ W.cell? ⟨gx, 1, none⟩ = some (.int .i64 x.r))
                  (first | go_keep | exact KP.out _ (((Below.refl _ _).drew).trans (k6.below (Nat.le_refl _))))
                  (first | (go_at_call 159; refine (needless_any a1 b1 x _ okA okB OKK.out).mono ?_; rw [HNB.out]; rintro e X ⟨rfl, k6⟩))
                have kX : Below w2.heap.size w2 X := kw'.trans ((((Below.refl _ _).drew).trans (k6.below (Nat.le_refl _))).mono kw'.size)
                have k66 : Below wr.heap.size wr X := ((Below.refl _ _).drew).trans (k6.below (Nat.le_refl _))
                have ROW2 := Lib.hid (show X.ownsRow w2.heap.size 75 2 (.slice (some ⟨b3, o3, none⟩) n' c3) n' ((b1 :: a1 :: r1).reverse.flatMap Ln.cs) by
                  rw [HN'.out]
                  exact own_same ROW'.out fun q9 hq9 => k66.block q9 (own_ltL ROW'.out q9 hq9))
                have bx6 := bx'.below k66 bx'.lt
                have y0 : X.cell? ⟨gx, 0, none⟩ = some (.int .i64 x.b) := bx6.cell 0
                have y1 : X.cell? ⟨gx, 1, none⟩ = some (.int .i64 x.r) := bx6.cell 1
                have zX := kX.size
                clear bx6 a0' a1' b0' b1'
                clear x0 x1
                go_wp2_with (at_builtin; refine wpList_append_rd _ Ln.cs rfl (.tmp 57) (.tmp 59) _ rfl w2.heap.size 75 i0 _ 2 16 Tryz.underlying57 hi0 hz0 hz1 hz2 rfl (by omega) Ln.cs_len Ln.cs_one (.slice (some ⟨b3, o3, none⟩) n' c3) n' ((b1 :: a1 :: r1).reverse.flatMap Ln.cs) rfl (ROW2.out.alloc _) (X.heap.size + 1) (some ⟨X.heap.size, 0, none⟩) 1 [x] rfl (RdL.new_ x) (by simp only [maxLen, List.length_cons, List.length_nil] <;> omega) (by simp only [List.length_cons, List.length_nil] <;> omega) (by simp <;> omega) ?_; intro v3 w3 row3 g3' at3; have row4 : w3.ownsRow w2.heap.size 75 2 v3 ((b1 :: a1 :: r1).reverse.length + [x].length) ((b1 :: a1 :: r1).reverse.flatMap Ln.cs ++ [x].flatMap Ln.cs) := (by rw [← HN'.out]; exact row3); obtain ⟨A9, c9, hv9, row5⟩ := own_app (l := (b1 :: a1 :: r1).reverse) (l' := [x]) row4 (by omega); subst hv9; have k3 := below_app (kX.alloc zX _) (ROW2.out.alloc _) g3' (Nat.le_refl _) (by simp; omega))
                have hst2 : x :: b1 :: a1 :: r1 = (s.take (k + 1)).foldl hullStep [] := by rw [HSTEP.out, E.out, HPOP.out, hullPop, if_neg (by rw [HNB.out]; simp)]
                have erev : (b1 :: a1 :: r1).reverse ++ [x] = (x :: b1 :: a1 :: r1).reverse := by simp
                rw [erev] at row5
                refine ⟨⟨k + 1, x :: b1 :: a1 :: r1, A9, c9, hlt, by go_num, by rw [← erev]; first | done | simp, hst2, by (have e9 := HN'.out; have e8 := hnm; have e7 := hmk; simp at e9 ⊢; omega), fun y hy => (by rcases List.mem_cons.1 hy with e | e; rw [e]; exact OKK.out; exact HSO.out y (HSUB.out y e)), row5, k3⟩, ?_⟩
                simp [intOf]
                omega
    · have hend : st = hullL s := by
        rw [HST.out, List.take_of_length_le (by omega)]
        rfl
      have hfin : st.reverse = tidyRef l := by rw [HT.out, hend]
      have HFIN := Lib.hid hfin
      clear hend hfin HST
      go_wp2_with fail
      go_ret
      rw [← HFIN.out]
      exact ⟨A3, c3, rfl, own_mono ROW.out z2, K2.out.trans (hbw.mono z2)⟩
end Go.Proofs.YtoomffajodheaaaGreatDoor
namespace Go.Proofs.YtoomffajodheaaaGreatDoor
open Go.RowKit
set_option maxRecDepth 100000
def EndOwnL (l : List Ln) (S : Nat → Addr) (k : Nat) (a : Int) (w : World) (en : Ending) (w' : World) : Prop :=
  ∃ A c v, en = .returned (.tuple #[.slice A l.length c, v]) ∧ w'.ownsRow w.heap.size 75 2 (.slice A l.length c) l.length (l.flatMap Ln.cs) ∧ Er w' w'.heap.size S v k a ∧ Below w.heap.size w w'
def sumE (a b : List Ln) : Nat × Int := if (crvErr a).1 ≠ 0 then crvErr a else if (crvErr b).1 ≠ 0 then crvErr b else (sumErr a b, -1)
def sumV (a b : List Ln) : List Ln := if (sumE a b).1 = 0 then tidyRef (sumAll a b) else []
theorem sum_bad {a b : List Ln} {x y : Ln} (hx : x ∈ a) (hy : y ∈ b) (h : lineB (addLn x y).b (addLn x y).r = false) : sumErr a b = 2 := by
  unfold sumErr
  rw [if_neg]
  intro h9
  have := List.all_eq_true.1 h9 (addLn x y) (mem_sumAll.2 ⟨x, hx, y, hy, rfl⟩)
  rw [h] at this
  cases this
/-- What the loops have made. -/
structure SU (a b : List Ln) (i j : Nat) (acc : List Ln) : Prop where
  e : acc = sumAll (a.take i) b ++ (if h : i < a.length then (b.take j).map (addLn a[i]) else [])
  ok : ∀ z ∈ acc, lineB z.b z.r = true
  len : acc.length ≤ 36
theorem SU.push {a b : List Ln} {i j : Nat} {acc : List Ln} (h : SU a b i j acc) (hi : i < a.length) (hj : j < b.length) (ha : a.length ≤ 6) (hb : b.length ≤ 6) (hok : lineB (addLn a[i] b[j]).b (addLn a[i] b[j]).r = true) : SU a b i (j + 1) (acc ++ [addLn a[i] b[j]]) := by
  have he : acc ++ [addLn a[i] b[j]] = sumAll (a.take i) b ++ (if h : i < a.length then (b.take (j + 1)).map (addLn a[i]) else []) := by
    rw [h.e, dif_pos hi, dif_pos hi, List.take_succ_eq_append_getElem hj, List.map_append, List.append_assoc]
    rfl
  refine ⟨he, fun z hz => ?_, ?_⟩
  · rcases List.mem_append.1 hz with hz | hz
    · exact h.ok z hz
    · simp at hz; subst hz; exact hok
  · rw [he, dif_pos hi, List.length_append, sumAll_len, List.length_map, List.length_take, List.length_take]
    have h1 : min i a.length = i := by omega
    have h2 : min (j + 1) b.length = j + 1 := by omega
    rw [h1, h2]
    have := Nat.mul_le_mul (show i ≤ 5 by omega) hb
    omega
theorem SU.next {a b : List Ln} {i j : Nat} {acc : List Ln} (h : SU a b i j acc) (hi : i < a.length) (hj : ¬ j < b.length) : SU a b (i + 1) 0 acc := by
  have he : acc = sumAll (a.take (i + 1)) b := by
    rw [h.e, dif_pos hi, List.take_of_length_le (show b.length ≤ j by omega), List.take_succ_eq_append_getElem hi]
    unfold sumAll
    rw [List.flatMap_append]
    simp
  refine ⟨?_, h.ok, h.len⟩
  rw [he]
  split <;> simp
theorem SU.start {a b : List Ln} {i : Nat} {acc : List Ln} (h : SU a b i 0 acc) : acc = sumAll (a.take i) b := by
  rw [h.e]
  split <;> simp
set_option maxHeartbeats 8000000 in
theorem sum_main (A A' : Option Addr) (c c' : Nat) (a b : List Ln) (S : Nat → Addr) (w : World) (B : Nat) (hB : B ≤ w.heap.size) (h : RdL w B A a) (h' : RdL w B A' b) (hS : Snt w B S [2, 3]) (ha : (crvErr a).1 = 0) (hb : (crvErr b).1 = 0) :
    Calls Tryz.prog 103 #[.slice A a.length c, .slice A' b.length c'] w (EndOwnL (sumV a b) S (sumE a b).1 (sumE a b).2 w) := by
  obtain ⟨i0, hi0, hz0, hz1, hz2⟩ := info_parts infoLn
  obtain ⟨a1, a2, a3, a4⟩ := crvErr_ok ha
  obtain ⟨b1, b2, b3, b4⟩ := crvErr_ok hb
  have HE := Lib.hid (show sumE a b = (sumErr a b, -1) by unfold sumE; rw [if_neg (by omega), if_neg (by omega)])
  have HA := Lib.hid a3
  have HBB := Lib.hid b3
  have hal : a.length ≤ 9223372036854775807 := by omega
  have hbl : b.length ≤ 9223372036854775807 := by omega
  have Hca := Lib.hid ha
  have Hcb := Lib.hid hb
  have HL := Lib.hid h
  have HL' := Lib.hid h'
  have HS := Lib.hid hS
  clear a3 b3 ha hb h h' hS
  go_enter Tryz.func103, Tryz.ntmps103
  go_wp2_with fail
  refine (check_any A c a S w B hB HL.out HS.out hal).mono ?_
  rintro e w1 ⟨v, rfl, hv, k1⟩
  obtain rfl := hv.nil_of Hca.out
  go_wp2_with fail
  refine (check_any A' c' b S w1 B (Nat.le_trans hB k1.size) (HL'.out.below (k1.mono hB)) (HS.out.below (k1.mono hB)) hbl).mono ?_
  rintro e w2 ⟨v, rfl, hv2, k2⟩
  obtain rfl := hv2.nil_of Hcb.out
  have k2' := k1.trans (k2.mono k1.size)
  clear hv hv2 k1 k2
  go_wp2_with fail
  go_loopw [8, 26] (fun ov iv wr => ∃ (i : Nat) (acc : List Ln) (A3 : Option Addr) (c3 : Nat), i ≤ a.length ∧ iv = .int .i64 i ∧ ov = .slice A3 acc.length c3 ∧ SU a b i 0 acc ∧ wr.ownsRow w.heap.size 75 2 (.slice A3 acc.length c3) acc.length (acc.flatMap Ln.cs) ∧ Below w.heap.size w wr) (fun _ iv _ => a.length - (intOf iv).toNat)
  case atStart => exact ⟨0, [], none, 0, Nat.zero_le _, rfl, rfl, ⟨by split <;> simp [sumAll], by simp, by simp⟩, ⟨by simp, .inl ⟨rfl, rfl⟩⟩, k2'⟩
  case round =>
    obtain ⟨i, acc, A3, c3, hi, rfl, rfl, hsu, row, hbw⟩ := hrel
    have SUH := Lib.hid hsu
    have ROW := Lib.hid row
    have zw := hbw.size
    clear hsu row k2'
    by_cases hil : i < a.length
    · have hx := HA.out _ (List.getElem_mem hil)
      obtain ⟨r1, r2, r3, r4⟩ := hx
      have hd := RdL.get (HL.out.below (hbw.mono hB)) hil
      obtain ⟨bq, o, rfl, hbq, d0, d1⟩ := hd
      go_upto_region 11 with fail
      obtain ⟨V, hV⟩ : ∃ V : World, V = wr.alloc (.cells #[.int .i64 a[i].b, .int .i64 a[i].r] 75) := ⟨_, rfl⟩
      have bx : Blk V wr.heap.size 75 #[.int .i64 a[i].b, .int .i64 a[i].r] := by rw [hV]; exact Blk.new _ _ _
      have rowV : V.ownsRow w.heap.size 75 2 (.slice A3 acc.length c3) acc.length (acc.flatMap Ln.cs) := by rw [hV]; exact ROW.out.alloc _
      have kV : Below w.heap.size w V := by rw [hV]; exact hbw.alloc zw _
      obtain ⟨gx, hgx⟩ : ∃ gx, gx = wr.heap.size := ⟨_, rfl⟩
      have hgxn : ∀ q, (Value.slice A3 acc.length c3).ownBlock = some q → q ≠ gx := fun q hq => by have := own_ltL ROW.out q hq; omega
      have hgB : B ≤ gx := by omega
      rw [← hV, ← hgx]
      rw [← hgx] at bx
      have BX := Lib.hid bx
      have ROWV := Lib.hid rowV
      have HGN := Lib.hid hgxn
      obtain ⟨x, hx⟩ : ∃ x, x = a[i] := ⟨_, rfl⟩
      rw [← hx] at r1 r2 r3 r4
      rw [← hx] at BX
      have HX := Lib.hid hx
      clear hV hgx bx rowV d0 d1 hx hgxn
      go_wp2_with fail
      go_loopw [8, 32] (fun ov jv wr => ∃ (j : Nat) (acc : List Ln) (A3 : Option Addr) (c3 : Nat), j ≤ b.length ∧ jv = .int .i64 j ∧ ov = .slice A3 acc.length c3 ∧ SU a b i j acc ∧ wr.ownsRow w.heap.size 75 2 (.slice A3 acc.length c3) acc.length (acc.flatMap Ln.cs) ∧ Below w.heap.size w wr ∧ Blk wr gx 75 #[.int .i64 x.b, .int .i64 x.r] ∧ ∀ q, (Value.slice A3 acc.length c3).ownBlock = some q → q ≠ gx) (fun _ jv _ => b.length - (intOf jv).toNat)
      case atStart => exact ⟨0, acc, A3, c3, Nat.zero_le _, rfl, rfl, SUH.out, ROWV.out, kV, BX.out, HGN.out⟩
      case round =>
        obtain ⟨j, acc, A3, c3, hj, rfl, rfl, hsu, row, hbw, bx, hgn⟩ := hrel
        have SUH := Lib.hid hsu
        have ROW := Lib.hid row
        have BX := Lib.hid bx
        have HGN := Lib.hid hgn
        have zw := hbw.size
        have hal36 := hsu.len
        clear hsu row bx ROWV hgn
        by_cases hjl : j < b.length
        · have hy := HBB.out _ (List.getElem_mem hjl)
          obtain ⟨s1, s2, s3, s4⟩ := hy
          obtain ⟨bq2, o2, rfl, hbq2, e0, e1⟩ := RdL.get (HL'.out.below (hbw.mono hB)) hjl
          have x0 : wr.cell? ⟨gx, 0, none⟩ = some (.int .i64 x.b) := BX.out.cell 0
          have x1 : wr.cell? ⟨gx, 1, none⟩ = some (.int .i64 x.r) := BX.out.cell 1
          go_upto_region 14 with fail
          obtain ⟨V2, hV⟩ : ∃ V2 : World, V2 = wr.alloc (.cells #[.int .i64 b[j].b, .int .i64 b[j].r] 75) := ⟨_, rfl⟩
          have by_ : Blk V2 wr.heap.size 75 #[.int .i64 b[j].b, .int .i64 b[j].r] := by rw [hV]; exact Blk.new _ _ _
          have rowV : V2.ownsRow w.heap.size 75 2 (.slice A3 acc.length c3) acc.length (acc.flatMap Ln.cs) := by rw [hV]; exact ROW.out.alloc _
          have kV2 : Below w.heap.size w V2 := by rw [hV]; exact hbw.alloc zw _
          have bxV : Blk V2 gx 75 #[.int .i64 x.b, .int .i64 x.r] := by rw [hV]; exact BX.out.alloc _
          obtain ⟨gy, hgy⟩ : ∃ gy, gy = wr.heap.size := ⟨_, rfl⟩
          rw [← hV, ← hgy]
          rw [← hgy] at by_
          have y0 : V2.cell? ⟨gy, 0, none⟩ = some (.int .i64 b[j].b) := by_.cell 0
          have y1 : V2.cell? ⟨gy, 1, none⟩ = some (.int .i64 b[j].r) := by_.cell 1
          have z0 : V2.cell? ⟨gx, 0, none⟩ = some (.int .i64 x.b) := bxV.cell 0
          have z1 : V2.cell? ⟨gx, 1, none⟩ = some (.int .i64 x.r) := bxV.cell 1
          obtain ⟨z, hz⟩ : ∃ z, z = addLn x b[j] := ⟨_, rfl⟩
          have hzb : z.b = x.b + b[j].b := by rw [hz]; rfl
          have hzr : z.r = x.r + b[j].r := by rw [hz]; rfl
          have HZB := Lib.hid hzb
          have HZR := Lib.hid hzr
          have HZ := Lib.hid hz
          have ROWV := Lib.hid rowV
          have BXV := Lib.hid bxV
          have zV2 := kV2.size
          clear hV hgy by_ rowV bxV e0 e1 x0 x1 hz hzb hzr
          go_upto_region 15 with fail
          rw [← HZB.out, ← HZR.out]
          obtain ⟨V3, hV⟩ : ∃ V3 : World, V3 = V2.alloc (.cells #[.int .i64 z.b, .int .i64 z.r] 75) := ⟨_, rfl⟩
          have bz : Blk V3 V2.heap.size 75 #[.int .i64 z.b, .int .i64 z.r] := by rw [hV]; exact Blk.new _ _ _
          have row3 : V3.ownsRow w.heap.size 75 2 (.slice A3 acc.length c3) acc.length (acc.flatMap Ln.cs) := by rw [hV]; exact ROWV.out.alloc _
          have kV3 : Below w.heap.size w V3 := by rw [hV]; exact kV2.alloc zV2 _
          have bx3 : Blk V3 gx 75 #[.int .i64 x.b, .int .i64 x.r] := by rw [hV]; exact BXV.out.alloc _
          obtain ⟨gz, hgz⟩ : ∃ gz, gz = V2.heap.size := ⟨_, rfl⟩
          rw [← hV, ← hgz]
          rw [← hgz] at bz
          have w0 : V3.cell? ⟨gz, 0, none⟩ = some (.int .i64 z.b) := bz.cell 0
          have w1' : V3.cell? ⟨gz, 1, none⟩ = some (.int .i64 z.r) := bz.cell 1
          have ROW3 := Lib.hid row3
          have BX3 := Lib.hid bx3
          have BZ := Lib.hid bz
          have zV3 := kV3.size
          clear hV hgz bz row3 bx3 y0 y1 z0 z1
          go_wp2_with fail
          refine (line_any z.b z.r V3).mono ?_
          rintro e w4 ⟨rfl, k4⟩
          have k4' := kV3.trans (k4.mono zV3)
          have z4 := k4'.size
          have v0 : w4.cell? ⟨gz, 0, none⟩ = some (.int .i64 z.b) := (BZ.out.below k4 BZ.out.lt).cell 0
          have v1 : w4.cell? ⟨gz, 1, none⟩ = some (.int .i64 z.r) := (BZ.out.below k4 BZ.out.lt).cell 1
          have ROW4 := Lib.hid (show w4.ownsRow w.heap.size 75 2 (.slice A3 acc.length c3) acc.length (acc.flatMap Ln.cs) from own_same ROW3.out fun q hq => k4.block q (own_ltL ROW3.out q hq))
          have BX4 := Lib.hid (BX3.out.below k4 BX3.out.lt)
          clear w0 w1'
          cases hlb : lineB z.b z.r with
          | false =>
            have g2 : w4.cell? ⟨G 2, 0, none⟩ = some (sv S 2) := ((HS.out.below (k4'.mono hB)) 2 (by simp)).2.2
            simp only [G, sv] at g2
            have HER := Lib.hid (show sumE a b = (2, -1) by rw [HE.out, sum_bad (List.getElem_mem hil) (List.getElem_mem hjl) (by rw [← HX.out, ← HZ.out]; exact hlb)])
            have HVV := Lib.hid (show sumV a b = [] by unfold sumV; rw [HER.out]; rfl)
            clear hlb
            go_wp2_with fail
            go_quiet (fail)
            rename Nat => nq
            go_wp2_with fail
            go_ret2
            rw [HER.out, HVV.out]
            exact ⟨none, 0, _, rfl, ⟨by simp, .inl ⟨rfl, rfl⟩⟩, .bare 2 (by omega) (by omega), below_drewN k4' nq⟩
          | true =>
            have HP := Lib.hid (SUH.out.push hil hjl a2 b2 (by rw [← HX.out, ← HZ.out]; exact hlb))
            clear hlb
            go_wp2_with (at_builtin; refine wpList_append_rd _ Ln.cs rfl (.tmp 51) (.tmp 53) _ rfl w.heap.size 75 i0 _ 2 16 Tryz.underlying57 hi0 hz0 hz1 hz2 rfl (by omega) Ln.cs_len Ln.cs_one (.slice A3 acc.length c3) acc.length (acc.flatMap Ln.cs) rfl (ROW4.out.alloc _) (w4.heap.size + 1) (some ⟨w4.heap.size, 0, none⟩) 1 [z] rfl (RdL.new_ z) (by simp only [maxLen, List.length_cons, List.length_nil] <;> omega) (by simp only [List.length_cons, List.length_nil] <;> omega) (by simp <;> omega) ?_; intro v3 w5 row5 g5 at5; obtain ⟨A9, c9, hv9, row6⟩ := own_app row5 (by omega); subst hv9; have k5 := below_app (k4'.alloc z4 _) (ROW4.out.alloc _) g5 (Nat.le_refl _) (by simp <;> omega))
            have bx5 : Blk w5 gx 75 #[.int .i64 x.b, .int .i64 x.r] := (BX4.out.alloc _).grown g5 (fun e9 => HGN.out _ e9.symm rfl)
            have hgn5 : ∀ q, (Value.slice A9 (acc ++ [z]).length c9).ownBlock = some q → q ≠ gx := fun q hq => by
              rcases at5 with e9 | e9
              · exact HGN.out q (by rw [← e9]; exact hq)
              · rw [hq] at e9
                have := BX4.out.lt
                injection e9 with e9
                simp at e9
                omega
            have hp := HP.out
            rw [← HX.out, ← HZ.out] at hp
            have hle : (acc ++ [z]).length = acc.length + 1 := by simp
            go_roundw
            case rel => exact ⟨j + 1, acc ++ [z], A9, c9, hjl, by go_num, by rw [hle], hp, row6, k5, bx5, hgn5⟩
            case measure => simp [intOf]; omega
        · have HN := Lib.hid (SUH.out.next hil hjl)
          go_wp2_with fail
          go_roundw
          case rel => exact ⟨i + 1, acc, A3, c3, hil, by go_num, rfl, HN.out, ROW.out, hbw⟩
          case measure => simp [intOf]; omega
    · have hacc : acc = sumAll a b := by rw [SUH.out.start, List.take_of_length_le (by omega)]
      have HACC := Lib.hid hacc
      have hal1 : 1 ≤ acc.length := by rw [hacc, sumAll_len]; exact Nat.mul_pos a1 b1
      have hal36 := SUH.out.len
      have hok : ∀ z ∈ acc, okLn z := fun z hz => by have h9 := SUH.out.ok z hz; unfold lineB at h9; have h9 := of_decide_eq_true h9; exact h9
      have hall : (sumAll a b).all (fun z => lineB z.b z.r) = true := List.all_eq_true.2 fun z hz => SUH.out.ok z (by rw [hacc]; exact hz)
      have HOK := Lib.hid hok
      have HALL := Lib.hid hall
      clear hacc hok hall
      go_wp2_with fail
      refine (tidy_any A3 c3 acc wr wr.heap.size (Nat.le_refl _) (RdL.of_own ROW.out) hal1 (by omega) HOK.out).mono ?_
      rintro e w5 ⟨A5, c5, rfl, o5, k5⟩
      have k5' := hbw.trans (k5.mono zw)
      obtain ⟨t, ht⟩ : ∃ t, t = tidyRef acc := ⟨_, rfl⟩
      have htl : t.length ≤ acc.length := by rw [ht]; exact tidy_len fun y hy => (HOK.out y hy).2.2.1
      rw [← ht] at o5 ⊢
      have HTT := Lib.hid (ht.trans (by rw [HACC.out]))
      have O5 := Lib.hid o5
      clear ht o5
      by_cases h6 : 6 < t.length
      · have HER := Lib.hid (show sumE a b = (3, -1) by rw [HE.out]; unfold sumErr; rw [if_pos HALL.out, if_pos (by rw [← HTT.out]; exact h6)])
        have HVV := Lib.hid (show sumV a b = [] by unfold sumV; rw [HER.out]; rfl)
        have g3 : w5.cell? ⟨G 3, 0, none⟩ = some (sv S 3) := ((HS.out.below (k5'.mono hB)) 3 (by simp)).2.2
        simp only [G, sv] at g3
        go_wp2_with fail
        go_quiet (fail)
        rename Nat => nq
        go_wp2_with fail
        go_ret2
        rw [HER.out, HVV.out]
        exact ⟨none, 0, _, rfl, ⟨by simp, .inl ⟨rfl, rfl⟩⟩, .bare 3 (by omega) (by omega), below_drewN k5' nq⟩
      · have HER := Lib.hid (show sumE a b = (0, -1) by rw [HE.out]; unfold sumErr; rw [if_pos HALL.out, if_neg (by rw [← HTT.out]; exact h6)])
        have HVV := Lib.hid (show sumV a b = t by unfold sumV; rw [HER.out, ← HTT.out]; rfl)
        go_wp2_with fail
        go_ret2
        rw [HER.out, HVV.out]
        exact ⟨A5, c5, _, rfl, own_mono O5.out zw, .nil, k5'⟩
theorem csum_any (A A' : Option Addr) (c c' : Nat) (a b : List Ln) (S : Nat → Addr) (w : World) (B : Nat) (hB : B ≤ w.heap.size) (h : RdL w B A a) (h' : RdL w B A' b) (hS : Snt w B S [2, 3]) (hal : a.length ≤ 9223372036854775807) (hbl : b.length ≤ 9223372036854775807) :
    Calls Tryz.prog 103 #[.slice A a.length c, .slice A' b.length c'] w (EndOwnL (sumV a b) S (sumE a b).1 (sumE a b).2 w) := by
  by_cases ha : (crvErr a).1 = 0
  · by_cases hb : (crvErr b).1 = 0
    · exact sum_main A A' c c' a b S w B hB h h' hS ha hb
    · have HE := Lib.hid (show sumE a b = crvErr b by unfold sumE; rw [if_neg (by omega), if_pos hb])
      have HV := Lib.hid (show sumV a b = [] by unfold sumV; rw [HE.out]; exact if_neg hb)
      have Hca := Lib.hid ha
      have Hcb := Lib.hid hb
      clear ha hb
      go_enter Tryz.func103, Tryz.ntmps103
      go_wp2_with fail
      refine (check_any A c a S w B hB h hS hal).mono ?_
      rintro e w1 ⟨v, rfl, hv, k1⟩
      obtain rfl := hv.nil_of Hca.out
      go_wp2_with fail
      refine (check_any A' c' b S w1 B (Nat.le_trans hB k1.size) (h'.below (k1.mono hB)) (hS.below (k1.mono hB)) hbl).mono ?_
      rintro e w2 ⟨v, rfl, hv2, k2⟩
      obtain ⟨T, a9, rfl⟩ := hv2.some_of Hcb.out
      go_wp2_with fail
      go_ret2
      rw [HE.out, HV.out]
      exact ⟨none, 0, _, rfl, ⟨by simp, .inl ⟨rfl, rfl⟩⟩, hv2, k1.trans (k2.mono k1.size)⟩
  · have HE := Lib.hid (show sumE a b = crvErr a by unfold sumE; rw [if_pos ha])
    have HV := Lib.hid (show sumV a b = [] by unfold sumV; rw [HE.out]; exact if_neg ha)
    have Hca := Lib.hid ha
    clear ha
    go_enter Tryz.func103, Tryz.ntmps103
    go_wp2_with fail
    refine (check_any A c a S w B hB h hS hal).mono ?_
    rintro e w1 ⟨v, rfl, hv, k1⟩
    obtain ⟨T, a9, rfl⟩ := hv.some_of Hca.out
    go_wp2_with fail
    go_ret2
    rw [HE.out, HV.out]
    exact ⟨none, 0, _, rfl, ⟨by simp, .inl ⟨rfl, rfl⟩⟩, hv, k1⟩
end Go.Proofs.YtoomffajodheaaaGreatDoor
