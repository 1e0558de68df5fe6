/- slices.Concat of two slices of lines: new memory that reads as both, one behind the other. Conditions: where they lie; few lines. Package curve: Delay of whatever is asked. Conditions: the sentinels that it names lie in their variables. Package curve: Busy of whatever is asked. Conditions: the sentinels that it names lie in their variables. What errors of a delay and of a busy stretch tell. No program in sight. -/
import Derived.Test.YtoomffajodheaaaGreatDoorQBaseM
import Derived.Test.YtoomffajodheaaaGreatDoorQCvM
import Derived.Test.YtoomffajodheaaaGreatDoorQShelfX
import Derived.Test.YtoomffajodheaaaGreatDoorQDlA
import Derived.Deep.CutRange
import Derived.Test.YtoomffajodheaaaGreatDoorQDlPl
set_option linter.all false
namespace Go.Proofs.YtoomffajodheaaaGreatDoor
open Go.RowKit
set_option maxRecDepth 100000
theorem grow0 (n : Nat) (w : World) (hn : n ≤ 1000) :
    Calls Tryz.prog 82 #[.slice none 0 0, .int .i64 (n : Int)] w (EndOwn Ln.cs 2 75 [] w) := by
  obtain ⟨i0, hi0, hz0, hz1, hz2⟩ := info_parts infoLn
  by_cases h0 : n = 0
  · subst h0
    refine (Any8.slices_Grow_room Tryz.growL none 0 0 0 w (by omega) (by omega) (by omega) (by omega)).mono ?_
    rintro e w' ⟨rfl, rfl⟩
    exact ⟨none, 0, rfl, ⟨by simp, .inl ⟨rfl, rfl⟩⟩, Below.refl _ _⟩
  · refine (Any8.slices_Grow_grow Tryz.growL i0 (.agg #[.int .i64 0, .int .i64 0]) hi0 hz0 (by rw [hz1]; omega) none 0 0 n [] w (by omega) (by omega) (by rw [hz2]; omega) (by omega) (by simp) (fun _ => rfl) (fun a h => by cases h)).mono ?_
    rintro e w' ⟨rfl, rfl⟩
    have hge := grownCap_ge w (0 + n) 0 75
    refine ⟨some ⟨w.heap.size, 0, none⟩, _, rfl, ⟨by simp, .inr ⟨w.heap.size, _, _, rfl, Nat.le_refl _, heap_alloc_new _ _, Nat.zero_le _, ?_, ?_⟩⟩, ((Below.refl _ _).drew).alloc (Nat.le_refl _) _⟩
    · exact grownCap_le_maxLen w (0 + n) 0 75 (by simp only [maxLen]; omega)
    · refine ⟨?_, by simp⟩
      have e2 : (Value.agg #[Value.int IntKind.i64 0, Value.int IntKind.i64 0]).cells.size = 2 := rfl
      show _ = grownCap w (0 + n) 0 75 * 2
      rw [Array.size_append, Array.size_append, size_zeroCells, size_zeroCells, e2]
      show 0 + _ + (grownCap w (0 + n) 0 75 - (0 + n)) * 2 = _
      omega
set_option maxHeartbeats 4000000 in
theorem concat_any (A A' : Option Addr) (c c' g : Nat) (a b : List Ln) (w : World) (hg : g < w.heap.size) (h0 : w.cell? ⟨g, 0, none⟩ = some (.slice A a.length c)) (h1 : w.cell? ⟨g, 1, none⟩ = some (.slice A' b.length c')) (ha : RdL w w.heap.size A a) (hb : RdL w w.heap.size A' b) (hla : a.length ≤ 100) (hlb : b.length ≤ 100) :
    Calls Tryz.prog 53 #[.slice (some ⟨g, 0, none⟩) 2 2] w (EndOwn Ln.cs 2 75 (a ++ b) w) := by
  obtain ⟨i0, hi0, hz0, hz1, hz2⟩ := info_parts infoLn
  have HA := Lib.hid ha
  have HB := Lib.hid hb
  clear ha hb
  go_enter Tryz.func53, Tryz.ntmps53
  go_wp2_with fail
  go_loopw [3, 11] (fun sv iv wr => ∃ (i n : Nat), i ≤ 2 ∧ iv = .int .i64 i ∧ sv = .int .i64 n ∧ n = (if i = 0 then 0 else if i = 1 then a.length else a.length + b.length) ∧ wr = w) (fun _ i _ => 2 - (intOf i).toNat)
  case atStart => exact ⟨0, 0, by omega, rfl, rfl, rfl, rfl⟩
  case round =>
    obtain ⟨i, n, hi, rfl, rfl, hn, hwr⟩ := hrel
    obtain rfl : w = wr := hwr.symm
    clear hwr
    have HN := Lib.hid hn
    clear hn
    match i, hi with
    | 0, _ =>
      have hn : n = 0 := HN.out
      subst hn
      go_wp2_with fail
      go_roundw
      case rel => exact ⟨1, a.length, by omega, rfl, by go_num, by first | rfl | trivial, by first | rfl | trivial⟩
      case measure => simp [intOf]
    | 1, _ =>
      have hn : n ≤ 100 := by have := HN.out; simp at this; omega
      have HN1 := Lib.hid (show n = a.length from HN.out)
      go_wp2_with fail
      go_roundw
      case rel => exact ⟨2, n + b.length, by omega, rfl, by go_num, by rw [HN1.out]; first | rfl | trivial, by first | rfl | trivial⟩
      case measure => simp [intOf]
    | 2, _ =>
      have hn : n ≤ 1000 := by have := HN.out; simp at this; omega
      go_wp2_with fail
      refine (grow0 n w hn).mono ?_
      rintro e w1 ⟨A1, c1, rfl, o1, k1⟩
      have O1 := Lib.hid o1
      have K1 := Lib.hid k1
      clear o1 k1
      go_wp2_with fail
      go_loopw [6, 27] (fun ov iv wr => ∃ (i : Nat) (acc : List Ln) (A2 : Option Addr) (c2 : Nat), i ≤ 2 ∧ iv = .int .i64 i ∧ ov = .slice A2 acc.length c2 ∧ acc = ([a, b].take i).flatten ∧ acc.length ≤ 200 ∧ wr.ownsRow w.heap.size 75 2 (.slice A2 acc.length c2) acc.length (acc.flatMap Ln.cs) ∧ Below w.heap.size w wr) (fun _ i _ => 2 - (intOf i).toNat)
      case atStart => exact ⟨0, [], A1, c1, by omega, rfl, rfl, rfl, by simp, O1.out, K1.out⟩
      case round =>
        obtain ⟨i, acc, A2, c2, hi, rfl, rfl, hacc, hal, row, hbw⟩ := hrel
        have zw := hbw.size
        have ROW := Lib.hid row
        have HACC := Lib.hid hacc
        have HBW := Lib.hid hbw
        have x0 : wr.cell? ⟨g, 0, none⟩ = some (.slice A a.length c) := (hbw.cell (p := ⟨g, 0, none⟩) hg).trans h0
        have x1 : wr.cell? ⟨g, 1, none⟩ = some (.slice A' b.length c') := (hbw.cell (p := ⟨g, 1, none⟩) hg).trans h1
        have a1 := HA.out.below hbw
        have b1 := HB.out.below hbw
        clear row hacc hbw
        match i, hi with
        | 0, _ =>
          have e0 : acc = [] := HACC.out
          subst e0
          go_wp2_with (at_builtin; refine wpList_append_rd _ Ln.cs rfl (.tmp 31) (.tmp 32) _ rfl w.heap.size 75 i0 _ 2 16 Tryz.underlying57 hi0 hz0 hz1 hz2 rfl (by omega) Ln.cs_len Ln.cs_one (.slice A2 0 c2) 0 [] rfl ROW.out w.heap.size A c a rfl a1 (by simp only [maxLen]; omega) (by omega) zw ?_; intro v3 w3 row3 g3 at3; simp only [Nat.zero_add, List.nil_append] at row3; obtain ⟨A3, c3, rfl⟩ := own_slice row3 (by omega); have k3 := below_app HBW.out ROW.out g3 (Nat.le_refl _) zw)
          go_roundw
          case rel => exact ⟨1, a, A3, c3, by omega, rfl, rfl, by simp, by omega, row3, k3⟩
          case measure => simp [intOf]
        | 1, _ =>
          have e0 : acc = a := by rw [HACC.out]; simp
          subst e0
          go_wp2_with (at_builtin; refine wpList_append_rd _ Ln.cs rfl (.tmp 31) (.tmp 32) _ rfl w.heap.size 75 i0 _ 2 16 Tryz.underlying57 hi0 hz0 hz1 hz2 rfl (by omega) Ln.cs_len Ln.cs_one (.slice A2 acc.length c2) acc.length (acc.flatMap Ln.cs) rfl ROW.out w.heap.size A' c' b rfl b1 (by simp only [maxLen]; omega) (by omega) zw ?_; intro v3 w3 row3 g3 at3; obtain ⟨A3, c3, hv3, row3⟩ := own_app row3 (by omega); have k3 := below_app HBW.out ROW.out g3 (Nat.le_refl _) zw)
          go_roundw
          case rel => exact ⟨2, acc ++ b, A3, c3, by omega, rfl, by rw [List.length_append], by simp, by rw [List.length_append]; omega, row3, k3⟩
          case measure => simp [intOf]
        | 2, _ =>
          have e0 : acc = a ++ b := by rw [HACC.out]; simp
          subst e0
          go_wp2_with fail
          go_ret
          exact ⟨A2, c2, rfl, ROW.out, HBW.out⟩
end Go.Proofs.YtoomffajodheaaaGreatDoor
namespace Go.Proofs.YtoomffajodheaaaGreatDoor
open Go.RowKit
set_option maxRecDepth 100000
def delayErr (l : List Ln) (per : Int) : Nat × Int := if (dlkErr l per).1 ≠ 0 then dlkErr l per else if dTop per l = 0 then (4, -1) else (0, -1)
def delayV (l : List Ln) (per : Int) : Int := if (delayErr l per).1 = 0 then dBest per l else 0
/-- What is left of the lines, behind those that were looked at. -/
structure DI (l : List Ln) (per : Int) (k : Nat) (st fl : List Ln) (r : Int) : Prop where
  eS : steepL per l = st ++ steepL per (l.drop k)
  eF : flatL per l = fl ++ flatL per (l.drop k)
  eR : reachF 0 l = reachF r (l.drop k)
  b0 : 0 ≤ r ∧ r ≤ 20000
  lS : st.length ≤ k
  lF : fl.length ≤ k
section
variable {l : List Ln} {per : Int} {k : Nat} {st fl : List Ln} {r : Int}
theorem DI.steep (h : DI l per k st fl r) (hk : k < l.length) (hs : 1000 < l[k].r * per) (hp : 0 ≤ per) : DI l per (k + 1) (st ++ [l[k]]) fl r := by
  have hd : l.drop k = l[k] :: l.drop (k + 1) := List.drop_eq_getElem_cons hk
  have hr : ¬ (l[k].r = 0 ∧ (r = 0 ∨ l[k].b < r)) := fun e => by rw [e.1] at hs; omega
  refine ⟨by rw [h.eS, hd]; unfold steepL; rw [List.filter_cons_of_pos (by simpa using hs), List.append_assoc]; rfl, by rw [h.eF, hd]; unfold flatL; rw [List.filter_cons_of_neg (by simp; omega)], by rw [h.eR, hd, reachF, if_neg hr], h.b0, by rw [List.length_append]; have := h.lS; simp; omega, by have := h.lF; omega⟩
theorem DI.zero (h : DI l per k st fl r) (hk : k < l.length) (h0 : l[k].r = 0) (hok : okLn l[k]) : DI l per (k + 1) st fl (if r = 0 ∨ l[k].b < r then l[k].b else r) := by
  have hd : l.drop k = l[k] :: l.drop (k + 1) := List.drop_eq_getElem_cons hk
  refine ⟨by rw [h.eS, hd]; unfold steepL; rw [List.filter_cons_of_neg (by simp [h0])], by rw [h.eF, hd]; unfold flatL; rw [List.filter_cons_of_neg (by simp [h0])], by rw [h.eR, hd, reachF]; simp only [h0, true_and], ?_, by have := h.lS; omega, by have := h.lF; omega⟩
  have := h.b0
  have := hok.1
  have := hok.2.1
  split <;> omega
theorem DI.flat (h : DI l per k st fl r) (hk : k < l.length) (hs : l[k].r * per ≤ 1000) (h0 : 0 < l[k].r) : DI l per (k + 1) st (fl ++ [l[k]]) r := by
  have hd : l.drop k = l[k] :: l.drop (k + 1) := List.drop_eq_getElem_cons hk
  refine ⟨by rw [h.eS, hd]; unfold steepL; rw [List.filter_cons_of_neg (by simp; omega)], by rw [h.eF, hd]; unfold flatL; rw [List.filter_cons_of_pos (by simp; omega), List.append_assoc]; rfl, by rw [h.eR, hd, reachF, if_neg (by omega)], h.b0, by have := h.lS; omega, by rw [List.length_append]; have := h.lF; simp; omega⟩
end
set_option maxHeartbeats 8000000 in
theorem delay_main (A : Option Addr) (c : Nat) (l : List Ln) (per : Int) (S : Nat → Addr) (w : World) (B : Nat) (hB : B ≤ w.heap.size) (h : RdL w B A l) (hS : Snt w B S [2, 3, 4]) (hl : l.length ≤ 9223372036854775807) (hk : (dlkErr l per).1 = 0) :
    Calls Tryz.prog 32 #[.slice A l.length c, .int .i64 per] w (EndVEr (.int .i64 (delayV l per)) S (delayErr l per).1 (delayErr l per).2 w) := by
  obtain ⟨hc, p0, p1, hke⟩ := dlkErr_ok hk
  obtain ⟨l1, l6, hok, _⟩ := crvErr_ok hc
  obtain ⟨i0, hi0, hz0, hz1, hz2⟩ := info_parts infoLn
  have HK := Lib.hid hk
  have HOK := Lib.hid hok
  clear hk hc hke
  go_enter Tryz.func32, Tryz.ntmps32
  go_wp2_with fail
  refine (clook_any A c l per S (w.alloc (.cells #[.int .i64 per] 3)) B (by simp; omega) (h.below ((Below.refl _ _).alloc hB _)) ((hS.below ((Below.refl _ _).alloc hB _)).sub (by simp)) hl).mono ?_
  rintro e wl ⟨v, rfl, hv, kl⟩
  obtain rfl := hv.nil_of HK.out
  have bl : Blk wl w.heap.size 3 #[.int .i64 per] := (Blk.new w _ _).below kl (by simp)
  have kl' : Below w.heap.size w wl := ((Below.refl _ _).alloc (Nat.le_refl _) _).trans (kl.mono (by simp))
  have zl : w.heap.size < wl.heap.size := bl.lt
  obtain ⟨g3, hg3⟩ : ∃ g3, g3 = w.heap.size := ⟨_, rfl⟩
  have HM0 : ∀ g7, g7 = wl.heap.size → DM w w.heap.size g3 g7 (g7 + 1) (g7 + 1 + 1) per 0 [] [] none 0 none 0 (((wl.alloc (.cells #[.slice none 0 0] 57)).alloc (.cells #[.slice none 0 0] 57)).alloc (.cells #[.int .i64 0] 3)) := fun g7 hg7 => by
    have s1 : (wl.alloc (.cells #[.slice none 0 0] 57)).heap.size = g7 + 1 := by simp [hg7]
    have s2 : ((wl.alloc (.cells #[.slice none 0 0] 57)).alloc (.cells #[.slice none 0 0] 57)).heap.size = g7 + 1 + 1 := by simp [hg7]
    have x7 := Blk.new wl 57 #[.slice none 0 0]
    rw [← hg7] at x7
    have x8 := Blk.new (wl.alloc (.cells #[.slice none 0 0] 57)) 57 #[.slice none 0 0]
    rw [s1] at x8
    have x9 := Blk.new ((wl.alloc (.cells #[.slice none 0 0] 57)).alloc (.cells #[.slice none 0 0] 57)) 3 #[.int .i64 0]
    rw [s2] at x9
    exact { b3 := by rw [hg3]; exact ((bl.alloc _).alloc _).alloc _, b7 := (x7.alloc _).alloc _, b8 := x8.alloc _, b9 := x9, o7 := ⟨by simp, .inl ⟨rfl, rfl⟩⟩, o8 := ⟨by simp, .inl ⟨rfl, rfl⟩⟩, n7 := fun b e => by simp [Value.ownBlock] at e, n8 := fun b e => by simp [Value.ownBlock] at e, ne := fun b e => by simp [Value.ownBlock] at e, bel := ((kl'.alloc (Nat.le_of_lt zl) _).alloc (by simp; omega) _).alloc (by simp; omega) _, ge := ⟨by omega, by omega, by omega, by omega⟩, di := ⟨by omega, by omega, by omega, by omega, by omega, by omega⟩ }
  obtain ⟨g7, hg7⟩ : ∃ g7, g7 = wl.heap.size := ⟨_, rfl⟩
  have M0 := Lib.hid (HM0 g7 hg7)
  rw [← hg3]
  have HG3 := Lib.hid hg3
  have HG7 := Lib.hid hg7
  clear HM0 bl kl kl' hv zl hg3 hg7
  go_upto_region 6 with fail
  rw [← HG7.out]
  obtain ⟨W0, hW0⟩ : ∃ W0 : World, W0 = ((wl.alloc (.cells #[.slice none 0 0] 57)).alloc (.cells #[.slice none 0 0] 57)).alloc (.cells #[.int .i64 0] 3) := ⟨_, rfl⟩
  have M1 := Lib.hid (show DM w w.heap.size g3 g7 (g7 + 1) (g7 + 1 + 1) per 0 [] [] none 0 none 0 W0 by rw [hW0]; exact M0.out)
  rw [← hW0]
  obtain ⟨g8, hg8⟩ : ∃ g8, g8 = g7 + 1 := ⟨_, rfl⟩
  obtain ⟨g9, hg9⟩ : ∃ g9, g9 = g8 + 1 := ⟨_, rfl⟩
  rw [← hg8, ← hg9] at M1 ⊢
  clear M0 HG3 HG7 hW0 hg8 hg9
  have hN := Lib.hid hS
  go_wp2_with fail
  go_loopw [10, 26] (fun rv iv wr => ∃ (k : Nat) (st fl : List Ln) (r : Int) (A7 : Option Addr) (c7 : Nat) (A8 : Option Addr) (c8 : Nat), k ≤ l.length ∧ iv = .int .i64 k ∧ rv = .int .i64 r ∧ DI l per k st fl r ∧ DM w w.heap.size g3 g7 g8 g9 per 0 st fl A7 c7 A8 c8 wr) (fun _ iv _ => l.length - (intOf iv).toNat)
  case atStart => exact ⟨0, [], [], 0, none, 0, none, 0, Nat.zero_le _, rfl, rfl, ⟨rfl, rfl, rfl, by omega, by simp, by simp⟩, M1.out⟩
  case round =>
    obtain ⟨k, st, fl, r, A7, c7, A8, c8, hk, rfl, rfl, hdi, hm⟩ := hrel
    have DIH := Lib.hid hdi
    have DMH := Lib.hid hm
    clear hdi hm M1
    by_cases hlt : k < l.length
    · as_aux_lemma =>
      have hokk := HOK.out _ (List.getElem_mem hlt)
      have OKK := Lib.hid hokk
      obtain ⟨r1, r2, r3, r4⟩ := hokk
      have m0 : 0 ≤ l[k].r * per := Int.mul_nonneg r3 (by omega)
      have m1 : l[k].r * per ≤ 100000 * 1000 := Int.mul_le_mul r4 p1 (by omega) (by omega)
      obtain ⟨b, o, rfl, hb, d0, d1⟩ := RdL.get (h.below (DMH.out.bel.mono hB)) hlt
      have rb := DIH.out.b0
      have sl := DIH.out.lS
      have fl' := DIH.out.lF
      go_upto_region 9 with fail
      obtain ⟨V, hV⟩ : ∃ V : World, V = wr.alloc (.cells #[.int .i64 l[k].b, .int .i64 l[k].r] 75) := ⟨_, rfl⟩
      have HV := Lib.hid (show DM w w.heap.size g3 g7 g8 g9 per 0 st fl A7 c7 A8 c8 V by rw [hV]; exact DMH.out.alloc _)
      have bx : Blk V wr.heap.size 75 #[.int .i64 l[k].b, .int .i64 l[k].r] := by rw [hV]; exact Blk.new _ _ _
      obtain ⟨gx, hgx⟩ : ∃ gx, gx = wr.heap.size := ⟨_, rfl⟩
      rw [← hV, ← hgx]
      rw [← hgx] at bx
      have x0 : V.cell? ⟨gx, 0, none⟩ = some (.int .i64 l[k].b) := bx.cell 0
      have x1 : V.cell? ⟨gx, 1, none⟩ = some (.int .i64 l[k].r) := bx.cell 1
      have x3 : V.cell? ⟨g3, 0, none⟩ = some (.int .i64 per) := HV.out.b3.cell 0
      have x7 : V.cell? ⟨g7, 0, none⟩ = some (.slice A7 st.length c7) := HV.out.b7.cell 0
      have x8 : V.cell? ⟨g8, 0, none⟩ = some (.slice A8 fl.length c8) := HV.out.b8.cell 0
      have Hnew := Lib.hid (show Rd (V.alloc (.cells #[.int .i64 l[k].b, .int .i64 l[k].r] 75)) (V.heap.size + 1) 2 Ln.cs (some ⟨V.heap.size, 0, none⟩) [l[k]] from RdL.new_ l[k])
      have zV := HV.out.size_
      clear hV hgx bx d0 d1
      by_cases hs : 1000 < l[k].r * per
      · have DI2 := Lib.hid (DIH.out.steep hlt hs (by omega))
        go_wp2_with (at_builtin; refine wpList_append_rd _ Ln.cs rfl (.tmp 36) (.tmp 38) _ rfl w.heap.size 75 i0 _ 2 16 Tryz.underlying57 hi0 hz0 hz1 hz2 rfl (by omega) Ln.cs_len Ln.cs_one (.slice A7 st.length c7) st.length (st.flatMap Ln.cs) rfl (HV.out.o7.alloc _) (V.heap.size + 1) (some ⟨V.heap.size, 0, none⟩) 1 [l[k]] rfl Hnew.out (by simp only [maxLen, List.length_cons, List.length_nil]; omega) (by simp only [List.length_cons, List.length_nil]; omega) (by simp; omega) ?_; intro v3 w3 row3 g3' at3; have b7' := (HV.out.alloc (.cells #[.int .i64 l[k].b, .int .i64 l[k].r] 75)).b7.grown g3' (fun e => (HV.out.n7 _ e.symm).2.1 rfl); have c7' : w3.cell? ⟨g7, 0, none⟩ = some (.slice A7 st.length c7) := b7'.cell 0; have f7' := b7'.frozen 0; obtain ⟨A9, c9, hv3, row4⟩ := own_app (l := st) (l' := [l[k]]) row3 (by omega); subst hv3)
        have M3 := HV.out.push7 row4 g3' at3
        have hle : (st ++ [l[k]]).length = st.length + 1 := by simp
        refine ⟨⟨k + 1, st ++ [l[k]], fl, r, A9, c9, A8, c8, hlt, by go_num, rfl, DI2.out, by rw [← hle]; exact M3⟩, ?_⟩
        simp [intOf]
        omega
      · have hs1 : l[k].r * per ≤ 1000 := by omega
        clear hs
        by_cases h0 : l[k].r = 0
        · have hb0 : (l[k].r == 0) = true := beq_iff_eq.2 h0
          have hn0 : ¬ 0 < l[k].r := by omega
          have DI2 := Lib.hid (DIH.out.zero hlt h0 OKK.out)
          clear h0
          by_cases hr0 : r = 0
          · subst hr0
            have E := Lib.hid (show (if (0 : Int) = 0 ∨ l[k].b < 0 then l[k].b else 0) = l[k].b from if_pos (.inl rfl))
            go_wp2_with fail
            go_roundw
            case rel => exact ⟨k + 1, st, fl, l[k].b, A7, c7, A8, c8, hlt, by go_num, rfl, by have h9 := DI2.out; rw [E.out] at h9; exact h9, HV.out⟩
            case measure => simp [intOf]; omega
          · have hbr : (r == 0) = false := beq_eq_false_iff_ne.2 hr0
            by_cases hbr2 : l[k].b < r
            · have E := Lib.hid (show (if r = 0 ∨ l[k].b < r then l[k].b else r) = l[k].b from if_pos (.inr hbr2))
              clear hr0
              go_wp2_with fail
              go_roundw
              case rel => exact ⟨k + 1, st, fl, l[k].b, A7, c7, A8, c8, hlt, by go_num, rfl, by have h9 := DI2.out; rw [E.out] at h9; exact h9, HV.out⟩
              case measure => simp [intOf]; omega
            · have E := Lib.hid (show (if r = 0 ∨ l[k].b < r then l[k].b else r) = r from if_neg (fun e => e.elim hr0 hbr2))
              clear hr0
              go_wp2_with fail
              go_roundw
              case rel => exact ⟨k + 1, st, fl, r, A7, c7, A8, c8, hlt, by go_num, rfl, by have h9 := DI2.out; rw [E.out] at h9; exact h9, HV.out⟩
              case measure => simp [intOf]; omega
        · have hb0 : (l[k].r == 0) = false := beq_eq_false_iff_ne.2 h0
          have hp0 : 0 < l[k].r := by omega
          have DI2 := Lib.hid (DIH.out.flat hlt hs1 hp0)
          clear h0
          go_wp2_with (at_builtin; refine wpList_append_rd _ Ln.cs rfl (.tmp 60) (.tmp 62) _ rfl w.heap.size 75 i0 _ 2 16 Tryz.underlying57 hi0 hz0 hz1 hz2 rfl (by omega) Ln.cs_len Ln.cs_one (.slice A8 fl.length c8) fl.length (fl.flatMap Ln.cs) rfl (HV.out.o8.alloc _) (V.heap.size + 1) (some ⟨V.heap.size, 0, none⟩) 1 [l[k]] rfl Hnew.out (by simp only [maxLen, List.length_cons, List.length_nil]; omega) (by simp only [List.length_cons, List.length_nil]; omega) (by simp; omega) ?_; intro v3 w3 row3 g3' at3; have b8' := (HV.out.alloc (.cells #[.int .i64 l[k].b, .int .i64 l[k].r] 75)).b8.grown g3' (fun e => (HV.out.n8 _ e.symm).2.2.1 rfl); have c8' : w3.cell? ⟨g8, 0, none⟩ = some (.slice A8 fl.length c8) := b8'.cell 0; have f8' := b8'.frozen 0; obtain ⟨A9, c9, hv3, row4⟩ := own_app (l := fl) (l' := [l[k]]) row3 (by omega); subst hv3)
          have M3 := HV.out.push8 row4 g3' at3
          have hle : (fl ++ [l[k]]).length = fl.length + 1 := by simp
          refine ⟨⟨k + 1, st, fl ++ [l[k]], r, A7, c7, A9, c9, hlt, by go_num, rfl, DI2.out, by rw [← hle]; exact M3⟩, ?_⟩
          simp [intOf]
          omega
    · have hd : l.drop k = [] := List.drop_eq_nil_of_le (by omega)
      have hst : st = steepL per l := by rw [DIH.out.eS, hd]; simp [steepL]
      have hfl : fl = flatL per l := by rw [DIH.out.eF, hd]; simp [flatL]
      have hrr : r = reachF 0 l := by rw [DIH.out.eR, hd]; rfl
      have hsl := DIH.out.lS
      have hfll := DIH.out.lF
      have hrb := DIH.out.b0
      have HST := Lib.hid hst
      have HFL := Lib.hid hfl
      have HRR := Lib.hid hrr
      have x8 : wr.cell? ⟨g8, 0, none⟩ = some (.slice A8 fl.length c8) := DMH.out.b8.cell 0
      clear hd hst hfl hrr DIH
      go_wp2_with fail
      go_loopw [67] (fun iv wr => ∃ (k : Nat) (t : Int), k ≤ fl.length ∧ iv = .int .i64 k ∧ topF 0 fl = topF t (fl.drop k) ∧ 0 ≤ t ∧ t ≤ 20000 ∧ DM w w.heap.size g3 g7 g8 g9 per t st fl A7 c7 A8 c8 wr) (fun iv _ => fl.length - (intOf iv).toNat)
      case atStart => exact ⟨0, 0, Nat.zero_le _, rfl, rfl, by omega, by omega, DMH.out⟩
      case round =>
        obtain ⟨k, t, hk, rfl, htf, t0, t1, hm⟩ := hrel
        have HM := Lib.hid hm
        have HTF := Lib.hid htf
        clear hm htf x8 DMH
        by_cases hkl : k < fl.length
        · as_aux_lemma =>
          have hmem : fl[k] ∈ flatL per l := by rw [← HFL.out]; exact List.getElem_mem hkl
          obtain ⟨r1, r2, r3, r4⟩ := HOK.out _ (mem_flat.1 hmem).1
          have hd : fl.drop k = fl[k] :: fl.drop (k + 1) := List.drop_eq_getElem_cons hkl
          have HD := Lib.hid hd
          obtain ⟨b, o, rfl, hb, d0, d1⟩ := RdL.get (Rd.of_own HM.out.o8 (by omega) Ln.cs_len) hkl
          clear hd hmem
          go_upto_region 19 with fail
          obtain ⟨V, hV⟩ : ∃ V : World, V = wr.alloc (.cells #[.int .i64 fl[k].b, .int .i64 fl[k].r] 75) := ⟨_, rfl⟩
          have HV := Lib.hid (show DM w w.heap.size g3 g7 g8 g9 per t st fl A7 c7 (some ⟨b, o, none⟩) c8 V by rw [hV]; exact HM.out.alloc _)
          have bx : Blk V wr.heap.size 75 #[.int .i64 fl[k].b, .int .i64 fl[k].r] := by rw [hV]; exact Blk.new _ _ _
          obtain ⟨gx, hgx⟩ : ∃ gx, gx = wr.heap.size := ⟨_, rfl⟩
          rw [← hV, ← hgx]
          rw [← hgx] at bx
          have x0 : V.cell? ⟨gx, 0, none⟩ = some (.int .i64 fl[k].b) := bx.cell 0
          have x9 : V.cell? ⟨g9, 0, none⟩ = some (.int .i64 t) := HV.out.b9.cell 0
          have f9 := HV.out.b9.frozen 0
          clear hV hgx bx d0 d1
          by_cases ht0 : t = 0
          · subst ht0
            have E := Lib.hid (show topF 0 fl = topF fl[k].b (fl.drop (k + 1)) by rw [HTF.out, HD.out, topF, if_pos (.inl rfl)])
            have hm3 := HV.out.setTop fl[k].b
            go_wp2_with fail
            go_roundw
            case rel => exact ⟨k + 1, fl[k].b, hkl, by go_num, E.out, by omega, r2, hm3⟩
            case measure => simp [intOf]; omega
          · have hb0 : (t == 0) = false := beq_eq_false_iff_ne.2 ht0
            by_cases hbt : fl[k].b < t
            · have E := Lib.hid (show topF 0 fl = topF fl[k].b (fl.drop (k + 1)) by rw [HTF.out, HD.out, topF, if_pos (.inr hbt)])
              have hm3 := HV.out.setTop fl[k].b
              clear ht0
              go_wp2_with fail
              go_roundw
              case rel => exact ⟨k + 1, fl[k].b, hkl, by go_num, E.out, by omega, r2, hm3⟩
              case measure => simp [intOf]; omega
            · have E := Lib.hid (show topF 0 fl = topF t (fl.drop (k + 1)) by rw [HTF.out, HD.out, topF, if_neg (fun e => e.elim ht0 hbt)])
              have hm3 := HV.out
              clear ht0
              go_wp2_with fail
              go_roundw
              case rel => exact ⟨k + 1, t, hkl, by go_num, E.out, t0, t1, hm3⟩
              case measure => simp [intOf]; omega
        · have htt : t = topF 0 fl := by rw [HTF.out, List.drop_eq_nil_of_le (by omega)]; rfl
          have HTT := Lib.hid htt
          have x9 : wr.cell? ⟨g9, 0, none⟩ = some (.int .i64 t) := HM.out.b9.cell 0
          clear htt HTF
          go_upto_region 22 with fail
          go_cut [92] from 26 to 127 (fun s92 wx => s92 = .bool (decide (0 < r ∧ (t = 0 ∨ r < t))) ∧ wx = wr)
          case first =>
            by_cases hr0 : 0 < r
            · by_cases ht0 : t = 0
              · have E := Lib.hid (show decide (0 < r ∧ (t = 0 ∨ r < t)) = true from decide_eq_true ⟨hr0, .inl ht0⟩)
                subst ht0
                go_wp2_with fail
                go_meet
                exact ⟨by rw [E.out], rfl⟩
              · have hb0 : (t == 0) = false := beq_eq_false_iff_ne.2 ht0
                by_cases hrt : r < t
                · have E := Lib.hid (show decide (0 < r ∧ (t = 0 ∨ r < t)) = true from decide_eq_true ⟨hr0, .inr hrt⟩)
                  clear ht0
                  go_wp2_with fail
                  go_meet
                  exact ⟨by rw [E.out], rfl⟩
                · have E := Lib.hid (show decide (0 < r ∧ (t = 0 ∨ r < t)) = false from decide_eq_false fun e => e.2.elim ht0 hrt)
                  clear ht0
                  go_wp2_with fail
                  go_meet
                  exact ⟨by rw [E.out], rfl⟩
            · have E := Lib.hid (show decide (0 < r ∧ (t = 0 ∨ r < t)) = false from decide_eq_false fun e => hr0 e.1)
              go_wp2_with fail
              go_meet
              exact ⟨by rw [E.out], rfl⟩
          case rest =>
          obtain ⟨rfl, rfl⟩ := hcut
          have hdt : dTop per l = if 0 < r ∧ (t = 0 ∨ r < t) then r else t := by unfold dTop; rw [HRR.out, HTT.out, HFL.out]
          have HDT := Lib.hid hdt
          clear hdt
          go_upto_if 92 with fail
          go_cut [] from 26 to 127 (fun wx => DM w w.heap.size g3 g7 g8 g9 per (dTop per l) st fl A7 c7 A8 c8 wx)
          case first => as_aux_lemma =>
            have f9 := HM.out.b9.frozen 0
            by_cases hc : 0 < r ∧ (t = 0 ∨ r < t)
            · have E := Lib.hid (show dTop per l = r by rw [HDT.out, if_pos hc])
              have hm3 := HM.out.setTop r
              rw [decide_eq_true hc]
              clear hc
              go_wp2_with fail
              go_meet
              rw [E.out]
              exact hm3
            · have E := Lib.hid (show dTop per l = t by rw [HDT.out, if_neg hc])
              have hm3 := HM.out
              rw [decide_eq_false hc]
              clear hc
              go_wp2_with fail
              go_meet
              rw [E.out]
              exact hm3
          case rest =>
          rename World => W2
          have H2 := Lib.hid hcut
          clear HM x9 hcut HTT HDT
          obtain ⟨T, hT⟩ : ∃ T, T = dTop per l := ⟨_, rfl⟩
          rw [← hT] at H2
          have HT := Lib.hid hT
          have x9 : W2.cell? ⟨g9, 0, none⟩ = some (.int .i64 T) := H2.out.b9.cell 0
          clear hT
          by_cases hT0 : T = 0
          · have He := Lib.hid (show delayErr l per = (4, -1) by unfold delayErr; rw [if_neg (by rw [HK.out]; omega), if_pos (by rw [← HT.out]; exact hT0)])
            have Hv := Lib.hid (show delayV l per = 0 by unfold delayV; rw [He.out]; rfl)
            have g4 : W2.cell? ⟨G 4, 0, none⟩ = some (sv S 4) := ((hN.out.below (H2.out.bel.mono hB)) 4 (by simp)).2.2
            simp only [G, sv] at g4
            subst hT0
            clear hS
            go_wp2_with fail
            go_quiet (fail)
            rename Nat => nq
            go_wp2_with fail
            go_ret2
            rw [He.out, Hv.out]
            exact ⟨_, rfl, .bare 4 (by omega) (by omega), below_drewN H2.out.bel nq⟩
          · have hb0 : (T == 0) = false := beq_eq_false_iff_ne.2 hT0
            have He := Lib.hid (show delayErr l per = (0, -1) by unfold delayErr; rw [if_neg (by rw [HK.out]; omega), if_neg (by rw [← HT.out]; exact hT0)])
            have Hv := Lib.hid (show delayV l per = dBest per l by unfold delayV; rw [He.out]; rfl)
            go_upto_if 98 with fail
            go_cut [10] from 26 to 127 (fun s10 wx => s10 = .int .i64 (dReach l) ∧ wx = W2)
            case first => as_aux_lemma =>
              by_cases hr0 : r = 0
              · have E := Lib.hid (show dReach l = 35184372088832 by unfold dReach; rw [if_pos (by rw [← HRR.out]; exact hr0)])
                subst hr0
                go_wp2_with fail
                go_meet
                exact ⟨by rw [E.out], rfl⟩
              · have hbr : (r == 0) = false := beq_eq_false_iff_ne.2 hr0
                have E := Lib.hid (show dReach l = r by unfold dReach; rw [if_neg (by rw [← HRR.out]; exact hr0), HRR.out])
                clear hr0
                go_wp2_with fail
                go_meet
                exact ⟨by rw [E.out], rfl⟩
            case rest =>
            obtain ⟨rfl, hwc⟩ := hcut
            obtain rfl : W2 = wc := hwc.symm
            clear hwc
            have s1 : 0 ≤ dTop per l := (dTop_spec HOK.out).1
            have s4 : dTop per l ≤ dReach l := (dTop_spec HOK.out).2.2.2.1
            have hTp : 0 < dTop per l := by rw [← HT.out] at s1 ⊢; omega
            have hRt := dReach_top HOK.out
            have hmono := dP_mono p0 HOK.out hTp
            obtain ⟨⟨pk1, _⟩, _⟩ := delay_peak p0 HOK.out hTp
            rw [← HT.out] at s1 s4 hTp hmono pk1
            obtain ⟨R, hR⟩ : ∃ R, R = dReach l := ⟨_, rfl⟩
            rw [← hR] at s4 hRt hmono pk1 ⊢
            obtain ⟨n, hn⟩ : ∃ n, n = dN per l := ⟨_, rfl⟩
            rw [← hn] at pk1
            have HR := Lib.hid hR
            have HNN := Lib.hid hn
            have hNn : (((R - T).toNat : Nat) : Int) = R - T := by omega
            have hk7 : ∀ x ∈ st, okLn x ∧ 0 < x.r := fun x hx => by rw [HST.out] at hx; exact ⟨HOK.out x (mem_steep.1 hx).1, steep_pos p0 hx HOK.out⟩
            have hk8 : ∀ x ∈ fl, okLn x ∧ 0 < x.r := fun x hx => by rw [HFL.out] at hx; exact ⟨HOK.out x (mem_flat.1 hx).1, (mem_flat.1 hx).2.1⟩
            have HK7 := Lib.hid hk7
            have HK8 := Lib.hid hk8
            have hdP : ∀ i : Nat, dP per l i = decide (mostL fl per (T + i) ≤ mostL st per (T + i)) := fun i => by unfold dP; rw [← HT.out, ← HST.out, ← HFL.out]
            have eg : ∀ args w, (callFunc 51 args).run Tryz.prog w = .ok (.enter 51 args) w := enters_of Tryz.func51 (by kernel_rfl) rfl
            have hSe := Any.sort_Search Tryz.search 51 #[.pointer (some ⟨g7, 0, none⟩), .pointer (some ⟨g3, 0, none⟩), .pointer (some ⟨g9, 0, none⟩), .pointer (some ⟨g8, 0, none⟩)] (R - T).toNat (dP per l) W2 eg (by omega)
              (fun m os i hi => by
                have hb := H2.out.box.below ((show Grew W2 (Go.Sort.grow (W2.drewN m) os) from ⟨m, os, rfl⟩).below (Nat.le_refl _))
                rw [hdP]
                exact dly1_any g7 g3 g9 g8 A7 c7 st per T A8 c8 fl i _ hb (by omega) (by omega) hk7 hk8 p0 p1 (by omega) (by omega))
              (fun a b hab hb h => hmono a b hab hb h)
            change Calls Tryz.prog 50 _ _ _ at hSe
            rw [hNn, show (List.range (R - T).toNat).countP (fun i => !dP per l i) = n by rw [hn, hR, HT.out]; rfl] at hSe
            have HSE := Lib.hid hSe
            clear hSe eg hdP hk7 hk8 hn hR hmono hT0 hb0 hNn
            go_wp2_with fail
            refine HSE.out.mono ?_
            rintro e W3 ⟨rfl, hg3⟩
            have G3 : Grew W2 W3 := hg3
            have H3 := Lib.hid (H2.out.below_ (G3.below (Nat.le_refl _)))
            have y9 : W3.cell? ⟨g9, 0, none⟩ = some (.int .i64 T) := H3.out.b9.cell 0
            have y7 : W3.cell? ⟨g7, 0, none⟩ = some (.slice A7 st.length c7) := H3.out.b7.cell 0
            have y8 : W3.cell? ⟨g8, 0, none⟩ = some (.slice A8 fl.length c8) := H3.out.b8.cell 0
            have y3 : W3.cell? ⟨g3, 0, none⟩ = some (.int .i64 per) := H3.out.b3.cell 0
            clear HSE hg3 G3 x9
            go_upto_region 30 with fail
            obtain ⟨y, hy⟩ : ∃ y, y = T + n := ⟨_, rfl⟩
            rw [← hy]
            obtain ⟨cat, hcat⟩ : ∃ cat, cat = st ++ fl := ⟨_, rfl⟩
            have hlen : cat.length ≤ 200 := by rw [hcat, List.length_append]; omega
            have hkk : ∀ x ∈ cat, okLn x ∧ 0 < x.r := fun x hx => by rw [hcat] at hx; exact (List.mem_append.1 hx).elim (HK7.out x) (HK8.out x)
            have HCAT := Lib.hid hcat
            have hall : ∀ z, mostL cat per z = dAll per l z := fun z => by unfold dAll; rw [hcat, HST.out, HFL.out]
            have HALL := Lib.hid hall
            clear hcat hall
            have HKK := Lib.hid hkk
            have HLEN := Lib.hid hlen
            have KP := Lib.hid (show ∀ W, Below W3.heap.size W3 W → W.cell? ⟨g7, 0, none⟩ = some (.slice A7 st.length c7) ∧ W.cell? ⟨g8, 0, none⟩ = some (.slice A8 fl.length c8) ∧ W.cell? ⟨g3, 0, none⟩ = some (.int .i64 per) from fun W hb => ⟨(H3.out.below_ hb).b7.cell 0, (H3.out.below_ hb).b8.cell 0, (H3.out.below_ hb).b3.cell 0⟩)
            clear hkk hlen
            have yb0 : 0 ≤ y := by omega
            have yb1 : y ≤ 35184372088832 := by omega
            have HY := Lib.hid hy
            clear hy
            have CC := Lib.hid (show ∀ W, Below W3.heap.size W3 W → Calls Tryz.prog 53 #[.slice (some ⟨W.heap.size, 0, none⟩) 2 2] (W.alloc (.cells #[.slice A7 st.length c7, .slice A8 fl.length c8] 57)).drew (EndOwn Ln.cs 2 75 cat (W.alloc (.cells #[.slice A7 st.length c7, .slice A8 fl.length c8] 57)).drew) from fun W hb => by
              have hm := H3.out.below_ hb
              have r7 := hm.box.r7
              have r8 := hm.box.r8
              have ba : Below W.heap.size W (W.alloc (.cells #[.slice A7 st.length c7, .slice A8 fl.length c8] 57)).drew := ((Below.refl _ _).alloc (Nat.le_refl _) _).drew
              have bb : Blk (W.alloc (.cells #[.slice A7 st.length c7, .slice A8 fl.length c8] 57)).drew W.heap.size 57 #[.slice A7 st.length c7, .slice A8 fl.length c8] := Blk.new W _ _
              rw [HCAT.out]
              exact concat_any A7 A8 c7 c8 W.heap.size st fl _ bb.lt (bb.cell 0) (bb.cell 1) ((r7.below ba).more ba.size) ((r8.below ba).more ba.size) (by omega) (by omega))
            have KC := Lib.hid (show ∀ W, Below W3.heap.size W3 W → ∀ w6, Below (W.alloc (.cells #[.slice A7 st.length c7, .slice A8 fl.length c8] 57)).drew.heap.size (W.alloc (.cells #[.slice A7 st.length c7, .slice A8 fl.length c8] 57)).drew w6 → Below W3.heap.size W3 w6 from fun W hb w6 h6 => by
              have hz := hb.size
              exact ((hb.alloc hz (.cells #[.slice A7 st.length c7, .slice A8 fl.length c8] 57)).drew).trans (h6.mono (by simp; omega)))
            have b3 : Below W3.heap.size W3 W3 := Below.refl _ _
            go_region_held3 (fun w' => w'.cell? ⟨g7, 0, none⟩ = some (.slice A7 st.length c7) ∧ w'.cell? ⟨g8, 0, none⟩ = some (.slice A8 fl.length c8) ∧ w'.cell? ⟨g3, 0, none⟩ = some (.int .i64 per))
              (first | go_keep | exact KP.out _ k36 | exact KP.out _ k37)
              (first
                | (go_at_call 53; refine (CC.out W3 b3).mono ?_; rintro e w6 ⟨A6, c6, rfl, o6, k6⟩; have k36 := KC.out W3 b3 w6 k6)
                | (go_at_call 52; refine (most_any A6 c6 cat per y w6 w6.heap.size (Nat.le_refl _) (RdL.of_own o6) (by have := HLEN.out; omega) HKK.out p0 p1 yb0 yb1).mono ?_; rintro e w7 ⟨rfl, k67⟩; have k37 := k36.trans ((k67.below (Nat.le_refl _)).mono k36.size)))
            have H7 := Lib.hid (H3.out.below_ k37)
            have z9 : w7.cell? ⟨g9, 0, none⟩ = some (.int .i64 T) := H7.out.b9.cell 0
            have z7 : w7.cell? ⟨g7, 0, none⟩ = some (.slice A7 st.length c7) := H7.out.b7.cell 0
            have z8 : w7.cell? ⟨g8, 0, none⟩ = some (.slice A8 fl.length c8) := H7.out.b8.cell 0
            have z3 : w7.cell? ⟨g3, 0, none⟩ = some (.int .i64 per) := H7.out.b3.cell 0
            clear o6 k6 k67 k36 y7 y8 y3 y9
            rename w7.cell? ⟨g7, 0, none⟩ = some (.slice A7 st.length c7) ∧ w7.cell? ⟨g8, 0, none⟩ = some (.slice A8 fl.length c8) ∧ w7.cell? ⟨g3, 0, none⟩ = some (.int .i64 per) => hs8
            clear hs8
            by_cases hn0 : 0 < n
            · have hTy : T < y := by have := HY.out; omega
              have HW := Lib.hid (show IntKind.i64.wrap (y - 1) = y - 1 by rw [IntKind.wrap_i64]; omega)
              have MS := Lib.hid (show ∀ (A8 : Option Addr) (c8 : Nat) (w8 : World), RdL w8 w8.heap.size A8 cat → Calls Tryz.prog 52 #[.slice A8 cat.length c8, .int .i64 per, .int .i64 (IntKind.i64.wrap (y - 1))] w8 fun e w' => e = .returned (.int .i64 (mostL cat per (y - 1))) ∧ Grew w8 w' from fun A8 c8 w8 hr => by
                rw [HW.out]
                exact most_any A8 c8 cat per (y - 1) w8 w8.heap.size (Nat.le_refl _) hr (by have := HLEN.out; omega) HKK.out p0 p1 (by omega) (by omega))
              have E := Lib.hid (show dBest per l = max (mostL cat per y) (mostL cat per (y - 1)) by
                unfold dBest
                rw [← HNN.out, ← HT.out, if_pos hn0, ← HALL.out, ← HALL.out, HY.out])
              clear hn0
              go_upto_region 32 with fail
              go_region_held3 (fun w' => w'.cell? ⟨g7, 0, none⟩ = some (.slice A7 st.length c7) ∧ w'.cell? ⟨g8, 0, none⟩ = some (.slice A8 fl.length c8) ∧ w'.cell? ⟨g3, 0, none⟩ = some (.int .i64 per))
                (first | go_keep | exact KP.out _ k38 | exact KP.out _ k39)
                (first
                  | (go_at_call 53; refine (CC.out w7 k37).mono ?_; rintro e w8 ⟨A10, c10, rfl, o8, k8⟩; have k38 := KC.out w7 k37 w8 k8)
                  | (go_at_call 52; refine (MS.out A10 c10 w8 (RdL.of_own o8)).mono ?_; rintro e w9 ⟨rfl, k89⟩; have k39 := k38.trans ((k89.below (Nat.le_refl _)).mono k38.size)))
              all_goals
                have hb9 := H3.out.bel.trans (k39.mono H3.out.size_)
                go_wp2_with fail
                go_ret2
                rw [He.out, Hv.out, E.out]
                exact ⟨_, rfl, .nil, hb9⟩
            · have hTy : ¬ T < y := by have := HY.out; omega
              have E := Lib.hid (show dBest per l = mostL cat per y by
                unfold dBest
                rw [← HNN.out, ← HT.out, if_neg hn0, ← HALL.out, HY.out])
              clear hn0
              go_wp2_with fail
              go_ret2
              rw [He.out, Hv.out, E.out]
              exact ⟨_, rfl, .nil, H7.out.bel⟩
theorem delay_any (A : Option Addr) (c : Nat) (l : List Ln) (per : Int) (S : Nat → Addr) (w : World) (B : Nat) (hB : B ≤ w.heap.size) (h : RdL w B A l) (hS : Snt w B S [2, 3, 4]) (hl : l.length ≤ 9223372036854775807) :
    Calls Tryz.prog 32 #[.slice A l.length c, .int .i64 per] w (EndVEr (.int .i64 (delayV l per)) S (delayErr l per).1 (delayErr l per).2 w) := by
  by_cases hk : (dlkErr l per).1 = 0
  · exact delay_main A c l per S w B hB h hS hl hk
  · have He := Lib.hid (show delayErr l per = dlkErr l per from if_pos hk)
    have Hv := Lib.hid (show delayV l per = 0 by unfold delayV; rw [He.out, if_neg hk])
    have HK := Lib.hid hk
    clear hk
    go_enter Tryz.func32, Tryz.ntmps32
    go_wp2_with fail
    refine (clook_any A c l per S (w.alloc (.cells #[.int .i64 per] 3)) B (by simp; omega) (h.below ((Below.refl _ _).alloc hB _)) ((hS.below ((Below.refl _ _).alloc hB _)).sub (by simp)) hl).mono ?_
    rintro e wl ⟨v, rfl, hv, kl⟩
    have kl' : Below w.heap.size w wl := ((Below.refl _ _).alloc (Nat.le_refl _) _).trans (kl.mono (by simp))
    obtain ⟨T, a, rfl⟩ := hv.some_of HK.out
    go_wp2_with fail
    go_ret2
    rw [Hv.out, He.out]
    exact ⟨_, rfl, hv, kl'⟩
end Go.Proofs.YtoomffajodheaaaGreatDoor
namespace Go.Proofs.YtoomffajodheaaaGreatDoor
open Go.RowKit
set_option maxRecDepth 100000
def busyErr (l : List Ln) (per : Int) : Nat × Int := if (dlkErr l per).1 ≠ 0 then dlkErr l per else if bzV per l = 0 ∨ 1099511627776 < bzV per l then (4, -1) else (0, -1)
def busyV (l : List Ln) (per : Int) : Int := if (busyErr l per).1 = 0 then bzV per l else 0
theorem bzy1_any (gx g3 : Nat) (x : Ln) (per : Int) (k : Nat) (w : World) (x0 : w.cell? ⟨gx, 0, none⟩ = some (.int .i64 x.b)) (x1 : w.cell? ⟨gx, 1, none⟩ = some (.int .i64 x.r)) (x3 : w.cell? ⟨g3, 0, none⟩ = some (.int .i64 per)) (hok : okLn x) (p0 : 1 ≤ per) (p1 : per ≤ 1000) (hr : x.r * per < 1000) (hk : k < 68719476736) :
    Calls Tryz.prog 54 #[.int .i64 (k : Int), .pointer (some ⟨gx, 0, none⟩), .pointer (some ⟨g3, 0, none⟩)] w fun e w' => e = .returned (.bool (bzP per x k)) ∧ w' = w := by
  obtain ⟨r1, r2, r3, r4⟩ := hok
  have m0 : 0 ≤ per * (x.b + k) := Int.mul_nonneg (by omega) (by omega)
  have m1 : per * (x.b + k) ≤ 1000 * 68719496736 := Int.mul_le_mul p1 (by omega) (by omega) (by omega)
  have n0 : 0 ≤ x.r * (per * (x.b + k)) := Int.mul_nonneg r3 m0
  have n1 : x.r * (per * (x.b + k)) ≤ 1000 * 68719496736 := by
    rw [← Int.mul_assoc]
    exact Int.mul_le_mul (by omega) (by omega) (by omega) (by omega)
  have HB := Lib.hid (show bzP per x k = decide (x.r * (per * (x.b + k)) / 1000 ≤ k) from rfl)
  go_enter Tryz.func54, Tryz.ntmps54
  go_wp2_with fail
  go_ret
  exact ⟨by rw [HB.out]; rfl, rfl⟩
set_option maxHeartbeats 4000000 in
theorem cbusy_main (A : Option Addr) (c : Nat) (l : List Ln) (per : Int) (S : Nat → Addr) (w : World) (B : Nat) (hB : B ≤ w.heap.size) (h : RdL w B A l) (hS : Snt w B S [2, 3, 4]) (hl : l.length ≤ 9223372036854775807) (hk : (dlkErr l per).1 = 0) :
    Calls Tryz.prog 33 #[.slice A l.length c, .int .i64 per] w (EndVEr (.int .i64 (busyV l per)) S (busyErr l per).1 (busyErr l per).2 w) := by
  obtain ⟨hc, p0, p1, hke⟩ := dlkErr_ok hk
  obtain ⟨l1, l6, hok, _⟩ := crvErr_ok hc
  have HK := Lib.hid hk
  have HOK := Lib.hid hok
  have HS := Lib.hid hS
  clear hk hc hke hok
  go_enter Tryz.func33, Tryz.ntmps33
  go_wp2_with fail
  refine (clook_any A c l per S (w.alloc (.cells #[.int .i64 per] 3)) B (by simp; omega) (h.below ((Below.refl _ _).alloc hB _)) ((HS.out.below ((Below.refl _ _).alloc hB _)).sub (by simp)) hl).mono ?_
  rintro e wl ⟨v, rfl, hv, kl⟩
  obtain rfl := hv.nil_of HK.out
  have bl : Blk wl w.heap.size 3 #[.int .i64 per] := (Blk.new w _ _).below kl (by simp)
  have kl' : Below w.heap.size w wl := ((Below.refl _ _).alloc (Nat.le_refl _) _).trans (kl.mono (by simp))
  obtain ⟨g3, hg3⟩ : ∃ g3, g3 = w.heap.size := ⟨_, rfl⟩
  rw [← hg3] at bl ⊢
  have BL := Lib.hid bl
  have KL := Lib.hid kl'
  clear bl kl kl' hv hg3
  go_wp2_with fail
  go_loopw [7, 20] (fun tv iv wr => ∃ (k : Nat) (t : Int), k ≤ l.length ∧ iv = .int .i64 k ∧ tv = .int .i64 t ∧ 0 ≤ t ∧ t ≤ 20000000000 ∧ bzV per l = bzF per t (l.drop k) ∧ Blk wr g3 3 #[.int .i64 per] ∧ Below w.heap.size w wr) (fun _ iv _ => l.length - (intOf iv).toNat)
  case atStart => exact ⟨0, 0, Nat.zero_le _, rfl, rfl, by omega, by omega, rfl, BL.out, KL.out⟩
  case round =>
    obtain ⟨k, t, hk, rfl, rfl, t0, t1, hbz, b3, hbw⟩ := hrel
    have B3 := Lib.hid b3
    have HBZ := Lib.hid hbz
    clear BL KL b3 hbz
    by_cases hlt : k < l.length
    · as_aux_lemma =>
      have hokk := HOK.out _ (List.getElem_mem hlt)
      have OKK := Lib.hid hokk
      obtain ⟨r1, r2, r3, r4⟩ := hokk
      have m0 : 0 ≤ l[k].r * per := Int.mul_nonneg r3 (by omega)
      have m1 : l[k].r * per ≤ 100000 * 1000 := Int.mul_le_mul r4 p1 (by omega) (by omega)
      obtain ⟨b, o, rfl, hb, d0, d1⟩ := RdL.get (h.below (hbw.mono hB)) hlt
      have hd : l.drop k = l[k] :: l.drop (k + 1) := List.drop_eq_getElem_cons hlt
      have HD := Lib.hid hd
      clear hd
      go_upto_region 8 with fail
      obtain ⟨V, hV⟩ : ∃ V : World, V = wr.alloc (.cells #[.int .i64 l[k].b, .int .i64 l[k].r] 75) := ⟨_, rfl⟩
      have bx : Blk V wr.heap.size 75 #[.int .i64 l[k].b, .int .i64 l[k].r] := by rw [hV]; exact Blk.new _ _ _
      have b3V : Blk V g3 3 #[.int .i64 per] := by rw [hV]; exact B3.out.alloc _
      have kV : Below w.heap.size w V := by rw [hV]; exact hbw.alloc hbw.size _
      obtain ⟨gx, hgx⟩ : ∃ gx, gx = wr.heap.size := ⟨_, rfl⟩
      rw [← hV, ← hgx]
      rw [← hgx] at bx
      have x0 : V.cell? ⟨gx, 0, none⟩ = some (.int .i64 l[k].b) := bx.cell 0
      have x1 : V.cell? ⟨gx, 1, none⟩ = some (.int .i64 l[k].r) := bx.cell 1
      have x3 : V.cell? ⟨g3, 0, none⟩ = some (.int .i64 per) := b3V.cell 0
      have BX := Lib.hid bx
      have B3V := Lib.hid b3V
      clear hV hgx bx b3V d0 d1
      by_cases hs : 1000 ≤ l[k].r * per
      · have E := Lib.hid (show bzV per l = bzF per t (l.drop (k + 1)) by rw [HBZ.out, HD.out, bzF, if_pos hs])
        go_wp2_with fail
        go_roundw
        case rel => exact ⟨k + 1, t, hlt, by go_num, rfl, t0, t1, E.out, B3V.out, kV⟩
        case measure => simp [intOf]; omega
      · have hs1 : l[k].r * per < 1000 := by omega
        have E := Lib.hid (show bzV per l = bzF per (if t = 0 ∨ bzT per l[k] < t then bzT per l[k] else t) (l.drop (k + 1)) by rw [HBZ.out, HD.out, bzF, if_neg hs])
        obtain ⟨_, q2, q3⟩ := bzK_spec p0 OKK.out hs1
        have qb := bzT_big p0 p1 OKK.out hs1
        have qp := (bzT_pos p0 OKK.out).2
        obtain ⟨n, hn⟩ : ∃ n, n = bzK per l[k] := ⟨bzK per l[k], rfl⟩
        have hT : bzT per l[k] = per * (l[k].b + n) := by unfold bzT; rw [hn]
        rw [← hn] at q3
        rw [hT] at qb qp
        have HT := Lib.hid hT
        have mT0 : 0 ≤ per * (l[k].b + n) := by omega
        have eg : ∀ args w, (callFunc 54 args).run Tryz.prog w = .ok (.enter 54 args) w := enters_of Tryz.func54 (by kernel_rfl) rfl
        obtain ⟨M, hM⟩ : ∃ M : Nat, M = 68719476736 := ⟨_, rfl⟩
        have hMi : (M : Int) = 68719476736 := by omega
        have hSe := Any.sort_Search Tryz.search 54 #[.pointer (some ⟨gx, 0, none⟩), .pointer (some ⟨g3, 0, none⟩)] M (bzP per l[k]) V eg (by omega)
          (fun m os i hi => by
            have hg : Grew V (Go.Sort.grow (V.drewN m) os) := ⟨m, os, rfl⟩
            have hb := hg.below (Nat.le_refl _)
            refine (bzy1_any gx g3 l[k] per i _ ((BX.out.below hb BX.out.lt).cell 0) ((BX.out.below hb BX.out.lt).cell 1) ((B3V.out.below hb B3V.out.lt).cell 0) OKK.out p0 p1 hs1 (by omega)).mono ?_
            rintro e w' ⟨rfl, rfl⟩
            exact ⟨rfl, 0, #[], by rw [Go.Sort.grow_empty]; rfl⟩)
          (fun a b hab hb hp => by
            obtain ⟨d, rfl⟩ : ∃ d, b = a + d := ⟨b - a, by omega⟩
            clear hab hb
            induction d with
            | zero => exact hp
            | succ d ih => exact bzP_mono hs1 _ ih)
        change Calls Tryz.prog 50 _ _ _ at hSe
        have hcn : (List.range M).countP (fun i => !bzP per l[k] i) = n := by rw [hn, hM]; unfold bzK; rfl
        rw [hMi, hcn] at hSe
        have HSE := Lib.hid hSe
        clear hSe eg hn hT hs q2 hcn hMi hM
        go_wp2_with fail
        refine HSE.out.mono ?_
        rintro e W3 ⟨rfl, hg3⟩
        have kg := (show Grew V W3 from hg3).below (Nat.le_refl _)
        have k3 : Below w.heap.size w W3 := kV.trans (kg.mono kV.size)
        have b33 := B3V.out.below kg B3V.out.lt
        have y0 : W3.cell? ⟨gx, 0, none⟩ = some (.int .i64 l[k].b) := (BX.out.below kg BX.out.lt).cell 0
        have y3 : W3.cell? ⟨g3, 0, none⟩ = some (.int .i64 per) := b33.cell 0
        have B33 := Lib.hid b33
        clear hg3 kg HSE x0 x1 x3 b33
        by_cases ht0 : t = 0
        · subst ht0
          have E2 := Lib.hid (show (if (0 : Int) = 0 ∨ bzT per l[k] < 0 then bzT per l[k] else 0) = per * (l[k].b + n) by rw [if_pos (.inl rfl), HT.out])
          go_wp2_with fail
          go_roundw
          case rel => exact ⟨k + 1, per * (l[k].b + n), hlt, by go_num, rfl, by omega, by omega, by rw [E.out, E2.out], B33.out, k3⟩
          case measure => simp [intOf]; omega
        · have hb0 : (t == 0) = false := beq_eq_false_iff_ne.2 ht0
          by_cases hbt : per * (l[k].b + n) < t
          · have E2 := Lib.hid (show (if t = 0 ∨ bzT per l[k] < t then bzT per l[k] else t) = per * (l[k].b + n) by rw [HT.out, if_pos (.inr hbt)])
            clear ht0
            go_wp2_with fail
            go_roundw
            case rel => exact ⟨k + 1, per * (l[k].b + n), hlt, by go_num, rfl, by omega, by omega, by rw [E.out, E2.out], B33.out, k3⟩
            case measure => simp [intOf]; omega
          · have E2 := Lib.hid (show (if t = 0 ∨ bzT per l[k] < t then bzT per l[k] else t) = t by rw [HT.out, if_neg (fun e => e.elim ht0 hbt)])
            clear ht0
            go_wp2_with fail
            go_roundw
            case rel => exact ⟨k + 1, t, hlt, by go_num, rfl, t0, t1, by rw [E.out, E2.out], B33.out, k3⟩
            case measure => simp [intOf]; omega
    · have E := Lib.hid (show bzV per l = t by rw [HBZ.out, List.drop_eq_nil_of_le (by omega)]; rfl)
      have g4 : wr.cell? ⟨G 4, 0, none⟩ = some (sv S 4) := ((HS.out.below (hbw.mono hB)) 4 (by simp)).2.2
      simp only [G, sv] at g4
      clear HBZ
      by_cases ht0 : t = 0
      · have He := Lib.hid (show busyErr l per = (4, -1) by unfold busyErr; rw [if_neg (by rw [HK.out]; omega), if_pos (.inl (by rw [E.out]; exact ht0))])
        have Hv := Lib.hid (show busyV l per = 0 by unfold busyV; rw [He.out]; rfl)
        subst ht0
        clear hS
        go_wp2_with fail
        go_quiet (fail)
        rename Nat => nq
        go_wp2_with fail
        go_ret2
        rw [He.out, Hv.out]
        exact ⟨_, rfl, .bare 4 (by omega) (by omega), below_drewN hbw nq⟩
      · have hb0 : (t == 0) = false := beq_eq_false_iff_ne.2 ht0
        by_cases hbt : 1099511627776 < t
        · omega
        · have He := Lib.hid (show busyErr l per = (0, -1) by unfold busyErr; rw [if_neg (by rw [HK.out]; omega), if_neg (by rw [E.out]; omega)])
          have Hv := Lib.hid (show busyV l per = t by unfold busyV; rw [He.out, ← E.out]; rfl)
          clear ht0
          go_wp2_with fail
          go_ret2
          rw [He.out, Hv.out]
          exact ⟨_, rfl, .nil, hbw⟩
theorem cbusy_any (A : Option Addr) (c : Nat) (l : List Ln) (per : Int) (S : Nat → Addr) (w : World) (B : Nat) (hB : B ≤ w.heap.size) (h : RdL w B A l) (hS : Snt w B S [2, 3, 4]) (hl : l.length ≤ 9223372036854775807) :
    Calls Tryz.prog 33 #[.slice A l.length c, .int .i64 per] w (EndVEr (.int .i64 (busyV l per)) S (busyErr l per).1 (busyErr l per).2 w) := by
  by_cases hk : (dlkErr l per).1 = 0
  · exact cbusy_main A c l per S w B hB h hS hl hk
  · have He := Lib.hid (show busyErr l per = dlkErr l per from if_pos hk)
    have Hv := Lib.hid (show busyV l per = 0 by unfold busyV; rw [He.out, if_neg hk])
    have HK := Lib.hid hk
    clear hk
    go_enter Tryz.func33, Tryz.ntmps33
    go_wp2_with fail
    refine (clook_any A c l per S (w.alloc (.cells #[.int .i64 per] 3)) B (by simp; omega) (h.below ((Below.refl _ _).alloc hB _)) ((hS.below ((Below.refl _ _).alloc hB _)).sub (by simp)) hl).mono ?_
    rintro e wl ⟨v, rfl, hv, kl⟩
    have kl' : Below w.heap.size w wl := ((Below.refl _ _).alloc (Nat.le_refl _) _).trans (kl.mono (by simp))
    obtain ⟨T, a, rfl⟩ := hv.some_of HK.out
    go_wp2_with fail
    go_ret2
    rw [Hv.out, He.out]
    exact ⟨_, rfl, hv, kl'⟩
end Go.Proofs.YtoomffajodheaaaGreatDoor
namespace Go.Proofs.YtoomffajodheaaaGreatDoor
set_option maxRecDepth 100000
theorem delay_ok {l : List Ln} {per : Int} (h : (delayErr l per).1 = 0) : (crvErr l).1 = 0 ∧ 1 ≤ per ∧ per ≤ 1000 ∧ 0 < dTop per l ∧ delayV l per = dBest per l ∧ delayErr l per = (0, -1) := by
  have h2 := h
  unfold delayErr at h
  by_cases hk : (dlkErr l per).1 ≠ 0
  · rw [if_pos hk] at h; exact absurd h hk
  · rw [if_neg hk] at h
    obtain ⟨hc, p0, p1, _⟩ := dlkErr_ok (show (dlkErr l per).1 = 0 by omega)
    obtain ⟨l1, l6, hok, _⟩ := crvErr_ok hc
    by_cases hd : dTop per l = 0
    · rw [if_pos hd] at h; simp at h
    · have := (dTop_spec (per := per) hok).1
      exact ⟨hc, p0, p1, by omega, if_pos h2, by unfold delayErr; rw [if_neg hk, if_neg hd]⟩
theorem busy_ok {l : List Ln} {per : Int} (hk : (dlkErr l per).1 = 0) (h : (busyErr l per).1 = 0) : 0 < bzV per l ∧ bzV per l ≤ 1099511627776 ∧ busyV l per = bzV per l := by
  have h2 := h
  obtain ⟨hc, p0, p1, _⟩ := dlkErr_ok hk
  obtain ⟨l1, l6, hok, _⟩ := crvErr_ok hc
  unfold busyErr at h
  rw [if_neg (by omega)] at h
  by_cases hb : bzV per l = 0 ∨ 1099511627776 < bzV per l
  · rw [if_pos hb] at h; simp at h
  · have := (bzV_spec (per := per) p0 hok).1
    exact ⟨by omega, by omega, if_pos h2⟩
end Go.Proofs.YtoomffajodheaaaGreatDoor
