/- Package rank's numbers of flows: eight, each within bounds. Condition: the sentinels that it names lie in their variables. Package rank: the key of Run, and the closures of least, as a picker. Conditions written at each. Package rank: least's list of those that wait, in memory; a packet comes. Conditions written at each. slices.Delete of one place, at a list that the call owns. Conditions written at each. -/
import Derived.Test.YthgpbdlmadjndaaDoorPkM
import Derived.Test.YthgpbdlmadjndaaDoorBaseM
import Derived.Test.YthgpbdlmadjndaaDoorMiscM
import Derived.Test.YthgpbdlmadjndaaDoorFifoM2
import Derived.Test.YthgpbdlmadjndaaDoorRkPl
import Derived.Test.YthgpbdlmadjndaaDoorShelf
import Derived.WalkSmall
import Derived.Laws.OwnMore
namespace Go.Proofs.YthgpbdlmadjndaaDoor
open Go.RowKit
set_option maxRecDepth 100000
def outB (most n : Int) : Bool := decide (n < 0 ∨ most < n)
theorem rnum1_any (n most : Int) (b : Nat) (w : World) (h : Blk w b 3 #[.int .i64 most]) :
    Calls Tryd.prog 71 #[.int .i64 n, .pointer (some ⟨b, 0, none⟩)] w fun e w' => e = .returned (.bool (outB most n)) ∧ w = w' := by
  have c0 : w.cell? ⟨b, 0, none⟩ = some (.int .i64 most) := h.cell 0
  by_cases h0 : n < 0
  · go_enter Tryd.func71, Tryd.ntmps71
    go_wp2
    go_ret
    exact ⟨ret_bool (by symm; exact decide_eq_true (.inl h0)), rfl⟩
  · have h1 : 0 ≤ n := by omega
    have He := Lib.hid (show outB most n = decide (most < n) from decide_eq_decide.2 (by omega))
    clear h0
    go_enter Tryd.func71, Tryd.ntmps71
    go_wp2
    go_ret
    exact ⟨ret_bool (by rw [He.out]; first | rfl | (simp; omega)), rfl⟩
/-- The place of the first number out of bounds; -1: none. -/
def outIdx (most : Int) : List Int → Nat → Int
  | [], _ => -1
  | n :: r, k => if outB most n then k else outIdx most r (k + 1)
theorem outIdx_ge (most : Int) (l : List Int) (k : Nat) : outIdx most l k = -1 ∨ (k : Int) ≤ outIdx most l k := by
  induction l generalizing k with
  | nil => exact .inl rfl
  | cons n r ih =>
    unfold outIdx
    split
    · exact .inr (Int.le_refl _)
    · rcases ih (k + 1) with h | h
      · exact .inl h
      · exact .inr (by omega)
theorem iidx_any (A : Option Addr) (c : Nat) (l : List Int) (most : Int) (b : Nat) (w : World) (B : Nat) (h : RdI w B A l) (hl : l.length ≤ 9223372036854775807) (hb : Blk w b 3 #[.int .i64 most]) :
    Calls Tryd.prog 94 #[.slice A l.length c, .func (.func 71) #[] #[.pointer (some ⟨b, 0, none⟩)]] w fun e w' => e = .returned (.int .i64 (outIdx most l 0)) ∧ w = w' := by
  have HB := Lib.hid hb
  clear hb
  go_enter Tryd.func94, Tryd.ntmps94
  go_wp2
  go_loopw [5, 8] (fun _ i wr => ∃ k : Nat, k ≤ l.length ∧ i = .int .i64 k ∧ outIdx most l 0 = outIdx most (l.drop k) k ∧ w = wr) (fun _ i _ => l.length - (intOf i).toNat)
  case atStart => exact ⟨0, Nat.zero_le _, rfl, rfl, rfl⟩
  case round =>
    obtain ⟨k, hk, rfl, hbad, rfl⟩ := hrel
    by_cases hlt : k < l.length
    · obtain ⟨q, o, rfl, hq, h0⟩ := RdI.get h hlt
      rw [List.drop_eq_getElem_cons hlt] at hbad
      have Hbad := Lib.hid hbad
      clear hbad
      go_wp2_with fail
      refine (rnum1_any _ most b _ HB.out).mono ?_
      rintro e w1 ⟨rfl, rfl⟩
      cases hx : outB most l[k]
      · have Hx := Lib.hid hx; clear hx
        go_wp2_with fail
        go_roundw
        case rel => exact ⟨k + 1, by omega, by go_num, by rw [Hbad.out]; simp [outIdx, Hx.out], by trivial⟩
        case measure => simp [intOf]; omega
      · have Hx := Lib.hid hx; clear hx
        go_wp2_with fail
        go_ret
        exact ⟨ret_int (by rw [Hbad.out]; simp [outIdx, Hx.out]), rfl⟩
    · rw [List.drop_eq_nil_of_le (by omega)] at hbad
      have Hbad := Lib.hid hbad
      clear hbad
      go_wp2_with fail
      go_ret
      exact ⟨ret_int (by rw [Hbad.out]; rfl), rfl⟩
theorem icontains_any (A : Option Addr) (c : Nat) (l : List Int) (most : Int) (b : Nat) (w : World) (B : Nat) (h : RdI w B A l) (hl : l.length ≤ 9223372036854775807) (hb : Blk w b 3 #[.int .i64 most]) :
    Calls Tryd.prog 70 #[.slice A l.length c, .func (.func 71) #[] #[.pointer (some ⟨b, 0, none⟩)]] w fun e w' => e = .returned (.bool (decide (0 ≤ outIdx most l 0))) ∧ w = w' := by
  go_enter Tryd.func70, Tryd.ntmps70
  go_wp2_with fail
  refine (iidx_any A c l most b w B h hl hb).mono ?_
  rintro e w1 ⟨rfl, rfl⟩
  go_wp2_with fail
  go_ret
  exact ⟨rfl, rfl⟩
/-- The number of the error of flows' numbers. -/
def numErr (l : List Int) (most : Int) : Nat := if l.length = 8 then (if 0 ≤ outIdx most l 0 then 2 else 0) else 3
theorem rnumbers_any (A : Option Addr) (c : Nat) (l : List Int) (most : Int) (S : Nat → Addr) (w : World) (B : Nat) (hB : B ≤ w.heap.size) (h : RdI w B A l) (hS : Snt w B S [2, 3]) (hl : l.length ≤ 9223372036854775807) :
    Calls Tryd.prog 50 #[.slice A l.length c, .int .i64 most] w (EndEr S (numErr l most) (-1) w) := by
  have ba := ((Below.refl w.heap.size w).alloc (Nat.le_refl _) (.cells #[.int .i64 most] 3))
  have g2 : (w.alloc (.cells #[.int .i64 most] 3)).cell? ⟨G 2, 0, none⟩ = some (sv S 2) := ((hS.below (ba.mono hB)) 2 (by simp)).2.2
  have g3 : (w.alloc (.cells #[.int .i64 most] 3)).cell? ⟨G 3, 0, none⟩ = some (sv S 3) := ((hS.below (ba.mono hB)) 3 (by simp)).2.2
  have l2 := (hS 2 (by simp)).1
  have l3 := (hS 3 (by simp)).1
  simp only [G, sv] at g2 g3 l2 l3
  by_cases h8 : l.length = 8
  · have hb1 : ((l.length : Int) != 8) = false := by rw [h8]; rfl
    by_cases ho : 0 ≤ outIdx most l 0
    · have Hf := Lib.hid (show numErr l most = 2 by unfold numErr; rw [if_pos h8, if_pos ho])
      have Ho := Lib.hid (show decide (0 ≤ outIdx most l 0) = true from decide_eq_true ho)
      clear h8 ho
      go_enter Tryd.func50, Tryd.ntmps50
      go_wp2_with fail
      refine (icontains_any A c l most w.heap.size _ B (h.below (ba.mono hB)) hl (Blk.new _ _ _)).mono ?_
      rintro e w1 ⟨rfl, rfl⟩
      rw [Ho.out]
      go_wp2_with fail
      go_ret
      rw [Hf.out]
      exact ⟨_, rfl, .bare 2 (by omega) (by omega), ba⟩
    · have Hf := Lib.hid (show numErr l most = 0 by unfold numErr; rw [if_pos h8, if_neg ho])
      have Ho := Lib.hid (show decide (0 ≤ outIdx most l 0) = false from decide_eq_false ho)
      clear h8 ho
      go_enter Tryd.func50, Tryd.ntmps50
      go_wp2_with fail
      refine (icontains_any A c l most w.heap.size _ B (h.below (ba.mono hB)) hl (Blk.new _ _ _)).mono ?_
      rintro e w1 ⟨rfl, rfl⟩
      rw [Ho.out]
      go_wp2_with fail
      go_ret
      rw [Hf.out]
      exact ⟨_, rfl, .nil, ba⟩
  · have hb1 : ((l.length : Int) != 8) = true := by simp; omega
    have Hf := Lib.hid (show numErr l most = 3 from if_neg h8)
    clear h8
    go_enter Tryd.func50, Tryd.ntmps50
    go_wp2_with fail
    go_ret
    rw [Hf.out]
    exact ⟨_, rfl, .bare 3 (by omega) (by omega), ba⟩
end Go.Proofs.YthgpbdlmadjndaaDoor
namespace Go.Proofs.YthgpbdlmadjndaaDoor
open Go.RowKit
set_option maxRecDepth 100000
def rankKey (p : List Pk) (ranks : List Int) (k : Nat) : Int := ranks.getD (fOf p k).toNat 0
theorem rkey_any (k : Nat) (A A' : Option Addr) (c c' : Nat) (p : List Pk) (l : List Int) (bp br : Nat) (w : World) (B : Nat) (hp : RdP w B A p) (hl : RdI w B A' l) (h1 : Blk w bp 26 #[.slice A p.length c]) (h2 : Blk w br 22 #[.slice A' l.length c'])
    (hk : k < p.length) (h8 : l.length = 8) (hf0 : 0 ≤ p[k].f) (hf1 : p[k].f < 8) :
    Calls Tryd.prog 52 #[.int .i64 k, .pointer (some ⟨br, 0, none⟩), .pointer (some ⟨bp, 0, none⟩)] w fun e w' => e = .returned (.int .i64 (rankKey p l k)) ∧ ∃ m, w' = w.drewN m := by
  have c1 : w.cell? ⟨bp, 0, none⟩ = some (.slice A p.length c) := h1.cell 0
  have c2 : w.cell? ⟨br, 0, none⟩ = some (.slice A' l.length c') := h2.cell 0
  obtain ⟨b, o, rfl, hb, d0, d1, d2⟩ := RdP.get hp hk
  obtain ⟨f, hf⟩ : ∃ f : Nat, p[k].f = f := ⟨p[k].f.toNat, by omega⟩
  have hfl : f < l.length := by omega
  obtain ⟨b', o', rfl, hb', e0⟩ := RdI.get hl hfl
  have Hk := Lib.hid (show rankKey p l k = l[f] by unfold rankKey; rw [fOf_of hk, hf, Int.toNat_natCast]; simp [List.getD, hfl])
  rw [hf] at d0
  clear hf hf0 hf1 h1 h2 h8
  have q1 : (0 : Int) ≤ (f : Int) := by omega
  have q2 : (f : Int) < (l.length : Int) := by omega
  have q3 : (0 : Int) ≤ (k : Int) := by omega
  have q4 : (k : Int) < (p.length : Int) := by omega
  go_enter Tryd.func52, Tryd.ntmps52
  go_wp2_with fail
  go_quiet (fail)
  go_wp2
  go_ret
  exact ⟨ret_int Hk.out.symm, _, rfl⟩
end Go.Proofs.YthgpbdlmadjndaaDoor
namespace Go.Proofs.YthgpbdlmadjndaaDoor
open Go.RowKit
set_option maxRecDepth 100000
def nCs (n : Nat) : List Value := [.int .i64 n]
theorem nCs_len (x : Nat) : (nCs x).length = 1 := rfl
theorem nCs_one (x : Nat) : ∀ u ∈ nCs x, u.oneCell' = true := by simp [nCs, Value.oneCell']
/-- Those that wait, in the variable at block bw. -/
structure WaitMem (B bw : Nat) (w : World) (own : Nat → Prop) (s : List Nat) (A : Option Addr) (c : Nat) : Prop where
  v : Blk w bw 22 #[.slice A s.length c]
  row : w.ownsRow B 3 1 (.slice A s.length c) s.length (s.flatMap nCs)
  hB : B ≤ bw
  ne : (Value.slice A s.length c).ownBlock ≠ some bw
  le : s.length ≤ 300
  o : ∀ b, own b ↔ b = bw ∨ (Value.slice A s.length c).ownBlock = some b
theorem least1_any (B bw k : Nat) (w : World) (own : Nat → Prop) (s : List Nat) (A : Option Addr) (c : Nat) (h : WaitMem B bw w own s A c) (hs : s.length < 300) :
    Calls Tryd.prog 72 #[.int .i64 k, .pointer (some ⟨bw, 0, none⟩)] w fun e w' => e = .returned (.tuple #[]) ∧ ∃ own' A' c', WaitMem B bw w' own' (s ++ [k]) A' c' ∧ Keeps B own w own' w' := by
  have c0 : w.cell? ⟨bw, 0, none⟩ = some (.slice A s.length c) := h.v.cell 0
  have zb := h.v.lt
  have zB := h.hB
  obtain ⟨i0, hi0, hz0, hz1, hz2⟩ := info_parts infoInt
  obtain ⟨s', hs'⟩ : ∃ s', s' = s ++ [k] := ⟨_, rfl⟩
  have Hs := Lib.hid hs'
  clear hs'
  have H := Lib.hid h
  have row := h.row
  clear h
  go_enter Tryd.func72, Tryd.ntmps72
  go_wp2_with (at_builtin; refine wpList_append_rd _ nCs rfl (.tmp 3) (.tmp 5) 22 rfl B 3 i0 (.int .i64 0) 1 8 Tryd.underlying22 hi0 hz0 hz1 hz2 rfl (by omega) nCs_len nCs_one (.slice A s.length c) s.length (s.flatMap nCs) rfl (row.alloc _) (w.heap.size + 1) (some ⟨w.heap.size, 0, none⟩) 1 [k] rfl (Rd.new_ rfl (by omega) nCs_len) (by simp only [maxLen, List.length_cons, List.length_nil]; omega) (by simp only [List.length_cons, List.length_nil]; omega) (by simp; omega) ?_; intro v3 w3 row3 g3 at3; obtain ⟨A5, c5, hv5, row3⟩ := own_app row3 (by omega); rw [← Hs.out] at hv5 row3; have b3 : Blk w3 bw 22 #[.slice A s.length c] := (H.out.v.alloc _).grown g3 H.out.ne.symm; have x0 : w3.cell? ⟨bw, 0, none⟩ = some (.slice A s.length c) := b3.cell 0; have x1 := b3.frozen 0; have B3 := Lib.hid b3; clear b3; rw [hv5] at at3 ⊢; clear hv5)
  go_end0
  have hne5 : (Value.slice A5 s'.length c5).ownBlock ≠ some bw := by
    rcases at3 with e | e
    · rw [e]; exact H.out.ne
    · rw [e]; simp; omega
  refine ⟨rfl, fun b => b = bw ∨ (Value.slice A5 s'.length c5).ownBlock = some b, A5, c5, ?_, ?_⟩
  · rw [← Hs.out]
    exact ⟨B3.out.set_ 0 _, ownsRow_setCell_other row3 hne5 _, zB, hne5, by rw [Hs.out]; simp; omega, fun b => Iff.rfl⟩
  · refine ⟨(below_app ((Below.refl B w).alloc (by omega) _) (row.alloc _) g3 (Nat.le_refl _) (by simp; omega)).setCell (p := ⟨bw, 0, none⟩) zB _, fun b hb ho => ?_, fun b hb => ?_⟩
    · have hnb : ¬ (b = bw ∨ (Value.slice A s.length c).ownBlock = some b) := fun h9 => ho ((H.out.o b).2 h9)
      rw [Below.heap_setCell w3 ⟨bw, 0, none⟩ _ b (fun e => hnb (.inl e)), g3.block b (by simp; omega) (fun e => hnb (.inr e.symm)), Below.heap_alloc w _ b hb]
    · rcases hb with hb | hb
      · exact .inl ((H.out.o b).2 (.inl hb))
      · rcases at3 with e | e
        · rw [e] at hb; exact .inl ((H.out.o b).2 (.inr hb))
        · rw [e] at hb
          simp at hb
          exact .inr (by omega)
end Go.Proofs.YthgpbdlmadjndaaDoor
namespace Go.Proofs.YthgpbdlmadjndaaDoor
open Go.RowKit
set_option maxRecDepth 100000
theorem ownsRow_setAll {base : Nat} {e : TypeId} {size g cap n : Nat} : ∀ (vs : List Value) (o : Nat) (w : World) (xs : List Value), w.ownsRow base e size (.slice (some ⟨g, 0, none⟩) n cap) n xs → o + vs.length ≤ xs.length →
    (w.setCells g o vs).ownsRow base e size (.slice (some ⟨g, 0, none⟩) n cap) n (xs.take o ++ vs ++ xs.drop (o + vs.length)) ∧ w.grownBy (w.setCells g o vs) (some g)
  | [], o, w, xs, h, _ => by
    simp only [World.setCells, List.append_nil, List.length_nil, Nat.add_zero, List.take_append_drop]
    exact ⟨h, rfl, rfl, rfl, Nat.le_refl _, fun _ _ _ => rfl⟩
  | v :: r, o, w, xs, h, hl => by
    have hl' : o < xs.length := by simp only [List.length_cons] at hl; omega
    obtain ⟨h1, g1⟩ := h.stored o v
    obtain ⟨h2, g2⟩ := ownsRow_setAll r (o + 1) (w.setCell ⟨g, o, none⟩ v) (xs.set o v) h1 (by simp only [List.length_cons, List.length_set] at hl ⊢; omega)
    refine ⟨?_, g2.os.trans g1.os, g2.tape.trans g1.tape, g2.output.trans g1.output, Nat.le_trans g1.size g2.size, fun k hk hne => (g2.block k (Nat.lt_of_lt_of_le hk g1.size) hne).trans (g1.block k hk hne)⟩
    have e1 : (xs.set o v).take (o + 1) ++ r ++ (xs.set o v).drop (o + 1 + r.length) = xs.take o ++ v :: r ++ xs.drop (o + (v :: r).length) := by
      rw [List.take_succ_eq_append_getElem (by simpa using hl'), List.take_set_of_le (Nat.le_refl _), List.getElem_set_self, List.drop_set_of_lt (by omega)]
      simp only [List.append_assoc, List.singleton_append, List.cons_append, List.nil_append, List.length_cons]
      rw [show o + 1 + r.length = o + (r.length + 1) by omega]
    rw [← e1]
    exact h2
theorem below_setAll {B : Nat} {a : World} (b : Nat) (hb : B ≤ b) : ∀ (vs : List Value) (o : Nat) {w : World}, Below B a w → Below B a (w.setCells b o vs)
  | [], _, _, h => h
  | v :: r, o, _, h => below_setAll b hb r (o + 1) (h.setCell (p := ⟨b, o, none⟩) hb v)
theorem flat_nCs (s : List Nat) : s.flatMap nCs = s.map fun n : Nat => Value.int .i64 n := by
  induction s with
  | nil => rfl
  | cons x r ih => simp [nCs, ih]
theorem del_any (B : Nat) (w : World) (s : List Nat) (A : Option Addr) (c b : Nat) (h : w.ownsRow B 3 1 (.slice A s.length c) s.length (s.flatMap nCs)) (hb : b < s.length) :
    Calls Tryd.prog 74 #[.slice A s.length c, .int .i64 b, .int .i64 (b + 1 : Int)] w fun e w' => e = .returned (.slice A (s.eraseIdx b).length c) ∧ w'.ownsRow B 3 1 (.slice A (s.eraseIdx b).length c) (s.eraseIdx b).length ((s.eraseIdx b).flatMap nCs) ∧ Below B w w' ∧ w.heap.size ≤ w'.heap.size ∧ (∀ k, k < w.heap.size → some k ≠ (Value.slice A s.length c).ownBlock → w'.heap[k]? = w.heap[k]?) := by
  have hlen : (s.eraseIdx b).length = s.length - 1 := List.length_eraseIdx_of_lt hb
  obtain ⟨hx, h0⟩ := id h
  rcases h0 with ⟨_, h1⟩ | ⟨g, cap, cur, hv, hg, hh, hn, hcap, hsz, htake⟩
  · omega
  · cases hv
    have hz : ∀ j, j < (s.map Int.ofNat).length → w.cell? ⟨g, 0 + j, none⟩ = some (.int .i64 ((s.map Int.ofNat).getD j 0)) := fun j hj => by
      have hj' : j < s.length := by simpa using hj
      rw [Nat.zero_add, h.cellAt j (by omega), flat_nCs]
      simp [List.getD, hj']
    have hf : ∀ j, j < s.length → w.frozen? ⟨g, 0 + j, none⟩ = false := fun j _ => by rw [Nat.zero_add]; exact h.frozenAt j
    have hd := Tryd.slices_Delete_int_cells g 0 s.length c b (b + 1) (s.map Int.ofNat) w (by simp) hn (Nat.le_trans hcap (by decide)) (by omega) (by omega) hz hf
    have hvs : (((s.map Int.ofNat).take s.length).take b ++ ((s.map Int.ofNat).take s.length).drop (b + 1) ++ List.replicate (b + 1 - b) 0).map (Value.int .i64) = (s.eraseIdx b).flatMap nCs ++ [.int .i64 0] := by
      have e0 : (s.map Int.ofNat).take s.length = s.map Int.ofNat := List.take_of_length_le (by simp)
      have e1 : ∀ r : List Nat, (r.map Int.ofNat).map (Value.int .i64) = r.map fun n : Nat => Value.int .i64 n := fun r => by rw [List.map_map]; rfl
      have e2 : b + 1 - b = 1 := by omega
      rw [e0, e2, flat_nCs, List.eraseIdx_eq_take_drop_succ, ← List.map_take, ← List.map_drop, ← List.map_append, List.map_append, e1]
      rfl
    rw [hvs] at hd
    refine hd.mono fun e w' ⟨he, q, hw⟩ => ?_
    have hr0 : (w.drewN q).ownsRow B 3 1 (.slice (some ⟨g, 0, none⟩) s.length c) s.length (s.flatMap nCs) := h
    obtain ⟨h1, g1⟩ := ownsRow_setAll ((s.eraseIdx b).flatMap nCs ++ [.int .i64 0]) 0 (w.drewN q) (s.flatMap nCs) hr0 (by rw [flat_nCs, flat_nCs]; simp; omega)
    rw [← hw] at h1 g1
    have e9 : (s.flatMap nCs).take 0 ++ ((s.eraseIdx b).flatMap nCs ++ [.int .i64 0]) ++ (s.flatMap nCs).drop (0 + ((s.eraseIdx b).flatMap nCs ++ [Value.int .i64 0]).length) = (s.eraseIdx b).flatMap nCs ++ [.int .i64 0] := by
      rw [List.drop_of_length_le (by rw [flat_nCs, flat_nCs]; simp; omega)]
      simp
    rw [e9] at h1
    have el : s.length = (s.eraseIdx b).length + 1 := by omega
    refine ⟨?_, ?_, ?_, g1.size, fun k hk hne => g1.block k hk fun e => hne (by rw [e]; rfl)⟩
    · rw [he, hlen, show b + 1 - b = 1 by omega]
    · rw [el] at h1
      exact ownsRow_pop (by rw [flat_nCs]; simp) h1
    · rw [hw]
      exact below_setAll g hg _ _ (below_drewN (Below.refl B w) q)
end Go.Proofs.YthgpbdlmadjndaaDoor
