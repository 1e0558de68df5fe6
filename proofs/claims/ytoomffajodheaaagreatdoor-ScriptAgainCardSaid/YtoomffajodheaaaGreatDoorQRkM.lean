/- Package rank's numbers of flows: eight, each within bounds. Condition: the sentinels that it names lie in their variables. Package rank: the key of Run, and the closures of least, as a picker. Conditions written at each. Package rank: least's list of those that wait, in memory; a packet comes. Conditions written at each. slices.Delete of one place, at a list that the call owns. Conditions written at each. Package rank: least's pick, at Run's key. Conditions written at each. Package rank: least's picker, at Run's key. Conditions written at each. Package rank: least, and Run by ranks. Conditions: the sentinels that they name lie in their variables. Package rank: Deadlines. Conditions: the sentinels that it names lie in their variables. (The text is printed by gendue.py out of the texts for Run.) -/
import Derived.Test.YtoomffajodheaaaGreatDoorQPkM
import Derived.Test.YtoomffajodheaaaGreatDoorQBaseM
import Derived.Test.YtoomffajodheaaaGreatDoorQMiscM
import Derived.Test.YtoomffajodheaaaGreatDoorQFifoM2
import Derived.Test.YtoomffajodheaaaGreatDoorQPlnM
import Derived.Test.YtoomffajodheaaaGreatDoorQShelf
import Derived.WalkSmall
import Derived.Laws.OwnMore
import Derived.Deep.QuietTactic
import Derived.BigQuiet
set_option linter.all false
namespace Go.Proofs.YtoomffajodheaaaGreatDoor
open Go.RowKit
set_option maxRecDepth 100000
def outB (most n : Int) : Bool := decide (n < 0 ∨ most < n)
theorem rnum1_any (n most : Int) (b : Nat) (w : World) (h : Blk w b 3 #[.int .i64 most]) :
    Calls Tryz.prog 193 #[.int .i64 n, .pointer (some ⟨b, 0, none⟩)] w fun e w' => e = .returned (.bool (outB most n)) ∧ w = w' := by
  have c0 : w.cell? ⟨b, 0, none⟩ = some (.int .i64 most) := h.cell 0
  by_cases h0 : n < 0
  · go_enter Tryz.func193, Tryz.ntmps193
    go_wp2
    go_ret
    exact ⟨ret_bool (by symm; exact decide_eq_true (.inl h0)), rfl⟩
  · have h1 : 0 ≤ n := by omega
    have He := Lib.hid (show outB most n = decide (most < n) from decide_eq_decide.2 (by omega))
    clear h0
    go_enter Tryz.func193, Tryz.ntmps193
    go_wp2
    go_ret
    exact ⟨ret_bool (by rw [He.out]; first | rfl | (simp; omega)), rfl⟩
/-- The place of the first number out of bounds; -1: none. -/
def outIdx (most : Int) : List Int → Nat → Int
  | [], _ => -1
  | n :: r, k => if outB most n then k else outIdx most r (k + 1)
theorem iidx_any (A : Option Addr) (c : Nat) (l : List Int) (most : Int) (b : Nat) (w : World) (B : Nat) (h : RdI w B A l) (hl : l.length ≤ 9223372036854775807) (hb : Blk w b 3 #[.int .i64 most]) :
    Calls Tryz.prog 216 #[.slice A l.length c, .func (.func 193) #[] #[.pointer (some ⟨b, 0, none⟩)]] w fun e w' => e = .returned (.int .i64 (outIdx most l 0)) ∧ w = w' := by
  have HB := Lib.hid hb
  clear hb
  go_enter Tryz.func216, Tryz.ntmps216
  go_wp2
  go_loopw [5, 8] (fun _ i wr => ∃ k : Nat, k ≤ l.length ∧ i = .int .i64 k ∧ outIdx most l 0 = outIdx most (l.drop k) k ∧ w = wr) (fun _ i _ => l.length - (intOf i).toNat)
  case atStart => exact ⟨0, Nat.zero_le _, rfl, rfl, rfl⟩
  case round =>
    obtain ⟨k, hk, rfl, hbad, rfl⟩ := hrel
    by_cases hlt : k < l.length
    · obtain ⟨q, o, rfl, hq, h0⟩ := RdI.get h hlt
      rw [List.drop_eq_getElem_cons hlt] at hbad
      have Hbad := Lib.hid hbad
      clear hbad
      go_wp2_with fail
      refine (rnum1_any _ most b _ HB.out).mono ?_
      rintro e w1 ⟨rfl, rfl⟩
      cases hx : outB most l[k]
      · have Hx := Lib.hid hx; clear hx
        go_wp2_with fail
        go_roundw
        case rel => exact ⟨k + 1, by omega, by go_num, by rw [Hbad.out]; simp [outIdx, Hx.out], by trivial⟩
        case measure => simp [intOf]; omega
      · have Hx := Lib.hid hx; clear hx
        go_wp2_with fail
        go_ret
        exact ⟨ret_int (by rw [Hbad.out]; simp [outIdx, Hx.out]), rfl⟩
    · rw [List.drop_eq_nil_of_le (by omega)] at hbad
      have Hbad := Lib.hid hbad
      clear hbad
      go_wp2_with fail
      go_ret
      exact ⟨ret_int (by rw [Hbad.out]; rfl), rfl⟩
theorem icontains_any (A : Option Addr) (c : Nat) (l : List Int) (most : Int) (b : Nat) (w : World) (B : Nat) (h : RdI w B A l) (hl : l.length ≤ 9223372036854775807) (hb : Blk w b 3 #[.int .i64 most]) :
    Calls Tryz.prog 192 #[.slice A l.length c, .func (.func 193) #[] #[.pointer (some ⟨b, 0, none⟩)]] w fun e w' => e = .returned (.bool (decide (0 ≤ outIdx most l 0))) ∧ w = w' := by
  go_enter Tryz.func192, Tryz.ntmps192
  go_wp2_with fail
  refine (iidx_any A c l most b w B h hl hb).mono ?_
  rintro e w1 ⟨rfl, rfl⟩
  go_wp2_with fail
  go_ret
  exact ⟨rfl, rfl⟩
/-- The number of the error of flows' numbers. -/
def numErr (l : List Int) (most : Int) : Nat := if l.length = 8 then (if 0 ≤ outIdx most l 0 then 2 else 0) else 3
theorem rnumbers_any (A : Option Addr) (c : Nat) (l : List Int) (most : Int) (S : Nat → Addr) (w : World) (B : Nat) (hB : B ≤ w.heap.size) (h : RdI w B A l) (hS : Snt w B S [2, 3]) (hl : l.length ≤ 9223372036854775807) :
    Calls Tryz.prog 171 #[.slice A l.length c, .int .i64 most] w (EndEr S (numErr l most) (-1) w) := by
  have ba := ((Below.refl w.heap.size w).alloc (Nat.le_refl _) (.cells #[.int .i64 most] 3))
  have g2 : (w.alloc (.cells #[.int .i64 most] 3)).cell? ⟨G 2, 0, none⟩ = some (sv S 2) := ((hS.below (ba.mono hB)) 2 (by simp)).2.2
  have g3 : (w.alloc (.cells #[.int .i64 most] 3)).cell? ⟨G 3, 0, none⟩ = some (sv S 3) := ((hS.below (ba.mono hB)) 3 (by simp)).2.2
  have l2 := (hS 2 (by simp)).1
  have l3 := (hS 3 (by simp)).1
  simp only [G, sv] at g2 g3 l2 l3
  by_cases h8 : l.length = 8
  · have hb1 : ((l.length : Int) != 8) = false := by rw [h8]; rfl
    by_cases ho : 0 ≤ outIdx most l 0
    · have Hf := Lib.hid (show numErr l most = 2 by unfold numErr; rw [if_pos h8, if_pos ho])
      have Ho := Lib.hid (show decide (0 ≤ outIdx most l 0) = true from decide_eq_true ho)
      clear h8 ho
      go_enter Tryz.func171, Tryz.ntmps171
      go_wp2_with fail
      refine (icontains_any A c l most w.heap.size _ B (h.below (ba.mono hB)) hl (Blk.new _ _ _)).mono ?_
      rintro e w1 ⟨rfl, rfl⟩
      rw [Ho.out]
      go_wp2_with fail
      go_ret
      rw [Hf.out]
      exact ⟨_, rfl, .bare 2 (by omega) (by omega), ba⟩
    · have Hf := Lib.hid (show numErr l most = 0 by unfold numErr; rw [if_pos h8, if_neg ho])
      have Ho := Lib.hid (show decide (0 ≤ outIdx most l 0) = false from decide_eq_false ho)
      clear h8 ho
      go_enter Tryz.func171, Tryz.ntmps171
      go_wp2_with fail
      refine (icontains_any A c l most w.heap.size _ B (h.below (ba.mono hB)) hl (Blk.new _ _ _)).mono ?_
      rintro e w1 ⟨rfl, rfl⟩
      rw [Ho.out]
      go_wp2_with fail
      go_ret
      rw [Hf.out]
      exact ⟨_, rfl, .nil, ba⟩
  · have hb1 : ((l.length : Int) != 8) = true := by simp; omega
    have Hf := Lib.hid (show numErr l most = 3 from if_neg h8)
    clear h8
    go_enter Tryz.func171, Tryz.ntmps171
    go_wp2_with fail
    go_ret
    rw [Hf.out]
    exact ⟨_, rfl, .bare 3 (by omega) (by omega), ba⟩
end Go.Proofs.YtoomffajodheaaaGreatDoor
namespace Go.Proofs.YtoomffajodheaaaGreatDoor
open Go.RowKit
set_option maxRecDepth 100000
def rankKey (p : List Pk) (ranks : List Int) (k : Nat) : Int := ranks.getD (fOf p k).toNat 0
theorem rkey_any (k : Nat) (A A' : Option Addr) (c c' : Nat) (p : List Pk) (l : List Int) (bp br : Nat) (w : World) (B : Nat) (hp : RdP w B A p) (hl : RdI w B A' l) (h1 : Blk w bp 46 #[.slice A p.length c]) (h2 : Blk w br 27 #[.slice A' l.length c'])
    (hk : k < p.length) (h8 : l.length = 8) (hf0 : 0 ≤ p[k].f) (hf1 : p[k].f < 8) :
    Calls Tryz.prog 173 #[.int .i64 k, .pointer (some ⟨br, 0, none⟩), .pointer (some ⟨bp, 0, none⟩)] w fun e w' => e = .returned (.int .i64 (rankKey p l k)) ∧ ∃ m, w' = w.drewN m := by
  have c1 : w.cell? ⟨bp, 0, none⟩ = some (.slice A p.length c) := h1.cell 0
  have c2 : w.cell? ⟨br, 0, none⟩ = some (.slice A' l.length c') := h2.cell 0
  obtain ⟨b, o, rfl, hb, d0, d1, d2⟩ := RdP.get hp hk
  obtain ⟨f, hf⟩ : ∃ f : Nat, p[k].f = f := ⟨p[k].f.toNat, by omega⟩
  have hfl : f < l.length := by omega
  obtain ⟨b', o', rfl, hb', e0⟩ := RdI.get hl hfl
  have Hk := Lib.hid (show rankKey p l k = l[f] by unfold rankKey; rw [fOf_of hk, hf, Int.toNat_natCast]; simp [List.getD, hfl])
  rw [hf] at d0
  clear hf hf0 hf1 h1 h2 h8
  have q1 : (0 : Int) ≤ (f : Int) := by omega
  have q2 : (f : Int) < (l.length : Int) := by omega
  have q3 : (0 : Int) ≤ (k : Int) := by omega
  have q4 : (k : Int) < (p.length : Int) := by omega
  go_enter Tryz.func173, Tryz.ntmps173
  go_wp2_with fail
  go_quiet (fail)
  go_wp2
  go_ret
  exact ⟨ret_int Hk.out.symm, _, rfl⟩
end Go.Proofs.YtoomffajodheaaaGreatDoor
namespace Go.Proofs.YtoomffajodheaaaGreatDoor
open Go.RowKit
set_option maxRecDepth 100000
def nCs (n : Nat) : List Value := [.int .i64 n]
theorem nCs_len (x : Nat) : (nCs x).length = 1 := rfl
theorem nCs_one (x : Nat) : ∀ u ∈ nCs x, u.oneCell' = true := by simp [nCs, Value.oneCell']
/-- Those that wait, in the variable at block bw. -/
structure WaitMem (B bw : Nat) (w : World) (own : Nat → Prop) (s : List Nat) (A : Option Addr) (c : Nat) : Prop where
  v : Blk w bw 27 #[.slice A s.length c]
  row : w.ownsRow B 3 1 (.slice A s.length c) s.length (s.flatMap nCs)
  hB : B ≤ bw
  ne : (Value.slice A s.length c).ownBlock ≠ some bw
  le : s.length ≤ 300
  o : ∀ b, own b ↔ b = bw ∨ (Value.slice A s.length c).ownBlock = some b
theorem least1_any (B bw k : Nat) (w : World) (own : Nat → Prop) (s : List Nat) (A : Option Addr) (c : Nat) (h : WaitMem B bw w own s A c) (hs : s.length < 300) :
    Calls Tryz.prog 194 #[.int .i64 k, .pointer (some ⟨bw, 0, none⟩)] w fun e w' => e = .returned (.tuple #[]) ∧ ∃ own' A' c', WaitMem B bw w' own' (s ++ [k]) A' c' ∧ Keeps B own w own' w' := by
  have c0 : w.cell? ⟨bw, 0, none⟩ = some (.slice A s.length c) := h.v.cell 0
  have zb := h.v.lt
  have zB := h.hB
  obtain ⟨i0, hi0, hz0, hz1, hz2⟩ := info_parts infoInt
  obtain ⟨s', hs'⟩ : ∃ s', s' = s ++ [k] := ⟨_, rfl⟩
  have Hs := Lib.hid hs'
  clear hs'
  have H := Lib.hid h
  have row := h.row
  clear h
  go_enter Tryz.func194, Tryz.ntmps194
  go_wp2_with (at_builtin; refine wpList_append_rd _ nCs rfl (.tmp 3) (.tmp 5) 27 rfl B 3 i0 (.int .i64 0) 1 8 Tryz.underlying27 hi0 hz0 hz1 hz2 rfl (by omega) nCs_len nCs_one (.slice A s.length c) s.length (s.flatMap nCs) rfl (row.alloc _) (w.heap.size + 1) (some ⟨w.heap.size, 0, none⟩) 1 [k] rfl (Rd.new_ rfl (by omega) nCs_len) (by simp only [maxLen, List.length_cons, List.length_nil]; omega) (by simp only [List.length_cons, List.length_nil]; omega) (by simp; omega) ?_; intro v3 w3 row3 g3 at3; obtain ⟨A5, c5, hv5, row3⟩ := own_app row3 (by omega); rw [← Hs.out] at hv5 row3; have b3 : Blk w3 bw 27 #[.slice A s.length c] := (H.out.v.alloc _).grown g3 H.out.ne.symm; have x0 : w3.cell? ⟨bw, 0, none⟩ = some (.slice A s.length c) := b3.cell 0; have x1 := b3.frozen 0; have B3 := Lib.hid b3; clear b3; rw [hv5] at at3 ⊢; clear hv5)
  go_end0
  have hne5 : (Value.slice A5 s'.length c5).ownBlock ≠ some bw := by
    rcases at3 with e | e
    · rw [e]; exact H.out.ne
    · rw [e]; simp; omega
  refine ⟨rfl, fun b => b = bw ∨ (Value.slice A5 s'.length c5).ownBlock = some b, A5, c5, ?_, ?_⟩
  · rw [← Hs.out]
    exact ⟨B3.out.set_ 0 _, ownsRow_setCell_other row3 hne5 _, zB, hne5, by rw [Hs.out]; simp; omega, fun b => Iff.rfl⟩
  · refine ⟨(below_app ((Below.refl B w).alloc (by omega) _) (row.alloc _) g3 (Nat.le_refl _) (by simp; omega)).setCell (p := ⟨bw, 0, none⟩) zB _, fun b hb ho => ?_, fun b hb => ?_⟩
    · have hnb : ¬ (b = bw ∨ (Value.slice A s.length c).ownBlock = some b) := fun h9 => ho ((H.out.o b).2 h9)
      rw [Below.heap_setCell w3 ⟨bw, 0, none⟩ _ b (fun e => hnb (.inl e)), g3.block b (by simp; omega) (fun e => hnb (.inr e.symm)), Below.heap_alloc w _ b hb]
    · rcases hb with hb | hb
      · exact .inl ((H.out.o b).2 (.inl hb))
      · rcases at3 with e | e
        · rw [e] at hb; exact .inl ((H.out.o b).2 (.inr hb))
        · rw [e] at hb
          simp at hb
          exact .inr (by omega)
end Go.Proofs.YtoomffajodheaaaGreatDoor
namespace Go.Proofs.YtoomffajodheaaaGreatDoor
open Go.RowKit
set_option maxRecDepth 100000
theorem ownsRow_setAll {base : Nat} {e : TypeId} {size g cap n : Nat} : ∀ (vs : List Value) (o : Nat) (w : World) (xs : List Value), w.ownsRow base e size (.slice (some ⟨g, 0, none⟩) n cap) n xs → o + vs.length ≤ xs.length →
    (w.setCells g o vs).ownsRow base e size (.slice (some ⟨g, 0, none⟩) n cap) n (xs.take o ++ vs ++ xs.drop (o + vs.length)) ∧ w.grownBy (w.setCells g o vs) (some g)
  | [], o, w, xs, h, _ => by
    simp only [World.setCells, List.append_nil, List.length_nil, Nat.add_zero, List.take_append_drop]
    exact ⟨h, rfl, rfl, rfl, Nat.le_refl _, fun _ _ _ => rfl⟩
  | v :: r, o, w, xs, h, hl => by
    have hl' : o < xs.length := by simp only [List.length_cons] at hl; omega
    obtain ⟨h1, g1⟩ := h.stored o v
    obtain ⟨h2, g2⟩ := ownsRow_setAll r (o + 1) (w.setCell ⟨g, o, none⟩ v) (xs.set o v) h1 (by simp only [List.length_cons, List.length_set] at hl ⊢; omega)
    refine ⟨?_, g2.os.trans g1.os, g2.tape.trans g1.tape, g2.output.trans g1.output, Nat.le_trans g1.size g2.size, fun k hk hne => (g2.block k (Nat.lt_of_lt_of_le hk g1.size) hne).trans (g1.block k hk hne)⟩
    have e1 : (xs.set o v).take (o + 1) ++ r ++ (xs.set o v).drop (o + 1 + r.length) = xs.take o ++ v :: r ++ xs.drop (o + (v :: r).length) := by
      rw [List.take_succ_eq_append_getElem (by simpa using hl'), List.take_set_of_le (Nat.le_refl _), List.getElem_set_self, List.drop_set_of_lt (by omega)]
      simp only [List.append_assoc, List.singleton_append, List.cons_append, List.nil_append, List.length_cons]
      rw [show o + 1 + r.length = o + (r.length + 1) by omega]
    rw [← e1]
    exact h2
theorem below_setAll {B : Nat} {a : World} (b : Nat) (hb : B ≤ b) : ∀ (vs : List Value) (o : Nat) {w : World}, Below B a w → Below B a (w.setCells b o vs)
  | [], _, _, h => h
  | v :: r, o, _, h => below_setAll b hb r (o + 1) (h.setCell (p := ⟨b, o, none⟩) hb v)
theorem flat_nCs (s : List Nat) : s.flatMap nCs = s.map fun n : Nat => Value.int .i64 n := by
  induction s with
  | nil => rfl
  | cons x r ih => simp [nCs, ih]
theorem del_any (B : Nat) (w : World) (s : List Nat) (A : Option Addr) (c b : Nat) (h : w.ownsRow B 3 1 (.slice A s.length c) s.length (s.flatMap nCs)) (hb : b < s.length) :
    Calls Tryz.prog 196 #[.slice A s.length c, .int .i64 b, .int .i64 (b + 1 : Int)] w fun e w' => e = .returned (.slice A (s.eraseIdx b).length c) ∧ w'.ownsRow B 3 1 (.slice A (s.eraseIdx b).length c) (s.eraseIdx b).length ((s.eraseIdx b).flatMap nCs) ∧ Below B w w' ∧ w.heap.size ≤ w'.heap.size ∧ (∀ k, k < w.heap.size → some k ≠ (Value.slice A s.length c).ownBlock → w'.heap[k]? = w.heap[k]?) := by
  have hlen : (s.eraseIdx b).length = s.length - 1 := List.length_eraseIdx_of_lt hb
  obtain ⟨hx, h0⟩ := id h
  rcases h0 with ⟨_, h1⟩ | ⟨g, cap, cur, hv, hg, hh, hn, hcap, hsz, htake⟩
  · omega
  · cases hv
    have hz : ∀ j, j < (s.map Int.ofNat).length → w.cell? ⟨g, 0 + j, none⟩ = some (.int .i64 ((s.map Int.ofNat).getD j 0)) := fun j hj => by
      have hj' : j < s.length := by simpa using hj
      rw [Nat.zero_add, h.cellAt j (by omega), flat_nCs]
      simp [List.getD, hj']
    have hf : ∀ j, j < s.length → w.frozen? ⟨g, 0 + j, none⟩ = false := fun j _ => by rw [Nat.zero_add]; exact h.frozenAt j
    have hd := Tryz.slices_Delete_int_cells g 0 s.length c b (b + 1) (s.map Int.ofNat) w (by simp) hn (Nat.le_trans hcap (by decide)) (by omega) (by omega) hz hf
    have hvs : (((s.map Int.ofNat).take s.length).take b ++ ((s.map Int.ofNat).take s.length).drop (b + 1) ++ List.replicate (b + 1 - b) 0).map (Value.int .i64) = (s.eraseIdx b).flatMap nCs ++ [.int .i64 0] := by
      have e0 : (s.map Int.ofNat).take s.length = s.map Int.ofNat := List.take_of_length_le (by simp)
      have e1 : ∀ r : List Nat, (r.map Int.ofNat).map (Value.int .i64) = r.map fun n : Nat => Value.int .i64 n := fun r => by rw [List.map_map]; rfl
      have e2 : b + 1 - b = 1 := by omega
      rw [e0, e2, flat_nCs, List.eraseIdx_eq_take_drop_succ, ← List.map_take, ← List.map_drop, ← List.map_append, List.map_append, e1]
      rfl
    rw [hvs] at hd
    refine hd.mono fun e w' ⟨he, q, hw⟩ => ?_
    have hr0 : (w.drewN q).ownsRow B 3 1 (.slice (some ⟨g, 0, none⟩) s.length c) s.length (s.flatMap nCs) := h
    obtain ⟨h1, g1⟩ := ownsRow_setAll ((s.eraseIdx b).flatMap nCs ++ [.int .i64 0]) 0 (w.drewN q) (s.flatMap nCs) hr0 (by rw [flat_nCs, flat_nCs]; simp; omega)
    rw [← hw] at h1 g1
    have e9 : (s.flatMap nCs).take 0 ++ ((s.eraseIdx b).flatMap nCs ++ [.int .i64 0]) ++ (s.flatMap nCs).drop (0 + ((s.eraseIdx b).flatMap nCs ++ [Value.int .i64 0]).length) = (s.eraseIdx b).flatMap nCs ++ [.int .i64 0] := by
      rw [List.drop_of_length_le (by rw [flat_nCs, flat_nCs]; simp; omega)]
      simp
    rw [e9] at h1
    have el : s.length = (s.eraseIdx b).length + 1 := by omega
    refine ⟨?_, ?_, ?_, g1.size, fun k hk hne => g1.block k hk fun e => hne (by rw [e]; rfl)⟩
    · rw [he, hlen, show b + 1 - b = 1 by omega]
    · rw [el] at h1
      exact ownsRow_pop (by rw [flat_nCs]; simp) h1
    · rw [hw]
      exact below_setAll g hg _ _ (below_drewN (Below.refl B w) q)
end Go.Proofs.YtoomffajodheaaaGreatDoor
namespace Go.Proofs.YtoomffajodheaaaGreatDoor
open Go.RowKit
set_option maxRecDepth 100000
theorem quiet_add {P : Program} {f : FuncId} {args : Array Value} {w : World} {a n : Nat} {v : Value}
    (h : Calls P f args (w.drewN (a + n)) fun e w' => e = .returned v ∧ ∃ m, w' = (w.drewN (a + n)).drewN m) :
    Calls P f args (w.drewN (a + n)) fun e w'' => e = .returned v ∧ ∃ m, w'' = w.drewN (a + m) :=
  h.mono fun _ _ ⟨he, m, hm⟩ => ⟨he, n + m, by rw [hm, World.drewN_drewN, Nat.add_assoc]⟩
theorem RdN.get {w : World} {B : Nat} {A : Option Addr} {l : List Nat} (h : Rd w B 1 nCs A l) {i : Nat} (hi : i < l.length) : ∃ b o, A = some ⟨b, o, none⟩ ∧ b < B ∧ w.cell? ⟨b, o + i, none⟩ = some (.int .i64 l[i]) := by
  obtain ⟨b, o, e, hb, hc⟩ := h.at_ hi
  have := hc 0 _ rfl
  simp only [Nat.mul_one, Nat.add_zero] at this
  exact ⟨b, o, e, hb, this⟩
/-- A key function's closure: its value K, what it computes of each packet's number below n, in memory Km. -/
structure KeyFn (fk : FuncId) (c1 c2 : Value) (n : Nat) (key : Nat → Int) (Km : World → Prop) : Prop where
  call : ∀ k w, Km w → k < n → Calls Tryz.prog fk #[.int .i64 k, c1, c2] w fun e w' => e = .returned (.int .i64 (key k)) ∧ ∃ m, w' = w.drewN m
  drew : ∀ w m, Km w → Km (w.drewN m)

theorem bestGo_step (key : Nat → Int) (s : List Nat) (b i : Nat) (kb : Int) (hi : i < s.length) : bestGo key b kb i (s.drop i) = if key s[i] < kb then bestGo key i (key s[i]) (i + 1) (s.drop (i + 1)) else bestGo key b kb (i + 1) (s.drop (i + 1)) := by
  rw [List.drop_eq_getElem_cons hi]
  rfl
theorem getD_at (s : List Nat) (i : Nat) (hi : i < s.length) : s.getD i 0 = s[i] := by simp [List.getD, hi]
theorem best_round {key : Nat → Int} {s : List Nat} {b i : Nat} {w : World} {m b' : Nat} (hi : i < s.length) (h5 : s.length < 1000) (h : bestI key s = bestGo key b (key (s.getD b 0)) i (s.drop i)) (hb' : b' < s.length) (hg : (if key s[i] < key (s.getD b 0) then bestGo key i (key s[i]) (i + 1) (s.drop (i + 1)) else bestGo key b (key (s.getD b 0)) (i + 1) (s.drop (i + 1))) = bestGo key b' (key (s.getD b' 0)) (i + 1) (s.drop (i + 1))) :
    (∃ b2 i2 m2 : Nat, Value.int .i64 b' = .int .i64 b2 ∧ Value.int .i64 ((i : Int) + 1) = .int .i64 i2 ∧ b2 < s.length ∧ i2 ≤ s.length ∧ bestI key s = bestGo key b2 (key (s.getD b2 0)) i2 (s.drop i2) ∧ w.drewN m = w.drewN m2) ∧
      s.length - (intOf (Value.int .i64 ((i : Int) + 1))).toNat < s.length - (intOf (Value.int .i64 i)).toNat := by
  have e : (i : Int) + 1 = ((i + 1 : Nat) : Int) := rfl
  rw [e]
  refine ⟨⟨b', i + 1, m, rfl, rfl, hb', hi, ?_, rfl⟩, ?_⟩
  · rw [h, bestGo_step key s b i _ hi]; exact hg
  · simp only [intOf]; omega

set_option maxHeartbeats 1000000 in
theorem best_any (B bw bk n : Nat) (c1 c2 : Value) (key : Nat → Int) (Km : World → Prop) (w : World) (own : Nat → Prop) (s : List Nat) (A : Option Addr) (c : Nat) (h : WaitMem B bw w own s A c) (hs : 0 < s.length) (hlt : ∀ j ∈ s, j < n)
    (hk : Blk w bk 149 #[.func (.func 173) #[] #[c1, c2]]) (hK : KeyFn 173 c1 c2 n key Km) (hm : Km w) :
    Calls Tryz.prog 195 #[.pointer (some ⟨bw, 0, none⟩), .pointer (some ⟨bk, 0, none⟩)] w fun e w' => e = .returned (.tuple #[.int .i64 (s.getD (bestI key s) 0), .bool true]) ∧ ∃ own' A' c', WaitMem B bw w' own' (s.eraseIdx (bestI key s)) A' c' ∧ Keeps B own w own' w' := by
  have c0 : w.cell? ⟨bw, 0, none⟩ = some (.slice A s.length c) := h.v.cell 0
  have k0 : w.cell? ⟨bk, 0, none⟩ = some (.func (.func 173) #[] #[c1, c2]) := hk.cell 0
  have hle : s.length < 1000 := by have := h.le; omega
  have hn0 : ((s.length : Int) == 0) = false := by rw [beq_eq_false_iff_ne]; omega
  go_enter Tryz.func195, Tryz.ntmps195
  go_wp2_with fail
  have hrow : Rd w w.heap.size 1 nCs A s := Rd.of_own h.row (by omega) nCs_len
  have HK := Lib.hid hK.call
  have HD := Lib.hid hK.drew
  have HM := Lib.hid hm
  have HL := Lib.hid hlt
  clear hm hlt
  go_loopw [4, 13] (fun bv iv wr => ∃ b i m : Nat, bv = .int .i64 b ∧ iv = .int .i64 i ∧ b < s.length ∧ i ≤ s.length ∧ bestI key s = bestGo key b (key (s.getD b 0)) i (s.drop i) ∧ wr = w.drewN m) (fun _ iv _ => s.length - (intOf iv).toNat)
  case atStart => exact ⟨0, 0, 0, rfl, rfl, hs, Nat.zero_le _, rfl, rfl⟩
  case round =>
    obtain ⟨b, i, m, rfl, rfl, hb, hi, heq, rfl⟩ := hrel
    have Heq := Lib.hid heq
    clear heq
    by_cases hlt : i < s.length
    · obtain ⟨g, o, hA, hg, e0⟩ := RdN.get hrow hlt
      obtain ⟨g', o', hA', hg', e1⟩ := RdN.get hrow hb
      rw [hA] at hA'
      simp only [Option.some.injEq, Addr.mk.injEq, and_true] at hA'
      obtain ⟨rfl, rfl⟩ := hA'
      subst hA
      have hki := HL.out _ (List.getElem_mem hlt)
      have hkb := HL.out _ (List.getElem_mem hb)
      have hb2 : (b : Int) < (s.length : Int) := by omega
      have hb0 : (0 : Int) ≤ (b : Int) := by omega
      by_cases hc : key s[i] < key s[b]
      · go_wp2_with fail
        go_quiet ((go_at_call 173; exact quiet_add (HK.out _ _ (HD.out _ _ HM.out) (by first | exact hki | exact hkb))))
        go_wp2
        exact best_round hlt hle Heq.out hlt (by rw [if_pos (by rw [getD_at s b hb]; exact hc), getD_at s i hlt])
      · go_wp2_with fail
        go_quiet ((go_at_call 173; exact quiet_add (HK.out _ _ (HD.out _ _ HM.out) (by first | exact hki | exact hkb))))
        go_wp2
        exact best_round hlt hle Heq.out hb (by rw [if_neg (by rw [getD_at s b hb]; omega)])
    · have hi2 : i = s.length := by omega
      subst hi2
      obtain ⟨g', o', hA', hg', e1⟩ := RdN.get hrow hb
      subst hA'
      have hbest : bestI key s = b := by rw [Heq.out, List.drop_length]; rfl
      have Hb := Lib.hid hbest
      clear hbest
      have hb2 : (b : Int) < (s.length : Int) := by omega
      have hb0 : (0 : Int) ≤ (b : Int) := by omega
      have row0 : (w.drewN m).ownsRow B 3 1 (.slice (some ⟨g', o', none⟩) s.length c) s.length (s.flatMap nCs) := h.row
      have Hr := Lib.hid row0
      have Hh := Lib.hid h
      clear row0 h
      go_wp2_with (go_at_call 196; refine (del_any B _ s _ c b Hr.out hb).mono ?_; rintro e w1 ⟨rfl, row1, bl1, sz1, k1⟩; have b1 : Blk w1 bw 27 #[.slice (some ⟨g', o', none⟩) s.length c] := Hh.out.v.same (k1 bw Hh.out.v.lt (fun e => Hh.out.ne e.symm)); have x0 : w1.cell? ⟨bw, 0, none⟩ = some (.slice (some ⟨g', o', none⟩) s.length c) := b1.cell 0; have x1 := b1.frozen 0; have B1 := Lib.hid b1; clear b1)
      go_ret2
      have hb9 := Hb.out
      rw [hb9, getD_at s b hb]
      have el : (s.eraseIdx b).length = s.length - 1 := List.length_eraseIdx_of_lt hb
      refine ⟨rfl, own, some ⟨g', o', none⟩, c, ⟨B1.out.set_ 0 _, ownsRow_setCell_other row1 (show (Value.slice (some ⟨g', o', none⟩) (s.eraseIdx b).length c).ownBlock ≠ some bw from Hh.out.ne) _, Hh.out.hB, Hh.out.ne, by have := Hh.out.le; omega, Hh.out.o⟩, (((below_drewN (Below.refl B w) m)).trans bl1).setCell (p := ⟨bw, 0, none⟩) Hh.out.hB _, fun x hx ho => ?_, fun x hx => .inl hx⟩
      have hnb : ¬ (x = bw ∨ (Value.slice (some ⟨g', o', none⟩) s.length c).ownBlock = some x) := fun h9 => ho ((Hh.out.o x).2 h9)
      rw [Below.heap_setCell w1 ⟨bw, 0, none⟩ _ x (fun e => hnb (.inl e))]
      exact k1 x hx fun e => hnb (.inr e.symm)
end Go.Proofs.YtoomffajodheaaaGreatDoor
namespace Go.Proofs.YtoomffajodheaaaGreatDoor
open Go.RowKit
set_option maxRecDepth 100000
theorem asc_len (m : Nat) (s : List Nat) (lo : Nat) (h0 : ∀ j ∈ s, lo ≤ j) (h1 : ∀ j ∈ s, j < m) (h2 : s.Pairwise (· < ·)) : s = [] ∨ s.length + lo ≤ m := by
  induction s generalizing lo with
  | nil => exact .inl rfl
  | cons x r ih =>
    obtain ⟨h3, h4⟩ := List.pairwise_cons.1 h2
    have hx := h0 x List.mem_cons_self
    have hm := h1 x List.mem_cons_self
    rcases ih (x + 1) (fun j hj => h3 j hj) (fun j hj => h1 j (List.mem_cons_of_mem _ hj)) h4 with rfl | h
    · exact .inr (by simp; omega)
    · exact .inr (by simp; omega)
theorem own_same {w w' : World} {base : Nat} {e : TypeId} {size : Nat} {v : Value} {n : Nat} {xs : List Value} (h : w.ownsRow base e size v n xs) (hs : ∀ g, v.ownBlock = some g → w'.heap[g]? = w.heap[g]?) : w'.ownsRow base e size v n xs := by
  obtain ⟨h1, h2⟩ := h
  refine ⟨h1, ?_⟩
  rcases h2 with h2 | ⟨g, cap, cur, hv, hg, hh, r⟩
  · exact .inl h2
  · exact .inr ⟨g, cap, cur, hv, hg, (hs g (by rw [hv]; rfl)).trans hh, r⟩
theorem WaitMem.alloc {B bw : Nat} {w : World} {own : Nat → Prop} {s : List Nat} {A : Option Addr} {c : Nat} (h : WaitMem B bw w own s A c) (o : Obj) : WaitMem B bw (w.alloc o) own s A c := ⟨h.v.alloc o, h.row.alloc o, h.hB, h.ne, h.le, h.o⟩
theorem WaitMem.size {B bw : Nat} {w : World} {own : Nat → Prop} {s : List Nat} {A : Option Addr} {c : Nat} (h : WaitMem B bw w own s A c) : B ≤ w.heap.size := Nat.le_trans h.hB (Nat.le_of_lt h.v.lt)
theorem least2_none (B bw bk : Nat) (w : World) (own : Nat → Prop) (A : Option Addr) (c : Nat) (h : WaitMem B bw w own [] A c) :
    Calls Tryz.prog 195 #[.pointer (some ⟨bw, 0, none⟩), .pointer (some ⟨bk, 0, none⟩)] w fun e w' => e = .returned (.tuple #[.int .i64 0, .bool false]) ∧ w = w' := by
  have c0 : w.cell? ⟨bw, 0, none⟩ = some (.slice A 0 c) := h.v.cell 0
  clear h
  go_enter Tryz.func195, Tryz.ntmps195
  go_wp2_with fail
  go_ret2
  exact ⟨rfl, rfl⟩
def leastR (bw bk : Nat) : Value := .agg #[.func (.func 194) #[] #[.pointer (some ⟨bw, 0, none⟩)], .func (.func 195) #[] #[.pointer (some ⟨bw, 0, none⟩), .pointer (some ⟨bk, 0, none⟩)], .nilFunc]
structure LeastMem (n B bw : Nat) (w0 w : World) (own : Nat → Prop) (s : List Nat) : Prop where
  bel : Below B w0 w
  lt : ∀ j ∈ s, j < n
  wm : ∃ A c, WaitMem B bw w own s A c
theorem leastPicker (w0 : World) (B bw bk n : Nat) (c1 c2 : Value) (key : Nat → Int) (hn : n ≤ 300) (hbk : bk < B) (hk : Blk w0 bk 149 #[.func (.func 173) #[] #[c1, c2]]) (hK : KeyFn 173 c1 c2 n key (fun w => Below B w0 w)) :
    Picker (leastR bw bk) (leastM key) n B (LeastMem n B bw w0) where
  own_ := fun {w own s} h b hb => by
    obtain ⟨A, c, h⟩ := h.wm
    rcases (h.o b).1 hb with rfl | hb
    · exact ⟨h.hB, h.v.lt⟩
    · exact ⟨own_ge h.row b hb, own_lt h.row b hb⟩
  stay := fun {w w' own s} h hs hb => by
    obtain ⟨hb0, hln, A, c, h⟩ := h
    exact ⟨hb0.trans hb, hln, A, c, h.v.same (hs bw ((h.o bw).2 (.inl rfl))), own_same h.row fun g hg => hs g ((h.o g).2 (.inr hg)), h.hB, h.ne, h.le, h.o⟩
  come := fun {w own s} k h ⟨hk1, hk2⟩ hkn => by
    obtain ⟨hb0, hln, A, c, h⟩ := h
    have hs : s.length < 300 := by
      rcases asc_len k s 0 (fun _ _ => Nat.zero_le _) hk1 hk2 with rfl | h9
      · simp
      · omega
    have hB := h.size
    unfold leastR
    go_enter Tryz.func278, Tryz.ntmps278
    go_wp2_with fail
    refine (least1_any B bw k _ own s A c (h.alloc _) hs).mono ?_
    rintro e w1 ⟨rfl, own', A', c', h', k'⟩
    go_wp2_with fail
    go_end0
    have kk := keeps_trans (keepsAlloc (keepsRefl B own w) hB _) k'
    exact ⟨rfl, own', ⟨hb0.trans kk.1, fun j hj => by
      rcases List.mem_append.1 hj with h9 | h9
      · exact hln j h9
      · rw [List.mem_singleton.1 h9]; exact hkn, A', c', h'⟩, kk⟩
  none_ := fun {w own s m} h hok hp => by
    obtain ⟨hb0, hln, A, c, h⟩ := h
    obtain rfl : s = [] := (leastOk key n).w_none s m hok hp
    have hB := h.size
    clear hp hok
    unfold leastR
    go_enter Tryz.func279, Tryz.ntmps279
    go_wp2_with fail
    refine (least2_none B bw bk _ own A c (h.alloc _)).mono ?_
    rintro e w1 ⟨rfl, rfl⟩
    go_wp2_with fail
    go_ret2
    have kk := keepsAlloc (keepsRefl B own w) hB (.cells #[.func (.func 194) #[] #[.pointer (some ⟨bw, 0, none⟩)], .func (.func 195) #[] #[.pointer (some ⟨bw, 0, none⟩), .pointer (some ⟨bk, 0, none⟩)], .nilFunc] 262)
    exact ⟨rfl, own, ⟨hb0.trans kk.1, hln, A, c, h.alloc _⟩, kk⟩
  some_ := fun {w own s m} k s' h hok hp => by
    obtain ⟨hb0, hln, A, c, h⟩ := h
    have hlt : ∀ j ∈ s, j < m := hok.1
    have hsk : 0 < s.length ∧ s.getD (bestI key s) 0 = k ∧ s.eraseIdx (bestI key s) = s' := by
      simp only [leastM] at hp
      split at hp
      · cases hp
      · simp only [Option.some.injEq, Prod.mk.injEq] at hp
        exact ⟨by omega, hp.1, hp.2⟩
    obtain ⟨hs, ek, rfl⟩ := hsk
    have Hk := Lib.hid ek
    have hB := h.size
    clear hp ek
    have kk0 := keepsAlloc (keepsRefl B own w) hB (.cells #[.func (.func 194) #[] #[.pointer (some ⟨bw, 0, none⟩)], .func (.func 195) #[] #[.pointer (some ⟨bw, 0, none⟩), .pointer (some ⟨bk, 0, none⟩)], .nilFunc] 262)
    have hb1 := hb0.trans kk0.1
    unfold leastR
    go_enter Tryz.func279, Tryz.ntmps279
    go_wp2_with fail
    refine (best_any B bw bk n c1 c2 key (fun w => Below B w0 w) _ own s A c (h.alloc _) hs hln (hk.below hb1 hbk) hK hb1).mono ?_
    rintro e w1 ⟨rfl, own', A', c', h', k'⟩
    rw [Hk.out]
    go_wp2_with fail
    go_ret2
    have kk := keeps_trans kk0 k'
    exact ⟨rfl, own', ⟨hb0.trans kk.1, fun j hj => hln j (List.mem_of_mem_eraseIdx hj), A', c', h'⟩, kk⟩
  rest := fun {w own s m} h hok hw => by
    obtain ⟨hb0, hln, A, c, h⟩ := h
    have hB := h.size
    have f1 := nilFunc_neq
    have kk := keepsAlloc (keepsRefl B own w) hB (.cells #[.func (.func 194) #[] #[.pointer (some ⟨bw, 0, none⟩)], .func (.func 195) #[] #[.pointer (some ⟨bw, 0, none⟩), .pointer (some ⟨bk, 0, none⟩)], .nilFunc] 262)
    unfold leastR
    go_enter Tryz.func280, Tryz.ntmps280
    go_wp2_with fail
    go_end0
    exact ⟨rfl, own, ⟨hb0.trans kk.1, hln, A, c, h.alloc _⟩, kk⟩
end Go.Proofs.YtoomffajodheaaaGreatDoor
namespace Go.Proofs.YtoomffajodheaaaGreatDoor
open Go.RowKit
set_option maxRecDepth 100000
set_option maxHeartbeats 400000 in
theorem least_any (A : Option Addr) (c : Nat) (p : List Pk) (per : Int) (c1 c2 : Value) (key : Nat → Int) (w : World) (B0 : Nat) (hB : B0 ≤ w.heap.size) (h : RdP w B0 A p)
    (hp : ∀ x ∈ p, okPk x) (hl : p.length ≤ 300) (h0 : 1 ≤ per) (h1 : per ≤ 1000) (hK : KeyFn 173 c1 c2 p.length key (fun w' => Below w.heap.size w w')) :
    Calls Tryz.prog 172 #[.slice A p.length c, .int .i64 per, .func (.func 173) #[] #[c1, c2]] w (EndOwn Sn.cs 3 64 (leastL p per key) w) := by
  have hbel : Below w.heap.size w ((w.alloc (.cells #[.func (.func 173) #[] #[c1, c2]] 149)).alloc (.cells #[.slice none 0 0] 27)) := ((Below.refl _ _).alloc (Nat.le_refl _) _).alloc (by simp) _
  have hKK : KeyFn 173 c1 c2 p.length key (fun w' => Below (w.heap.size + 1) ((w.alloc (.cells #[.func (.func 173) #[] #[c1, c2]] 149)).alloc (.cells #[.slice none 0 0] 27)) w') :=
    ⟨fun k w' hw hk => hK.call k w' (hbel.trans (hw.mono (Nat.le_succ _))) hk, fun w' m hw => below_drewN hw m⟩
  have HK := Lib.hid hKK
  clear hK hKK
  go_enter Tryz.func172, Tryz.ntmps172
  go_wp2_with fail
  refine (srv_any (R := leastR (w.heap.size + 1) w.heap.size) (M := leastM key) (Mem := LeastMem p.length (w.heap.size + 1) (w.heap.size + 1) ((w.alloc (.cells #[.func (.func 173) #[] #[c1, c2]] 149)).alloc (.cells #[.slice none 0 0] 27))) A c p per (w.heap.size + 1) [] (fun b => b = w.heap.size + 1 ∨ (Value.slice none ([] : List Nat).length 0).ownBlock = some b) _ (by simp)
    (((h.more hB).below hbel).more (Nat.le_succ _)) hp hl h0 h1 (leastOk key _) (leastPicker _ _ _ _ _ c1 c2 key hl (Nat.lt_succ_self _) ((Blk.new _ _ _).alloc _) HK.out) ⟨Below.refl _ _, by simp, none, 0, heap_alloc_new2 _ _ _, ⟨by simp, .inl ⟨rfl, rfl⟩⟩, Nat.le_refl _, by simp [Value.ownBlock], by simp, fun b => Iff.rfl⟩ rfl ⟨by simp, List.Pairwise.nil⟩).mono ?_
  rintro e w2 ⟨A', c', own', rfl, row, hb2, _⟩
  go_wp2_with fail
  go_ret
  exact ⟨A', c', rfl, own_mono row hbel.size, hbel.trans (hb2.mono (Nat.le_succ _))⟩
/-- The error of a link by numbers of flows. -/
def rankErr (p : List Pk) (per : Int) (l : List Int) (most : Int) : Nat × Int := if (lookErr p per).1 = 0 then (numErr l most, -1) else lookErr p per
theorem outIdx_none {most : Int} {l : List Int} {k : Nat} (h : ¬ 0 ≤ outIdx most l k) : ∀ n ∈ l, 0 ≤ n ∧ n ≤ most := by
  induction l generalizing k with
  | nil => simp
  | cons x r ih =>
    unfold outIdx at h
    split at h
    · exact absurd (Int.natCast_nonneg k) h
    · rename_i h1
      intro n hn
      rcases List.mem_cons.1 hn with rfl | hn
      · simp only [outB, decide_eq_true_eq] at h1; omega
      · exact ih h n hn
theorem rankErr_ok {p : List Pk} {per : Int} {l : List Int} {most : Int} (h : (rankErr p per l most).1 = 0) : (lookErr p per).1 = 0 ∧ numErr l most = 0 ∧ l.length = 8 ∧ (∀ n ∈ l, 0 ≤ n ∧ n ≤ most) ∧ rankErr p per l most = (0, -1) := by
  unfold rankErr at h ⊢
  by_cases h1 : (lookErr p per).1 = 0
  · rw [if_pos h1] at h ⊢
    have h' := h
    unfold numErr at h
    by_cases h8 : l.length = 8
    · rw [if_pos h8] at h
      by_cases ho : 0 ≤ outIdx most l 0
      · rw [if_pos ho] at h; simp at h
      · exact ⟨h1, h', h8, outIdx_none ho, by rw [show numErr l most = 0 from h']⟩
    · rw [if_neg h8] at h; simp at h
  · rw [if_neg h1] at h; exact absurd h h1
set_option maxHeartbeats 1000000 in
theorem rankRun_ok (A A' : Option Addr) (c c' : Nat) (p : List Pk) (per : Int) (ranks : List Int) (S : Nat → Addr) (w : World) (B : Nat) (hB : B ≤ w.heap.size) (h : RdP w B A p) (h' : RdI w B A' ranks) (hS : Snt w B S [2, 3, 5]) (hl : p.length ≤ 9223372036854775807) (hl' : ranks.length ≤ 9223372036854775807) (hok : (rankErr p per ranks 100).1 = 0) :
    Calls Tryz.prog 146 #[.slice A p.length c, .int .i64 per, .slice A' ranks.length c'] w (EndOwnEr Sn.cs 3 64 (leastL p per (rankKey p ranks)) S (rankErr p per ranks 100).1 (rankErr p per ranks 100).2 w) := by
  obtain ⟨e1, e2, h8, _, e3⟩ := rankErr_ok hok
  obtain ⟨hf, h300, hpk, h0, h1⟩ := lookErr_ok e1
  have Hf := Lib.hid hf
  have Hn := Lib.hid e2
  have He := Lib.hid e3
  have H8 := Lib.hid h8
  clear hf hok e1 e2 e3 h8
  have ba : Below w.heap.size w ((w.alloc (.cells #[.slice A p.length c] 46)).alloc (.cells #[.slice A' ranks.length c'] 27)) := ((Below.refl _ _).alloc (Nat.le_refl _) _).alloc (by simp) _
  have bp : Blk ((w.alloc (.cells #[.slice A p.length c] 46)).alloc (.cells #[.slice A' ranks.length c'] 27)) w.heap.size 46 #[.slice A p.length c] := (Blk.new _ _ _).alloc _
  have br : Blk ((w.alloc (.cells #[.slice A p.length c] 46)).alloc (.cells #[.slice A' ranks.length c'] 27)) (w.heap.size + 1) 27 #[.slice A' ranks.length c'] := heap_alloc_new2 _ _ _
  obtain ⟨wa, hwa⟩ : ∃ wa, wa = ((w.alloc (.cells #[.slice A p.length c] 46)).alloc (.cells #[.slice A' ranks.length c'] 27)) := ⟨_, rfl⟩
  rw [← hwa] at ba bp br
  have sa : wa.heap.size = w.heap.size + 2 := by rw [hwa]; simp
  have x0 : wa.cell? ⟨w.heap.size, 0, none⟩ = some (.slice A p.length c) := bp.cell 0
  have x1 : wa.cell? ⟨w.heap.size + 1, 0, none⟩ = some (.slice A' ranks.length c') := br.cell 0
  go_enter Tryz.func146, Tryz.ntmps146
  go_wp2_with fail
  rw [← hwa]
  refine (look_any A c p per S wa B (by omega) (h.below (ba.mono hB)) ((hS.below (ba.mono hB)).sub (by simp)) hl).mono ?_
  rintro e w1 ⟨v, rfl, hv, hb1⟩
  obtain rfl := hv.nil_of (by rw [Hf.out])
  have y0 : w1.cell? ⟨w.heap.size + 1, 0, none⟩ = some (.slice A' ranks.length c') := (hb1.cell (p := ⟨w.heap.size + 1, 0, none⟩) (by simp only; omega)).trans x1
  have z1 := hb1.size
  have k1 := ba.trans (hb1.mono (by omega))
  go_wp2_with fail
  refine (rnumbers_any A' c' ranks 100 S w1 B (by omega) (h'.below (k1.mono hB)) ((hS.below (k1.mono hB)).sub (by simp)) hl').mono ?_
  rintro e w2 ⟨v, rfl, hv, hb2⟩
  obtain rfl := hv.nil_of Hn.out
  have z2 := hb2.size
  have k12 : Below wa.heap.size wa w2 := hb1.trans (hb2.mono z1)
  have k2 := ba.trans (k12.mono (by omega))
  have y1 : w2.cell? ⟨w.heap.size, 0, none⟩ = some (.slice A p.length c) := (k12.cell (p := ⟨w.heap.size, 0, none⟩) (by simp only; omega)).trans x0
  have hK : KeyFn 173 (.pointer (some ⟨w.heap.size + 1, 0, none⟩)) (.pointer (some ⟨w.heap.size, 0, none⟩)) p.length (rankKey p ranks) (fun w' => Below w2.heap.size w2 w') :=
    ⟨fun k w' hw hk => rkey_any k A A' c c' p ranks w.heap.size (w.heap.size + 1) w' B ((h.below (k2.mono hB)).below (hw.mono (by omega))) ((h'.below (k2.mono hB)).below (hw.mono (by omega))) ((bp.below k12 (by omega)).below hw (by omega)) ((br.below k12 (by omega)).below hw (by omega)) hk H8.out (hpk _ (List.getElem_mem hk)).1 (hpk _ (List.getElem_mem hk)).2.1,
      fun w' m hw => below_drewN hw m⟩
  have HK := Lib.hid hK
  clear hK
  go_wp2_with fail
  refine (least_any A c p per _ _ (rankKey p ranks) w2 B (by omega) (h.below (k2.mono hB)) hpk h300 h0 h1 HK.out).mono ?_
  rintro e w3 ⟨A3, c3, rfl, row, hb3⟩
  go_wp2_with fail
  go_ret2
  rw [He.out]
  exact ⟨A3, c3, _, rfl, own_mono row k2.size, .nil, k2.trans (hb3.mono k2.size)⟩
set_option maxHeartbeats 1000000 in
theorem rankRun_bad (A A' : Option Addr) (c c' : Nat) (p : List Pk) (per : Int) (ranks : List Int) (S : Nat → Addr) (w : World) (B : Nat) (hB : B ≤ w.heap.size) (h : RdP w B A p) (h' : RdI w B A' ranks) (hS : Snt w B S [2, 3, 5]) (hl : p.length ≤ 9223372036854775807) (hl' : ranks.length ≤ 9223372036854775807) (hok : (rankErr p per ranks 100).1 ≠ 0) :
    Calls Tryz.prog 146 #[.slice A p.length c, .int .i64 per, .slice A' ranks.length c'] w (EndOwnEr Sn.cs 3 64 [] S (rankErr p per ranks 100).1 (rankErr p per ranks 100).2 w) := by
  have ba : Below w.heap.size w ((w.alloc (.cells #[.slice A p.length c] 46)).alloc (.cells #[.slice A' ranks.length c'] 27)) := ((Below.refl _ _).alloc (Nat.le_refl _) _).alloc (by simp) _
  have br : Blk ((w.alloc (.cells #[.slice A p.length c] 46)).alloc (.cells #[.slice A' ranks.length c'] 27)) (w.heap.size + 1) 27 #[.slice A' ranks.length c'] := heap_alloc_new2 _ _ _
  obtain ⟨wa, hwa⟩ : ∃ wa, wa = ((w.alloc (.cells #[.slice A p.length c] 46)).alloc (.cells #[.slice A' ranks.length c'] 27)) := ⟨_, rfl⟩
  rw [← hwa] at ba br
  have sa : wa.heap.size = w.heap.size + 2 := by rw [hwa]; simp
  have x0 : wa.cell? ⟨w.heap.size, 0, none⟩ = some (.slice A p.length c) := by rw [hwa]; exact (show Blk _ w.heap.size 46 #[.slice A p.length c] from (Blk.new _ _ _).alloc _).cell 0
  have x1 : wa.cell? ⟨w.heap.size + 1, 0, none⟩ = some (.slice A' ranks.length c') := br.cell 0
  by_cases h1 : (lookErr p per).1 = 0
  · obtain ⟨hf, _, _, _, _⟩ := lookErr_ok h1
    have He := Lib.hid (show rankErr p per ranks 100 = (numErr ranks 100, -1) from if_pos h1)
    have Hn := Lib.hid (show numErr ranks 100 ≠ 0 from by rw [He.out] at hok; exact hok)
    have Hf := Lib.hid hf
    clear hok hf h1
    go_enter Tryz.func146, Tryz.ntmps146
    go_wp2_with fail
    rw [← hwa]
    refine (look_any A c p per S wa B (by omega) (h.below (ba.mono hB)) ((hS.below (ba.mono hB)).sub (by simp)) hl).mono ?_
    rintro e w1 ⟨v, rfl, hv, hb1⟩
    obtain rfl := hv.nil_of (by rw [Hf.out])
    have y0 : w1.cell? ⟨w.heap.size + 1, 0, none⟩ = some (.slice A' ranks.length c') := (hb1.cell (p := ⟨w.heap.size + 1, 0, none⟩) (by simp only; omega)).trans x1
    have z1 := hb1.size
    have k1 := ba.trans (hb1.mono (by omega))
    go_wp2_with fail
    refine (rnumbers_any A' c' ranks 100 S w1 B (by omega) (h'.below (k1.mono hB)) ((hS.below (k1.mono hB)).sub (by simp)) hl').mono ?_
    rintro e w2 ⟨v, rfl, hv, hb2⟩
    obtain ⟨T, a, rfl⟩ := hv.some_of Hn.out
    go_wp2_with fail
    go_ret2
    rw [He.out]
    exact ⟨none, 0, _, rfl, ⟨by simp, .inl ⟨rfl, rfl⟩⟩, hv, k1.trans (hb2.mono k1.size)⟩
  · have He := Lib.hid (show rankErr p per ranks 100 = lookErr p per from if_neg h1)
    have Hn := Lib.hid h1
    clear hok h1
    go_enter Tryz.func146, Tryz.ntmps146
    go_wp2_with fail
    rw [← hwa]
    refine (look_any A c p per S wa B (by omega) (h.below (ba.mono hB)) ((hS.below (ba.mono hB)).sub (by simp)) hl).mono ?_
    rintro e w1 ⟨v, rfl, hv, hb1⟩
    obtain ⟨T, a, rfl⟩ := hv.some_of Hn.out
    go_wp2_with fail
    go_ret2
    rw [He.out]
    exact ⟨none, 0, _, rfl, ⟨by simp, .inl ⟨rfl, rfl⟩⟩, hv, ba.trans (hb1.mono ba.size)⟩
end Go.Proofs.YtoomffajodheaaaGreatDoor
namespace Go.Proofs.YtoomffajodheaaaGreatDoor
open Go.RowKit
set_option maxRecDepth 100000
def dueKey (p : List Pk) (dues : List Int) (k : Nat) : Int := aOf p k + dues.getD (fOf p k).toNat 0
theorem dkey_any (k : Nat) (A A' : Option Addr) (c c' : Nat) (p : List Pk) (l : List Int) (bp br : Nat) (w : World) (B : Nat) (hp : RdP w B A p) (hl : RdI w B A' l) (h1 : Blk w bp 46 #[.slice A p.length c]) (h2 : Blk w br 27 #[.slice A' l.length c'])
    (hk : k < p.length) (h8 : l.length = 8) (hok : okPk p[k]) (hm : ∀ n ∈ l, 0 ≤ n ∧ n ≤ 1099511627776) :
    Calls Tryz.prog 174 #[.int .i64 k, .pointer (some ⟨bp, 0, none⟩), .pointer (some ⟨br, 0, none⟩)] w fun e w' => e = .returned (.int .i64 (dueKey p l k)) ∧ ∃ m, w' = w.drewN m := by
  obtain ⟨hf0, hf1, _, _, ha0, ha1⟩ := hok
  have c1 : w.cell? ⟨bp, 0, none⟩ = some (.slice A p.length c) := h1.cell 0
  have c2 : w.cell? ⟨br, 0, none⟩ = some (.slice A' l.length c') := h2.cell 0
  obtain ⟨b, o, rfl, hb, d0, d1, d2⟩ := RdP.get hp hk
  obtain ⟨f, hf⟩ : ∃ f : Nat, p[k].f = f := ⟨p[k].f.toNat, by omega⟩
  have hfl : f < l.length := by omega
  obtain ⟨b', o', rfl, hb', e0⟩ := RdI.get hl hfl
  have Hk := Lib.hid (show dueKey p l k = p[k].a + l[f] by unfold dueKey; rw [aOf_of hk, fOf_of hk, hf, Int.toNat_natCast]; simp [List.getD, hfl])
  rw [hf] at d0
  obtain ⟨hm0, hm1⟩ := hm _ (List.getElem_mem hfl)
  clear hf hf0 hf1 h1 h2 h8 hm
  have q1 : (0 : Int) ≤ (f : Int) := by omega
  have q2 : (f : Int) < (l.length : Int) := by omega
  have q3 : (0 : Int) ≤ (k : Int) := by omega
  have q4 : (k : Int) < (p.length : Int) := by omega
  go_enter Tryz.func174, Tryz.ntmps174
  go_wp2_with fail
  go_quiet (fail)
  go_wp2
  go_ret
  exact ⟨ret_int Hk.out.symm, _, rfl⟩
set_option maxHeartbeats 1000000 in
theorem bestD_any (B bw bk n : Nat) (c1 c2 : Value) (key : Nat → Int) (Km : World → Prop) (w : World) (own : Nat → Prop) (s : List Nat) (A : Option Addr) (c : Nat) (h : WaitMem B bw w own s A c) (hs : 0 < s.length) (hlt : ∀ j ∈ s, j < n)
    (hk : Blk w bk 149 #[.func (.func 174) #[] #[c1, c2]]) (hK : KeyFn 174 c1 c2 n key Km) (hm : Km w) :
    Calls Tryz.prog 195 #[.pointer (some ⟨bw, 0, none⟩), .pointer (some ⟨bk, 0, none⟩)] w fun e w' => e = .returned (.tuple #[.int .i64 (s.getD (bestI key s) 0), .bool true]) ∧ ∃ own' A' c', WaitMem B bw w' own' (s.eraseIdx (bestI key s)) A' c' ∧ Keeps B own w own' w' := by
  have c0 : w.cell? ⟨bw, 0, none⟩ = some (.slice A s.length c) := h.v.cell 0
  have k0 : w.cell? ⟨bk, 0, none⟩ = some (.func (.func 174) #[] #[c1, c2]) := hk.cell 0
  have hle : s.length < 1000 := by have := h.le; omega
  have hn0 : ((s.length : Int) == 0) = false := by rw [beq_eq_false_iff_ne]; omega
  go_enter Tryz.func195, Tryz.ntmps195
  go_wp2_with fail
  have hrow : Rd w w.heap.size 1 nCs A s := Rd.of_own h.row (by omega) nCs_len
  have HK := Lib.hid hK.call
  have HD := Lib.hid hK.drew
  have HM := Lib.hid hm
  have HL := Lib.hid hlt
  clear hm hlt
  go_loopw [4, 13] (fun bv iv wr => ∃ b i m : Nat, bv = .int .i64 b ∧ iv = .int .i64 i ∧ b < s.length ∧ i ≤ s.length ∧ bestI key s = bestGo key b (key (s.getD b 0)) i (s.drop i) ∧ wr = w.drewN m) (fun _ iv _ => s.length - (intOf iv).toNat)
  case atStart => exact ⟨0, 0, 0, rfl, rfl, hs, Nat.zero_le _, rfl, rfl⟩
  case round =>
    obtain ⟨b, i, m, rfl, rfl, hb, hi, heq, rfl⟩ := hrel
    have Heq := Lib.hid heq
    clear heq
    by_cases hlt : i < s.length
    · obtain ⟨g, o, hA, hg, e0⟩ := RdN.get hrow hlt
      obtain ⟨g', o', hA', hg', e1⟩ := RdN.get hrow hb
      rw [hA] at hA'
      simp only [Option.some.injEq, Addr.mk.injEq, and_true] at hA'
      obtain ⟨rfl, rfl⟩ := hA'
      subst hA
      have hki := HL.out _ (List.getElem_mem hlt)
      have hkb := HL.out _ (List.getElem_mem hb)
      have hb2 : (b : Int) < (s.length : Int) := by omega
      have hb0 : (0 : Int) ≤ (b : Int) := by omega
      by_cases hc : key s[i] < key s[b]
      · go_wp2_with fail
        go_quiet ((go_at_call 174; exact quiet_add (HK.out _ _ (HD.out _ _ HM.out) (by first | exact hki | exact hkb))))
        go_wp2
        exact best_round hlt hle Heq.out hlt (by rw [if_pos (by rw [getD_at s b hb]; exact hc), getD_at s i hlt])
      · go_wp2_with fail
        go_quiet ((go_at_call 174; exact quiet_add (HK.out _ _ (HD.out _ _ HM.out) (by first | exact hki | exact hkb))))
        go_wp2
        exact best_round hlt hle Heq.out hb (by rw [if_neg (by rw [getD_at s b hb]; omega)])
    · have hi2 : i = s.length := by omega
      subst hi2
      obtain ⟨g', o', hA', hg', e1⟩ := RdN.get hrow hb
      subst hA'
      have hbest : bestI key s = b := by rw [Heq.out, List.drop_length]; rfl
      have Hb := Lib.hid hbest
      clear hbest
      have hb2 : (b : Int) < (s.length : Int) := by omega
      have hb0 : (0 : Int) ≤ (b : Int) := by omega
      have row0 : (w.drewN m).ownsRow B 3 1 (.slice (some ⟨g', o', none⟩) s.length c) s.length (s.flatMap nCs) := h.row
      have Hr := Lib.hid row0
      have Hh := Lib.hid h
      clear row0 h
      go_wp2_with (go_at_call 196; refine (del_any B _ s _ c b Hr.out hb).mono ?_; rintro e w1 ⟨rfl, row1, bl1, sz1, k1⟩; have b1 : Blk w1 bw 27 #[.slice (some ⟨g', o', none⟩) s.length c] := Hh.out.v.same (k1 bw Hh.out.v.lt (fun e => Hh.out.ne e.symm)); have x0 : w1.cell? ⟨bw, 0, none⟩ = some (.slice (some ⟨g', o', none⟩) s.length c) := b1.cell 0; have x1 := b1.frozen 0; have B1 := Lib.hid b1; clear b1)
      go_ret2
      have hb9 := Hb.out
      rw [hb9, getD_at s b hb]
      have el : (s.eraseIdx b).length = s.length - 1 := List.length_eraseIdx_of_lt hb
      refine ⟨rfl, own, some ⟨g', o', none⟩, c, ⟨B1.out.set_ 0 _, ownsRow_setCell_other row1 (show (Value.slice (some ⟨g', o', none⟩) (s.eraseIdx b).length c).ownBlock ≠ some bw from Hh.out.ne) _, Hh.out.hB, Hh.out.ne, by have := Hh.out.le; omega, Hh.out.o⟩, (((below_drewN (Below.refl B w) m)).trans bl1).setCell (p := ⟨bw, 0, none⟩) Hh.out.hB _, fun x hx ho => ?_, fun x hx => .inl hx⟩
      have hnb : ¬ (x = bw ∨ (Value.slice (some ⟨g', o', none⟩) s.length c).ownBlock = some x) := fun h9 => ho ((Hh.out.o x).2 h9)
      rw [Below.heap_setCell w1 ⟨bw, 0, none⟩ _ x (fun e => hnb (.inl e))]
      exact k1 x hx fun e => hnb (.inr e.symm)
theorem leastPickerD (w0 : World) (B bw bk n : Nat) (c1 c2 : Value) (key : Nat → Int) (hn : n ≤ 300) (hbk : bk < B) (hk : Blk w0 bk 149 #[.func (.func 174) #[] #[c1, c2]]) (hK : KeyFn 174 c1 c2 n key (fun w => Below B w0 w)) :
    Picker (leastR bw bk) (leastM key) n B (LeastMem n B bw w0) where
  own_ := fun {w own s} h b hb => by
    obtain ⟨A, c, h⟩ := h.wm
    rcases (h.o b).1 hb with rfl | hb
    · exact ⟨h.hB, h.v.lt⟩
    · exact ⟨own_ge h.row b hb, own_lt h.row b hb⟩
  stay := fun {w w' own s} h hs hb => by
    obtain ⟨hb0, hln, A, c, h⟩ := h
    exact ⟨hb0.trans hb, hln, A, c, h.v.same (hs bw ((h.o bw).2 (.inl rfl))), own_same h.row fun g hg => hs g ((h.o g).2 (.inr hg)), h.hB, h.ne, h.le, h.o⟩
  come := fun {w own s} k h ⟨hk1, hk2⟩ hkn => by
    obtain ⟨hb0, hln, A, c, h⟩ := h
    have hs : s.length < 300 := by
      rcases asc_len k s 0 (fun _ _ => Nat.zero_le _) hk1 hk2 with rfl | h9
      · simp
      · omega
    have hB := h.size
    unfold leastR
    go_enter Tryz.func278, Tryz.ntmps278
    go_wp2_with fail
    refine (least1_any B bw k _ own s A c (h.alloc _) hs).mono ?_
    rintro e w1 ⟨rfl, own', A', c', h', k'⟩
    go_wp2_with fail
    go_end0
    have kk := keeps_trans (keepsAlloc (keepsRefl B own w) hB _) k'
    exact ⟨rfl, own', ⟨hb0.trans kk.1, fun j hj => by
      rcases List.mem_append.1 hj with h9 | h9
      · exact hln j h9
      · rw [List.mem_singleton.1 h9]; exact hkn, A', c', h'⟩, kk⟩
  none_ := fun {w own s m} h hok hp => by
    obtain ⟨hb0, hln, A, c, h⟩ := h
    obtain rfl : s = [] := (leastOk key n).w_none s m hok hp
    have hB := h.size
    clear hp hok
    unfold leastR
    go_enter Tryz.func279, Tryz.ntmps279
    go_wp2_with fail
    refine (least2_none B bw bk _ own A c (h.alloc _)).mono ?_
    rintro e w1 ⟨rfl, rfl⟩
    go_wp2_with fail
    go_ret2
    have kk := keepsAlloc (keepsRefl B own w) hB (.cells #[.func (.func 194) #[] #[.pointer (some ⟨bw, 0, none⟩)], .func (.func 195) #[] #[.pointer (some ⟨bw, 0, none⟩), .pointer (some ⟨bk, 0, none⟩)], .nilFunc] 262)
    exact ⟨rfl, own, ⟨hb0.trans kk.1, hln, A, c, h.alloc _⟩, kk⟩
  some_ := fun {w own s m} k s' h hok hp => by
    obtain ⟨hb0, hln, A, c, h⟩ := h
    have hlt : ∀ j ∈ s, j < m := hok.1
    have hsk : 0 < s.length ∧ s.getD (bestI key s) 0 = k ∧ s.eraseIdx (bestI key s) = s' := by
      simp only [leastM] at hp
      split at hp
      · cases hp
      · simp only [Option.some.injEq, Prod.mk.injEq] at hp
        exact ⟨by omega, hp.1, hp.2⟩
    obtain ⟨hs, ek, rfl⟩ := hsk
    have Hk := Lib.hid ek
    have hB := h.size
    clear hp ek
    have kk0 := keepsAlloc (keepsRefl B own w) hB (.cells #[.func (.func 194) #[] #[.pointer (some ⟨bw, 0, none⟩)], .func (.func 195) #[] #[.pointer (some ⟨bw, 0, none⟩), .pointer (some ⟨bk, 0, none⟩)], .nilFunc] 262)
    have hb1 := hb0.trans kk0.1
    unfold leastR
    go_enter Tryz.func279, Tryz.ntmps279
    go_wp2_with fail
    refine (bestD_any B bw bk n c1 c2 key (fun w => Below B w0 w) _ own s A c (h.alloc _) hs hln (hk.below hb1 hbk) hK hb1).mono ?_
    rintro e w1 ⟨rfl, own', A', c', h', k'⟩
    rw [Hk.out]
    go_wp2_with fail
    go_ret2
    have kk := keeps_trans kk0 k'
    exact ⟨rfl, own', ⟨hb0.trans kk.1, fun j hj => hln j (List.mem_of_mem_eraseIdx hj), A', c', h'⟩, kk⟩
  rest := fun {w own s m} h hok hw => by
    obtain ⟨hb0, hln, A, c, h⟩ := h
    have hB := h.size
    have f1 := nilFunc_neq
    have kk := keepsAlloc (keepsRefl B own w) hB (.cells #[.func (.func 194) #[] #[.pointer (some ⟨bw, 0, none⟩)], .func (.func 195) #[] #[.pointer (some ⟨bw, 0, none⟩), .pointer (some ⟨bk, 0, none⟩)], .nilFunc] 262)
    unfold leastR
    go_enter Tryz.func280, Tryz.ntmps280
    go_wp2_with fail
    go_end0
    exact ⟨rfl, own, ⟨hb0.trans kk.1, hln, A, c, h.alloc _⟩, kk⟩
set_option maxHeartbeats 400000 in
theorem leastD_any (A : Option Addr) (c : Nat) (p : List Pk) (per : Int) (c1 c2 : Value) (key : Nat → Int) (w : World) (B0 : Nat) (hB : B0 ≤ w.heap.size) (h : RdP w B0 A p)
    (hp : ∀ x ∈ p, okPk x) (hl : p.length ≤ 300) (h0 : 1 ≤ per) (h1 : per ≤ 1000) (hK : KeyFn 174 c1 c2 p.length key (fun w' => Below w.heap.size w w')) :
    Calls Tryz.prog 172 #[.slice A p.length c, .int .i64 per, .func (.func 174) #[] #[c1, c2]] w (EndOwn Sn.cs 3 64 (leastL p per key) w) := by
  have hbel : Below w.heap.size w ((w.alloc (.cells #[.func (.func 174) #[] #[c1, c2]] 149)).alloc (.cells #[.slice none 0 0] 27)) := ((Below.refl _ _).alloc (Nat.le_refl _) _).alloc (by simp) _
  have hKK : KeyFn 174 c1 c2 p.length key (fun w' => Below (w.heap.size + 1) ((w.alloc (.cells #[.func (.func 174) #[] #[c1, c2]] 149)).alloc (.cells #[.slice none 0 0] 27)) w') :=
    ⟨fun k w' hw hk => hK.call k w' (hbel.trans (hw.mono (Nat.le_succ _))) hk, fun w' m hw => below_drewN hw m⟩
  have HK := Lib.hid hKK
  clear hK hKK
  go_enter Tryz.func172, Tryz.ntmps172
  go_wp2_with fail
  refine (srv_any (R := leastR (w.heap.size + 1) w.heap.size) (M := leastM key) (Mem := LeastMem p.length (w.heap.size + 1) (w.heap.size + 1) ((w.alloc (.cells #[.func (.func 174) #[] #[c1, c2]] 149)).alloc (.cells #[.slice none 0 0] 27))) A c p per (w.heap.size + 1) [] (fun b => b = w.heap.size + 1 ∨ (Value.slice none ([] : List Nat).length 0).ownBlock = some b) _ (by simp)
    (((h.more hB).below hbel).more (Nat.le_succ _)) hp hl h0 h1 (leastOk key _) (leastPickerD _ _ _ _ _ c1 c2 key hl (Nat.lt_succ_self _) ((Blk.new _ _ _).alloc _) HK.out) ⟨Below.refl _ _, by simp, none, 0, heap_alloc_new2 _ _ _, ⟨by simp, .inl ⟨rfl, rfl⟩⟩, Nat.le_refl _, by simp [Value.ownBlock], by simp, fun b => Iff.rfl⟩ rfl ⟨by simp, List.Pairwise.nil⟩).mono ?_
  rintro e w2 ⟨A', c', own', rfl, row, hb2, _⟩
  go_wp2_with fail
  go_ret
  exact ⟨A', c', rfl, own_mono row hbel.size, hbel.trans (hb2.mono (Nat.le_succ _))⟩
set_option maxHeartbeats 1000000 in
theorem rankDue_ok (A A' : Option Addr) (c c' : Nat) (p : List Pk) (per : Int) (ranks : List Int) (S : Nat → Addr) (w : World) (B : Nat) (hB : B ≤ w.heap.size) (h : RdP w B A p) (h' : RdI w B A' ranks) (hS : Snt w B S [2, 3, 5]) (hl : p.length ≤ 9223372036854775807) (hl' : ranks.length ≤ 9223372036854775807) (hok : (rankErr p per ranks 1099511627776).1 = 0) :
    Calls Tryz.prog 147 #[.slice A p.length c, .int .i64 per, .slice A' ranks.length c'] w (EndOwnEr Sn.cs 3 64 (leastL p per (dueKey p ranks)) S (rankErr p per ranks 1099511627776).1 (rankErr p per ranks 1099511627776).2 w) := by
  obtain ⟨e1, e2, h8, hmost, e3⟩ := rankErr_ok hok
  obtain ⟨hf, h300, hpk, h0, h1⟩ := lookErr_ok e1
  have Hf := Lib.hid hf
  have Hn := Lib.hid e2
  have He := Lib.hid e3
  have H8 := Lib.hid h8
  clear hf hok e1 e2 e3 h8
  have ba : Below w.heap.size w ((w.alloc (.cells #[.slice A p.length c] 46)).alloc (.cells #[.slice A' ranks.length c'] 27)) := ((Below.refl _ _).alloc (Nat.le_refl _) _).alloc (by simp) _
  have bp : Blk ((w.alloc (.cells #[.slice A p.length c] 46)).alloc (.cells #[.slice A' ranks.length c'] 27)) w.heap.size 46 #[.slice A p.length c] := (Blk.new _ _ _).alloc _
  have br : Blk ((w.alloc (.cells #[.slice A p.length c] 46)).alloc (.cells #[.slice A' ranks.length c'] 27)) (w.heap.size + 1) 27 #[.slice A' ranks.length c'] := heap_alloc_new2 _ _ _
  obtain ⟨wa, hwa⟩ : ∃ wa, wa = ((w.alloc (.cells #[.slice A p.length c] 46)).alloc (.cells #[.slice A' ranks.length c'] 27)) := ⟨_, rfl⟩
  rw [← hwa] at ba bp br
  have sa : wa.heap.size = w.heap.size + 2 := by rw [hwa]; simp
  have x0 : wa.cell? ⟨w.heap.size, 0, none⟩ = some (.slice A p.length c) := bp.cell 0
  have x1 : wa.cell? ⟨w.heap.size + 1, 0, none⟩ = some (.slice A' ranks.length c') := br.cell 0
  go_enter Tryz.func147, Tryz.ntmps147
  go_wp2_with fail
  rw [← hwa]
  refine (look_any A c p per S wa B (by omega) (h.below (ba.mono hB)) ((hS.below (ba.mono hB)).sub (by simp)) hl).mono ?_
  rintro e w1 ⟨v, rfl, hv, hb1⟩
  obtain rfl := hv.nil_of (by rw [Hf.out])
  have y0 : w1.cell? ⟨w.heap.size + 1, 0, none⟩ = some (.slice A' ranks.length c') := (hb1.cell (p := ⟨w.heap.size + 1, 0, none⟩) (by simp only; omega)).trans x1
  have z1 := hb1.size
  have k1 := ba.trans (hb1.mono (by omega))
  go_wp2_with fail
  refine (rnumbers_any A' c' ranks 1099511627776 S w1 B (by omega) (h'.below (k1.mono hB)) ((hS.below (k1.mono hB)).sub (by simp)) hl').mono ?_
  rintro e w2 ⟨v, rfl, hv, hb2⟩
  obtain rfl := hv.nil_of Hn.out
  have z2 := hb2.size
  have k12 : Below wa.heap.size wa w2 := hb1.trans (hb2.mono z1)
  have k2 := ba.trans (k12.mono (by omega))
  have y1 : w2.cell? ⟨w.heap.size, 0, none⟩ = some (.slice A p.length c) := (k12.cell (p := ⟨w.heap.size, 0, none⟩) (by simp only; omega)).trans x0
  have hK : KeyFn 174 (.pointer (some ⟨w.heap.size, 0, none⟩)) (.pointer (some ⟨w.heap.size + 1, 0, none⟩)) p.length (dueKey p ranks) (fun w' => Below w2.heap.size w2 w') :=
    ⟨fun k w' hw hk => dkey_any k A A' c c' p ranks w.heap.size (w.heap.size + 1) w' B ((h.below (k2.mono hB)).below (hw.mono (by omega))) ((h'.below (k2.mono hB)).below (hw.mono (by omega))) ((bp.below k12 (by omega)).below hw (by omega)) ((br.below k12 (by omega)).below hw (by omega)) hk H8.out (hpk _ (List.getElem_mem hk)) hmost,
      fun w' m hw => below_drewN hw m⟩
  have HK := Lib.hid hK
  clear hK
  go_wp2_with fail
  refine (leastD_any A c p per _ _ (dueKey p ranks) w2 B (by omega) (h.below (k2.mono hB)) hpk h300 h0 h1 HK.out).mono ?_
  rintro e w3 ⟨A3, c3, rfl, row, hb3⟩
  go_wp2_with fail
  go_ret2
  rw [He.out]
  exact ⟨A3, c3, _, rfl, own_mono row k2.size, .nil, k2.trans (hb3.mono k2.size)⟩
set_option maxHeartbeats 1000000 in
theorem rankDue_bad (A A' : Option Addr) (c c' : Nat) (p : List Pk) (per : Int) (ranks : List Int) (S : Nat → Addr) (w : World) (B : Nat) (hB : B ≤ w.heap.size) (h : RdP w B A p) (h' : RdI w B A' ranks) (hS : Snt w B S [2, 3, 5]) (hl : p.length ≤ 9223372036854775807) (hl' : ranks.length ≤ 9223372036854775807) (hok : (rankErr p per ranks 1099511627776).1 ≠ 0) :
    Calls Tryz.prog 147 #[.slice A p.length c, .int .i64 per, .slice A' ranks.length c'] w (EndOwnEr Sn.cs 3 64 [] S (rankErr p per ranks 1099511627776).1 (rankErr p per ranks 1099511627776).2 w) := by
  have ba : Below w.heap.size w ((w.alloc (.cells #[.slice A p.length c] 46)).alloc (.cells #[.slice A' ranks.length c'] 27)) := ((Below.refl _ _).alloc (Nat.le_refl _) _).alloc (by simp) _
  have br : Blk ((w.alloc (.cells #[.slice A p.length c] 46)).alloc (.cells #[.slice A' ranks.length c'] 27)) (w.heap.size + 1) 27 #[.slice A' ranks.length c'] := heap_alloc_new2 _ _ _
  obtain ⟨wa, hwa⟩ : ∃ wa, wa = ((w.alloc (.cells #[.slice A p.length c] 46)).alloc (.cells #[.slice A' ranks.length c'] 27)) := ⟨_, rfl⟩
  rw [← hwa] at ba br
  have sa : wa.heap.size = w.heap.size + 2 := by rw [hwa]; simp
  have x0 : wa.cell? ⟨w.heap.size, 0, none⟩ = some (.slice A p.length c) := by rw [hwa]; exact (show Blk _ w.heap.size 46 #[.slice A p.length c] from (Blk.new _ _ _).alloc _).cell 0
  have x1 : wa.cell? ⟨w.heap.size + 1, 0, none⟩ = some (.slice A' ranks.length c') := br.cell 0
  by_cases h1 : (lookErr p per).1 = 0
  · obtain ⟨hf, _, _, _, _⟩ := lookErr_ok h1
    have He := Lib.hid (show rankErr p per ranks 1099511627776 = (numErr ranks 1099511627776, -1) from if_pos h1)
    have Hn := Lib.hid (show numErr ranks 1099511627776 ≠ 0 from by rw [He.out] at hok; exact hok)
    have Hf := Lib.hid hf
    clear hok hf h1
    go_enter Tryz.func147, Tryz.ntmps147
    go_wp2_with fail
    rw [← hwa]
    refine (look_any A c p per S wa B (by omega) (h.below (ba.mono hB)) ((hS.below (ba.mono hB)).sub (by simp)) hl).mono ?_
    rintro e w1 ⟨v, rfl, hv, hb1⟩
    obtain rfl := hv.nil_of (by rw [Hf.out])
    have y0 : w1.cell? ⟨w.heap.size + 1, 0, none⟩ = some (.slice A' ranks.length c') := (hb1.cell (p := ⟨w.heap.size + 1, 0, none⟩) (by simp only; omega)).trans x1
    have z1 := hb1.size
    have k1 := ba.trans (hb1.mono (by omega))
    go_wp2_with fail
    refine (rnumbers_any A' c' ranks 1099511627776 S w1 B (by omega) (h'.below (k1.mono hB)) ((hS.below (k1.mono hB)).sub (by simp)) hl').mono ?_
    rintro e w2 ⟨v, rfl, hv, hb2⟩
    obtain ⟨T, a, rfl⟩ := hv.some_of Hn.out
    go_wp2_with fail
    go_ret2
    rw [He.out]
    exact ⟨none, 0, _, rfl, ⟨by simp, .inl ⟨rfl, rfl⟩⟩, hv, k1.trans (hb2.mono k1.size)⟩
  · have He := Lib.hid (show rankErr p per ranks 1099511627776 = lookErr p per from if_neg h1)
    have Hn := Lib.hid h1
    clear hok h1
    go_enter Tryz.func147, Tryz.ntmps147
    go_wp2_with fail
    rw [← hwa]
    refine (look_any A c p per S wa B (by omega) (h.below (ba.mono hB)) ((hS.below (ba.mono hB)).sub (by simp)) hl).mono ?_
    rintro e w1 ⟨v, rfl, hv, hb1⟩
    obtain ⟨T, a, rfl⟩ := hv.some_of Hn.out
    go_wp2_with fail
    go_ret2
    rw [He.out]
    exact ⟨none, 0, _, rfl, ⟨by simp, .inl ⟨rfl, rfl⟩⟩, hv, ba.trans (hb1.mono ba.size)⟩
end Go.Proofs.YtoomffajodheaaaGreatDoor
