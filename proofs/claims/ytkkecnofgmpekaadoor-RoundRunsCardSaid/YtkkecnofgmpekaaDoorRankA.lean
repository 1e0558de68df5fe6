/- Package rank: the key of Run, and the closures of least, as a picker. Conditions written at each. Package rank: least's list of those that wait, in memory; a packet comes. Conditions written at each. -/
import Derived.Test.YtkkecnofgmpekaaDoorSrv
import Derived.Test.YtkkecnofgmpekaaDoorBlk
import Derived.Test.YtkkecnofgmpekaaDoorRankN
import Derived.Test.YtkkecnofgmpekaaDoorRankP
import Derived.Test.YtkkecnofgmpekaaDoorShelf
namespace Go.Proofs.YtkkecnofgmpekaaDoor
open Go.RowKit
set_option maxRecDepth 100000
def rankKey (p : List Pk) (ranks : List Int) (k : Nat) : Int := ranks.getD (fOf p k).toNat 0
theorem rkey_any (k : Nat) (A A' : Option Addr) (c c' : Nat) (p : List Pk) (l : List Int) (bp br : Nat) (w : World) (B : Nat) (hp : RdP w B A p) (hl : RdI w B A' l) (h1 : Blk w bp 22 #[.slice A p.length c]) (h2 : Blk w br 35 #[.slice A' l.length c'])
    (hk : k < p.length) (h8 : l.length = 8) (hf0 : 0 ≤ p[k].f) (hf1 : p[k].f < 8) :
    Calls Tryd.prog 57 #[.int .i64 k, .pointer (some ⟨br, 0, none⟩), .pointer (some ⟨bp, 0, none⟩)] w fun e w' => e = .returned (.int .i64 (rankKey p l k)) ∧ ∃ m, w' = w.drewN m := by
  have c1 : w.cell? ⟨bp, 0, none⟩ = some (.slice A p.length c) := h1.cell 0
  have c2 : w.cell? ⟨br, 0, none⟩ = some (.slice A' l.length c') := h2.cell 0
  obtain ⟨b, o, rfl, hb, d0, d1, d2⟩ := RdP.get hp hk
  obtain ⟨f, hf⟩ : ∃ f : Nat, p[k].f = f := ⟨p[k].f.toNat, by omega⟩
  have hfl : f < l.length := by omega
  obtain ⟨b', o', rfl, hb', e0⟩ := RdI.get hl hfl
  have Hk := Lib.hid (show rankKey p l k = l[f] by unfold rankKey; rw [fOf_of hk, hf, Int.toNat_natCast]; simp [List.getD, hfl])
  rw [hf] at d0
  clear hf hf0 hf1 h1 h2 h8
  have q1 : (0 : Int) ≤ (f : Int) := by omega
  have q2 : (f : Int) < (l.length : Int) := by omega
  have q3 : (0 : Int) ≤ (k : Int) := by omega
  have q4 : (k : Int) < (p.length : Int) := by omega
  go_enter Tryd.func57, Tryd.ntmps57
  go_wp2_with fail
  go_quiet (fail)
  go_wp2
  go_ret
  exact ⟨ret_int Hk.out.symm, _, rfl⟩
end Go.Proofs.YtkkecnofgmpekaaDoor
namespace Go.Proofs.YtkkecnofgmpekaaDoor
open Go.RowKit
set_option maxRecDepth 100000
def nCs (n : Nat) : List Value := [.int .i64 n]
theorem nCs_len (x : Nat) : (nCs x).length = 1 := rfl
theorem nCs_one (x : Nat) : ∀ u ∈ nCs x, u.oneCell' = true := by simp [nCs, Value.oneCell']
theorem infoInt : (Tryd.prog.info? 3).map (fun i => (i.zero, i.size, i.bytes)) = some (some (.int .i64 0), 1, 8) := by kernel_rfl
/-- Those that wait, in the variable at block bw. -/
structure WaitMem (B bw : Nat) (w : World) (own : Nat → Prop) (s : List Nat) (A : Option Addr) (c : Nat) : Prop where
  v : Blk w bw 35 #[.slice A s.length c]
  row : w.ownsRow B 3 1 (.slice A s.length c) s.length (s.flatMap nCs)
  hB : B ≤ bw
  ne : (Value.slice A s.length c).ownBlock ≠ some bw
  le : s.length ≤ 300
  o : ∀ b, own b ↔ b = bw ∨ (Value.slice A s.length c).ownBlock = some b
theorem least1_any (B bw k : Nat) (w : World) (own : Nat → Prop) (s : List Nat) (A : Option Addr) (c : Nat) (h : WaitMem B bw w own s A c) (hs : s.length < 300) :
    Calls Tryd.prog 71 #[.int .i64 k, .pointer (some ⟨bw, 0, none⟩)] w fun e w' => e = .returned (.tuple #[]) ∧ ∃ own' A' c', WaitMem B bw w' own' (s ++ [k]) A' c' ∧ Keeps B own w own' w' := by
  have c0 : w.cell? ⟨bw, 0, none⟩ = some (.slice A s.length c) := h.v.cell 0
  have zb := h.v.lt
  have zB := h.hB
  obtain ⟨i0, hi0, hz0, hz1, hz2⟩ := info_parts infoInt
  obtain ⟨s', hs'⟩ : ∃ s', s' = s ++ [k] := ⟨_, rfl⟩
  have Hs := Lib.hid hs'
  clear hs'
  have H := Lib.hid h
  have row := h.row
  clear h
  go_enter Tryd.func71, Tryd.ntmps71
  go_wp2_with (at_builtin; refine wpList_append_rd _ nCs rfl (.tmp 3) (.tmp 5) 35 rfl B 3 i0 (.int .i64 0) 1 8 Tryd.underlying35 hi0 hz0 hz1 hz2 rfl (by omega) nCs_len nCs_one (.slice A s.length c) s.length (s.flatMap nCs) rfl (row.alloc _) (w.heap.size + 1) (some ⟨w.heap.size, 0, none⟩) 1 [k] rfl (Rd.new_ rfl (by omega) nCs_len) (by simp only [maxLen, List.length_cons, List.length_nil]; omega) (by simp only [List.length_cons, List.length_nil]; omega) (by simp; omega) ?_; intro v3 w3 row3 g3 at3; obtain ⟨A5, c5, hv5, row3⟩ := own_app row3 (by omega); rw [← Hs.out] at hv5 row3; have b3 : Blk w3 bw 35 #[.slice A s.length c] := (H.out.v.alloc _).grown g3 H.out.ne.symm; have x0 : w3.cell? ⟨bw, 0, none⟩ = some (.slice A s.length c) := b3.cell 0; have x1 := b3.frozen 0; have B3 := Lib.hid b3; clear b3; rw [hv5] at at3 ⊢; clear hv5)
  go_end0
  have hne5 : (Value.slice A5 s'.length c5).ownBlock ≠ some bw := by
    rcases at3 with e | e
    · rw [e]; exact H.out.ne
    · rw [e]; simp; omega
  refine ⟨rfl, fun b => b = bw ∨ (Value.slice A5 s'.length c5).ownBlock = some b, A5, c5, ?_, ?_⟩
  · rw [← Hs.out]
    exact ⟨B3.out.set_ 0 _, ownsRow_setCell_other row3 hne5 _, zB, hne5, by rw [Hs.out]; simp; omega, fun b => Iff.rfl⟩
  · refine ⟨(below_app ((Below.refl B w).alloc (by omega) _) (row.alloc _) g3 (Nat.le_refl _) (by simp; omega)).setCell (p := ⟨bw, 0, none⟩) zB _, fun b hb ho => ?_, fun b hb => ?_⟩
    · have hnb : ¬ (b = bw ∨ (Value.slice A s.length c).ownBlock = some b) := fun h9 => ho ((H.out.o b).2 h9)
      rw [Below.heap_setCell w3 ⟨bw, 0, none⟩ _ b (fun e => hnb (.inl e)), g3.block b (by simp; omega) (fun e => hnb (.inr e.symm)), Below.heap_alloc w _ b hb]
    · rcases hb with hb | hb
      · exact .inl ((H.out.o b).2 (.inl hb))
      · rcases at3 with e | e
        · rw [e] at hb; exact .inl ((H.out.o b).2 (.inr hb))
        · rw [e] at hb
          simp at hb
          exact .inr (by omega)
end Go.Proofs.YtkkecnofgmpekaaDoor
