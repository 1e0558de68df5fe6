/- gate.links: the kinds of links by their names; what is looked up in it. No condition. A gate in memory; its kinds' links, places of errors, its check. Conditions: the nine sentinels lie in their variables, apart; errors.errorType holds the type error; what is read lies below the call. gate.Check. Conditions: as for a gate in memory. The kinds of links as strings are asked for. No condition. -/
import Derived.Test.YtoomffajodheaaaGreatDoorQLkM
import Derived.MapKept
import Derived.Carry
import Derived.Test.YtoomffajodheaaaGreatDoorQGateP
import Derived.Test.YtoomffajodheaaaGreatDoorQIsM
import Derived.Deep.RegionHeld3
import Derived.Test.YtoomffajodheaaaGreatDoorQCvM
set_option linter.all false
namespace Go.Proofs.YtoomffajodheaaaGreatDoor
open Go.RowKit
set_option maxRecDepth 100000
def bFifo : ByteArray := ⟨#[102, 105, 102, 111]⟩
def bRank : ByteArray := ⟨#[114, 97, 110, 107]⟩
def bDue : ByteArray := ⟨#[100, 117, 101]⟩
def bRound : ByteArray := ⟨#[114, 111, 117, 110, 100]⟩
def bFair : ByteArray := ⟨#[102, 97, 105, 114]⟩
def kindN (s : ByteArray) : Nat := if s = bFifo then 0 else if s = bRank then 1 else if s = bDue then 2 else if s = bRound then 3 else if s = bFair then 4 else 5
theorem kindN_le (s : ByteArray) : kindN s ≤ 5 := by unfold kindN; repeat (first | omega | split)
def fnOf : Nat → Nat
  | 0 => 145
  | 1 => 146
  | 2 => 147
  | 3 => 148
  | _ => 149
def fnV (n : Nat) : Value := .func (.func (fnOf n)) #[] #[]
def lnkEs : Array MapEntry := #[⟨.string bFifo, fnV 0, 0⟩, ⟨.string bRank, fnV 1, 1⟩, ⟨.string bDue, fnV 2, 2⟩, ⟨.string bRound, fnV 3, 3⟩, ⟨.string bFair, fnV 4, 4⟩]
def lnkMap : Obj := .map lnkEs 5
theorem set_last (w : World) (o o' : Obj) : ({ (w.alloc o) with heap := (w.alloc o).heap.setIfInBounds w.heap.size o' } : World) = w.alloc o' := by
  unfold World.alloc
  simp only [World.mk.injEq, and_true, true_and]
  refine Array.ext_getElem? fun i => ?_
  rw [Array.getElem?_setIfInBounds, Array.getElem?_push, Array.getElem?_push]
  by_cases hi : w.heap.size = i
  · subst hi
    simp
  · rw [if_neg hi, if_neg (fun e => hi e.symm), if_neg (fun e => hi e.symm)]
theorem ins_last (w : World) (es : Array MapEntry) (clock : Nat) (K : ByteArray) (V : Value) (hf : Instr.findNow .string (.string K) es.toList 0 = some none) :
    (Instr.mapUpdate 207 (.map (some w.heap.size)) (.string K) V).run Tryz.prog (w.alloc (.map es clock)) = .ok () (w.alloc (.map (es.push ⟨.string K, V, clock⟩) (clock + 1))) := by
  have hb := heap_alloc_new w (.map es clock)
  have hc : (Instr.checkKey false 10000 9 (.string K)).run Tryz.prog (w.alloc (.map es clock)) = .ok () (w.alloc (.map es clock)) := MapKept.run_checkKey (d := .string) Tryz.underlying9 (by trivial) false 9999
  have hk : (Instr.findKey 9 (.string K) es.toList).run Tryz.prog (w.alloc (.map es clock)) = .ok none (w.alloc (.map es clock)) := MapKept.run_findKey (d := .string) Tryz.underlying9 hf
  simp only [Instr.mapUpdate, Sem.run_bind, run_underlying Tryz.underlying207, MapKept.run_getObj_map hb, hc, hk, MapKept.run_setObj_map _ hb, Result.andThen, set_last]
set_option maxHeartbeats 1000000 in
theorem links_any (w : World) : Calls Tryz.prog 122 #[] w fun e w' => e = .returned (.map (some w.heap.size)) ∧ w' = w.alloc lnkMap := by
  have hmm := @run_makeMap Tryz.prog
  have i1 : (Instr.mapUpdate 207 (.map (some w.heap.size)) (.string ⟨#[102, 105, 102, 111]⟩) (.func (.func 145) #[] #[])).run Tryz.prog (w.alloc (.map #[] 0)) = .ok () (w.alloc (.map #[⟨.string bFifo, fnV 0, 0⟩] 1)) := ins_last w #[] 0 _ _ rfl
  have i2 : (Instr.mapUpdate 207 (.map (some w.heap.size)) (.string ⟨#[114, 97, 110, 107]⟩) (.func (.func 146) #[] #[])).run Tryz.prog (w.alloc (.map #[⟨.string bFifo, fnV 0, 0⟩] 1)) = .ok () (w.alloc (.map #[⟨.string bFifo, fnV 0, 0⟩, ⟨.string bRank, fnV 1, 1⟩] 2)) := ins_last w _ 1 _ _ (by kernel_rfl)
  have i3 : (Instr.mapUpdate 207 (.map (some w.heap.size)) (.string ⟨#[100, 117, 101]⟩) (.func (.func 147) #[] #[])).run Tryz.prog (w.alloc (.map #[⟨.string bFifo, fnV 0, 0⟩, ⟨.string bRank, fnV 1, 1⟩] 2)) = .ok () (w.alloc (.map #[⟨.string bFifo, fnV 0, 0⟩, ⟨.string bRank, fnV 1, 1⟩, ⟨.string bDue, fnV 2, 2⟩] 3)) := ins_last w _ 2 _ _ (by kernel_rfl)
  have i4 : (Instr.mapUpdate 207 (.map (some w.heap.size)) (.string ⟨#[114, 111, 117, 110, 100]⟩) (.func (.func 148) #[] #[])).run Tryz.prog (w.alloc (.map #[⟨.string bFifo, fnV 0, 0⟩, ⟨.string bRank, fnV 1, 1⟩, ⟨.string bDue, fnV 2, 2⟩] 3)) = .ok () (w.alloc (.map #[⟨.string bFifo, fnV 0, 0⟩, ⟨.string bRank, fnV 1, 1⟩, ⟨.string bDue, fnV 2, 2⟩, ⟨.string bRound, fnV 3, 3⟩] 4)) := ins_last w _ 3 _ _ (by kernel_rfl)
  have i5 : (Instr.mapUpdate 207 (.map (some w.heap.size)) (.string ⟨#[102, 97, 105, 114]⟩) (.func (.func 149) #[] #[])).run Tryz.prog (w.alloc (.map #[⟨.string bFifo, fnV 0, 0⟩, ⟨.string bRank, fnV 1, 1⟩, ⟨.string bDue, fnV 2, 2⟩, ⟨.string bRound, fnV 3, 3⟩] 4)) = .ok () (w.alloc lnkMap) := ins_last w _ 4 _ _ (by kernel_rfl)
  go_enter Tryz.func122, Tryz.ntmps122
  go_wp2_with fail
  go_ret
  exact ⟨rfl, rfl⟩
theorem now_kind (K : ByteArray) (h : kindN K < 5) : ∃ i, Instr.findNow .string (.string K) lnkEs.toList 0 = some (some (i, fnV (kindN K))) := by
  by_cases h0 : K = bFifo
  · subst h0; exact ⟨0, by kernel_rfl⟩
  by_cases h1 : K = bRank
  · subst h1; exact ⟨1, by kernel_rfl⟩
  by_cases h2 : K = bDue
  · subst h2; exact ⟨2, by kernel_rfl⟩
  by_cases h3 : K = bRound
  · subst h3; exact ⟨3, by kernel_rfl⟩
  by_cases h4 : K = bFair
  · subst h4; exact ⟨4, by kernel_rfl⟩
  exfalso
  unfold kindN at h
  rw [if_neg h0, if_neg h1, if_neg h2, if_neg h3, if_neg h4] at h
  omega
theorem ba_ne {a b : ByteArray} (h : a ≠ b) : (a == b) = false := by
  cases e : (a == b)
  · rfl
  · exact absurd ((MapKept.bytes_beq a b).1 e) h
theorem now_none (K : ByteArray) (h : kindN K = 5) : Instr.findNow .string (.string K) lnkEs.toList 0 = some none := by
  have h0 : K ≠ bFifo := fun e => by subst e; revert h; decide
  have h1 : K ≠ bRank := fun e => by subst e; revert h; decide
  have h2 : K ≠ bDue := fun e => by subst e; revert h; decide
  have h3 : K ≠ bRound := fun e => by subst e; revert h; decide
  have h4 : K ≠ bFair := fun e => by subst e; revert h; decide
  simp [lnkEs, Instr.findNow, Instr.sameNow, ba_ne h0, ba_ne h1, ba_ne h2, ba_ne h3, ba_ne h4]
theorem look_kind (W : World) (b : Nat) (K : ByteArray) (c : Bool) (hb : W.heap[b]? = some lnkMap) (h : kindN K < 5) : (Instr.lookup 207 (.map (some b)) (.string K) c).run Tryz.prog W = .ok (if c then .tuple #[fnV (kindN K), .bool true] else fnV (kindN K)) W := by
  obtain ⟨i, hi⟩ := now_kind K h
  have hc : (Instr.checkKey (lnkEs.isEmpty) 10000 9 (.string K)).run Tryz.prog W = .ok () W := MapKept.run_checkKey (d := .string) Tryz.underlying9 (by trivial) _ 9999
  have hk : (Instr.findKey 9 (.string K) lnkEs.toList).run Tryz.prog W = .ok (some (i, fnV (kindN K))) W := MapKept.run_findKey (d := .string) Tryz.underlying9 hi
  simp only [Instr.lookup, Sem.run_bind, Sem.run_pure, run_underlying Tryz.underlying207, MapKept.run_getObj_map (show W.heap[b]? = some (.map lnkEs 5) from hb), hc, hk, Result.andThen]
theorem look_no (W : World) (b : Nat) (K : ByteArray) (c : Bool) (hb : W.heap[b]? = some lnkMap) (h : kindN K = 5) (z : Value) (hz : (zeroValue 205).run Tryz.prog W = .ok z W) : (Instr.lookup 207 (.map (some b)) (.string K) c).run Tryz.prog W = .ok (if c then .tuple #[z, .bool false] else z) W := by
  have hc : (Instr.checkKey (lnkEs.isEmpty) 10000 9 (.string K)).run Tryz.prog W = .ok () W := MapKept.run_checkKey (d := .string) Tryz.underlying9 (by trivial) _ 9999
  have hk : (Instr.findKey 9 (.string K) lnkEs.toList).run Tryz.prog W = .ok none W := MapKept.run_findKey (d := .string) Tryz.underlying9 (now_none K h)
  simp only [Instr.lookup, Sem.run_bind, Sem.run_pure, run_underlying Tryz.underlying207, MapKept.run_getObj_map (show W.heap[b]? = some (.map lnkEs 5) from hb), hc, hk, hz, Result.andThen]
end Go.Proofs.YtoomffajodheaaaGreatDoor
namespace Go.Proofs.YtoomffajodheaaaGreatDoor
open Go.RowKit
set_option maxRecDepth 100000
/-- The sentinels that a gate names lie in their variables; errors.errorType holds the type error. -/
structure GS (w : World) (B : Nat) (S : Nat → Addr) : Prop where
  s : Snt w B S [2, 3, 4, 5, 9]
  gB : 9 < B
  g : w.cell? ⟨9, 0, none⟩ = some (.iface 170 (.agg #[.pointer (some ⟨23, 34, none⟩)]))
theorem GS.below {w w' : World} {B : Nat} {S : Nat → Addr} (h : GS w B S) (hb : Below B w w') : GS w' B S := ⟨h.s.below hb, h.gB, (hb.cell (p := ⟨9, 0, none⟩) h.gB).trans h.g⟩
theorem GS.more {w : World} {B B' : Nat} {S : Nat → Addr} (h : GS w B S) (hB : B ≤ B') : GS w B' S := ⟨h.s.more hB, Nat.lt_of_lt_of_le h.gB hB, h.g⟩
theorem All9.gs {w : World} {B : Nat} {S : Nat → Addr} (h : All9 w B S) : GS w B S := ⟨h.s.sub (by simp), h.gB, h.g⟩
/-- From w to w' block g alone has changed, of those that were there. -/
structure But (g : Nat) (w w' : World) : Prop where
  os : w'.os = w.os
  tape : w'.tape = w.tape
  output : w'.output = w.output
  size : w.heap.size ≤ w'.heap.size
  blk : ∀ k, k < w.heap.size → k ≠ g → w'.heap[k]? = w.heap[k]?
section
variable {g : Nat} {w w' w2 : World}
theorem But.refl (g : Nat) (w : World) : But g w w := ⟨rfl, rfl, rfl, Nat.le_refl _, fun _ _ _ => rfl⟩
theorem But.trans (h : But g w w') (k : But g w' w2) : But g w w2 := ⟨k.os.trans h.os, k.tape.trans h.tape, k.output.trans h.output, Nat.le_trans h.size k.size, fun i hi hg => (k.blk i (Nat.lt_of_lt_of_le hi h.size) hg).trans (h.blk i hi hg)⟩
theorem But.of_below (h : Below w.heap.size w w') : But g w w' := ⟨h.os, h.tape, h.output, h.size, fun k hk _ => h.block k hk⟩
theorem But.below {B : Nat} (h : But g w w') (hg : B ≤ g) (hB : B ≤ w.heap.size) : Below B w w' := ⟨h.os, h.tape, h.output, h.size, fun k hk => h.blk k (by omega) (by omega)⟩
theorem But.set_ (h : But g w w') (i : Nat) (u : Value) : But g w (w'.setCell ⟨g, i, none⟩ u) := ⟨h.os, h.tape, h.output, by rw [setCell_size]; exact h.size, fun k hk hg => (Below.heap_setCell w' ⟨g, i, none⟩ u k hg).trans (h.blk k hk hg)⟩
theorem But.drewN (h : But g w w') (m : Nat) : But g w (w'.drewN m) := ⟨h.os, h.tape, h.output, h.size, h.blk⟩
theorem But.of_only (h : OnlyG g w w') : But g w w' := ⟨h.bel.os, h.bel.tape, h.bel.output, h.bel.size, fun k _ hg => h.blk k hg⟩
theorem Blk.but {b : Nat} {t : TypeId} {cs : Array Value} (h : Blk w b t cs) (hb : But g w w') (hg : b ≠ g) : Blk w' b t cs := h.same (hb.blk b h.lt hg)
theorem Arw.but {b n : Nat} {T : TypeId} {d : Nat → Value} (h : Arw w b T n d) (hb : But g w w') (hg : b ≠ g) : Arw w' b T n d := h.same (hb.blk b h.lt hg)
end
/-- A slice of slices of lines. -/
def RdLL (w : World) (B : Nat) (A : Option Addr) (cs : List (List Ln)) : Prop := ∀ i (h : i < cs.length), ∃ b o a c, A = some ⟨b, o, none⟩ ∧ b < B ∧ w.cell? ⟨b, o + i, none⟩ = some (.slice a cs[i].length c) ∧ RdL w B a cs[i]
section
variable {w w' : World} {B B' : Nat} {A : Option Addr} {cs : List (List Ln)}
theorem RdLL.below (h : RdLL w B A cs) (hb : Below B w w') : RdLL w' B A cs := fun i hi => by
  obtain ⟨b, o, a, c, e, h1, h2, h3⟩ := h i hi
  exact ⟨b, o, a, c, e, h1, (hb.cell (p := ⟨b, o + i, none⟩) h1).trans h2, h3.below hb⟩
theorem RdLL.more (h : RdLL w B A cs) (hB : B ≤ B') : RdLL w B' A cs := fun i hi => by
  obtain ⟨b, o, a, c, e, h1, h2, h3⟩ := h i hi
  exact ⟨b, o, a, c, e, by omega, h2, h3.more hB⟩
end
/-- The first wrong curve: its error, its place. -/
def csBad : List (List Ln) → Nat → Nat × Int
  | [], _ => (0, -1)
  | l :: r, i => if l.length = 0 then csBad r (i + 1) else if (crvErr l).1 ≠ 0 then ((crvErr l).1, (i : Int)) else csBad r (i + 1)
theorem csBad_ok {cs : List (List Ln)} {i : Nat} (h : (csBad cs i).1 = 0) : CsOk cs ∧ csBad cs i = (0, -1) := by
  induction cs generalizing i with
  | nil => exact ⟨fun l hl => (by cases hl), rfl⟩
  | cons l r ih =>
    unfold csBad at h ⊢
    by_cases h0 : l.length = 0
    · rw [if_pos h0] at h ⊢
      obtain ⟨i1, i2⟩ := ih h
      refine ⟨fun x hx => ?_, i2⟩
      rcases List.mem_cons.1 hx with rfl | hx
      · exact .inl (List.length_eq_zero_iff.1 h0)
      · exact i1 x hx
    · rw [if_neg h0] at h ⊢
      by_cases h1 : (crvErr l).1 ≠ 0
      · rw [if_pos h1] at h
        exact absurd h h1
      · rw [if_neg h1] at h ⊢
        obtain ⟨i1, i2⟩ := ih h
        refine ⟨fun x hx => ?_, i2⟩
        rcases List.mem_cons.1 hx with rfl | hx
        · exact .inr (by omega)
        · exact i1 x hx
/-- The error of a gate. -/
def gateErr (cs : List (List Ln)) (n : Nat) (per : Int) (ns : List Int) : Nat × Int :=
  if cs.length = 8 then (if (csBad cs 0).1 ≠ 0 then csBad cs 0 else linkErr n [] per ns) else (3, -1)
theorem gateErr_ok {cs : List (List Ln)} {n : Nat} {per : Int} {ns : List Int} (h : (gateErr cs n per ns).1 = 0) : cs.length = 8 ∧ CsOk cs ∧ (linkErr n [] per ns).1 = 0 ∧ gateErr cs n per ns = (0, -1) := by
  unfold gateErr at h ⊢
  by_cases h8 : cs.length = 8
  · rw [if_pos h8] at h ⊢
    by_cases h1 : (csBad cs 0).1 ≠ 0
    · rw [if_pos h1] at h; exact absurd h h1
    · rw [if_neg h1] at h ⊢
      exact ⟨h8, (csBad_ok (i := 0) (by omega)).1, h, Prod.ext h link_snd⟩
  · rw [if_neg h8] at h; simp at h
set_option maxHeartbeats 1000000 in
/-- An error's own error. -/
theorem errBare_any (v : Value) (k : Nat) (a : Int) (S : Nat → Addr) (w : World) (B : Nat) (hB : B ≤ w.heap.size) (h : GS w B S) (hv : Er w w.heap.size S v k a) (hk0 : k ≠ 0) :
    Calls Tryz.prog 24 #[v] w fun e w' => e = .returned (sv S k) ∧ 1 ≤ k ∧ k ≤ 9 ∧ Below w.heap.size w w' := by
  cases hv with
  | nil => omega
  | bare k h1 h9 =>
    show Calls Tryz.prog _ #[.iface 242 (.pointer (some (S k)))] w _
    have HE := Lib.hid (show sv S k = .iface 242 (.pointer (some (S k))) from rfl)
    go_enter Tryz.func24, Tryz.ntmps24
    go_wp2_with fail
    refine (as_miss (S k) w.heap.size _ ((h.below ((Below.refl _ _).alloc hB _)).g)).mono ?_
    rintro e w1 ⟨rfl, k1⟩
    have kk : Below w.heap.size w w1 := ((Below.refl _ _).alloc (Nat.le_refl _) _).trans (k1.mono (by simp))
    clear h
    go_wp2_with fail
    go_ret
    rw [HE.out]
    exact ⟨rfl, h1, h9, kk⟩
  | fault k h1 h9 b a hb hk =>
    go_enter Tryz.func24, Tryz.ntmps24
    go_wp2_with fail
    refine (as_hit ⟨b, 0, none⟩ w.heap.size (.pointer none) _ ((h.below ((Below.refl _ _).alloc hB _)).g) (Blk.new _ _ _)).mono ?_
    rintro e w1 ⟨rfl, hb4, k1⟩
    have k1' := k1 w.heap.size (Nat.le_refl _)
    have kk : Below w.heap.size w w1 := ((Below.refl _ _).alloc (Nat.le_refl _) _).trans k1'
    have p1 : w1.cell? ⟨w.heap.size, 0, none⟩ = some (.pointer (some ⟨b, 0, none⟩)) := hb4.cell 0
    have hf : Blk w b 99 #[.int .i64 a, sv S k] := hk
    have p2 : w1.cell? ⟨b, 1, none⟩ = some (sv S k) := (hf.below kk hf.lt).cell 1
    clear hb4 k1 k1' hf hk h
    simp only [sv] at p2
    go_wp2_with fail
    go_ret
    exact ⟨rfl, h1, h9, kk⟩
set_option maxHeartbeats 1000000 in
/-- A fault's place. -/
theorem place_any (v : Value) (k : Nat) (a : Int) (S : Nat → Addr) (w : World) (B : Nat) (hB : B ≤ w.heap.size) (h : GS w B S) (hv : Er w w.heap.size S v k a) (ha : 0 ≤ a) :
    Calls Tryz.prog 125 #[v] w fun e w' => e = .returned (.int .i64 a) ∧ Below w.heap.size w w' := by
  cases hv with
  | nil => omega
  | bare k h1 h9 => omega
  | fault k h1 h9 b a hb hk =>
    go_enter Tryz.func125, Tryz.ntmps125
    go_wp2_with fail
    refine (as_hit ⟨b, 0, none⟩ w.heap.size (.pointer none) _ ((h.below ((Below.refl _ _).alloc hB _)).g) (Blk.new _ _ _)).mono ?_
    rintro e w1 ⟨rfl, hb4, k1⟩
    have k1' := k1 w.heap.size (Nat.le_refl _)
    have kk : Below w.heap.size w w1 := ((Below.refl _ _).alloc (Nat.le_refl _) _).trans k1'
    have p1 : w1.cell? ⟨w.heap.size, 0, none⟩ = some (.pointer (some ⟨b, 0, none⟩)) := hb4.cell 0
    have hf : Blk w b 99 #[.int .i64 a, sv S k] := hk
    have p2 : w1.cell? ⟨b, 0, none⟩ = some (.int .i64 a) := (hf.below kk hf.lt).cell 0
    clear hb4 k1 k1' hf hk h
    go_wp2_with fail
    go_ret
    exact ⟨rfl, kk⟩
/-- A kind's function has a body: it is entered. -/
theorem fn_enter (n : Nat) (hn : n < 5) (args : Array Value) (w : World) : (callFunc (fnOf n) args).run Tryz.prog w = .ok (.enter (fnOf n) args) w := by
  match n, hn with
  | 0, _ => show (callFunc 145 args).run Tryz.prog w = .ok (.enter 145 args) w; kernel_rfl
  | 1, _ => show (callFunc 146 args).run Tryz.prog w = .ok (.enter 146 args) w; kernel_rfl
  | 2, _ => show (callFunc 147 args).run Tryz.prog w = .ok (.enter 147 args) w; kernel_rfl
  | 3, _ => show (callFunc 148 args).run Tryz.prog w = .ok (.enter 148 args) w; kernel_rfl
  | 4, _ => show (callFunc 149 args).run Tryz.prog w = .ok (.enter 149 args) w; kernel_rfl
  | n + 5, hn => exact absurd hn (by omega)
section
variable (A A' : Option Addr) (c c' : Nat) (p : List Pk) (per : Int) (ns : List Int) (S : Nat → Addr) (w : World) (B : Nat) (hB : B ≤ w.heap.size) (h : RdP w B A p) (h' : RdI w B A' ns) (hS : Snt w B S [2, 3, 5]) (hl : p.length ≤ 9223372036854775807) (hl' : ns.length ≤ 9223372036854775807)
include hB h h' hS hl hl'
omit h' in
set_option maxHeartbeats 1000000 in
theorem plain_any : Calls Tryz.prog 145 #[.slice A p.length c, .int .i64 per, .slice A' ns.length c'] w (EndOwnEr Sn.cs 3 64 (linkV 0 p per ns) S (linkErr 0 p per ns).1 (linkErr 0 p per ns).2 w) := by
  by_cases h1 : (lookErr p per).1 = 0
  · obtain ⟨hf, -⟩ := lookErr_ok h1
    by_cases h2 : 0 < ns.length
    · have He := Lib.hid (show linkErr 0 p per ns = (3, -1) by show (if (lookErr p per).1 ≠ 0 then lookErr p per else if 0 < ns.length then (3, -1) else (0, -1) : Nat × Int) = _; rw [if_neg (by omega), if_pos h2])
      have Hv := Lib.hid (show linkV 0 p per ns = [] from linkV_bad (by rw [He.out]; simp))
      have H1 := Lib.hid h1
      have u1 : (0 : Int) < (ns.length : Int) := by omega
      clear h1 hf
      go_enter Tryz.func145, Tryz.ntmps145
      go_wp2_with fail
      refine (fifoRun_ok A c p per S w B hB h (hS.sub (by simp)) hl H1.out).mono ?_
      rintro e w1 ⟨A1, c1, v, rfl, o1, hv, k1⟩
      obtain rfl := hv.nil_of H1.out
      have g3 : w1.cell? ⟨G 3, 0, none⟩ = some (sv S 3) := ((hS.below (k1.mono hB)) 3 (by simp)).2.2
      simp only [G, sv] at g3
      clear o1 hv
      go_wp2_with fail
      go_region
      all_goals
        go_wp2_with fail
        go_ret2
        rw [Hv.out, He.out]
        exact ⟨none, 0, _, rfl, ⟨by simp, .inl ⟨rfl, rfl⟩⟩, .bare 3 (by omega) (by omega), k1.drew⟩
    · have He := Lib.hid (show linkErr 0 p per ns = (0, -1) by show (if (lookErr p per).1 ≠ 0 then lookErr p per else if 0 < ns.length then (3, -1) else (0, -1) : Nat × Int) = _; rw [if_neg (by omega), if_neg h2])
      have Hv := Lib.hid (show linkV 0 p per ns = fifoL p per from if_pos (by rw [He.out]))
      have H1 := Lib.hid h1
      have u1 : ¬ (0 : Int) < (ns.length : Int) := by omega
      clear h1 hf h2
      go_enter Tryz.func145, Tryz.ntmps145
      go_wp2_with fail
      refine (fifoRun_ok A c p per S w B hB h (hS.sub (by simp)) hl H1.out).mono ?_
      rintro e w1 ⟨A1, c1, v, rfl, o1, hv, k1⟩
      obtain rfl := hv.nil_of H1.out
      have O1 := Lib.hid o1
      clear o1 hv
      go_wp2_with fail
      go_ret2
      rw [Hv.out, He.out]
      exact ⟨A1, c1, _, rfl, O1.out, .nil, k1⟩
  · have He := Lib.hid (show linkErr 0 p per ns = lookErr p per by show (if (lookErr p per).1 ≠ 0 then lookErr p per else if 0 < ns.length then (3, -1) else (0, -1) : Nat × Int) = _; rw [if_pos h1])
    have Hv := Lib.hid (show linkV 0 p per ns = [] from linkV_bad (by rw [He.out]; exact h1))
    have H1 := Lib.hid h1
    clear h1
    go_enter Tryz.func145, Tryz.ntmps145
    go_wp2_with fail
    refine (fifoRun_bad A c p per S w B hB h (hS.sub (by simp)) hl H1.out).mono ?_
    rintro e w1 ⟨A1, c1, v, rfl, o1, hv, k1⟩
    have HV := Lib.hid hv
    have O1 := Lib.hid o1
    obtain ⟨T, a, rfl⟩ := hv.some_of H1.out
    clear hv o1
    go_wp2_with fail
    go_ret2
    rw [Hv.out, He.out]
    exact ⟨A1, c1, _, rfl, O1.out, HV.out, k1⟩
theorem linkRun_any (n : Nat) (hn : n < 5) : Calls Tryz.prog (fnOf n) #[.slice A p.length c, .int .i64 per, .slice A' ns.length c'] w (EndOwnEr Sn.cs 3 64 (linkV n p per ns) S (linkErr n p per ns).1 (linkErr n p per ns).2 w) := by
  match n, hn with
  | 0, _ => exact plain_any A A' c c' p per ns S w B hB h hS hl hl'
  | 1, _ => exact rankV_any A A' c c' p per ns S w B hB h h' hS hl hl'
  | 2, _ => exact dueV_any A A' c c' p per ns S w B hB h h' hS hl hl'
  | 3, _ => exact roundV_any A A' c c' p per ns S w B hB h h' hS hl hl'
  | 4, _ => exact fairRun_any (A := A) (A' := A') (c := c) (c' := c') (p := p) (per := per) (ws := ns) (S := S) (w := w) B hB h h' hS hl hl'
  | n + 5, hn => exact absurd hn (by omega)
end
end Go.Proofs.YtoomffajodheaaaGreatDoor
namespace Go.Proofs.YtoomffajodheaaaGreatDoor
open Go.RowKit
set_option maxRecDepth 100000
theorem csBad_step {cs : List (List Ln)} {k : Nat} (hk : k < cs.length) : csBad (cs.drop k) k = if cs[k].length = 0 then csBad (cs.drop (k + 1)) (k + 1) else if (crvErr cs[k]).1 ≠ 0 then ((crvErr cs[k]).1, (k : Int)) else csBad (cs.drop (k + 1)) (k + 1) := by
  rw [List.drop_eq_getElem_cons hk]
  rfl
def zLink : Value := .nilFunc
theorem zLink_run (w : World) : (zeroValue 205).run Tryz.prog w = .ok zLink w := by kernel_rfl
section
variable (Ac An : Option Addr) (cc cn : Nat) (cs : List (List Ln)) (K : ByteArray) (per : Int) (ns : List Int) (S : Nat → Addr) (w : World) (B : Nat) (hB : B ≤ w.heap.size) (h : RdLL w B Ac cs) (h' : RdI w B An ns) (hS : GS w B S) (hl : ∀ l ∈ cs, l.length ≤ 9223372036854775807) (hl' : ns.length ≤ 9223372036854775807)
include hB h h' hS hl hl'
set_option maxHeartbeats 4000000 in
theorem gcheck_any : Calls Tryz.prog 93 #[.agg #[.slice Ac cs.length cc, .string K, .int .i64 per, .slice An ns.length cn]] w (EndEr S (gateErr cs (kindN K) per ns).1 (gateErr cs (kindN K) per ns).2 w) := by
  by_cases h8 : cs.length = 8
  · have He := Lib.hid (show gateErr cs (kindN K) per ns = (if (csBad cs 0).1 ≠ 0 then csBad cs 0 else linkErr (kindN K) [] per ns) from if_pos h8)
    have b0 : Below w.heap.size w (w.alloc (.cells #[.slice Ac cs.length cc, .string K, .int .i64 per, .slice An ns.length cn] 66)) := (Below.refl _ _).alloc (Nat.le_refl _) _
    have x0 : Blk (w.alloc (.cells #[.slice Ac cs.length cc, .string K, .int .i64 per, .slice An ns.length cn] 66)) w.heap.size 66 #[.slice Ac cs.length cc, .string K, .int .i64 per, .slice An ns.length cn] := Blk.new _ _ _
    rw [h8] at b0 x0
    have H8 := Lib.hid h8
    rw [h8]
    have X0 := Lib.hid x0
    have B0 := Lib.hid b0
    clear h8 x0 b0
    go_enter Tryz.func93, Tryz.ntmps93
    go_wp2_with fail
    go_loopw [18] (fun iv wr => ∃ k : Nat, k ≤ 8 ∧ iv = .int .i64 k ∧ csBad cs 0 = csBad (cs.drop k) k ∧ Below w.heap.size w wr ∧ Blk wr w.heap.size 66 #[.slice Ac 8 cc, .string K, .int .i64 per, .slice An ns.length cn]) (fun iv _ => 8 - (intOf iv).toNat)
    case atStart => exact ⟨0, Nat.zero_le _, rfl, rfl, B0.out, X0.out⟩
    case round =>
      obtain ⟨k, hk, rfl, hbad, hbw, hx⟩ := hrel
      have zw := hbw.size
      have hzl := hx.lt
      have HX := Lib.hid hx
      have HB := Lib.hid hbad
      clear hx hbad X0 B0
      by_cases hlt : k < 8
      · have hkl : k < cs.length := by rw [H8.out]; exact hlt
        obtain ⟨b, o, a, c, rfl, hb, d0, hrd⟩ := (h.below (hbw.mono hB)) k hkl
        have hst := csBad_step hkl
        have hll := hl _ (List.getElem_mem hkl)
        obtain ⟨l, hle⟩ : ∃ l, l = cs[k] := ⟨_, rfl⟩
        rw [← hle] at d0 hrd hst hll
        have HS := Lib.hid hst
        have HR := Lib.hid hrd
        have u1 : (0 : Int) ≤ (k : Int) := by omega
        have u2 : (k : Int) < 8 := by omega
        clear hst hle hrd
        by_cases h0 : l.length = 0
        · have HN := Lib.hid (show csBad cs 0 = csBad (cs.drop (k + 1)) (k + 1) by rw [HB.out, HS.out, if_pos h0])
          rw [h0] at d0
          clear h0
          go_wp2_with fail
          go_roundw
          case rel => exact ⟨k + 1, hlt, by go_num, HN.out, hbw, HX.out⟩
          case measure => simp [intOf]; omega
        · have u3 : ((l.length : Int) == 0) = false := by rw [beq_eq_false_iff_ne]; omega
          by_cases h1 : (crvErr l).1 ≠ 0
          · have HN := Lib.hid (show csBad cs 0 = ((crvErr l).1, (k : Int)) by rw [HB.out, HS.out, if_neg h0, if_pos h1])
            have H1 := Lib.hid h1
            clear h0 h1
            go_wp2_with fail
            refine (check_any a c l S _ B (Nat.le_trans hB zw) HR.out ((hS.s.below (hbw.mono hB)).sub (by simp)) hll).mono ?_
            rintro e w1 ⟨v, rfl, hv, k1⟩
            have HV := Lib.hid hv
            obtain ⟨T, ad, rfl⟩ := hv.some_of H1.out
            have k1' := hbw.trans (k1.mono zw)
            clear hv d0
            go_wp2_with fail
            refine (errBare_any _ _ _ S w1 B (Nat.le_trans hB k1'.size) (hS.below (k1'.mono hB)) HV.out H1.out).mono ?_
            rintro e w2 ⟨rfl, q1, q9, k2⟩
            have k2' := k1'.trans (k2.mono k1'.size)
            obtain ⟨ad2, had2⟩ : ∃ ad2, ad2 = S (crvErr l).1 := ⟨_, rfl⟩
            have HAD := Lib.hid (show sv S (crvErr l).1 = .iface 242 (.pointer (some ad2)) by rw [had2]; rfl)
            rw [HAD.out]
            clear had2
            go_wp2_with fail
            go_ret
            rw [He.out, HN.out]
            rw [if_pos H1.out]
            exact ⟨_, rfl, .fault _ q1 q9 _ _ (by simp) (by rw [HAD.out]; exact heap_alloc_new _ _), k2'.alloc k2'.size _⟩
          · have HN := Lib.hid (show csBad cs 0 = csBad (cs.drop (k + 1)) (k + 1) by rw [HB.out, HS.out, if_neg h0, if_neg h1])
            have H1 := Lib.hid (show (crvErr l).1 = 0 by omega)
            clear h0 h1
            go_wp2_with fail
            refine (check_any a c l S _ B (Nat.le_trans hB zw) HR.out ((hS.s.below (hbw.mono hB)).sub (by simp)) hll).mono ?_
            rintro e w1 ⟨v, rfl, hv, k1⟩
            obtain rfl := hv.nil_of H1.out
            have k1' := hbw.trans (k1.mono zw)
            have hx1 := HX.out.below k1 hzl
            clear hv d0
            go_wp2_with fail
            go_roundw
            case rel => exact ⟨k + 1, hlt, by go_num, HN.out, k1', hx1⟩
            case measure => simp [intOf]; omega
      · have HE := Lib.hid (show gateErr cs (kindN K) per ns = linkErr (kindN K) [] per ns by
          rw [He.out, HB.out, List.drop_eq_nil_of_le (by rw [H8.out]; omega)]
          exact if_neg (by simp [csBad]))
        have e1 := HX.out.cell 1
        have e2 := HX.out.cell 2
        have e3 := HX.out.cell 3
        simp at e1 e2 e3
        have g9 : ∀ v : World, Below wr.heap.size wr v → v.cell? ⟨G 9, 0, none⟩ = some (sv S 9) := fun v hv => ((hS.s.below ((hbw.trans (hv.mono zw)).mono hB)) 9 (by simp)).2.2
        have Hg9 := Lib.hid g9
        obtain ⟨gb, hgb⟩ : ∃ gb, gb = w.heap.size := ⟨_, rfl⟩
        have Hgb := Lib.hid hgb
        rw [← hgb] at e1 e2 e3 hzl ⊢
        clear HB He g9 hk hgb
        by_cases hn : kindN K < 5
        · have HL := Lib.hid (linkRun_any none An 0 cn [] per ns S)
          obtain ⟨F, hF⟩ : ∃ F, F = fnOf (kindN K) := ⟨_, rfl⟩
          have HF := Lib.hid hF
          have hce : ∀ args w, (callFunc F args).run Tryz.prog w = .ok (.enter F args) w := fun args w => by rw [hF]; exact fn_enter _ hn args w
          clear hF
          go_wp2_with fail
          go_region_held3 (fun w' => w'.cell? ⟨gb, 1, none⟩ = some (.string K))
            (first
              | go_keep
              | exact (k6.cell (p := ⟨gb, 1, none⟩) hzl).trans e1)
            (first
             | (go_at_call 122; refine (links_any _).mono ?_; rintro e w6 ⟨rfl, hw6⟩; have hb6 : w6.heap[wr.heap.size]? = some lnkMap := by { rw [hw6]; exact heap_alloc_new _ _ }; have k6 : Below wr.heap.size wr w6 := by { rw [hw6]; exact ((Below.refl _ _).drew).alloc (Nat.le_refl _) _ }; have hlk : (Instr.lookup 207 (.map (some wr.heap.size)) (.string K) true).run Tryz.prog w6 = .ok (.tuple #[.func (.func F) #[] #[], .bool true]) w6 := by { rw [HF.out]; exact look_kind w6 _ K true hb6 hn }; clear hw6))
          all_goals
            have k6' := hbw.trans (k6.mono zw)
            clear hb6 hlk e1 hlt
            have f2 := (k6.cell (p := ⟨gb, 2, none⟩) hzl).trans e2
            have f3 := (k6.cell (p := ⟨gb, 3, none⟩) hzl).trans e3
            clear e2 e3 Hg9
            go_wp2_with fail
            refine (show Calls Tryz.prog F #[.slice none 0 0, .int .i64 per, .slice An ns.length cn] _ (EndOwnEr Sn.cs 3 64 (linkV (kindN K) [] per ns) S (linkErr (kindN K) [] per ns).1 (linkErr (kindN K) [] per ns).2 _) by rw [HF.out]; exact HL.out _ B (Nat.le_trans hB k6'.size) Rd.nil_ (h'.below (k6'.mono hB)) ((hS.s.below (k6'.mono hB)).sub (by simp)) (by simp) hl' _ hn).mono ?_
            rintro e w7 ⟨A7, c7, v, rfl, -, hv, k7⟩
            have HV := Lib.hid hv
            clear hv
            go_wp2_with fail
            go_ret
            rw [HE.out]
            exact ⟨v, rfl, HV.out, k6'.trans (k7.mono k6'.size)⟩
        · have hn5 : kindN K = 5 := by have := kindN_le K; omega
          obtain ⟨z, hz⟩ : ∃ z, ∀ w : World, (zeroValue 205).run Tryz.prog w = .ok z w := ⟨zLink, zLink_run⟩
          have HZ := Lib.hid hz
          have H5 := Lib.hid hn5
          clear hz hn
          go_wp2_with fail
          go_region_held3 (fun w' => w'.cell? ⟨gb, 1, none⟩ = some (.string K))
            (first
              | go_keep
              | exact (k6.cell (p := ⟨gb, 1, none⟩) hzl).trans e1)
            (first
             | (go_at_call 122; refine (links_any _).mono ?_; rintro e w6 ⟨rfl, hw6⟩; have hb6 : w6.heap[wr.heap.size]? = some lnkMap := by { rw [hw6]; exact heap_alloc_new _ _ }; have k6 : Below wr.heap.size wr w6 := by { rw [hw6]; exact ((Below.refl _ _).drew).alloc (Nat.le_refl _) _ }; have hlk : (Instr.lookup 207 (.map (some wr.heap.size)) (.string K) true).run Tryz.prog w6 = .ok (.tuple #[z, .bool false]) w6 := look_no w6 _ K true hb6 H5.out z (HZ.out _); clear hw6))
          all_goals
            have k6' := hbw.trans (k6.mono zw)
            have g9 := Hg9.out w6 k6
            have l9 := World.block_lt_of_cell? w6 _ g9
            simp only [G, sv] at g9 l9
            clear hb6 hlk e1 hlt e2 e3 Hg9
            go_wp2_with fail
            go_ret
            rw [HE.out, H5.out]
            exact ⟨_, rfl, .bare 9 (by omega) (by omega), k6'⟩
  · have He := Lib.hid (show gateErr cs (kindN K) per ns = (3, -1) from if_neg h8)
    have g3 : w.cell? ⟨G 3, 0, none⟩ = some (sv S 3) := (hS.s 3 (by simp)).2.2
    have l3 := World.block_lt_of_cell? w _ g3
    simp only [G, sv] at g3 l3
    have h8' : ((cs.length : Int) != 8) = true := by simp; omega
    clear h8
    go_enter Tryz.func93, Tryz.ntmps93
    go_wp2
    go_ret
    rw [He.out]
    exact ⟨_, rfl, .bare 3 (by omega) (by omega), (Below.refl _ _).alloc (Nat.le_refl _) _⟩
end
end Go.Proofs.YtoomffajodheaaaGreatDoor
namespace Go.Proofs.YtoomffajodheaaaGreatDoor
open Go.RowKit
set_option maxRecDepth 100000
theorem tl_ne {a b : ByteArray} (h : a ≠ b) : (a.toList == b.data.toList) = false := by
  rw [beq_eq_false_iff_ne, ByteArray.toList_eq]
  intro e
  exact h (ByteArray.ext (Array.toList_inj.1 e))
theorem tl_eq (a : ByteArray) : (a.toList == a.data.toList) = true := by
  rw [ByteArray.toList_eq]
  exact beq_self_eq_true _
/-- The kinds, as the program asks for them. -/
theorem kind_cases (K : ByteArray) : ((K.toList == ([102, 105, 102, 111] : List UInt8)) = true ∧ (K.toList == ([114, 97, 110, 107] : List UInt8)) = false ∧ (K.toList == ([100, 117, 101] : List UInt8)) = false ∧ (K.toList == ([114, 111, 117, 110, 100] : List UInt8)) = false ∧ (K.toList == ([102, 97, 105, 114] : List UInt8)) = false ∧ kindN K = 0) ∨ ((K.toList == ([102, 105, 102, 111] : List UInt8)) = false ∧ (K.toList == ([114, 97, 110, 107] : List UInt8)) = true ∧ (K.toList == ([100, 117, 101] : List UInt8)) = false ∧ (K.toList == ([114, 111, 117, 110, 100] : List UInt8)) = false ∧ (K.toList == ([102, 97, 105, 114] : List UInt8)) = false ∧ kindN K = 1) ∨ ((K.toList == ([102, 105, 102, 111] : List UInt8)) = false ∧ (K.toList == ([114, 97, 110, 107] : List UInt8)) = false ∧ (K.toList == ([100, 117, 101] : List UInt8)) = true ∧ (K.toList == ([114, 111, 117, 110, 100] : List UInt8)) = false ∧ (K.toList == ([102, 97, 105, 114] : List UInt8)) = false ∧ kindN K = 2) ∨ ((K.toList == ([102, 105, 102, 111] : List UInt8)) = false ∧ (K.toList == ([114, 97, 110, 107] : List UInt8)) = false ∧ (K.toList == ([100, 117, 101] : List UInt8)) = false ∧ (K.toList == ([114, 111, 117, 110, 100] : List UInt8)) = true ∧ (K.toList == ([102, 97, 105, 114] : List UInt8)) = false ∧ kindN K = 3) ∨ ((K.toList == ([102, 105, 102, 111] : List UInt8)) = false ∧ (K.toList == ([114, 97, 110, 107] : List UInt8)) = false ∧ (K.toList == ([100, 117, 101] : List UInt8)) = false ∧ (K.toList == ([114, 111, 117, 110, 100] : List UInt8)) = false ∧ (K.toList == ([102, 97, 105, 114] : List UInt8)) = true ∧ kindN K = 4) ∨ ((K.toList == ([102, 105, 102, 111] : List UInt8)) = false ∧ (K.toList == ([114, 97, 110, 107] : List UInt8)) = false ∧ (K.toList == ([100, 117, 101] : List UInt8)) = false ∧ (K.toList == ([114, 111, 117, 110, 100] : List UInt8)) = false ∧ (K.toList == ([102, 97, 105, 114] : List UInt8)) = false ∧ kindN K = 5) := by
  by_cases h0 : K = bFifo
  · subst h0
    exact .inl ⟨tl_eq bFifo, tl_ne (a := bFifo) (b := bRank) (by decide), tl_ne (a := bFifo) (b := bDue) (by decide), tl_ne (a := bFifo) (b := bRound) (by decide), tl_ne (a := bFifo) (b := bFair) (by decide), by decide⟩
  by_cases h1 : K = bRank
  · subst h1
    exact .inr (.inl ⟨tl_ne (a := bRank) (b := bFifo) (by decide), tl_eq bRank, tl_ne (a := bRank) (b := bDue) (by decide), tl_ne (a := bRank) (b := bRound) (by decide), tl_ne (a := bRank) (b := bFair) (by decide), by decide⟩)
  by_cases h2 : K = bDue
  · subst h2
    exact .inr (.inr (.inl ⟨tl_ne (a := bDue) (b := bFifo) (by decide), tl_ne (a := bDue) (b := bRank) (by decide), tl_eq bDue, tl_ne (a := bDue) (b := bRound) (by decide), tl_ne (a := bDue) (b := bFair) (by decide), by decide⟩))
  by_cases h3 : K = bRound
  · subst h3
    exact .inr (.inr (.inr (.inl ⟨tl_ne (a := bRound) (b := bFifo) (by decide), tl_ne (a := bRound) (b := bRank) (by decide), tl_ne (a := bRound) (b := bDue) (by decide), tl_eq bRound, tl_ne (a := bRound) (b := bFair) (by decide), by decide⟩)))
  by_cases h4 : K = bFair
  · subst h4
    exact .inr (.inr (.inr (.inr (.inl ⟨tl_ne (a := bFair) (b := bFifo) (by decide), tl_ne (a := bFair) (b := bRank) (by decide), tl_ne (a := bFair) (b := bDue) (by decide), tl_ne (a := bFair) (b := bRound) (by decide), tl_eq bFair, by decide⟩))))
  exact .inr (.inr (.inr (.inr (.inr (⟨tl_ne h0, tl_ne h1, tl_ne h2, tl_ne h3, tl_ne h4, by unfold kindN; rw [if_neg h0, if_neg h1, if_neg h2, if_neg h3, if_neg h4]⟩)))))
end Go.Proofs.YtoomffajodheaaaGreatDoor
