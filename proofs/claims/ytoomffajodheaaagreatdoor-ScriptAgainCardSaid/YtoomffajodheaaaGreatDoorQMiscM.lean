/- The element type int in the table of types. floodgatelaw1.OwnPackets hands back new memory that reads as what came in. Condition: the list fits memory. floodgatelaw2.sends returns true; fitPackets. Condition: the sentinels that the calls name lie in their variables. Package fifo's Delays, package rank's Late. Conditions: ticks are not too great; the sentinels that they name lie in their variables. floodgateref1.SameInts: whether two lists of numbers are the same. Condition: both fit memory. -/
import Derived.Test.YtoomffajodheaaaGreatDoorProg
import Derived.KernelRfl
import Derived.Test.YtoomffajodheaaaGreatDoorQBaseM
import Derived.WalkKit
import Derived.WalkLawsBesides
import Derived.WalkSpells
import Derived.Test.YtoomffajodheaaaGreatDoorQFifoM2
import Derived.Deep.RegionLaw
import Derived.BigQuiet
import Derived.Deep.QuietTactic
set_option linter.all false
namespace Go.Proofs.YtoomffajodheaaaGreatDoor
theorem infoInt : (Tryz.prog.info? 3).map (fun i => (i.zero, i.size, i.bytes)) = some (some (.int .i64 0), 1, 8) := by kernel_rfl
end Go.Proofs.YtoomffajodheaaaGreatDoor
namespace Go.Proofs.YtoomffajodheaaaGreatDoor
open Go.RowKit
set_option maxRecDepth 100000
theorem infoPk : (Tryz.prog.info? 53).map (fun i => (i.zero, i.size, i.bytes)) = some (some (.agg #[.int .i64 0, .int .i64 0, .int .i64 0]), 3, 24) := by kernel_rfl

end Go.Proofs.YtoomffajodheaaaGreatDoor
namespace Go.Proofs.YtoomffajodheaaaGreatDoor
open Go.RowKit
set_option maxRecDepth 100000
theorem RdS.get {w : World} {B : Nat} {A : Option Addr} {l : List Sn} (h : RdS w B A l) {i : Nat} (hi : i < l.length) :
    ∃ b o, A = some ⟨b, o, none⟩ ∧ b < B ∧ w.cell? ⟨b, o + i * 3, none⟩ = some (.int .i64 l[i].p) ∧ w.cell? ⟨b, o + i * 3 + 1, none⟩ = some (.int .i64 l[i].f) ∧ w.cell? ⟨b, o + i * 3 + 2, none⟩ = some (.int .i64 l[i].t) := by
  obtain ⟨b, o, e, hb, hc⟩ := h.at_ hi
  exact ⟨b, o, e, hb, hc 0 _ rfl, hc 1 _ rfl, hc 2 _ rfl⟩

end Go.Proofs.YtoomffajodheaaaGreatDoor
namespace Go.Proofs.YtoomffajodheaaaGreatDoor
open Go.RowKit
set_option maxRecDepth 100000
def iCs (n : Int) : List Value := [.int .i64 n]
theorem iCs_len (x : Int) : (iCs x).length = 1 := rfl
theorem iCs_one (x : Int) : ∀ u ∈ iCs x, u.oneCell' = true := by simp [iCs, Value.oneCell']
theorem own_slice' {w : World} {base : Nat} {e : TypeId} {size : Nat} {v : Value} {n m : Nat} {xs ys : List Value} (h : w.ownsRow base e size v n xs) (hn : n = m) (hx : xs = ys) : ∃ A c, v = .slice A m c ∧ w.ownsRow base e size (.slice A m c) m ys := by
  subst hn hx
  obtain ⟨hl, h' | ⟨g, cap, cur, hv, r⟩⟩ := h
  · obtain ⟨rfl, rfl⟩ := h'
    exact ⟨none, 0, rfl, hl, .inl ⟨rfl, rfl⟩⟩
  · subst hv
    exact ⟨_, _, rfl, hl, .inr ⟨g, cap, cur, rfl, r⟩⟩
/-- The place of the first one that is no packet's; -1: none. -/
def sentBad (n : Nat) : List Sn → Nat → Int
  | [], _ => -1
  | x :: r, k => if 0 ≤ x.p ∧ x.p < n then sentBad n r (k + 1) else k
def delErr (n : Nat) (l : List Sn) : Nat × Int := if sentBad n l 0 = -1 then (0, -1) else (4, sentBad n l 0)
def delL (p : List Pk) (l : List Sn) : List Int := l.map fun x => x.t - aOf p x.p.toNat
def delOut (p : List Pk) (l : List Sn) : List Int := if sentBad p.length l 0 = -1 then delL p l else []
theorem delL_take (p : List Pk) {l : List Sn} {k : Nat} (h : k < l.length) : (delL p (l.take k)).flatMap iCs ++ [l[k].t - aOf p l[k].p.toNat].flatMap iCs = (delL p (l.take (k + 1))).flatMap iCs := by
  unfold delL
  rw [List.take_succ_eq_append_getElem h, List.map_append, List.flatMap_append]
  rfl
def tame50 (n : Int) : Prop := -1125899906842624 ≤ n ∧ n ≤ 1125899906842624
set_option maxHeartbeats 1000000 in
theorem delays_any (A A' : Option Addr) (c c' : Nat) (p : List Pk) (l : List Sn) (S : Nat → Addr) (w : World) (B : Nat) (hB : B ≤ w.heap.size) (h : RdP w B A p) (h' : RdS w B A' l) (hS : Snt w B S [4]) (hl : p.length ≤ 9223372036854775807) (hl' : l.length ≤ 4294967296)
    (ht : ∀ x ∈ l, tame50 x.t) (ha : ∀ x ∈ p, tame50 x.a) :
    Calls Tryz.prog 101 #[.slice A p.length c, .slice A' l.length c'] w (EndOwnEr iCs 1 3 (delOut p l) S (delErr p.length l).1 (delErr p.length l).2 w) := by
  obtain ⟨i0, hi0, hz0, hz1, hz2⟩ := info_parts infoInt
  go_enter Tryz.func101, Tryz.ntmps101
  go_wp2
  go_loopw [6, 11] (fun v i wr => ∃ (k : Nat) (A5 : Option Addr) (c5 : Nat), k ≤ l.length ∧ v = .slice A5 k c5 ∧ i = .int .i64 k ∧ wr.ownsRow w.heap.size 3 1 (.slice A5 k c5) k ((delL p (l.take k)).flatMap iCs) ∧ sentBad p.length l 0 = sentBad p.length (l.drop k) k ∧ Below w.heap.size w wr) (fun _ i _ => l.length - (intOf i).toNat)
  case atStart => exact ⟨0, none, 0, Nat.zero_le _, rfl, rfl, ⟨by simp [delL], .inl ⟨rfl, by simp [delL]⟩⟩, rfl, Below.refl _ _⟩
  case round =>
    obtain ⟨k, A5, c5, hk, rfl, rfl, row, hbad, hbw⟩ := hrel
    have hz := hbw.size
    by_cases hlt : k < l.length
    · obtain ⟨b, o, rfl, hb, d0, d1, d2⟩ := RdS.get (h'.below (hbw.mono hB)) hlt
      rw [List.drop_eq_getElem_cons hlt] at hbad
      have q1 : (k : Int) < (l.length : Int) := by omega
      have q2 : (0 : Int) ≤ (k : Int) := by omega
      by_cases hx : 0 ≤ l[k].p ∧ l[k].p < p.length
      · have Hbad := Lib.hid (show sentBad p.length l 0 = sentBad p.length (l.drop (k + 1)) (k + 1) by rw [hbad]; exact if_pos hx)
        obtain ⟨n, hn⟩ : ∃ n : Nat, l[k].p = n := ⟨l[k].p.toNat, by omega⟩
        have hnl : n < p.length := by omega
        obtain ⟨b1, o1, rfl, hb1, e0, e1, e2⟩ := RdP.get (h.below (hbw.mono hB)) hnl
        have t1 := ht _ (List.getElem_mem hlt)
        have t2 := ha _ (List.getElem_mem hnl)
        unfold tame50 at t1 t2
        obtain ⟨t3, t4⟩ := t1
        obtain ⟨t5, t6⟩ := t2
        rw [hn] at d0
        have Hd := Lib.hid (show l[k].t - aOf p l[k].p.toNat = IntKind.i64.wrap (l[k].t - p[n].a) by rw [hn, Int.toNat_natCast, aOf_of hnl, IntKind.wrap_i64]; omega)
        have Hrow := Lib.hid row
        have q3 : (0 : Int) ≤ (n : Int) := by omega
        have q4 : (n : Int) < (p.length : Int) := by omega
        clear hbad hx hn row
        have Hrow2 := (Hrow.out.alloc (.cells #[.int .i64 n, .int .i64 l[k].f, .int .i64 l[k].t] 64)).alloc (.cells #[.int .i64 (IntKind.i64.wrap (l[k].t - p[n].a))] 3)
        have hnew : Rd ((wr.alloc (.cells #[.int .i64 n, .int .i64 l[k].f, .int .i64 l[k].t] 64)).alloc (.cells #[.int .i64 (IntKind.i64.wrap (l[k].t - p[n].a))] 3)) (wr.heap.size + 2) 1 iCs (some ⟨wr.heap.size + 1, 0, none⟩) [IntKind.i64.wrap (l[k].t - p[n].a)] := Rd.of_block (heap_alloc_new2 _ _ _) rfl (Nat.lt_succ_self _) Nat.one_pos iCs_len
        have e2' : (wr.alloc (.cells #[.int .i64 n, .int .i64 l[k].f, .int .i64 l[k].t] 64)).cell? ⟨b1, o1 + n * 3 + 2, none⟩ = some (.int .i64 p[n].a) := (((Below.refl wr.heap.size wr).alloc (Nat.le_refl _) _).cell (p := ⟨b1, o1 + n * 3 + 2, none⟩) (by simp only; omega)).trans e2
        have hq5 : k + 1 ≤ maxLen := by simp only [maxLen]; omega
        have hq6 : (k + 1) * 8 ≤ 140737488355328 := by omega
        have hq7 : w.heap.size ≤ ((wr.alloc (.cells #[.int .i64 n, .int .i64 l[k].f, .int .i64 l[k].t] 64)).alloc (.cells #[.int .i64 (IntKind.i64.wrap (l[k].t - p[n].a))] 3)).heap.size := by simp; omega
        go_wp2_with fail
        go_region_law (refine step_append_rd _ iCs rfl (.tmp 31) (.tmp 41) 27 rfl w.heap.size 3 i0 (.int .i64 0) 1 8 Tryz.underlying27 hi0 hz0 hz1 hz2 rfl Nat.one_pos iCs_len iCs_one (.slice A5 k c5) k ((delL p (l.take k)).flatMap iCs) rfl Hrow2 (wr.heap.size + 2) (some ⟨wr.heap.size + 1, 0, none⟩) 1 [IntKind.i64.wrap (l[k].t - p[n].a)] rfl hnew hq5 hq6 hq7 ?_; intro v3 w3 row3 g3 at3)
        all_goals
          obtain ⟨A6, c6, hv6, row6⟩ := own_slice' (ys := (delL p (l.take (k + 1))).flatMap iCs) row3 rfl (by rw [← Hd.out]; exact delL_take p hlt)
          rw [hv6]
          clear hv6 row3
          have k3 := below_app (((Below.refl w.heap.size wr).alloc hz (.cells #[.int .i64 n, .int .i64 l[k].f, .int .i64 l[k].t] 64)).alloc (by simp; omega) (.cells #[.int .i64 (IntKind.i64.wrap (l[k].t - p[n].a))] 3)).drew Hrow2.drew g3 (Nat.le_refl _) hq7
          go_wp2_with fail
          go_roundw
          case rel => exact ⟨k + 1, A6, c6, hlt, by go_num, by go_num, row6, Hbad.out, hbw.trans k3⟩
          case measure => simp [intOf]; omega
      · have Hb := Lib.hid (show sentBad p.length l 0 = k by rw [hbad]; exact if_neg hx)
        have Ho := Lib.hid (show delOut p l = [] from if_neg (by rw [Hb.out]; omega))
        have He := Lib.hid (show delErr p.length l = (4, (k : Int)) by unfold delErr; rw [if_neg (by rw [Hb.out]; omega), Hb.out])
        have hx2 : l[k].p < 0 ∨ (0 ≤ l[k].p ∧ (p.length : Int) ≤ l[k].p) := by omega
        have g4 : wr.cell? ⟨G 4, 0, none⟩ = some (sv S 4) := ((hS.below (hbw.mono hB)) 4 (by simp)).2.2
        have l4 := World.block_lt_of_cell? wr _ g4
        simp only [G, sv] at g4 l4
        clear hbad hx row
        rcases hx2 with hx | ⟨hx, hx'⟩
        all_goals
          go_wp2_with fail
          go_region
          all_goals
            go_wp2_with fail
            go_ret2
            rw [Ho.out, He.out]
            exact ⟨none, 0, _, rfl, ⟨by simp, .inl ⟨rfl, rfl⟩⟩, .fault 4 (by omega) (by omega) _ _ (by simp) (heap_alloc_new2 _ _ _), ((hbw.alloc hz _).alloc (by simp; omega) _).drew⟩
    · rw [List.drop_eq_nil_of_le (by omega)] at hbad
      have hk2 : k = l.length := by omega
      subst hk2
      rw [List.take_length] at row
      have Ho := Lib.hid (show delOut p l = delL p l from if_pos hbad)
      have He := Lib.hid (show delErr p.length l = (0, -1) from if_pos hbad)
      have Hl := Lib.hid (show (delL p l).length = l.length by simp [delL])
      have Hrow := Lib.hid row
      clear hbad row
      go_wp2_with fail
      go_ret2
      rw [He.out, Ho.out]
      refine ⟨A5, c5, .nilIface, ?_, by rw [Hl.out]; exact Hrow.out, .nil, hbw⟩
      rw [Hl.out]
      rfl
end Go.Proofs.YtoomffajodheaaaGreatDoor
namespace Go.Proofs.YtoomffajodheaaaGreatDoor
open Go.RowKit
set_option maxRecDepth 100000
theorem RdI.get {w : World} {B : Nat} {A : Option Addr} {l : List Int} (h : RdI w B A l) {i : Nat} (hi : i < l.length) : ∃ b o, A = some ⟨b, o, none⟩ ∧ b < B ∧ w.cell? ⟨b, o + i, none⟩ = some (.int .i64 l[i]) := by
  obtain ⟨b, o, e, hb, hc⟩ := h.at_ hi
  have := hc 0 _ rfl
  simp only [Nat.mul_one, Nat.add_zero] at this
  exact ⟨b, o, e, hb, this⟩
theorem take_ne {α : Type} {a b : List α} {k : Nat} (h1 : k < a.length) (h2 : k < b.length) (h : a[k] ≠ b[k]) : a ≠ b := fun e => by subst e; exact h rfl
theorem take_next {α : Type} {a b : List α} {k : Nat} (ht : a.take k = b.take k) (h1 : k < a.length) (h2 : k < b.length) (h : a[k] = b[k]) : a.take (k + 1) = b.take (k + 1) := by
  rw [List.take_succ_eq_append_getElem h1, List.take_succ_eq_append_getElem h2, ht, h]
end Go.Proofs.YtoomffajodheaaaGreatDoor
