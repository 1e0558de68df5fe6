/- Package bucket's Check of packets, and package fifo's Look. Condition: the sentinels that they name lie in their variables. -/
import Derived.Test.YtkkecnofgmpekaaDoorProg
import Derived.Test.YtkkecnofgmpekaaDoorErr
import Derived.WalkKit
import Derived.WalkLawsBesides
import Derived.WalkSpells
import Derived.BigQuiet
import Derived.Deep.QuietTactic
namespace Go.Proofs.YtkkecnofgmpekaaDoor
open Go.RowKit
set_option maxRecDepth 100000

theorem RdP.get {w : World} {B : Nat} {A : Option Addr} {l : List Pk} (h : RdP w B A l) {i : Nat} (hi : i < l.length) :
    ∃ b o, A = some ⟨b, o, none⟩ ∧ b < B ∧ w.cell? ⟨b, o + i * 3, none⟩ = some (.int .i64 l[i].f) ∧ w.cell? ⟨b, o + i * 3 + 1, none⟩ = some (.int .i64 l[i].s) ∧ w.cell? ⟨b, o + i * 3 + 2, none⟩ = some (.int .i64 l[i].a) := by
  obtain ⟨b, o, e, hb, hc⟩ := h.at_ hi
  exact ⟨b, o, e, hb, hc 0 _ rfl, hc 1 _ rfl, hc 2 _ rfl⟩

/-- A packet within bounds. -/
def okPk (x : Pk) : Prop := 0 ≤ x.f ∧ x.f < 8 ∧ 1 ≤ x.s ∧ x.s ≤ 1500 ∧ 0 ≤ x.a ∧ x.a ≤ 1099511627776
instance (x : Pk) : Decidable (okPk x) := by unfold okPk; infer_instance
def pktBad : List Pk → Int → Nat → Nat × Int
  | [], _, _ => (0, -1)
  | x :: r, last, k => if okPk x then (if x.a < last then (5, (k : Int)) else pktBad r x.a (k + 1)) else (2, (k : Int))
/-- The number, and the place, of packets' error. -/
def pktErr (l : List Pk) : Nat × Int := if 300 < l.length then (2, -1) else pktBad l 0 0

set_option maxHeartbeats 1000000 in
theorem pcheck_any (A : Option Addr) (c : Nat) (l : List Pk) (S : Nat → Addr) (w : World) (B : Nat) (hB : B ≤ w.heap.size) (h : RdP w B A l) (hS : Snt w B S [2, 5]) (hl : l.length ≤ 9223372036854775807) :
    Calls Tryd.prog 61 #[.slice A l.length c] w (EndEr S (pktErr l).1 (pktErr l).2 w) := by
  by_cases h1 : 300 < l.length
  · have g2 : w.cell? ⟨G 2, 0, none⟩ = some (sv S 2) := (hS 2 (by simp)).2.2
    simp only [G, sv] at g2
    have Hf := Lib.hid (show pktErr l = (2, -1) from if_pos h1)
    go_enter Tryd.func61, Tryd.ntmps61
    go_wp2
    go_ret
    rw [Hf.out]
    exact ⟨_, rfl, .bare 2 (by omega) (by omega), Below.refl _ _⟩
  · have Hf := Lib.hid (show pktErr l = pktBad l 0 0 from if_neg h1)
    have h2 : l.length ≤ 300 := by omega
    clear h1
    go_enter Tryd.func61, Tryd.ntmps61
    go_wp2
    go_loopw [3, 12] (fun t i wr => ∃ (k : Nat) (m : Int), k ≤ l.length ∧ i = .int .i64 k ∧ t = .int .i64 m ∧ pktErr l = pktBad (l.drop k) m k ∧ Below w.heap.size w wr) (fun _ i _ => l.length - (intOf i).toNat)
    case atStart => exact ⟨0, 0, Nat.zero_le _, rfl, rfl, Hf.out, Below.refl _ _⟩
    case round =>
      obtain ⟨k, m, hk, rfl, rfl, hbad, hbw⟩ := hrel
      clear Hf
      by_cases hlt : k < l.length
      · obtain ⟨b, o, rfl, hb, d0, d1, d2⟩ := RdP.get (h.below (hbw.mono hB)) hlt
        have hd : l.drop k = l[k] :: l.drop (k + 1) := List.drop_eq_getElem_cons hlt
        rw [hd] at hbad
        have g2 : wr.cell? ⟨G 2, 0, none⟩ = some (sv S 2) := ((hS.below (hbw.mono hB)) 2 (by simp)).2.2
        have g5 : wr.cell? ⟨G 5, 0, none⟩ = some (sv S 5) := ((hS.below (hbw.mono hB)) 5 (by simp)).2.2
        have l2 := World.block_lt_of_cell? wr _ g2
        have l5 := World.block_lt_of_cell? wr _ g5
        simp only [G, sv] at g2 g5 l2 l5
        have hz := hbw.size
        by_cases hx : okPk l[k]
        · have Hx := Lib.hid hx
          obtain ⟨x1, x2, x3, x4, x5, x6⟩ := hx
          by_cases hlast : l[k].a < m
          · have Hb := Lib.hid (show pktErr l = (5, (k : Int)) by rw [hbad]; exact (if_pos Hx.out).trans (if_pos hlast))
            clear hbad hd
            go_wp2
            go_ret
            rw [Hb.out]
            exact ⟨_, rfl, .fault 5 (by omega) (by omega) _ _ (by simp) (heap_alloc_new2 _ _ _), (hbw.alloc hz _).alloc (by simp; omega) _⟩
          · have Hb := Lib.hid (show pktErr l = pktBad (l.drop (k + 1)) l[k].a (k + 1) by rw [hbad]; exact (if_pos Hx.out).trans (if_neg hlast))
            clear hbad hd
            have hlast' : m ≤ l[k].a := by omega
            clear hlast
            go_wp2
            go_roundw
            case rel => exact ⟨k + 1, _, by omega, by go_num, rfl, Hb.out, hbw.alloc hz _⟩
            case measure => simp [intOf]; omega
        · have Hb := Lib.hid (show pktErr l = (2, (k : Int)) by rw [hbad]; exact if_neg hx)
          clear hbad hd
          have hx' : l[k].f < 0 ∨ (0 ≤ l[k].f ∧ 8 ≤ l[k].f) ∨ (0 ≤ l[k].f ∧ l[k].f < 8 ∧ l[k].s < 1) ∨ (0 ≤ l[k].f ∧ l[k].f < 8 ∧ 1 ≤ l[k].s ∧ 1500 < l[k].s) ∨ (0 ≤ l[k].f ∧ l[k].f < 8 ∧ 1 ≤ l[k].s ∧ l[k].s ≤ 1500 ∧ l[k].a < 0) ∨ (0 ≤ l[k].f ∧ l[k].f < 8 ∧ 1 ≤ l[k].s ∧ l[k].s ≤ 1500 ∧ 0 ≤ l[k].a ∧ 1099511627776 < l[k].a) := by
            unfold okPk at hx
            omega
          clear hx
          rcases hx' with x1 | ⟨x1, x2⟩ | ⟨x1, x2, x3⟩ | ⟨x1, x2, x3, x4⟩ | ⟨x1, x2, x3, x4, x5⟩ | ⟨x1, x2, x3, x4, x5, x6⟩
          all_goals
            go_wp2
            go_ret
            rw [Hb.out]
            exact ⟨_, rfl, .fault 2 (by omega) (by omega) _ _ (by simp) (heap_alloc_new2 _ _ _), (hbw.alloc hz _).alloc (by simp; omega) _⟩
      · rw [List.drop_eq_nil_of_le (by omega)] at hbad
        have Hb := Lib.hid hbad
        clear hbad
        go_wp2
        go_ret
        rw [Hb.out]
        exact ⟨_, rfl, .nil, hbw⟩

/-- The error of packets at a link. -/
def lookErr (l : List Pk) (per : Int) : Nat × Int := if (pktErr l).1 ≠ 0 then pktErr l else if per < 1 ∨ 1000 < per then (2, -1) else (0, -1)
theorem pktBad_nil {l : List Pk} {m : Int} {k : Nat} (h : (pktBad l m k).1 = 0) : (pktBad l m k).2 = -1 := by
  induction l generalizing m k with
  | nil => rfl
  | cons x r ih =>
    unfold pktBad at h ⊢
    split at h
    · rename_i h1
      rw [if_pos h1]
      split at h
      · simp at h
      · rename_i h2
        rw [if_neg h2]
        exact ih h
    · simp at h
theorem pktErr_nil {l : List Pk} (h : (pktErr l).1 = 0) : pktErr l = (0, -1) := by
  unfold pktErr at h ⊢
  by_cases h1 : 300 < l.length
  · rw [if_pos h1] at h; simp at h
  · rw [if_neg h1] at h ⊢
    exact Prod.ext h (pktBad_nil h)

theorem pktBad_okPk {l : List Pk} {m : Int} {k : Nat} (h : (pktBad l m k).1 = 0) : ∀ x ∈ l, okPk x := by
  induction l generalizing m k with
  | nil => simp
  | cons x r ih =>
    unfold pktBad at h
    split at h
    · rename_i h1
      split at h
      · simp at h
      · intro y hy
        rcases List.mem_cons.1 hy with rfl | hy
        · exact h1
        · exact ih h y hy
    · simp at h
theorem pktErr_okPk {l : List Pk} (h : (pktErr l).1 = 0) : ∀ x ∈ l, okPk x := by
  unfold pktErr at h
  by_cases h1 : 300 < l.length
  · rw [if_pos h1] at h; simp at h
  · rw [if_neg h1] at h; exact pktBad_okPk h
set_option maxHeartbeats 400000 in
theorem look_any (A : Option Addr) (c : Nat) (l : List Pk) (per : Int) (S : Nat → Addr) (w : World) (B : Nat) (hB : B ≤ w.heap.size) (h : RdP w B A l) (hS : Snt w B S [2, 5]) (hl : l.length ≤ 9223372036854775807) :
    Calls Tryd.prog 51 #[.slice A l.length c, .int .i64 per] w (EndEr S (lookErr l per).1 (lookErr l per).2 w) := by
  by_cases h1 : (pktErr l).1 = 0
  · have Hc := Lib.hid (pktErr_nil h1)
    clear h1
    by_cases h2 : per < 1 ∨ 1000 < per
    · have Hf := Lib.hid (show lookErr l per = (2, -1) by unfold lookErr; rw [Hc.out]; exact if_pos h2)
      have h3 : per < 1 ∨ (1 ≤ per ∧ 1000 < per) := by omega
      clear h2
      have G2 := Lib.hid (show ∀ w1, Below w.heap.size w w1 → w1.cell? ⟨G 2, 0, none⟩ = some (sv S 2) from fun w1 hb1 => ((hS.below (hb1.mono hB)) 2 (by simp)).2.2)
      rcases h3 with h3 | ⟨h3, h4⟩
      all_goals
        go_enter Tryd.func51, Tryd.ntmps51
        go_wp2_with (go_at_call 61; refine (pcheck_any A c l S _ B hB h hS hl).mono ?_; rintro e w1 ⟨v, rfl, hv, hb1⟩; have g2 := G2.out w1 hb1; simp only [G, sv] at g2; obtain rfl := hv.nil_of (by rw [Hc.out]))
        go_ret
        rw [Hf.out]
        exact ⟨_, rfl, .bare 2 (by omega) (by omega), hb1⟩
    · have Hf := Lib.hid (show lookErr l per = (0, -1) by unfold lookErr; rw [Hc.out]; exact if_neg h2)
      have h3 : 1 ≤ per := by omega
      have h4 : per ≤ 1000 := by omega
      clear h2
      go_enter Tryd.func51, Tryd.ntmps51
      go_wp2_with (go_at_call 61; refine (pcheck_any A c l S _ B hB h hS hl).mono ?_; rintro e w1 ⟨v, rfl, hv, hb1⟩; obtain rfl := hv.nil_of (by rw [Hc.out]))
      go_ret
      rw [Hf.out]
      exact ⟨_, rfl, .nil, hb1⟩
  · have Hf := Lib.hid (show lookErr l per = pktErr l from if_pos h1)
    have H1 := Lib.hid h1
    clear h1
    go_enter Tryd.func51, Tryd.ntmps51
    go_wp2_with (go_at_call 61; refine (pcheck_any A c l S _ B hB h hS hl).mono ?_; rintro e w1 ⟨v, rfl, hv, hb1⟩; obtain ⟨T, a, rfl⟩ := hv.some_of H1.out)
    go_ret
    rw [Hf.out]
    exact ⟨_, rfl, hv, hb1⟩
end Go.Proofs.YtkkecnofgmpekaaDoor
