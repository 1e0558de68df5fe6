/- Package rank: least's picker, at Run's key. Conditions written at each. -/
import Derived.Test.YtkkecnofgmpekaaDoorRank3
import Derived.Test.YtkkecnofgmpekaaDoorFifo
namespace Go.Proofs.YtkkecnofgmpekaaDoor
open Go.RowKit
set_option maxRecDepth 100000
theorem asc_len (m : Nat) (s : List Nat) (lo : Nat) (h0 : ∀ j ∈ s, lo ≤ j) (h1 : ∀ j ∈ s, j < m) (h2 : s.Pairwise (· < ·)) : s = [] ∨ s.length + lo ≤ m := by
  induction s generalizing lo with
  | nil => exact .inl rfl
  | cons x r ih =>
    obtain ⟨h3, h4⟩ := List.pairwise_cons.1 h2
    have hx := h0 x List.mem_cons_self
    have hm := h1 x List.mem_cons_self
    rcases ih (x + 1) (fun j hj => h3 j hj) (fun j hj => h1 j (List.mem_cons_of_mem _ hj)) h4 with rfl | h
    · exact .inr (by simp; omega)
    · exact .inr (by simp; omega)
theorem own_same {w w' : World} {base : Nat} {e : TypeId} {size : Nat} {v : Value} {n : Nat} {xs : List Value} (h : w.ownsRow base e size v n xs) (hs : ∀ g, v.ownBlock = some g → w'.heap[g]? = w.heap[g]?) : w'.ownsRow base e size v n xs := by
  obtain ⟨h1, h2⟩ := h
  refine ⟨h1, ?_⟩
  rcases h2 with h2 | ⟨g, cap, cur, hv, hg, hh, r⟩
  · exact .inl h2
  · exact .inr ⟨g, cap, cur, hv, hg, (hs g (by rw [hv]; rfl)).trans hh, r⟩
theorem WaitMem.alloc {B bw : Nat} {w : World} {own : Nat → Prop} {s : List Nat} {A : Option Addr} {c : Nat} (h : WaitMem B bw w own s A c) (o : Obj) : WaitMem B bw (w.alloc o) own s A c := ⟨h.v.alloc o, h.row.alloc o, h.hB, h.ne, h.le, h.o⟩
theorem WaitMem.size {B bw : Nat} {w : World} {own : Nat → Prop} {s : List Nat} {A : Option Addr} {c : Nat} (h : WaitMem B bw w own s A c) : B ≤ w.heap.size := Nat.le_trans h.hB (Nat.le_of_lt h.v.lt)
theorem least2_none (B bw bk : Nat) (w : World) (own : Nat → Prop) (A : Option Addr) (c : Nat) (h : WaitMem B bw w own [] A c) :
    Calls Tryd.prog 72 #[.pointer (some ⟨bw, 0, none⟩), .pointer (some ⟨bk, 0, none⟩)] w fun e w' => e = .returned (.tuple #[.int .i64 0, .bool false]) ∧ w = w' := by
  have c0 : w.cell? ⟨bw, 0, none⟩ = some (.slice A 0 c) := h.v.cell 0
  clear h
  go_enter Tryd.func72, Tryd.ntmps72
  go_wp2_with fail
  go_ret2
  exact ⟨rfl, rfl⟩
def leastR (bw bk : Nat) : Value := .agg #[.func (.func 71) #[] #[.pointer (some ⟨bw, 0, none⟩)], .func (.func 72) #[] #[.pointer (some ⟨bw, 0, none⟩), .pointer (some ⟨bk, 0, none⟩)], .nilFunc]
structure LeastMem (n B bw : Nat) (w0 w : World) (own : Nat → Prop) (s : List Nat) : Prop where
  bel : Below B w0 w
  lt : ∀ j ∈ s, j < n
  wm : ∃ A c, WaitMem B bw w own s A c
theorem leastPicker (w0 : World) (B bw bk n : Nat) (c1 c2 : Value) (key : Nat → Int) (hn : n ≤ 300) (hbk : bk < B) (hk : Blk w0 bk 82 #[.func (.func 57) #[] #[c1, c2]]) (hK : KeyFn 57 c1 c2 n key (fun w => Below B w0 w)) :
    Picker (leastR bw bk) (leastM key) n B (LeastMem n B bw w0) where
  own_ := fun {w own s} h b hb => by
    obtain ⟨A, c, h⟩ := h.wm
    rcases (h.o b).1 hb with rfl | hb
    · exact ⟨h.hB, h.v.lt⟩
    · exact ⟨own_ge h.row b hb, own_lt h.row b hb⟩
  stay := fun {w w' own s} h hs hb => by
    obtain ⟨hb0, hln, A, c, h⟩ := h
    exact ⟨hb0.trans hb, hln, A, c, h.v.same (hs bw ((h.o bw).2 (.inl rfl))), own_same h.row fun g hg => hs g ((h.o g).2 (.inr hg)), h.hB, h.ne, h.le, h.o⟩
  come := fun {w own s} k h ⟨hk1, hk2⟩ hkn => by
    obtain ⟨hb0, hln, A, c, h⟩ := h
    have hs : s.length < 300 := by
      rcases asc_len k s 0 (fun _ _ => Nat.zero_le _) hk1 hk2 with rfl | h9
      · simp
      · omega
    have hB := h.size
    unfold leastR
    go_enter Tryd.func114, Tryd.ntmps114
    go_wp2_with fail
    refine (least1_any B bw k _ own s A c (h.alloc _) hs).mono ?_
    rintro e w1 ⟨rfl, own', A', c', h', k'⟩
    go_wp2_with fail
    go_end0
    have kk := keeps_trans (keepsAlloc (keepsRefl B own w) hB _) k'
    exact ⟨rfl, own', ⟨hb0.trans kk.1, fun j hj => by
      rcases List.mem_append.1 hj with h9 | h9
      · exact hln j h9
      · rw [List.mem_singleton.1 h9]; exact hkn, A', c', h'⟩, kk⟩
  none_ := fun {w own s m} h hok hp => by
    obtain ⟨hb0, hln, A, c, h⟩ := h
    obtain rfl : s = [] := (leastOk key n).w_none s m hok hp
    have hB := h.size
    clear hp hok
    unfold leastR
    go_enter Tryd.func115, Tryd.ntmps115
    go_wp2_with fail
    refine (least2_none B bw bk _ own A c (h.alloc _)).mono ?_
    rintro e w1 ⟨rfl, rfl⟩
    go_wp2_with fail
    go_ret2
    have kk := keepsAlloc (keepsRefl B own w) hB (.cells #[.func (.func 71) #[] #[.pointer (some ⟨bw, 0, none⟩)], .func (.func 72) #[] #[.pointer (some ⟨bw, 0, none⟩), .pointer (some ⟨bk, 0, none⟩)], .nilFunc] 79)
    exact ⟨rfl, own, ⟨hb0.trans kk.1, hln, A, c, h.alloc _⟩, kk⟩
  some_ := fun {w own s m} k s' h hok hp => by
    obtain ⟨hb0, hln, A, c, h⟩ := h
    have hlt : ∀ j ∈ s, j < m := hok.1
    have hsk : 0 < s.length ∧ s.getD (bestI key s) 0 = k ∧ s.eraseIdx (bestI key s) = s' := by
      simp only [leastM] at hp
      split at hp
      · cases hp
      · simp only [Option.some.injEq, Prod.mk.injEq] at hp
        exact ⟨by omega, hp.1, hp.2⟩
    obtain ⟨hs, ek, rfl⟩ := hsk
    have Hk := Lib.hid ek
    have hB := h.size
    clear hp ek
    have kk0 := keepsAlloc (keepsRefl B own w) hB (.cells #[.func (.func 71) #[] #[.pointer (some ⟨bw, 0, none⟩)], .func (.func 72) #[] #[.pointer (some ⟨bw, 0, none⟩), .pointer (some ⟨bk, 0, none⟩)], .nilFunc] 79)
    have hb1 := hb0.trans kk0.1
    unfold leastR
    go_enter Tryd.func115, Tryd.ntmps115
    go_wp2_with fail
    refine (best_any B bw bk n c1 c2 key (fun w => Below B w0 w) _ own s A c (h.alloc _) hs hln (hk.below hb1 hbk) hK hb1).mono ?_
    rintro e w1 ⟨rfl, own', A', c', h', k'⟩
    rw [Hk.out]
    go_wp2_with fail
    go_ret2
    have kk := keeps_trans kk0 k'
    exact ⟨rfl, own', ⟨hb0.trans kk.1, fun j hj => hln j (List.mem_of_mem_eraseIdx hj), A', c', h'⟩, kk⟩
  rest := fun {w own s m} h hok hw => by
    obtain ⟨hb0, hln, A, c, h⟩ := h
    have hB := h.size
    have f1 := nilFunc_neq
    have kk := keepsAlloc (keepsRefl B own w) hB (.cells #[.func (.func 71) #[] #[.pointer (some ⟨bw, 0, none⟩)], .func (.func 72) #[] #[.pointer (some ⟨bw, 0, none⟩), .pointer (some ⟨bk, 0, none⟩)], .nilFunc] 79)
    unfold leastR
    go_enter Tryd.func116, Tryd.ntmps116
    go_wp2_with fail
    go_end0
    exact ⟨rfl, own, ⟨hb0.trans kk.1, hln, A, c, h.alloc _⟩, kk⟩
end Go.Proofs.YtkkecnofgmpekaaDoor
