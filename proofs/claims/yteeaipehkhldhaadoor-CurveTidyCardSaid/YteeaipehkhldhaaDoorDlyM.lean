/- Package curve: Delay's memory: four boxes, two rows of lines of the call's own. Look. Conditions written at each. -/
import Derived.Test.YteeaipehkhldhaaDoorDly1
import Derived.Test.YteeaipehkhldhaaDoorBlk
import Derived.Test.YteeaipehkhldhaaDoorOwnL
namespace Go.Proofs.YteeaipehkhldhaaDoor
open Go.RowKit
set_option maxRecDepth 100000
def dlkErr (l : List Ln) (per : Int) : Nat × Int := if (crvErr l).1 ≠ 0 then crvErr l else if per < 1 ∨ 1000 < per then (2, -1) else (0, -1)
theorem dlkErr_ok {l : List Ln} {per : Int} (h : (dlkErr l per).1 = 0) : (crvErr l).1 = 0 ∧ 1 ≤ per ∧ per ≤ 1000 ∧ dlkErr l per = (0, -1) := by
  unfold dlkErr at h ⊢
  by_cases h1 : (crvErr l).1 ≠ 0
  · rw [if_pos h1] at h; exact absurd h h1
  · rw [if_neg h1] at h ⊢
    by_cases h2 : per < 1 ∨ 1000 < per
    · rw [if_pos h2] at h; simp at h
    · rw [if_neg h2]
      exact ⟨by omega, by omega, by omega, rfl⟩
theorem clook_any (A : Option Addr) (c : Nat) (l : List Ln) (per : Int) (S : Nat → Addr) (w : World) (B : Nat) (hB : B ≤ w.heap.size) (h : RdL w B A l) (hS : Snt w B S [2, 3]) (hl : l.length ≤ 9223372036854775807) :
    Calls Tryd.prog 67 #[.slice A l.length c, .int .i64 per] w (EndEr S (dlkErr l per).1 (dlkErr l per).2 w) := by
  by_cases h1 : (crvErr l).1 = 0
  · have h1' : ¬ (crvErr l).1 ≠ 0 := by omega
    have Hc := Lib.hid h1
    by_cases h2 : per < 1 ∨ 1000 < per
    · have Hf := Lib.hid (show dlkErr l per = (2, -1) from (if_neg h1').trans (if_pos h2))
      have g2 : ∀ w1, Below w.heap.size w w1 → w1.cell? ⟨G 2, 0, none⟩ = some (sv S 2) := fun w1 hb1 => ((hS.below (hb1.mono hB)) 2 (by simp)).2.2
      simp only [G, sv] at g2
      have G2 := Lib.hid g2
      clear g2 h1 h1'
      have h3 : per < 1 ∨ (¬ per < 1 ∧ 1000 < per) := by omega
      clear h2
      rcases h3 with h2 | ⟨h2, h3⟩
      all_goals
        go_enter Tryd.func67, Tryd.ntmps67
        go_wp2_with (go_at_call 25; refine (check_any A c l S _ B hB h hS hl).mono ?_; rintro e w1 ⟨v, rfl, hv, hb1⟩; have g2 := G2.out w1 hb1; obtain rfl := hv.nil_of Hc.out)
        go_ret
        rw [Hf.out]
        exact ⟨_, rfl, .bare 2 (by omega) (by omega), hb1⟩
    · have Hf := Lib.hid (show dlkErr l per = (0, -1) from (if_neg h1').trans (if_neg h2))
      have h3 : 1 ≤ per := by omega
      have h4 : per ≤ 1000 := by omega
      clear h2 h1 h1'
      go_enter Tryd.func67, Tryd.ntmps67
      go_wp2_with (go_at_call 25; refine (check_any A c l S _ B hB h hS hl).mono ?_; rintro e w1 ⟨v, rfl, hv, hb1⟩; obtain rfl := hv.nil_of Hc.out)
      go_ret
      rw [Hf.out]
      exact ⟨_, rfl, .nil, hb1⟩
  · have Hf := Lib.hid (show dlkErr l per = crvErr l from if_pos h1)
    have Hc := Lib.hid h1
    clear h1
    go_enter Tryd.func67, Tryd.ntmps67
    go_wp2_with (go_at_call 25; refine (check_any A c l S _ B hB h hS hl).mono ?_; rintro e w1 ⟨v, rfl, hv, hb1⟩; obtain ⟨T, a, rfl⟩ := hv.some_of Hc.out)
    go_ret
    rw [Hf.out]
    exact ⟨_, rfl, hv, hb1⟩
theorem own_same {w w' : World} {base : Nat} {e : TypeId} {size : Nat} {v : Value} {n : Nat} {xs : List Value} (h : w.ownsRow base e size v n xs) (hs : ∀ g, v.ownBlock = some g → w'.heap[g]? = w.heap[g]?) : w'.ownsRow base e size v n xs := by
  obtain ⟨h1, h2⟩ := h
  refine ⟨h1, ?_⟩
  rcases h2 with h2 | ⟨g, cap, cur, hv, hg, hh, r⟩
  · exact .inl h2
  · exact .inr ⟨g, cap, cur, hv, hg, (hs g (by rw [hv]; rfl)).trans hh, r⟩
theorem own_ltL {w : World} {base : Nat} {e : TypeId} {size : Nat} {v : Value} {n : Nat} {xs : List Value} (h : w.ownsRow base e size v n xs) : ∀ g, v.ownBlock = some g → g < w.heap.size := by
  intro g hg
  rcases h.2 with ⟨rfl, _⟩ | ⟨g', cap, cur, rfl, _, hh, _⟩
  · simp [Value.ownBlock] at hg
  · have : g' = g := by simpa [Value.ownBlock] using hg
    subst this
    exact lt_of_block hh
/-- Delay's memory. -/
structure DM (w0 : World) (B g3 g7 g8 g9 : Nat) (per top : Int) (st fl : List Ln) (A7 : Option Addr) (c7 : Nat) (A8 : Option Addr) (c8 : Nat) (wr : World) : Prop where
  b3 : Blk wr g3 3 #[.int .i64 per]
  b7 : Blk wr g7 22 #[.slice A7 st.length c7]
  b8 : Blk wr g8 22 #[.slice A8 fl.length c8]
  b9 : Blk wr g9 3 #[.int .i64 top]
  o7 : wr.ownsRow B 24 2 (.slice A7 st.length c7) st.length (st.flatMap Ln.cs)
  o8 : wr.ownsRow B 24 2 (.slice A8 fl.length c8) fl.length (fl.flatMap Ln.cs)
  n7 : ∀ b, (Value.slice A7 st.length c7).ownBlock = some b → b ≠ g3 ∧ b ≠ g7 ∧ b ≠ g8 ∧ b ≠ g9
  n8 : ∀ b, (Value.slice A8 fl.length c8).ownBlock = some b → b ≠ g3 ∧ b ≠ g7 ∧ b ≠ g8 ∧ b ≠ g9
  ne : ∀ b, (Value.slice A7 st.length c7).ownBlock = some b → (Value.slice A8 fl.length c8).ownBlock ≠ some b
  bel : Below B w0 wr
  ge : B ≤ g3 ∧ B ≤ g7 ∧ B ≤ g8 ∧ B ≤ g9
  di : g3 ≠ g7 ∧ g3 ≠ g8 ∧ g3 ≠ g9 ∧ g7 ≠ g8 ∧ g7 ≠ g9 ∧ g8 ≠ g9
section
variable {w0 : World} {B g3 g7 g8 g9 : Nat} {per top : Int} {st fl : List Ln} {A7 : Option Addr} {c7 : Nat} {A8 : Option Addr} {c8 : Nat} {wr : World}
theorem DM.size_ (h : DM w0 B g3 g7 g8 g9 per top st fl A7 c7 A8 c8 wr) : B ≤ wr.heap.size := Nat.le_trans h.ge.1 (Nat.le_of_lt h.b3.lt)
theorem DM.below_ (h : DM w0 B g3 g7 g8 g9 per top st fl A7 c7 A8 c8 wr) {w' : World} (hb : Below wr.heap.size wr w') : DM w0 B g3 g7 g8 g9 per top st fl A7 c7 A8 c8 w' :=
  { h with b3 := h.b3.below hb h.b3.lt, b7 := h.b7.below hb h.b7.lt, b8 := h.b8.below hb h.b8.lt, b9 := h.b9.below hb h.b9.lt, o7 := own_same h.o7 fun g hg => hb.block g (own_ltL h.o7 g hg), o8 := own_same h.o8 fun g hg => hb.block g (own_ltL h.o8 g hg), bel := h.bel.trans (hb.mono h.size_) }
theorem DM.alloc (h : DM w0 B g3 g7 g8 g9 per top st fl A7 c7 A8 c8 wr) (o : Obj) : DM w0 B g3 g7 g8 g9 per top st fl A7 c7 A8 c8 (wr.alloc o) := h.below_ ((Below.refl _ _).alloc (Nat.le_refl _) o)
theorem DM.setTop (h : DM w0 B g3 g7 g8 g9 per top st fl A7 c7 A8 c8 wr) (t : Int) : DM w0 B g3 g7 g8 g9 per t st fl A7 c7 A8 c8 (wr.setCell ⟨g9, 0, none⟩ (.int .i64 t)) := by
  obtain ⟨d1, d2, d3, d4, d5, d6⟩ := h.di
  exact { h with b3 := h.b3.far (p := ⟨g9, 0, none⟩) d3 _, b7 := h.b7.far (p := ⟨g9, 0, none⟩) d5 _, b8 := h.b8.far (p := ⟨g9, 0, none⟩) d6 _, b9 := h.b9.set_ 0 _, o7 := own_same h.o7 fun g hg => Below.heap_setCell wr ⟨g9, 0, none⟩ _ g (h.n7 g hg).2.2.2, o8 := own_same h.o8 fun g hg => Below.heap_setCell wr ⟨g9, 0, none⟩ _ g (h.n8 g hg).2.2.2, bel := h.bel.setCell (p := ⟨g9, 0, none⟩) h.ge.2.2.2 _ }
theorem DM.push7 (h : DM w0 B g3 g7 g8 g9 per top st fl A7 c7 A8 c8 wr) {o : Obj} {w3 : World} {x : Ln} {A9 : Option Addr} {c9 : Nat} (row : w3.ownsRow B 24 2 (.slice A9 (st ++ [x]).length c9) (st ++ [x]).length ((st ++ [x]).flatMap Ln.cs)) (hg : (wr.alloc o).grownBy w3 (Value.slice A7 st.length c7).ownBlock)
    (ha : (Value.slice A9 (st ++ [x]).length c9).ownBlock = (Value.slice A7 st.length c7).ownBlock ∨ (Value.slice A9 (st ++ [x]).length c9).ownBlock = some (wr.alloc o).heap.size) :
    DM w0 B g3 g7 g8 g9 per top (st ++ [x]) fl A9 c9 A8 c8 (w3.setCell ⟨g7, 0, none⟩ (.slice A9 (st ++ [x]).length c9)) := by
  obtain ⟨d1, d2, d3, d4, d5, d6⟩ := h.di
  have h1 := h.alloc o
  have hs : (wr.alloc o).heap.size = wr.heap.size + 1 := by simp
  have hn : ∀ b, (Value.slice A7 st.length c7).ownBlock ≠ some b → b < (wr.alloc o).heap.size → w3.heap[b]? = (wr.alloc o).heap[b]? := fun b hb hl => hg.block b hl (fun e => hb e.symm)
  have m3 : (Value.slice A7 st.length c7).ownBlock ≠ some g3 := fun e => (h.n7 _ e).1 rfl
  have m7 : (Value.slice A7 st.length c7).ownBlock ≠ some g7 := fun e => (h.n7 _ e).2.1 rfl
  have m8 : (Value.slice A7 st.length c7).ownBlock ≠ some g8 := fun e => (h.n7 _ e).2.2.1 rfl
  have m9 : (Value.slice A7 st.length c7).ownBlock ≠ some g9 := fun e => (h.n7 _ e).2.2.2 rfl
  have l3 := h.b3.lt
  have l7 := h.b7.lt
  have l8 := h.b8.lt
  have l9 := h.b9.lt
  have nn : ∀ b, (Value.slice A9 (st ++ [x]).length c9).ownBlock = some b → b ≠ g3 ∧ b ≠ g7 ∧ b ≠ g8 ∧ b ≠ g9 := fun b hb => by
    rcases ha with e | e
    · exact h.n7 b (by rw [← e]; exact hb)
    · rw [hb] at e
      injection e with e
      omega
  exact { h with
    b3 := (h1.b3.same (hn g3 m3 h1.b3.lt)).far (p := ⟨g7, 0, none⟩) d1 _
    b7 := (h1.b7.same (hn g7 m7 h1.b7.lt)).set_ 0 _
    b8 := (h1.b8.same (hn g8 m8 h1.b8.lt)).far (p := ⟨g7, 0, none⟩) d4.symm _
    b9 := (h1.b9.same (hn g9 m9 h1.b9.lt)).far (p := ⟨g7, 0, none⟩) d5.symm _
    o7 := own_same row fun g hg' => Below.heap_setCell w3 ⟨g7, 0, none⟩ _ g (nn g hg').2.1
    o8 := own_same h1.o8 fun g hg' => (Below.heap_setCell w3 ⟨g7, 0, none⟩ _ g (h.n8 g hg').2.1).trans (hn g (fun e => h.ne g e hg') (own_ltL h1.o8 g hg'))
    n7 := nn
    ne := fun b hb e => by
      rcases ha with e2 | e2
      · exact h.ne b (by rw [← e2]; exact hb) e
      · have := own_ltL h.o8 b e
        rw [hb] at e2
        injection e2 with e2
        omega
    bel := (h1.bel.grown hg h1.size_ (fun k hk => own_ge h.o7 k hk)).setCell (p := ⟨g7, 0, none⟩) h.ge.2.1 _ }
theorem DM.push8 (h : DM w0 B g3 g7 g8 g9 per top st fl A7 c7 A8 c8 wr) {o : Obj} {w3 : World} {x : Ln} {A9 : Option Addr} {c9 : Nat} (row : w3.ownsRow B 24 2 (.slice A9 (fl ++ [x]).length c9) (fl ++ [x]).length ((fl ++ [x]).flatMap Ln.cs)) (hg : (wr.alloc o).grownBy w3 (Value.slice A8 fl.length c8).ownBlock)
    (ha : (Value.slice A9 (fl ++ [x]).length c9).ownBlock = (Value.slice A8 fl.length c8).ownBlock ∨ (Value.slice A9 (fl ++ [x]).length c9).ownBlock = some (wr.alloc o).heap.size) :
    DM w0 B g3 g7 g8 g9 per top st (fl ++ [x]) A7 c7 A9 c9 (w3.setCell ⟨g8, 0, none⟩ (.slice A9 (fl ++ [x]).length c9)) := by
  obtain ⟨d1, d2, d3, d4, d5, d6⟩ := h.di
  have h1 := h.alloc o
  have hs : (wr.alloc o).heap.size = wr.heap.size + 1 := by simp
  have hn : ∀ b, (Value.slice A8 fl.length c8).ownBlock ≠ some b → b < (wr.alloc o).heap.size → w3.heap[b]? = (wr.alloc o).heap[b]? := fun b hb hl => hg.block b hl (fun e => hb e.symm)
  have m3 : (Value.slice A8 fl.length c8).ownBlock ≠ some g3 := fun e => (h.n8 _ e).1 rfl
  have m7 : (Value.slice A8 fl.length c8).ownBlock ≠ some g7 := fun e => (h.n8 _ e).2.1 rfl
  have m8 : (Value.slice A8 fl.length c8).ownBlock ≠ some g8 := fun e => (h.n8 _ e).2.2.1 rfl
  have m9 : (Value.slice A8 fl.length c8).ownBlock ≠ some g9 := fun e => (h.n8 _ e).2.2.2 rfl
  have l3 := h.b3.lt
  have l7 := h.b7.lt
  have l8 := h.b8.lt
  have l9 := h.b9.lt
  have nn : ∀ b, (Value.slice A9 (fl ++ [x]).length c9).ownBlock = some b → b ≠ g3 ∧ b ≠ g7 ∧ b ≠ g8 ∧ b ≠ g9 := fun b hb => by
    rcases ha with e | e
    · exact h.n8 b (by rw [← e]; exact hb)
    · rw [hb] at e
      injection e with e
      omega
  exact { h with
    b3 := (h1.b3.same (hn g3 m3 h1.b3.lt)).far (p := ⟨g8, 0, none⟩) d2 _
    b7 := (h1.b7.same (hn g7 m7 h1.b7.lt)).far (p := ⟨g8, 0, none⟩) d4 _
    b8 := (h1.b8.same (hn g8 m8 h1.b8.lt)).set_ 0 _
    b9 := (h1.b9.same (hn g9 m9 h1.b9.lt)).far (p := ⟨g8, 0, none⟩) d6.symm _
    o7 := own_same h1.o7 fun g hg' => (Below.heap_setCell w3 ⟨g8, 0, none⟩ _ g (h.n7 g hg').2.2.1).trans (hn g (h.ne g hg') (own_ltL h1.o7 g hg'))
    o8 := own_same row fun g hg' => Below.heap_setCell w3 ⟨g8, 0, none⟩ _ g (nn g hg').2.2.1
    n8 := nn
    ne := fun b hb e => by
      rcases ha with e2 | e2
      · exact h.ne b hb (by rw [← e2]; exact e)
      · have := own_ltL h.o7 b hb
        rw [e] at e2
        injection e2 with e2
        omega
    bel := (h1.bel.grown hg h1.size_ (fun k hk => own_ge h.o8 k hk)).setCell (p := ⟨g8, 0, none⟩) h.ge.2.2.1 _ }
theorem DM.box (h : DM w0 B g3 g7 g8 g9 per top st fl A7 c7 A8 c8 wr) : Box4 wr g7 g3 g9 g8 A7 c7 st per top A8 c8 fl :=
  ⟨h.b7.cell 0, h.b3.cell 0, h.b9.cell 0, h.b8.cell 0, ⟨h.b7.lt, h.b3.lt, h.b9.lt, h.b8.lt⟩, Rd.of_own h.o7 (by omega) Ln.cs_len, Rd.of_own h.o8 (by omega) Ln.cs_len⟩
end
end Go.Proofs.YteeaipehkhldhaaDoor
