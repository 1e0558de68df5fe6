/- The document's link by tags in memory: four rows of the call's own, and what is sent. No program. No condition. floodgateref2.FairOf: it computes what a link by tags does. Conditions: packets in bounds and in order, weights in bounds. -/
import Derived.Test.YthgpbdlmadjndaaGreatDoorPlnM
import Derived.Test.YthgpbdlmadjndaaGreatDoorFrC
import Derived.Test.YthgpbdlmadjndaaGreatDoorMiscM
import Derived.Deep.RegionHeld
namespace Go.Proofs.YthgpbdlmadjndaaGreatDoor
open Go.RowKit
set_option maxRecDepth 100000
/-- A row of n cells in block g. -/
def Arr (w : World) (g : Nat) (T : TypeId) (n : Nat) (d : Nat → Value) : Prop := ∃ tc, Blk w g T tc ∧ tc.size = n ∧ ∀ k, k < n → tc[k]? = some (d k)
section
variable {w w' : World} {g n : Nat} {T : TypeId} {d d' : Nat → Value}
theorem Arr.lt (h : Arr w g T n d) : g < w.heap.size := by obtain ⟨tc, h, _⟩ := h; exact h.lt
theorem Arr.cell (h : Arr w g T n d) {k : Nat} (hk : k < n) : w.cell? ⟨g, k, none⟩ = some (d k) := by obtain ⟨tc, h, _, h2⟩ := h; exact (h.cell k).trans (h2 k hk)
theorem Arr.frozen (h : Arr w g T n d) (k : Nat) : w.frozen? ⟨g, k, none⟩ = false := by obtain ⟨tc, h, _⟩ := h; exact h.frozen k
theorem Arr.same (h : Arr w g T n d) (hs : w'.heap[g]? = w.heap[g]?) : Arr w' g T n d := by obtain ⟨tc, h, h1, h2⟩ := h; exact ⟨tc, h.same hs, h1, h2⟩
theorem Arr.congr (h : Arr w g T n d) (hd : ∀ k, k < n → d k = d' k) : Arr w g T n d' := by obtain ⟨tc, h, h1, h2⟩ := h; exact ⟨tc, h, h1, fun k hk => by rw [← hd k hk]; exact h2 k hk⟩
theorem Arr.set_ (h : Arr w g T n d) {k : Nat} (u : Value) (hd : ∀ j, j < n → d' j = if j = k then u else d j) : Arr (w.setCell ⟨g, k, none⟩ u) g T n d' := by
  obtain ⟨tc, h, h1, h2⟩ := h
  refine ⟨_, h.set_ k u, by rw [Array.size_setIfInBounds]; exact h1, fun j hj => ?_⟩
  rw [hd j hj, Array.getElem?_setIfInBounds]
  by_cases hjk : k = j
  · subst hjk
    rw [if_pos rfl, if_pos rfl, if_pos (by omega)]
  · rw [if_neg hjk, if_neg (fun e => hjk e.symm)]
    exact h2 j hj
theorem Arr.far (h : Arr w g T n d) {p : Addr} (hp : g ≠ p.block) (u : Value) : Arr (w.setCell p u) g T n d := h.same (Below.heap_setCell w p u g hp)
theorem Arr.alloc (h : Arr w g T n d) (o : Obj) : Arr (w.alloc o) g T n d := h.same (Below.heap_alloc w o g h.lt)
theorem Arr.grown {row : Option Nat} (h : Arr w g T n d) (hb : w.grownBy w' row) (hg : some g ≠ row) : Arr w' g T n d := h.same (hb.block g h.lt hg)
theorem Arr.drewN (h : Arr w g T n d) (m : Nat) : Arr (w.drewN m) g T n d := h
theorem Arr.of_own {base : Nat} {u : Value} (h : w.ownsRow base T 1 (.slice (some ⟨g, 0, none⟩) n n) n (List.replicate n u)) (hd : ∀ k, k < n → d k = u) : Arr w g T n d := by
  obtain ⟨_, tc, h1, h2, h3⟩ := own_blk h
  exact ⟨tc, h1, h2, fun k hk => by rw [hd k hk]; exact h3 k hk⟩
theorem Arr.rdI {d : Nat → Int} (h : Arr w g 3 n (fun k => .int .i64 (d k))) : RdI w w.heap.size (some ⟨g, 0, none⟩) ((List.range n).map d) := by
  obtain ⟨tc, hb, hs, ht⟩ := h
  refine Rd.of_block (cs := tc) (T := 3) (z := (0, 0)) hb ?_ hb.lt (by omega) iCs_len
  apply List.ext_getElem?
  intro k
  have e : ((List.range n).map d).flatMap (fun m => [Value.int .i64 m]) = (List.range n).map fun j => Value.int .i64 (d j) := by
    rw [← List.map_eq_flatMap, List.map_map]; rfl
  rw [e]
  by_cases hk : k < n
  · have := ht k hk
    simp [hk]
    simpa using this
  · rw [List.getElem?_eq_none (by simp; omega), List.getElem?_eq_none (by simp; omega)]
end
theorem bool_new (n : Nat) : (madeCells (Value.cells (.bool false)) (n * 1)).toList = List.replicate n (.bool false) := by
  rw [show Value.cells (.bool false) = #[.bool false] from rfl, toList_madeCells_one, Nat.mul_one]
/-- The four rows, and what is sent. -/
structure FRow (p : List Pk) (out : List Sn) (B base : Nat) (w1 : World) (gT gC gD gL : Nat) (A5 : Option Addr) (c5 k : Nat) (s : FS) (wr : World) : Prop where
  tg : Arr wr gT 3 p.length fun j => .int .i64 (s.tg j)
  cm : Arr wr gC 4 p.length fun j => .bool (decide (j < k))
  dn : Arr wr gD 4 p.length fun j => .bool (dnB out j)
  ls : Arr wr gL 3 8 fun j => .int .i64 (s.last j)
  row : wr.ownsRow base 62 3 (.slice A5 out.length c5) out.length (out.flatMap Sn.cs)
  bel : Below B w1 wr
  ge : B ≤ gT ∧ B ≤ gC ∧ B ≤ gD ∧ B ≤ gL
  lo : gT < base ∧ gC < base ∧ gD < base
  n1 : gT ≠ gC ∧ gT ≠ gD ∧ gC ≠ gD
  n2 : gL ≠ gT ∧ gL ≠ gC ∧ gL ≠ gD
  rne : (Value.slice A5 out.length c5).ownBlock ≠ some gL
section
variable {p : List Pk} {out : List Sn} {B base : Nat} {w1 : World} {gT gC gD gL : Nat} {A5 : Option Addr} {c5 k : Nat} {s : FS} {wr : World}
theorem FRow.drewN (h : FRow p out B base w1 gT gC gD gL A5 c5 k s wr) (m : Nat) : FRow p out B base w1 gT gC gD gL A5 c5 k s (wr.drewN m) := { h with tg := h.tg, cm := h.cm, dn := h.dn, ls := h.ls, row := h.row, bel := below_drewN h.bel m }
theorem FRow.size_ (h : FRow p out B base w1 gT gC gD gL A5 c5 k s wr) : B ≤ wr.heap.size := Nat.le_trans h.ge.1 (Nat.le_of_lt h.tg.lt)
theorem FRow.rowne (h : FRow p out B base w1 gT gC gD gL A5 c5 k s wr) : ∀ b, (Value.slice A5 out.length c5).ownBlock = some b → b ≠ gT ∧ b ≠ gC ∧ b ≠ gD ∧ b ≠ gL := fun b hb => by
  have h1 := own_ge h.row b hb
  have h2 := h.lo
  exact ⟨by omega, by omega, by omega, fun e => h.rne (by rw [hb, e])⟩
/-- Packet k comes. -/
theorem FRow.come {ws : List Int} (h : FRow p out B base w1 gT gC gD gL A5 c5 k s wr) (hk : k < p.length) (m : Nat) {f : Nat} (hf : flN p k = f) {t : Int} (ht : fTag p ws s k = t) :
    FRow p out B base w1 gT gC gD gL A5 c5 (k + 1) (fCome p ws s k) ((((wr.setCell ⟨gC, k, none⟩ (.bool true)).drewN m).setCell ⟨gT, k, none⟩ (.int .i64 t)).setCell ⟨gL, f, none⟩ (.int .i64 t)) := by
  obtain ⟨a1, a2, a3⟩ := h.n1
  obtain ⟨b1, b2, b3⟩ := h.n2
  obtain ⟨c1, c2, c3, c4⟩ := h.ge
  have hr : ∀ b, b ≠ gC → b ≠ gT → b ≠ gL → ((((wr.setCell ⟨gC, k, none⟩ (.bool true)).drewN m).setCell ⟨gT, k, none⟩ (.int .i64 t)).setCell ⟨gL, f, none⟩ (.int .i64 t)).heap[b]? = wr.heap[b]? := fun b h1 h2 h3 =>
    (Below.heap_setCell (((wr.setCell ⟨gC, k, none⟩ (.bool true)).drewN m).setCell ⟨gT, k, none⟩ (.int .i64 t)) ⟨gL, f, none⟩ _ b h3).trans ((Below.heap_setCell ((wr.setCell ⟨gC, k, none⟩ (.bool true)).drewN m) ⟨gT, k, none⟩ _ b h2).trans (Below.heap_setCell wr ⟨gC, k, none⟩ _ b h1))
  refine { h with tg := ?_, cm := ?_, dn := h.dn.same (hr gD a3.symm a2.symm b3.symm), ls := ?_, row := row_same h.row fun b hb => ?_, bel := ?_ }
  · exact (((h.tg.far (p := ⟨gC, k, none⟩) a1 _).drewN m).set_ (d' := fun j => .int .i64 ((fCome p ws s k).tg j)) (k := k) (.int .i64 t) fun j _ => by
      show Value.int .i64 (upd s.tg k (fTag p ws s k) j) = _
      rw [ht]
      by_cases hj : j = k
      · subst hj; rw [upd_same, if_pos rfl]
      · rw [upd_other _ _ hj, if_neg hj]).far (p := ⟨gL, f, none⟩) b1.symm _
  · exact (((h.cm.set_ (d' := fun j => .bool (decide (j < k + 1))) (k := k) (.bool true) fun j _ => by
      by_cases hj : j = k
      · subst hj; rw [if_pos rfl]; simp
      · rw [if_neg hj]; congr 1; exact decide_eq_decide.2 (by omega)).drewN m).far (p := ⟨gT, k, none⟩) a1.symm _).far (p := ⟨gL, f, none⟩) b2.symm _
  · exact (((h.ls.far (p := ⟨gC, k, none⟩) b2 _).drewN m).far (p := ⟨gT, k, none⟩) b1 _).set_ (d' := fun j => .int .i64 ((fCome p ws s k).last j)) (k := f) (.int .i64 t) fun j _ => by
      show Value.int .i64 (upd s.last (flN p k) (fTag p ws s k) j) = _
      rw [ht, hf]
      by_cases hj : j = f
      · subst hj; rw [upd_same, if_pos rfl]
      · rw [upd_other _ _ hj, if_neg hj]
  · obtain ⟨r1, r2, r3, r4⟩ := h.rowne b hb
    exact hr b r2 r1 r4
  · exact (((below_drewN (h.bel.setCell (p := ⟨gC, k, none⟩) c2 _) m).setCell (p := ⟨gT, k, none⟩) c1 _)).setCell (p := ⟨gL, f, none⟩) c4 _
/-- None waits: another row of the last tags. -/
theorem FRow.reset (h : FRow p out B base w1 gT gC gD gL A5 c5 k s wr) {w' : World} (hg : wr.grownBy w' none) (hl : w'.ownsRow wr.heap.size 3 1 (.slice (some ⟨wr.heap.size, 0, none⟩) 8 8) 8 (List.replicate 8 (.int .i64 0))) :
    FRow p out B base w1 gT gC gD wr.heap.size A5 c5 k (fRest s) w' where
  tg := h.tg.grown hg (by simp)
  cm := h.cm.grown hg (by simp)
  dn := h.dn.grown hg (by simp)
  ls := Arr.of_own hl fun _ _ => rfl
  row := row_same h.row fun b hb => hg.block b (own_lt h.row b hb) (by simp)
  bel := h.bel.grown hg h.size_ (by simp)
  ge := ⟨h.ge.1, h.ge.2.1, h.ge.2.2.1, h.size_⟩
  lo := h.lo
  n1 := h.n1
  n2 := ⟨by have := h.tg.lt; omega, by have := h.cm.lt; omega, by have := h.dn.lt; omega⟩
  rne := fun e => by have := own_lt h.row _ e; omega
/-- One is sent. -/
theorem FRow.took (h : FRow p out B base w1 gT gC gD gL A5 c5 k s wr) {w3 : World} {o o2 : Obj} {A6 : Option Addr} {c6 : Nat} {x : Sn} {b : Nat} {w' : List Nat} {v : Int} (hx : x.p = b) (hbw : B ≤ w1.heap.size)
    (hr : w3.ownsRow base 62 3 (.slice A6 (out ++ [x]).length c6) (out ++ [x]).length ((out ++ [x]).flatMap Sn.cs)) (hg : ((wr.alloc o).alloc o2).grownBy w3 (Value.slice A5 out.length c5).ownBlock)
    (ha : (Value.slice A6 (out ++ [x]).length c6).ownBlock = (Value.slice A5 out.length c5).ownBlock ∨ (Value.slice A6 (out ++ [x]).length c6).ownBlock = some ((wr.alloc o).alloc o2).heap.size) :
    FRow p (out ++ [x]) B base w1 gT gC gD gL A6 c6 k { s with w := w', v := v } (w3.setCell ⟨gD, b, none⟩ (.bool true)) := by
  obtain ⟨a1, a2, a3⟩ := h.n1
  obtain ⟨b1, b2, b3⟩ := h.n2
  obtain ⟨c1, c2, c3, c4⟩ := h.ge
  have hne : ∀ g, g = gT ∨ g = gC ∨ g = gD ∨ g = gL → some g ≠ (Value.slice A5 out.length c5).ownBlock := fun g hgg e => by
    obtain ⟨r1, r2, r3, r4⟩ := h.rowne g e.symm
    omega
  have hr6 : ∀ g, (Value.slice A6 (out ++ [x]).length c6).ownBlock = some g → g ≠ gD ∧ g ≠ gL := fun g hgg => by
    rcases ha with e | e
    · rw [hgg] at e
      obtain ⟨r1, r2, r3, r4⟩ := h.rowne g e.symm
      exact ⟨r3, r4⟩
    · rw [hgg] at e
      injection e with e
      simp at e
      have := h.dn.lt
      have := h.ls.lt
      exact ⟨by omega, by omega⟩
  refine { tg := ?_, cm := ?_, dn := ?_, ls := ?_, row := row_same hr fun g hg => Below.heap_setCell w3 ⟨gD, b, none⟩ _ g (hr6 g hg).1, bel := ?_, ge := h.ge, lo := h.lo, n1 := h.n1, n2 := h.n2, rne := fun e => (hr6 _ e).2 rfl }
  · exact (((h.tg.alloc o).alloc o2).grown hg (hne gT (.inl rfl))).far (p := ⟨gD, b, none⟩) a2 _
  · exact (((h.cm.alloc o).alloc o2).grown hg (hne gC (.inr (.inl rfl)))).far (p := ⟨gD, b, none⟩) a3 _
  · exact (((h.dn.alloc o).alloc o2).grown hg (hne gD (.inr (.inr (.inl rfl))))).set_ (d' := fun j => .bool (dnB (out ++ [x]) j)) (k := b) (.bool true) fun j _ => by
      rw [dnB_add, hx]
      by_cases hj : j = b
      · subst hj; rw [if_pos rfl]; simp
      · rw [if_neg hj]
        have : ((b : Int) == (j : Int)) = false := beq_eq_false_iff_ne.2 (by omega)
        rw [this, Bool.or_false]
  · exact (((h.ls.alloc o).alloc o2).grown hg (hne gL (.inr (.inr (.inr rfl))))).far (p := ⟨gD, b, none⟩) b3 _
  · have hsz := h.size_
    refine Below.setCell ((((h.bel.alloc hsz o).alloc (le_alloc hsz o) o2)).grown hg (le_alloc (le_alloc hsz o) o2) fun g hgg => ?_) (p := ⟨gD, b, none⟩) c3 _
    have := own_ge h.row g hgg
    have := h.lo
    omega
end
end Go.Proofs.YthgpbdlmadjndaaGreatDoor
namespace Go.Proofs.YthgpbdlmadjndaaGreatDoor
open Go.RowKit
set_option maxRecDepth 100000
theorem infoBoolF : (Tryz.prog.info? 4).map (fun i => (i.zero, i.size, i.bytes)) = some (some (.bool false), 1, 1) := by kernel_rfl
theorem lo_load2 {w w' : World} {x y z : Value} {T : TypeId} {o2 : Obj} {base2 : Nat} {e : TypeId} {size n : Nat} {v : Value} {xs : List Value} {base : Nat} (h : w.ownsRow base2 e size v n xs) (hg : ((w.alloc (.cells #[x, y, z] T)).alloc o2).grownBy w' v.ownBlock) (hl : base < w.heap.size) (k : Nat) : (w'.setCell ⟨base, k, none⟩ (.bool true)).cell? ⟨w.heap.size, 2, none⟩ = some z := by
  have b : Blk w' w.heap.size T #[x, y, z] := new_grown hg (own_lt h)
  exact (b.far (p := ⟨base, k, none⟩) (by simp only; omega) (.bool true)).cell 2
structure FOut (p : List Pk) (per : Int) (ws : List Int) (B base : Nat) (w1 : World) (gT gC gD gL f : Nat) (t : St FS) (A5 : Option Addr) (c5 : Nat) (wr : World) : Prop where
  run : serveS (fairM p ws) p per fs0 = runS (fairM p ws) p per f t
  fuel : mu p t ≤ f
  inv : Inv (fairM p ws) p t
  cm : ∀ j, j < t.next → aOf p j ≤ t.now
  mem : FRow p t.out B base w1 gT gC gD gL A5 c5 t.next t.s wr
structure FIn (p : List Pk) (ws : List Int) (t : St FS) (i k : Nat) (s : FS) (best first : Int) : Prop where
  cat : CAt (fairM p ws) p t i k s
  sv : s.v = t.s.v
  b : BestAt p s.tg t.now t.out i best
  f : FirstAt t.out i first
/-- What FairOf gives. -/
def EndOf (l : List Sn) (tl : List Int) (w : World) (e : Ending) (w' : World) : Prop :=
  ∃ A1 c1 A2 c2, e = .returned (.tuple #[.slice A1 l.length c1, .slice A2 tl.length c2]) ∧ w'.ownsRow w.heap.size 62 3 (.slice A1 l.length c1) l.length (l.flatMap Sn.cs) ∧ RdI w' w'.heap.size A2 tl ∧ Below w.heap.size w w'
set_option maxHeartbeats 16000000 in
theorem fairOf_any (A A' : Option Addr) (c c' : Nat) (p : List Pk) (per : Int) (ws : List Int) (w : World) (B : Nat) (hB : B ≤ w.heap.size) (h : RdP w B A p) (h' : RdI w B A' ws) (hp : ∀ x ∈ p, okPk x) (hs : p.Pairwise (fun x y => x.a ≤ y.a)) (hl : p.length ≤ 300) (h0 : 1 ≤ per) (h1 : per ≤ 1000) (h8 : ws.length = 8) (hwi : ∀ n ∈ ws, 1 ≤ n ∧ n ≤ 12 ∧ n ∣ 12) :
    Calls Tryz.prog 76 #[.slice A p.length c, .int .i64 per, .slice A' ws.length c'] w (EndOf (fairL p per ws) (tagL p per ws) w) := by
  obtain ⟨iI, hI, hI0, hI1, hI2⟩ := info_parts infoInt3
  obtain ⟨iB, hBo, hB0, hB1, hB2⟩ := info_parts infoBoolF
  obtain ⟨iS, hSn, hS0, hS1, hS2⟩ := info_parts infoSn
  have hw := wOk_of h8 hwi
  have HW := Lib.hid hw
  have H8 := Lib.hid h8
  have HS := Lib.hid hs
  have HP := Lib.hid hp
  clear hw h8 hs hp
  go_enter Tryz.func76, Tryz.ntmps76
  go_wp2_with (first
    | (at_make; refine wpList_make_full _ rfl (.tmp 22) (.tmp 22) 23 rfl w.heap.size 3 iI (.int .i64 0) 1 Tryz.underlying23 hI hI0 hI1 .i64 .i64 p.length p.length p.length rfl rfl rfl rfl (by rw [hI2]; omega) (by simp only [maxLen]; omega) (Nat.le_refl _) ?_; intro wA rowA gA; rw [intRow_new] at rowA)
    | (at_make; refine wpList_make_full _ rfl (.tmp 25) (.tmp 25) 104 rfl wA.heap.size 4 iB (.bool false) 1 Tryz.underlying104 hBo hB0 hB1 .i64 .i64 p.length p.length p.length rfl rfl rfl rfl (by rw [hB2]; omega) (by simp only [maxLen]; omega) (Nat.le_refl _) ?_; intro wB rowB gB; rw [bool_new] at rowB)
    | (at_make; refine wpList_make_full _ rfl (.tmp 28) (.tmp 28) 104 rfl wB.heap.size 4 iB (.bool false) 1 Tryz.underlying104 hBo hB0 hB1 .i64 .i64 p.length p.length p.length rfl rfl rfl rfl (by rw [hB2]; omega) (by simp only [maxLen]; omega) (Nat.le_refl _) ?_; intro wC rowC gC; rw [bool_new] at rowC)
    | (at_make; refine wpList_make_full _ rfl (.const (.int .i64 8)) (.const (.int .i64 8)) 23 rfl wC.heap.size 3 iI (.int .i64 0) 1 Tryz.underlying23 hI hI0 hI1 .i64 .i64 8 8 8 rfl rfl rfl rfl (by rw [hI2]; omega) (by simp only [maxLen]; omega) (Nat.le_refl _) ?_; intro wD rowD gD; rw [intRow_new] at rowD))
  obtain ⟨gT, egT⟩ : ∃ gT, gT = w.heap.size := ⟨_, rfl⟩
  obtain ⟨qC, egC⟩ : ∃ qC, qC = wA.heap.size := ⟨_, rfl⟩
  obtain ⟨qD, egD⟩ : ∃ qD, qD = wB.heap.size := ⟨_, rfl⟩
  obtain ⟨qL, egL⟩ : ∃ qL, qL = wC.heap.size := ⟨_, rfl⟩
  have aT : Arr wA gT 3 p.length fun j => .int .i64 (fs0.tg j) := by rw [egT]; exact Arr.of_own rowA fun _ _ => rfl
  have aC : Arr wB qC 4 p.length fun j => .bool (decide (j < 0)) := by rw [egC]; exact Arr.of_own rowB fun _ _ => rfl
  have aD : Arr wC qD 4 p.length fun j => .bool (dnB [] j) := by rw [egD]; exact Arr.of_own rowC fun _ _ => rfl
  have aL : Arr wD qL 3 8 fun j => .int .i64 (fs0.last j) := by rw [egL]; exact Arr.of_own rowD fun _ _ => rfl
  have lT := aT.lt
  have lC := aC.lt
  have lD := aD.lt
  have lL := aL.lt
  have kA : Below w.heap.size w wA := (Below.refl _ _).grown gA (Nat.le_refl _) (by simp)
  have sA := gA.size
  have sB := gB.size
  have sC := gC.size
  have sD := gD.size
  have kB : Below w.heap.size w wB := kA.grown gB sA (by simp)
  have kC : Below w.heap.size w wC := kB.grown gC (by omega) (by simp)
  have kD : Below w.heap.size w wD := kC.grown gD (by omega) (by simp)
  have mem0 : FRow p [] w.heap.size wD.heap.size wD gT qC qD qL none 0 0 fs0 wD :=
    { tg := ((aT.grown gB (by simp)).grown gC (by simp)).grown gD (by simp), cm := (aC.grown gC (by simp)).grown gD (by simp), dn := aD.grown gD (by simp), ls := aL, row := ⟨by simp, .inl ⟨rfl, rfl⟩⟩, bel := Below.refl _ _, ge := ⟨by omega, by omega, by omega, by omega⟩, lo := ⟨by omega, by omega, by omega⟩, n1 := ⟨by omega, by omega, by omega⟩, n2 := ⟨by omega, by omega, by omega⟩, rne := by simp [Value.ownBlock] }
  have hbw : w.heap.size ≤ wD.heap.size := kD.size
  rw [← egT, ← egC, ← egD, ← egL]
  have M0 := Lib.hid mem0
  have KD := Lib.hid kD
  clear aT aC aD aL lT lC lD lL kA kB kC kD sA sB sC sD egT egC egD egL rowA rowB rowC rowD gA gB gC gD mem0
  go_loopw [8, 12, 13, 14] (fun v lv vv nw wr => ∃ (f : Nat) (t : St FS) (A5 : Option Addr) (c5 gL : Nat), v = .slice A5 t.out.length c5 ∧ lv = .slice (some ⟨gL, 0, none⟩) 8 8 ∧ vv = .int .i64 t.s.v ∧ nw = .int .i64 t.now ∧ FOut p per ws w.heap.size wD.heap.size wD gT qC qD gL f t A5 c5 wr) (fun v _ _ nw _ => muV p (lenOf v) (intOf nw))
  case atStart => exact ⟨_, ⟨[], 0, 0, fs0⟩, none, 0, qL, rfl, rfl, rfl, rfl, ⟨rfl, mu_start p fs0, inv_start (M := fairM p ws) (s0 := fs0) p rfl (fs0_ok p ws), fun j hj => absurd hj (Nat.not_lt_zero _), M0.out⟩⟩
  case round =>
    obtain ⟨f, t, A5, c5, gL, rfl, rfl, rfl, rfl, hR⟩ := hrel
    have n0 := hR.inv.now0
    have n1 := hR.inv.now1
    have HR := Lib.hid hR
    clear hR M0
    by_cases hlt : t.out.length < p.length
    · have HLT := Lib.hid hlt
      go_wp2_with fail
      go_loopw [15, 16, 17] (fun bv fv iv wr => ∃ (i k : Nat) (s : FS) (best first : Int), i ≤ p.length ∧ iv = .int .i64 i ∧ bv = .int .i64 best ∧ fv = .int .i64 first ∧ FIn p ws t i k s best first ∧ FRow p t.out w.heap.size wD.heap.size wD gT qC qD gL A5 c5 k s wr) (fun _ _ iv _ => p.length - (intOf iv).toNat)
      case atStart => exact ⟨0, t.next, t.s, -1, -1, Nat.zero_le _, rfl, rfl, rfl, ⟨CAt.start HR.out.inv, rfl, best0, first0⟩, HR.out.mem⟩
      case round =>
        obtain ⟨i, k, s, best, first, hi, rfl, rfl, rfl, hI9, hm⟩ := hrel
        have HI := Lib.hid hI9
        have HM := Lib.hid hm
        clear hI9 hm
        by_cases hil : i < p.length
        · have kw := KD.out.trans HM.out.bel
          have KW := Lib.hid kw
          obtain ⟨b, o, rfl, hbb, d0, d1, d2⟩ := RdP.get (h.below (kw.mono hB)) hil
          have c0 : wr.cell? ⟨qC, i, none⟩ = some (.bool (decide (i < k))) := HM.out.cm.cell hil
          have e0 : wr.cell? ⟨qD, i, none⟩ = some (.bool (dnB t.out i)) := HM.out.dn.cell hil
          have t0 : wr.cell? ⟨gT, i, none⟩ = some (.int .i64 (s.tg i)) := HM.out.tg.cell hil
          have q1 : (0 : Int) ≤ (i : Int) := by omega
          have q2 : (i : Int) < (p.length : Int) := by omega
          clear kw hi
          by_cases hik : i < k
          · obtain ⟨cat2, hai⟩ := HI.out.cat.old HR.out.cm hik
            have CT := Lib.hid cat2
            have HA := Lib.hid hai
            have SV := Lib.hid HI.out.sv
            rw [decide_eq_true hik] at c0
            clear cat2 hai hik
            cases hd : dnB t.out i with
            | true =>
              rw [hd] at e0
              have HB := Lib.hid (HI.out.b.skip (.inl hd))
              have HF := Lib.hid (HI.out.f.skip (.inl hd))
              clear hd t0
              go_wp2_with fail
              go_roundw
              case rel => exact ⟨i + 1, k, s, best, first, hil, by go_num, rfl, rfl, ⟨CT.out, SV.out, HB.out, HF.out⟩, HM.out⟩
              case measure => simp [intOf]; omega
            | false =>
              rw [hd] at e0
              have HD := Lib.hid hd
              have HBC := Lib.hid HI.out.b
              have TI := Lib.hid (rfl : s.tg i = s.tg i)
              clear hd
              by_cases hf0 : first < 0
              · have HF := Lib.hid (HI.out.f.new_ HD.out hf0)
                by_cases hb0 : best < 0
                · have HB := Lib.hid (HBC.out.new_ HD.out HA.out (.inl hb0))
                  go_wp2_with fail
                  go_quiet (fail)
                  rename Nat => nq
                  go_wp2_with fail
                  go_roundw
                  case rel => exact ⟨i + 1, k, s, i, i, hil, by go_num, rfl, rfl, ⟨CT.out, SV.out, HB.out, HF.out⟩, HM.out.drewN nq⟩
                  case measure => simp [intOf]; omega
                · obtain ⟨bb, rfl⟩ : ∃ bb : Nat, best = bb := ⟨best.toNat, by omega⟩
                  have hbi : bb < i := by have := HI.out.b.lt; omega
                  have hbl : bb < p.length := by omega
                  have tb : wr.cell? ⟨gT, bb, none⟩ = some (.int .i64 (s.tg bb)) := HM.out.tg.cell hbl
                  have TB := Lib.hid (rfl : s.tg bb = s.tg bb)
                  have r1 : (0 : Int) ≤ (bb : Int) := by omega
                  have r2 : (bb : Int) < (p.length : Int) := by omega
                  have R0 := Lib.hid (show decide ((bb : Int) < 0) = false from decide_eq_false (by omega))
                  clear hb0 hbi hbl
                  by_cases hkk : s.tg i < s.tg bb
                  · have HB := Lib.hid (HBC.out.new_ HD.out HA.out (.inr ⟨Int.natCast_nonneg _, by rw [Int.toNat_natCast, TI.out, TB.out]; exact hkk⟩))
                    go_wp2_with fail
                    have r0 := R0.out
                    go_quiet (fail)
                    rename Nat => nq
                    go_wp2_with fail
                    go_roundw
                    case rel => exact ⟨i + 1, k, s, i, i, hil, by go_num, rfl, rfl, ⟨CT.out, SV.out, HB.out, HF.out⟩, HM.out.drewN nq⟩
                    case measure => simp [intOf]; omega
                  · have HB := Lib.hid (HBC.out.keep (Int.natCast_nonneg _) (by rw [Int.toNat_natCast, TI.out, TB.out]; exact Int.not_lt.1 hkk))
                    have RK := Lib.hid (show decide (s.tg i < s.tg bb) = false from decide_eq_false hkk)
                    clear hkk
                    go_wp2_with fail
                    have r0 := R0.out
                    have rk := RK.out
                    go_quiet (fail)
                    rename Nat => nq
                    go_wp2_with fail
                    go_roundw
                    case rel => exact ⟨i + 1, k, s, bb, i, hil, by go_num, rfl, rfl, ⟨CT.out, SV.out, HB.out, HF.out⟩, HM.out.drewN nq⟩
                    case measure => simp [intOf]; omega
              · have HF := Lib.hid (HI.out.f.skip (.inr (Int.not_lt.1 hf0)))
                have hf1 : 0 ≤ first := Int.not_lt.1 hf0
                clear hf0
                by_cases hb0 : best < 0
                · have HB := Lib.hid (HBC.out.new_ HD.out HA.out (.inl hb0))
                  go_wp2_with fail
                  go_quiet (fail)
                  rename Nat => nq
                  go_wp2_with fail
                  go_roundw
                  case rel => exact ⟨i + 1, k, s, i, first, hil, by go_num, rfl, rfl, ⟨CT.out, SV.out, HB.out, HF.out⟩, HM.out.drewN nq⟩
                  case measure => simp [intOf]; omega
                · obtain ⟨bb, rfl⟩ : ∃ bb : Nat, best = bb := ⟨best.toNat, by omega⟩
                  have hbi : bb < i := by have := HI.out.b.lt; omega
                  have hbl : bb < p.length := by omega
                  have tb : wr.cell? ⟨gT, bb, none⟩ = some (.int .i64 (s.tg bb)) := HM.out.tg.cell hbl
                  have TB := Lib.hid (rfl : s.tg bb = s.tg bb)
                  have r1 : (0 : Int) ≤ (bb : Int) := by omega
                  have r2 : (bb : Int) < (p.length : Int) := by omega
                  have R0 := Lib.hid (show decide ((bb : Int) < 0) = false from decide_eq_false (by omega))
                  clear hb0 hbi hbl
                  by_cases hkk : s.tg i < s.tg bb
                  · have HB := Lib.hid (HBC.out.new_ HD.out HA.out (.inr ⟨Int.natCast_nonneg _, by rw [Int.toNat_natCast, TI.out, TB.out]; exact hkk⟩))
                    go_wp2_with fail
                    have r0 := R0.out
                    go_quiet (fail)
                    rename Nat => nq
                    go_wp2_with fail
                    go_roundw
                    case rel => exact ⟨i + 1, k, s, i, first, hil, by go_num, rfl, rfl, ⟨CT.out, SV.out, HB.out, HF.out⟩, HM.out.drewN nq⟩
                    case measure => simp [intOf]; omega
                  · have HB := Lib.hid (HBC.out.keep (Int.natCast_nonneg _) (by rw [Int.toNat_natCast, TI.out, TB.out]; exact Int.not_lt.1 hkk))
                    have RK := Lib.hid (show decide (s.tg i < s.tg bb) = false from decide_eq_false hkk)
                    clear hkk
                    go_wp2_with fail
                    have r0 := R0.out
                    have rk := RK.out
                    go_quiet (fail)
                    rename Nat => nq
                    go_wp2_with fail
                    go_roundw
                    case rel => exact ⟨i + 1, k, s, bb, first, hil, by go_num, rfl, rfl, ⟨CT.out, SV.out, HB.out, HF.out⟩, HM.out.drewN nq⟩
                    case measure => simp [intOf]; omega
          · rw [decide_eq_false hik] at c0
            have hki : k ≤ i := Nat.not_lt.1 hik
            have hd : dnB t.out i = false := HI.out.cat.not_sent HR.out.inv.pos hki
            rw [hd] at e0
            have HD := Lib.hid hd
            clear hd hik
            by_cases ha : p[i].a ≤ t.now
            · have HA := Lib.hid (show aOf p i ≤ t.now by rw [aOf_of hil]; exact ha)
              have eki : k = i := HI.out.cat.now_ HS.out hki hil HA.out
              subst eki
              have hok := HP.out _ (List.getElem_mem hil)
              obtain ⟨fl, hfl⟩ : ∃ fl : Nat, p[k].f = fl := ⟨p[k].f.toNat, by have := hok.1; omega⟩
              have hf8 : fl < 8 := by have := hok.2.1; omega
              have hfN : flN p k = fl := by unfold flN; rw [fOf_of hil, hfl]; simp
              obtain ⟨z, hz⟩ : ∃ z, z = p[k].s := ⟨_, rfl⟩
              have hz1 : 1 ≤ z := by rw [hz]; exact hok.2.2.1
              have hz2 : z ≤ 1500 := by rw [hz]; exact hok.2.2.2.1
              have hflw : fl < ws.length := by rw [H8.out]; exact hf8
              obtain ⟨b2, o2, rfl, hb2, qq⟩ := RdI.get (h'.below (KW.out.mono hB)) hflw
              obtain ⟨q, hq⟩ : ∃ q, q = ws[fl] := ⟨_, rfl⟩
              have hqu : qu ws fl = q := by unfold qu; rw [hq]; simp [List.getD, show fl < ws.length by rw [H8.out]; exact hf8]
              obtain ⟨w1q, w2q, w3q⟩ := hwi _ (List.getElem_mem (show fl < ws.length by rw [H8.out]; exact hf8))
              rw [← hq] at qq w1q w2q w3q
              rw [hfl] at d0
              rw [← hz] at d1
              have hbd := fTag_bd HP.out HW.out HI.out.cat.inv.ok.bd hil
              obtain ⟨lf, hlf⟩ : ∃ lf, lf = s.last fl := ⟨_, rfl⟩
              have hbdl := HI.out.cat.inv.ok.bd.l fl
              have hbdv := HI.out.cat.inv.ok.bd.v
              rw [HI.out.sv] at hbdv
              have hkl := HI.out.cat.inv.ok.le
              rw [← hlf] at hbdl
              have eT : fTag p ws s k = max t.s.v lf + z * (12 / q) := by unfold fTag fInc; rw [HI.out.sv, hfN, hqu, sOf_of hil, ← hz, ← hlf, tag_div w3q]
              have ge := HM.out.ge
              have u1 : (12 : Int) / q ≤ 12 := Int.ediv_le_self _ (by omega)
              have u0 : 0 ≤ (12 : Int) / q := Int.ediv_nonneg (by omega) (by omega)
              have x0 : 0 ≤ z * (12 / q) := Int.mul_nonneg (by omega) u0
              have x1 : z * (12 / q) ≤ 18000 := by
                have := Int.mul_le_mul hz2 u1 u0 (by omega : (0:Int) ≤ 1500)
                omega
              have v1 : (12 : Int).tdiv q = 12 / q := Int.tdiv_eq_ediv_of_nonneg (by omega)
              have V1 := Lib.hid (show IntKind.i64.wrap ((12 : Int).tdiv q) = 12 / q by rw [v1, IntKind.wrap_i64]; omega)
              have V2 := Lib.hid (show IntKind.i64.wrap (z * (12 / q)) = z * (12 / q) by rw [IntKind.wrap_i64]; omega)
              have y4 : q ≠ 0 := by omega
              obtain ⟨W1, hW1⟩ : ∃ W1 : World, W1 = wr.setCell ⟨qC, k, none⟩ (.bool true) := ⟨_, rfl⟩
              have bw : Below B wr W1 := by rw [hW1]; exact (Below.refl _ _).setCell (p := ⟨qC, k, none⟩) (Nat.le_trans hB ge.2.1) _
              have zC := HM.out.cm.frozen k
              have d0' : W1.cell? ⟨b, o + k * 3, none⟩ = some (.int .i64 (fl : Int)) := (bw.cell (p := ⟨b, o + k * 3, none⟩) hbb).trans d0
              have l1 : W1.cell? ⟨gL, fl, none⟩ = some (.int .i64 lf) := by rw [hlf, hW1]; exact (HM.out.ls.far (p := ⟨qC, k, none⟩) HM.out.n2.2.1 _).cell hf8
              have T1 : W1.drew.cell? ⟨gT, k, none⟩ = some (.int .i64 (s.tg k)) := by rw [hW1]; exact (HM.out.tg.far (p := ⟨qC, k, none⟩) HM.out.n1.1 _).cell hil
              have Z1 : W1.drew.frozen? ⟨gT, k, none⟩ = false := by rw [hW1]; exact (HM.out.tg.far (p := ⟨qC, k, none⟩) HM.out.n1.1 _).frozen k
              have s1 : W1.drew.cell? ⟨b, o + k * 3 + 1, none⟩ = some (.int .i64 z) := (bw.cell (p := ⟨b, o + k * 3 + 1, none⟩) hbb).trans d1
              have g1 : W1.drew.cell? ⟨b2, o2 + fl, none⟩ = some (.int .i64 q) := (bw.cell (p := ⟨b2, o2 + fl, none⟩) hb2).trans qq
              have KS := Lib.hid (And.intro s1 g1)
              have KS2 : ∀ u : Value, (W1.drew.setCell ⟨gT, k, none⟩ u).cell? ⟨b, o + k * 3 + 1, none⟩ = some (.int .i64 z) ∧ (W1.drew.setCell ⟨gT, k, none⟩ u).cell? ⟨b2, o2 + fl, none⟩ = some (.int .i64 q) := fun u =>
                ⟨(World.cell?_setCell_far _ ⟨gT, k, none⟩ ⟨b, o + k * 3 + 1, none⟩ u (by show gT ≠ b; omega)).trans s1, (World.cell?_setCell_far _ ⟨gT, k, none⟩ ⟨b2, o2 + fl, none⟩ u (by show gT ≠ b2; omega)).trans g1⟩
              have HKS2 := Lib.hid KS2
              have q3 : (0 : Int) ≤ (fl : Int) := by omega
              have q4 : (fl : Int) < 8 := by omega
              have q5 : (fl : Int) < (ws.length : Int) := by rw [H8.out]; omega
              rw [hW1] at d0' l1
              have HW1 := Lib.hid hW1
              have HLF := Lib.hid hlf
              have HFN := Lib.hid hfN
              have ET := Lib.hid eT
              have CT0 := Lib.hid (HI.out.cat.come (fairOk HP.out HW.out) hil HA.out)
              clear hflw hok hfl hf8 hfN hz hq hqu qq hbd hkl eT ge u1 u0 v1 hW1 bw s1 g1 KS2 hlf hki w1q w2q w3q d1 t0
              by_cases hvl : lf < t.s.v
              · have V3 := Lib.hid (show IntKind.i64.wrap (t.s.v + z * (12 / q)) = t.s.v + z * (12 / q) by rw [IntKind.wrap_i64]; omega)
                obtain ⟨tt, htt⟩ : ∃ tt, tt = t.s.v + z * (12 / q) := ⟨_, rfl⟩
                have ett : fTag p ws s k = tt := by rw [ET.out, htt]; omega
                have HTT := Lib.hid htt
                have m3 := HM.out.come hil 1 HFN.out ett
                have M3 := Lib.hid m3
                have CT := Lib.hid (show CAt (fairM p ws) p t (k + 1) (k + 1) (fCome p ws s k) from CT0.out)
                have SV := Lib.hid (show (fCome p ws s k).v = t.s.v from HI.out.sv)
                have HBC := Lib.hid (HI.out.b.congr (key' := (fCome p ws s k).tg) fun j hj => upd_other _ _ (by omega))
                have TI := Lib.hid (show (fCome p ws s k).tg k = tt by show upd s.tg k (fTag p ws s k) k = tt; rw [upd_same, ett])
                obtain ⟨W2, hW2⟩ : ∃ W2 : World, W2 = (W1.setCell ⟨gT, k, none⟩ (.int .i64 tt)).drew := ⟨_, rfl⟩
                have eW2 : ((wr.setCell ⟨qC, k, none⟩ (.bool true)).drewN 1).setCell ⟨gT, k, none⟩ (.int .i64 tt) = W2 := by rw [hW2, HW1.out]; rfl
                rw [eW2] at m3
                have t2 : W2.cell? ⟨gT, k, none⟩ = some (.int .i64 tt) := by
                  have h9 := ((HM.out.tg.far (p := ⟨qC, k, none⟩) HM.out.n1.1 (.bool true)).drewN 1).set_ (d' := fun j => if j = k then .int .i64 tt else .int .i64 (s.tg j)) (k := k) (.int .i64 tt) fun j _ => rfl
                  rw [eW2] at h9
                  have := h9.cell hil
                  rwa [if_pos rfl] at this
                have a9 := (((HM.out.ls.far (p := ⟨qC, k, none⟩) HM.out.n2.2.1 (.bool true)).drewN 1).far (p := ⟨gT, k, none⟩) HM.out.n2.1 (.int .i64 tt))
                rw [eW2] at a9
                have l2 : W2.cell? ⟨gL, fl, none⟩ = some (.int .i64 lf) := by rw [HLF.out]; exact a9.cell (by omega)
                have z2 := a9.frozen fl
                have c3 : (W2.setCell ⟨gL, fl, none⟩ (.int .i64 tt)).cell? ⟨qC, k, none⟩ = some (.bool true) := by have := m3.cm.cell hil; rwa [decide_eq_true (Nat.lt_succ_self k)] at this
                have e3 : (W2.setCell ⟨gL, fl, none⟩ (.int .i64 tt)).cell? ⟨qD, k, none⟩ = some (.bool false) := by have := m3.dn.cell hil; rwa [HD.out] at this
                have t3 : (W2.setCell ⟨gL, fl, none⟩ (.int .i64 tt)).cell? ⟨gT, k, none⟩ = some (.int .i64 tt) := by have := m3.tg.cell hil; rwa [TI.out] at this
                have Hm3 := Lib.hid m3
                have HW2 := Lib.hid hW2
                clear htt ett m3 eW2 hW2 a9 e0 M3
                go_wp2_with fail
                rw [← HW1.out]
                go_region_held (fun w' => w'.cell? ⟨b, o + k * 3 + 1, none⟩ = some (.int .i64 z) ∧ w'.cell? ⟨b2, o2 + fl, none⟩ = some (.int .i64 q)) (first | exact KS.out | exact HKS2.out _) (fail)
                rw [V1.out, V2.out, V3.out, ← HTT.out, ← HW2.out]
                clear d0' l1 T1 Z1 c0 d2 d0
                by_cases hf0 : first < 0
                · have HF := Lib.hid (HI.out.f.new_ HD.out hf0)
                  by_cases hb0 : best < 0
                  · have HB := Lib.hid (HBC.out.new_ HD.out HA.out (.inl hb0))
                    go_wp2_with fail
                    go_quiet (fail)
                    rename Nat => nq
                    go_wp2_with fail
                    go_roundw
                    case rel => exact ⟨k + 1, k + 1, fCome p ws s k, k, k, hil, by go_num, rfl, rfl, ⟨CT.out, SV.out, HB.out, HF.out⟩, Hm3.out.drewN nq⟩
                    case measure => simp [intOf]; omega
                  · obtain ⟨bb, rfl⟩ : ∃ bb : Nat, best = bb := ⟨best.toNat, by omega⟩
                    have hbi : bb < k := by have := HI.out.b.lt; omega
                    have hbl : bb < p.length := by omega
                    have hne : bb ≠ k := by omega
                    have tb : (W2.setCell ⟨gL, fl, none⟩ (.int .i64 tt)).cell? ⟨gT, bb, none⟩ = some (.int .i64 (s.tg bb)) := by have := Hm3.out.tg.cell hbl; rwa [show (fCome p ws s k).tg bb = s.tg bb from upd_other _ _ hne] at this
                    have TB := Lib.hid (show (fCome p ws s k).tg bb = s.tg bb from upd_other _ _ hne)
                    clear hne
                    have r1 : (0 : Int) ≤ (bb : Int) := by omega
                    have r2 : (bb : Int) < (p.length : Int) := by omega
                    have R0 := Lib.hid (show decide ((bb : Int) < 0) = false from decide_eq_false (by omega))
                    clear hb0 hbi hbl
                    by_cases hkk : tt < s.tg bb
                    · have HB := Lib.hid (HBC.out.new_ HD.out HA.out (.inr ⟨Int.natCast_nonneg _, by rw [Int.toNat_natCast, TI.out, TB.out]; exact hkk⟩))
                      go_wp2_with fail
                      have r0 := R0.out
                      go_quiet (fail)
                      rename Nat => nq
                      go_wp2_with fail
                      go_roundw
                      case rel => exact ⟨k + 1, k + 1, fCome p ws s k, k, k, hil, by go_num, rfl, rfl, ⟨CT.out, SV.out, HB.out, HF.out⟩, Hm3.out.drewN nq⟩
                      case measure => simp [intOf]; omega
                    · have HB := Lib.hid (HBC.out.keep (Int.natCast_nonneg _) (by rw [Int.toNat_natCast, TI.out, TB.out]; exact Int.not_lt.1 hkk))
                      have RK := Lib.hid (show decide (tt < s.tg bb) = false from decide_eq_false hkk)
                      clear hkk
                      go_wp2_with fail
                      have r0 := R0.out
                      have rk := RK.out
                      go_quiet (fail)
                      rename Nat => nq
                      go_wp2_with fail
                      go_roundw
                      case rel => exact ⟨k + 1, k + 1, fCome p ws s k, bb, k, hil, by go_num, rfl, rfl, ⟨CT.out, SV.out, HB.out, HF.out⟩, Hm3.out.drewN nq⟩
                      case measure => simp [intOf]; omega
                · have HF := Lib.hid (HI.out.f.skip (.inr (Int.not_lt.1 hf0)))
                  have hf1 : 0 ≤ first := Int.not_lt.1 hf0
                  clear hf0
                  by_cases hb0 : best < 0
                  · have HB := Lib.hid (HBC.out.new_ HD.out HA.out (.inl hb0))
                    go_wp2_with fail
                    go_quiet (fail)
                    rename Nat => nq
                    go_wp2_with fail
                    go_roundw
                    case rel => exact ⟨k + 1, k + 1, fCome p ws s k, k, first, hil, by go_num, rfl, rfl, ⟨CT.out, SV.out, HB.out, HF.out⟩, Hm3.out.drewN nq⟩
                    case measure => simp [intOf]; omega
                  · obtain ⟨bb, rfl⟩ : ∃ bb : Nat, best = bb := ⟨best.toNat, by omega⟩
                    have hbi : bb < k := by have := HI.out.b.lt; omega
                    have hbl : bb < p.length := by omega
                    have hne : bb ≠ k := by omega
                    have tb : (W2.setCell ⟨gL, fl, none⟩ (.int .i64 tt)).cell? ⟨gT, bb, none⟩ = some (.int .i64 (s.tg bb)) := by have := Hm3.out.tg.cell hbl; rwa [show (fCome p ws s k).tg bb = s.tg bb from upd_other _ _ hne] at this
                    have TB := Lib.hid (show (fCome p ws s k).tg bb = s.tg bb from upd_other _ _ hne)
                    clear hne
                    have r1 : (0 : Int) ≤ (bb : Int) := by omega
                    have r2 : (bb : Int) < (p.length : Int) := by omega
                    have R0 := Lib.hid (show decide ((bb : Int) < 0) = false from decide_eq_false (by omega))
                    clear hb0 hbi hbl
                    by_cases hkk : tt < s.tg bb
                    · have HB := Lib.hid (HBC.out.new_ HD.out HA.out (.inr ⟨Int.natCast_nonneg _, by rw [Int.toNat_natCast, TI.out, TB.out]; exact hkk⟩))
                      go_wp2_with fail
                      have r0 := R0.out
                      go_quiet (fail)
                      rename Nat => nq
                      go_wp2_with fail
                      go_roundw
                      case rel => exact ⟨k + 1, k + 1, fCome p ws s k, k, first, hil, by go_num, rfl, rfl, ⟨CT.out, SV.out, HB.out, HF.out⟩, Hm3.out.drewN nq⟩
                      case measure => simp [intOf]; omega
                    · have HB := Lib.hid (HBC.out.keep (Int.natCast_nonneg _) (by rw [Int.toNat_natCast, TI.out, TB.out]; exact Int.not_lt.1 hkk))
                      have RK := Lib.hid (show decide (tt < s.tg bb) = false from decide_eq_false hkk)
                      clear hkk
                      go_wp2_with fail
                      have r0 := R0.out
                      have rk := RK.out
                      go_quiet (fail)
                      rename Nat => nq
                      go_wp2_with fail
                      go_roundw
                      case rel => exact ⟨k + 1, k + 1, fCome p ws s k, bb, first, hil, by go_num, rfl, rfl, ⟨CT.out, SV.out, HB.out, HF.out⟩, Hm3.out.drewN nq⟩
                      case measure => simp [intOf]; omega
              · have V3 := Lib.hid (show IntKind.i64.wrap (lf + z * (12 / q)) = lf + z * (12 / q) by rw [IntKind.wrap_i64]; omega)
                obtain ⟨tt, htt⟩ : ∃ tt, tt = lf + z * (12 / q) := ⟨_, rfl⟩
                have ett : fTag p ws s k = tt := by rw [ET.out, htt]; omega
                have hvl2 : t.s.v ≤ lf := Int.not_lt.1 hvl
                clear hvl
                have HTT := Lib.hid htt
                have m3 := HM.out.come hil 1 HFN.out ett
                have M3 := Lib.hid m3
                have CT := Lib.hid (show CAt (fairM p ws) p t (k + 1) (k + 1) (fCome p ws s k) from CT0.out)
                have SV := Lib.hid (show (fCome p ws s k).v = t.s.v from HI.out.sv)
                have HBC := Lib.hid (HI.out.b.congr (key' := (fCome p ws s k).tg) fun j hj => upd_other _ _ (by omega))
                have TI := Lib.hid (show (fCome p ws s k).tg k = tt by show upd s.tg k (fTag p ws s k) k = tt; rw [upd_same, ett])
                obtain ⟨W2, hW2⟩ : ∃ W2 : World, W2 = (W1.setCell ⟨gT, k, none⟩ (.int .i64 tt)).drew := ⟨_, rfl⟩
                have eW2 : ((wr.setCell ⟨qC, k, none⟩ (.bool true)).drewN 1).setCell ⟨gT, k, none⟩ (.int .i64 tt) = W2 := by rw [hW2, HW1.out]; rfl
                rw [eW2] at m3
                have t2 : W2.cell? ⟨gT, k, none⟩ = some (.int .i64 tt) := by
                  have h9 := ((HM.out.tg.far (p := ⟨qC, k, none⟩) HM.out.n1.1 (.bool true)).drewN 1).set_ (d' := fun j => if j = k then .int .i64 tt else .int .i64 (s.tg j)) (k := k) (.int .i64 tt) fun j _ => rfl
                  rw [eW2] at h9
                  have := h9.cell hil
                  rwa [if_pos rfl] at this
                have a9 := (((HM.out.ls.far (p := ⟨qC, k, none⟩) HM.out.n2.2.1 (.bool true)).drewN 1).far (p := ⟨gT, k, none⟩) HM.out.n2.1 (.int .i64 tt))
                rw [eW2] at a9
                have l2 : W2.cell? ⟨gL, fl, none⟩ = some (.int .i64 lf) := by rw [HLF.out]; exact a9.cell (by omega)
                have z2 := a9.frozen fl
                have c3 : (W2.setCell ⟨gL, fl, none⟩ (.int .i64 tt)).cell? ⟨qC, k, none⟩ = some (.bool true) := by have := m3.cm.cell hil; rwa [decide_eq_true (Nat.lt_succ_self k)] at this
                have e3 : (W2.setCell ⟨gL, fl, none⟩ (.int .i64 tt)).cell? ⟨qD, k, none⟩ = some (.bool false) := by have := m3.dn.cell hil; rwa [HD.out] at this
                have t3 : (W2.setCell ⟨gL, fl, none⟩ (.int .i64 tt)).cell? ⟨gT, k, none⟩ = some (.int .i64 tt) := by have := m3.tg.cell hil; rwa [TI.out] at this
                have Hm3 := Lib.hid m3
                have HW2 := Lib.hid hW2
                clear htt ett m3 eW2 hW2 a9 e0 M3
                go_wp2_with fail
                rw [← HW1.out]
                go_region_held (fun w' => w'.cell? ⟨b, o + k * 3 + 1, none⟩ = some (.int .i64 z) ∧ w'.cell? ⟨b2, o2 + fl, none⟩ = some (.int .i64 q)) (first | exact KS.out | exact HKS2.out _) (fail)
                rw [V1.out, V2.out, V3.out, ← HTT.out, ← HW2.out]
                clear d0' l1 T1 Z1 c0 d2 d0
                by_cases hf0 : first < 0
                · have HF := Lib.hid (HI.out.f.new_ HD.out hf0)
                  by_cases hb0 : best < 0
                  · have HB := Lib.hid (HBC.out.new_ HD.out HA.out (.inl hb0))
                    go_wp2_with fail
                    go_quiet (fail)
                    rename Nat => nq
                    go_wp2_with fail
                    go_roundw
                    case rel => exact ⟨k + 1, k + 1, fCome p ws s k, k, k, hil, by go_num, rfl, rfl, ⟨CT.out, SV.out, HB.out, HF.out⟩, Hm3.out.drewN nq⟩
                    case measure => simp [intOf]; omega
                  · obtain ⟨bb, rfl⟩ : ∃ bb : Nat, best = bb := ⟨best.toNat, by omega⟩
                    have hbi : bb < k := by have := HI.out.b.lt; omega
                    have hbl : bb < p.length := by omega
                    have hne : bb ≠ k := by omega
                    have tb : (W2.setCell ⟨gL, fl, none⟩ (.int .i64 tt)).cell? ⟨gT, bb, none⟩ = some (.int .i64 (s.tg bb)) := by have := Hm3.out.tg.cell hbl; rwa [show (fCome p ws s k).tg bb = s.tg bb from upd_other _ _ hne] at this
                    have TB := Lib.hid (show (fCome p ws s k).tg bb = s.tg bb from upd_other _ _ hne)
                    clear hne
                    have r1 : (0 : Int) ≤ (bb : Int) := by omega
                    have r2 : (bb : Int) < (p.length : Int) := by omega
                    have R0 := Lib.hid (show decide ((bb : Int) < 0) = false from decide_eq_false (by omega))
                    clear hb0 hbi hbl
                    by_cases hkk : tt < s.tg bb
                    · have HB := Lib.hid (HBC.out.new_ HD.out HA.out (.inr ⟨Int.natCast_nonneg _, by rw [Int.toNat_natCast, TI.out, TB.out]; exact hkk⟩))
                      go_wp2_with fail
                      have r0 := R0.out
                      go_quiet (fail)
                      rename Nat => nq
                      go_wp2_with fail
                      go_roundw
                      case rel => exact ⟨k + 1, k + 1, fCome p ws s k, k, k, hil, by go_num, rfl, rfl, ⟨CT.out, SV.out, HB.out, HF.out⟩, Hm3.out.drewN nq⟩
                      case measure => simp [intOf]; omega
                    · have HB := Lib.hid (HBC.out.keep (Int.natCast_nonneg _) (by rw [Int.toNat_natCast, TI.out, TB.out]; exact Int.not_lt.1 hkk))
                      have RK := Lib.hid (show decide (tt < s.tg bb) = false from decide_eq_false hkk)
                      clear hkk
                      go_wp2_with fail
                      have r0 := R0.out
                      have rk := RK.out
                      go_quiet (fail)
                      rename Nat => nq
                      go_wp2_with fail
                      go_roundw
                      case rel => exact ⟨k + 1, k + 1, fCome p ws s k, bb, k, hil, by go_num, rfl, rfl, ⟨CT.out, SV.out, HB.out, HF.out⟩, Hm3.out.drewN nq⟩
                      case measure => simp [intOf]; omega
                · have HF := Lib.hid (HI.out.f.skip (.inr (Int.not_lt.1 hf0)))
                  have hf1 : 0 ≤ first := Int.not_lt.1 hf0
                  clear hf0
                  by_cases hb0 : best < 0
                  · have HB := Lib.hid (HBC.out.new_ HD.out HA.out (.inl hb0))
                    go_wp2_with fail
                    go_quiet (fail)
                    rename Nat => nq
                    go_wp2_with fail
                    go_roundw
                    case rel => exact ⟨k + 1, k + 1, fCome p ws s k, k, first, hil, by go_num, rfl, rfl, ⟨CT.out, SV.out, HB.out, HF.out⟩, Hm3.out.drewN nq⟩
                    case measure => simp [intOf]; omega
                  · obtain ⟨bb, rfl⟩ : ∃ bb : Nat, best = bb := ⟨best.toNat, by omega⟩
                    have hbi : bb < k := by have := HI.out.b.lt; omega
                    have hbl : bb < p.length := by omega
                    have hne : bb ≠ k := by omega
                    have tb : (W2.setCell ⟨gL, fl, none⟩ (.int .i64 tt)).cell? ⟨gT, bb, none⟩ = some (.int .i64 (s.tg bb)) := by have := Hm3.out.tg.cell hbl; rwa [show (fCome p ws s k).tg bb = s.tg bb from upd_other _ _ hne] at this
                    have TB := Lib.hid (show (fCome p ws s k).tg bb = s.tg bb from upd_other _ _ hne)
                    clear hne
                    have r1 : (0 : Int) ≤ (bb : Int) := by omega
                    have r2 : (bb : Int) < (p.length : Int) := by omega
                    have R0 := Lib.hid (show decide ((bb : Int) < 0) = false from decide_eq_false (by omega))
                    clear hb0 hbi hbl
                    by_cases hkk : tt < s.tg bb
                    · have HB := Lib.hid (HBC.out.new_ HD.out HA.out (.inr ⟨Int.natCast_nonneg _, by rw [Int.toNat_natCast, TI.out, TB.out]; exact hkk⟩))
                      go_wp2_with fail
                      have r0 := R0.out
                      go_quiet (fail)
                      rename Nat => nq
                      go_wp2_with fail
                      go_roundw
                      case rel => exact ⟨k + 1, k + 1, fCome p ws s k, k, first, hil, by go_num, rfl, rfl, ⟨CT.out, SV.out, HB.out, HF.out⟩, Hm3.out.drewN nq⟩
                      case measure => simp [intOf]; omega
                    · have HB := Lib.hid (HBC.out.keep (Int.natCast_nonneg _) (by rw [Int.toNat_natCast, TI.out, TB.out]; exact Int.not_lt.1 hkk))
                      have RK := Lib.hid (show decide (tt < s.tg bb) = false from decide_eq_false hkk)
                      clear hkk
                      go_wp2_with fail
                      have r0 := R0.out
                      have rk := RK.out
                      go_quiet (fail)
                      rename Nat => nq
                      go_wp2_with fail
                      go_roundw
                      case rel => exact ⟨k + 1, k + 1, fCome p ws s k, bb, first, hil, by go_num, rfl, rfl, ⟨CT.out, SV.out, HB.out, HF.out⟩, Hm3.out.drewN nq⟩
                      case measure => simp [intOf]; omega
            · have HAN := Lib.hid (show decide (p[i].a ≤ t.now) = false from decide_eq_false ha)
              have CT := Lib.hid (HI.out.cat.late hki (by rw [aOf_of hil]; omega))
              have SV := Lib.hid HI.out.sv
              have HB := Lib.hid (HI.out.b.skip (.inr (by rw [aOf_of hil]; omega)))
              have ha2 : t.now < p[i].a := Int.not_le.1 ha
              clear ha hki
              by_cases hf0 : first < 0
              · have HF := Lib.hid (HI.out.f.new_ HD.out hf0)
                go_wp2_with fail
                go_quiet (fail)
                rename Nat => nq
                go_wp2_with fail
                go_roundw
                case rel => exact ⟨i + 1, k, s, best, i, hil, by go_num, rfl, rfl, ⟨CT.out, SV.out, HB.out, HF.out⟩, HM.out.drewN nq⟩
                case measure => simp [intOf]; omega
              · have HF := Lib.hid (HI.out.f.skip (.inr (Int.not_lt.1 hf0)))
                have hf1 : 0 ≤ first := Int.not_lt.1 hf0
                clear hf0
                go_wp2_with fail
                go_quiet (fail)
                rename Nat => nq
                go_wp2_with fail
                go_roundw
                case rel => exact ⟨i + 1, k, s, best, first, hil, by go_num, rfl, rfl, ⟨CT.out, SV.out, HB.out, HF.out⟩, HM.out.drewN nq⟩
                case measure => simp [intOf]; omega
        · have hie : i = p.length := by omega
          subst hie
          have hrun := runS_step (fairM p ws) p per f t HLT.out HR.out.fuel
          have hstep := step_inv (fairOk HP.out HW.out) HP.out h0 h1 HR.out.inv HLT.out
          have hcm := gcame_step (fairOk HP.out HW.out) HP.out HS.out h0 HR.out.inv HLT.out HR.out.cm
          have kv := KD.out.trans HM.out.bel
          have zv := HM.out.bel.size
          by_cases hbn : best < 0
          · obtain ⟨hfe, hf2, e2⟩ := fair_none HP.out HW.out HS.out HR.out.inv HR.out.cm HLT.out HI.out.cat HI.out.b HI.out.f hbn
            subst hfe
            rw [e2] at hrun hstep hcm
            obtain ⟨b, o, rfl, hbb, d0, d1, d2⟩ := RdP.get (h.below (kv.mono hB)) hf2
            have q1 : (0 : Int) ≤ (k : Int) := by omega
            have q2 : (k : Int) < (p.length : Int) := by omega
            have hbl : b < wr.heap.size := by have := kv.size; omega
            have Hrun := Lib.hid hrun
            have Hstep := Lib.hid hstep
            have Hcm := Lib.hid hcm
            clear hrun hstep hcm e2 hil d0 d1
            go_wp2_with (at_make; refine wpList_make_full _ rfl (.const (.int .i64 8)) (.const (.int .i64 8)) 23 rfl wr.heap.size 3 iI (.int .i64 0) 1 Tryz.underlying23 hI hI0 hI1 .i64 .i64 8 8 8 rfl rfl rfl rfl (by rw [hI2]; omega) (by simp only [maxLen]; omega) (Nat.le_refl _) ?_; intro wN rowN gN; rw [intRow_new] at rowN; have HRN := Lib.hid rowN; have d2' := (((Below.refl wr.heap.size wr).grown gN (Nat.le_refl _) (by simp)).cell (p := ⟨b, o + k * 3 + 2, none⟩) hbl).trans d2; clear rowN)
            go_roundw
            case rel => exact ⟨f - 1, ⟨t.out, aOf p k, k, fRest s⟩, A5, c5, wr.heap.size, rfl, rfl, rfl, by rw [aOf_of hf2], ⟨HR.out.run.trans Hrun.out, by have := Hstep.out.2; have := HR.out.fuel; omega, Hstep.out.1, Hcm.out, HM.out.reset gN HRN.out⟩⟩
            case measure =>
              have h9 := Hstep.out.2
              unfold mu at h9
              simp only [aOf_of hf2] at h9
              exact h9
          · obtain ⟨b9, w9, hbe, hkl, hdk, e2⟩ := fair_some (per := per) HP.out HW.out HS.out HR.out.inv HR.out.cm HI.out.cat HI.out.b (by omega)
            subst hbe
            rw [e2, sOf_of hkl] at hrun hstep hcm
            obtain ⟨b, o, rfl, hbb, d0, d1, d2⟩ := RdP.get (h.below (kv.mono hB)) hkl
            have hokk := HP.out _ (List.getElem_mem hkl)
            obtain ⟨z, hz⟩ : ∃ z, z = p[b9].s := ⟨_, rfl⟩
            have hz1 : 1 ≤ z := by rw [hz]; exact hokk.2.2.1
            have hz2 : z ≤ 1500 := by rw [hz]; exact hokk.2.2.2.1
            rw [← hz] at d1 hrun hstep hcm
            have m1 : 0 ≤ per * z := Int.mul_nonneg (by omega) (by omega)
            have m2 : per * z ≤ 1500000 := by
              have := Int.mul_le_mul h1 hz2 (by omega) (by omega : (0:Int) ≤ 1000)
              omega
            obtain ⟨x, hx⟩ : ∃ x : Sn, x = ⟨b9, t.now, t.now + per * z⟩ := ⟨_, rfl⟩
            rw [← hx] at hrun hstep hcm
            obtain ⟨out', ho⟩ : ∃ out', out' = t.out ++ [x] := ⟨_, rfl⟩
            rw [← ho] at hrun hstep hcm
            have Hx := Lib.hid hx
            have Ho := Lib.hid ho
            have Hrun := Lib.hid hrun
            have Hstep := Lib.hid hstep
            have Hcm := Lib.hid hcm
            have hlt := HLT.out
            have hq3 : t.out.length + [x].length ≤ maxLen := by simp only [maxLen, List.length_cons, List.length_nil]; omega
            have hq4 : (t.out.length + [x].length) * 24 ≤ 140737488355328 := by simp only [List.length_cons, List.length_nil]; omega
            have hq5 : wD.heap.size ≤ ((wr.alloc (.cells #[.int .i64 b9, .int .i64 t.now, .int .i64 (t.now + per * z)] 62)).alloc (.cells #[.int .i64 b9, .int .i64 t.now, .int .i64 (t.now + per * z)] 62)).heap.size := by simp; omega
            have q1 : (0 : Int) ≤ (b9 : Int) := by omega
            have q2 : (b9 : Int) < (p.length : Int) := by omega
            clear hrun hstep hcm e2 hil hbn hx ho hdk hokk d0 d2 hz hlt
            go_wp2_with (at_builtin; refine wpList_append_rd _ Sn.cs rfl (.tmp 142) (.tmp 144) 39 rfl wD.heap.size 62 iS (.agg #[.int .i64 0, .int .i64 0, .int .i64 0]) 3 24 Tryz.underlying39 hSn hS0 hS1 hS2 rfl (by omega) Sn.cs_len Sn.cs_one (.slice A5 t.out.length c5) t.out.length (t.out.flatMap Sn.cs) rfl ((HM.out.row.alloc _).alloc _) (wr.heap.size + 2) (some ⟨wr.heap.size + 1, 0, none⟩) 1 [x] rfl (Rd.of_block (heap_alloc_new2 _ _ _) ((congrArg (fun y => [y].flatMap Sn.cs) Hx.out).symm) (Nat.lt_succ_self _) (by omega) Sn.cs_len) hq3 hq4 hq5 ?_; intro v3 w3 row3 g3 at3; obtain ⟨A6, c6, hv6, row3⟩ := own_app row3 (by omega); rw [hv6] at at3; have m4 := HM.out.took (b := b9) (w' := w9) (v := s.tg b9) (by rw [Hx.out]) hbw row3 g3 at3; rw [← Ho.out] at hv6 m4; have M4 := Lib.hid m4; have a3 := ((HM.out.dn.alloc (.cells #[.int .i64 b9, .int .i64 t.now, .int .i64 (t.now + per * z)] 62)).alloc (.cells #[.int .i64 b9, .int .i64 t.now, .int .i64 (t.now + per * z)] 62)).grown g3 (fun e => (HM.out.rowne _ e.symm).2.2.1 rfl); have c3 := a3.cell hkl; have f3 := a3.frozen b9; have t4 : (w3.setCell ⟨qD, b9, none⟩ (.bool true)).cell? ⟨gT, b9, none⟩ = some (.int .i64 (s.tg b9)) := m4.tg.cell hkl; have x3 := lo_load2 HM.out.row g3 HM.out.dn.lt b9; rw [hv6]; clear hv6 m4 a3 row3 g3 at3)
            go_roundw
            case rel => exact ⟨f - 1, ⟨out', t.now + per * z, k, { s with w := w9, v := s.tg b9 }⟩, A6, c6, gL, rfl, rfl, rfl, rfl, ⟨HR.out.run.trans Hrun.out, by have := Hstep.out.2; have := HR.out.fuel; omega, Hstep.out.1, Hcm.out, M4.out⟩⟩
            case measure => exact Hstep.out.2
    · have e := HR.out.run.trans (runS_done (fairM p ws) p per f t hlt)
      have eL := Lib.hid (show fairL p per ws = t.out by unfold fairL; rw [e])
      have eT := Lib.hid (show tagL p per ws = (List.range p.length).map t.s.tg by unfold tagL fairT; rw [e])
      clear e
      go_wp2_with fail
      go_ret2
      rw [eL.out, eT.out]
      exact ⟨A5, c5, some ⟨gT, 0, none⟩, p.length, by simp, own_mono HR.out.mem.row hbw, HR.out.mem.tg.rdI, KD.out.trans HR.out.mem.bel⟩
end Go.Proofs.YthgpbdlmadjndaaGreatDoor
