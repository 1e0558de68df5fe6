/- Lists of numbers in memory of the call's own, which may begin in the middle of their row: append, the head, what is left without the head. No condition. Package round: the turns of flows in memory; a packet comes. Conditions written at each. Package round: a packet comes to the turns of flows. Conditions written at each. -/
import Derived.Test.YthgpbdlmadjndaaDoorRkA
import Derived.ArgAppend
import Derived.Test.YthgpbdlmadjndaaDoorRdPl
import Derived.Test.YthgpbdlmadjndaaDoorRkB
import Derived.Deep.RegionLaw
import Derived.Laws.OwnMore
namespace Go.Proofs.YthgpbdlmadjndaaDoor
open Go.RowKit
set_option maxRecDepth 100000
def MRow (w : World) (base : Nat) (e : TypeId) (v : Value) (s : List Nat) : Prop :=
  (v = .slice none 0 0 ∧ s = []) ∨ ∃ b o cap cur, v = .slice (some ⟨b, o, none⟩) s.length cap ∧ base ≤ b ∧ w.heap[b]? = some (.cells cur e (0, 0)) ∧ s.length ≤ cap ∧ cap ≤ maxLen ∧ o + cap ≤ cur.size ∧ ∀ (j : Nat) (h : j < s.length), cur[o + j]? = some (.int .i64 (s[j] : Int))
section
variable {w w' : World} {base : Nat} {e : TypeId} {v : Value} {s : List Nat}
theorem MRow.nil_ (w : World) (base : Nat) (e : TypeId) : MRow w base e (.slice none 0 0) [] := .inl ⟨rfl, rfl⟩
theorem MRow.same (h : MRow w base e v s) (hb : ∀ g, v.ownBlock = some g → w'.heap[g]? = w.heap[g]?) : MRow w' base e v s := by
  rcases h with h | ⟨b, o, cap, cur, hv, h1, h2, h3⟩
  · exact .inl h
  · exact .inr ⟨b, o, cap, cur, hv, h1, (hb b (by rw [hv]; rfl)).trans h2, h3⟩
theorem MRow.lt (h : MRow w base e v s) : ∀ g, v.ownBlock = some g → base ≤ g ∧ g < w.heap.size := by
  intro g hg
  rcases h with ⟨rfl, _⟩ | ⟨b, o, cap, cur, rfl, h1, h2, _⟩
  · simp [Value.ownBlock] at hg
  · obtain rfl : b = g := by simpa [Value.ownBlock] using hg
    exact ⟨h1, lt_of_block h2⟩
theorem MRow.slice (h : MRow w base e v s) : ∃ A c, v = .slice A s.length c := by
  rcases h with ⟨rfl, rfl⟩ | ⟨b, o, cap, cur, rfl, _⟩
  · exact ⟨none, 0, rfl⟩
  · exact ⟨_, _, rfl⟩
theorem MRow.slice_ (h : MRow w base e v s) : ∃ A n c, v = .slice A n c := by
  obtain ⟨A, c, hv⟩ := h.slice
  exact ⟨A, _, c, hv⟩
theorem MRow.alloc (h : MRow w base e v s) (o : Obj) : MRow (w.alloc o) base e v s := h.same fun g hg => Below.heap_alloc w o g (h.lt g hg).2
theorem MRow.drewN (h : MRow w base e v s) (m : Nat) : MRow (w.drewN m) base e v s := h
theorem MRow.set_ (h : MRow w base e v s) {a : Addr} (ha : v.ownBlock ≠ some a.block) (u : Value) : MRow (w.setCell a u) base e v s := h.same fun g hg => Below.heap_setCell w a u g (fun e => ha (by rw [hg, e]))
theorem MRow.of_own (h : w.ownsRow base e 1 v s.length (s.flatMap nCs)) : MRow w base e v s := by
  obtain ⟨h0, h⟩ := h
  rcases h with ⟨rfl, hx⟩ | ⟨g, cap, cur, hv, hg, hh, hn, hc, hsz, ht⟩
  · refine .inl ⟨rfl, ?_⟩
    cases s with
    | nil => rfl
    | cons x r => simp [nCs] at hx
  · refine .inr ⟨g, 0, cap, cur, hv, hg, hh, hn, hc, by omega, fun j hj => ?_⟩
    have e1 : (s.flatMap nCs)[j]? = some (.int .i64 (s[j] : Int)) := by
      rw [flat_get nCs 1 Nat.one_pos nCs_len]
      simp [Nat.div_one, Nat.mod_one, hj, nCs]
    rw [← ht, List.getElem?_take] at e1
    split at e1
    · rw [Nat.zero_add]; simpa using e1
    · cases e1
theorem MRow.at_ (h : MRow w base e v s) (h0 : 0 < s.length) : ∃ b o c, v = .slice (some ⟨b, o, none⟩) s.length c ∧ s.length ≤ c ∧ b < w.heap.size ∧ ∀ (j : Nat) (h : j < s.length), w.cell? ⟨b, o + j, none⟩ = some (.int .i64 (s[j] : Int)) := by
  rcases h with ⟨_, rfl⟩ | ⟨b, o, cap, cur, rfl, h1, h2, h3, h4, h5, h6⟩
  · simp at h0
  · exact ⟨b, o, cap, rfl, h3, lt_of_block h2, fun j hj => (cell_blk h2 (o + j)).trans (h6 j hj)⟩
/-- Without its head. -/
theorem MRow.tail {k : Nat} {b o c : Nat} (h : MRow w base e (.slice (some ⟨b, o, none⟩) (s.length + 1) c) (k :: s)) : MRow w base e (.slice (some (if c = 1 then ⟨b, o, none⟩ else ⟨b, o + 1, none⟩)) s.length (c - 1)) s := by
  rcases h with ⟨h, _⟩ | ⟨b', o', cap, cur, hv, h1, h2, h3, h4, h5, h6⟩
  · cases h
  · simp only [List.length_cons, Value.slice.injEq, Option.some.injEq, Addr.mk.injEq, and_true] at hv h3
    obtain ⟨⟨rfl, rfl⟩, _, rfl⟩ := hv
    by_cases hc : c = 1
    · subst hc
      rw [if_pos rfl]
      refine .inr ⟨b, o, 0, cur, rfl, h1, h2, by omega, Nat.zero_le _, by omega, fun j hj => by omega⟩
    · rw [if_neg hc]
      refine .inr ⟨b, o + 1, c - 1, cur, rfl, h1, h2, by omega, by omega, by omega, fun j hj => ?_⟩
      have := h6 (j + 1) (by simp only [List.length_cons]; omega)
      rw [show o + 1 + j = o + (j + 1) by omega]
      simpa using this
end
theorem mrow_append {P : Program} (w : World) (base : Nat) (t ty e : TypeId) (i : TypeInfo) (ht : P.underlying t = some (.slice e)) (hi : P.info? e = some i) (hz : i.zero = some (.int .i64 0)) (hsize : i.size = 1) (hby : i.bytes = 8)
    (v : Value) (s : List Nat) (h : MRow w base e v s) (a : Addr) (k : Nat) (ha : w.cell? a = some (.int .i64 (k : Int))) (hl : s.length ≤ 1000) (hbase : base ≤ w.heap.size) :
    ∃ v' w', (Builtin.append_ #[t, t] ty #[v, .slice (some a) 1 1]).run P w = .ok v' w' ∧ MRow w' base e v' (s ++ [k]) ∧ w.grownBy w' v.ownBlock ∧ (v'.ownBlock = v.ownBlock ∨ ∃ g, v'.ownBlock = some g ∧ w.heap.size ≤ g) := by
  have hnews : ∀ j u, [Value.int .i64 (k : Int)][j]? = some u → w.cell? (a.add j) = some u := fun j u hj => by
    cases j with
    | zero =>
      simp only [List.getElem?_cons_zero, Option.some.injEq] at hj
      subst hj
      unfold Addr.add
      simpa using ha
    | succ j => simp at hj
  have hone : ∀ u ∈ [Value.int .i64 (k : Int)], u.oneCell' = true := by simp [Value.oneCell']
  have hfl : ∀ s : List Nat, s.map (fun n : Nat => Value.int .i64 (n : Int)) ++ [Value.int .i64 (k : Int)] = (s ++ [k]).flatMap nCs := fun s => by
    induction s with
    | nil => rfl
    | cons x r ih => rw [List.cons_append, List.flatMap_cons, ← ih]; rfl
  have hfl2 : ∀ s : List Nat, s.map (fun n : Nat => Value.int .i64 (n : Int)) = s.flatMap nCs := fun s => by
    induction s with
    | nil => rfl
    | cons x r ih => rw [List.flatMap_cons, ← ih]; rfl
  rcases h with ⟨rfl, rfl⟩ | ⟨b, o, cap, cur, rfl, h1, h2, h3, h4, h5, h6⟩
  · obtain ⟨v', w', hrun, r1, r2, r3⟩ := run_append_own_at (P := P) w base t ty e i (.int .i64 0) 1 8 ht hi hz hsize hby rfl (by omega) (.slice none 0 0) 0 [] (World.ownsRow_nil w base e 1) a 1 1 [.int .i64 (k : Int)] rfl hnews hone (by simp [maxLen]) (by omega) hbase
    have r4 : w'.ownsRow base e 1 v' ([k] : List Nat).length (([k] : List Nat).flatMap nCs) := r1
    exact ⟨v', w', hrun, MRow.of_own r4, r2, r3.2.imp id fun e => ⟨_, e, Nat.le_refl _⟩⟩
  · by_cases hr : s.length + 1 ≤ cap
    · have hrun := run_append_room_cells (P := P) w t ty e i ht hi b o s.length cap a 1 1 [.int .i64 (k : Int)] (by rw [hsize]; rfl) hnews hone hr (fun j hj => by
          rw [hsize, cell_blk h2]
          have : j = 0 := by simpa using hj
          subst this
          rw [Array.getElem?_eq_getElem (by omega)]; rfl) (fun j hj => by simp [World.frozen?, h2])
      rw [hsize, Nat.mul_one] at hrun
      refine ⟨_, _, hrun, .inr ⟨b, o, cap, cur.setIfInBounds (o + s.length) (.int .i64 (k : Int)), by simp, h1, ?_, by simpa using hr, h4, by simpa using h5, fun j hj => ?_⟩, ?_, .inl rfl⟩
      · show (w.setCell ⟨b, o + s.length, none⟩ (.int .i64 (k : Int))).heap[b]? = _
        simp [World.setCell, Array.getElem?_modify, h2]
      · rw [List.length_append, List.length_cons, List.length_nil] at hj
        rw [Array.getElem?_setIfInBounds]
        by_cases hjs : j = s.length
        · subst hjs
          rw [if_pos rfl, if_pos (by omega)]
          simp
        · rw [if_neg (by omega), h6 j (by omega), List.getElem_append_left (by omega)]
      · exact ⟨rfl, rfl, rfl, by simp [World.setCells, World.setCell], fun x hx hne => Below.heap_setCell w ⟨b, o + s.length, none⟩ _ x (fun e => hne (by rw [e]; rfl))⟩
    · obtain ⟨v', w', hrun, r1, r2⟩ := run_append_arg_grows (P := P) w t ty e i (.int .i64 0) 1 8 ht hi hz hsize hby rfl (by omega) ⟨b, o, none⟩ s.length cap (s.map fun n : Nat => Value.int .i64 (n : Int)) (by simp) (fun j u hj => by
          rw [add_mk, cell_blk h2]
          have hjl : j < s.length := by
            have := (List.getElem?_eq_some_iff.1 hj).1
            simpa using this
          rw [h6 j hjl]
          simpa [hjl] using hj) a 1 1 [.int .i64 (k : Int)] rfl hnews (by omega) (by simp only [maxLen]; omega) (by omega)
      rw [hfl] at r1
      have r4 : w'.ownsRow w.heap.size e 1 v' (s ++ [k]).length ((s ++ [k]).flatMap nCs) := by simpa using r1
      have r5 := own_mono r4 hbase
      refine ⟨v', w', hrun, MRow.of_own r5, ⟨r2.os, r2.tape, r2.output, r2.size, fun x hx _ => r2.block x hx (by simp)⟩, .inr ?_⟩
      rcases r4.2 with ⟨_, hx⟩ | ⟨g', cap', cur', hv', hg', hh', _⟩
      · cases s <;> simp [nCs] at hx
      · exact ⟨g', by rw [hv']; rfl, hg'⟩
section
variable {P : Program} (w : World)
theorem wp_append_mid {o : Oper} {a : Act} {K : Act → World → Prop} {Q : Exit → Act → World → Prop} (s x : Operand) (t : TypeId)
    (ho : o.op = .call { callee := .builtin .append, args := #[s, x], argTypes := #[t, t] })
    (base : Nat) (e : TypeId) (i : TypeInfo) (ht : P.underlying t = some (.slice e)) (hi : P.info? e = some i) (hz : i.zero = some (.int .i64 0)) (hsize : i.size = 1) (hby : i.bytes = 8)
    (v : Value) (l : List Nat) (hs : a.eval s = v) (hown : MRow w base e v l) (ad : Addr) (k : Nat) (hx : a.eval x = .slice (some ad) 1 1) (ha : w.cell? ad = some (.int .i64 (k : Int))) (hl : l.length ≤ 1000) (hbase : base ≤ w.heap.size)
    (h : ∀ v' w', MRow w' base e v' (l ++ [k]) → w.grownBy w' v.ownBlock → (v'.ownBlock = v.ownBlock ∨ ∃ g, v'.ownBlock = some g ∧ w.heap.size ≤ g) → K (a.put o.dst v') w') : o.wp P a w K Q := by
  obtain ⟨v', w', hrun, h2, h3, h4⟩ := mrow_append (P := P) w base t o.type e i ht hi hz hsize hby v l hown ad k ha hl hbase
  unfold Oper.wp
  simp [execOp, ho, resolve, invoke, builtin, hs, hx, hrun, Result.andThen]
  exact h v' w' h2 h3 h4
theorem wpList_append_mid {ops : Array Oper} {rest : List Oper} {o : Oper} {a : Act} {Q : Exit → Act → World → Prop} (hgd : o.guard = none) (s x : Operand) (t : TypeId)
    (ho : o.op = .call { callee := .builtin .append, args := #[s, x], argTypes := #[t, t] })
    (base : Nat) (e : TypeId) (i : TypeInfo) (ht : P.underlying t = some (.slice e)) (hi : P.info? e = some i) (hz : i.zero = some (.int .i64 0)) (hsize : i.size = 1) (hby : i.bytes = 8)
    (v : Value) (l : List Nat) (hs : a.eval s = v) (hown : MRow w base e v l) (ad : Addr) (k : Nat) (hx : a.eval x = .slice (some ad) 1 1) (ha : w.cell? ad = some (.int .i64 (k : Int))) (hl : l.length ≤ 1000) (hbase : base ≤ w.heap.size)
    (h : ∀ v' w', MRow w' base e v' (l ++ [k]) → w.grownBy w' v.ownBlock → (v'.ownBlock = v.ownBlock ∨ ∃ g, v'.ownBlock = some g ∧ w.heap.size ≤ g) → wpList P ops Q rest (a.put o.dst v') w') : wpList P ops Q (o :: rest) a w :=
  wpList_plain hgd fun _ hK => wp_append_mid w s x t ho base e i ht hi hz hsize hby v l hs hown ad k hx ha hl hbase fun v' w' h2 h3 h4 => hK _ _ (h v' w' h2 h3 h4)
theorem step_append_mid {ops : Array Oper} {o : Oper} {a : Act} {K : Act → World → Prop} {Q : Exit → Act → World → Prop} {E : Prop} (hgd : o.guard = none) (s x : Operand) (t : TypeId)
    (ho : o.op = .call { callee := .builtin .append, args := #[s, x], argTypes := #[t, t] })
    (base : Nat) (e : TypeId) (i : TypeInfo) (ht : P.underlying t = some (.slice e)) (hi : P.info? e = some i) (hz : i.zero = some (.int .i64 0)) (hsize : i.size = 1) (hby : i.bytes = 8)
    (v : Value) (l : List Nat) (hs : a.eval s = v) (hown : MRow w base e v l) (ad : Addr) (k : Nat) (hx : a.eval x = .slice (some ad) 1 1) (ha : w.cell? ad = some (.int .i64 (k : Int))) (hl : l.length ≤ 1000) (hbase : base ≤ w.heap.size)
    (h : ∀ v' w', MRow w' base e v' (l ++ [k]) → w.grownBy w' v.ownBlock → (v'.ownBlock = v.ownBlock ∨ ∃ g, v'.ownBlock = some g ∧ w.heap.size ≤ g) → K (a.put o.dst v') w') :
    if Region.wanted o (yielded ops a.tmps) = true then Oper.wp P o a w K Q else E := by
  have hw : Region.wanted o (yielded ops a.tmps) = true := by simp [Region.wanted, hgd]
  rw [if_pos hw]
  exact wp_append_mid w s x t ho base e i ht hi hz hsize hby v l hs hown ad k hx ha hl hbase h
end
end Go.Proofs.YthgpbdlmadjndaaDoor
namespace Go.Proofs.YthgpbdlmadjndaaDoor
open Go.RowKit
set_option maxRecDepth 100000
def svV : Option Nat → Value
  | none => .int .i64 (-1)
  | some g => .int .i64 (g : Int)
/-- The turns of flows, in the block at g. -/
structure TMem (B g : Nat) (vp vq : Value) (w : World) (own : Nat → Prop) (s : RS) (cs : Array Value) (qv : Nat → Value) (rv : Value) : Prop where
  blk : Blk w g 110 cs
  size : cs.size = 20
  c0 : cs[0]? = some vp
  c1 : cs[1]? = some vq
  cq : ∀ f, f < 8 → cs[2 + f]? = some (qv f)
  cc : ∀ f, f < 8 → cs[10 + f]? = some (.int .i64 (s.c f))
  cr : cs[18]? = some rv
  cv : cs[19]? = some (svV s.sv)
  q : ∀ f, f < 8 → MRow w B 3 (qv f) (s.q f)
  r : MRow w B 3 rv s.row
  hB : B ≤ g
  gq : ∀ f, f < 8 → (qv f).ownBlock ≠ some g
  gr : rv.ownBlock ≠ some g
  qr : ∀ f, f < 8 → ∀ b, (qv f).ownBlock = some b → rv.ownBlock ≠ some b
  qq : ∀ f f', f < 8 → f' < 8 → f ≠ f' → ∀ b, (qv f).ownBlock = some b → (qv f').ownBlock ≠ some b
  o : ∀ b, own b ↔ b = g ∨ rv.ownBlock = some b ∨ ∃ f, f < 8 ∧ (qv f).ownBlock = some b
section
variable {B g : Nat} {vp vq : Value} {w w' : World} {own : Nat → Prop} {s : RS} {cs : Array Value} {qv : Nat → Value} {rv : Value}
theorem TMem.same (h : TMem B g vp vq w own s cs qv rv) (hs : ∀ b, own b → w'.heap[b]? = w.heap[b]?) : TMem B g vp vq w' own s cs qv rv :=
  { h with
    blk := h.blk.same (hs g ((h.o g).2 (.inl rfl)))
    q := fun f hf => (h.q f hf).same fun b hb => hs b ((h.o b).2 (.inr (.inr ⟨f, hf, hb⟩)))
    r := h.r.same fun b hb => hs b ((h.o b).2 (.inr (.inl hb))) }
theorem TMem.own_lt (h : TMem B g vp vq w own s cs qv rv) {b : Nat} (hb : own b) : B ≤ b ∧ b < w.heap.size := by
  rcases (h.o b).1 hb with rfl | hb | ⟨f, hf, hb⟩
  · exact ⟨h.hB, h.blk.lt⟩
  · exact h.r.lt b hb
  · exact (h.q f hf).lt b hb
theorem TMem.alloc (h : TMem B g vp vq w own s cs qv rv) (o : Obj) : TMem B g vp vq (w.alloc o) own s cs qv rv := h.same fun b hb => Below.heap_alloc w o b (h.own_lt hb).2
theorem TMem.drewN (h : TMem B g vp vq w own s cs qv rv) (m : Nat) : TMem B g vp vq (w.drewN m) own s cs qv rv := h.same fun _ _ => rfl
theorem TMem.drew (h : TMem B g vp vq w own s cs qv rv) : TMem B g vp vq w.drew own s cs qv rv := h.same fun _ _ => rfl
theorem TMem.size_ (h : TMem B g vp vq w own s cs qv rv) : B ≤ w.heap.size := Nat.le_trans h.hB (Nat.le_of_lt h.blk.lt)
theorem TMem.at_ (h : TMem B g vp vq w own s cs qv rv) (i : Nat) : w.cell? ⟨g, i, none⟩ = cs[i]? := h.blk.cell i
theorem set_get {cs : Array Value} {i j : Nat} {u : Value} (h : j ≠ i) : (cs.setIfInBounds i u)[j]? = cs[j]? := by rw [Array.getElem?_setIfInBounds, if_neg (fun e => h e.symm)]
theorem set_get_same {cs : Array Value} {i : Nat} {u : Value} (h : i < cs.size) : (cs.setIfInBounds i u)[i]? = some u := by rw [Array.getElem?_setIfInBounds, if_pos rfl, if_pos h]
theorem TMem.setC (h : TMem B g vp vq w own s cs qv rv) {f : Nat} (hf : f < 8) (x : Int) : TMem B g vp vq (w.setCell ⟨g, 10 + f, none⟩ (.int .i64 x)) own { s with c := upd s.c f x } (cs.setIfInBounds (10 + f) (.int .i64 x)) qv rv where
  blk := h.blk.set_ _ _
  size := by rw [Array.size_setIfInBounds]; exact h.size
  c0 := (set_get (by omega)).trans h.c0
  c1 := (set_get (by omega)).trans h.c1
  cq := fun f' hf' => (set_get (by omega)).trans (h.cq f' hf')
  cc := fun f' hf' => by
    show _ = some (Value.int .i64 (upd s.c f x f'))
    by_cases he : f' = f
    · subst he; rw [upd_same]; exact set_get_same (by rw [h.size]; omega)
    · rw [upd_other _ _ he]; exact (set_get (by omega)).trans (h.cc f' hf')
  cr := (set_get (by omega)).trans h.cr
  cv := (set_get (by omega)).trans h.cv
  q := fun f' hf' => (h.q f' hf').set_ (a := ⟨g, 10 + f, none⟩) (h.gq f' hf') _
  r := h.r.set_ (a := ⟨g, 10 + f, none⟩) h.gr _
  hB := h.hB
  gq := h.gq
  gr := h.gr
  qr := h.qr
  qq := h.qq
  o := h.o
theorem TMem.setSv (h : TMem B g vp vq w own s cs qv rv) (x : Option Nat) : TMem B g vp vq (w.setCell ⟨g, 19, none⟩ (svV x)) own { s with sv := x } (cs.setIfInBounds 19 (svV x)) qv rv where
  blk := h.blk.set_ _ _
  size := by rw [Array.size_setIfInBounds]; exact h.size
  c0 := (set_get (by omega)).trans h.c0
  c1 := (set_get (by omega)).trans h.c1
  cq := fun f' hf' => (set_get (by omega)).trans (h.cq f' hf')
  cc := fun f' hf' => (set_get (by omega)).trans (h.cc f' hf')
  cr := (set_get (by omega)).trans h.cr
  cv := set_get_same (by rw [h.size]; omega)
  q := fun f' hf' => (h.q f' hf').set_ (a := ⟨g, 19, none⟩) (h.gq f' hf') _
  r := h.r.set_ (a := ⟨g, 19, none⟩) h.gr _
  hB := h.hB
  gq := h.gq
  gr := h.gr
  qr := h.qr
  qq := h.qq
  o := h.o
def ownQ (g : Nat) (qv : Nat → Value) (rv : Value) (b : Nat) : Prop := b = g ∨ rv.ownBlock = some b ∨ ∃ f, f < 8 ∧ (qv f).ownBlock = some b
/-- A queue's value is another one, in a world in which its row alone, or new memory, has changed. -/
theorem TMem.setQ (h : TMem B g vp vq w own s cs qv rv) {f : Nat} (hf : f < 8) {v' : Value} {q' : List Nat} (hm : MRow w' B 3 v' q') (hg : w.grownBy w' (qv f).ownBlock) (hb : v'.ownBlock = (qv f).ownBlock ∨ ∃ b, v'.ownBlock = some b ∧ w.heap.size ≤ b) :
    TMem B g vp vq (w'.setCell ⟨g, 2 + f, none⟩ v') (ownQ g (upd qv f v') rv) { s with q := upd s.q f q' } (cs.setIfInBounds (2 + f) v') (upd qv f v') rv ∧ (∀ b, ownQ g (upd qv f v') rv b → own b ∨ w.heap.size ≤ b) := by
  have hgl := h.blk.lt
  have hne : v'.ownBlock ≠ some g := by
    rcases hb with e | ⟨b, e, e2⟩
    · rw [e]; exact h.gq f hf
    · rw [e]; intro e3; injection e3 with e3; omega
  have old : ∀ b, b < w.heap.size → (qv f).ownBlock ≠ some b → w'.heap[b]? = w.heap[b]? := fun b hb1 hb2 => hg.block b hb1 fun e => hb2 e.symm
  have hv2 : ∀ b, v'.ownBlock = some b → (qv f).ownBlock = some b ∨ w.heap.size ≤ b := fun b e => by
    rcases hb with e2 | ⟨b2, e2, e3⟩
    · exact .inl (e2 ▸ e)
    · rw [e] at e2; injection e2 with e2; exact .inr (by omega)
  refine ⟨{ blk := ?_, size := ?_, c0 := ?_, c1 := ?_, cq := ?_, cc := ?_, cr := ?_, cv := ?_, q := ?_, r := ?_, hB := h.hB, gq := ?_, gr := h.gr, qr := ?_, qq := ?_, o := fun b => Iff.rfl }, fun b hb2 => ?_⟩
  · exact (h.blk.same (old g hgl (h.gq f hf))).set_ _ _
  · rw [Array.size_setIfInBounds]; exact h.size
  · exact (set_get (by omega)).trans h.c0
  · exact (set_get (by omega)).trans h.c1
  · intro f' hf'
    by_cases he : f' = f
    · subst he; rw [upd_same]; exact set_get_same (by rw [h.size]; omega)
    · rw [upd_other _ _ he]; exact (set_get (by omega)).trans (h.cq f' hf')
  · exact fun f' hf' => (set_get (by omega)).trans (h.cc f' hf')
  · exact (set_get (by omega)).trans h.cr
  · exact (set_get (by omega)).trans h.cv
  · intro f' hf'
    show MRow _ B _ (upd qv f v' f') (upd s.q f q' f')
    by_cases he : f' = f
    · subst he; rw [upd_same, upd_same]; exact hm.set_ (a := ⟨g, 2 + f', none⟩) hne _
    · rw [upd_other _ _ he, upd_other _ _ he]
      exact ((h.q f' hf').same fun b hb2 => old b ((h.q f' hf').lt b hb2).2 (h.qq f' f hf' hf he b hb2)).set_ (a := ⟨g, 2 + f, none⟩) (h.gq f' hf') _
  · exact (h.r.same fun b hb2 => old b (h.r.lt b hb2).2 (fun e => h.qr f hf b e hb2)).set_ (a := ⟨g, 2 + f, none⟩) h.gr _
  · intro f' hf'
    by_cases he : f' = f
    · subst he; rw [upd_same]; exact hne
    · rw [upd_other _ _ he]; exact h.gq f' hf'
  · intro f' hf' b hb2
    by_cases he : f' = f
    · subst he
      rw [upd_same] at hb2
      rcases hv2 b hb2 with e | e
      · exact h.qr f' hf' b e
      · intro e2; have := (h.r.lt b e2).2; omega
    · rw [upd_other _ _ he] at hb2; exact h.qr f' hf' b hb2
  · intro f1 f2 hf1 hf2 hne2 b hb2
    by_cases he1 : f1 = f
    · subst he1
      rw [upd_same] at hb2
      rw [upd_other _ _ (fun e => hne2 e.symm)]
      rcases hv2 b hb2 with e | e
      · exact h.qq f1 f2 hf1 hf2 hne2 b e
      · intro e2; have := ((h.q f2 hf2).lt b e2).2; omega
    · rw [upd_other _ _ he1] at hb2
      by_cases he2 : f2 = f
      · subst he2
        rw [upd_same]
        intro e
        rcases hv2 b e with e2 | e2
        · exact h.qq f1 f2 hf1 hf2 hne2 b hb2 e2
        · have := ((h.q f1 hf1).lt b hb2).2; omega
      · rw [upd_other _ _ he2]; exact h.qq f1 f2 hf1 hf2 hne2 b hb2
  · rcases hb2 with e | e | ⟨f', hf', e⟩
    · exact .inl ((h.o b).2 (.inl e))
    · exact .inl ((h.o b).2 (.inr (.inl e)))
    · by_cases he : f' = f
      · subst he
        rw [upd_same] at e
        rcases hv2 b e with e2 | e2
        · exact .inl ((h.o b).2 (.inr (.inr ⟨f', hf', e2⟩)))
        · exact .inr e2
      · rw [upd_other _ _ he] at e
        exact .inl ((h.o b).2 (.inr (.inr ⟨f', hf', e⟩)))
/-- The row's value is another one. -/
theorem TMem.setR (h : TMem B g vp vq w own s cs qv rv) {v' : Value} {r' : List Nat} (hm : MRow w' B 3 v' r') (hg : w.grownBy w' rv.ownBlock) (hv2 : ∀ b, v'.ownBlock = some b → rv.ownBlock = some b ∨ w.heap.size ≤ b) :
    TMem B g vp vq (w'.setCell ⟨g, 18, none⟩ v') (ownQ g qv v') { s with row := r' } (cs.setIfInBounds 18 v') qv v' ∧ (∀ b, ownQ g qv v' b → own b ∨ w.heap.size ≤ b) := by
  have hgl := h.blk.lt
  have hne : v'.ownBlock ≠ some g := fun e => by
    rcases hv2 g e with e2 | e2
    · exact h.gr e2
    · omega
  have old : ∀ b, b < w.heap.size → rv.ownBlock ≠ some b → w'.heap[b]? = w.heap[b]? := fun b hb1 hb2 => hg.block b hb1 fun e => hb2 e.symm
  refine ⟨{ blk := ?_, size := ?_, c0 := ?_, c1 := ?_, cq := ?_, cc := ?_, cr := ?_, cv := ?_, q := ?_, r := ?_, hB := h.hB, gq := h.gq, gr := hne, qr := ?_, qq := h.qq, o := fun b => Iff.rfl }, fun b hb2 => ?_⟩
  · exact (h.blk.same (old g hgl h.gr)).set_ _ _
  · rw [Array.size_setIfInBounds]; exact h.size
  · exact (set_get (by omega)).trans h.c0
  · exact (set_get (by omega)).trans h.c1
  · exact fun f' hf' => (set_get (by omega)).trans (h.cq f' hf')
  · exact fun f' hf' => (set_get (by omega)).trans (h.cc f' hf')
  · exact set_get_same (by rw [h.size]; omega)
  · exact (set_get (by omega)).trans h.cv
  · intro f' hf'
    exact ((h.q f' hf').same fun b hb2 => old b ((h.q f' hf').lt b hb2).2 (h.qr f' hf' b hb2)).set_ (a := ⟨g, 18, none⟩) (h.gq f' hf') _
  · exact hm.set_ (a := ⟨g, 18, none⟩) hne _
  · intro f' hf' b hb2 e
    rcases hv2 b e with e2 | e2
    · exact h.qr f' hf' b hb2 e2
    · have := ((h.q f' hf').lt b hb2).2; omega
  · rcases hb2 with e | e | e
    · exact .inl ((h.o b).2 (.inl e))
    · rcases hv2 b e with e2 | e2
      · exact .inl ((h.o b).2 (.inr (.inl e2)))
      · exact .inr e2
    · exact .inl ((h.o b).2 (.inr (.inr e)))
end
theorem keepsGrown {B : Nat} {own : Nat → Prop} {w w1 w2 : World} {row : Option Nat} (h : Keeps B own w own w1) (hg : w1.grownBy w2 row) (hr : ∀ b, row = some b → own b ∧ B ≤ b) (hB : B ≤ w1.heap.size) : Keeps B own w own w2 :=
  ⟨h.1.grown hg hB fun b hb => (hr b hb).2, fun b hb ho => (hg.block b (Nat.lt_of_lt_of_le hb h.1.size) (fun e => ho (hr b e.symm).1)).trans (h.2.1 b hb ho), fun _ hb => .inl hb⟩
theorem keepsOwn {B : Nat} {own own' : Nat → Prop} {w w1 : World} (h : Keeps B own w own w1) (ho : ∀ b, own' b → own b ∨ w.heap.size ≤ b) : Keeps B own w own' w1 := ⟨h.1, h.2.1, ho⟩
theorem TMem.putQ {B g : Nat} {vp vq : Value} {w w' : World} {own : Nat → Prop} {s : RS} {cs : Array Value} {qv : Nat → Value} {rv : Value} (h : TMem B g vp vq w own s cs qv rv) {f : Nat} (hf : f < 8) {v' : Value} {q' : List Nat} (hm : MRow w' B 3 v' q') (hg : w.grownBy w' (qv f).ownBlock) (hb : v'.ownBlock = (qv f).ownBlock ∨ ∃ b, v'.ownBlock = some b ∧ w.heap.size ≤ b) :
    TMem B g vp vq (w'.setCell ⟨g, 2 + f, none⟩ v') (ownQ g (upd qv f v') rv) { s with q := upd s.q f q' } (cs.setIfInBounds (2 + f) v') (upd qv f v') rv ∧ Keeps B own w (ownQ g (upd qv f v') rv) (w'.setCell ⟨g, 2 + f, none⟩ v') := by
  obtain ⟨t, o⟩ := h.setQ hf hm hg hb
  have hown : own g := (h.o g).2 (.inl rfl)
  exact ⟨t, keepsOwn (keepsSet (keepsGrown (keepsRefl B own w) hg (fun b e => ⟨(h.o b).2 (.inr (.inr ⟨f, hf, e⟩)), ((h.q f hf).lt b e).1⟩) h.size_) hown h.hB _) o⟩
theorem TMem.putR2 {B g : Nat} {vp vq : Value} {w w' : World} {own : Nat → Prop} {s : RS} {cs : Array Value} {qv : Nat → Value} {rv : Value} (h : TMem B g vp vq w own s cs qv rv) {v' : Value} {r' : List Nat} (hm : MRow w' B 3 v' r') (hg : w.grownBy w' rv.ownBlock) (hb : ∀ b, v'.ownBlock = some b → rv.ownBlock = some b ∨ w.heap.size ≤ b) :
    TMem B g vp vq (w'.setCell ⟨g, 18, none⟩ v') (ownQ g qv v') { s with row := r' } (cs.setIfInBounds 18 v') qv v' ∧ Keeps B own w (ownQ g qv v') (w'.setCell ⟨g, 18, none⟩ v') := by
  obtain ⟨t, o⟩ := h.setR hm hg hb
  have hown : own g := (h.o g).2 (.inl rfl)
  exact ⟨t, keepsOwn (keepsSet (keepsGrown (keepsRefl B own w) hg (fun b e => ⟨(h.o b).2 (.inr (.inl e)), (h.r.lt b e).1⟩) h.size_) hown h.hB _) o⟩
theorem TMem.putR {B g : Nat} {vp vq : Value} {w w' : World} {own : Nat → Prop} {s : RS} {cs : Array Value} {qv : Nat → Value} {rv : Value} (h : TMem B g vp vq w own s cs qv rv) {v' : Value} {r' : List Nat} (hm : MRow w' B 3 v' r') (hg : w.grownBy w' rv.ownBlock) (hb : v'.ownBlock = rv.ownBlock ∨ ∃ b, v'.ownBlock = some b ∧ w.heap.size ≤ b) :
    TMem B g vp vq (w'.setCell ⟨g, 18, none⟩ v') (ownQ g qv v') { s with row := r' } (cs.setIfInBounds 18 v') qv v' ∧ Keeps B own w (ownQ g qv v') (w'.setCell ⟨g, 18, none⟩ v') :=
  h.putR2 hm hg fun b e => by
    rcases hb with e2 | ⟨b2, e2, e3⟩
    · exact .inl (e2 ▸ e)
    · rw [e] at e2; injection e2 with e2; exact .inr (by omega)
theorem grownAny {w w' : World} (h : w.grownBy w' none) (row : Option Nat) : w.grownBy w' row := ⟨h.os, h.tape, h.output, h.size, fun x hx _ => h.block x hx (by simp)⟩
theorem keepsDrew {B : Nat} {own own' : Nat → Prop} {w w' : World} (h : Keeps B own w own' w') : Keeps B own w own' w'.drew := ⟨h.1.drew, h.2.1, h.2.2⟩
theorem keepsDrewN {B : Nat} {own own' : Nat → Prop} {w w' : World} (h : Keeps B own w own' w') (n : Nat) : Keeps B own w own' (w'.drewN n) := ⟨below_drewN h.1 n, h.2.1, h.2.2⟩
end Go.Proofs.YthgpbdlmadjndaaDoor
namespace Go.Proofs.YthgpbdlmadjndaaDoor
open Go.RowKit
set_option maxRecDepth 100000
theorem map_getD (s : List Nat) (j : Nat) (hj : j < s.length) : (s.map Int.ofNat).getD j 0 = (s[j] : Int) := by simp [List.getD, hj]
theorem contains_any (f : Nat) (v : Value) (l : List Nat) (w : World) (B : Nat) (h : MRow w B 3 v l) (hl : l.length ≤ 1000) :
    Calls Tryd.prog 76 #[v, .int .i64 (f : Int)] w fun e w' => e = .returned (.bool (decide (f ∈ l))) ∧ w = w' := by
  rcases Nat.eq_zero_or_pos l.length with h0 | h0
  · obtain ⟨A, c, rfl⟩ := h.slice
    obtain rfl := List.eq_nil_of_length_eq_zero h0
    refine (Tryd.slices_Contains_int_empty A c (f : Int) w).mono ?_
    rintro e w' ⟨rfl, rfl⟩
    exact ⟨by simp, rfl⟩
  · obtain ⟨b, o, c, rfl, _, _, hc⟩ := h.at_ h0
    refine (Tryd.slices_Contains_int b o l.length c (l.map Int.ofNat) (f : Int) w (by simp) (by omega) (fun j hj => ?_)).mono ?_
    · have hj' : j < l.length := by simpa using hj
      rw [hc j hj', map_getD l j hj']
    · rintro e w' ⟨rfl, rfl⟩
      refine ⟨?_, rfl⟩
      congr 2
      rw [List.take_of_length_le (by simp), Bool.eq_iff_iff, decide_eq_true_iff, List.contains_iff_mem, List.mem_map]
      constructor
      · rintro ⟨y, hy, e⟩
        have : y = f := Int.ofNat.inj e
        rw [← this]; exact hy
      · intro hf
        exact ⟨f, hf, rfl⟩
set_option maxHeartbeats 1000000 in
theorem rcome_any (B g k : Nat) (A A' : Option Addr) (c c' : Nat) (p : List Pk) (qs : List Int) (w : World) (own : Nat → Prop) (s : RS) (cs : Array Value) (qv : Nat → Value) (rv : Value) (h : TMem B g (.slice A p.length c) (.slice A' qs.length c') w own s cs qv rv) (hp : RdP w B A p) (hpk : ∀ x ∈ p, okPk x) (hk : k < p.length) (hq : ∀ f, f < 8 → (s.q f).length ≤ 900) (hr : s.row.length ≤ 900) :
    Calls Tryd.prog 55 #[.pointer (some ⟨g, 0, none⟩), .int .i64 k] w fun e w' => e = .returned (.tuple #[]) ∧ ∃ own' cs' qv' rv', TMem B g (.slice A p.length c) (.slice A' qs.length c') w' own' (rCome p s k) cs' qv' rv' ∧ Keeps B own w own' w' := by
  obtain ⟨b, o, rfl, hb, d0, d1, d2⟩ := RdP.get hp hk
  have hok := hpk _ (List.getElem_mem hk)
  obtain ⟨f, hf⟩ : ∃ f : Nat, p[k].f = f := ⟨p[k].f.toNat, by have := hok.1; omega⟩
  have hf8 : f < 8 := by have := hok.2.1; omega
  have hfl : flN p k = f := by unfold flN; rw [fOf_of hk, hf, Int.toNat_natCast]
  rw [hf] at d0
  obtain ⟨i0, hi0, hz0, hz1, hz2⟩ := info_parts infoInt
  have c0 : w.cell? ⟨g, 0, none⟩ = some (.slice (some ⟨b, o, none⟩) p.length c) := (h.at_ 0).trans h.c0
  have c18 : w.cell? ⟨g, 18, none⟩ = some rv := (h.at_ 18).trans h.cr
  have c19 : w.cell? ⟨g, 19, none⟩ = some (svV s.sv) := (h.at_ 19).trans h.cv
  have cq : w.cell? ⟨g, 2 + f, none⟩ = some (qv f) := (h.at_ _).trans (h.cq f hf8)
  have q1 : (0 : Int) ≤ (k : Int) := by omega
  have q2 : (k : Int) < (p.length : Int) := by omega
  have q3 : (0 : Int) ≤ (f : Int) := by omega
  have q4 : (f : Int) < 8 := by omega
  have H := Lib.hid h
  have Hfl := Lib.hid hfl
  have hqf := hq f hf8
  have hBs := h.size_
  clear hfl hf hok h
  obtain ⟨x, hx, hxl⟩ : ∃ x : Int, svV s.sv = .int .i64 x ∧ (f ∈ lst s ↔ x = f ∨ f ∈ s.row) := by
    cases hsv : s.sv with
    | none =>
      refine ⟨-1, rfl, ?_⟩
      unfold lst
      rw [hsv]
      exact ⟨fun e => .inr e, fun e => e.resolve_left (by omega)⟩
    | some g' =>
      refine ⟨g', rfl, ?_⟩
      unfold lst
      rw [hsv]
      constructor
      · intro e
        rcases List.mem_cons.1 e with e | e
        · exact .inl (by rw [e])
        · exact .inr e
      · rintro (e | e)
        · have : g' = f := Int.ofNat.inj e
          rw [this]; exact List.mem_cons_self
        · exact List.mem_cons_of_mem _ e
  have hrr : s.row.length ≤ 1000 := by omega
  rw [hx] at c19
  by_cases hxf : x = f
  · have hm : f ∈ lst s := hxl.2 (.inl hxf)
    have Hc : Hid (rCome p s k = { s with q := upd s.q f (s.q f ++ [k]) }) := Lib.hid (by unfold rCome; rw [Hfl.out, if_pos hm])
    clear hm hxl hx
    subst hxf
    have hb1 : ((f : Int) != (f : Int)) = false := by simp
    go_enter Tryd.func55, Tryd.ntmps55
    go_wp2_with fail
    have hQ := Lib.hid ((H.out.q f hf8).alloc (.cells #[.int .i64 (k : Int)] 3))
    have hbl : Hid (Blk (w.alloc (.cells #[.int .i64 (k : Int)] 3)).drew g 110 _) := Lib.hid (H.out.blk.alloc (.cells #[.int .i64 (k : Int)] 3))
    have x2 : w.cell? ⟨g, 2 + f, none⟩ = some (qv f) := (H.out.at_ _).trans (H.out.cq f hf8)
    have x2b : (w.alloc (.cells #[.int .i64 (k : Int)] 3)).cell? ⟨g, 2 + f, none⟩ = some (qv f) := ((H.out.blk.alloc (.cells #[.int .i64 (k : Int)] 3)).cell (2 + f)).trans (H.out.cq f hf8)
    have hgq : some g ≠ (qv f).ownBlock := fun e => H.out.gq f hf8 e.symm
    have hcq := H.out.cq f hf8
    have hba : B ≤ (w.alloc (.cells #[.int .i64 (k : Int)] 3)).heap.size := le_alloc H.out.size_ _
    have xk : (w.alloc (.cells #[.int .i64 (k : Int)] 3)).cell? ⟨w.heap.size, 0, none⟩ = some (.int .i64 (k : Int)) := (Blk.new w 3 #[.int .i64 (k : Int)]).cell 0
    have xq1 : (s.q f).length ≤ 1000 := by omega
    go_region_law (refine step_append_mid _ rfl (.tmp 45) (.tmp 47) 22 rfl B 3 i0 Tryd.underlying22 hi0 hz0 hz1 hz2 (qv f) (s.q f) rfl hQ.out ⟨w.heap.size, 0, none⟩ k rfl xk xq1 hba ?_; intro v5 w5 row5 g5 at5; have b5 := Blk.grown hbl.out g5 hgq; have y2 := (b5.cell (2 + f)).trans hcq; have z2 := b5.frozen (2 + f); clear b5; obtain ⟨A5, n5, c5, e5⟩ := row5.slice_; subst e5)
    all_goals
      go_end0
      have kk := keepsDrew (keepsAlloc (keepsRefl B own w) H.out.size_ (.cells #[.int .i64 (k : Int)] 3))
      obtain ⟨t9, k9⟩ := TMem.putQ (w := (w.alloc (.cells #[.int .i64 (k : Int)] 3)).drew) (H.out.alloc (.cells #[.int .i64 (k : Int)] 3)).drew hf8 row5 g5 at5
      rw [Hc.out]
      exact ⟨rfl, _, _, _, _, t9, keeps_trans kk k9⟩
  · have hb1 : (x != (f : Int)) = true := by simp [hxf]
    have Hx := Lib.hid hx
    clear hx
    by_cases hmr : f ∈ s.row
    · have hm : f ∈ lst s := hxl.2 (.inr hmr)
      have Hc : Hid (rCome p s k = { s with q := upd s.q f (s.q f ++ [k]) }) := Lib.hid (by unfold rCome; rw [Hfl.out, if_pos hm])
      have hfr : (decide (f ∈ s.row)) = true := decide_eq_true hmr
      clear hm hxl
      go_enter Tryd.func55, Tryd.ntmps55
      go_wp2_with (go_at_call 76; refine (contains_any f rv s.row w B H.out.r hrr).mono ?_; rintro e w1 ⟨rfl, rfl⟩; rw [hfr])
      have hQ := Lib.hid ((H.out.q f hf8).alloc (.cells #[.int .i64 (k : Int)] 3))
      have hbl : Hid (Blk (w.alloc (.cells #[.int .i64 (k : Int)] 3)).drew g 110 _) := Lib.hid (H.out.blk.alloc (.cells #[.int .i64 (k : Int)] 3))
      have x2 : w.cell? ⟨g, 2 + f, none⟩ = some (qv f) := (H.out.at_ _).trans (H.out.cq f hf8)
      have x2b : (w.alloc (.cells #[.int .i64 (k : Int)] 3)).cell? ⟨g, 2 + f, none⟩ = some (qv f) := ((H.out.blk.alloc (.cells #[.int .i64 (k : Int)] 3)).cell (2 + f)).trans (H.out.cq f hf8)
      have hgq : some g ≠ (qv f).ownBlock := fun e => H.out.gq f hf8 e.symm
      have hcq := H.out.cq f hf8
      have hba : B ≤ (w.alloc (.cells #[.int .i64 (k : Int)] 3)).heap.size := le_alloc H.out.size_ _
      have xk : (w.alloc (.cells #[.int .i64 (k : Int)] 3)).cell? ⟨w.heap.size, 0, none⟩ = some (.int .i64 (k : Int)) := (Blk.new w 3 #[.int .i64 (k : Int)]).cell 0
      have xq1 : (s.q f).length ≤ 1000 := by omega
      go_region_law (refine step_append_mid _ rfl (.tmp 45) (.tmp 47) 22 rfl B 3 i0 Tryd.underlying22 hi0 hz0 hz1 hz2 (qv f) (s.q f) rfl hQ.out ⟨w.heap.size, 0, none⟩ k rfl xk xq1 hba ?_; intro v5 w5 row5 g5 at5; have b5 := Blk.grown hbl.out g5 hgq; have y2 := (b5.cell (2 + f)).trans hcq; have z2 := b5.frozen (2 + f); clear b5; obtain ⟨A5, n5, c5, e5⟩ := row5.slice_; subst e5)
      all_goals
        go_end0
        have kk := keepsDrew (keepsAlloc (keepsRefl B own w) H.out.size_ (.cells #[.int .i64 (k : Int)] 3))
        obtain ⟨t9, k9⟩ := TMem.putQ (w := (w.alloc (.cells #[.int .i64 (k : Int)] 3)).drew) (H.out.alloc (.cells #[.int .i64 (k : Int)] 3)).drew hf8 row5 g5 at5
        rw [Hc.out]
        exact ⟨rfl, _, _, _, _, t9, keeps_trans kk k9⟩
    · have hm : ¬ f ∈ lst s := fun e => (hxl.1 e).elim hxf hmr
      have Hc : Hid (rCome p s k = { s with row := s.row ++ [f], q := upd s.q f (s.q f ++ [k]) }) := Lib.hid (by unfold rCome; rw [Hfl.out, if_neg hm])
      have hfr : (decide (f ∈ s.row)) = false := decide_eq_false hmr
      clear hm hxl
      have hR := Lib.hid (H.out.r.alloc (.cells #[.int .i64 (f : Int)] 3))
      have xf : (w.alloc (.cells #[.int .i64 (f : Int)] 3)).cell? ⟨w.heap.size, 0, none⟩ = some (.int .i64 (f : Int)) := (Blk.new w 3 #[.int .i64 (f : Int)]).cell 0
      have hbl : Hid (Blk (w.alloc (.cells #[.int .i64 (f : Int)] 3)) g 110 cs) := Lib.hid (H.out.blk.alloc (.cells #[.int .i64 (f : Int)] 3))
      have hba : B ≤ (w.alloc (.cells #[.int .i64 (f : Int)] 3)).heap.size := le_alloc H.out.size_ _
      have hgr : some g ≠ rv.ownBlock := fun e => H.out.gr e.symm
      have hcr := H.out.cr
      go_enter Tryd.func55, Tryd.ntmps55
      go_wp2_with first | (go_at_call 76; refine (contains_any f rv s.row w B H.out.r hrr).mono ?_; rintro e w1 ⟨rfl, rfl⟩; rw [hfr]) | (refine wpList_append_mid _ rfl (.tmp 32) (.tmp 34) 22 rfl B 3 i0 Tryd.underlying22 hi0 hz0 hz1 hz2 rv s.row rfl hR.out ⟨w.heap.size, 0, none⟩ f rfl xf hrr hba ?_; intro v4 w4 row4 g4 at4; have b4 := Blk.grown hbl.out g4 hgr; have y4 := (b4.cell 18).trans hcr; have z4 := b4.frozen 18; clear b4; obtain ⟨A4, n4, c4, e4⟩ := row4.slice_; subst e4)
      have kk0 := keepsAlloc (keepsRefl B own w) H.out.size_ (.cells #[.int .i64 (f : Int)] 3)
      obtain ⟨t4, k4⟩ := TMem.putR (w := w.alloc (.cells #[.int .i64 (f : Int)] 3)) (H.out.alloc (.cells #[.int .i64 (f : Int)] 3)) row4 g4 at4
      have k5 := keeps_trans kk0 k4
      clear hbl hba y4 z4 row4 g4 at4 k4 kk0
      generalize w4.setCell ⟨g, 18, none⟩ (.slice A4 n4 c4) = w2 at t4 k5 ⊢
      generalize Value.slice A4 n4 c4 = rv2 at t4 k5 ⊢
      have H2 := Lib.hid t4
      have K5 := Lib.hid k5
      clear t4 k5
      have hQ := Lib.hid ((H2.out.q f hf8).alloc (.cells #[.int .i64 (k : Int)] 3))
      have hbl : Hid (Blk (w2.alloc (.cells #[.int .i64 (k : Int)] 3)).drew g 110 _) := Lib.hid (H2.out.blk.alloc (.cells #[.int .i64 (k : Int)] 3))
      have x2 : w2.cell? ⟨g, 2 + f, none⟩ = some (qv f) := (H2.out.at_ _).trans (H2.out.cq f hf8)
      have x2b : (w2.alloc (.cells #[.int .i64 (k : Int)] 3)).cell? ⟨g, 2 + f, none⟩ = some (qv f) := ((H2.out.blk.alloc (.cells #[.int .i64 (k : Int)] 3)).cell (2 + f)).trans (H2.out.cq f hf8)
      have hgq : some g ≠ (qv f).ownBlock := fun e => H2.out.gq f hf8 e.symm
      have hcq := H2.out.cq f hf8
      have hba : B ≤ (w2.alloc (.cells #[.int .i64 (k : Int)] 3)).heap.size := le_alloc H2.out.size_ _
      have xk : (w2.alloc (.cells #[.int .i64 (k : Int)] 3)).cell? ⟨w2.heap.size, 0, none⟩ = some (.int .i64 (k : Int)) := (Blk.new w2 3 #[.int .i64 (k : Int)]).cell 0
      have xq1 : (s.q f).length ≤ 1000 := by omega
      go_region_law (refine step_append_mid _ rfl (.tmp 45) (.tmp 47) 22 rfl B 3 i0 Tryd.underlying22 hi0 hz0 hz1 hz2 (qv f) (s.q f) rfl hQ.out ⟨w2.heap.size, 0, none⟩ k rfl xk xq1 hba ?_; intro v5 w5 row5 g5 at5; have b5 := Blk.grown hbl.out g5 hgq; have y2 := (b5.cell (2 + f)).trans hcq; have z2 := b5.frozen (2 + f); clear b5; obtain ⟨A5, n5, c5, e5⟩ := row5.slice_; subst e5)
      all_goals
        go_end0
        have kk := keepsDrew (keepsAlloc (keepsRefl B (ownQ g qv rv2) w2) H2.out.size_ (.cells #[.int .i64 (k : Int)] 3))
        obtain ⟨t9, k9⟩ := TMem.putQ (w := (w2.alloc (.cells #[.int .i64 (k : Int)] 3)).drew) (H2.out.alloc (.cells #[.int .i64 (k : Int)] 3)).drew hf8 row5 g5 at5
        rw [Hc.out]
        exact ⟨rfl, _, _, _, _, t9, keeps_trans K5.out (keeps_trans kk k9)⟩
end Go.Proofs.YthgpbdlmadjndaaDoor
