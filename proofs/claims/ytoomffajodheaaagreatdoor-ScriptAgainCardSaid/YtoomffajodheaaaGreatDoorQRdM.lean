/- Lists of numbers in memory of the call's own, which may begin in the middle of their row: append, the head, what is left without the head. No condition. Package round: the turns of flows in memory; a packet comes. Conditions written at each. Package round: a packet comes to the turns of flows. Conditions written at each. Package round: the next one is picked. Conditions written at each. Package round's numbers of flows: eight, each from 1 to 3000. Condition: the sentinels that it names lie in their variables. Package round: its picker, and Run. Conditions: the sentinels that it names lie in their variables. -/
import Derived.Test.YtoomffajodheaaaGreatDoorQRkM
import Derived.ArgAppend
import Derived.Test.YtoomffajodheaaaGreatDoorQPlnM
import Derived.Deep.RegionLaw
import Derived.Laws.OwnMore
import Derived.Test.YtoomffajodheaaaGreatDoorQShelf
import Derived.Deep.LoopGhost
import Derived.StillTailTactics
set_option linter.all false
namespace Go.Proofs.YtoomffajodheaaaGreatDoor
open Go.RowKit
set_option maxRecDepth 100000
def MRow (w : World) (base : Nat) (e : TypeId) (v : Value) (s : List Nat) : Prop :=
  (v = .slice none 0 0 ∧ s = []) ∨ ∃ b o cap cur, v = .slice (some ⟨b, o, none⟩) s.length cap ∧ base ≤ b ∧ w.heap[b]? = some (.cells cur e (0, 0)) ∧ s.length ≤ cap ∧ cap ≤ maxLen ∧ o + cap ≤ cur.size ∧ ∀ (j : Nat) (h : j < s.length), cur[o + j]? = some (.int .i64 (s[j] : Int))
section
variable {w w' : World} {base : Nat} {e : TypeId} {v : Value} {s : List Nat}
theorem MRow.nil_ (w : World) (base : Nat) (e : TypeId) : MRow w base e (.slice none 0 0) [] := .inl ⟨rfl, rfl⟩
theorem MRow.same (h : MRow w base e v s) (hb : ∀ g, v.ownBlock = some g → w'.heap[g]? = w.heap[g]?) : MRow w' base e v s := by
  rcases h with h | ⟨b, o, cap, cur, hv, h1, h2, h3⟩
  · exact .inl h
  · exact .inr ⟨b, o, cap, cur, hv, h1, (hb b (by rw [hv]; rfl)).trans h2, h3⟩
theorem MRow.lt (h : MRow w base e v s) : ∀ g, v.ownBlock = some g → base ≤ g ∧ g < w.heap.size := by
  intro g hg
  rcases h with ⟨rfl, _⟩ | ⟨b, o, cap, cur, rfl, h1, h2, _⟩
  · simp [Value.ownBlock] at hg
  · obtain rfl : b = g := by simpa [Value.ownBlock] using hg
    exact ⟨h1, lt_of_block h2⟩
theorem MRow.slice (h : MRow w base e v s) : ∃ A c, v = .slice A s.length c := by
  rcases h with ⟨rfl, rfl⟩ | ⟨b, o, cap, cur, rfl, _⟩
  · exact ⟨none, 0, rfl⟩
  · exact ⟨_, _, rfl⟩
theorem MRow.slice_ (h : MRow w base e v s) : ∃ A n c, v = .slice A n c := by
  obtain ⟨A, c, hv⟩ := h.slice
  exact ⟨A, _, c, hv⟩
theorem MRow.alloc (h : MRow w base e v s) (o : Obj) : MRow (w.alloc o) base e v s := h.same fun g hg => Below.heap_alloc w o g (h.lt g hg).2
theorem MRow.drewN (h : MRow w base e v s) (m : Nat) : MRow (w.drewN m) base e v s := h
theorem MRow.set_ (h : MRow w base e v s) {a : Addr} (ha : v.ownBlock ≠ some a.block) (u : Value) : MRow (w.setCell a u) base e v s := h.same fun g hg => Below.heap_setCell w a u g (fun e => ha (by rw [hg, e]))
theorem MRow.of_own (h : w.ownsRow base e 1 v s.length (s.flatMap nCs)) : MRow w base e v s := by
  obtain ⟨h0, h⟩ := h
  rcases h with ⟨rfl, hx⟩ | ⟨g, cap, cur, hv, hg, hh, hn, hc, hsz, ht⟩
  · refine .inl ⟨rfl, ?_⟩
    cases s with
    | nil => rfl
    | cons x r => simp [nCs] at hx
  · refine .inr ⟨g, 0, cap, cur, hv, hg, hh, hn, hc, by omega, fun j hj => ?_⟩
    have e1 : (s.flatMap nCs)[j]? = some (.int .i64 (s[j] : Int)) := by
      rw [flat_get nCs 1 Nat.one_pos nCs_len]
      simp [Nat.div_one, Nat.mod_one, hj, nCs]
    rw [← ht, List.getElem?_take] at e1
    split at e1
    · rw [Nat.zero_add]; simpa using e1
    · cases e1
theorem MRow.at_ (h : MRow w base e v s) (h0 : 0 < s.length) : ∃ b o c, v = .slice (some ⟨b, o, none⟩) s.length c ∧ s.length ≤ c ∧ b < w.heap.size ∧ ∀ (j : Nat) (h : j < s.length), w.cell? ⟨b, o + j, none⟩ = some (.int .i64 (s[j] : Int)) := by
  rcases h with ⟨_, rfl⟩ | ⟨b, o, cap, cur, rfl, h1, h2, h3, h4, h5, h6⟩
  · simp at h0
  · exact ⟨b, o, cap, rfl, h3, lt_of_block h2, fun j hj => (cell_blk h2 (o + j)).trans (h6 j hj)⟩
/-- Without its head. -/
theorem MRow.tail {k : Nat} {b o c : Nat} (h : MRow w base e (.slice (some ⟨b, o, none⟩) (s.length + 1) c) (k :: s)) : MRow w base e (.slice (some (if c = 1 then ⟨b, o, none⟩ else ⟨b, o + 1, none⟩)) s.length (c - 1)) s := by
  rcases h with ⟨h, _⟩ | ⟨b', o', cap, cur, hv, h1, h2, h3, h4, h5, h6⟩
  · cases h
  · simp only [List.length_cons, Value.slice.injEq, Option.some.injEq, Addr.mk.injEq, and_true] at hv h3
    obtain ⟨⟨rfl, rfl⟩, _, rfl⟩ := hv
    by_cases hc : c = 1
    · subst hc
      rw [if_pos rfl]
      refine .inr ⟨b, o, 0, cur, rfl, h1, h2, by omega, Nat.zero_le _, by omega, fun j hj => by omega⟩
    · rw [if_neg hc]
      refine .inr ⟨b, o + 1, c - 1, cur, rfl, h1, h2, by omega, by omega, by omega, fun j hj => ?_⟩
      have := h6 (j + 1) (by simp only [List.length_cons]; omega)
      rw [show o + 1 + j = o + (j + 1) by omega]
      simpa using this
end
theorem mrow_append {P : Program} (w : World) (base : Nat) (t ty e : TypeId) (i : TypeInfo) (ht : P.underlying t = some (.slice e)) (hi : P.info? e = some i) (hz : i.zero = some (.int .i64 0)) (hsize : i.size = 1) (hby : i.bytes = 8)
    (v : Value) (s : List Nat) (h : MRow w base e v s) (a : Addr) (k : Nat) (ha : w.cell? a = some (.int .i64 (k : Int))) (hl : s.length ≤ 1000) (hbase : base ≤ w.heap.size) :
    ∃ v' w', (Builtin.append_ #[t, t] ty #[v, .slice (some a) 1 1]).run P w = .ok v' w' ∧ MRow w' base e v' (s ++ [k]) ∧ w.grownBy w' v.ownBlock ∧ (v'.ownBlock = v.ownBlock ∨ ∃ g, v'.ownBlock = some g ∧ w.heap.size ≤ g) := by
  have hnews : ∀ j u, [Value.int .i64 (k : Int)][j]? = some u → w.cell? (a.add j) = some u := fun j u hj => by
    cases j with
    | zero =>
      simp only [List.getElem?_cons_zero, Option.some.injEq] at hj
      subst hj
      unfold Addr.add
      simpa using ha
    | succ j => simp at hj
  have hone : ∀ u ∈ [Value.int .i64 (k : Int)], u.oneCell' = true := by simp [Value.oneCell']
  have hfl : ∀ s : List Nat, s.map (fun n : Nat => Value.int .i64 (n : Int)) ++ [Value.int .i64 (k : Int)] = (s ++ [k]).flatMap nCs := fun s => by
    induction s with
    | nil => rfl
    | cons x r ih => rw [List.cons_append, List.flatMap_cons, ← ih]; rfl
  have hfl2 : ∀ s : List Nat, s.map (fun n : Nat => Value.int .i64 (n : Int)) = s.flatMap nCs := fun s => by
    induction s with
    | nil => rfl
    | cons x r ih => rw [List.flatMap_cons, ← ih]; rfl
  rcases h with ⟨rfl, rfl⟩ | ⟨b, o, cap, cur, rfl, h1, h2, h3, h4, h5, h6⟩
  · obtain ⟨v', w', hrun, r1, r2, r3⟩ := run_append_own_at (P := P) w base t ty e i (.int .i64 0) 1 8 ht hi hz hsize hby rfl (by omega) (.slice none 0 0) 0 [] (World.ownsRow_nil w base e 1) a 1 1 [.int .i64 (k : Int)] rfl hnews hone (by simp [maxLen]) (by omega) hbase
    have r4 : w'.ownsRow base e 1 v' ([k] : List Nat).length (([k] : List Nat).flatMap nCs) := r1
    exact ⟨v', w', hrun, MRow.of_own r4, r2, r3.2.imp id fun e => ⟨_, e, Nat.le_refl _⟩⟩
  · by_cases hr : s.length + 1 ≤ cap
    · have hrun := run_append_room_cells (P := P) w t ty e i ht hi b o s.length cap a 1 1 [.int .i64 (k : Int)] (by rw [hsize]; rfl) hnews hone hr (fun j hj => by
          rw [hsize, cell_blk h2]
          have : j = 0 := by simpa using hj
          subst this
          rw [Array.getElem?_eq_getElem (by omega)]; rfl) (fun j hj => by simp [World.frozen?, h2])
      rw [hsize, Nat.mul_one] at hrun
      refine ⟨_, _, hrun, .inr ⟨b, o, cap, cur.setIfInBounds (o + s.length) (.int .i64 (k : Int)), by simp, h1, ?_, by simpa using hr, h4, by simpa using h5, fun j hj => ?_⟩, ?_, .inl rfl⟩
      · show (w.setCell ⟨b, o + s.length, none⟩ (.int .i64 (k : Int))).heap[b]? = _
        simp [World.setCell, Array.getElem?_modify, h2]
      · rw [List.length_append, List.length_cons, List.length_nil] at hj
        rw [Array.getElem?_setIfInBounds]
        by_cases hjs : j = s.length
        · subst hjs
          rw [if_pos rfl, if_pos (by omega)]
          simp
        · rw [if_neg (by omega), h6 j (by omega), List.getElem_append_left (by omega)]
      · exact ⟨rfl, rfl, rfl, by simp [World.setCells, World.setCell], fun x hx hne => Below.heap_setCell w ⟨b, o + s.length, none⟩ _ x (fun e => hne (by rw [e]; rfl))⟩
    · obtain ⟨v', w', hrun, r1, r2⟩ := run_append_arg_grows (P := P) w t ty e i (.int .i64 0) 1 8 ht hi hz hsize hby rfl (by omega) ⟨b, o, none⟩ s.length cap (s.map fun n : Nat => Value.int .i64 (n : Int)) (by simp) (fun j u hj => by
          rw [add_mk, cell_blk h2]
          have hjl : j < s.length := by
            have := (List.getElem?_eq_some_iff.1 hj).1
            simpa using this
          rw [h6 j hjl]
          simpa [hjl] using hj) a 1 1 [.int .i64 (k : Int)] rfl hnews (by omega) (by simp only [maxLen]; omega) (by omega)
      rw [hfl] at r1
      have r4 : w'.ownsRow w.heap.size e 1 v' (s ++ [k]).length ((s ++ [k]).flatMap nCs) := by simpa using r1
      have r5 := own_mono r4 hbase
      refine ⟨v', w', hrun, MRow.of_own r5, ⟨r2.os, r2.tape, r2.output, r2.size, fun x hx _ => r2.block x hx (by simp)⟩, .inr ?_⟩
      rcases r4.2 with ⟨_, hx⟩ | ⟨g', cap', cur', hv', hg', hh', _⟩
      · cases s <;> simp [nCs] at hx
      · exact ⟨g', by rw [hv']; rfl, hg'⟩
section
variable {P : Program} (w : World)
theorem wp_append_mid {o : Oper} {a : Act} {K : Act → World → Prop} {Q : Exit → Act → World → Prop} (s x : Operand) (t : TypeId)
    (ho : o.op = .call { callee := .builtin .append, args := #[s, x], argTypes := #[t, t] })
    (base : Nat) (e : TypeId) (i : TypeInfo) (ht : P.underlying t = some (.slice e)) (hi : P.info? e = some i) (hz : i.zero = some (.int .i64 0)) (hsize : i.size = 1) (hby : i.bytes = 8)
    (v : Value) (l : List Nat) (hs : a.eval s = v) (hown : MRow w base e v l) (ad : Addr) (k : Nat) (hx : a.eval x = .slice (some ad) 1 1) (ha : w.cell? ad = some (.int .i64 (k : Int))) (hl : l.length ≤ 1000) (hbase : base ≤ w.heap.size)
    (h : ∀ v' w', MRow w' base e v' (l ++ [k]) → w.grownBy w' v.ownBlock → (v'.ownBlock = v.ownBlock ∨ ∃ g, v'.ownBlock = some g ∧ w.heap.size ≤ g) → K (a.put o.dst v') w') : o.wp P a w K Q := by
  obtain ⟨v', w', hrun, h2, h3, h4⟩ := mrow_append (P := P) w base t o.type e i ht hi hz hsize hby v l hown ad k ha hl hbase
  unfold Oper.wp
  simp [execOp, ho, resolve, invoke, builtin, hs, hx, hrun, Result.andThen]
  exact h v' w' h2 h3 h4
theorem wpList_append_mid {ops : Array Oper} {rest : List Oper} {o : Oper} {a : Act} {Q : Exit → Act → World → Prop} (hgd : o.guard = none) (s x : Operand) (t : TypeId)
    (ho : o.op = .call { callee := .builtin .append, args := #[s, x], argTypes := #[t, t] })
    (base : Nat) (e : TypeId) (i : TypeInfo) (ht : P.underlying t = some (.slice e)) (hi : P.info? e = some i) (hz : i.zero = some (.int .i64 0)) (hsize : i.size = 1) (hby : i.bytes = 8)
    (v : Value) (l : List Nat) (hs : a.eval s = v) (hown : MRow w base e v l) (ad : Addr) (k : Nat) (hx : a.eval x = .slice (some ad) 1 1) (ha : w.cell? ad = some (.int .i64 (k : Int))) (hl : l.length ≤ 1000) (hbase : base ≤ w.heap.size)
    (h : ∀ v' w', MRow w' base e v' (l ++ [k]) → w.grownBy w' v.ownBlock → (v'.ownBlock = v.ownBlock ∨ ∃ g, v'.ownBlock = some g ∧ w.heap.size ≤ g) → wpList P ops Q rest (a.put o.dst v') w') : wpList P ops Q (o :: rest) a w :=
  wpList_plain hgd fun _ hK => wp_append_mid w s x t ho base e i ht hi hz hsize hby v l hs hown ad k hx ha hl hbase fun v' w' h2 h3 h4 => hK _ _ (h v' w' h2 h3 h4)
theorem step_append_mid {ops : Array Oper} {o : Oper} {a : Act} {K : Act → World → Prop} {Q : Exit → Act → World → Prop} {E : Prop} (hgd : o.guard = none) (s x : Operand) (t : TypeId)
    (ho : o.op = .call { callee := .builtin .append, args := #[s, x], argTypes := #[t, t] })
    (base : Nat) (e : TypeId) (i : TypeInfo) (ht : P.underlying t = some (.slice e)) (hi : P.info? e = some i) (hz : i.zero = some (.int .i64 0)) (hsize : i.size = 1) (hby : i.bytes = 8)
    (v : Value) (l : List Nat) (hs : a.eval s = v) (hown : MRow w base e v l) (ad : Addr) (k : Nat) (hx : a.eval x = .slice (some ad) 1 1) (ha : w.cell? ad = some (.int .i64 (k : Int))) (hl : l.length ≤ 1000) (hbase : base ≤ w.heap.size)
    (h : ∀ v' w', MRow w' base e v' (l ++ [k]) → w.grownBy w' v.ownBlock → (v'.ownBlock = v.ownBlock ∨ ∃ g, v'.ownBlock = some g ∧ w.heap.size ≤ g) → K (a.put o.dst v') w') :
    if Region.wanted o (yielded ops a.tmps) = true then Oper.wp P o a w K Q else E := by
  have hw : Region.wanted o (yielded ops a.tmps) = true := by simp [Region.wanted, hgd]
  rw [if_pos hw]
  exact wp_append_mid w s x t ho base e i ht hi hz hsize hby v l hs hown ad k hx ha hl hbase h
end
end Go.Proofs.YtoomffajodheaaaGreatDoor
namespace Go.Proofs.YtoomffajodheaaaGreatDoor
open Go.RowKit
set_option maxRecDepth 100000
def svV : Option Nat → Value
  | none => .int .i64 (-1)
  | some g => .int .i64 (g : Int)
/-- The turns of flows, in the block at g. -/
structure TMem (B g : Nat) (vp vq : Value) (w : World) (own : Nat → Prop) (s : RS) (cs : Array Value) (qv : Nat → Value) (rv : Value) : Prop where
  blk : Blk w g 258 cs
  size : cs.size = 20
  c0 : cs[0]? = some vp
  c1 : cs[1]? = some vq
  cq : ∀ f, f < 8 → cs[2 + f]? = some (qv f)
  cc : ∀ f, f < 8 → cs[10 + f]? = some (.int .i64 (s.c f))
  cr : cs[18]? = some rv
  cv : cs[19]? = some (svV s.sv)
  q : ∀ f, f < 8 → MRow w B 3 (qv f) (s.q f)
  r : MRow w B 3 rv s.row
  hB : B ≤ g
  gq : ∀ f, f < 8 → (qv f).ownBlock ≠ some g
  gr : rv.ownBlock ≠ some g
  qr : ∀ f, f < 8 → ∀ b, (qv f).ownBlock = some b → rv.ownBlock ≠ some b
  qq : ∀ f f', f < 8 → f' < 8 → f ≠ f' → ∀ b, (qv f).ownBlock = some b → (qv f').ownBlock ≠ some b
  o : ∀ b, own b ↔ b = g ∨ rv.ownBlock = some b ∨ ∃ f, f < 8 ∧ (qv f).ownBlock = some b
section
variable {B g : Nat} {vp vq : Value} {w w' : World} {own : Nat → Prop} {s : RS} {cs : Array Value} {qv : Nat → Value} {rv : Value}
theorem TMem.same (h : TMem B g vp vq w own s cs qv rv) (hs : ∀ b, own b → w'.heap[b]? = w.heap[b]?) : TMem B g vp vq w' own s cs qv rv :=
  { h with
    blk := h.blk.same (hs g ((h.o g).2 (.inl rfl)))
    q := fun f hf => (h.q f hf).same fun b hb => hs b ((h.o b).2 (.inr (.inr ⟨f, hf, hb⟩)))
    r := h.r.same fun b hb => hs b ((h.o b).2 (.inr (.inl hb))) }
theorem TMem.own_lt (h : TMem B g vp vq w own s cs qv rv) {b : Nat} (hb : own b) : B ≤ b ∧ b < w.heap.size := by
  rcases (h.o b).1 hb with rfl | hb | ⟨f, hf, hb⟩
  · exact ⟨h.hB, h.blk.lt⟩
  · exact h.r.lt b hb
  · exact (h.q f hf).lt b hb
theorem TMem.alloc (h : TMem B g vp vq w own s cs qv rv) (o : Obj) : TMem B g vp vq (w.alloc o) own s cs qv rv := h.same fun b hb => Below.heap_alloc w o b (h.own_lt hb).2
theorem TMem.drewN (h : TMem B g vp vq w own s cs qv rv) (m : Nat) : TMem B g vp vq (w.drewN m) own s cs qv rv := h.same fun _ _ => rfl
theorem TMem.drew (h : TMem B g vp vq w own s cs qv rv) : TMem B g vp vq w.drew own s cs qv rv := h.same fun _ _ => rfl
theorem TMem.size_ (h : TMem B g vp vq w own s cs qv rv) : B ≤ w.heap.size := Nat.le_trans h.hB (Nat.le_of_lt h.blk.lt)
theorem TMem.at_ (h : TMem B g vp vq w own s cs qv rv) (i : Nat) : w.cell? ⟨g, i, none⟩ = cs[i]? := h.blk.cell i
theorem set_get {cs : Array Value} {i j : Nat} {u : Value} (h : j ≠ i) : (cs.setIfInBounds i u)[j]? = cs[j]? := by rw [Array.getElem?_setIfInBounds, if_neg (fun e => h e.symm)]
theorem set_get_same {cs : Array Value} {i : Nat} {u : Value} (h : i < cs.size) : (cs.setIfInBounds i u)[i]? = some u := by rw [Array.getElem?_setIfInBounds, if_pos rfl, if_pos h]
theorem TMem.setC (h : TMem B g vp vq w own s cs qv rv) {f : Nat} (hf : f < 8) (x : Int) : TMem B g vp vq (w.setCell ⟨g, 10 + f, none⟩ (.int .i64 x)) own { s with c := upd s.c f x } (cs.setIfInBounds (10 + f) (.int .i64 x)) qv rv where
  blk := h.blk.set_ _ _
  size := by rw [Array.size_setIfInBounds]; exact h.size
  c0 := (set_get (by omega)).trans h.c0
  c1 := (set_get (by omega)).trans h.c1
  cq := fun f' hf' => (set_get (by omega)).trans (h.cq f' hf')
  cc := fun f' hf' => by
    show _ = some (Value.int .i64 (upd s.c f x f'))
    by_cases he : f' = f
    · subst he; rw [upd_same]; exact set_get_same (by rw [h.size]; omega)
    · rw [upd_other _ _ he]; exact (set_get (by omega)).trans (h.cc f' hf')
  cr := (set_get (by omega)).trans h.cr
  cv := (set_get (by omega)).trans h.cv
  q := fun f' hf' => (h.q f' hf').set_ (a := ⟨g, 10 + f, none⟩) (h.gq f' hf') _
  r := h.r.set_ (a := ⟨g, 10 + f, none⟩) h.gr _
  hB := h.hB
  gq := h.gq
  gr := h.gr
  qr := h.qr
  qq := h.qq
  o := h.o
theorem TMem.setSv (h : TMem B g vp vq w own s cs qv rv) (x : Option Nat) : TMem B g vp vq (w.setCell ⟨g, 19, none⟩ (svV x)) own { s with sv := x } (cs.setIfInBounds 19 (svV x)) qv rv where
  blk := h.blk.set_ _ _
  size := by rw [Array.size_setIfInBounds]; exact h.size
  c0 := (set_get (by omega)).trans h.c0
  c1 := (set_get (by omega)).trans h.c1
  cq := fun f' hf' => (set_get (by omega)).trans (h.cq f' hf')
  cc := fun f' hf' => (set_get (by omega)).trans (h.cc f' hf')
  cr := (set_get (by omega)).trans h.cr
  cv := set_get_same (by rw [h.size]; omega)
  q := fun f' hf' => (h.q f' hf').set_ (a := ⟨g, 19, none⟩) (h.gq f' hf') _
  r := h.r.set_ (a := ⟨g, 19, none⟩) h.gr _
  hB := h.hB
  gq := h.gq
  gr := h.gr
  qr := h.qr
  qq := h.qq
  o := h.o
def ownQ (g : Nat) (qv : Nat → Value) (rv : Value) (b : Nat) : Prop := b = g ∨ rv.ownBlock = some b ∨ ∃ f, f < 8 ∧ (qv f).ownBlock = some b
/-- A queue's value is another one, in a world in which its row alone, or new memory, has changed. -/
theorem TMem.setQ (h : TMem B g vp vq w own s cs qv rv) {f : Nat} (hf : f < 8) {v' : Value} {q' : List Nat} (hm : MRow w' B 3 v' q') (hg : w.grownBy w' (qv f).ownBlock) (hb : v'.ownBlock = (qv f).ownBlock ∨ ∃ b, v'.ownBlock = some b ∧ w.heap.size ≤ b) :
    TMem B g vp vq (w'.setCell ⟨g, 2 + f, none⟩ v') (ownQ g (upd qv f v') rv) { s with q := upd s.q f q' } (cs.setIfInBounds (2 + f) v') (upd qv f v') rv ∧ (∀ b, ownQ g (upd qv f v') rv b → own b ∨ w.heap.size ≤ b) := by
  have hgl := h.blk.lt
  have hne : v'.ownBlock ≠ some g := by
    rcases hb with e | ⟨b, e, e2⟩
    · rw [e]; exact h.gq f hf
    · rw [e]; intro e3; injection e3 with e3; omega
  have old : ∀ b, b < w.heap.size → (qv f).ownBlock ≠ some b → w'.heap[b]? = w.heap[b]? := fun b hb1 hb2 => hg.block b hb1 fun e => hb2 e.symm
  have hv2 : ∀ b, v'.ownBlock = some b → (qv f).ownBlock = some b ∨ w.heap.size ≤ b := fun b e => by
    rcases hb with e2 | ⟨b2, e2, e3⟩
    · exact .inl (e2 ▸ e)
    · rw [e] at e2; injection e2 with e2; exact .inr (by omega)
  refine ⟨{ blk := ?_, size := ?_, c0 := ?_, c1 := ?_, cq := ?_, cc := ?_, cr := ?_, cv := ?_, q := ?_, r := ?_, hB := h.hB, gq := ?_, gr := h.gr, qr := ?_, qq := ?_, o := fun b => Iff.rfl }, fun b hb2 => ?_⟩
  · exact (h.blk.same (old g hgl (h.gq f hf))).set_ _ _
  · rw [Array.size_setIfInBounds]; exact h.size
  · exact (set_get (by omega)).trans h.c0
  · exact (set_get (by omega)).trans h.c1
  · intro f' hf'
    by_cases he : f' = f
    · subst he; rw [upd_same]; exact set_get_same (by rw [h.size]; omega)
    · rw [upd_other _ _ he]; exact (set_get (by omega)).trans (h.cq f' hf')
  · exact fun f' hf' => (set_get (by omega)).trans (h.cc f' hf')
  · exact (set_get (by omega)).trans h.cr
  · exact (set_get (by omega)).trans h.cv
  · intro f' hf'
    show MRow _ B _ (upd qv f v' f') (upd s.q f q' f')
    by_cases he : f' = f
    · subst he; rw [upd_same, upd_same]; exact hm.set_ (a := ⟨g, 2 + f', none⟩) hne _
    · rw [upd_other _ _ he, upd_other _ _ he]
      exact ((h.q f' hf').same fun b hb2 => old b ((h.q f' hf').lt b hb2).2 (h.qq f' f hf' hf he b hb2)).set_ (a := ⟨g, 2 + f, none⟩) (h.gq f' hf') _
  · exact (h.r.same fun b hb2 => old b (h.r.lt b hb2).2 (fun e => h.qr f hf b e hb2)).set_ (a := ⟨g, 2 + f, none⟩) h.gr _
  · intro f' hf'
    by_cases he : f' = f
    · subst he; rw [upd_same]; exact hne
    · rw [upd_other _ _ he]; exact h.gq f' hf'
  · intro f' hf' b hb2
    by_cases he : f' = f
    · subst he
      rw [upd_same] at hb2
      rcases hv2 b hb2 with e | e
      · exact h.qr f' hf' b e
      · intro e2; have := (h.r.lt b e2).2; omega
    · rw [upd_other _ _ he] at hb2; exact h.qr f' hf' b hb2
  · intro f1 f2 hf1 hf2 hne2 b hb2
    by_cases he1 : f1 = f
    · subst he1
      rw [upd_same] at hb2
      rw [upd_other _ _ (fun e => hne2 e.symm)]
      rcases hv2 b hb2 with e | e
      · exact h.qq f1 f2 hf1 hf2 hne2 b e
      · intro e2; have := ((h.q f2 hf2).lt b e2).2; omega
    · rw [upd_other _ _ he1] at hb2
      by_cases he2 : f2 = f
      · subst he2
        rw [upd_same]
        intro e
        rcases hv2 b e with e2 | e2
        · exact h.qq f1 f2 hf1 hf2 hne2 b hb2 e2
        · have := ((h.q f1 hf1).lt b hb2).2; omega
      · rw [upd_other _ _ he2]; exact h.qq f1 f2 hf1 hf2 hne2 b hb2
  · rcases hb2 with e | e | ⟨f', hf', e⟩
    · exact .inl ((h.o b).2 (.inl e))
    · exact .inl ((h.o b).2 (.inr (.inl e)))
    · by_cases he : f' = f
      · subst he
        rw [upd_same] at e
        rcases hv2 b e with e2 | e2
        · exact .inl ((h.o b).2 (.inr (.inr ⟨f', hf', e2⟩)))
        · exact .inr e2
      · rw [upd_other _ _ he] at e
        exact .inl ((h.o b).2 (.inr (.inr ⟨f', hf', e⟩)))
/-- The row's value is another one. -/
theorem TMem.setR (h : TMem B g vp vq w own s cs qv rv) {v' : Value} {r' : List Nat} (hm : MRow w' B 3 v' r') (hg : w.grownBy w' rv.ownBlock) (hv2 : ∀ b, v'.ownBlock = some b → rv.ownBlock = some b ∨ w.heap.size ≤ b) :
    TMem B g vp vq (w'.setCell ⟨g, 18, none⟩ v') (ownQ g qv v') { s with row := r' } (cs.setIfInBounds 18 v') qv v' ∧ (∀ b, ownQ g qv v' b → own b ∨ w.heap.size ≤ b) := by
  have hgl := h.blk.lt
  have hne : v'.ownBlock ≠ some g := fun e => by
    rcases hv2 g e with e2 | e2
    · exact h.gr e2
    · omega
  have old : ∀ b, b < w.heap.size → rv.ownBlock ≠ some b → w'.heap[b]? = w.heap[b]? := fun b hb1 hb2 => hg.block b hb1 fun e => hb2 e.symm
  refine ⟨{ blk := ?_, size := ?_, c0 := ?_, c1 := ?_, cq := ?_, cc := ?_, cr := ?_, cv := ?_, q := ?_, r := ?_, hB := h.hB, gq := h.gq, gr := hne, qr := ?_, qq := h.qq, o := fun b => Iff.rfl }, fun b hb2 => ?_⟩
  · exact (h.blk.same (old g hgl h.gr)).set_ _ _
  · rw [Array.size_setIfInBounds]; exact h.size
  · exact (set_get (by omega)).trans h.c0
  · exact (set_get (by omega)).trans h.c1
  · exact fun f' hf' => (set_get (by omega)).trans (h.cq f' hf')
  · exact fun f' hf' => (set_get (by omega)).trans (h.cc f' hf')
  · exact set_get_same (by rw [h.size]; omega)
  · exact (set_get (by omega)).trans h.cv
  · intro f' hf'
    exact ((h.q f' hf').same fun b hb2 => old b ((h.q f' hf').lt b hb2).2 (h.qr f' hf' b hb2)).set_ (a := ⟨g, 18, none⟩) (h.gq f' hf') _
  · exact hm.set_ (a := ⟨g, 18, none⟩) hne _
  · intro f' hf' b hb2 e
    rcases hv2 b e with e2 | e2
    · exact h.qr f' hf' b hb2 e2
    · have := ((h.q f' hf').lt b hb2).2; omega
  · rcases hb2 with e | e | e
    · exact .inl ((h.o b).2 (.inl e))
    · rcases hv2 b e with e2 | e2
      · exact .inl ((h.o b).2 (.inr (.inl e2)))
      · exact .inr e2
    · exact .inl ((h.o b).2 (.inr (.inr e)))
end
theorem keepsGrown {B : Nat} {own : Nat → Prop} {w w1 w2 : World} {row : Option Nat} (h : Keeps B own w own w1) (hg : w1.grownBy w2 row) (hr : ∀ b, row = some b → own b ∧ B ≤ b) (hB : B ≤ w1.heap.size) : Keeps B own w own w2 :=
  ⟨h.1.grown hg hB fun b hb => (hr b hb).2, fun b hb ho => (hg.block b (Nat.lt_of_lt_of_le hb h.1.size) (fun e => ho (hr b e.symm).1)).trans (h.2.1 b hb ho), fun _ hb => .inl hb⟩
theorem keepsOwn {B : Nat} {own own' : Nat → Prop} {w w1 : World} (h : Keeps B own w own w1) (ho : ∀ b, own' b → own b ∨ w.heap.size ≤ b) : Keeps B own w own' w1 := ⟨h.1, h.2.1, ho⟩
theorem TMem.putQ {B g : Nat} {vp vq : Value} {w w' : World} {own : Nat → Prop} {s : RS} {cs : Array Value} {qv : Nat → Value} {rv : Value} (h : TMem B g vp vq w own s cs qv rv) {f : Nat} (hf : f < 8) {v' : Value} {q' : List Nat} (hm : MRow w' B 3 v' q') (hg : w.grownBy w' (qv f).ownBlock) (hb : v'.ownBlock = (qv f).ownBlock ∨ ∃ b, v'.ownBlock = some b ∧ w.heap.size ≤ b) :
    TMem B g vp vq (w'.setCell ⟨g, 2 + f, none⟩ v') (ownQ g (upd qv f v') rv) { s with q := upd s.q f q' } (cs.setIfInBounds (2 + f) v') (upd qv f v') rv ∧ Keeps B own w (ownQ g (upd qv f v') rv) (w'.setCell ⟨g, 2 + f, none⟩ v') := by
  obtain ⟨t, o⟩ := h.setQ hf hm hg hb
  have hown : own g := (h.o g).2 (.inl rfl)
  exact ⟨t, keepsOwn (keepsSet (keepsGrown (keepsRefl B own w) hg (fun b e => ⟨(h.o b).2 (.inr (.inr ⟨f, hf, e⟩)), ((h.q f hf).lt b e).1⟩) h.size_) hown h.hB _) o⟩
theorem TMem.putR2 {B g : Nat} {vp vq : Value} {w w' : World} {own : Nat → Prop} {s : RS} {cs : Array Value} {qv : Nat → Value} {rv : Value} (h : TMem B g vp vq w own s cs qv rv) {v' : Value} {r' : List Nat} (hm : MRow w' B 3 v' r') (hg : w.grownBy w' rv.ownBlock) (hb : ∀ b, v'.ownBlock = some b → rv.ownBlock = some b ∨ w.heap.size ≤ b) :
    TMem B g vp vq (w'.setCell ⟨g, 18, none⟩ v') (ownQ g qv v') { s with row := r' } (cs.setIfInBounds 18 v') qv v' ∧ Keeps B own w (ownQ g qv v') (w'.setCell ⟨g, 18, none⟩ v') := by
  obtain ⟨t, o⟩ := h.setR hm hg hb
  have hown : own g := (h.o g).2 (.inl rfl)
  exact ⟨t, keepsOwn (keepsSet (keepsGrown (keepsRefl B own w) hg (fun b e => ⟨(h.o b).2 (.inr (.inl e)), (h.r.lt b e).1⟩) h.size_) hown h.hB _) o⟩
theorem TMem.putR {B g : Nat} {vp vq : Value} {w w' : World} {own : Nat → Prop} {s : RS} {cs : Array Value} {qv : Nat → Value} {rv : Value} (h : TMem B g vp vq w own s cs qv rv) {v' : Value} {r' : List Nat} (hm : MRow w' B 3 v' r') (hg : w.grownBy w' rv.ownBlock) (hb : v'.ownBlock = rv.ownBlock ∨ ∃ b, v'.ownBlock = some b ∧ w.heap.size ≤ b) :
    TMem B g vp vq (w'.setCell ⟨g, 18, none⟩ v') (ownQ g qv v') { s with row := r' } (cs.setIfInBounds 18 v') qv v' ∧ Keeps B own w (ownQ g qv v') (w'.setCell ⟨g, 18, none⟩ v') :=
  h.putR2 hm hg fun b e => by
    rcases hb with e2 | ⟨b2, e2, e3⟩
    · exact .inl (e2 ▸ e)
    · rw [e] at e2; injection e2 with e2; exact .inr (by omega)
theorem grownAny {w w' : World} (h : w.grownBy w' none) (row : Option Nat) : w.grownBy w' row := ⟨h.os, h.tape, h.output, h.size, fun x hx _ => h.block x hx (by simp)⟩
theorem keepsDrew {B : Nat} {own own' : Nat → Prop} {w w' : World} (h : Keeps B own w own' w') : Keeps B own w own' w'.drew := ⟨h.1.drew, h.2.1, h.2.2⟩
theorem keepsDrewN {B : Nat} {own own' : Nat → Prop} {w w' : World} (h : Keeps B own w own' w') (n : Nat) : Keeps B own w own' (w'.drewN n) := ⟨below_drewN h.1 n, h.2.1, h.2.2⟩
end Go.Proofs.YtoomffajodheaaaGreatDoor
namespace Go.Proofs.YtoomffajodheaaaGreatDoor
open Go.RowKit
set_option maxRecDepth 100000
theorem map_getD (s : List Nat) (j : Nat) (hj : j < s.length) : (s.map Int.ofNat).getD j 0 = (s[j] : Int) := by simp [List.getD, hj]
theorem contains_any (f : Nat) (v : Value) (l : List Nat) (w : World) (B : Nat) (h : MRow w B 3 v l) (hl : l.length ≤ 1000) :
    Calls Tryz.prog 198 #[v, .int .i64 (f : Int)] w fun e w' => e = .returned (.bool (decide (f ∈ l))) ∧ w = w' := by
  rcases Nat.eq_zero_or_pos l.length with h0 | h0
  · obtain ⟨A, c, rfl⟩ := h.slice
    obtain rfl := List.eq_nil_of_length_eq_zero h0
    refine (Tryz.slices_Contains_int_empty A c (f : Int) w).mono ?_
    rintro e w' ⟨rfl, rfl⟩
    exact ⟨by simp, rfl⟩
  · obtain ⟨b, o, c, rfl, _, _, hc⟩ := h.at_ h0
    refine (Tryz.slices_Contains_int b o l.length c (l.map Int.ofNat) (f : Int) w (by simp) (by omega) (fun j hj => ?_)).mono ?_
    · have hj' : j < l.length := by simpa using hj
      rw [hc j hj', map_getD l j hj']
    · rintro e w' ⟨rfl, rfl⟩
      refine ⟨?_, rfl⟩
      congr 2
      rw [List.take_of_length_le (by simp), Bool.eq_iff_iff, decide_eq_true_iff, List.contains_iff_mem, List.mem_map]
      constructor
      · rintro ⟨y, hy, e⟩
        have : y = f := Int.ofNat.inj e
        rw [← this]; exact hy
      · intro hf
        exact ⟨f, hf, rfl⟩
set_option maxHeartbeats 1000000 in
theorem rcome_any (B g k : Nat) (A A' : Option Addr) (c c' : Nat) (p : List Pk) (qs : List Int) (w : World) (own : Nat → Prop) (s : RS) (cs : Array Value) (qv : Nat → Value) (rv : Value) (h : TMem B g (.slice A p.length c) (.slice A' qs.length c') w own s cs qv rv) (hp : RdP w B A p) (hpk : ∀ x ∈ p, okPk x) (hk : k < p.length) (hq : ∀ f, f < 8 → (s.q f).length ≤ 900) (hr : s.row.length ≤ 900) :
    Calls Tryz.prog 177 #[.pointer (some ⟨g, 0, none⟩), .int .i64 k] w fun e w' => e = .returned (.tuple #[]) ∧ ∃ own' cs' qv' rv', TMem B g (.slice A p.length c) (.slice A' qs.length c') w' own' (rCome p s k) cs' qv' rv' ∧ Keeps B own w own' w' := by
  obtain ⟨b, o, rfl, hb, d0, d1, d2⟩ := RdP.get hp hk
  have hok := hpk _ (List.getElem_mem hk)
  obtain ⟨f, hf⟩ : ∃ f : Nat, p[k].f = f := ⟨p[k].f.toNat, by have := hok.1; omega⟩
  have hf8 : f < 8 := by have := hok.2.1; omega
  have hfl : flN p k = f := by unfold flN; rw [fOf_of hk, hf, Int.toNat_natCast]
  rw [hf] at d0
  obtain ⟨i0, hi0, hz0, hz1, hz2⟩ := info_parts infoInt
  have c0 : w.cell? ⟨g, 0, none⟩ = some (.slice (some ⟨b, o, none⟩) p.length c) := (h.at_ 0).trans h.c0
  have c18 : w.cell? ⟨g, 18, none⟩ = some rv := (h.at_ 18).trans h.cr
  have c19 : w.cell? ⟨g, 19, none⟩ = some (svV s.sv) := (h.at_ 19).trans h.cv
  have cq : w.cell? ⟨g, 2 + f, none⟩ = some (qv f) := (h.at_ _).trans (h.cq f hf8)
  have q1 : (0 : Int) ≤ (k : Int) := by omega
  have q2 : (k : Int) < (p.length : Int) := by omega
  have q3 : (0 : Int) ≤ (f : Int) := by omega
  have q4 : (f : Int) < 8 := by omega
  have H := Lib.hid h
  have Hfl := Lib.hid hfl
  have hqf := hq f hf8
  have hBs := h.size_
  clear hfl hf hok h
  obtain ⟨x, hx, hxl⟩ : ∃ x : Int, svV s.sv = .int .i64 x ∧ (f ∈ lst s ↔ x = f ∨ f ∈ s.row) := by
    cases hsv : s.sv with
    | none =>
      refine ⟨-1, rfl, ?_⟩
      unfold lst
      rw [hsv]
      exact ⟨fun e => .inr e, fun e => e.resolve_left (by omega)⟩
    | some g' =>
      refine ⟨g', rfl, ?_⟩
      unfold lst
      rw [hsv]
      constructor
      · intro e
        rcases List.mem_cons.1 e with e | e
        · exact .inl (by rw [e])
        · exact .inr e
      · rintro (e | e)
        · have : g' = f := Int.ofNat.inj e
          rw [this]; exact List.mem_cons_self
        · exact List.mem_cons_of_mem _ e
  have hrr : s.row.length ≤ 1000 := by omega
  rw [hx] at c19
  by_cases hxf : x = f
  · have hm : f ∈ lst s := hxl.2 (.inl hxf)
    have Hc : Hid (rCome p s k = { s with q := upd s.q f (s.q f ++ [k]) }) := Lib.hid (by unfold rCome; rw [Hfl.out, if_pos hm])
    clear hm hxl hx
    subst hxf
    have hb1 : ((f : Int) != (f : Int)) = false := by simp
    go_enter Tryz.func177, Tryz.ntmps177
    go_wp2_with fail
    have hQ := Lib.hid ((H.out.q f hf8).alloc (.cells #[.int .i64 (k : Int)] 3))
    have hbl : Hid (Blk (w.alloc (.cells #[.int .i64 (k : Int)] 3)).drew g 258 _) := Lib.hid (H.out.blk.alloc (.cells #[.int .i64 (k : Int)] 3))
    have x2 : w.cell? ⟨g, 2 + f, none⟩ = some (qv f) := (H.out.at_ _).trans (H.out.cq f hf8)
    have x2b : (w.alloc (.cells #[.int .i64 (k : Int)] 3)).cell? ⟨g, 2 + f, none⟩ = some (qv f) := ((H.out.blk.alloc (.cells #[.int .i64 (k : Int)] 3)).cell (2 + f)).trans (H.out.cq f hf8)
    have hgq : some g ≠ (qv f).ownBlock := fun e => H.out.gq f hf8 e.symm
    have hcq := H.out.cq f hf8
    have hba : B ≤ (w.alloc (.cells #[.int .i64 (k : Int)] 3)).heap.size := le_alloc H.out.size_ _
    have xk : (w.alloc (.cells #[.int .i64 (k : Int)] 3)).cell? ⟨w.heap.size, 0, none⟩ = some (.int .i64 (k : Int)) := (Blk.new w 3 #[.int .i64 (k : Int)]).cell 0
    have xq1 : (s.q f).length ≤ 1000 := by omega
    go_region_law (refine step_append_mid _ rfl (.tmp 45) (.tmp 47) 27 rfl B 3 i0 Tryz.underlying27 hi0 hz0 hz1 hz2 (qv f) (s.q f) rfl hQ.out ⟨w.heap.size, 0, none⟩ k rfl xk xq1 hba ?_; intro v5 w5 row5 g5 at5; have b5 := Blk.grown hbl.out g5 hgq; have y2 := (b5.cell (2 + f)).trans hcq; have z2 := b5.frozen (2 + f); clear b5; obtain ⟨A5, n5, c5, e5⟩ := row5.slice_; subst e5)
    all_goals
      go_end0
      have kk := keepsDrew (keepsAlloc (keepsRefl B own w) H.out.size_ (.cells #[.int .i64 (k : Int)] 3))
      obtain ⟨t9, k9⟩ := TMem.putQ (w := (w.alloc (.cells #[.int .i64 (k : Int)] 3)).drew) (H.out.alloc (.cells #[.int .i64 (k : Int)] 3)).drew hf8 row5 g5 at5
      rw [Hc.out]
      exact ⟨rfl, _, _, _, _, t9, keeps_trans kk k9⟩
  · have hb1 : (x != (f : Int)) = true := by simp [hxf]
    have Hx := Lib.hid hx
    clear hx
    by_cases hmr : f ∈ s.row
    · have hm : f ∈ lst s := hxl.2 (.inr hmr)
      have Hc : Hid (rCome p s k = { s with q := upd s.q f (s.q f ++ [k]) }) := Lib.hid (by unfold rCome; rw [Hfl.out, if_pos hm])
      have hfr : (decide (f ∈ s.row)) = true := decide_eq_true hmr
      clear hm hxl
      go_enter Tryz.func177, Tryz.ntmps177
      go_wp2_with (go_at_call 198; refine (contains_any f rv s.row w B H.out.r hrr).mono ?_; rintro e w1 ⟨rfl, rfl⟩; rw [hfr])
      have hQ := Lib.hid ((H.out.q f hf8).alloc (.cells #[.int .i64 (k : Int)] 3))
      have hbl : Hid (Blk (w.alloc (.cells #[.int .i64 (k : Int)] 3)).drew g 258 _) := Lib.hid (H.out.blk.alloc (.cells #[.int .i64 (k : Int)] 3))
      have x2 : w.cell? ⟨g, 2 + f, none⟩ = some (qv f) := (H.out.at_ _).trans (H.out.cq f hf8)
      have x2b : (w.alloc (.cells #[.int .i64 (k : Int)] 3)).cell? ⟨g, 2 + f, none⟩ = some (qv f) := ((H.out.blk.alloc (.cells #[.int .i64 (k : Int)] 3)).cell (2 + f)).trans (H.out.cq f hf8)
      have hgq : some g ≠ (qv f).ownBlock := fun e => H.out.gq f hf8 e.symm
      have hcq := H.out.cq f hf8
      have hba : B ≤ (w.alloc (.cells #[.int .i64 (k : Int)] 3)).heap.size := le_alloc H.out.size_ _
      have xk : (w.alloc (.cells #[.int .i64 (k : Int)] 3)).cell? ⟨w.heap.size, 0, none⟩ = some (.int .i64 (k : Int)) := (Blk.new w 3 #[.int .i64 (k : Int)]).cell 0
      have xq1 : (s.q f).length ≤ 1000 := by omega
      go_region_law (refine step_append_mid _ rfl (.tmp 45) (.tmp 47) 27 rfl B 3 i0 Tryz.underlying27 hi0 hz0 hz1 hz2 (qv f) (s.q f) rfl hQ.out ⟨w.heap.size, 0, none⟩ k rfl xk xq1 hba ?_; intro v5 w5 row5 g5 at5; have b5 := Blk.grown hbl.out g5 hgq; have y2 := (b5.cell (2 + f)).trans hcq; have z2 := b5.frozen (2 + f); clear b5; obtain ⟨A5, n5, c5, e5⟩ := row5.slice_; subst e5)
      all_goals
        go_end0
        have kk := keepsDrew (keepsAlloc (keepsRefl B own w) H.out.size_ (.cells #[.int .i64 (k : Int)] 3))
        obtain ⟨t9, k9⟩ := TMem.putQ (w := (w.alloc (.cells #[.int .i64 (k : Int)] 3)).drew) (H.out.alloc (.cells #[.int .i64 (k : Int)] 3)).drew hf8 row5 g5 at5
        rw [Hc.out]
        exact ⟨rfl, _, _, _, _, t9, keeps_trans kk k9⟩
    · have hm : ¬ f ∈ lst s := fun e => (hxl.1 e).elim hxf hmr
      have Hc : Hid (rCome p s k = { s with row := s.row ++ [f], q := upd s.q f (s.q f ++ [k]) }) := Lib.hid (by unfold rCome; rw [Hfl.out, if_neg hm])
      have hfr : (decide (f ∈ s.row)) = false := decide_eq_false hmr
      clear hm hxl
      have hR := Lib.hid (H.out.r.alloc (.cells #[.int .i64 (f : Int)] 3))
      have xf : (w.alloc (.cells #[.int .i64 (f : Int)] 3)).cell? ⟨w.heap.size, 0, none⟩ = some (.int .i64 (f : Int)) := (Blk.new w 3 #[.int .i64 (f : Int)]).cell 0
      have hbl : Hid (Blk (w.alloc (.cells #[.int .i64 (f : Int)] 3)) g 258 cs) := Lib.hid (H.out.blk.alloc (.cells #[.int .i64 (f : Int)] 3))
      have hba : B ≤ (w.alloc (.cells #[.int .i64 (f : Int)] 3)).heap.size := le_alloc H.out.size_ _
      have hgr : some g ≠ rv.ownBlock := fun e => H.out.gr e.symm
      have hcr := H.out.cr
      go_enter Tryz.func177, Tryz.ntmps177
      go_wp2_with first | (go_at_call 198; refine (contains_any f rv s.row w B H.out.r hrr).mono ?_; rintro e w1 ⟨rfl, rfl⟩; rw [hfr]) | (refine wpList_append_mid _ rfl (.tmp 32) (.tmp 34) 27 rfl B 3 i0 Tryz.underlying27 hi0 hz0 hz1 hz2 rv s.row rfl hR.out ⟨w.heap.size, 0, none⟩ f rfl xf hrr hba ?_; intro v4 w4 row4 g4 at4; have b4 := Blk.grown hbl.out g4 hgr; have y4 := (b4.cell 18).trans hcr; have z4 := b4.frozen 18; clear b4; obtain ⟨A4, n4, c4, e4⟩ := row4.slice_; subst e4)
      have kk0 := keepsAlloc (keepsRefl B own w) H.out.size_ (.cells #[.int .i64 (f : Int)] 3)
      obtain ⟨t4, k4⟩ := TMem.putR (w := w.alloc (.cells #[.int .i64 (f : Int)] 3)) (H.out.alloc (.cells #[.int .i64 (f : Int)] 3)) row4 g4 at4
      have k5 := keeps_trans kk0 k4
      clear hbl hba y4 z4 row4 g4 at4 k4 kk0
      generalize w4.setCell ⟨g, 18, none⟩ (.slice A4 n4 c4) = w2 at t4 k5 ⊢
      generalize Value.slice A4 n4 c4 = rv2 at t4 k5 ⊢
      have H2 := Lib.hid t4
      have K5 := Lib.hid k5
      clear t4 k5
      have hQ := Lib.hid ((H2.out.q f hf8).alloc (.cells #[.int .i64 (k : Int)] 3))
      have hbl : Hid (Blk (w2.alloc (.cells #[.int .i64 (k : Int)] 3)).drew g 258 _) := Lib.hid (H2.out.blk.alloc (.cells #[.int .i64 (k : Int)] 3))
      have x2 : w2.cell? ⟨g, 2 + f, none⟩ = some (qv f) := (H2.out.at_ _).trans (H2.out.cq f hf8)
      have x2b : (w2.alloc (.cells #[.int .i64 (k : Int)] 3)).cell? ⟨g, 2 + f, none⟩ = some (qv f) := ((H2.out.blk.alloc (.cells #[.int .i64 (k : Int)] 3)).cell (2 + f)).trans (H2.out.cq f hf8)
      have hgq : some g ≠ (qv f).ownBlock := fun e => H2.out.gq f hf8 e.symm
      have hcq := H2.out.cq f hf8
      have hba : B ≤ (w2.alloc (.cells #[.int .i64 (k : Int)] 3)).heap.size := le_alloc H2.out.size_ _
      have xk : (w2.alloc (.cells #[.int .i64 (k : Int)] 3)).cell? ⟨w2.heap.size, 0, none⟩ = some (.int .i64 (k : Int)) := (Blk.new w2 3 #[.int .i64 (k : Int)]).cell 0
      have xq1 : (s.q f).length ≤ 1000 := by omega
      go_region_law (refine step_append_mid _ rfl (.tmp 45) (.tmp 47) 27 rfl B 3 i0 Tryz.underlying27 hi0 hz0 hz1 hz2 (qv f) (s.q f) rfl hQ.out ⟨w2.heap.size, 0, none⟩ k rfl xk xq1 hba ?_; intro v5 w5 row5 g5 at5; have b5 := Blk.grown hbl.out g5 hgq; have y2 := (b5.cell (2 + f)).trans hcq; have z2 := b5.frozen (2 + f); clear b5; obtain ⟨A5, n5, c5, e5⟩ := row5.slice_; subst e5)
      all_goals
        go_end0
        have kk := keepsDrew (keepsAlloc (keepsRefl B (ownQ g qv rv2) w2) H2.out.size_ (.cells #[.int .i64 (k : Int)] 3))
        obtain ⟨t9, k9⟩ := TMem.putQ (w := (w2.alloc (.cells #[.int .i64 (k : Int)] 3)).drew) (H2.out.alloc (.cells #[.int .i64 (k : Int)] 3)).drew hf8 row5 g5 at5
        rw [Hc.out]
        exact ⟨rfl, _, _, _, _, t9, keeps_trans K5.out (keeps_trans kk k9)⟩
end Go.Proofs.YtoomffajodheaaaGreatDoor
namespace Go.Proofs.YtoomffajodheaaaGreatDoor
open Go.RowKit
set_option maxRecDepth 100000
theorem map_nCs (l : List Nat) : (l.map Int.ofNat).map (Value.int .i64) = l.flatMap nCs := by
  induction l with
  | nil => rfl
  | cons x r ih => rw [List.map_cons, List.map_cons, ih, List.flatMap_cons]; rfl
theorem cloneN_any (B n : Nat) (A : Option Addr) (c : Nat) (l : List Nat) (w : World) (h : MRow w B 3 (.slice A n c) l) (hA : ∃ a, A = some a) (hn : n = l.length) (hl : l.length ≤ 1000) (hB : B ≤ w.heap.size) :
    Calls Tryz.prog 199 #[.slice A n c] w fun e w' => ∃ v', e = .returned v' ∧ MRow w' B 3 v' l ∧ w.grownBy w' none ∧ (∀ g, v'.ownBlock = some g → w.heap.size ≤ g) := by
  have key : ∀ (w' : World) (v' : Value), w'.ownsRow w.heap.size 3 1 v' l.length (l.flatMap nCs) → Below w.heap.size w w' → MRow w' B 3 v' l ∧ w.grownBy w' none ∧ (∀ g, v'.ownBlock = some g → w.heap.size ≤ g) := fun w' v' r1 r2 =>
    ⟨MRow.of_own (own_mono r1 hB), ⟨r2.os, r2.tape, r2.output, r2.size, fun x hx _ => r2.block x hx⟩, fun g hg => own_ge r1 g hg⟩
  obtain ⟨a, rfl⟩ := hA
  subst hn
  rcases Nat.eq_zero_or_pos l.length with h0 | h0
  · obtain rfl := List.eq_nil_of_length_eq_zero h0
    refine (Tryz.slices_Clone_int_zero a c w).mono ?_
    rintro e w' ⟨v', rfl, r1, _, r2⟩
    exact ⟨v', rfl, key w' v' r1 r2⟩
  · obtain ⟨b', o', c', hv, _, _, hc⟩ := h.at_ h0
    simp only [Value.slice.injEq, Option.some.injEq] at hv
    obtain ⟨rfl, _, rfl⟩ := hv
    refine (Tryz.slices_Clone_int b' o' l.length c (l.map Int.ofNat) w (by simp) (by omega) (fun j hj => ?_)).mono ?_
    · have hj' : j < l.length := by simpa using hj
      rw [hc j hj', map_getD l j hj']
    · rintro e w' ⟨v', rfl, r1, _, r2⟩
      have e1 : ((l.map Int.ofNat).take l.length).map (Value.int .i64) = l.flatMap nCs := by
        rw [List.take_of_length_le (by simp)]
        exact map_nCs l
      rw [e1] at r1
      exact ⟨v', rfl, key w' v' r1 r2⟩
/-- The head of a list, in memory. -/
theorem MRow.head_ {w : World} {B k : Nat} {e : TypeId} {v : Value} {t : List Nat} (h : MRow w B e v (k :: t)) : ∃ b o c, v = .slice (some ⟨b, o, none⟩) (t.length + 1) c ∧ t.length + 1 ≤ c ∧ w.cell? ⟨b, o, none⟩ = some (.int .i64 (k : Int)) := by
  obtain ⟨b, o, c, hv, hc, _, h1⟩ := h.at_ (by simp)
  have := h1 0 (by simp)
  exact ⟨b, o, c, by simpa using hv, by simpa using hc, by simpa using this⟩
theorem rTurn_row {qs : List Int} {s s1 : RS} {g : Nat} (hs : s.sv = none) (h : rTurn qs s = some (g, s1)) : ∃ r, s.row = g :: r ∧ s1 = { s with row := r, sv := some g, c := upd s.c g (s.c g + qu qs g) } := by
  unfold rTurn at h
  rw [hs] at h
  simp only at h
  split at h
  · cases h
  · rename_i g' r h2
    simp only [Option.some.injEq, Prod.mk.injEq] at h
    obtain ⟨rfl, rfl⟩ := h
    exact ⟨r, h2, rfl⟩
theorem grownRefl (w : World) (row : Option Nat) : w.grownBy w row := ⟨rfl, rfl, rfl, Nat.le_refl _, fun _ _ _ => rfl⟩
theorem rPick_step {p : List Pk} {qs : List Int} {n k : Nat} {s s' : RS} (h : rPick p qs (n + 1) s = some (k, s')) : ∃ g s1, rTurn qs s = some (g, s1) ∧ ((sOf p (rHead s1 g) ≤ s1.c g ∧ k = rHead s1 g ∧ s' = rSend p s1 g) ∨ (¬ sOf p (rHead s1 g) ≤ s1.c g ∧ rPick p qs n (rEnd s1 g) = some (k, s'))) := by
  unfold rPick at h
  split at h
  · cases h
  · rename_i g s1 ht
    refine ⟨g, s1, ht, ?_⟩
    split at h
    · rename_i hc
      simp only [Option.some.injEq, Prod.mk.injEq] at h
      exact .inl ⟨hc, h.1.symm, h.2.symm⟩
    · rename_i hc
      exact .inr ⟨hc, h⟩
/-- What a turn's packet is, in memory. -/
structure HeadF (p : List Pk) (m g : Nat) (W : World) (s : RS) (qv : Nat → Value) (f k : Nat) (tl : List Nat) (qb qo qc N b o : Nat) (c : Nat) : Prop where
  q : s.q f = k :: tl
  kp : k < p.length
  N_ : N = tl.length + 1
  Nc : N ≤ qc
  qv_ : qv f = .slice (some ⟨qb, qo, none⟩) N qc
  ck : W.cell? ⟨qb, qo, none⟩ = some (.int .i64 (k : Int))
  f8 : f < 8
  hd : rHead s f = k
theorem head_facts {B g m : Nat} {vp vq : Value} {p : List Pk} {qs : List Int} {w : World} {own : Nat → Prop} {s : RS} {cs : Array Value} {qv : Nat → Value} {rv : Value} (hpk : ∀ x ∈ p, okPk x) (h : TMem B g vp vq w own s cs qv rv) (hri : RI p qs m s) {f : Nat} (hf : s.q f ≠ []) :
    ∃ k tl qb qo qc N, HeadF p m g w s qv f k tl qb qo qc N 0 0 0 := by
  have f8 := hri.g8 hpk hf
  have hh := hri.head hf
  have e := rHead_mem hf
  have hq := h.q f f8
  rw [e] at hq
  obtain ⟨qb, qo, qc, hv, hc, hk⟩ := hq.head_
  exact ⟨_, _, qb, qo, qc, _, ⟨e, by have := hri.le; omega, rfl, hc, hv, hk, f8, rfl⟩⟩
theorem rq_len {p : List Pk} {qs : List Int} {m : Nat} {s : RS} (hri : RI p qs m s) (hp : p.length ≤ 300) (f : Nat) : (s.q f).length ≤ 300 := by
  rcases asc_len m (s.q f) 0 (fun _ _ => Nat.zero_le _) (fun j hj => (hri.fl f j hj).1) (hri.so f) with h9 | h9
  · rw [h9]; simp
  · have := hri.le; omega
theorem nodupN (n : Nat) (l : List Nat) (h : l.Nodup) (h8 : ∀ x ∈ l, x < n) : l.length ≤ n := by
  induction n generalizing l with
  | zero =>
    cases l with
    | nil => simp
    | cons x r => exact absurd (h8 x List.mem_cons_self) (Nat.not_lt_zero x)
  | succ n ih =>
    have h1 := ih (l.erase n) (h.erase n) fun x hx => by
      obtain ⟨h2, h3⟩ := (h.mem_erase_iff).1 hx
      have := h8 x h3; omega
    rw [List.length_erase] at h1
    split at h1 <;> omega
theorem rlst_len {p : List Pk} {qs : List Int} {m : Nat} {s : RS} (hpk : ∀ x ∈ p, okPk x) (hri : RI p qs m s) : (lst s).length ≤ 8 :=
  nodupN 8 _ hri.nd fun x hx => hri.g8 hpk ((hri.mem x).1 hx)
theorem rc_bd {p : List Pk} {qs : List Int} {m : Nat} {s : RS} (hpk : ∀ x ∈ p, okPk x) (hq1 : ∀ g, g < 8 → 1 ≤ qu qs g ∧ qu qs g ≤ 3000) (hri : RI p qs m s) {f : Nat} (f8 : f < 8) : 0 ≤ s.c f ∧ s.c f ≤ 4500 ∧ (s.sv ≠ some f → s.c f ≤ 1500) := by
  have hz : ∀ j, j < p.length → sOf p j ≤ 1500 := fun j hj => by rw [sOf_of hj]; exact (hpk _ (List.getElem_mem hj)).2.2.2.1
  have h0 := hri.pos f
  have h1 := (hq1 f f8).2
  by_cases hs : s.sv = some f
  · rcases hri.in_ f hs with h9 | ⟨j, h9, h8⟩
    · exact ⟨h0, by omega, fun e => absurd hs e⟩
    · have := hz j h9; exact ⟨h0, by omega, fun e => absurd hs e⟩
  · rcases hri.out f hs with h9 | ⟨k, r, h9, h8⟩
    · exact ⟨h0, by omega, fun _ => by omega⟩
    · have hk := (hri.fl f k (by rw [h9]; exact List.mem_cons_self)).1
      have := hz k (by have := hri.le; omega)
      exact ⟨h0, by omega, fun _ => by omega⟩
set_option maxHeartbeats 4000000 in
theorem rpick_some (B g m k0 : Nat) (A A' : Option Addr) (c c' : Nat) (p : List Pk) (qs : List Int) (w : World) (own : Nat → Prop) (s s' : RS) (cs : Array Value) (qv : Nat → Value) (rv : Value) (h : TMem B g (.slice A p.length c) (.slice A' qs.length c') w own s cs qv rv) (hp : RdP w B A p) (hq : RdI w B A' qs) (hpk : ∀ x ∈ p, okPk x) (hql : qs.length = 8) (hq1 : ∀ g, g < 8 → 1 ≤ qu qs g ∧ qu qs g ≤ 3000) (hpl : p.length ≤ 300) (hri : RI p qs m s) (hk : rPick p qs (rMu s) s = some (k0, s')) :
    Calls Tryz.prog 178 #[.pointer (some ⟨g, 0, none⟩)] w fun e w' => e = .returned (.tuple #[.int .i64 k0, .bool true]) ∧ ∃ own' cs' qv' rv', TMem B g (.slice A p.length c) (.slice A' qs.length c') w' own' s' cs' qv' rv' ∧ Keeps B own w own' w' := by
  obtain ⟨i0, hi0, hz0, hz1, hz2⟩ := info_parts infoInt
  have hq0 : ∀ g, 0 ≤ qu qs g := fun g => by
    by_cases h8 : g < 8
    · have := (hq1 g h8).1; omega
    · have : qu qs g = 0 := by unfold qu; simp [List.getD, show ¬ g < qs.length by omega]
      omega
  have Hql := Lib.hid hql
  clear hql
  go_enter Tryz.func178, Tryz.ntmps178
  go_wp2
  go_loopg [4] (rMu s) (fun n fv wr => ∃ (s1 : RS) (own1 : Nat → Prop) (cs1 : Array Value) (qv1 : Nat → Value) (rv1 : Value), TMem B g (.slice A p.length c) (.slice A' qs.length c') wr own1 s1 cs1 qv1 rv1 ∧ RI p qs m s1 ∧ rMu s1 ≤ n ∧ rPick p qs n s1 = some (k0, s') ∧ Keeps B own w own1 wr)
  case atStart => exact ⟨s, own, cs, qv, rv, h, hri, Nat.le_refl _, hk, keepsRefl _ _ _⟩
  case round =>
    obtain ⟨s1, own1, cs1, qv1, rv1, h1, hri1, hmu, hpk1, k1⟩ := hrel
    clear hk hri h
    cases gk with
    | zero => unfold rMu at hmu; omega
    | succ n =>
      obtain ⟨f, s2, ht, hcase⟩ := rPick_step hpk1
      obtain ⟨hri2, hsv2, hq2, hl2, hne1, ho⟩ := hri1.turn hq0 ht
      have hne2 : s2.q f ≠ [] := by rw [hq2]; exact hne1
      have hend : ¬ sOf p (rHead s2 f) ≤ s2.c f → RI p qs m (rEnd s2 f) ∧ rMu (rEnd s2 f) ≤ n := fun hc => by
        have hh := (hri2.head hne2).1
        have hk' : rHead s2 f < p.length := by have := hri2.le; omega
        have hz := (hpk _ (List.getElem_mem hk')).2.2.2.1
        have hc' := hc
        rw [sOf_of hk'] at hc'
        have hmu2 := mu_turn (hq1 f (hri2.g8 hpk hne2)).1 (hri2.g8 hpk hne2) ht hsv2 (by omega) ho
        exact ⟨(hri2.end_ hsv2 hc).1, by omega⟩
      clear hpk1
      have H1 := Lib.hid h1
      have K1 := Lib.hid k1
      have Hmu := Lib.hid hmu
      clear h1 k1 hmu
      rcases ho with ⟨hsv1, rfl⟩ | ⟨hsv1, hc2⟩
      · have HW := H1
        have KW := K1
        obtain ⟨W, rfl⟩ : ∃ W : World, W = wr := ⟨_, rfl⟩
        clear ht hri1 hl2 hne1 hsv1 hq2

        obtain ⟨k, tl, qb, qo, qc, N, hF⟩ := head_facts hpk HW.out hri2 hne2
        have hkp := hF.kp
        obtain ⟨b, o, rfl, hb, d0, d1, d2⟩ := RdP.get (hp.below KW.out.1) hkp
        have hok := hpk _ (List.getElem_mem hkp)
        obtain ⟨c20, c2m, _⟩ := rc_bd hpk hq1 hri2 hF.f8
        have e19 : W.cell? ⟨g, 19, none⟩ = some (.int .i64 (f : Int)) := ((HW.out.at_ 19).trans HW.out.cv).trans (by rw [hsv2]; rfl)
        have e0 : W.cell? ⟨g, 0, none⟩ = some (.slice (some ⟨b, o, none⟩) p.length c) := (HW.out.at_ 0).trans HW.out.c0
        have eq : W.cell? ⟨g, 2 + f, none⟩ = some (.slice (some ⟨qb, qo, none⟩) N qc) := ((HW.out.at_ _).trans (HW.out.cq f hF.f8)).trans (by rw [hF.qv_])
        have ec : W.cell? ⟨g, 10 + f, none⟩ = some (.int .i64 (s2.c f)) := (HW.out.at_ _).trans (HW.out.cc f hF.f8)
        have ek : W.cell? ⟨qb, qo, none⟩ = some (.int .i64 (k : Int)) := hF.ck
        have q1 : (0 : Int) ≤ (f : Int) := by omega
        have q2 : (f : Int) < 8 := by have := hF.f8; omega
        have q3 : (0 : Int) < (N : Int) := by have := hF.N_; omega
        have q4 : (0 : Int) ≤ (k : Int) := by omega
        have q5 : (k : Int) < (p.length : Int) := by have := hF.kp; omega
        have q6 : (1 : Int) ≤ (N : Int) := by omega
        have q7 : (N : Int) ≤ (qc : Int) := by have := hF.Nc; omega
        have q8 : ¬ (f : Int) < 0 := by omega
        obtain ⟨z, hz⟩ : ∃ z, z = p[k].s := ⟨_, rfl⟩
        rw [← hz] at d1
        have zb : 1 ≤ z ∧ z ≤ 1500 := by rw [hz]; exact ⟨hok.2.2.1, hok.2.2.2.1⟩
        obtain ⟨zb0, zb1⟩ := zb
        have hzk : sOf p (rHead s2 f) = z := by rw [hF.hd, sOf_of hF.kp, hz]
        rw [hzk] at hcase hend
        have d1w : W.cell? ⟨b, o + k * 3 + 1, none⟩ = some (.int .i64 z) := d1
        obtain ⟨cr, hcr⟩ : ∃ cr, cr = s2.c f := ⟨_, rfl⟩
        rw [← hcr] at ec c20 c2m hcase hend
        have HF := Lib.hid hF
        have Hz := Lib.hid hz
        have Hcr := Lib.hid hcr
        have Hzk := Lib.hid hzk
        have Hsv := Lib.hid hsv2
        have Hne := Lib.hid hne2
        have Hri := Lib.hid hri2
        clear hF hz hcr hok hzk hsv2 hne2 hri2
        rcases hcase with ⟨hc1, hk0, hs'⟩ | ⟨hc1, hrest⟩
        · obtain rfl : k0 = k := hk0.trans HF.out.hd
          have Hs' := Lib.hid hs'
          clear hk0 hs'
          go_wp2_with fail
          obtain ⟨V, hV⟩ : ∃ V : World, V = W := ⟨_, rfl⟩
          have TV : TMem B g (.slice (some ⟨b, o, none⟩) p.length c) (.slice A' qs.length c') V own1 s2 cs1 qv1 rv1 := by rw [hV]; exact HW.out
          have KV : Keeps B own w own1 V := by rw [hV]; exact KW.out
          have v0 : V.cell? ⟨g, 0, none⟩ = some (.slice (some ⟨b, o, none⟩) p.length c) := by rw [hV]; exact e0
          have vc : V.cell? ⟨g, 10 + f, none⟩ = some (.int .i64 cr) := by rw [hV]; exact ec
          have vd : V.cell? ⟨b, o + k0 * 3 + 1, none⟩ = some (.int .i64 z) := by rw [hV]; exact d1w
          have HTV := Lib.hid TV
          have HKV := Lib.hid KV
          rw [← hV]
          clear hV e19 e0 eq ec ek d0 d1 d1w d2 TV KV
          go_quiet (fail)
          rename Nat => nq1
          obtain ⟨W1, hW1⟩ : ∃ W1 : World, W1 = V.drewN nq1 := ⟨_, rfl⟩
          have T1 : TMem B g (.slice (some ⟨b, o, none⟩) p.length c) (.slice A' qs.length c') W1 own1 s2 cs1 qv1 rv1 := by rw [hW1]; exact HTV.out.drewN nq1
          have k1 : Keeps B own w own1 W1 := by rw [hW1]; exact keepsDrewN HKV.out nq1
          have y0 : W1.cell? ⟨g, 0, none⟩ = some (.slice (some ⟨b, o, none⟩) p.length c) := (T1.at_ 0).trans T1.c0
          have yc : W1.cell? ⟨g, 10 + f, none⟩ = some (.int .i64 cr) := by rw [Hcr.out]; exact (T1.at_ _).trans (T1.cc f HF.out.f8)
          have yz : W1.frozen? ⟨g, 10 + f, none⟩ = false := T1.blk.frozen _
          have yd : W1.cell? ⟨b, o + k0 * 3 + 1, none⟩ = some (.int .i64 z) := by rw [hW1]; exact vd
          have yb1 : -9223372036854775808 ≤ cr - z := by omega
          have yb2 : cr - z ≤ 9223372036854775807 := by omega
          have HT1 := Lib.hid T1
          have HK1 := Lib.hid k1
          rw [← hW1]
          clear hW1 v0 vc vd HTV HKV T1 k1 HW KW
          go_wp2_with fail
          go_still_tail 18, (by kernel_rfl)
          go_wp2_with fail
          obtain ⟨W2, hW2⟩ : ∃ W2 : World, W2 = (W1.setCell ⟨g, 10 + f, none⟩ (.int .i64 (cr - z))).drew := ⟨_, rfl⟩
          have T2 : TMem B g (.slice (some ⟨b, o, none⟩) p.length c) (.slice A' qs.length c') W2 own1 { s2 with c := upd s2.c f (cr - z) } (cs1.setIfInBounds (10 + f) (.int .i64 (cr - z))) qv1 rv1 := by rw [hW2]; exact (HT1.out.setC HF.out.f8 _).drew
          have k2 : Keeps B own w own1 W2 := by rw [hW2]; exact keepsDrew (keeps_trans HK1.out (keepsSet (a := ⟨g, 10 + f, none⟩) (keepsRefl B own1 W1) ((HT1.out.o g).2 (.inl rfl)) HT1.out.hB _))
          have y2 : W2.cell? ⟨g, 2 + f, none⟩ = some (.slice (some ⟨qb, qo, none⟩) N qc) := ((T2.at_ _).trans (T2.cq f HF.out.f8)).trans (by rw [HF.out.qv_])
          have y2f : W2.frozen? ⟨g, 2 + f, none⟩ = false := T2.blk.frozen _
          have y10c : W2.cell? ⟨g, 10 + f, none⟩ = some (.int .i64 (cr - z)) := (T2.at_ _).trans ((T2.cc f HF.out.f8).trans (by show some (Value.int .i64 (upd s2.c f (cr - z) f)) = _; rw [upd_same]))
          have y19c : W2.cell? ⟨g, 19, none⟩ = some (.int .i64 (f : Int)) := (T2.at_ 19).trans (T2.cv.trans (by show some (svV s2.sv) = _; rw [Hsv.out]; rfl))
          have y10 : W2.frozen? ⟨g, 10 + f, none⟩ = false := T2.blk.frozen _
          have y19 : W2.frozen? ⟨g, 19, none⟩ = false := T2.blk.frozen _
          have HT2 := Lib.hid T2
          have HK2 := Lib.hid k2
          rw [← hW2]
          clear hW2 T2 k2 HT1 HK1 y0 yc yz yd
          rcases tl with _ | ⟨k2, tl⟩
          · obtain rfl : N = 1 := HF.out.N_
            have hsd : rSend p s2 f = { s2 with q := upd s2.q f [], c := upd (upd s2.c f (cr - z)) f 0, sv := none } := by
              unfold rSend
              rw [HF.out.q, List.tail_cons, if_pos rfl, upd_upd]
            have hmr := HT2.out.q f HF.out.f8
            have hsq : s2.q f = [k0] := HF.out.q
            have hqvf := HF.out.qv_
            simp only [hsq, hqvf] at hmr
            have hmt := MRow.tail (s := []) hmr
            have Hmt := Lib.hid hmt
            have Hsd := Lib.hid hsd
            clear hsd hmr hsq hqvf hmt q3 q6
            by_cases hqc : qc = 1
            · subst hqc
              clear q7
              go_wp2_with fail
              go_still_tail 12, (by kernel_rfl)
              go_wp2_with fail
              go_ret2
              obtain ⟨t3, k3⟩ := HT2.out.putQ (w' := W2) HF.out.f8 (q' := []) (v' := .slice (some ⟨qb, qo, none⟩) 0 0) (by have := Hmt.out; simpa using this) (grownRefl _ _) (.inl (by rw [HF.out.qv_]; rfl))
              have k4 := keeps_trans HK2.out (keeps_trans k3 (keepsSet (a := ⟨g, 19, none⟩) (keepsSet (a := ⟨g, 10 + f, none⟩) (keepsRefl B _ _) ((t3.o g).2 (.inl rfl)) HT2.out.hB (.int .i64 0)) ((t3.o g).2 (.inl rfl)) HT2.out.hB (.int .i64 (-1))))
              exact ⟨rfl, _, _, _, _, by rw [Hs'.out, Hsd.out]; exact ((t3.setC HF.out.f8 0).setSv none).drew, keepsDrew k4⟩
            · go_wp2_with fail
              go_still_tail 12, (by kernel_rfl)
              go_wp2_with fail
              go_ret2
              obtain ⟨t3, k3⟩ := HT2.out.putQ (w' := W2) HF.out.f8 (q' := []) (v' := .slice (some ⟨qb, qo + 1, none⟩) 0 (qc - 1)) (by have := Hmt.out; rw [if_neg hqc] at this; exact this) (grownRefl _ _) (.inl (by rw [HF.out.qv_]; rfl))
              have k4 := keeps_trans HK2.out (keeps_trans k3 (keepsSet (a := ⟨g, 19, none⟩) (keepsSet (a := ⟨g, 10 + f, none⟩) (keepsRefl B _ _) ((t3.o g).2 (.inl rfl)) HT2.out.hB (.int .i64 0)) ((t3.o g).2 (.inl rfl)) HT2.out.hB (.int .i64 (-1))))
              exact ⟨rfl, _, _, _, _, by rw [Hs'.out, Hsd.out]; exact ((t3.setC HF.out.f8 0).setSv none).drew, keepsDrew k4⟩
          · have hN0 : ¬ ((N - 1 : Nat) : Int) = 0 := by have := HF.out.N_; rw [List.length_cons] at this; omega
            have hN1 : ¬ N - 1 = 0 := by omega
            have hqc : ¬ qc = 1 := by have := HF.out.N_; rw [List.length_cons] at this; omega
            have hsd : rSend p s2 f = { s2 with q := upd s2.q f (k2 :: tl), c := upd s2.c f (cr - z) } := by
              unfold rSend
              rw [HF.out.q, List.tail_cons, if_neg (by simp), Hzk.out, Hcr.out]
            have hmr := HT2.out.q f HF.out.f8
            have hsq : s2.q f = k0 :: k2 :: tl := HF.out.q
            have hqvf := HF.out.qv_
            have hNN := HF.out.N_
            rw [hNN] at hqvf
            simp only [hsq, hqvf] at hmr
            have hmt := MRow.tail (s := k2 :: tl) hmr
            rw [if_neg hqc, show (k2 :: tl).length = N - 1 by omega] at hmt
            have Hmt := Lib.hid hmt
            have Hsd := Lib.hid hsd
            clear hsd hmr hsq hqvf hmt hNN
            go_wp2_with fail
            go_still_tail 12, (by kernel_rfl)
            go_wp2_with fail
            go_ret2
            obtain ⟨t3, k3⟩ := HT2.out.putQ (w' := W2) HF.out.f8 (q' := k2 :: tl) (v' := .slice (some ⟨qb, qo + 1, none⟩) (N - 1) (qc - 1)) Hmt.out (grownRefl _ _) (.inl (by rw [HF.out.qv_]; rfl))
            exact ⟨rfl, _, _, _, _, by rw [Hs'.out, Hsd.out]; exact t3.drew, keepsDrew (keeps_trans HK2.out k3)⟩
        · obtain ⟨hri3, hmu3⟩ := hend hc1
          have Hrest := Lib.hid hrest
          clear hrest
          go_wp2_with fail
          obtain ⟨V, hV⟩ : ∃ V : World, V = W := ⟨_, rfl⟩
          have TV : TMem B g (.slice (some ⟨b, o, none⟩) p.length c) (.slice A' qs.length c') V own1 s2 cs1 qv1 rv1 := by rw [hV]; exact HW.out
          have KV : Keeps B own w own1 V := by rw [hV]; exact KW.out
          have v0 : V.cell? ⟨g, 0, none⟩ = some (.slice (some ⟨b, o, none⟩) p.length c) := by rw [hV]; exact e0
          have vc : V.cell? ⟨g, 10 + f, none⟩ = some (.int .i64 cr) := by rw [hV]; exact ec
          have vd : V.cell? ⟨b, o + k * 3 + 1, none⟩ = some (.int .i64 z) := by rw [hV]; exact d1w
          have HTV := Lib.hid TV
          have HKV := Lib.hid KV
          rw [← hV]
          clear hV e19 e0 eq ec ek d0 d1 d1w d2 TV KV
          go_quiet (fail)
          rename Nat => nq1
          obtain ⟨W1, hW1⟩ : ∃ W1 : World, W1 = V.drewN nq1 := ⟨_, rfl⟩
          have T1 : TMem B g (.slice (some ⟨b, o, none⟩) p.length c) (.slice A' qs.length c') W1 own1 s2 cs1 qv1 rv1 := by rw [hW1]; exact HTV.out.drewN nq1
          have k1 : Keeps B own w own1 W1 := by rw [hW1]; exact keepsDrewN HKV.out nq1
          have y18 : W1.cell? ⟨g, 18, none⟩ = some rv1 := (T1.at_ 18).trans T1.cr
          have hrl : s2.row.length ≤ 1000 := by
            have h8 := rlst_len hpk Hri.out
            unfold lst at h8
            rw [Hsv.out, List.length_cons] at h8
            omega
          have hR := Lib.hid (T1.r.alloc (.cells #[.int .i64 (f : Int)] 3))
          have xf : (W1.alloc (.cells #[.int .i64 (f : Int)] 3)).cell? ⟨W1.heap.size, 0, none⟩ = some (.int .i64 (f : Int)) := (Blk.new W1 3 #[.int .i64 (f : Int)]).cell 0
          have hbl : Hid (Blk (W1.alloc (.cells #[.int .i64 (f : Int)] 3)) g 258 cs1) := Lib.hid (T1.blk.alloc (.cells #[.int .i64 (f : Int)] 3))
          have hba : B ≤ (W1.alloc (.cells #[.int .i64 (f : Int)] 3)).heap.size := le_alloc T1.size_ _
          have hgr : some g ≠ (rv1).ownBlock := fun e => T1.gr e.symm
          have hcr18 := T1.cr
          have hcr19 : cs1[19]? = some (.int .i64 (f : Int)) := T1.cv.trans (by rw [Hsv.out]; rfl)
          have HT1 := Lib.hid T1
          have HK1 := Lib.hid k1
          rw [← hW1]
          clear hW1 v0 vc vd HTV HKV T1 k1 HW KW
          go_wp2_with (refine wpList_append_mid _ rfl (.tmp 137) (.tmp 139) 27 rfl B 3 i0 Tryz.underlying27 hi0 hz0 hz1 hz2 rv1 s2.row rfl hR.out ⟨W1.heap.size, 0, none⟩ f rfl xf hrl hba ?_; intro v4 w4 row4 g4 at4; have b4 := Blk.grown hbl.out g4 hgr; have y4 := (b4.cell 18).trans hcr18; have z4 := b4.frozen 18; have y5 := (b4.cell 19).trans hcr19; have z5 := b4.frozen 19; clear b4; obtain ⟨A4, n4, c4, e4⟩ := row4.slice_; subst e4)
          obtain ⟨t4, k4⟩ := TMem.putR (HT1.out.alloc (.cells #[.int .i64 (f : Int)] 3)) row4 g4 at4
          have k5 := keeps_trans (keeps_trans HK1.out (keepsAlloc (keepsRefl B own1 W1) HT1.out.size_ (.cells #[.int .i64 (f : Int)] 3))) (keeps_trans k4 (keepsSet (a := ⟨g, 19, none⟩) (keepsRefl B _ _) ((t4.o g).2 (.inl rfl)) HT1.out.hB (.int .i64 (-1))))
          go_roundg n
          case measure => omega
          case rel => exact ⟨rEnd s2 f, _, _, _, _, t4.setSv none, hri3, hmu3, Hrest.out, k5⟩
      · obtain ⟨r, hr, hs2⟩ := rTurn_row hsv1 ht
        have f8 := hri1.g8 hpk hne1
        have hrow := H1.out.r
        rw [hr] at hrow
        obtain ⟨rb, ro, rc, hrv, hrc, her⟩ := hrow.head_
        obtain ⟨RN, hRN⟩ : ∃ RN, RN = r.length + 1 := ⟨_, rfl⟩
        rw [← hRN] at hrv hrc
        obtain ⟨b2, o2, rfl, hb2, eq2⟩ := RdI.get (hq.below K1.out.1) (show f < qs.length by rw [Hql.out]; exact f8)
        have hquf : qu qs f = qs[f]'(by rw [Hql.out]; exact f8) := by unfold qu; simp [List.getD, show f < qs.length by rw [Hql.out]; exact f8]
        rw [← hquf] at eq2
        have hqb := hq1 f f8
        obtain ⟨x0, x1, x2⟩ := rc_bd hpk hq1 hri1 f8
        have x3 := x2 (by rw [hsv1]; simp)
        obtain ⟨cf, hcf⟩ : ∃ cf, cf = s1.c f := ⟨_, rfl⟩
        rw [← hcf] at x0 x3 x1
        obtain ⟨qf, hqf⟩ : ∃ qf, qf = qu qs f := ⟨_, rfl⟩
        rw [← hqf] at hqb eq2
        obtain ⟨hqb1, hqb2⟩ := hqb
        subst hrv
        have hrl : r.length ≤ 1000 := by
          have h8 := rlst_len hpk hri1
          unfold lst at h8
          rw [hsv1] at h8
          simp only [hr, List.length_cons] at h8
          omega
        have e19 : wr.cell? ⟨g, 19, none⟩ = some (.int .i64 (-1)) := ((H1.out.at_ 19).trans H1.out.cv).trans (by rw [hsv1]; rfl)
        have e18 : wr.cell? ⟨g, 18, none⟩ = some (.slice (some ⟨rb, ro, none⟩) RN rc) := (H1.out.at_ 18).trans H1.out.cr
        have z19 : wr.frozen? ⟨g, 19, none⟩ = false := H1.out.blk.frozen _
        have p1 : ¬ (RN : Int) = 0 := by omega
        have p2 : (0 : Int) < (RN : Int) := by omega
        have p3 : (1 : Int) ≤ (RN : Int) := by omega
        have p4 : (RN : Int) ≤ (rc : Int) := by omega
        have T4 := H1.out.setSv (some f)
        have hm4 := T4.r
        simp only [hr] at hm4
        rw [hRN] at hm4
        have hmt := MRow.tail (s := r) hm4
        rw [show r.length = RN - 1 by omega] at hmt
        have w18 : (wr.setCell ⟨g, 19, none⟩ (.int .i64 (f : Int))).cell? ⟨g, 18, none⟩ = some (.slice (some ⟨rb, ro, none⟩) RN rc) := (T4.at_ 18).trans T4.cr
        have hmt2 : MRow (wr.setCell ⟨g, 19, none⟩ (.int .i64 (f : Int))) B 3 (.slice (if rc = 1 then some ⟨rb, ro, none⟩ else some ⟨rb, ro + 1, none⟩) (RN - 1) (rc - 1)) r := by
          by_cases h9 : rc = 1
          · rw [if_pos h9] at hmt ⊢; exact hmt
          · rw [if_neg h9] at hmt ⊢; exact hmt
        have hA4 : ∃ a, (if rc = 1 then some (⟨rb, ro, none⟩ : Addr) else some ⟨rb, ro + 1, none⟩) = some a := by
          by_cases h9 : rc = 1
          · rw [if_pos h9]; exact ⟨_, rfl⟩
          · rw [if_neg h9]; exact ⟨_, rfl⟩
        have hn4 : RN - 1 = r.length := by omega
        have hB4 : B ≤ (wr.setCell ⟨g, 19, none⟩ (.int .i64 (f : Int))).heap.size := T4.size_
        have hbl4 : Hid (Blk (wr.setCell ⟨g, 19, none⟩ (.int .i64 (f : Int))) g 258 _) := Lib.hid T4.blk
        have hcr4 := T4.cr
        have Hn4 := Lib.hid hn4
        have HA4 := Lib.hid hA4
        have HT4 := Lib.hid T4
        have Hmt := Lib.hid hmt2
        have Hr := Lib.hid hr
        have Hs2 := Lib.hid hs2
        have HRN := Lib.hid hRN
        have Hcf := Lib.hid hcf
        have Hqf := Lib.hid hqf
        have Hsv1 := Lib.hid hsv1
        have Hcase := Lib.hid hcase
        have Hend := Lib.hid hend
        have Hne2 := Lib.hid hne2
        have Hri2 := Lib.hid hri2
        have Hsv2 := Lib.hid hsv2
        clear T4 hm4 hmt hmt2 hn4 hA4 hr hs2 hRN hcf hqf hquf hsv1 hc2 ht hq2 hl2 hne1 x2 hrow hcase hend hri1 hri2 hsv2 hne2
        go_wp2_with (go_at_call 199; refine (cloneN_any B _ _ _ r _ Hmt.out HA4.out Hn4.out hrl hB4).mono ?_; rintro e w4 ⟨v4, rfl, row4, g4, at4⟩; have b4 := Blk.grown hbl4.out g4 (by simp); have y4 := (b4.cell 18).trans hcr4; have z4 := b4.frozen 18; clear b4; obtain ⟨A4, n4, c4, e4⟩ := row4.slice_; subst e4)
        all_goals
          obtain ⟨t5, k5⟩ := TMem.putR2 HT4.out row4 (grownAny g4 _) (fun b e => .inr (at4 b e))
          have k6 := keeps_trans K1.out (keeps_trans (keepsSet (a := ⟨g, 19, none⟩) (keepsRefl B own1 wr) ((H1.out.o g).2 (.inl rfl)) H1.out.hB (.int .i64 (f : Int))) k5)
          have b4 := ((Below.refl B wr).setCell (p := ⟨g, 19, none⟩) H1.out.hB (.int .i64 (f : Int)))
          clear row4 g4 at4 k5 y4 z4 e18 e19 z19 w18 her
          generalize w4.setCell ⟨g, 18, none⟩ (.slice A4 n4 c4) = W5 at t5 k6 ⊢
          generalize Value.slice A4 n4 c4 = rv2 at t5 k6 ⊢
          have x19 : W5.cell? ⟨g, 19, none⟩ = some (.int .i64 (f : Int)) := (t5.at_ 19).trans t5.cv
          have x1 : W5.cell? ⟨g, 1, none⟩ = some (.slice (some ⟨b2, o2, none⟩) qs.length c') := (t5.at_ 1).trans t5.c1
          have xc : W5.cell? ⟨g, 10 + f, none⟩ = some (.int .i64 cf) := by rw [Hcf.out]; exact (t5.at_ _).trans (t5.cc f f8)
          have xz : W5.frozen? ⟨g, 10 + f, none⟩ = false := t5.blk.frozen _
          have xq : W5.cell? ⟨b2, o2 + f, none⟩ = some (.int .i64 qf) := by
            obtain ⟨b3, o3, e3, _, e5⟩ := RdI.get (hq.below k6.1) (show f < qs.length by rw [Hql.out]; exact f8)
            simp only [Option.some.injEq, Addr.mk.injEq, and_true] at e3
            obtain ⟨rfl, rfl⟩ := e3
            rw [e5, Hqf.out]
            unfold qu
            simp [List.getD, show f < qs.length by rw [Hql.out]; exact f8]
          have q1 : (0 : Int) ≤ (f : Int) := by omega
          have q2 : (f : Int) < 8 := by omega
          have q3 : (f : Int) < (qs.length : Int) := by rw [Hql.out]; omega
          have yb1 : -9223372036854775808 ≤ cf + qf := by omega
          have yb2 : cf + qf ≤ 9223372036854775807 := by omega
          have HT5 := Lib.hid t5
          have HK5 := Lib.hid k6
          clear t5 k6 eq2
          go_still_tail 23, (by kernel_rfl)
          obtain ⟨W, hW⟩ : ∃ W : World, W = W5.setCell ⟨g, 10 + f, none⟩ (.int .i64 (cf + qf)) := ⟨_, rfl⟩
          obtain ⟨cs2, t6⟩ : ∃ cs2, TMem B g (.slice A p.length c) (.slice (some ⟨b2, o2, none⟩) qs.length c') W (ownQ g qv1 rv2) s2 cs2 qv1 rv2 := ⟨_, by
            rw [hW, Hs2.out, ← Hqf.out, ← Hcf.out]
            exact HT5.out.setC f8 (cf + qf)⟩
          have k6 : Keeps B own w (ownQ g qv1 rv2) W := by
            rw [hW]
            exact keeps_trans HK5.out (keepsSet (a := ⟨g, 10 + f, none⟩) (keepsRefl B _ W5) ((HT5.out.o g).2 (.inl rfl)) HT5.out.hB _)
          have HW := Lib.hid t6
          have KW := Lib.hid k6
          have hcase := Hcase.out
          have hend := Hend.out
          have hne2 := Hne2.out
          have hri2 := Hri2.out
          have hsv2 := Hsv2.out
          subst hW
          clear t6 k6 x19 x1 xq q1 q2 q3 HT5 HK5 H1 K1 hbl4 hcr4 b4 HT4 Hmt HA4 Hn4

          obtain ⟨k, tl, qb, qo, qc, N, hF⟩ := head_facts hpk HW.out hri2 hne2
          have hkp := hF.kp
          obtain ⟨b, o, rfl, hb, d0, d1, d2⟩ := RdP.get (hp.below KW.out.1) hkp
          have hok := hpk _ (List.getElem_mem hkp)
          obtain ⟨c20, c2m, _⟩ := rc_bd hpk hq1 hri2 hF.f8
          have e19 : (W5.setCell ⟨g, 10 + f, none⟩ (.int .i64 (cf + qf))).cell? ⟨g, 19, none⟩ = some (.int .i64 (f : Int)) := ((HW.out.at_ 19).trans HW.out.cv).trans (by rw [hsv2]; rfl)
          have e0 : (W5.setCell ⟨g, 10 + f, none⟩ (.int .i64 (cf + qf))).cell? ⟨g, 0, none⟩ = some (.slice (some ⟨b, o, none⟩) p.length c) := (HW.out.at_ 0).trans HW.out.c0
          have eq : (W5.setCell ⟨g, 10 + f, none⟩ (.int .i64 (cf + qf))).cell? ⟨g, 2 + f, none⟩ = some (.slice (some ⟨qb, qo, none⟩) N qc) := ((HW.out.at_ _).trans (HW.out.cq f hF.f8)).trans (by rw [hF.qv_])
          have ec : (W5.setCell ⟨g, 10 + f, none⟩ (.int .i64 (cf + qf))).cell? ⟨g, 10 + f, none⟩ = some (.int .i64 (s2.c f)) := (HW.out.at_ _).trans (HW.out.cc f hF.f8)
          have ek : (W5.setCell ⟨g, 10 + f, none⟩ (.int .i64 (cf + qf))).cell? ⟨qb, qo, none⟩ = some (.int .i64 (k : Int)) := hF.ck
          have q1 : (0 : Int) ≤ (f : Int) := by omega
          have q2 : (f : Int) < 8 := by have := hF.f8; omega
          have q3 : (0 : Int) < (N : Int) := by have := hF.N_; omega
          have q4 : (0 : Int) ≤ (k : Int) := by omega
          have q5 : (k : Int) < (p.length : Int) := by have := hF.kp; omega
          have q6 : (1 : Int) ≤ (N : Int) := by omega
          have q7 : (N : Int) ≤ (qc : Int) := by have := hF.Nc; omega
          have q8 : ¬ (f : Int) < 0 := by omega
          obtain ⟨z, hz⟩ : ∃ z, z = p[k].s := ⟨_, rfl⟩
          rw [← hz] at d1
          have zb : 1 ≤ z ∧ z ≤ 1500 := by rw [hz]; exact ⟨hok.2.2.1, hok.2.2.2.1⟩
          obtain ⟨zb0, zb1⟩ := zb
          have hzk : sOf p (rHead s2 f) = z := by rw [hF.hd, sOf_of hF.kp, hz]
          rw [hzk] at hcase hend
          have d1w : (W5.setCell ⟨g, 10 + f, none⟩ (.int .i64 (cf + qf))).cell? ⟨b, o + k * 3 + 1, none⟩ = some (.int .i64 z) := d1
          obtain ⟨cr, hcr⟩ : ∃ cr, cr = s2.c f := ⟨_, rfl⟩
          rw [← hcr] at ec c20 c2m hcase hend
          have HF := Lib.hid hF
          have Hz := Lib.hid hz
          have Hcr := Lib.hid hcr
          have Hzk := Lib.hid hzk
          have Hsv := Lib.hid hsv2
          have Hne := Lib.hid hne2
          have Hri := Lib.hid hri2
          clear hF hz hcr hok hzk hsv2 hne2 hri2
          rcases hcase with ⟨hc1, hk0, hs'⟩ | ⟨hc1, hrest⟩
          · obtain rfl : k0 = k := hk0.trans HF.out.hd
            have Hs' := Lib.hid hs'
            clear hk0 hs'
            go_wp2_with fail
            obtain ⟨V, hV⟩ : ∃ V : World, V = (W5.setCell ⟨g, 10 + f, none⟩ (.int .i64 (cf + qf))).drew := ⟨_, rfl⟩
            have TV : TMem B g (.slice (some ⟨b, o, none⟩) p.length c) (.slice (some ⟨b2, o2, none⟩) qs.length c') V (ownQ g qv1 rv2) s2 cs2 qv1 rv2 := by rw [hV]; exact HW.out.drew
            have KV : Keeps B own w (ownQ g qv1 rv2) V := by rw [hV]; exact keepsDrew KW.out
            have v0 : V.cell? ⟨g, 0, none⟩ = some (.slice (some ⟨b, o, none⟩) p.length c) := by rw [hV]; exact e0
            have vc : V.cell? ⟨g, 10 + f, none⟩ = some (.int .i64 cr) := by rw [hV]; exact ec
            have vd : V.cell? ⟨b, o + k0 * 3 + 1, none⟩ = some (.int .i64 z) := by rw [hV]; exact d1w
            have HTV := Lib.hid TV
            have HKV := Lib.hid KV
            rw [← hV]
            clear hV e19 e0 eq ec ek d0 d1 d1w d2 TV KV
            go_quiet (fail)
            rename Nat => nq1
            obtain ⟨W1, hW1⟩ : ∃ W1 : World, W1 = V.drewN nq1 := ⟨_, rfl⟩
            have T1 : TMem B g (.slice (some ⟨b, o, none⟩) p.length c) (.slice (some ⟨b2, o2, none⟩) qs.length c') W1 (ownQ g qv1 rv2) s2 cs2 qv1 rv2 := by rw [hW1]; exact HTV.out.drewN nq1
            have k1 : Keeps B own w (ownQ g qv1 rv2) W1 := by rw [hW1]; exact keepsDrewN HKV.out nq1
            have y0 : W1.cell? ⟨g, 0, none⟩ = some (.slice (some ⟨b, o, none⟩) p.length c) := (T1.at_ 0).trans T1.c0
            have yc : W1.cell? ⟨g, 10 + f, none⟩ = some (.int .i64 cr) := by rw [Hcr.out]; exact (T1.at_ _).trans (T1.cc f HF.out.f8)
            have yz : W1.frozen? ⟨g, 10 + f, none⟩ = false := T1.blk.frozen _
            have yd : W1.cell? ⟨b, o + k0 * 3 + 1, none⟩ = some (.int .i64 z) := by rw [hW1]; exact vd
            have yb1 : -9223372036854775808 ≤ cr - z := by omega
            have yb2 : cr - z ≤ 9223372036854775807 := by omega
            have HT1 := Lib.hid T1
            have HK1 := Lib.hid k1
            rw [← hW1]
            clear hW1 v0 vc vd HTV HKV T1 k1 HW KW
            go_wp2_with fail
            go_still_tail 18, (by kernel_rfl)
            go_wp2_with fail
            obtain ⟨W2, hW2⟩ : ∃ W2 : World, W2 = (W1.setCell ⟨g, 10 + f, none⟩ (.int .i64 (cr - z))).drew := ⟨_, rfl⟩
            have T2 : TMem B g (.slice (some ⟨b, o, none⟩) p.length c) (.slice (some ⟨b2, o2, none⟩) qs.length c') W2 (ownQ g qv1 rv2) { s2 with c := upd s2.c f (cr - z) } (cs2.setIfInBounds (10 + f) (.int .i64 (cr - z))) qv1 rv2 := by rw [hW2]; exact (HT1.out.setC HF.out.f8 _).drew
            have k2 : Keeps B own w (ownQ g qv1 rv2) W2 := by rw [hW2]; exact keepsDrew (keeps_trans HK1.out (keepsSet (a := ⟨g, 10 + f, none⟩) (keepsRefl B (ownQ g qv1 rv2) W1) ((HT1.out.o g).2 (.inl rfl)) HT1.out.hB _))
            have y2 : W2.cell? ⟨g, 2 + f, none⟩ = some (.slice (some ⟨qb, qo, none⟩) N qc) := ((T2.at_ _).trans (T2.cq f HF.out.f8)).trans (by rw [HF.out.qv_])
            have y2f : W2.frozen? ⟨g, 2 + f, none⟩ = false := T2.blk.frozen _
            have y10c : W2.cell? ⟨g, 10 + f, none⟩ = some (.int .i64 (cr - z)) := (T2.at_ _).trans ((T2.cc f HF.out.f8).trans (by show some (Value.int .i64 (upd s2.c f (cr - z) f)) = _; rw [upd_same]))
            have y19c : W2.cell? ⟨g, 19, none⟩ = some (.int .i64 (f : Int)) := (T2.at_ 19).trans (T2.cv.trans (by show some (svV s2.sv) = _; rw [Hsv.out]; rfl))
            have y10 : W2.frozen? ⟨g, 10 + f, none⟩ = false := T2.blk.frozen _
            have y19 : W2.frozen? ⟨g, 19, none⟩ = false := T2.blk.frozen _
            have HT2 := Lib.hid T2
            have HK2 := Lib.hid k2
            rw [← hW2]
            clear hW2 T2 k2 HT1 HK1 y0 yc yz yd
            rcases tl with _ | ⟨k2, tl⟩
            · obtain rfl : N = 1 := HF.out.N_
              have hsd : rSend p s2 f = { s2 with q := upd s2.q f [], c := upd (upd s2.c f (cr - z)) f 0, sv := none } := by
                unfold rSend
                rw [HF.out.q, List.tail_cons, if_pos rfl, upd_upd]
              have hmr := HT2.out.q f HF.out.f8
              have hsq : s2.q f = [k0] := HF.out.q
              have hqvf := HF.out.qv_
              simp only [hsq, hqvf] at hmr
              have hmt := MRow.tail (s := []) hmr
              have Hmt := Lib.hid hmt
              have Hsd := Lib.hid hsd
              clear hsd hmr hsq hqvf hmt q3 q6
              by_cases hqc : qc = 1
              · subst hqc
                clear q7
                go_wp2_with fail
                go_still_tail 12, (by kernel_rfl)
                go_wp2_with fail
                go_ret2
                obtain ⟨t3, k3⟩ := HT2.out.putQ (w' := W2) HF.out.f8 (q' := []) (v' := .slice (some ⟨qb, qo, none⟩) 0 0) (by have := Hmt.out; simpa using this) (grownRefl _ _) (.inl (by rw [HF.out.qv_]; rfl))
                have k4 := keeps_trans HK2.out (keeps_trans k3 (keepsSet (a := ⟨g, 19, none⟩) (keepsSet (a := ⟨g, 10 + f, none⟩) (keepsRefl B _ _) ((t3.o g).2 (.inl rfl)) HT2.out.hB (.int .i64 0)) ((t3.o g).2 (.inl rfl)) HT2.out.hB (.int .i64 (-1))))
                exact ⟨rfl, _, _, _, _, by rw [Hs'.out, Hsd.out]; exact ((t3.setC HF.out.f8 0).setSv none).drew, keepsDrew k4⟩
              · go_wp2_with fail
                go_still_tail 12, (by kernel_rfl)
                go_wp2_with fail
                go_ret2
                obtain ⟨t3, k3⟩ := HT2.out.putQ (w' := W2) HF.out.f8 (q' := []) (v' := .slice (some ⟨qb, qo + 1, none⟩) 0 (qc - 1)) (by have := Hmt.out; rw [if_neg hqc] at this; exact this) (grownRefl _ _) (.inl (by rw [HF.out.qv_]; rfl))
                have k4 := keeps_trans HK2.out (keeps_trans k3 (keepsSet (a := ⟨g, 19, none⟩) (keepsSet (a := ⟨g, 10 + f, none⟩) (keepsRefl B _ _) ((t3.o g).2 (.inl rfl)) HT2.out.hB (.int .i64 0)) ((t3.o g).2 (.inl rfl)) HT2.out.hB (.int .i64 (-1))))
                exact ⟨rfl, _, _, _, _, by rw [Hs'.out, Hsd.out]; exact ((t3.setC HF.out.f8 0).setSv none).drew, keepsDrew k4⟩
            · have hN0 : ¬ ((N - 1 : Nat) : Int) = 0 := by have := HF.out.N_; rw [List.length_cons] at this; omega
              have hN1 : ¬ N - 1 = 0 := by omega
              have hqc : ¬ qc = 1 := by have := HF.out.N_; rw [List.length_cons] at this; omega
              have hsd : rSend p s2 f = { s2 with q := upd s2.q f (k2 :: tl), c := upd s2.c f (cr - z) } := by
                unfold rSend
                rw [HF.out.q, List.tail_cons, if_neg (by simp), Hzk.out, Hcr.out]
              have hmr := HT2.out.q f HF.out.f8
              have hsq : s2.q f = k0 :: k2 :: tl := HF.out.q
              have hqvf := HF.out.qv_
              have hNN := HF.out.N_
              rw [hNN] at hqvf
              simp only [hsq, hqvf] at hmr
              have hmt := MRow.tail (s := k2 :: tl) hmr
              rw [if_neg hqc, show (k2 :: tl).length = N - 1 by omega] at hmt
              have Hmt := Lib.hid hmt
              have Hsd := Lib.hid hsd
              clear hsd hmr hsq hqvf hmt hNN
              go_wp2_with fail
              go_still_tail 12, (by kernel_rfl)
              go_wp2_with fail
              go_ret2
              obtain ⟨t3, k3⟩ := HT2.out.putQ (w' := W2) HF.out.f8 (q' := k2 :: tl) (v' := .slice (some ⟨qb, qo + 1, none⟩) (N - 1) (qc - 1)) Hmt.out (grownRefl _ _) (.inl (by rw [HF.out.qv_]; rfl))
              exact ⟨rfl, _, _, _, _, by rw [Hs'.out, Hsd.out]; exact t3.drew, keepsDrew (keeps_trans HK2.out k3)⟩
          · obtain ⟨hri3, hmu3⟩ := hend hc1
            have Hrest := Lib.hid hrest
            clear hrest
            go_wp2_with fail
            obtain ⟨V, hV⟩ : ∃ V : World, V = (W5.setCell ⟨g, 10 + f, none⟩ (.int .i64 (cf + qf))).drew := ⟨_, rfl⟩
            have TV : TMem B g (.slice (some ⟨b, o, none⟩) p.length c) (.slice (some ⟨b2, o2, none⟩) qs.length c') V (ownQ g qv1 rv2) s2 cs2 qv1 rv2 := by rw [hV]; exact HW.out.drew
            have KV : Keeps B own w (ownQ g qv1 rv2) V := by rw [hV]; exact keepsDrew KW.out
            have v0 : V.cell? ⟨g, 0, none⟩ = some (.slice (some ⟨b, o, none⟩) p.length c) := by rw [hV]; exact e0
            have vc : V.cell? ⟨g, 10 + f, none⟩ = some (.int .i64 cr) := by rw [hV]; exact ec
            have vd : V.cell? ⟨b, o + k * 3 + 1, none⟩ = some (.int .i64 z) := by rw [hV]; exact d1w
            have HTV := Lib.hid TV
            have HKV := Lib.hid KV
            rw [← hV]
            clear hV e19 e0 eq ec ek d0 d1 d1w d2 TV KV
            go_quiet (fail)
            rename Nat => nq1
            obtain ⟨W1, hW1⟩ : ∃ W1 : World, W1 = V.drewN nq1 := ⟨_, rfl⟩
            have T1 : TMem B g (.slice (some ⟨b, o, none⟩) p.length c) (.slice (some ⟨b2, o2, none⟩) qs.length c') W1 (ownQ g qv1 rv2) s2 cs2 qv1 rv2 := by rw [hW1]; exact HTV.out.drewN nq1
            have k1 : Keeps B own w (ownQ g qv1 rv2) W1 := by rw [hW1]; exact keepsDrewN HKV.out nq1
            have y18 : W1.cell? ⟨g, 18, none⟩ = some rv2 := (T1.at_ 18).trans T1.cr
            have hrl : s2.row.length ≤ 1000 := by
              have h8 := rlst_len hpk Hri.out
              unfold lst at h8
              rw [Hsv.out, List.length_cons] at h8
              omega
            have hR := Lib.hid (T1.r.alloc (.cells #[.int .i64 (f : Int)] 3))
            have xf : (W1.alloc (.cells #[.int .i64 (f : Int)] 3)).cell? ⟨W1.heap.size, 0, none⟩ = some (.int .i64 (f : Int)) := (Blk.new W1 3 #[.int .i64 (f : Int)]).cell 0
            have hbl : Hid (Blk (W1.alloc (.cells #[.int .i64 (f : Int)] 3)) g 258 cs2) := Lib.hid (T1.blk.alloc (.cells #[.int .i64 (f : Int)] 3))
            have hba : B ≤ (W1.alloc (.cells #[.int .i64 (f : Int)] 3)).heap.size := le_alloc T1.size_ _
            have hgr : some g ≠ (rv2).ownBlock := fun e => T1.gr e.symm
            have hcr18 := T1.cr
            have hcr19 : cs2[19]? = some (.int .i64 (f : Int)) := T1.cv.trans (by rw [Hsv.out]; rfl)
            have HT1 := Lib.hid T1
            have HK1 := Lib.hid k1
            rw [← hW1]
            clear hW1 v0 vc vd HTV HKV T1 k1 HW KW
            go_wp2_with (refine wpList_append_mid _ rfl (.tmp 137) (.tmp 139) 27 rfl B 3 i0 Tryz.underlying27 hi0 hz0 hz1 hz2 rv2 s2.row rfl hR.out ⟨W1.heap.size, 0, none⟩ f rfl xf hrl hba ?_; intro v4 w4 row4 g4 at4; have b4 := Blk.grown hbl.out g4 hgr; have y4 := (b4.cell 18).trans hcr18; have z4 := b4.frozen 18; have y5 := (b4.cell 19).trans hcr19; have z5 := b4.frozen 19; clear b4; obtain ⟨A4, n4, c4, e4⟩ := row4.slice_; subst e4)
            obtain ⟨t4, k4⟩ := TMem.putR (HT1.out.alloc (.cells #[.int .i64 (f : Int)] 3)) row4 g4 at4
            have k5 := keeps_trans (keeps_trans HK1.out (keepsAlloc (keepsRefl B (ownQ g qv1 rv2) W1) HT1.out.size_ (.cells #[.int .i64 (f : Int)] 3))) (keeps_trans k4 (keepsSet (a := ⟨g, 19, none⟩) (keepsRefl B _ _) ((t4.o g).2 (.inl rfl)) HT1.out.hB (.int .i64 (-1))))
            go_roundg n
            case measure => omega
            case rel => exact ⟨rEnd s2 f, _, _, _, _, t4.setSv none, hri3, hmu3, Hrest.out, k5⟩
end Go.Proofs.YtoomffajodheaaaGreatDoor
namespace Go.Proofs.YtoomffajodheaaaGreatDoor
open Go.RowKit
set_option maxRecDepth 100000
def outQ (n : Int) : Bool := decide (n < 1 ∨ 3000 < n)
theorem qnum1_any (n : Int) (w : World) :
    Calls Tryz.prog 197 #[.int .i64 n] w fun e w' => e = .returned (.bool (outQ n)) ∧ w = w' := by
  by_cases h0 : n < 1
  · go_enter Tryz.func197, Tryz.ntmps197
    go_wp2
    go_ret
    exact ⟨ret_bool (by symm; exact decide_eq_true (.inl h0)), rfl⟩
  · have h1 : 1 ≤ n := by omega
    have He := Lib.hid (show outQ n = decide (3000 < n) from decide_eq_decide.2 (by omega))
    clear h0
    go_enter Tryz.func197, Tryz.ntmps197
    go_wp2
    go_ret
    exact ⟨ret_bool (by rw [He.out]; first | rfl | (simp; omega)), rfl⟩
/-- The place of the first number out of bounds; -1: none. -/
def qIdx : List Int → Nat → Int
  | [], _ => -1
  | n :: r, k => if outQ n then k else qIdx r (k + 1)
theorem qIdx_none {l : List Int} {k : Nat} (h : ¬ 0 ≤ qIdx l k) : ∀ n ∈ l, 1 ≤ n ∧ n ≤ 3000 := by
  induction l generalizing k with
  | nil => simp
  | cons x r ih =>
    unfold qIdx at h
    split at h
    · exact absurd (Int.natCast_nonneg k) h
    · rename_i h1
      intro n hn
      rcases List.mem_cons.1 hn with rfl | hn
      · simp only [outQ, decide_eq_true_eq] at h1; omega
      · exact ih h n hn
theorem qidx_any (A : Option Addr) (c : Nat) (l : List Int) (w : World) (B : Nat) (h : RdI w B A l) (hl : l.length ≤ 9223372036854775807) :
    Calls Tryz.prog 216 #[.slice A l.length c, .func (.func 197) #[] #[]] w fun e w' => e = .returned (.int .i64 (qIdx l 0)) ∧ w = w' := by
  go_enter Tryz.func216, Tryz.ntmps216
  go_wp2
  go_loopw [5, 8] (fun _ i wr => ∃ k : Nat, k ≤ l.length ∧ i = .int .i64 k ∧ qIdx l 0 = qIdx (l.drop k) k ∧ w = wr) (fun _ i _ => l.length - (intOf i).toNat)
  case atStart => exact ⟨0, Nat.zero_le _, rfl, rfl, rfl⟩
  case round =>
    obtain ⟨k, hk, rfl, hbad, rfl⟩ := hrel
    by_cases hlt : k < l.length
    · obtain ⟨q, o, rfl, hq, h0⟩ := RdI.get h hlt
      rw [List.drop_eq_getElem_cons hlt] at hbad
      have Hbad := Lib.hid hbad
      clear hbad
      go_wp2_with fail
      refine (qnum1_any _ _).mono ?_
      rintro e w1 ⟨rfl, rfl⟩
      cases hx : outQ l[k]
      · have Hx := Lib.hid hx; clear hx
        go_wp2_with fail
        go_roundw
        case rel => exact ⟨k + 1, by omega, by go_num, by rw [Hbad.out]; simp [qIdx, Hx.out], by trivial⟩
        case measure => simp [intOf]; omega
      · have Hx := Lib.hid hx; clear hx
        go_wp2_with fail
        go_ret
        exact ⟨ret_int (by rw [Hbad.out]; simp [qIdx, Hx.out]), rfl⟩
    · rw [List.drop_eq_nil_of_le (by omega)] at hbad
      have Hbad := Lib.hid hbad
      clear hbad
      go_wp2_with fail
      go_ret
      exact ⟨ret_int (by rw [Hbad.out]; rfl), rfl⟩
theorem qcontains_any (A : Option Addr) (c : Nat) (l : List Int) (w : World) (B : Nat) (h : RdI w B A l) (hl : l.length ≤ 9223372036854775807) :
    Calls Tryz.prog 192 #[.slice A l.length c, .func (.func 197) #[] #[]] w fun e w' => e = .returned (.bool (decide (0 ≤ qIdx l 0))) ∧ w = w' := by
  go_enter Tryz.func192, Tryz.ntmps192
  go_wp2_with fail
  refine (qidx_any A c l w B h hl).mono ?_
  rintro e w1 ⟨rfl, rfl⟩
  go_wp2_with fail
  go_ret
  exact ⟨rfl, rfl⟩
/-- The number of the error of flows' numbers. -/
def quErr (l : List Int) : Nat := if l.length = 8 then (if 0 ≤ qIdx l 0 then 2 else 0) else 3
theorem qnumbers_any (A : Option Addr) (c : Nat) (l : List Int) (S : Nat → Addr) (w : World) (B : Nat) (hB : B ≤ w.heap.size) (h : RdI w B A l) (hS : Snt w B S [2, 3]) (hl : l.length ≤ 9223372036854775807) :
    Calls Tryz.prog 175 #[.slice A l.length c] w (EndEr S (quErr l) (-1) w) := by
  have ba := Below.refl w.heap.size w
  have g2 : w.cell? ⟨G 2, 0, none⟩ = some (sv S 2) := ((hS.below (ba.mono hB)) 2 (by simp)).2.2
  have g3 : w.cell? ⟨G 3, 0, none⟩ = some (sv S 3) := ((hS.below (ba.mono hB)) 3 (by simp)).2.2
  have l2 := (hS 2 (by simp)).1
  have l3 := (hS 3 (by simp)).1
  simp only [G, sv] at g2 g3 l2 l3
  by_cases h8 : l.length = 8
  · have hb1 : ((l.length : Int) != 8) = false := by rw [h8]; rfl
    by_cases ho : 0 ≤ qIdx l 0
    · have Hf := Lib.hid (show quErr l = 2 by unfold quErr; rw [if_pos h8, if_pos ho])
      have Ho := Lib.hid (show decide (0 ≤ qIdx l 0) = true from decide_eq_true ho)
      clear h8 ho
      go_enter Tryz.func175, Tryz.ntmps175
      go_wp2_with fail
      refine (qcontains_any A c l _ B h hl).mono ?_
      rintro e w1 ⟨rfl, rfl⟩
      rw [Ho.out]
      go_wp2_with fail
      go_ret
      rw [Hf.out]
      exact ⟨_, rfl, .bare 2 (by omega) (by omega), ba⟩
    · have Hf := Lib.hid (show quErr l = 0 by unfold quErr; rw [if_pos h8, if_neg ho])
      have Ho := Lib.hid (show decide (0 ≤ qIdx l 0) = false from decide_eq_false ho)
      clear h8 ho
      go_enter Tryz.func175, Tryz.ntmps175
      go_wp2_with fail
      refine (qcontains_any A c l _ B h hl).mono ?_
      rintro e w1 ⟨rfl, rfl⟩
      rw [Ho.out]
      go_wp2_with fail
      go_ret
      rw [Hf.out]
      exact ⟨_, rfl, .nil, ba⟩
  · have hb1 : ((l.length : Int) != 8) = true := by simp; omega
    have Hf := Lib.hid (show quErr l = 3 from if_neg h8)
    clear h8
    go_enter Tryz.func175, Tryz.ntmps175
    go_wp2_with fail
    go_ret
    rw [Hf.out]
    exact ⟨_, rfl, .bare 3 (by omega) (by omega), ba⟩
end Go.Proofs.YtoomffajodheaaaGreatDoor
namespace Go.Proofs.YtoomffajodheaaaGreatDoor
open Go.RowKit
set_option maxRecDepth 100000
def roundR (g : Nat) : Value := .agg #[.func (.func 177) #[.pointer (some ⟨g, 0, none⟩)] #[], .func (.func 178) #[.pointer (some ⟨g, 0, none⟩)] #[], .nilFunc]
structure RoundMem (p : List Pk) (qs : List Int) (A A' : Option Addr) (c c' B g : Nat) (w0 w : World) (own : Nat → Prop) (s : RS) : Prop where
  bel : Below B w0 w
  tm : ∃ cs qv rv, TMem B g (.slice A p.length c) (.slice A' qs.length c') w own s cs qv rv
set_option maxHeartbeats 1000000 in
theorem rpick_none (B g m : Nat) (vp vq : Value) (p : List Pk) (qs : List Int) (w : World) (own : Nat → Prop) (s : RS) (cs : Array Value) (qv : Nat → Value) (rv : Value) (h : TMem B g vp vq w own s cs qv rv) (hs : lst s = []) :
    Calls Tryz.prog 178 #[.pointer (some ⟨g, 0, none⟩)] w fun e w' => e = .returned (.tuple #[.int .i64 0, .bool false]) ∧ w = w' := by
  obtain ⟨hsv, hrow⟩ : s.sv = none ∧ s.row = [] := by
    unfold lst at hs
    cases hv : s.sv with
    | none => rw [hv] at hs; exact ⟨rfl, hs⟩
    | some g => rw [hv] at hs; cases hs
  have hr := h.r
  rw [hrow] at hr
  obtain ⟨A, c, hv⟩ := hr.slice
  have hv : rv = .slice A 0 c := hv
  have e19 : w.cell? ⟨g, 19, none⟩ = some (.int .i64 (-1)) := ((h.at_ 19).trans h.cv).trans (by rw [hsv]; rfl)
  have e18 : w.cell? ⟨g, 18, none⟩ = some (.slice A 0 c) := ((h.at_ 18).trans h.cr).trans (by rw [hv])
  clear h hs hsv hrow hr hv
  go_enter Tryz.func178, Tryz.ntmps178
  go_wp2
  go_loopg [4] 1 (fun n fv wr => w = wr)
  case atStart => trivial
  case round =>
    subst hrel
    go_wp2_with fail
    go_ret2
    exact ⟨rfl, rfl⟩
def ruleB (g : Nat) : Obj := .cells #[.func (.func 177) #[.pointer (some ⟨g, 0, none⟩)] #[], .func (.func 178) #[.pointer (some ⟨g, 0, none⟩)] #[], .nilFunc] 262
theorem roundPicker (w0 : World) (B g : Nat) (A A' : Option Addr) (c c' : Nat) (p : List Pk) (qs : List Int) (hp : RdP w0 B A p) (hq : RdI w0 B A' qs) (hpk : ∀ x ∈ p, okPk x) (hql : qs.length = 8) (hq1 : ∀ g, g < 8 → 1 ≤ qu qs g ∧ qu qs g ≤ 3000) (hpl : p.length ≤ 300) :
    Picker (roundR g) (roundM p qs) p.length B (RoundMem p qs A A' c c' B g w0) where
  own_ := fun {w own s} h b hb => by
    obtain ⟨cs, qv, rv, h⟩ := h.tm
    exact h.own_lt hb
  stay := fun {w w' own s} h hs hb => by
    obtain ⟨hb0, cs, qv, rv, h⟩ := h
    exact ⟨hb0.trans hb, cs, qv, rv, h.same hs⟩
  come := fun {w own s} k h hok hkn => by
    obtain ⟨hb0, cs, qv, rv, h⟩ := h
    have hB := h.size_
    have kk := keepsAlloc (keepsRefl B own w) hB (ruleB g)
    have hl := rlst_len hpk hok
    have hrl : s.row.length ≤ 900 := by
      unfold lst at hl
      cases hv : s.sv with
      | none => rw [hv] at hl; simp only at hl; omega
      | some g => rw [hv] at hl; simp only [List.length_cons] at hl; omega
    unfold roundR
    go_enter Tryz.func278, Tryz.ntmps278
    go_wp2_with fail
    refine (rcome_any B g k A A' c c' p qs _ own s cs qv rv (h.alloc (ruleB g)) (hp.below (hb0.trans kk.1)) hpk hkn (fun f _ => by have := rq_len hok hpl f; omega) hrl).mono ?_
    rintro e w1 ⟨rfl, own', cs', qv', rv', h', k'⟩
    go_wp2_with fail
    go_end0
    have kk := keeps_trans kk k'
    exact ⟨rfl, own', ⟨hb0.trans kk.1, cs', qv', rv', h'⟩, kk⟩
  none_ := fun {w own s m} h hok hk => by
    obtain ⟨hb0, cs, qv, rv, h⟩ := h
    have hB := h.size_
    have hq0 : ∀ g, 0 ≤ qu qs g := fun g => by
      by_cases h8 : g < 8
      · have := (hq1 g h8).1; omega
      · have : qu qs g = 0 := by unfold qu; simp [List.getD, show ¬ g < qs.length by omega]
        omega
    have hl := rPick_none hpk hq0 (fun g hg => (hq1 g hg).1) _ s m hok (Nat.le_refl _) hk
    clear hk hok
    have kk := keepsAlloc (keepsRefl B own w) hB (ruleB g)
    unfold roundR
    go_enter Tryz.func279, Tryz.ntmps279
    go_wp2_with fail
    refine (rpick_none B g m _ _ p qs _ own s cs qv rv (h.alloc (ruleB g)) hl).mono ?_
    rintro e w1 ⟨rfl, rfl⟩
    go_wp2_with fail
    go_ret2
    exact ⟨rfl, own, ⟨hb0.trans kk.1, cs, qv, rv, h.alloc _⟩, kk⟩
  some_ := fun {w own s m} k s' h hok hk => by
    obtain ⟨hb0, cs, qv, rv, h⟩ := h
    have hB := h.size_
    have kk := keepsAlloc (keepsRefl B own w) hB (ruleB g)
    have Hk := Lib.hid (show rPick p qs (rMu s) s = some (k, s') from hk)
    clear hk
    unfold roundR
    go_enter Tryz.func279, Tryz.ntmps279
    go_wp2_with fail
    refine (rpick_some B g m k A A' c c' p qs _ own s s' cs qv rv (h.alloc (ruleB g)) (hp.below (hb0.trans kk.1)) (hq.below (hb0.trans kk.1)) hpk hql hq1 hpl hok Hk.out).mono ?_
    rintro e w1 ⟨rfl, own', cs', qv', rv', h', k'⟩
    go_wp2_with fail
    go_ret2
    have kk := keeps_trans kk k'
    exact ⟨rfl, own', ⟨hb0.trans kk.1, cs', qv', rv', h'⟩, kk⟩
  rest := fun {w own s m} h hok hw => by
    obtain ⟨hb0, cs, qv, rv, h⟩ := h
    have hB := h.size_
    have f1 := nilFunc_neq
    have kk := keepsAlloc (keepsRefl B own w) hB (ruleB g)
    unfold roundR
    go_enter Tryz.func280, Tryz.ntmps280
    go_wp2_with fail
    go_end0
    exact ⟨rfl, own, ⟨hb0.trans kk.1, cs, qv, rv, h.alloc _⟩, kk⟩
/-- The error of a link by rounds. -/
def roundErr (p : List Pk) (per : Int) (l : List Int) : Nat × Int := if (lookErr p per).1 = 0 then (quErr l, -1) else lookErr p per
theorem roundErr_ok {p : List Pk} {per : Int} {l : List Int} (h : (roundErr p per l).1 = 0) : (lookErr p per).1 = 0 ∧ quErr l = 0 ∧ l.length = 8 ∧ (∀ n ∈ l, 1 ≤ n ∧ n ≤ 3000) ∧ roundErr p per l = (0, -1) := by
  unfold roundErr at h ⊢
  by_cases h1 : (lookErr p per).1 = 0
  · rw [if_pos h1] at h ⊢
    have h' := h
    unfold quErr at h
    by_cases h8 : l.length = 8
    · rw [if_pos h8] at h
      by_cases ho : 0 ≤ qIdx l 0
      · rw [if_pos ho] at h; simp at h
      · exact ⟨h1, h', h8, qIdx_none ho, by rw [show quErr l = 0 from h']⟩
    · rw [if_neg h8] at h; simp at h
  · rw [if_neg h1] at h; exact absurd h h1
theorem qu_bd {l : List Int} (h8 : l.length = 8) (h : ∀ n ∈ l, 1 ≤ n ∧ n ≤ 3000) : ∀ g, g < 8 → 1 ≤ qu l g ∧ qu l g ≤ 3000 := fun g hg => by
  unfold qu
  have hgl : g < l.length := by omega
  simp only [List.getD, List.getElem?_eq_getElem hgl, Option.getD_some]
  exact h _ (List.getElem_mem hgl)
def turnsB (vp vq : Value) : Array Value := #[vp, vq, .slice none 0 0, .slice none 0 0, .slice none 0 0, .slice none 0 0, .slice none 0 0, .slice none 0 0, .slice none 0 0, .slice none 0 0, .int .i64 0, .int .i64 0, .int .i64 0, .int .i64 0, .int .i64 0, .int .i64 0, .int .i64 0, .int .i64 0, .slice none 0 0, .int .i64 (-1)]
theorem lt8 {P : Nat → Prop} (h0 : P 0) (h1 : P 1) (h2 : P 2) (h3 : P 3) (h4 : P 4) (h5 : P 5) (h6 : P 6) (h7 : P 7) (f : Nat) (hf : f < 8) : P f := by
  have h : f = 0 ∨ f = 1 ∨ f = 2 ∨ f = 3 ∨ f = 4 ∨ f = 5 ∨ f = 6 ∨ f = 7 := by omega
  rcases h with rfl | rfl | rfl | rfl | rfl | rfl | rfl | rfl <;> assumption
theorem turns_new (B : Nat) (vp vq : Value) (w : World) (hB : B ≤ w.heap.size) : TMem B w.heap.size vp vq (w.alloc (.cells (turnsB vp vq) 258)) (fun b => b = w.heap.size) rs0 (turnsB vp vq) (fun _ => .slice none 0 0) (.slice none 0 0) where
  blk := Blk.new _ _ _
  size := rfl
  c0 := rfl
  c1 := rfl
  cq := lt8 rfl rfl rfl rfl rfl rfl rfl rfl
  cc := lt8 rfl rfl rfl rfl rfl rfl rfl rfl
  cr := rfl
  cv := rfl
  q := fun _ _ => MRow.nil_ _ _ _
  r := MRow.nil_ _ _ _
  hB := hB
  gq := fun _ _ => by simp [Value.ownBlock]
  gr := by simp [Value.ownBlock]
  qr := fun _ _ _ h => by simp [Value.ownBlock] at h
  qq := fun _ _ _ _ _ _ h => by simp [Value.ownBlock] at h
  o := fun b => ⟨fun h => .inl h, fun h => by
    rcases h with h | h | ⟨f, _, h⟩
    · exact h
    · simp [Value.ownBlock] at h
    · simp [Value.ownBlock] at h⟩
set_option maxHeartbeats 1000000 in
theorem roundRun_ok (A A' : Option Addr) (c c' : Nat) (p : List Pk) (per : Int) (qs : List Int) (S : Nat → Addr) (w : World) (B : Nat) (hB : B ≤ w.heap.size) (h : RdP w B A p) (h' : RdI w B A' qs) (hS : Snt w B S [2, 3, 5]) (hl : p.length ≤ 9223372036854775807) (hl' : qs.length ≤ 9223372036854775807) (hok : (roundErr p per qs).1 = 0) :
    Calls Tryz.prog 148 #[.slice A p.length c, .int .i64 per, .slice A' qs.length c'] w (EndOwnEr Sn.cs 3 64 (roundL p per qs) S (roundErr p per qs).1 (roundErr p per qs).2 w) := by
  obtain ⟨e1, e2, h8, hn, e3⟩ := roundErr_ok hok
  obtain ⟨hf, h300, hpk, h0, h1⟩ := lookErr_ok e1
  have hq1 := qu_bd h8 hn
  have hq0 : ∀ g, 0 ≤ qu qs g := fun g => by
    by_cases h9 : g < 8
    · have := (hq1 g h9).1; omega
    · have : qu qs g = 0 := by unfold qu; simp [List.getD, show ¬ g < qs.length by omega]
      omega
  have Hf := Lib.hid hf
  have Hn := Lib.hid e2
  have He := Lib.hid e3
  have H8 := Lib.hid h8
  clear hf hok e1 e2 e3 h8
  go_enter Tryz.func148, Tryz.ntmps148
  go_wp2_with fail
  refine (look_any A c p per S w B hB h (hS.sub (by simp)) hl).mono ?_
  rintro e w1 ⟨v, rfl, hv, hb1⟩
  obtain rfl := hv.nil_of (by rw [Hf.out])
  go_wp2_with fail
  refine (qnumbers_any A' c' qs S w1 B (Nat.le_trans hB hb1.size) (h'.below (hb1.mono hB)) ((hS.below (hb1.mono hB)).sub (by simp)) hl').mono ?_
  rintro e w2 ⟨v, rfl, hv, hb2⟩
  obtain rfl := hv.nil_of Hn.out
  have k2 : Below w.heap.size w w2 := hb1.trans (hb2.mono hb1.size)
  have z2 := k2.size
  go_wp2_with fail
  have tn := turns_new (w2.heap.size) (.slice A p.length c) (.slice A' qs.length c') w2 (Nat.le_refl _)
  have bn : Below w2.heap.size w2 (w2.alloc (.cells (turnsB (.slice A p.length c) (.slice A' qs.length c')) 258)) := (Below.refl _ _).alloc (Nat.le_refl _) _
  refine (srv_any (R := roundR w2.heap.size) (M := roundM p qs) (Mem := RoundMem p qs A A' c c' w2.heap.size w2.heap.size (w2.alloc (.cells (turnsB (.slice A p.length c) (.slice A' qs.length c')) 258))) A c p per w2.heap.size rs0 _ _ (by simp)
    (((h.below (k2.mono hB)).more (Nat.le_trans hB z2)).below bn) hpk h300 h0 h1 (roundOk hpk hq0 (fun g hg => (hq1 g hg).1)) (roundPicker _ _ _ A A' c c' p qs (((h.below (k2.mono hB)).more (Nat.le_trans hB z2)).below bn) (((h'.below (k2.mono hB)).more (Nat.le_trans hB z2)).below bn) hpk H8.out hq1 h300) ⟨Below.refl _ _, _, _, _, tn⟩ rs0_wait (rs0_ok p qs)).mono ?_
  rintro e w3 ⟨A3, c3, own', rfl, row, hb3, _⟩
  go_wp2_with fail
  go_ret2
  rw [He.out]
  exact ⟨A3, c3, _, rfl, own_mono row (Nat.le_trans k2.size bn.size), .nil, (k2.trans (bn.mono k2.size)).trans (hb3.mono k2.size)⟩
set_option maxHeartbeats 1000000 in
theorem roundRun_bad (A A' : Option Addr) (c c' : Nat) (p : List Pk) (per : Int) (qs : List Int) (S : Nat → Addr) (w : World) (B : Nat) (hB : B ≤ w.heap.size) (h : RdP w B A p) (h' : RdI w B A' qs) (hS : Snt w B S [2, 3, 5]) (hl : p.length ≤ 9223372036854775807) (hl' : qs.length ≤ 9223372036854775807) (hok : (roundErr p per qs).1 ≠ 0) :
    Calls Tryz.prog 148 #[.slice A p.length c, .int .i64 per, .slice A' qs.length c'] w (EndOwnEr Sn.cs 3 64 [] S (roundErr p per qs).1 (roundErr p per qs).2 w) := by
  by_cases h1 : (lookErr p per).1 = 0
  · obtain ⟨hf, _, _, _, _⟩ := lookErr_ok h1
    have He := Lib.hid (show roundErr p per qs = (quErr qs, -1) from if_pos h1)
    have Hn := Lib.hid (show quErr qs ≠ 0 from by rw [He.out] at hok; exact hok)
    have Hf := Lib.hid hf
    clear hok hf h1
    go_enter Tryz.func148, Tryz.ntmps148
    go_wp2_with fail
    refine (look_any A c p per S w B hB h (hS.sub (by simp)) hl).mono ?_
    rintro e w1 ⟨v, rfl, hv, hb1⟩
    obtain rfl := hv.nil_of (by rw [Hf.out])
    go_wp2_with fail
    refine (qnumbers_any A' c' qs S w1 B (Nat.le_trans hB hb1.size) (h'.below (hb1.mono hB)) ((hS.below (hb1.mono hB)).sub (by simp)) hl').mono ?_
    rintro e w2 ⟨v, rfl, hv, hb2⟩
    obtain ⟨T, a, rfl⟩ := hv.some_of Hn.out
    go_wp2_with fail
    go_ret2
    rw [He.out]
    exact ⟨none, 0, _, rfl, ⟨by simp, .inl ⟨rfl, rfl⟩⟩, hv, hb1.trans (hb2.mono hb1.size)⟩
  · have He := Lib.hid (show roundErr p per qs = lookErr p per from if_neg h1)
    have Hn := Lib.hid h1
    clear hok h1
    go_enter Tryz.func148, Tryz.ntmps148
    go_wp2_with fail
    refine (look_any A c p per S w B hB h (hS.sub (by simp)) hl).mono ?_
    rintro e w1 ⟨v, rfl, hv, hb1⟩
    obtain ⟨T, a, rfl⟩ := hv.some_of Hn.out
    go_wp2_with fail
    go_ret2
    rw [He.out]
    exact ⟨none, 0, _, rfl, ⟨by simp, .inl ⟨rfl, rfl⟩⟩, hv, hb1⟩
end Go.Proofs.YtoomffajodheaaaGreatDoor
