/- Package round: the turns of flows in memory; a packet comes. Conditions written at each. -/
import Derived.Test.YtkkecnofgmpekaaDoorMid
import Derived.Test.YtkkecnofgmpekaaDoorSprPlain
import Derived.Test.YtkkecnofgmpekaaDoorRankB
import Derived.Deep.RegionLaw
import Derived.Laws.OwnMore
namespace Go.Proofs.YtkkecnofgmpekaaDoor
open Go.RowKit
set_option maxRecDepth 100000
def svV : Option Nat → Value
  | none => .int .i64 (-1)
  | some g => .int .i64 (g : Int)
/-- The turns of flows, in the block at g. -/
structure TMem (B g : Nat) (vp vq : Value) (w : World) (own : Nat → Prop) (s : RS) (cs : Array Value) (qv : Nat → Value) (rv : Value) : Prop where
  blk : Blk w g 88 cs
  size : cs.size = 20
  c0 : cs[0]? = some vp
  c1 : cs[1]? = some vq
  cq : ∀ f, f < 8 → cs[2 + f]? = some (qv f)
  cc : ∀ f, f < 8 → cs[10 + f]? = some (.int .i64 (s.c f))
  cr : cs[18]? = some rv
  cv : cs[19]? = some (svV s.sv)
  q : ∀ f, f < 8 → MRow w B 3 (qv f) (s.q f)
  r : MRow w B 3 rv s.row
  hB : B ≤ g
  gq : ∀ f, f < 8 → (qv f).ownBlock ≠ some g
  gr : rv.ownBlock ≠ some g
  qr : ∀ f, f < 8 → ∀ b, (qv f).ownBlock = some b → rv.ownBlock ≠ some b
  qq : ∀ f f', f < 8 → f' < 8 → f ≠ f' → ∀ b, (qv f).ownBlock = some b → (qv f').ownBlock ≠ some b
  o : ∀ b, own b ↔ b = g ∨ rv.ownBlock = some b ∨ ∃ f, f < 8 ∧ (qv f).ownBlock = some b
section
variable {B g : Nat} {vp vq : Value} {w w' : World} {own : Nat → Prop} {s : RS} {cs : Array Value} {qv : Nat → Value} {rv : Value}
theorem TMem.same (h : TMem B g vp vq w own s cs qv rv) (hs : ∀ b, own b → w'.heap[b]? = w.heap[b]?) : TMem B g vp vq w' own s cs qv rv :=
  { h with
    blk := h.blk.same (hs g ((h.o g).2 (.inl rfl)))
    q := fun f hf => (h.q f hf).same fun b hb => hs b ((h.o b).2 (.inr (.inr ⟨f, hf, hb⟩)))
    r := h.r.same fun b hb => hs b ((h.o b).2 (.inr (.inl hb))) }
theorem TMem.own_lt (h : TMem B g vp vq w own s cs qv rv) {b : Nat} (hb : own b) : B ≤ b ∧ b < w.heap.size := by
  rcases (h.o b).1 hb with rfl | hb | ⟨f, hf, hb⟩
  · exact ⟨h.hB, h.blk.lt⟩
  · exact h.r.lt b hb
  · exact (h.q f hf).lt b hb
theorem TMem.alloc (h : TMem B g vp vq w own s cs qv rv) (o : Obj) : TMem B g vp vq (w.alloc o) own s cs qv rv := h.same fun b hb => Below.heap_alloc w o b (h.own_lt hb).2
theorem TMem.drewN (h : TMem B g vp vq w own s cs qv rv) (m : Nat) : TMem B g vp vq (w.drewN m) own s cs qv rv := h.same fun _ _ => rfl
theorem TMem.drew (h : TMem B g vp vq w own s cs qv rv) : TMem B g vp vq w.drew own s cs qv rv := h.same fun _ _ => rfl
theorem TMem.size_ (h : TMem B g vp vq w own s cs qv rv) : B ≤ w.heap.size := Nat.le_trans h.hB (Nat.le_of_lt h.blk.lt)
theorem TMem.at_ (h : TMem B g vp vq w own s cs qv rv) (i : Nat) : w.cell? ⟨g, i, none⟩ = cs[i]? := h.blk.cell i
theorem set_get {cs : Array Value} {i j : Nat} {u : Value} (h : j ≠ i) : (cs.setIfInBounds i u)[j]? = cs[j]? := by rw [Array.getElem?_setIfInBounds, if_neg (fun e => h e.symm)]
theorem set_get_same {cs : Array Value} {i : Nat} {u : Value} (h : i < cs.size) : (cs.setIfInBounds i u)[i]? = some u := by rw [Array.getElem?_setIfInBounds, if_pos rfl, if_pos h]
theorem TMem.setC (h : TMem B g vp vq w own s cs qv rv) {f : Nat} (hf : f < 8) (x : Int) : TMem B g vp vq (w.setCell ⟨g, 10 + f, none⟩ (.int .i64 x)) own { s with c := upd s.c f x } (cs.setIfInBounds (10 + f) (.int .i64 x)) qv rv where
  blk := h.blk.set_ _ _
  size := by rw [Array.size_setIfInBounds]; exact h.size
  c0 := (set_get (by omega)).trans h.c0
  c1 := (set_get (by omega)).trans h.c1
  cq := fun f' hf' => (set_get (by omega)).trans (h.cq f' hf')
  cc := fun f' hf' => by
    show _ = some (Value.int .i64 (upd s.c f x f'))
    by_cases he : f' = f
    · subst he; rw [upd_same]; exact set_get_same (by rw [h.size]; omega)
    · rw [upd_other _ _ he]; exact (set_get (by omega)).trans (h.cc f' hf')
  cr := (set_get (by omega)).trans h.cr
  cv := (set_get (by omega)).trans h.cv
  q := fun f' hf' => (h.q f' hf').set_ (a := ⟨g, 10 + f, none⟩) (h.gq f' hf') _
  r := h.r.set_ (a := ⟨g, 10 + f, none⟩) h.gr _
  hB := h.hB
  gq := h.gq
  gr := h.gr
  qr := h.qr
  qq := h.qq
  o := h.o
theorem TMem.setSv (h : TMem B g vp vq w own s cs qv rv) (x : Option Nat) : TMem B g vp vq (w.setCell ⟨g, 19, none⟩ (svV x)) own { s with sv := x } (cs.setIfInBounds 19 (svV x)) qv rv where
  blk := h.blk.set_ _ _
  size := by rw [Array.size_setIfInBounds]; exact h.size
  c0 := (set_get (by omega)).trans h.c0
  c1 := (set_get (by omega)).trans h.c1
  cq := fun f' hf' => (set_get (by omega)).trans (h.cq f' hf')
  cc := fun f' hf' => (set_get (by omega)).trans (h.cc f' hf')
  cr := (set_get (by omega)).trans h.cr
  cv := set_get_same (by rw [h.size]; omega)
  q := fun f' hf' => (h.q f' hf').set_ (a := ⟨g, 19, none⟩) (h.gq f' hf') _
  r := h.r.set_ (a := ⟨g, 19, none⟩) h.gr _
  hB := h.hB
  gq := h.gq
  gr := h.gr
  qr := h.qr
  qq := h.qq
  o := h.o
def ownQ (g : Nat) (qv : Nat → Value) (rv : Value) (b : Nat) : Prop := b = g ∨ rv.ownBlock = some b ∨ ∃ f, f < 8 ∧ (qv f).ownBlock = some b
/-- A queue's value is another one, in a world in which its row alone, or new memory, has changed. -/
theorem TMem.setQ (h : TMem B g vp vq w own s cs qv rv) {f : Nat} (hf : f < 8) {v' : Value} {q' : List Nat} (hm : MRow w' B 3 v' q') (hg : w.grownBy w' (qv f).ownBlock) (hb : v'.ownBlock = (qv f).ownBlock ∨ ∃ b, v'.ownBlock = some b ∧ w.heap.size ≤ b) :
    TMem B g vp vq (w'.setCell ⟨g, 2 + f, none⟩ v') (ownQ g (upd qv f v') rv) { s with q := upd s.q f q' } (cs.setIfInBounds (2 + f) v') (upd qv f v') rv ∧ (∀ b, ownQ g (upd qv f v') rv b → own b ∨ w.heap.size ≤ b) := by
  have hgl := h.blk.lt
  have hne : v'.ownBlock ≠ some g := by
    rcases hb with e | ⟨b, e, e2⟩
    · rw [e]; exact h.gq f hf
    · rw [e]; intro e3; injection e3 with e3; omega
  have old : ∀ b, b < w.heap.size → (qv f).ownBlock ≠ some b → w'.heap[b]? = w.heap[b]? := fun b hb1 hb2 => hg.block b hb1 fun e => hb2 e.symm
  have hv2 : ∀ b, v'.ownBlock = some b → (qv f).ownBlock = some b ∨ w.heap.size ≤ b := fun b e => by
    rcases hb with e2 | ⟨b2, e2, e3⟩
    · exact .inl (e2 ▸ e)
    · rw [e] at e2; injection e2 with e2; exact .inr (by omega)
  refine ⟨{ blk := ?_, size := ?_, c0 := ?_, c1 := ?_, cq := ?_, cc := ?_, cr := ?_, cv := ?_, q := ?_, r := ?_, hB := h.hB, gq := ?_, gr := h.gr, qr := ?_, qq := ?_, o := fun b => Iff.rfl }, fun b hb2 => ?_⟩
  · exact (h.blk.same (old g hgl (h.gq f hf))).set_ _ _
  · rw [Array.size_setIfInBounds]; exact h.size
  · exact (set_get (by omega)).trans h.c0
  · exact (set_get (by omega)).trans h.c1
  · intro f' hf'
    by_cases he : f' = f
    · subst he; rw [upd_same]; exact set_get_same (by rw [h.size]; omega)
    · rw [upd_other _ _ he]; exact (set_get (by omega)).trans (h.cq f' hf')
  · exact fun f' hf' => (set_get (by omega)).trans (h.cc f' hf')
  · exact (set_get (by omega)).trans h.cr
  · exact (set_get (by omega)).trans h.cv
  · intro f' hf'
    show MRow _ B _ (upd qv f v' f') (upd s.q f q' f')
    by_cases he : f' = f
    · subst he; rw [upd_same, upd_same]; exact hm.set_ (a := ⟨g, 2 + f', none⟩) hne _
    · rw [upd_other _ _ he, upd_other _ _ he]
      exact ((h.q f' hf').same fun b hb2 => old b ((h.q f' hf').lt b hb2).2 (h.qq f' f hf' hf he b hb2)).set_ (a := ⟨g, 2 + f, none⟩) (h.gq f' hf') _
  · exact (h.r.same fun b hb2 => old b (h.r.lt b hb2).2 (fun e => h.qr f hf b e hb2)).set_ (a := ⟨g, 2 + f, none⟩) h.gr _
  · intro f' hf'
    by_cases he : f' = f
    · subst he; rw [upd_same]; exact hne
    · rw [upd_other _ _ he]; exact h.gq f' hf'
  · intro f' hf' b hb2
    by_cases he : f' = f
    · subst he
      rw [upd_same] at hb2
      rcases hv2 b hb2 with e | e
      · exact h.qr f' hf' b e
      · intro e2; have := (h.r.lt b e2).2; omega
    · rw [upd_other _ _ he] at hb2; exact h.qr f' hf' b hb2
  · intro f1 f2 hf1 hf2 hne2 b hb2
    by_cases he1 : f1 = f
    · subst he1
      rw [upd_same] at hb2
      rw [upd_other _ _ (fun e => hne2 e.symm)]
      rcases hv2 b hb2 with e | e
      · exact h.qq f1 f2 hf1 hf2 hne2 b e
      · intro e2; have := ((h.q f2 hf2).lt b e2).2; omega
    · rw [upd_other _ _ he1] at hb2
      by_cases he2 : f2 = f
      · subst he2
        rw [upd_same]
        intro e
        rcases hv2 b e with e2 | e2
        · exact h.qq f1 f2 hf1 hf2 hne2 b hb2 e2
        · have := ((h.q f1 hf1).lt b hb2).2; omega
      · rw [upd_other _ _ he2]; exact h.qq f1 f2 hf1 hf2 hne2 b hb2
  · rcases hb2 with e | e | ⟨f', hf', e⟩
    · exact .inl ((h.o b).2 (.inl e))
    · exact .inl ((h.o b).2 (.inr (.inl e)))
    · by_cases he : f' = f
      · subst he
        rw [upd_same] at e
        rcases hv2 b e with e2 | e2
        · exact .inl ((h.o b).2 (.inr (.inr ⟨f', hf', e2⟩)))
        · exact .inr e2
      · rw [upd_other _ _ he] at e
        exact .inl ((h.o b).2 (.inr (.inr ⟨f', hf', e⟩)))
/-- The row's value is another one. -/
theorem TMem.setR (h : TMem B g vp vq w own s cs qv rv) {v' : Value} {r' : List Nat} (hm : MRow w' B 3 v' r') (hg : w.grownBy w' rv.ownBlock) (hv2 : ∀ b, v'.ownBlock = some b → rv.ownBlock = some b ∨ w.heap.size ≤ b) :
    TMem B g vp vq (w'.setCell ⟨g, 18, none⟩ v') (ownQ g qv v') { s with row := r' } (cs.setIfInBounds 18 v') qv v' ∧ (∀ b, ownQ g qv v' b → own b ∨ w.heap.size ≤ b) := by
  have hgl := h.blk.lt
  have hne : v'.ownBlock ≠ some g := fun e => by
    rcases hv2 g e with e2 | e2
    · exact h.gr e2
    · omega
  have old : ∀ b, b < w.heap.size → rv.ownBlock ≠ some b → w'.heap[b]? = w.heap[b]? := fun b hb1 hb2 => hg.block b hb1 fun e => hb2 e.symm
  refine ⟨{ blk := ?_, size := ?_, c0 := ?_, c1 := ?_, cq := ?_, cc := ?_, cr := ?_, cv := ?_, q := ?_, r := ?_, hB := h.hB, gq := h.gq, gr := hne, qr := ?_, qq := h.qq, o := fun b => Iff.rfl }, fun b hb2 => ?_⟩
  · exact (h.blk.same (old g hgl h.gr)).set_ _ _
  · rw [Array.size_setIfInBounds]; exact h.size
  · exact (set_get (by omega)).trans h.c0
  · exact (set_get (by omega)).trans h.c1
  · exact fun f' hf' => (set_get (by omega)).trans (h.cq f' hf')
  · exact fun f' hf' => (set_get (by omega)).trans (h.cc f' hf')
  · exact set_get_same (by rw [h.size]; omega)
  · exact (set_get (by omega)).trans h.cv
  · intro f' hf'
    exact ((h.q f' hf').same fun b hb2 => old b ((h.q f' hf').lt b hb2).2 (h.qr f' hf' b hb2)).set_ (a := ⟨g, 18, none⟩) (h.gq f' hf') _
  · exact hm.set_ (a := ⟨g, 18, none⟩) hne _
  · intro f' hf' b hb2 e
    rcases hv2 b e with e2 | e2
    · exact h.qr f' hf' b hb2 e2
    · have := ((h.q f' hf').lt b hb2).2; omega
  · rcases hb2 with e | e | e
    · exact .inl ((h.o b).2 (.inl e))
    · rcases hv2 b e with e2 | e2
      · exact .inl ((h.o b).2 (.inr (.inl e2)))
      · exact .inr e2
    · exact .inl ((h.o b).2 (.inr (.inr e)))
end
theorem keepsGrown {B : Nat} {own : Nat → Prop} {w w1 w2 : World} {row : Option Nat} (h : Keeps B own w own w1) (hg : w1.grownBy w2 row) (hr : ∀ b, row = some b → own b ∧ B ≤ b) (hB : B ≤ w1.heap.size) : Keeps B own w own w2 :=
  ⟨h.1.grown hg hB fun b hb => (hr b hb).2, fun b hb ho => (hg.block b (Nat.lt_of_lt_of_le hb h.1.size) (fun e => ho (hr b e.symm).1)).trans (h.2.1 b hb ho), fun _ hb => .inl hb⟩
theorem keepsOwn {B : Nat} {own own' : Nat → Prop} {w w1 : World} (h : Keeps B own w own w1) (ho : ∀ b, own' b → own b ∨ w.heap.size ≤ b) : Keeps B own w own' w1 := ⟨h.1, h.2.1, ho⟩
theorem TMem.putQ {B g : Nat} {vp vq : Value} {w w' : World} {own : Nat → Prop} {s : RS} {cs : Array Value} {qv : Nat → Value} {rv : Value} (h : TMem B g vp vq w own s cs qv rv) {f : Nat} (hf : f < 8) {v' : Value} {q' : List Nat} (hm : MRow w' B 3 v' q') (hg : w.grownBy w' (qv f).ownBlock) (hb : v'.ownBlock = (qv f).ownBlock ∨ ∃ b, v'.ownBlock = some b ∧ w.heap.size ≤ b) :
    TMem B g vp vq (w'.setCell ⟨g, 2 + f, none⟩ v') (ownQ g (upd qv f v') rv) { s with q := upd s.q f q' } (cs.setIfInBounds (2 + f) v') (upd qv f v') rv ∧ Keeps B own w (ownQ g (upd qv f v') rv) (w'.setCell ⟨g, 2 + f, none⟩ v') := by
  obtain ⟨t, o⟩ := h.setQ hf hm hg hb
  have hown : own g := (h.o g).2 (.inl rfl)
  exact ⟨t, keepsOwn (keepsSet (keepsGrown (keepsRefl B own w) hg (fun b e => ⟨(h.o b).2 (.inr (.inr ⟨f, hf, e⟩)), ((h.q f hf).lt b e).1⟩) h.size_) hown h.hB _) o⟩
theorem TMem.putR2 {B g : Nat} {vp vq : Value} {w w' : World} {own : Nat → Prop} {s : RS} {cs : Array Value} {qv : Nat → Value} {rv : Value} (h : TMem B g vp vq w own s cs qv rv) {v' : Value} {r' : List Nat} (hm : MRow w' B 3 v' r') (hg : w.grownBy w' rv.ownBlock) (hb : ∀ b, v'.ownBlock = some b → rv.ownBlock = some b ∨ w.heap.size ≤ b) :
    TMem B g vp vq (w'.setCell ⟨g, 18, none⟩ v') (ownQ g qv v') { s with row := r' } (cs.setIfInBounds 18 v') qv v' ∧ Keeps B own w (ownQ g qv v') (w'.setCell ⟨g, 18, none⟩ v') := by
  obtain ⟨t, o⟩ := h.setR hm hg hb
  have hown : own g := (h.o g).2 (.inl rfl)
  exact ⟨t, keepsOwn (keepsSet (keepsGrown (keepsRefl B own w) hg (fun b e => ⟨(h.o b).2 (.inr (.inl e)), (h.r.lt b e).1⟩) h.size_) hown h.hB _) o⟩
theorem TMem.putR {B g : Nat} {vp vq : Value} {w w' : World} {own : Nat → Prop} {s : RS} {cs : Array Value} {qv : Nat → Value} {rv : Value} (h : TMem B g vp vq w own s cs qv rv) {v' : Value} {r' : List Nat} (hm : MRow w' B 3 v' r') (hg : w.grownBy w' rv.ownBlock) (hb : v'.ownBlock = rv.ownBlock ∨ ∃ b, v'.ownBlock = some b ∧ w.heap.size ≤ b) :
    TMem B g vp vq (w'.setCell ⟨g, 18, none⟩ v') (ownQ g qv v') { s with row := r' } (cs.setIfInBounds 18 v') qv v' ∧ Keeps B own w (ownQ g qv v') (w'.setCell ⟨g, 18, none⟩ v') :=
  h.putR2 hm hg fun b e => by
    rcases hb with e2 | ⟨b2, e2, e3⟩
    · exact .inl (e2 ▸ e)
    · rw [e] at e2; injection e2 with e2; exact .inr (by omega)
theorem grownAny {w w' : World} (h : w.grownBy w' none) (row : Option Nat) : w.grownBy w' row := ⟨h.os, h.tape, h.output, h.size, fun x hx _ => h.block x hx (by simp)⟩
theorem keepsDrew {B : Nat} {own own' : Nat → Prop} {w w' : World} (h : Keeps B own w own' w') : Keeps B own w own' w'.drew := ⟨h.1.drew, h.2.1, h.2.2⟩
theorem keepsDrewN {B : Nat} {own own' : Nat → Prop} {w w' : World} (h : Keeps B own w own' w') (n : Nat) : Keeps B own w own' (w'.drewN n) := ⟨below_drewN h.1 n, h.2.1, h.2.2⟩
end Go.Proofs.YtkkecnofgmpekaaDoor
