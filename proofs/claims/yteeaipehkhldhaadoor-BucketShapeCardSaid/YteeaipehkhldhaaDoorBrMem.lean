/- The document's buckets in a row of pointers of the call's own. Conditions written at each. -/
import Derived.Test.YteeaipehkhldhaaDoorShape
import Derived.Test.YteeaipehkhldhaaDoorBkR
namespace Go.Proofs.YteeaipehkhldhaaDoor
open Go.RowKit
set_option maxRecDepth 100000
structure BrMem (base : Nat) (w : World) (A : Option Addr) (c : Nat) (bs : List (Nat × Bu)) : Prop where
  row : w.ownsRow base 68 1 (.slice A bs.length c) bs.length (bs.flatMap pC)
  bk : ∀ x ∈ bs, Blk w x.1 70 x.2.rc
  nd : (bs.map (·.1)).Nodup
  ge : ∀ x ∈ bs, base ≤ x.1
  far : ∀ x ∈ bs, (Value.slice A bs.length c).ownBlock ≠ some x.1
section
variable {base : Nat} {w w' : World} {A : Option Addr} {c : Nat} {bs : List (Nat × Bu)}
theorem BrMem.drewN (h : BrMem base w A c bs) (m : Nat) : BrMem base (w.drewN m) A c bs := ⟨h.row, h.bk, h.nd, h.ge, h.far⟩
theorem BrMem.rd (h : BrMem base w A c bs) : Rd w w.heap.size 1 pC A bs := Rd.of_own h.row (by omega) pC_len
theorem BrMem.get (h : BrMem base w A c bs) {k : Nat} (hk : k < bs.length) : ∃ b o, A = some ⟨b, o, none⟩ ∧ b < w.heap.size ∧ w.cell? ⟨b, o + k, none⟩ = some (.pointer (some ⟨bs[k].1, 0, none⟩)) := by
  obtain ⟨b, o, e, hb, hc⟩ := h.rd.at_ hk
  have := hc 0 _ rfl
  simp only [Nat.mul_one, Nat.add_zero] at this
  exact ⟨b, o, e, hb, this⟩
theorem BrMem.step (h : BrMem base w A c bs) {k : Nat} (hk : k < bs.length) {s' : Bu} (ho : OnlyG bs[k].1 w w') (hb : Blk w' bs[k].1 70 s'.rc) : BrMem base w' A c (bs.set k (bs[k].1, s')) := by
  have hfst : (bs.set k (bs[k].1, s')).map (·.1) = bs.map (·.1) := by
    rw [List.map_set]
    apply List.ext_getElem?
    intro j
    rw [List.getElem?_set]
    split
    · rename_i h9; subst h9; simp [hk]
    · rfl
  have hflat : (bs.set k (bs[k].1, s')).flatMap pC = bs.flatMap pC := by
    have : ∀ l : List (Nat × Bu), l.flatMap pC = (l.map (·.1)).map fun g => Value.pointer (some ⟨g, 0, none⟩) := fun l => by
      induction l with
      | nil => rfl
      | cons x r ih => rw [List.flatMap_cons, ih]; rfl
    rw [this, this, hfst]
  refine ⟨?_, fun x hx => ?_, by rw [hfst]; exact h.nd, fun x hx => ?_, fun x hx => ?_⟩
  · rw [hflat, List.length_set]
    have hne := h.far _ (List.getElem_mem hk)
    obtain ⟨h1, h2⟩ := h.row
    refine ⟨h1, ?_⟩
    rcases h2 with h2 | ⟨g', cap, cur, hv, hg', hh, r⟩
    · exact .inl h2
    · exact .inr ⟨g', cap, cur, hv, hg', (ho.blk g' (fun e => hne (by rw [hv, e]; rfl))).trans hh, r⟩
  · obtain ⟨j, hj, e⟩ := List.getElem_of_mem hx
    rw [List.length_set] at hj
    rw [List.getElem_set] at e
    split at e
    · subst e; exact hb
    · rename_i hjk
      subst e
      have hne : bs[j].1 ≠ bs[k].1 := fun e => by
        have h9 := List.pairwise_iff_getElem.1 h.nd
        rcases Nat.lt_or_gt_of_ne hjk with h8 | h8
        · exact h9 k j (by simpa using hk) (by simpa using hj) h8 (by simpa using e.symm)
        · exact h9 j k (by simpa using hj) (by simpa using hk) h8 (by simpa using e)
      exact (h.bk _ (List.getElem_mem hj)).same (ho.blk _ hne)
  · have : x.1 ∈ bs.map (·.1) := by rw [← hfst]; exact List.mem_map.2 ⟨x, hx, rfl⟩
    obtain ⟨y, hy, e⟩ := List.mem_map.1 this
    have := h.ge y hy
    omega
  · rw [List.length_set]
    have : x.1 ∈ bs.map (·.1) := by rw [← hfst]; exact List.mem_map.2 ⟨x, hx, rfl⟩
    obtain ⟨y, hy, e⟩ := List.mem_map.1 this
    have := h.far y hy
    rw [e] at this
    exact this
end
theorem BrMem.below {base : Nat} {w w' : World} {A : Option Addr} {c : Nat} {bs : List (Nat × Bu)} (h : BrMem base w A c bs) (hb : Below w.heap.size w w') : BrMem base w' A c bs :=
  ⟨own_below h.row hb (Nat.le_refl _), fun x hx => (h.bk x hx).below hb (h.bk x hx).lt, h.nd, h.ge, h.far⟩
theorem BrMem.drew {base : Nat} {w : World} {A : Option Addr} {c : Nat} {bs : List (Nat × Bu)} (h : BrMem base w A c bs) : BrMem base w.drew A c bs := ⟨h.row, h.bk, h.nd, h.ge, h.far⟩
theorem BrMem.set_ {base : Nat} {w : World} {A : Option Addr} {c : Nat} {bs : List (Nat × Bu)} (h : BrMem base w A c bs) {a : Addr} (h1 : ∀ x ∈ bs, x.1 ≠ a.block) (h2 : (Value.slice A bs.length c).ownBlock ≠ some a.block) (u : Value) : BrMem base (w.setCell a u) A c bs :=
  ⟨ownsRow_setCell_other h.row h2 u, fun x hx => (h.bk x hx).far (h1 x hx) u, h.nd, h.ge, h.far⟩
theorem BrMem.nil_ (base : Nat) (w : World) : BrMem base w none 0 [] := ⟨⟨by simp, .inl ⟨rfl, rfl⟩⟩, by simp, List.nodup_nil, by simp, by simp⟩
theorem br_app {base : Nat} {w1 w2 w3 : World} {A A' : Option Addr} {c c' : Nat} {bs : List (Nat × Bu)} {y : Nat × Bu} {o : Obj} (h : BrMem base w1 A c bs) (k : Below w1.heap.size w1 w2) (hy : w1.heap.size ≤ y.1) (hb : Blk w2 y.1 70 y.2.rc) (hbase : base ≤ w1.heap.size)
    (row : w3.ownsRow base 68 1 (.slice A' (bs ++ [y]).length c') (bs ++ [y]).length ((bs ++ [y]).flatMap pC)) (g : (w2.alloc o).grownBy w3 (Value.slice A bs.length c).ownBlock) (at3 : (Value.slice A' (bs ++ [y]).length c').ownBlock = (Value.slice A bs.length c).ownBlock ∨ (Value.slice A' (bs ++ [y]).length c').ownBlock = some (w2.alloc o).heap.size) : BrMem base w3 A' c' (bs ++ [y]) := by
  have hlt : ∀ x ∈ bs, x.1 < w1.heap.size := fun x hx => (h.bk x hx).lt
  have hrow : ∀ b, (Value.slice A bs.length c).ownBlock = some b → b < w1.heap.size := fun b hb => own_lt' h.row b hb
  have hyl : y.1 < w2.heap.size := hb.lt
  have z := k.size
  refine ⟨row, fun x hx => ?_, ?_, fun x hx => ?_, fun x hx => ?_⟩
  · rcases List.mem_append.1 hx with hx | hx
    · exact (((h.bk x hx).below k (hlt x hx)).alloc o).grown g (fun e => h.far x hx e.symm)
    · rw [List.mem_singleton.1 hx]
      exact (hb.alloc o).grown g (fun e => by have := hrow _ e.symm; omega)
  · rw [List.map_append]
    refine List.nodup_append.2 ⟨h.nd, by simp, fun a ha b hb => ?_⟩
    obtain ⟨x, hx, rfl⟩ := List.mem_map.1 ha
    simp only [List.map_cons, List.map_nil, List.mem_singleton] at hb
    have := hlt x hx
    omega
  · rcases List.mem_append.1 hx with hx | hx
    · exact h.ge x hx
    · rw [List.mem_singleton.1 hx]; omega
  · intro e
    rcases at3 with h9 | h9
    · rw [h9] at e
      rcases List.mem_append.1 hx with hx | hx
      · exact h.far x hx e
      · rw [List.mem_singleton.1 hx] at e
        have := hrow _ e
        omega
    · rw [h9] at e
      injection e with e
      have hs : (w2.alloc o).heap.size = w2.heap.size + 1 := by simp
      rcases List.mem_append.1 hx with hx | hx
      · have := hlt x hx; omega
      · rw [List.mem_singleton.1 hx] at e; omega
end Go.Proofs.YteeaipehkhldhaaDoor
