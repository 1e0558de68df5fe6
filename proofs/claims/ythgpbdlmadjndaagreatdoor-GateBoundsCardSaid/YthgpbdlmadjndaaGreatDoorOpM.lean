/- Arguments that are slices of structs of whole numbers, opened to lists. No program. No condition. A gate, and a slice of slices, opened. No condition. -/
import Derived.Test.YthgpbdlmadjndaaGreatDoorBaseM
import Derived.Deep.Slices
import Derived.Deep.Fields
import Derived.ChangeSame
import Derived.ChangeSlices
import Derived.Test.YthgpbdlmadjndaaGreatDoorLdM
import Derived.Test.YthgpbdlmadjndaaGreatDoorGwM
namespace Go.Proofs.YthgpbdlmadjndaaGreatDoor
open Go.RowKit Go.ChangeShapes Go.WideShapes Go.Deep

theorem pick_list {α : Type} {n : Nat} {Q : Nat → α → Prop} (h : ∀ i, i < n → ∃ x, Q i x) : ∃ l : List α, l.length = n ∧ ∀ (i : Nat) (x : α), l[i]? = some x → Q i x := by
  induction n with
  | zero => exact ⟨[], rfl, by simp⟩
  | succ n ih =>
    obtain ⟨l, hl, hq⟩ := ih fun i hi => h i (by omega)
    obtain ⟨x, hx⟩ := h n (by omega)
    refine ⟨l ++ [x], by simp [hl], fun i y hy => ?_⟩
    rcases Nat.lt_or_ge i n with hi | hi
    · rw [List.getElem?_append_left (by omega)] at hy
      exact hq i y hy
    · rw [List.getElem?_append_right (by omega)] at hy
      have : i = n := by
        have := (List.getElem?_eq_some_iff.1 hy).1
        simp at this
        omega
      subst this
      rw [hl, Nat.sub_self] at hy
      simp at hy
      subst hy
      exact hx

def wf64 (n : Int) : Prop := -9223372036854775808 ≤ n ∧ n ≤ 9223372036854775807
theorem wf64_of {n : Int} (h : (Lit.int .i64 n).wf = true) : wf64 n := by
  simp [Lit.wf, IntKind.min, IntKind.max, IntKind.signed, IntKind.bits] at h
  exact ⟨by omega, by omega⟩

section
variable {H : Type} {enc : TypeId × Value → H} {P : Program} {w : World} {base : Nat} {spare : Nat → Bool} {held : Bool}

/-- A slice of structs of ints: each cell. -/
theorem open_cells {t e : TypeId} {fs : Array Field} {fuel : Nat} {A : Option Addr} {len cap : Nat} {x : DataW H × List MemPlace} (ht : P.underlying t = some (.slice e)) (he : P.underlying e = some (.struct fs))
    (hone : oneCellFields P fs = true) (hC : P.cellsOf e = fs.size) (hfs : 0 < fs.size) (hint : ∀ (j : Nat) (f : Field), fs[j]? = some f → P.underlying f.type = some (.int .i64)) (h : DataW.trod enc P w base spare held fuel t [.slice A len cap] = some x) :
    len ≤ cap ∧ cap ≤ maxLen ∧ (0 < len → ∃ b o, A = some ⟨b, o, none⟩ ∧ b < w.heap.size ∧ ∀ i, i < len → ∀ j, j < fs.size → ∃ n : Int, wf64 n ∧ w.cell? ⟨b, o + i * fs.size + j, none⟩ = some (.int .i64 n)) := by
  rcases open_slice ht h with ⟨hcs, _⟩ | ⟨a, len', cap', m, n, D, Pl, hcs, hb, hl, hm, hmm, hx, hi⟩
  · simp only [List.cons.injEq, Value.slice.injEq, and_true] at hcs
    obtain ⟨rfl, rfl, rfl⟩ := hcs
    exact ⟨Nat.le_refl _, Nat.zero_le _, fun h => absurd h (by omega)⟩
  · simp only [List.cons.injEq, Value.slice.injEq, and_true] at hcs
    obtain ⟨rfl, rfl, rfl⟩ := hcs
    refine ⟨hl, hm, fun h0 => ?_⟩
    have hlm : len ≤ m := by rw [hmm]; split <;> omega
    have key : ∀ i, i < len → ∀ j, j < fs.size → ∃ n : Int, wf64 n ∧ w.cell? (a.add (i * fs.size + j)) = some (.int .i64 n) := by
      intro i hil j hjl
      obtain ⟨cs', hc, ht'⟩ := hi i (by omega)
      rw [hC] at hc
      obtain ⟨ys, n', hn', hy, hlen, hyl, hf⟩ := DataW.trod_struct he ht'
      obtain ⟨_, hcl, hat⟩ := World.cells?_some hc
      have hj : fs[j]? = some fs[j] := Array.getElem?_eq_getElem hjl
      obtain ⟨ho, hk⟩ := hone_of hone j _ hj
      have hcell := hat j hjl
      have h1 := hf j _ hj
      rw [ho, hk] at h1
      have hone' : (cs'.drop j).take 1 = [cs'[j]'(by omega)] := by
        rw [List.drop_eq_getElem_cons (by omega)]
        rfl
      rw [hone'] at h1
      have hys : ys[j]? = some (ys[j]'(by omega)) := List.getElem?_eq_getElem (by omega)
      obtain ⟨r, e1, e2, wr⟩ := DataW.trod_int (hint j _ hj) (h1.trans hys)
      simp only [List.cons.injEq, and_true] at e1
      refine ⟨r, wf64_of wr, ?_⟩
      rw [← Go.Deep.add_add, hcell, List.getElem?_eq_getElem (by omega), e1]
    obtain ⟨b, o, spot⟩ := a
    obtain ⟨n0, _, hc0⟩ := key 0 h0 0 hfs
    have hspot : spot = none := by simpa [Addr.add] using World.cell?_spot hc0
    subst hspot
    refine ⟨b, o, rfl, by have := World.block_lt_of_cell? w _ hc0; simpa [Addr.add] using this, fun i hil j hjl => ?_⟩
    obtain ⟨n, hn, hc⟩ := key i hil j hjl
    rw [add_mk, ← Nat.add_assoc] at hc
    exact ⟨n, hn, hc⟩

theorem list_of_cells {α : Type} (f : α → List Value) {sz len : Nat} {A : Option Addr} (hf : ∀ x, (f x).length = sz) (hmk : ∀ c : Nat → Int, ∃ x : α, ∀ j, j < sz → (f x)[j]? = some (.int .i64 (c j)))
    (h : 0 < len → ∃ b o, A = some ⟨b, o, none⟩ ∧ b < w.heap.size ∧ ∀ i, i < len → ∀ j, j < sz → ∃ n : Int, wf64 n ∧ w.cell? ⟨b, o + i * sz + j, none⟩ = some (.int .i64 n)) :
    ∃ l : List α, l.length = len ∧ Rd w w.heap.size sz f A l ∧ ∀ x ∈ l, ∀ n, Value.int .i64 n ∈ f x → wf64 n := by
  rcases Nat.eq_zero_or_pos len with h0 | h0
  · exact ⟨[], h0.symm, Rd.nil_, by simp⟩
  · obtain ⟨b, o, hA, hb, hk⟩ := h h0
    have hq : ∀ i, i < len → ∃ x : α, ∀ j, j < sz → ∃ n, wf64 n ∧ (f x)[j]? = some (.int .i64 n) ∧ w.cell? ⟨b, o + i * sz + j, none⟩ = some (.int .i64 n) := by
      intro i hi
      obtain ⟨x, hx⟩ := hmk fun j => if hj : j < sz then Classical.choose (hk i hi j hj) else 0
      refine ⟨x, fun j hj => ?_⟩
      have h1 := hx j hj
      rw [dif_pos hj] at h1
      have h2 := Classical.choose_spec (hk i hi j hj)
      exact ⟨_, h2.1, h1, h2.2⟩
    obtain ⟨l, hl, hall⟩ := pick_list hq
    refine ⟨l, hl, fun _ => ⟨b, o, hA, hb, fun i x hx j v hv => ?_⟩, fun x hx n hn => ?_⟩
    · have hj : j < sz := by
        have := (List.getElem?_eq_some_iff.1 hv).1
        rw [hf] at this; exact this
      obtain ⟨n, _, h1, h2⟩ := hall i x hx j hj
      rw [h1] at hv
      injection hv with hv
      rw [← hv]
      exact h2
    · obtain ⟨i, hi⟩ := List.mem_iff_getElem?.1 hx
      obtain ⟨j, hj⟩ := List.mem_iff_getElem?.1 hn
      have hjl : j < sz := by
        have := (List.getElem?_eq_some_iff.1 hj).1
        rw [hf] at this; exact this
      obtain ⟨m, hm, h1, _⟩ := hall i x hi j hjl
      rw [h1] at hj
      injection hj with hj
      injection hj with _ hj
      rw [← hj]
      exact hm

theorem mkLn (c : Nat → Int) : ∃ x : Ln, ∀ j, j < 2 → (Ln.cs x)[j]? = some (.int .i64 (c j)) := ⟨⟨c 0, c 1⟩, fun j hj => by
  have : j = 0 ∨ j = 1 := by omega
  rcases this with rfl | rfl <;> rfl⟩
theorem mkPk (c : Nat → Int) : ∃ x : Pk, ∀ j, j < 3 → (Pk.cs x)[j]? = some (.int .i64 (c j)) := ⟨⟨c 0, c 1, c 2⟩, fun j hj => by
  have : j = 0 ∨ j = 1 ∨ j = 2 := by omega
  rcases this with rfl | rfl | rfl <;> rfl⟩
theorem mkSn (c : Nat → Int) : ∃ x : Sn, ∀ j, j < 3 → (Sn.cs x)[j]? = some (.int .i64 (c j)) := ⟨⟨c 0, c 1, c 2⟩, fun j hj => by
  have : j = 0 ∨ j = 1 ∨ j = 2 := by omega
  rcases this with rfl | rfl | rfl <;> rfl⟩
theorem wfLn {l : List Ln} (h : ∀ x ∈ l, ∀ n, Value.int .i64 n ∈ Ln.cs x → wf64 n) : ∀ x ∈ l, wf64 x.b ∧ wf64 x.r := fun x hx => ⟨h x hx _ (by simp [Ln.cs]), h x hx _ (by simp [Ln.cs])⟩
theorem wfPk {l : List Pk} (h : ∀ x ∈ l, ∀ n, Value.int .i64 n ∈ Pk.cs x → wf64 n) : ∀ x ∈ l, wf64 x.f ∧ wf64 x.s ∧ wf64 x.a := fun x hx => ⟨h x hx _ (by simp [Pk.cs]), h x hx _ (by simp [Pk.cs]), h x hx _ (by simp [Pk.cs])⟩
theorem wfSn {l : List Sn} (h : ∀ x ∈ l, ∀ n, Value.int .i64 n ∈ Sn.cs x → wf64 n) : ∀ x ∈ l, wf64 x.p ∧ wf64 x.f ∧ wf64 x.t := fun x hx => ⟨h x hx _ (by simp [Sn.cs]), h x hx _ (by simp [Sn.cs]), h x hx _ (by simp [Sn.cs])⟩
theorem open_I {t e : TypeId} {fuel : Nat} {A : Option Addr} {len cap : Nat} {x : DataW H × List MemPlace} (ht : P.underlying t = some (.slice e)) (he : P.underlying e = some (.int .i64)) (hC : P.cellsOf e = 1)
    (h : DataW.trod enc P w base spare held fuel t [.slice A len cap] = some x) : ∃ l : List Int, l.length = len ∧ RdI w w.heap.size A l ∧ (∀ n ∈ l, wf64 n) ∧ len ≤ maxLen := by
  rcases open_ints ht he hC h with ⟨hcs, _⟩ | ⟨a, len', cap', zs, hcs, _, hl, hm, hzs, _, hcell, hwf⟩
  · simp only [List.cons.injEq, Value.slice.injEq, and_true] at hcs
    obtain ⟨rfl, rfl, rfl⟩ := hcs
    exact ⟨[], rfl, Rd.nil_, by simp, Nat.zero_le _⟩
  · simp only [List.cons.injEq, Value.slice.injEq, and_true] at hcs
    obtain ⟨rfl, rfl, rfl⟩ := hcs
    have hlz : len ≤ zs.length := by rw [hzs]; split <;> omega
    refine ⟨zs.take len, by rw [List.length_take]; omega, fun h0 => ?_, fun n hn => wf64_of (hwf n (List.mem_of_mem_take hn)), Nat.le_trans hl hm⟩
    rw [List.length_take] at h0
    have h00 := hcell 0 (by omega)
    obtain ⟨b, o, spot⟩ := a
    have hspot : spot = none := by simpa [Addr.add] using World.cell?_spot h00
    subst hspot
    refine ⟨b, o, rfl, by have := World.block_lt_of_cell? w _ h00; simpa [Addr.add] using this, fun i y hy j v hv => ?_⟩
    have hil : i < len ∧ i < zs.length := by
      have := (List.getElem?_eq_some_iff.1 hy).1
      rw [List.length_take] at this
      omega
    have hy2 : zs.getD i 0 = y := by
      rw [List.getElem?_take, if_pos hil.1] at hy
      simp [List.getD, hy]
    have hj : j = 0 := by
      have := (List.getElem?_eq_some_iff.1 hv).1
      simp at this; exact this
    subst hj
    simp only [List.getElem?_cons_zero, Option.some.injEq] at hv
    have := hcell i hil.2
    rw [add_mk, hy2, hv] at this
    rw [Nat.mul_one, Nat.add_zero]
    exact this
end
end Go.Proofs.YthgpbdlmadjndaaGreatDoor
namespace Go.Proofs.YthgpbdlmadjndaaGreatDoor
open Go.RowKit Go.ChangeShapes Go.WideShapes Go.Deep
set_option maxRecDepth 100000
section
variable {H : Type} {enc : TypeId × Value → H} {w : World} {base : Nat} {spare : Nat → Bool} {held : Bool}
/-- A slice of slices. -/
theorem open_slices {β : Type} {R : Option Addr → List β → Prop} {t e : TypeId} {fuel : Nat} {A : Option Addr} {len cap : Nat} {x : DataW H × List MemPlace} (ht : Tryz.prog.underlying t = some (.slice e)) (hC : Tryz.prog.cellsOf e = 1)
    (inner : ∀ fuel v x, DataW.trod enc Tryz.prog w base spare held fuel e [v] = some x → ∃ (a : Option Addr) (l : List β) (c : Nat), v = .slice a l.length c ∧ R a l ∧ l.length ≤ maxLen) (h : DataW.trod enc Tryz.prog w base spare held fuel t [.slice A len cap] = some x) :
    ∃ ls : List (List β), ls.length = len ∧ len ≤ maxLen ∧ (∀ l ∈ ls, l.length ≤ maxLen) ∧ ∀ i (h : i < ls.length), ∃ b o a c, A = some ⟨b, o, none⟩ ∧ b < w.heap.size ∧ w.cell? ⟨b, o + i, none⟩ = some (.slice a ls[i].length c) ∧ R a ls[i] := by
  rcases open_slice1 ht hC h with ⟨hcs, _⟩ | ⟨a, len', cap', m, n, V, D, Pl, hcs, hb, hl, hm, hmm, hx, hi⟩
  · simp only [List.cons.injEq, Value.slice.injEq, and_true] at hcs
    obtain ⟨rfl, rfl, rfl⟩ := hcs
    exact ⟨[], rfl, Nat.zero_le _, by simp, fun i hi => by simp at hi⟩
  · simp only [List.cons.injEq, Value.slice.injEq, and_true] at hcs
    obtain ⟨rfl, rfl, rfl⟩ := hcs
    have hlm : len ≤ m := by rw [hmm]; split <;> omega
    have hq : ∀ i, i < len → ∃ l : List β, ∃ a' c, w.cell? (a.add i) = some (.slice a' l.length c) ∧ R a' l ∧ l.length ≤ maxLen := fun i hil => by
      obtain ⟨h1, h2⟩ := hi i (by omega)
      obtain ⟨a', l, c, e1, e2, e3⟩ := inner n (V i) _ h2
      rw [e1] at h1
      exact ⟨l, a', c, h1, e2, e3⟩
    obtain ⟨ls, hls, hall⟩ := pick_list hq
    refine ⟨ls, hls, Nat.le_trans hl hm, fun l hlm2 => ?_, fun i hil => ?_⟩
    · obtain ⟨i, hi2⟩ := List.mem_iff_getElem?.1 hlm2
      obtain ⟨_, _, _, _, h9⟩ := hall i l hi2
      exact h9
    · obtain ⟨a', c, h1, h2, _⟩ := hall i _ (List.getElem?_eq_getElem hil)
      obtain ⟨b, o, spot⟩ := a
      have hspot : spot = none := by
        obtain ⟨h7, _⟩ := hi 0 (by omega)
        simpa [Addr.add] using World.cell?_spot h7
      subst hspot
      rw [add_mk] at h1
      exact ⟨b, o, a', c, rfl, World.block_lt_of_cell? w _ h1, h1, h2⟩
theorem slice_shape {t e : TypeId} {fuel : Nat} {v : Value} {x : DataW H × List MemPlace} (ht : Tryz.prog.underlying t = some (.slice e)) (h : DataW.trod enc Tryz.prog w base spare held fuel t [v] = some x) : ∃ a n c, v = .slice a n c := by
  rcases open_slice ht h with ⟨hcs, _⟩ | ⟨a, len', cap', m, n, D, Pl, hcs, _⟩
  · exact ⟨_, _, _, by simpa using hcs⟩
  · exact ⟨_, _, _, by simpa using hcs⟩
theorem inner_L (fuel : Nat) (v : Value) (x : DataW H × List MemPlace) (h : DataW.trod enc Tryz.prog w base spare held fuel 50 [v] = some x) : ∃ (a : Option Addr) (l : List Ln) (c : Nat), v = .slice a l.length c ∧ RdL w w.heap.size a l ∧ l.length ≤ maxLen := by
  obtain ⟨a, n, c, rfl⟩ := slice_shape Tryz.underlying50 h
  obtain ⟨c1, c2, c3⟩ := open_cells Tryz.underlying50 Tryz.underlying97 (by kernel_rfl) (by kernel_rfl) (by decide) (Laid.ints (by kernel_rfl)) h
  obtain ⟨l, e1, e2, e3⟩ := list_of_cells Ln.cs Ln.cs_len mkLn c3
  subst e1
  exact ⟨a, l, c, rfl, e2, Nat.le_trans c1 c2⟩
theorem inner_I (fuel : Nat) (v : Value) (x : DataW H × List MemPlace) (h : DataW.trod enc Tryz.prog w base spare held fuel 23 [v] = some x) : ∃ (a : Option Addr) (l : List Int) (c : Nat), v = .slice a l.length c ∧ RdI w w.heap.size a l ∧ l.length ≤ maxLen := by
  obtain ⟨a, n, c, rfl⟩ := slice_shape Tryz.underlying23 h
  obtain ⟨l, e1, e2, e3, e4⟩ := open_I Tryz.underlying23 Tryz.underlying3 (by kernel_rfl) h
  subst e1
  exact ⟨a, l, c, rfl, e2, e4⟩
/-- A gate by value. -/
theorem open_gate {fuel : Nat} {c0 c1 c2 c3 : Value} {y0 y1 y2 y3 : DataW H × List MemPlace} (h0 : DataW.trod enc Tryz.prog w base spare held fuel 22 [c0] = some y0) (h1 : DataW.trod enc Tryz.prog w base spare held fuel 9 [c1] = some y1) (h2 : DataW.trod enc Tryz.prog w base spare held fuel 3 [c2] = some y2) (h3 : DataW.trod enc Tryz.prog w base spare held fuel 23 [c3] = some y3) :
    ∃ (a : Option Addr) (cap : Nat) (cs : List (List Ln)) (K : ByteArray) (n : Int) (b : Option Addr) (capb : Nat) (ns : List Int), Value.agg #[c0, c1, c2, c3] = .agg #[.slice a cs.length cap, .string K, .int .i64 n, .slice b ns.length capb] ∧ RdLL w w.heap.size a cs ∧ RdI w w.heap.size b ns ∧ (∀ l ∈ cs, l.length ≤ maxLen) ∧ cs.length ≤ maxLen ∧ ns.length ≤ maxLen ∧ K.size ≤ maxLen ∧ wf64 n := by
  obtain ⟨a, m, c, rfl⟩ := slice_shape Tryz.underlying22 h0
  obtain ⟨cs, e1, e2, e3, e4⟩ := open_slices Tryz.underlying22 (by kernel_rfl) inner_L h0
  subst e1
  obtain ⟨K, f1, _, f2⟩ := DataW.trod_string Tryz.underlying9 h1
  obtain ⟨n, g1, _, g2⟩ := DataW.trod_int Tryz.underlying3 h2
  obtain ⟨b, ns, cb, rfl, i1, i2⟩ := inner_I _ _ _ h3
  simp only [List.cons.injEq, and_true] at f1 g1
  subst f1
  subst g1
  exact ⟨a, c, cs, K, n, b, cb, ns, rfl, e4, i1, e3, e2, i2, f2, wf64_of g2⟩
end
end Go.Proofs.YthgpbdlmadjndaaGreatDoor
