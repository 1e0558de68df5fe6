/- What the listed variables give in the rows of scripts: sentinels with their texts, tables, a length out of the world's shape. No condition. (Printed by genlaids.py.) A slice of texts, opened; the wrap that keeps the world's shape beside what is listed. No condition. -/
import Derived.Test.YtoomffajodheaaaGreatDoorQLdM
import Derived.Test.YtoomffajodheaaaGreatDoorQScMa
import Derived.Test.YtoomffajodheaaaGreatDoorQScPl
import Derived.Test.YtoomffajodheaaaGreatDoorQShelf
import Derived.LaidHandle
import Derived.LaidLaws
import Derived.Lib.LaidTab
import Derived.Test.YtoomffajodheaaaGreatDoorQOpen
import Derived.HandedShaped
import Derived.ChangeOld
set_option linter.all false
namespace Go.Proofs.YtoomffajodheaaaGreatDoor
open Go.ChangeShapes Go.WideShapes Go.RowKit
set_option maxRecDepth 100000
namespace LaidS
theorem txt_eq {s : ByteArray} {k : Nat} {l : List UInt8} (h : s.data.toList = l) (hl : l = (errT k).data.toList) : s = errT k := toList_inj (h.trans hl)
theorem tab_of {r : List (String × DataW Unit)} {W : World} (m : laidMet Tryz.prog (("internal/strconv.uint64pow10", Rows.laid_internal_strconv_uint64pow10) :: r) W) : Lib.TabIs Tryz.prog W "internal/strconv.uint64pow10" .u64 Lib.pow10Tab :=
  Lib.tabIs_of_head (t := 246) (e := 201) (n := 20) tabG (by kernel_rfl) Tryz.underlying246 Tryz.underlying201 (by kernel_rfl) (by kernel_rfl) m
theorem sx9 {W : World} (h : laidMetH Tryz.prog [("math/bits.deBruijn32tab", Rows.laid_math_bits_deBruijn32tab), ("math/bits.deBruijn64tab", Rows.laid_math_bits_deBruijn64tab), ("internal/strconv.uint64pow10", Rows.laid_internal_strconv_uint64pow10), ("unicode/utf8.acceptRanges", Rows.laid_unicode_utf8_acceptRanges), ("errors.errorType", Rows.laid_errors_errorType), ("floodgate/api.ErrText", Rows.laid_floodgate_api_ErrText), ("floodgate/api.ErrBound", Rows.laid_floodgate_api_ErrBound), ("floodgate/api.ErrShape", Rows.laid_floodgate_api_ErrShape), ("floodgate/api.ErrNone", Rows.laid_floodgate_api_ErrNone), ("floodgate/api.ErrOld", Rows.laid_floodgate_api_ErrOld), ("floodgate/api.ErrOver", Rows.laid_floodgate_api_ErrOver), ("floodgate/api.ErrIdle", Rows.laid_floodgate_api_ErrIdle), ("floodgate/api.ErrTurn", Rows.laid_floodgate_api_ErrTurn), ("floodgate/api.ErrKind", Rows.laid_floodgate_api_ErrKind), ("strconv.ErrRange", Rows.laid_strconv_ErrRange), ("strconv.ErrSyntax", Rows.laid_strconv_ErrSyntax), ("unicode/utf8.first", Rows.laid_unicode_utf8_first)] W) (hsh : W.ShapedOpen Tryz.prog) : ∃ S, SX W W.heap.size S ∧ All9 W W.heap.size S := by
  have h' : laidMet Tryz.prog [("math/bits.deBruijn32tab", Rows.laid_math_bits_deBruijn32tab), ("math/bits.deBruijn64tab", Rows.laid_math_bits_deBruijn64tab), ("internal/strconv.uint64pow10", Rows.laid_internal_strconv_uint64pow10), ("unicode/utf8.acceptRanges", Rows.laid_unicode_utf8_acceptRanges), ("floodgate/api.ErrText", Rows.laid_floodgate_api_ErrText), ("floodgate/api.ErrBound", Rows.laid_floodgate_api_ErrBound), ("floodgate/api.ErrShape", Rows.laid_floodgate_api_ErrShape), ("floodgate/api.ErrNone", Rows.laid_floodgate_api_ErrNone), ("floodgate/api.ErrOld", Rows.laid_floodgate_api_ErrOld), ("floodgate/api.ErrOver", Rows.laid_floodgate_api_ErrOver), ("floodgate/api.ErrIdle", Rows.laid_floodgate_api_ErrIdle), ("floodgate/api.ErrTurn", Rows.laid_floodgate_api_ErrTurn), ("floodgate/api.ErrKind", Rows.laid_floodgate_api_ErrKind), ("strconv.ErrRange", Rows.laid_strconv_ErrRange), ("strconv.ErrSyntax", Rows.laid_strconv_ErrSyntax), ("unicode/utf8.first", Rows.laid_unicode_utf8_first)] W ∧ handlesMet Tryz.prog [("errors.errorType", Rows.laid_errors_errorType)] W := h
  obtain ⟨m, hd⟩ := h'
  obtain ⟨name, u, ty, e1, e2, e3, e4, e5⟩ := hd _ (List.mem_singleton.2 rfl)
  have en : name = [101, 114, 114, 111, 114] := (Option.some.inj e1).symm
  subst en
  obtain rfl := Option.some.inj (LaidAll.rt.symm.trans e2)
  have hm : ty ∈ (List.range 351).filter fun t => Tryz.prog.rowNamed t [101, 114, 114, 111, 114] := List.mem_filter.2 ⟨List.mem_range.2 (by rw [← LaidAll.size]; exact e3), e4⟩
  rw [LaidAll.oneRow] at hm
  obtain rfl := List.mem_singleton.1 hm
  rw [LaidAll.hh] at e5
  have hg : W.cell? ⟨9, 0, none⟩ = some (.iface 170 (.agg #[.pointer (some ⟨23, 34, none⟩)])) := by simpa using World.var?_cell LaidAll.et e5 0
  replace m := m.tail.tail
  have htab : Lib.TabIs Tryz.prog W "internal/strconv.uint64pow10" .u64 Lib.pow10Tab := tab_of m
  replace m := m.tail.tail
  obtain ⟨a1, s1, g1, c1, x1, b1⟩ := LaidAll.sent_full m (g := 1) (by kernel_rfl) (by kernel_rfl)
  replace m := m.tail
  obtain ⟨a2, s2, g2, c2, x2, b2⟩ := LaidAll.sent_full m (g := 0) (by kernel_rfl) (by kernel_rfl)
  replace m := m.tail
  obtain ⟨a3, s3, g3, c3, x3, b3⟩ := LaidAll.sent_full m (g := 2) (by kernel_rfl) (by kernel_rfl)
  replace m := m.tail
  obtain ⟨a4, s4, g4, c4, x4, b4⟩ := LaidAll.sent_full m (g := 3) (by kernel_rfl) (by kernel_rfl)
  replace m := m.tail
  obtain ⟨a5, s5, g5, c5, x5, b5⟩ := LaidAll.sent_full m (g := 4) (by kernel_rfl) (by kernel_rfl)
  replace m := m.tail
  obtain ⟨a6, s6, g6, c6, x6, b6⟩ := LaidAll.sent_full m (g := 5) (by kernel_rfl) (by kernel_rfl)
  replace m := m.tail
  obtain ⟨a7, s7, g7, c7, x7, b7⟩ := LaidAll.sent_full m (g := 6) (by kernel_rfl) (by kernel_rfl)
  replace m := m.tail
  obtain ⟨a8, s8, g8, c8, x8, b8⟩ := LaidAll.sent_full m (g := 7) (by kernel_rfl) (by kernel_rfl)
  replace m := m.tail
  obtain ⟨a9, s9, g9, c9, x9, b9⟩ := LaidAll.sent_full m (g := 8) (by kernel_rfl) (by kernel_rfl)
  replace m := m.tail
  obtain ⟨ar, sr, gr, -, -, -⟩ := LaidAll.sent_full m (g := 12) (by kernel_rfl) (by kernel_rfl)
  replace m := m.tail
  obtain ⟨ay, sy, gy, -, -, -⟩ := LaidAll.sent_full m (g := 11) (by kernel_rfl) (by kernel_rfl)
  obtain ⟨mm, hmm⟩ := Tryz.laysM146.s1_3 W hsh
  let S : Nat → Addr := fun k => match k with | 1 => a1 | 2 => a2 | 3 => a3 | 4 => a4 | 5 => a5 | 6 => a6 | 7 => a7 | 8 => a8 | _ => a9
  have hsx : SX W W.heap.size S := by
    refine ⟨⟨fun k hk => ?_, World.block_lt_of_cell? W _ hg, hg⟩, fun k hk => ?_, fun k hk => ?_, World.block_lt_of_cell? W _ (htab.cell tabG 0 (by decide)), htab, World.block_lt_of_cell? W _ hmm, ⟨mm, hmm⟩, World.block_lt_of_cell? W _ gy.2.2, ⟨_, _, gy.2.2⟩, World.block_lt_of_cell? W _ gr.2.2, ⟨_, _, gr.2.2⟩⟩
    · simp only [List.mem_cons, List.mem_nil_iff, or_false] at hk
      rcases hk with rfl | rfl | rfl | rfl | rfl
      · exact g2
      · exact g3
      · exact g4
      · exact g5
      · exact g9
    · simp only [List.mem_cons, List.mem_nil_iff, or_false] at hk
      subst hk
      exact g1
    · simp only [List.mem_cons, List.mem_nil_iff, or_false] at hk
      rcases hk with rfl | rfl | rfl | rfl | rfl | rfl
      · exact c1.trans (by rw [txt_eq (k := 1) x1 rfl])
      · exact c2.trans (by rw [txt_eq (k := 2) x2 rfl])
      · exact c3.trans (by rw [txt_eq (k := 3) x3 rfl])
      · exact c4.trans (by rw [txt_eq (k := 4) x4 rfl])
      · exact c5.trans (by rw [txt_eq (k := 5) x5 rfl])
      · exact c9.trans (by rw [txt_eq (k := 9) x9 rfl])
  have key : ∀ k, 1 ≤ k → k ≤ 9 → (G k < W.heap.size ∧ (S k).block < W.heap.size ∧ W.cell? ⟨G k, 0, none⟩ = some (sv S k)) ∧ (∃ s : ByteArray, W.cell? (S k) = some (.string s) ∧ s.data.toList = LaidAll.txt k) ∧ ∃ c t, W.heap[(S k).block]? = some (.cells c t (0, 0)) := by
    intro k k1 k9
    have hk : k = 1 ∨ k = 2 ∨ k = 3 ∨ k = 4 ∨ k = 5 ∨ k = 6 ∨ k = 7 ∨ k = 8 ∨ k = 9 := by omega
    rcases hk with rfl | rfl | rfl | rfl | rfl | rfl | rfl | rfl | rfl
    · exact ⟨g1, ⟨s1, c1, x1⟩, b1⟩
    · exact ⟨g2, ⟨s2, c2, x2⟩, b2⟩
    · exact ⟨g3, ⟨s3, c3, x3⟩, b3⟩
    · exact ⟨g4, ⟨s4, c4, x4⟩, b4⟩
    · exact ⟨g5, ⟨s5, c5, x5⟩, b5⟩
    · exact ⟨g6, ⟨s6, c6, x6⟩, b6⟩
    · exact ⟨g7, ⟨s7, c7, x7⟩, b7⟩
    · exact ⟨g8, ⟨s8, c8, x8⟩, b8⟩
    · exact ⟨g9, ⟨s9, c9, x9⟩, b9⟩
  refine ⟨S, hsx, ⟨fun k hk => (key k (by simp at hk; omega) (by simp at hk; omega)).1, fun k k1 k9 => (key k k1 k9).2.2, fun j k j1 j9 k1 k9 hne e => ?_, World.block_lt_of_cell? W _ hg, hg⟩⟩
  obtain ⟨s, hs, ht⟩ := (key j j1 j9).2.1
  obtain ⟨s', hs', ht'⟩ := (key k k1 k9).2.1
  rw [e, hs'] at hs
  have : s' = s := by injection hs with hs; injection hs
  subst this
  exact LaidAll.txt_ne j k j1 j9 k1 k9 hne (ht.symm.trans ht')
theorem sx {W : World} (h : laidMetH Tryz.prog [("math/bits.deBruijn32tab", Rows.laid_math_bits_deBruijn32tab), ("math/bits.deBruijn64tab", Rows.laid_math_bits_deBruijn64tab), ("internal/strconv.uint64pow10", Rows.laid_internal_strconv_uint64pow10), ("unicode/utf8.acceptRanges", Rows.laid_unicode_utf8_acceptRanges), ("errors.errorType", Rows.laid_errors_errorType), ("floodgate/api.ErrText", Rows.laid_floodgate_api_ErrText), ("floodgate/api.ErrBound", Rows.laid_floodgate_api_ErrBound), ("floodgate/api.ErrShape", Rows.laid_floodgate_api_ErrShape), ("floodgate/api.ErrNone", Rows.laid_floodgate_api_ErrNone), ("floodgate/api.ErrOld", Rows.laid_floodgate_api_ErrOld), ("floodgate/api.ErrKind", Rows.laid_floodgate_api_ErrKind), ("strconv.ErrRange", Rows.laid_strconv_ErrRange), ("strconv.ErrSyntax", Rows.laid_strconv_ErrSyntax), ("unicode/utf8.first", Rows.laid_unicode_utf8_first)] W) (hsh : W.ShapedOpen Tryz.prog) : ∃ S, SX W W.heap.size S := by
  have h' : laidMet Tryz.prog [("math/bits.deBruijn32tab", Rows.laid_math_bits_deBruijn32tab), ("math/bits.deBruijn64tab", Rows.laid_math_bits_deBruijn64tab), ("internal/strconv.uint64pow10", Rows.laid_internal_strconv_uint64pow10), ("unicode/utf8.acceptRanges", Rows.laid_unicode_utf8_acceptRanges), ("floodgate/api.ErrText", Rows.laid_floodgate_api_ErrText), ("floodgate/api.ErrBound", Rows.laid_floodgate_api_ErrBound), ("floodgate/api.ErrShape", Rows.laid_floodgate_api_ErrShape), ("floodgate/api.ErrNone", Rows.laid_floodgate_api_ErrNone), ("floodgate/api.ErrOld", Rows.laid_floodgate_api_ErrOld), ("floodgate/api.ErrKind", Rows.laid_floodgate_api_ErrKind), ("strconv.ErrRange", Rows.laid_strconv_ErrRange), ("strconv.ErrSyntax", Rows.laid_strconv_ErrSyntax), ("unicode/utf8.first", Rows.laid_unicode_utf8_first)] W ∧ handlesMet Tryz.prog [("errors.errorType", Rows.laid_errors_errorType)] W := h
  obtain ⟨m, hd⟩ := h'
  obtain ⟨name, u, ty, e1, e2, e3, e4, e5⟩ := hd _ (List.mem_singleton.2 rfl)
  have en : name = [101, 114, 114, 111, 114] := (Option.some.inj e1).symm
  subst en
  obtain rfl := Option.some.inj (LaidAll.rt.symm.trans e2)
  have hm : ty ∈ (List.range 351).filter fun t => Tryz.prog.rowNamed t [101, 114, 114, 111, 114] := List.mem_filter.2 ⟨List.mem_range.2 (by rw [← LaidAll.size]; exact e3), e4⟩
  rw [LaidAll.oneRow] at hm
  obtain rfl := List.mem_singleton.1 hm
  rw [LaidAll.hh] at e5
  have hg : W.cell? ⟨9, 0, none⟩ = some (.iface 170 (.agg #[.pointer (some ⟨23, 34, none⟩)])) := by simpa using World.var?_cell LaidAll.et e5 0
  replace m := m.tail.tail
  have htab : Lib.TabIs Tryz.prog W "internal/strconv.uint64pow10" .u64 Lib.pow10Tab := tab_of m
  replace m := m.tail.tail
  obtain ⟨a1, s1, g1, c1, x1, b1⟩ := LaidAll.sent_full m (g := 1) (by kernel_rfl) (by kernel_rfl)
  replace m := m.tail
  obtain ⟨a2, s2, g2, c2, x2, b2⟩ := LaidAll.sent_full m (g := 0) (by kernel_rfl) (by kernel_rfl)
  replace m := m.tail
  obtain ⟨a3, s3, g3, c3, x3, b3⟩ := LaidAll.sent_full m (g := 2) (by kernel_rfl) (by kernel_rfl)
  replace m := m.tail
  obtain ⟨a4, s4, g4, c4, x4, b4⟩ := LaidAll.sent_full m (g := 3) (by kernel_rfl) (by kernel_rfl)
  replace m := m.tail
  obtain ⟨a5, s5, g5, c5, x5, b5⟩ := LaidAll.sent_full m (g := 4) (by kernel_rfl) (by kernel_rfl)
  replace m := m.tail
  obtain ⟨a9, s9, g9, c9, x9, b9⟩ := LaidAll.sent_full m (g := 8) (by kernel_rfl) (by kernel_rfl)
  replace m := m.tail
  obtain ⟨ar, sr, gr, -, -, -⟩ := LaidAll.sent_full m (g := 12) (by kernel_rfl) (by kernel_rfl)
  replace m := m.tail
  obtain ⟨ay, sy, gy, -, -, -⟩ := LaidAll.sent_full m (g := 11) (by kernel_rfl) (by kernel_rfl)
  obtain ⟨mm, hmm⟩ := Tryz.laysM146.s1_3 W hsh
  let S : Nat → Addr := fun k => match k with | 1 => a1 | 2 => a2 | 3 => a3 | 4 => a4 | 5 => a5 | _ => a9
  have hsx : SX W W.heap.size S := by
    refine ⟨⟨fun k hk => ?_, World.block_lt_of_cell? W _ hg, hg⟩, fun k hk => ?_, fun k hk => ?_, World.block_lt_of_cell? W _ (htab.cell tabG 0 (by decide)), htab, World.block_lt_of_cell? W _ hmm, ⟨mm, hmm⟩, World.block_lt_of_cell? W _ gy.2.2, ⟨_, _, gy.2.2⟩, World.block_lt_of_cell? W _ gr.2.2, ⟨_, _, gr.2.2⟩⟩
    · simp only [List.mem_cons, List.mem_nil_iff, or_false] at hk
      rcases hk with rfl | rfl | rfl | rfl | rfl
      · exact g2
      · exact g3
      · exact g4
      · exact g5
      · exact g9
    · simp only [List.mem_cons, List.mem_nil_iff, or_false] at hk
      subst hk
      exact g1
    · simp only [List.mem_cons, List.mem_nil_iff, or_false] at hk
      rcases hk with rfl | rfl | rfl | rfl | rfl | rfl
      · exact c1.trans (by rw [txt_eq (k := 1) x1 rfl])
      · exact c2.trans (by rw [txt_eq (k := 2) x2 rfl])
      · exact c3.trans (by rw [txt_eq (k := 3) x3 rfl])
      · exact c4.trans (by rw [txt_eq (k := 4) x4 rfl])
      · exact c5.trans (by rw [txt_eq (k := 5) x5 rfl])
      · exact c9.trans (by rw [txt_eq (k := 9) x9 rfl])
  exact ⟨S, hsx⟩
end LaidS
end Go.Proofs.YtoomffajodheaaaGreatDoor
namespace Go.Proofs.YtoomffajodheaaaGreatDoor
open Go.RowKit Go.ChangeShapes Go.WideShapes Go.Deep
set_option maxRecDepth 100000
section
variable {H : Type} {enc : TypeId × Value → H} {w : World} {base : Nat} {spare : Nat → Bool} {held : Bool}
/-- A slice of texts. -/
theorem open_texts {t e : TypeId} {fuel : Nat} {A : Option Addr} {len cap : Nat} {x : DataW H × List MemPlace} (ht : Tryz.prog.underlying t = some (.slice e)) (he : Tryz.prog.underlying e = some .string) (hC : Tryz.prog.cellsOf e = 1)
    (h : DataW.trod enc Tryz.prog w base spare held fuel t [.slice A len cap] = some x) :
    ∃ l : List ByteArray, l.length = len ∧ RdB w w.heap.size A l ∧ len ≤ maxLen := by
  rcases open_slice1 ht hC h with ⟨hcs, _⟩ | ⟨a, len', cap', m, n, V, D, Pl, hcs, hb, hl, hm, hmm, hx, hi⟩
  · simp only [List.cons.injEq, Value.slice.injEq, and_true] at hcs
    obtain ⟨rfl, rfl, rfl⟩ := hcs
    exact ⟨[], rfl, Rd.nil_, Nat.zero_le _⟩
  · simp only [List.cons.injEq, Value.slice.injEq, and_true] at hcs
    obtain ⟨rfl, rfl, rfl⟩ := hcs
    have hlm : len ≤ m := by rw [hmm]; split <;> omega
    have hq : ∀ i, i < len → ∃ s : ByteArray, w.cell? (a.add i) = some (.string s) := fun i hil => by
      obtain ⟨h1, h2⟩ := hi i (by omega)
      obtain ⟨s, e1, _, _⟩ := DataW.trod_string he h2
      simp only [List.cons.injEq, and_true] at e1
      rw [e1] at h1
      exact ⟨s, h1⟩
    obtain ⟨ls, hls, hall⟩ := pick_list hq
    refine ⟨ls, hls, fun h0 => ?_, Nat.le_trans hl hm⟩
    obtain ⟨b, o, spot⟩ := a
    have hspot : spot = none := by
      obtain ⟨h7, _⟩ := hi 0 (by omega)
      simpa [Addr.add] using World.cell?_spot h7
    subst hspot
    have h00 := hall 0 _ (List.getElem?_eq_getElem h0)
    rw [add_mk] at h00
    refine ⟨b, o, rfl, World.block_lt_of_cell? w _ h00, fun i y hy j v hv => ?_⟩
    cases j with
    | zero =>
      simp only [bCs, List.getElem?_cons_zero, Option.some.injEq] at hv
      subst hv
      have := hall i y hy
      rw [add_mk] at this
      rw [Nat.mul_one, Nat.add_zero]
      exact this
    | succ j => simp [bCs] at hv
/-- The wrap with what is listed, and the world's shape kept. -/
theorem returnsIn_and_shaped {a : Assume} {C : Checked} {os : Os} {f : FuncId} {fn : Func} {s : ChangeSpec} {conds : List PathCond} {apart fresh handsOn again : Bool} {X : World → Array Value → Prop}
    (hX : ∀ (w w' : World) (args : Array Value), w.heap = w'.heap → X w args → X w' args)
    (own : ownKnob C.prog.godebug = none) (started : os.Started) (noInit : C.prog.inits.idxOf? f = none) (hfn : C.prog.funcs[f]? = some fn)
    (witness : ∃ (w : World) (tape : Tape) (i : Input), w.os = os ∧ (w.forCall tape i).Shaped C.prog ∧ i.vars = [] ∧ Input.okWide C.prog (w.forCall tape i) .any w.heap.size f i ∧
      ((s.pre enc C.prog fn conds apart (w.forCall tape i).memory i.args ∧ X (w.forCall tape i).memory i.args) ∧ sizedMet enc C.prog fn (OpenSpec.ofChange s) apart (w.forCall tape i).memory i.args) ∧ a.holds C.prog (lone (Frame.enter C.prog f i.args .normal) [] (w.forCall tape i)))
    (contract : ∀ (W : World) (base : Nat) (args : Array Value) (ds gs : List (DataW H)) (before : List MemPlace),
      (∀ (j : Nat) t v, fn.params[j]? = some t → args[j]? = some v → Value.okWide C.prog W .any base t v) →
      DataW.Whole enc C.prog fn.params.toList s.vars apart W args.toList ds gs before →
      X W args → W.ShapedOpen C.prog →
      Calls C.prog f args W fun e W' => ∃ v, e = .returned v ∧ s.post enc C.prog fn apart fresh handsOn again W args v W') :
    ReturnsInHanded a C os f .any (fun w args => (s.pre enc C.prog fn conds apart w args ∧ X w args) ∧ sizedMet enc C.prog fn (OpenSpec.ofChange s) apart w args) (s.post enc C.prog fn apart fresh handsOn again) := by
  refine returnsInHanded_of_calls own started noInit witness ?_
  intro w tape i _ hsh _ hok hpre _
  obtain ⟨_, _, _, fn', hfn', _, _, _, _, hval⟩ := hok
  have e : fn' = fn := Option.some.inj (hfn'.symm.trans hfn)
  subst e
  obtain ⟨⟨⟨ds, gs, before, hw, _⟩, hx⟩, _⟩ := hpre
  have hw' := DataW.Whole.of_heap (w' := w.forCall tape i) (by rfl) hw
  refine (contract (w.forCall tape i) w.heap.size i.args ds gs before hval hw' (hX _ _ _ (by rfl) hx) hsh).mono fun e W' ⟨v, he, hp⟩ => ?_
  subst he
  exact ChangeSpec.post_blind hp
end
end Go.Proofs.YtoomffajodheaaaGreatDoor
