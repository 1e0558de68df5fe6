/- slices.Delete of one that waits, on the clock's own row. Conditions written at it. Package fair: the one with the least tag is picked; rest. Conditions written at each. Package fair: rest. Conditions written at it. -/
import Derived.Test.YtoomffajodheaaaGreatDoorQFrA
import Derived.Deep.RegionLaw
import Derived.Deep.Upon
import Derived.Lib.SliceRun
import Derived.BigQuiet
import Derived.Deep.QuietTactic
import Derived.Maps.Own
set_option linter.all false
namespace Go.Proofs.YtoomffajodheaaaGreatDoor
open Go.RowKit
set_option maxRecDepth 100000
def putL : Array Value → Nat → List Value → Array Value
  | cur, _, [] => cur
  | cur, o, v :: r => putL (cur.setIfInBounds o v) (o + 1) r
theorem putL_size (vs : List Value) : ∀ (cur : Array Value) (o : Nat), (putL cur o vs).size = cur.size := by
  induction vs with
  | nil => exact fun _ _ => rfl
  | cons v r ih => exact fun cur o => by show (putL _ _ r).size = _; rw [ih]; simp
theorem putL_list (vs : List Value) : ∀ (cur : Array Value) (o : Nat), o + vs.length ≤ cur.size → (putL cur o vs).toList = cur.toList.take o ++ (vs ++ cur.toList.drop (o + vs.length)) := by
  induction vs with
  | nil => exact fun cur o _ => by simp [putL]
  | cons v r ih =>
    intro cur o h
    simp only [List.length_cons] at h
    show (putL (cur.setIfInBounds o v) (o + 1) r).toList = _
    rw [ih _ _ (by simp; omega)]
    have e : (cur.setIfInBounds o v).toList = cur.toList.take o ++ v :: cur.toList.drop (o + 1) := by
      rw [Array.toList_setIfInBounds, List.set_eq_take_append_cons_drop, if_pos (by simp; omega)]
    have l1 : (cur.toList.take o).length = o := by simp; omega
    have d1 : (cur.toList.take o ++ v :: cur.toList.drop (o + 1)).drop (o + 1 + r.length) = cur.toList.drop (o + (r.length + 1)) := by
      rw [List.drop_append, l1, List.drop_eq_nil_of_le (by rw [l1]; omega), show o + 1 + r.length - o = r.length + 1 by omega, List.drop_succ_cons, List.drop_drop, List.nil_append]
      congr 1; omega
    have d2 : (cur.toList.take o ++ v :: cur.toList.drop (o + 1)).take (o + 1) = cur.toList.take o ++ [v] := by
      rw [List.take_append, l1, List.take_of_length_le (by rw [l1]; omega), show o + 1 - o = 1 by omega]; rfl
    rw [e, d1, d2, List.append_assoc]
    rfl
theorem Blk.setL {g : Nat} {t : TypeId} (vs : List Value) : ∀ {w : World} {cur : Array Value} (o : Nat), Blk w g t cur → Blk (w.setCells g o vs) g t (putL cur o vs) := by
  induction vs with
  | nil => exact fun o h => h
  | cons v r ih => exact fun o h => ih (o + 1) (h.set_ o v)
theorem setL_size (g : Nat) (vs : List Value) : ∀ (w : World) (o : Nat), (w.setCells g o vs).heap.size = w.heap.size := by
  induction vs with
  | nil => exact fun _ _ => rfl
  | cons v r ih => exact fun w o => (ih (w.setCell ⟨g, o, none⟩ v) (o + 1)).trans (setCell_size _ _ _)
theorem setL_other (g : Nat) (vs : List Value) : ∀ (w : World) (o : Nat) (b : Nat), b ≠ g → (w.setCells g o vs).heap[b]? = w.heap[b]? := by
  induction vs with
  | nil => exact fun _ _ _ _ => rfl
  | cons v r ih => exact fun w o b hb => (ih (w.setCell ⟨g, o, none⟩ v) (o + 1) b hb).trans (Below.heap_setCell w ⟨g, o, none⟩ v b hb)
theorem setL_tape (g : Nat) (vs : List Value) : ∀ (w : World) (o : Nat), (w.setCells g o vs).tape = w.tape := by
  induction vs with
  | nil => exact fun _ _ => rfl
  | cons v r ih => exact fun w o => (ih (w.setCell ⟨g, o, none⟩ v) (o + 1)).trans rfl
theorem aCs_take (tg : Nat → Int) (l : List Nat) : ∀ i, (l.flatMap (aCs tg)).take (i * 2) = (l.take i).flatMap (aCs tg) := by
  induction l with
  | nil => simp
  | cons x r ih =>
    intro i
    cases i with
    | zero => simp
    | succ i => rw [List.take_succ_cons, List.flatMap_cons, List.flatMap_cons, ← ih i]; show List.take ((i + 1) * 2) (Value.int .i64 _ :: Value.int .i64 _ :: _) = _; rw [show (i + 1) * 2 = i * 2 + 1 + 1 by omega]; rfl
theorem aCs_flen (tg : Nat → Int) (l : List Nat) : (l.flatMap (aCs tg)).length = l.length * 2 := by
  induction l with
  | nil => rfl
  | cons x r ih => rw [List.flatMap_cons, List.length_append, ih]; simp [aCs]; omega
theorem aCs_get (tg : Nat → Int) (l : List Nat) {i : Nat} (h : i < l.length) : (l.flatMap (aCs tg))[i * 2]? = some (.int .i64 (l[i] : Int)) ∧ (l.flatMap (aCs tg))[i * 2 + 1]? = some (.int .i64 (tg l[i])) := by
  induction l generalizing i with
  | nil => simp at h
  | cons x r ih =>
    cases i with
    | zero => simp [aCs]
    | succ i =>
      have := ih (i := i) (by simpa using h)
      rw [List.flatMap_cons]
      rw [show (i + 1) * 2 = i * 2 + 1 + 1 by omega]
      simpa [aCs] using this
/-- What is left when one of the row is taken out. -/
theorem del_row {tg : Nat → Int} {l : List Nat} {n i : Nat} {cur : Array Value} (hn : l.length = n) (hi : i < n) (hcs : n * 2 ≤ cur.size) (hc : cur.toList.take (n * 2) = l.flatMap (aCs tg)) (x y : Value) :
    (putL (putL cur (i * 2) ((l.drop (i + 1)).flatMap (aCs tg))) ((n - 1) * 2) [x, y]).toList.take ((n - 1) * 2) = (l.eraseIdx i).flatMap (aCs tg) := by
  have l1 : ((l.drop (i + 1)).flatMap (aCs tg)).length = (n - (i + 1)) * 2 := by rw [aCs_flen]; simp [hn]
  have e2 : (putL (putL cur (i * 2) ((l.drop (i + 1)).flatMap (aCs tg))) ((n - 1) * 2) [x, y]).toList.take ((n - 1) * 2) = (putL cur (i * 2) ((l.drop (i + 1)).flatMap (aCs tg))).toList.take ((n - 1) * 2) := by
    rw [putL_list _ _ _ (by rw [putL_size]; simp; omega), List.take_append, List.take_take, Nat.min_self]
    have : (List.take ((n - 1) * 2) (putL cur (i * 2) ((l.drop (i + 1)).flatMap (aCs tg))).toList).length = (n - 1) * 2 := by
      simp only [List.length_take, Array.length_toList, putL_size]; omega
    rw [this, Nat.sub_self, List.take_zero, List.append_nil]
  rw [e2, putL_list _ _ _ (by rw [l1]; omega), ← List.append_assoc]
  have l2 : (cur.toList.take (i * 2)).length = i * 2 := by simp; omega
  have l3 : (cur.toList.take (i * 2) ++ (l.drop (i + 1)).flatMap (aCs tg)).length = (n - 1) * 2 := by rw [List.length_append, l1, l2]; omega
  rw [List.take_append, l3, Nat.sub_self, List.take_zero, List.append_nil, List.take_of_length_le (by omega)]
  have e3 : cur.toList.take (i * 2) = (l.take i).flatMap (aCs tg) := by
    rw [← aCs_take, ← hc, List.take_take, Nat.min_eq_left (by omega)]
  rw [e3, List.eraseIdx_eq_take_drop_succ, List.flatMap_append]
theorem zeroTagged (w : World) : (zeroValue 304).run Tryz.prog w = .ok (.agg #[.int .i64 0, .int .i64 0]) w := by kernel_rfl
theorem infoTagged : (Tryz.prog.info? 304).map (fun i => (i.zero, i.size, i.bytes)) = some (some (.agg #[.int .i64 0, .int .i64 0]), 2, 16) := by kernel_rfl
theorem undTagged : Tryz.prog.underlying 284 = some (.slice 304) := by kernel_rfl
theorem run_clear_one (W : World) (ty : TypeId) (b o c : Nat) (hc : ∀ j, j < 2 → (W.cell? ⟨b, o + j, none⟩).isSome = true) (hf : ∀ j, j < 2 → W.frozen? ⟨b, o + j, none⟩ = false) :
    (Builtin.clear_ #[284] ty #[.slice (some ⟨b, o, none⟩) 1 c]).run Tryz.prog W = .ok (.tuple #[]) (W.setCells b o [.int .i64 0, .int .i64 0]) := by
  have hst := run_storeCells_cells (P := Tryz.prog) b o [.int .i64 0, .int .i64 0] 0 W (by simpa using hc) (by simpa using hf) (by simp [Value.oneCell'])
  simp only [Nat.add_zero] at hst
  have hz : (Builtin.zeroCells (Value.agg #[.int .i64 0, .int .i64 0]).cells 1).toList = [Value.int .i64 0, Value.int .i64 0] := by kernel_rfl
  simp [Builtin.clear_, run_underlying undTagged, zeroTagged, hz, hst]
set_option maxHeartbeats 2000000 in
theorem fdel_any (B r n cap i : Nat) (tg : Nat → Int) (l : List Nat) (w : World) (h : w.ownsRow B 304 2 (.slice (some ⟨r, 0, none⟩) n cap) n (l.flatMap (aCs tg))) (hn : l.length = n) (hi : i < n) (hn3 : n ≤ 1000) :
    Calls Tryz.prog 218 #[.slice (some ⟨r, 0, none⟩) n cap, .int .i64 i, .int .i64 ((i : Int) + 1)] w fun e w' => e = .returned (.slice (some ⟨r, 0, none⟩) (n - 1) cap) ∧
      w'.ownsRow B 304 2 (.slice (some ⟨r, 0, none⟩) (n - 1) cap) (n - 1) ((l.eraseIdx i).flatMap (aCs tg)) ∧ w.grownBy w' (some r) := by
  obtain ⟨h0, hx⟩ := h
  rcases hx with ⟨hx, _⟩ | ⟨r', cap', cur, hv, hB, hb, hnc, hcm, hsz, hcur⟩
  · cases hx
  obtain ⟨⟨rfl, _, _⟩, _, rfl⟩ : (r = r' ∧ True ∧ True) ∧ n = n ∧ cap = cap' := by
    simp only [Value.slice.injEq, Option.some.injEq, Addr.mk.injEq, and_true, true_and] at hv
    exact ⟨⟨hv.1, trivial, trivial⟩, rfl, hv.2⟩
  have hbk : Blk w r 304 cur := hb
  obtain ⟨i0, hi0, hz0, hz1, hz2⟩ := info_parts infoTagged
  obtain ⟨news, hnews⟩ : ∃ news, news = (l.drop (i + 1)).flatMap (aCs tg) := ⟨_, rfl⟩
  have hlen : news.length = (n - (i + 1)) * 2 := by rw [hnews, aCs_flen]; simp [hn]
  have hone : ∀ u ∈ news, u.oneCell' = true := by
    intro u hu
    rw [hnews] at hu
    obtain ⟨x, _, hx⟩ := List.mem_flatMap.1 hu
    simp only [aCs, List.mem_cons, List.not_mem_nil, or_false] at hx
    rcases hx with rfl | rfl <;> rfl
  have hdr : l.flatMap (aCs tg) = (l.take (i + 1)).flatMap (aCs tg) ++ news := by rw [hnews, ← List.flatMap_append, List.take_append_drop]
  have hsrc0 : ∀ t u, news[t]? = some u → cur[(i + 1) * 2 + t]? = some u := fun t u hu => by
    have ht := (List.getElem?_eq_some_iff.1 hu).1
    have e1 : (cur.toList.take (n * 2))[(i + 1) * 2 + t]? = some u := by
      rw [hcur, hdr, List.getElem?_append_right (by rw [aCs_flen]; simp; omega), aCs_flen]
      rw [show (i + 1) * 2 + t - (l.take (i + 1)).length * 2 = t by simp; omega]
      exact hu
    rw [List.getElem?_take, if_pos (by omega)] at e1
    simpa using e1
  obtain ⟨A, hA, hsrc⟩ : ∃ A : Addr, (if cap = i + 1 then some (⟨r, 0, none⟩ : Addr) else some ⟨r, (i + 1) * 2, none⟩) = some A ∧ Hid (∀ t u, news[t]? = some u → w.drew.cell? (A.add t) = some u) := by
    by_cases hc : cap = i + 1
    · refine ⟨⟨r, 0, none⟩, by rw [if_pos hc], fun t u hu => ?_⟩
      have ht := (List.getElem?_eq_some_iff.1 hu).1
      omega
    · refine ⟨⟨r, (i + 1) * 2, none⟩, by rw [if_neg hc], fun t u hu => ?_⟩
      rw [add_mk]
      exact (hbk.cell _).trans (hsrc0 t u hu)
  have s3 : Hid (∀ t, t < news.length → (w.drew.cell? ⟨r, 0 + i * 2 + t, none⟩).isSome = true ∧ w.drew.frozen? ⟨r, 0 + i * 2 + t, none⟩ = false) := by
    intro t ht
    refine ⟨?_, hbk.frozen _⟩
    show (w.cell? _).isSome = true
    rw [hbk.cell, Array.getElem?_eq_getElem (by omega)]
    rfl
  obtain ⟨W1, hW1⟩ : ∃ W1, W1 = w.drew.setCells r (0 + i * 2) news := ⟨_, rfl⟩
  have b1 : Blk W1 r 304 (putL cur (i * 2) news) := by
    rw [hW1, Nat.zero_add]
    exact Blk.setL news (i * 2) (show Blk w.drew r _ cur from hbk)
  obtain ⟨m, hm⟩ : ∃ m, m = n - 1 := ⟨_, rfl⟩
  have Hm2 := Lib.hid (show i + (n - (i + 1)) = m by omega)
  have hcl0 := fun ty => run_clear_one W1 ty r (m * 2) (cap - m) (fun j hj => by rw [b1.cell, Array.getElem?_eq_getElem (by rw [putL_size]; omega)]; rfl) (fun j _ => b1.frozen _)
  have hcl : ∀ ty, (Builtin.clear_ #[284] ty #[.slice (some ⟨r, m * 2, none⟩) (n - m) (cap - m)]).run Tryz.prog W1 = .ok (.tuple #[]) (W1.setCells r (m * 2) [.int .i64 0, .int .i64 0]) := fun ty => by rw [show n - m = 1 by omega]; exact hcl0 ty
  have HW1 := Lib.hid hW1
  have u1 : m ≤ n := by omega
  have u2 : ¬ cap = m := by omega
  have u3 : (m : Int) ≤ (n : Int) := by omega
  have u4 : n ≤ cap := by omega
  have Hm := Lib.hid hm
  have B1 := Lib.hid b1
  have HN := Lib.hid hnews
  have HC := Lib.hid hcur
  have q1 : (0 : Int) ≤ (i : Int) := by omega
  have q2 : (i : Int) + 1 ≤ (n : Int) := by omega
  have q3 : (i : Int) + 1 ≤ (cap : Int) := by omega
  have q4 : (n : Int) ≤ (cap : Int) := by omega
  have q5 : ((i : Int) == (i : Int) + 1) = false := beq_eq_false_iff_ne.2 (by omega)
  have q6 : (i : Int) + 1 ≤ 9223372036854775807 := by omega
  have HL := Lib.hid hlen
  have hnl := Lib.hid hn
  have HSZ := Lib.hid hsz
  have HO := Lib.hid hone
  have q7 : (0 : Int) ≤ (i : Int) + 1 := by omega
  have t1 : i ≤ cap := by omega
  have t2 : i + 1 ≤ cap := by omega
  have t3 : i + 1 ≤ n := by omega
  clear hm hcl0 hW1 b1 hnews hcur hsrc0 hdr hb hbk h0 hv hn hsz hlen hone
  go_enter Tryz.func218, Tryz.ntmps218
  go_wp2_with fail
  go_region_law (refine step_append_room rfl (.tmp 22) (.tmp 25) 284 rfl 304 i0 2 undTagged hi0 hz1 r 0 i cap (by simp [Act.eval, Act.put]) A (n - (i + 1)) (cap - (i + 1)) news (by simp [Act.eval, Act.put]) HL.out hsrc.out HO.out (by omega) s3.out ?_; rw [← HW1.out, Hm2.out])
  go_wp2_with fail
  go_ret
  have e1 := Hm.out
  subst e1
  have b2 := Blk.setL [.int .i64 0, .int .i64 0] ((n - 1) * 2) B1.out
  have hel : (l.eraseIdx i).length = n - 1 := by rw [List.length_eraseIdx, if_pos (by rw [hnl.out]; exact hi), hnl.out]
  refine ⟨rfl, ⟨by rw [aCs_flen, hel], .inr ⟨r, cap, _, rfl, hB, b2, by omega, hcm, by rw [putL_size, putL_size]; exact HSZ.out, ?_⟩⟩, ⟨?_, ?_, ?_, ?_, fun b hb hne => ?_⟩⟩
  · rw [HN.out]; exact del_row hnl.out hi (by rw [HSZ.out]; omega) HC.out _ _
  · rw [World.os_setCells, HW1.out, World.os_setCells]; rfl
  · rw [setL_tape, HW1.out, setL_tape]; rfl
  · rw [World.output_setCells, HW1.out, World.output_setCells]; rfl
  · rw [setL_size, HW1.out, setL_size]; exact Nat.le_refl _
  · have hne' : b ≠ r := fun e => hne (by rw [e])
    rw [setL_other _ _ _ _ _ hne', HW1.out, setL_other _ _ _ _ _ hne']
    rfl
end Go.Proofs.YtoomffajodheaaaGreatDoor
namespace Go.Proofs.YtoomffajodheaaaGreatDoor
open Go.RowKit
set_option maxRecDepth 100000
theorem bestGo_one (key : Nat → Int) (s : List Nat) (b i : Nat) (kb : Int) (hi : i < s.length) : bestGo key b kb i (s.drop i) = if key s[i] < kb then bestGo key i (key s[i]) (i + 1) (s.drop (i + 1)) else bestGo key b kb (i + 1) (s.drop (i + 1)) := by
  rw [List.drop_eq_getElem_cons hi]; rfl
theorem FMem.pick_ {B g : Nat} {vp vw : Value} {n : Nat} {w : World} {own : Nat → Prop} {s : FS} {gt bm : Nat} {tc : Array Value} {es : Array MapEntry} {ck : Nat} {wv : Value} (h : FMem B g vp vw n w own s gt bm tc es ck wv) {r i : Nat} (hwv : wv.ownBlock = some r) {w2 : World} {wv' : Value} {x : Int}
    (hr : w2.ownsRow B 304 2 wv' (s.w.eraseIdx i).length ((s.w.eraseIdx i).flatMap (aCs s.tg))) (g2 : w.grownBy w2 (some r)) (hv : wv'.ownBlock = some r) :
    FMem B g vp vw n ((w2.setCell ⟨g, 5, none⟩ wv').setCell ⟨g, 4, none⟩ (.int .i64 x)) own { s with w := s.w.eraseIdx i, v := x } gt bm tc es ck wv' ∧ Keeps B own w own ((w2.setCell ⟨g, 5, none⟩ wv').setCell ⟨g, 4, none⟩ (.int .i64 x)) := by
  obtain ⟨n1, n2, n3⟩ := h.ne
  obtain ⟨r1, r2, r3⟩ := h.rne r hwv
  have lg := h.blk.lt
  have lt := h.tb.lt
  have lm := h.mp.blt
  have e2 : ∀ b, b < w.heap.size → b ≠ r → w2.heap[b]? = w.heap[b]? := fun b hb hne => g2.block b hb fun e => hne (Option.some.inj e)
  have fin : ∀ b, b < w.heap.size → b ≠ r → b ≠ g → ((w2.setCell ⟨g, 5, none⟩ wv').setCell ⟨g, 4, none⟩ (.int .i64 x)).heap[b]? = w.heap[b]? := fun b hb hne hng =>
    (Below.heap_setCell (w2.setCell ⟨g, 5, none⟩ wv') ⟨g, 4, none⟩ _ b hng).trans ((Below.heap_setCell w2 ⟨g, 5, none⟩ _ b hng).trans (e2 b hb hne))
  have og : own g := (h.o g).2 (.inl rfl)
  refine ⟨{ blk := ?_, tb := h.tb.same (fin gt lt r2.symm n1.symm), ts := h.ts, tt := h.tt, mp := h.mp.same (fin bm lm r3.symm n2.symm), row := ?_, hB := h.hB, ne := h.ne, rne := fun b hb => by rw [hv] at hb; obtain rfl := Option.some.inj hb; exact ⟨r1, r2, r3⟩, o := fun b => by rw [h.o b, hwv, hv] }, ?_⟩
  · have b2 : Blk w2 g 286 #[vp, vw, .slice (some ⟨gt, 0, none⟩) n n, .map (some bm), .int .i64 s.v, wv] := h.blk.same (e2 g lg r1.symm)
    exact (b2.set_ 5 wv').set_ 4 (.int .i64 x)
  · exact row_same hr fun b hb => by
      rw [hv] at hb
      obtain rfl := Option.some.inj hb
      exact (Below.heap_setCell (w2.setCell ⟨g, 5, none⟩ wv') ⟨g, 4, none⟩ _ r r1).trans (Below.heap_setCell w2 ⟨g, 5, none⟩ _ r r1)
  · exact keepsSet (keepsSet (keepsGrown_ (keepsRefl B own w) g2 (fun b hb => by obtain rfl := Option.some.inj hb; exact ⟨(h.o _).2 (.inr (.inr (.inr hwv))), (h.row.lt _ hwv).1⟩) h.size_) (a := ⟨g, 5, none⟩) og h.hB.1 _) (a := ⟨g, 4, none⟩) og h.hB.1 _
set_option maxHeartbeats 1000000 in
theorem fpick_none (B g n : Nat) (vp vw : Value) (w : World) (own : Nat → Prop) (s : FS) (gt bm : Nat) (tc : Array Value) (es : Array MapEntry) (ck : Nat) (wv : Value) (h : FMem B g vp vw n w own s gt bm tc es ck wv) (hs : s.w = []) :
    Calls Tryz.prog 202 #[.pointer (some ⟨g, 0, none⟩)] w fun e w' => e = .returned (.tuple #[.int .i64 0, .bool false]) ∧ w = w' := by
  have hr := h.row
  rw [hs] at hr
  obtain ⟨A, c, rfl⟩ : ∃ A c, wv = .slice A 0 c := by
    rcases hr.2 with ⟨h1, _⟩ | ⟨g', cap, cur, h1, _⟩
    · exact ⟨_, _, h1⟩
    · exact ⟨_, _, h1⟩
  have e5 : w.cell? ⟨g, 5, none⟩ = some (.slice A 0 c) := h.at_ 5
  clear h hs hr
  go_enter Tryz.func202, Tryz.ntmps202
  go_wp2_with fail
  go_ret2
  exact ⟨rfl, rfl⟩
set_option maxHeartbeats 2000000 in
theorem fpick_some (B g n : Nat) (vp vw : Value) (w : World) (own : Nat → Prop) (s : FS) (gt bm : Nat) (tc : Array Value) (es : Array MapEntry) (ck : Nat) (wv : Value) (h : FMem B g vp vw n w own s gt bm tc es ck wv) (hs : 0 < s.w.length) (hn : s.w.length ≤ 1000) (htb : ∀ j ∈ s.w, 0 ≤ s.tg j ∧ s.tg j ≤ 9223372036854775807) :
    Calls Tryz.prog 202 #[.pointer (some ⟨g, 0, none⟩)] w fun e w' => e = .returned (.tuple #[.int .i64 (fBest s), .bool true]) ∧ ∃ wv', FMem B g vp vw n w' own { s with w := s.w.eraseIdx (bestI s.tg s.w), v := s.tg (fBest s) } gt bm tc es ck wv' ∧ Keeps B own w own w' := by
  obtain ⟨r, cap, rfl⟩ : ∃ r cap, wv = .slice (some ⟨r, 0, none⟩) s.w.length cap := by
    rcases h.row.2 with ⟨_, h1⟩ | ⟨g', cap, cur, h1, _⟩
    · omega
    · exact ⟨_, _, h1⟩
  obtain ⟨N, hN⟩ : ∃ N, N = s.w.length := ⟨_, rfl⟩
  have HN := Lib.hid hN
  rw [← hN] at h hs hn
  have e5 : w.cell? ⟨g, 5, none⟩ = some (.slice (some ⟨r, 0, none⟩) N cap) := h.at_ 5
  have ne0 : ((N : Int) == 0) = false := beq_eq_false_iff_ne.2 (by omega)
  have HH := Lib.hid h
  clear hN h
  go_enter Tryz.func202, Tryz.ntmps202
  go_wp2_with fail
  go_loopw [4, 19] (fun bv iv wr => ∃ b i : Nat, bv = .int .i64 b ∧ iv = .int .i64 i ∧ b < N ∧ i ≤ N ∧ bestI s.tg s.w = bestGo s.tg b (s.tg (s.w.getD b 0)) i (s.w.drop i) ∧ FMem B g vp vw n wr own s gt bm tc es ck (.slice (some ⟨r, 0, none⟩) N cap) ∧ Keeps B own w own wr) (fun _ iv _ => N - (intOf iv).toNat)
  case atStart => exact ⟨0, 0, rfl, rfl, hs, Nat.zero_le _, rfl, HH.out, keepsRefl _ _ _⟩
  case round =>
    obtain ⟨b, i, rfl, rfl, hb, hi, hbest, hm, hk⟩ := hrel
    have cellsAt : ∀ (W : World) (j : Nat), FMem B g vp vw n W own s gt bm tc es ck (.slice (some ⟨r, 0, none⟩) N cap) → (hj : j < s.w.length) → W.cell? ⟨r, j * 2, none⟩ = some (.int .i64 (s.w[j] : Int)) ∧ W.cell? ⟨r, j * 2 + 1, none⟩ = some (.int .i64 (s.tg s.w[j])) := fun W j hM hj => by
      have hc := hM.row.cells (g := r) rfl
      obtain ⟨a1, a2⟩ := aCs_get s.tg s.w hj
      have c1 := hc _ _ a1
      have c2 := hc _ _ a2
      rw [add_mk, Nat.zero_add] at c1 c2
      exact ⟨c1, c2⟩
    have hg5 : wr.cell? ⟨g, 5, none⟩ = some (.slice (some ⟨r, 0, none⟩) N cap) := hm.at_ 5
    have hbl : b < s.w.length := by rw [← HN.out]; exact hb
    have p1 : (0 : Int) ≤ (i : Int) := by omega
    have p3 : (0 : Int) ≤ (b : Int) := by omega
    have p4 : (b : Int) < (N : Int) := by omega
    have egB : s.w.getD b 0 = s.w[b] := by simp [List.getD, hbl]
    by_cases hlt : i < N
    · have hil : i < s.w.length := by rw [← HN.out]; exact hlt
      have p2 : (i : Int) < (N : Int) := by omega
      have hst := bestGo_one s.tg s.w b i (s.tg (s.w.getD b 0)) hil
      obtain ⟨c0, c1⟩ := cellsAt wr i hm hil
      obtain ⟨kI, hkI⟩ : ∃ kI, kI = s.tg s.w[i] := ⟨_, rfl⟩
      obtain ⟨kB, hkB⟩ : ∃ kB, kB = s.tg s.w[b] := ⟨_, rfl⟩
      obtain ⟨li, hli⟩ : ∃ li : Nat, li = s.w[i] := ⟨_, rfl⟩
      rw [← hkI] at c1
      rw [← hli] at c0
      obtain ⟨X, hX⟩ : ∃ X : World, X = wr.alloc (.cells #[.int .i64 (li : Int), .int .i64 kI] 304) := ⟨_, rfl⟩
      have mX : FMem B g vp vw n X own s gt bm tc es ck (.slice (some ⟨r, 0, none⟩) N cap) := by rw [hX]; exact hm.alloc _
      have kX : Keeps B own w own X := by rw [hX]; exact keepsAlloc hk hm.size_ _
      have xn : X.cell? ⟨wr.heap.size, 1, none⟩ = some (.int .i64 kI) := by rw [hX]; exact (Blk.new wr 304 #[.int .i64 (li : Int), .int .i64 kI]).cell 1
      have x5 : X.cell? ⟨g, 5, none⟩ = some (.slice (some ⟨r, 0, none⟩) N cap) := mX.at_ 5
      have xb := (cellsAt X b mX hbl).2
      rw [← hkB] at xb
      rw [egB, ← hkI, ← hkB] at hst
      rw [egB, ← hkB] at hbest
      rw [hst] at hbest
      have HX := Lib.hid hX
      have MX := Lib.hid mX
      have KX := Lib.hid kX
      have egI : s.w.getD i 0 = s.w[i] := by simp [List.getD, hil]
      have EI := Lib.hid (show s.tg (s.w.getD i 0) = kI by rw [egI, hkI])
      have EB := Lib.hid (show s.tg (s.w.getD b 0) = kB by rw [egB, hkB])
      by_cases hc : kI < kB
      · rw [if_pos hc] at hbest
        have Hb := Lib.hid hbest
        clear hst hbest hX mX kX hli hkI hkB egB egI hm hk cellsAt hbl hil
        go_wp2_with fail
        rw [← HX.out]
        go_quiet (fail)
        rename Nat => nq
        go_wp2_with fail
        go_roundw
        case rel => exact ⟨i, i + 1, rfl, by go_num, hlt, hlt, by rw [EI.out]; exact Hb.out, MX.out.drewN nq, keepsDrewN_ KX.out nq⟩
        case measure => simp [intOf]; omega
      · rw [if_neg hc] at hbest
        have Hb := Lib.hid hbest
        clear hst hbest hX mX kX hli hkI hkB egB egI hm hk cellsAt hbl hil
        go_wp2_with fail
        rw [← HX.out]
        go_quiet (fail)
        rename Nat => nq
        go_wp2_with fail
        go_roundw
        case rel => exact ⟨b, i + 1, rfl, by go_num, hb, hlt, by rw [EB.out]; exact Hb.out, MX.out.drewN nq, keepsDrewN_ KX.out nq⟩
        case measure => simp [intOf]; omega
    · have hbi : bestI s.tg s.w = b := by rw [hbest, List.drop_eq_nil_of_le (by rw [← HN.out]; omega)]; rfl
      obtain ⟨c0, c1⟩ := cellsAt wr b hm hbl
      obtain ⟨kB, hkB⟩ : ∃ kB, kB = s.tg s.w[b] := ⟨_, rfl⟩
      obtain ⟨lb, hlb⟩ : ∃ lb : Nat, lb = s.w[b] := ⟨_, rfl⟩
      rw [← hkB] at c1
      rw [← hlb] at c0
      have hfb : fBest s = lb := by unfold fBest; rw [hbi, egB, hlb]
      have htgb : s.tg (fBest s) = kB := by rw [hfb, hlb, hkB]
      obtain ⟨X, hX⟩ : ∃ X : World, X = wr.alloc (.cells #[.int .i64 (lb : Int), .int .i64 kB] 304) := ⟨_, rfl⟩
      have mX : FMem B g vp vw n X own s gt bm tc es ck (.slice (some ⟨r, 0, none⟩) N cap) := by rw [hX]; exact hm.alloc _
      have kX : Keeps B own w own X := by rw [hX]; exact keepsAlloc hk hm.size_ _
      have nX : Blk X wr.heap.size 304 #[.int .i64 (lb : Int), .int .i64 kB] := by rw [hX]; exact Blk.new _ _ _
      have x5 : X.cell? ⟨g, 5, none⟩ = some (.slice (some ⟨r, 0, none⟩) N cap) := mX.at_ 5
      have hrow := mX.row
      rw [← HN.out] at hrow
      have hdel := fdel_any B r N cap b s.tg s.w X hrow HN.out.symm hb hn
      have Hdel := Lib.hid hdel
      have HX := Lib.hid hX
      have MX := Lib.hid mX
      have KX := Lib.hid kX
      have NX := Lib.hid nX
      have HBI := Lib.hid hbi
      have s1 : (b : Int) + 1 ≤ 9223372036854775807 := by omega
      have hrb := hm.rne r rfl
      have rl := (hm.row.lt r rfl).2
      have gl := hm.blk.lt
      have Hfb := Lib.hid hfb
      have Htgb := Lib.hid htgb
      clear hbest hbi hX mX kX nX hrow hdel hkB hlb hfb htgb egB hm cellsAt hbl
      go_wp2_with fail
      rw [← HX.out]
      refine Hdel.out.mono ?_
      rintro e w2 ⟨rfl, hr2, g2⟩
      have hle : (s.w.eraseIdx b).length = N - 1 := by rw [List.length_eraseIdx, if_pos (by rw [← HN.out]; exact hb), ← HN.out]
      rw [← hle] at hr2
      have hfin := MX.out.pick_ (x := kB) (i := b) rfl hr2 g2 rfl
      have sz := g2.size
      have e2 : ∀ q, q < X.heap.size → q ≠ r → w2.heap[q]? = X.heap[q]? := fun q hq hne => g2.block q hq fun e => hne (Option.some.inj e)
      have nx := NX.out.lt
      have gx := MX.out.blk.lt
      have hne1 : wr.heap.size ≠ r := by omega
      have hne2 : g ≠ wr.heap.size := by omega
      have hbg : Blk w2 g 286 _ := MX.out.blk.same (e2 g gx hrb.1.symm)
      have hbn : Blk w2 wr.heap.size 304 _ := NX.out.same (e2 _ nx hne1)
      have g5 : w2.cell? ⟨g, 5, none⟩ = some (.slice (some ⟨r, 0, none⟩) N cap) := hbg.cell 5
      have f5 := hbg.frozen 5
      have hbg2 := hbg.set_ 5 (.slice (some ⟨r, 0, none⟩) (N - 1) cap)
      have hbn2 := hbn.far (p := ⟨g, 5, none⟩) hne2.symm (.slice (some ⟨r, 0, none⟩) (N - 1) cap)
      have g4 : (w2.setCell ⟨g, 5, none⟩ (.slice (some ⟨r, 0, none⟩) (N - 1) cap)).cell? ⟨g, 4, none⟩ = some (.int .i64 s.v) := hbg2.cell 4
      have f4 := hbg2.frozen 4
      have n1 : (w2.setCell ⟨g, 5, none⟩ (.slice (some ⟨r, 0, none⟩) (N - 1) cap)).cell? ⟨wr.heap.size, 1, none⟩ = some (.int .i64 kB) := hbn2.cell 1
      have hbn3 := hbn2.far (p := ⟨g, 4, none⟩) hne2.symm (.int .i64 kB)
      have n0 : ((w2.setCell ⟨g, 5, none⟩ (.slice (some ⟨r, 0, none⟩) (N - 1) cap)).setCell ⟨g, 4, none⟩ (.int .i64 kB)).cell? ⟨wr.heap.size, 0, none⟩ = some (.int .i64 (lb : Int)) := hbn3.cell 0
      have Hfin := Lib.hid hfin
      have Hle := Lib.hid hle
      clear hfin hr2 g2 e2 hbg hbn hbg2 hbn2 hbn3 hle
      go_wp2_with fail
      go_ret2
      rw [Hfb.out, HBI.out]
      obtain ⟨f1, f2⟩ := Hfin.out
      rw [Hle.out] at f1 f2
      rw [Hfb.out] at Htgb
      rw [Htgb.out]
      exact ⟨rfl, _, f1, keeps_trans KX.out f2⟩
end Go.Proofs.YtoomffajodheaaaGreatDoor
namespace Go.Proofs.YtoomffajodheaaaGreatDoor
open Go.RowKit
set_option maxRecDepth 100000
theorem FMem.rest_ {B g : Nat} {vp vw : Value} {n : Nat} {w : World} {own : Nat → Prop} {s : FS} {gt bm : Nat} {tc : Array Value} {es : Array MapEntry} {ck : Nat} {wv : Value} (h : FMem B g vp vw n w own s gt bm tc es ck wv) (c0 : Nat) :
    FMem B g vp vw n (((w.alloc (.map #[] c0)).setCell ⟨g, 4, none⟩ (.int .i64 0)).setCell ⟨g, 3, none⟩ (.map (some w.heap.size))) (fun b => b = g ∨ b = gt ∨ b = w.heap.size ∨ wv.ownBlock = some b) (fRest s) gt w.heap.size tc #[] c0 wv ∧
      Keeps B own w (fun b => b = g ∨ b = gt ∨ b = w.heap.size ∨ wv.ownBlock = some b) (((w.alloc (.map #[] c0)).setCell ⟨g, 4, none⟩ (.int .i64 0)).setCell ⟨g, 3, none⟩ (.map (some w.heap.size))) := by
  obtain ⟨n1, n2, n3⟩ := h.ne
  have lg := h.blk.lt
  have lt := h.tb.lt
  have hM := h.alloc (.map #[] c0)
  have fin : ∀ b, b ≠ g → (((w.alloc (.map #[] c0)).setCell ⟨g, 4, none⟩ (.int .i64 0)).setCell ⟨g, 3, none⟩ (.map (some w.heap.size))).heap[b]? = (w.alloc (.map #[] c0)).heap[b]? := fun b hb =>
    (Below.heap_setCell ((w.alloc (.map #[] c0)).setCell ⟨g, 4, none⟩ (.int .i64 0)) ⟨g, 3, none⟩ _ b hb).trans (Below.heap_setCell (w.alloc (.map #[] c0)) ⟨g, 4, none⟩ _ b hb)
  have og : own g := (h.o g).2 (.inl rfl)
  refine ⟨{ blk := (hM.blk.set_ 4 (.int .i64 0)).set_ 3 (.map (some w.heap.size)), tb := hM.tb.same (fin gt n1.symm), ts := h.ts, tt := h.tt, mp := MapI.new_ ((fin _ (by omega)).trans (heap_alloc_new w _)), row := row_same hM.row fun b hb => fin b (h.rne b hb).1, hB := ⟨h.hB.1, h.hB.2.1, h.size_⟩, ne := ⟨n1, by omega, by omega⟩, rne := fun b hb => ⟨(h.rne b hb).1, (h.rne b hb).2.1, by have := (h.row.lt b hb).2; omega⟩, o := fun b => Iff.rfl }, keepsOwn_ (keepsSet (keepsSet (keepsAlloc (keepsRefl B own w) h.size_ _) (a := ⟨g, 4, none⟩) og h.hB.1 _) (a := ⟨g, 3, none⟩) og h.hB.1 _) fun b hb => ?_⟩
  rcases hb with h1 | h1 | h1 | h1
  · exact .inl ((h.o b).2 (.inl h1))
  · exact .inl ((h.o b).2 (.inr (.inl h1)))
  · exact .inr (by omega)
  · exact .inl ((h.o b).2 (.inr (.inr (.inr h1))))
set_option maxHeartbeats 1000000 in
theorem frest_any (B g n : Nat) (vp vw : Value) (w : World) (own : Nat → Prop) (s : FS) (gt bm : Nat) (tc : Array Value) (es : Array MapEntry) (ck : Nat) (wv : Value) (h : FMem B g vp vw n w own s gt bm tc es ck wv) :
    Calls Tryz.prog 203 #[.pointer (some ⟨g, 0, none⟩)] w fun e w' => e = .returned (.tuple #[]) ∧ ∃ own' bm' es' ck', FMem B g vp vw n w' own' (fRest s) gt bm' tc es' ck' wv ∧ Keeps B own w own' w' := by
  have hmm := @run_makeMap Tryz.prog
  have x4 : w.cell? ⟨g, 4, none⟩ = some (.int .i64 s.v) := h.at_ 4
  have x3 : w.cell? ⟨g, 3, none⟩ = some (.map (some bm)) := h.at_ 3
  have z4 := h.blk.frozen 4
  have z3 := h.blk.frozen 3
  have hM := h.alloc (.map #[] 0)
  have a3 : (w.alloc (.map #[] 0)).cell? ⟨g, 3, none⟩ = some (.map (some bm)) := hM.at_ 3
  have q3 := hM.blk.frozen 3
  have a4 : (w.alloc (.map #[] 0)).cell? ⟨g, 4, none⟩ = some (.int .i64 s.v) := hM.at_ 4
  have q4 := hM.blk.frozen 4
  have b4 := h.blk.set_ 4 (.int .i64 0)
  have y3 : (w.setCell ⟨g, 4, none⟩ (.int .i64 0)).cell? ⟨g, 3, none⟩ = some (.map (some bm)) := b4.cell 3
  have v3 := b4.frozen 3
  have c4 := b4.alloc (.map #[] 0)
  have t3 : ((w.setCell ⟨g, 4, none⟩ (.int .i64 0)).alloc (.map #[] 0)).cell? ⟨g, 3, none⟩ = some (.map (some bm)) := c4.cell 3
  have w3 := c4.frozen 3
  have HH := Lib.hid h
  clear h hM b4 c4
  go_enter Tryz.func203, Tryz.ntmps203
  go_wp2_with fail
  go_end0
  obtain ⟨h1, h2⟩ := HH.out.rest_ 0
  exact ⟨rfl, _, _, _, _, h1, h2⟩
end Go.Proofs.YtoomffajodheaaaGreatDoor
