/- Package round: does a flow wait? Conditions: what was sent names packets that there are. -/
import Derived.Test.YtkkecnofgmpekaaDoorDelays
import Derived.Test.YtkkecnofgmpekaaDoorBools
import Derived.Test.YtkkecnofgmpekaaDoorSprPlain
import Derived.Test.YtkkecnofgmpekaaDoorRankB
import Derived.Test.YtkkecnofgmpekaaDoorLeastOf
namespace Go.Proofs.YtkkecnofgmpekaaDoor
open Go.RowKit
set_option maxRecDepth 100000
def wtY (p : List Pk) (f : Nat) (x : Int) (y : Sn) : Bool := decide (flS p y = f ∧ aOf p y.p.toNat ≤ x)
theorem wait1_any (f : Nat) (x y : Sn) (A : Option Addr) (c : Nat) (p : List Pk) (bp bf bx : Nat) (w : World) (B : Nat) (hp : RdP w B A p) (hpk : ∀ x ∈ p, okPk x) (h1 : Blk w bp 22 #[.slice A p.length c]) (h2 : Blk w bf 3 #[.int .i64 (f : Int)]) (h3 : Blk w bx 34 #[.int .i64 x.p, .int .i64 x.f, .int .i64 x.t]) (hy0 : 0 ≤ y.p) (hy : y.p.toNat < p.length) :
    Calls Tryd.prog 78 #[.agg #[.int .i64 y.p, .int .i64 y.f, .int .i64 y.t], .pointer (some ⟨bp, 0, none⟩), .pointer (some ⟨bf, 0, none⟩), .pointer (some ⟨bx, 0, none⟩)] w fun e w' => e = .returned (.bool (wtY p f x.f y)) ∧ Below w.heap.size w w' := by
  obtain ⟨k, hk⟩ : ∃ k : Nat, y.p = k := ⟨y.p.toNat, by omega⟩
  have hkl : k < p.length := by rw [hk, Int.toNat_natCast] at hy; exact hy
  have kv := (Below.refl w.heap.size w).alloc (Nat.le_refl _) (.cells #[.int .i64 y.p, .int .i64 y.f, .int .i64 y.t] 34)
  obtain ⟨b, o, rfl, hb, d0, d1, d2⟩ := RdP.get hp hkl
  have hok := hpk _ (List.getElem_mem hkl)
  obtain ⟨g, hg⟩ : ∃ g : Nat, p[k].f = g := ⟨p[k].f.toNat, by have := hok.1; omega⟩
  have hwt : wtY p f x.f y = decide (g = f ∧ p[k].a ≤ x.f) := by
    unfold wtY flS
    rw [hk, Int.toNat_natCast, aOf_of hkl, fOf_of hkl, hg, Int.toNat_natCast]
  rw [hg] at d0
  obtain ⟨v, hv⟩ : ∃ v : World, v = w.alloc (.cells #[.int .i64 y.p, .int .i64 y.f, .int .i64 y.t] 34) := ⟨_, rfl⟩
  rw [← hv] at kv
  have old : ∀ (q : Addr) (u : Value), w.cell? q = some u → v.cell? q = some u := fun q u hq => by
    have hl : q.block < w.heap.size := World.block_lt_of_cell? _ _ hq
    exact (kv.cell (p := q) hl).trans hq
  have e0 := old _ _ (h1.cell 0)
  have e1 := old _ _ (h2.cell 0)
  have e2 := old _ _ (h3.cell 1)
  have f0 := old _ _ d0
  have f2 := old _ _ d2
  have z0 : v.cell? ⟨w.heap.size, 0, none⟩ = some (.int .i64 (k : Int)) := by rw [hv, ← hk]; exact (Blk.new w 34 #[.int .i64 y.p, .int .i64 y.f, .int .i64 y.t]).cell 0
  have q1 : (0 : Int) ≤ (k : Int) := by omega
  have q2 : (k : Int) < (p.length : Int) := by omega
  have Hv := Lib.hid hv
  clear hk hy0 hy hv d0 d1 d2 h1 h2 h3 hok hg
  by_cases hgf : g = f
  · subst hgf
    have Hwt := Lib.hid (show wtY p g x.f y = decide (p[k].a ≤ x.f) by rw [hwt]; simp)
    clear hwt
    have hb1 : ((g : Int) == (g : Int)) = true := by simp
    go_enter Tryd.func78, Tryd.ntmps78
    go_wp2_with fail
    rw [← Hv.out]
    go_quiet (fail)
    rename Nat => nq
    go_wp2_with fail
    go_ret
    exact ⟨ret_bool (by rw [Hwt.out]), below_drewN kv nq⟩
  · have Hwt := Lib.hid (show wtY p f x.f y = false by rw [hwt]; simp [hgf])
    clear hwt
    have hb1 : ((g : Int) == (f : Int)) = false := by simp; omega
    go_enter Tryd.func78, Tryd.ntmps78
    go_wp2_with fail
    rw [← Hv.out]
    go_quiet (fail)
    rename Nat => nq
    go_wp2_with fail
    go_ret
    exact ⟨ret_bool (by rw [Hwt.out]), below_drewN kv nq⟩
def wIdx (p : List Pk) (f : Nat) (x : Int) : List Sn → Nat → Int
  | [], _ => -1
  | y :: r, k => if wtY p f x y then k else wIdx p f x r (k + 1)
theorem wIdx_any (p : List Pk) (f : Nat) (x : Int) (l : List Sn) (k : Nat) : decide (0 ≤ wIdx p f x l k) = l.any (wtY p f x) := by
  induction l generalizing k with
  | nil => rfl
  | cons y r ih =>
    unfold wIdx
    rw [List.any_cons]
    cases hy : wtY p f x y
    · simp only [Bool.false_eq_true, if_false, Bool.false_or]; exact ih (k + 1)
    · simp only [if_true, Bool.true_or]; exact decide_eq_true (Int.natCast_nonneg k)
theorem widx_any (f : Nat) (x : Sn) (A A' : Option Addr) (c c' : Nat) (p : List Pk) (l : List Sn) (bp bf bx : Nat) (w : World) (B : Nat) (hB : B ≤ w.heap.size) (hp : RdP w B A p) (hl : RdS w B A' l) (hpk : ∀ x ∈ p, okPk x) (h1 : Blk w bp 22 #[.slice A p.length c]) (h2 : Blk w bf 3 #[.int .i64 (f : Int)]) (h3 : Blk w bx 34 #[.int .i64 x.p, .int .i64 x.f, .int .i64 x.t]) (hy : ∀ y ∈ l, 0 ≤ y.p ∧ y.p.toNat < p.length) (hll : l.length ≤ 4294967296) :
    Calls Tryd.prog 87 #[.slice A' l.length c', .func (.func 78) #[] #[.pointer (some ⟨bp, 0, none⟩), .pointer (some ⟨bf, 0, none⟩), .pointer (some ⟨bx, 0, none⟩)]] w fun e w' => e = .returned (.int .i64 (wIdx p f x.f l 0)) ∧ Below w.heap.size w w' := by
  have H1 := Lib.hid h1
  have H2 := Lib.hid h2
  have H3 := Lib.hid h3
  have l1 := h1.lt
  have l2 := h2.lt
  have l3 := h3.lt
  clear h1 h2 h3
  go_enter Tryd.func87, Tryd.ntmps87
  go_wp2
  go_loopw [5, 8] (fun _ i wr => ∃ k : Nat, k ≤ l.length ∧ i = .int .i64 k ∧ wIdx p f x.f l 0 = wIdx p f x.f (l.drop k) k ∧ Below w.heap.size w wr) (fun _ i _ => l.length - (intOf i).toNat)
  case atStart => exact ⟨0, Nat.zero_le _, rfl, rfl, Below.refl _ _⟩
  case round =>
    obtain ⟨k, hk, rfl, hbad, hbw⟩ := hrel
    by_cases hlt : k < l.length
    · obtain ⟨q, o, rfl, hq, d0, d1, d2⟩ := RdS.get (hl.below (hbw.mono hB)) hlt
      rw [List.drop_eq_getElem_cons hlt] at hbad
      have hyk := hy _ (List.getElem_mem hlt)
      have q1 : (0 : Int) ≤ (k : Int) := by omega
      have q2 : (k : Int) < (l.length : Int) := by omega
      obtain ⟨y, hyy⟩ : ∃ y, y = l[k] := ⟨_, rfl⟩
      rw [← hyy] at hbad hyk d0 d1 d2
      have Hbad := Lib.hid hbad
      have Hy := Lib.hid hyk
      clear hbad hyy hyk
      go_wp2_with fail
      refine (wait1_any f x y A c p bp bf bx _ B (hp.below (hbw.mono hB)) hpk (H1.out.below hbw l1) (H2.out.below hbw l2) (H3.out.below hbw l3) Hy.out.1 Hy.out.2).mono ?_
      rintro e w1 ⟨rfl, hb1⟩
      have kk := hbw.trans (hb1.mono hbw.size)
      cases hx : wtY p f x.f y
      · have Hx := Lib.hid hx; clear hx
        go_wp2_with fail
        go_roundw
        case rel => exact ⟨k + 1, by omega, by go_num, by rw [Hbad.out]; simp [wIdx, Hx.out], kk⟩
        case measure => simp [intOf]; omega
      · have Hx := Lib.hid hx; clear hx
        go_wp2_with fail
        go_ret
        exact ⟨ret_int (by rw [Hbad.out]; simp [wIdx, Hx.out]), kk⟩
    · rw [List.drop_eq_nil_of_le (by omega)] at hbad
      have Hbad := Lib.hid hbad
      clear hbad
      go_wp2_with fail
      go_ret
      exact ⟨ret_int (by rw [Hbad.out]; rfl), hbw⟩
theorem wcontains_any (f : Nat) (x : Sn) (A A' : Option Addr) (c c' : Nat) (p : List Pk) (l : List Sn) (bp bf bx : Nat) (w : World) (B : Nat) (hB : B ≤ w.heap.size) (hp : RdP w B A p) (hl : RdS w B A' l) (hpk : ∀ x ∈ p, okPk x) (h1 : Blk w bp 22 #[.slice A p.length c]) (h2 : Blk w bf 3 #[.int .i64 (f : Int)]) (h3 : Blk w bx 34 #[.int .i64 x.p, .int .i64 x.f, .int .i64 x.t]) (hy : ∀ y ∈ l, 0 ≤ y.p ∧ y.p.toNat < p.length) (hll : l.length ≤ 4294967296) :
    Calls Tryd.prog 77 #[.slice A' l.length c', .func (.func 78) #[] #[.pointer (some ⟨bp, 0, none⟩), .pointer (some ⟨bf, 0, none⟩), .pointer (some ⟨bx, 0, none⟩)]] w fun e w' => e = .returned (.bool (wtB p f x l)) ∧ Below w.heap.size w w' := by
  have Hw := Lib.hid (show decide (0 ≤ wIdx p f x.f l 0) = wtB p f x l from wIdx_any p f x.f l 0)
  go_enter Tryd.func77, Tryd.ntmps77
  go_wp2_with fail
  refine (widx_any f x A A' c c' p l bp bf bx w B hB hp hl hpk h1 h2 h3 hy hll).mono ?_
  rintro e w1 ⟨rfl, hb⟩
  go_wp2_with fail
  go_ret
  exact ⟨ret_bool (by rw [← Hw.out]), hb⟩
theorem boolRow_setB (d : Nat → Bool) (n k : Nat) (b : Bool) : (boolRow d n).set k (.bool b) = boolRow (fun j => if j = k then b else d j) n := by
  apply List.ext_getElem?
  intro j
  rw [List.getElem?_set]
  by_cases h : j < n
  · rw [boolRow_get (fun j => if j = k then b else d j) h, boolRow_len]
    by_cases hk : k = j
    · subst hk
      rw [if_pos rfl, if_pos h, if_pos rfl]
    · rw [if_neg hk, if_neg (fun e => hk e.symm), boolRow_get _ h]
  · rw [List.getElem?_eq_none (l := boolRow (fun j => if j = k then b else d j) n) (by rw [boolRow_len]; omega)]
    split
    · rw [if_neg (by rw [boolRow_len]; omega)]
    · exact List.getElem?_eq_none (by rw [boolRow_len]; omega)
theorem BRow.setB {w : World} {base tB g n : Nat} {d : Nat → Bool} (h : BRow w base tB g n d) (k : Nat) (b : Bool) : BRow (w.setCell ⟨g, k, none⟩ (.bool b)) base tB g n (fun j => if j = k then b else d j) := by
  have := (h.stored k (.bool b)).1
  rw [boolRow_setB] at this
  exact this
theorem BRow.cong {w : World} {base tB g n : Nat} {d d' : Nat → Bool} (h : BRow w base tB g n d) (hd : ∀ j, j < n → d j = d' j) : BRow w base tB g n d' := by
  unfold BRow at h ⊢
  rw [← boolRow_congr hd]; exact h
def snAt (l : List Sn) (j : Nat) : Sn := l.getD j ⟨0, 0, 0⟩
def wtD (p : List Pk) (f : Nat) (l : List Sn) (j : Nat) : Bool := wtB p f (snAt l j) (l.drop (j + 1))
theorem RdS.drop_ {w : World} {B : Nat} {q o : Nat} {c : Nat} {l : List Sn} (h : RdS w B (some ⟨q, o, none⟩) l) (hc : l.length ≤ c) (k : Nat) : RdS w B (if c = k then some ⟨q, o, none⟩ else some ⟨q, o + k * 3, none⟩) (l.drop k) := by
  intro h0
  rw [List.length_drop] at h0
  rw [if_neg (by omega)]
  obtain ⟨b, o', e, hb, hf⟩ := h (by omega)
  simp only [Option.some.injEq, Addr.mk.injEq, and_true] at e
  obtain ⟨rfl, rfl⟩ := e
  refine ⟨q, o + k * 3, rfl, hb, fun i x hi j v hj => ?_⟩
  rw [List.getElem?_drop] at hi
  have := hf (k + i) x hi j v hj
  rw [show o + (k + i) * 3 + j = o + k * 3 + i * 3 + j by omega] at this
  exact this
set_option maxHeartbeats 1000000 in
theorem rwaits_any (f : Nat) (A A' : Option Addr) (c c' : Nat) (p : List Pk) (l : List Sn) (w : World) (B : Nat) (hB : B ≤ w.heap.size) (hp : RdP w B A p) (hl : RdS w B A' l) (hpk : ∀ x ∈ p, okPk x) (hy : ∀ y ∈ l, 0 ≤ y.p ∧ y.p.toNat < p.length) (hll : l.length ≤ 4294967296) (hc : l.length ≤ c') :
    Calls Tryd.prog 62 #[.slice A p.length c, .slice A' l.length c', .int .i64 (f : Int)] w fun e w' => ∃ g, e = .returned (.slice (some ⟨g, 0, none⟩) l.length l.length) ∧ BRow w' w.heap.size 4 g l.length (wtD p f l) ∧ Below w.heap.size w w' := by
  obtain ⟨i1, hi1, hy0, hy1, hy2⟩ := info_parts infoBool2
  obtain ⟨wa, hwa⟩ : ∃ wa : World, wa = (w.alloc (.cells #[.slice A p.length c] 22)).alloc (.cells #[.int .i64 (f : Int)] 3) := ⟨_, rfl⟩
  have ba : Below w.heap.size w wa := by rw [hwa]; exact ((Below.refl _ _).alloc (Nat.le_refl _) _).alloc (by simp) _
  have sa : wa.heap.size = w.heap.size + 2 := by rw [hwa]; simp
  have H1 : Hid (Blk wa w.heap.size 22 #[.slice A p.length c]) := Lib.hid (by rw [hwa]; exact (Blk.new _ _ _).alloc _)
  have H2 : Hid (Blk wa (w.heap.size + 1) 3 #[.int .i64 (f : Int)]) := Lib.hid (by rw [hwa]; exact heap_alloc_new2 _ _ _)
  have Hwa := Lib.hid hwa
  have Hsa := Lib.hid sa
  have sa1 : w.heap.size ≤ wa.heap.size := by omega
  clear hwa sa
  go_enter Tryd.func62, Tryd.ntmps62
  go_wp2_with (at_make; rw [← Hwa.out]; refine wpList_make_full _ rfl (.tmp 11) (.tmp 11) 37 rfl wa.heap.size 4 i1 (.bool false) 1 Tryd.underlying37 hi1 hy0 hy1 .i64 .i64 l.length l.length l.length rfl rfl rfl rfl (by rw [hy2]; omega) (by simp only [maxLen]; omega) (Nat.le_refl _) ?_; intro w1 row1 g1; rw [boolRow_new] at row1; have k1 : Below wa.heap.size wa w1 := (Below.refl _ _).grown g1 (Nat.le_refl _) (by simp); have s1 : wa.heap.size < w1.heap.size := own_lt row1 _ rfl)
  go_loopw [15] (fun i wr => ∃ k : Nat, k ≤ l.length ∧ i = .int .i64 k ∧ BRow wr wa.heap.size 4 wa.heap.size l.length (fun j => if j < k then wtD p f l j else false) ∧ Below wa.heap.size wa wr) (fun i _ => l.length - (intOf i).toNat)
  case atStart => exact ⟨0, Nat.zero_le _, rfl, BRow.cong row1 (fun j _ => by simp), k1⟩
  case round =>
    obtain ⟨k, hk, rfl, row, hbw⟩ := hrel
    have Row := Lib.hid row
    have hsr : wa.heap.size < wr.heap.size := own_lt row _ rfl
    clear row row1
    by_cases hlt : k < l.length
    · obtain ⟨q, o, rfl, hq, d0, d1, d2⟩ := RdS.get (hl.below ((ba.trans (hbw.mono (by omega))).mono hB)) hlt
      have q1 : (0 : Int) ≤ (k : Int) := by omega
      have q2 : (k : Int) < (l.length : Int) := by omega
      have q3 : (0 : Int) ≤ (k : Int) + 1 := by omega
      have q4 : (k : Int) + 1 ≤ (l.length : Int) := by omega
      have q5 : (l.length : Int) ≤ (c' : Int) := by omega
      obtain ⟨x, hx⟩ : ∃ x, x = l[k] := ⟨_, rfl⟩
      rw [← hx] at d0 d1 d2
      have Hx := Lib.hid hx
      clear hx
      have bx := (Below.refl wr.heap.size wr).alloc (Nat.le_refl _) (.cells #[.int .i64 x.p, .int .i64 x.f, .int .i64 x.t] 34)
      have bx2 : Below w.heap.size w (wr.alloc (.cells #[.int .i64 x.p, .int .i64 x.f, .int .i64 x.t] 34)) := (ba.trans (hbw.mono sa1)).trans (bx.mono (by omega))
      have hcall := wcontains_any f x A (if c' = k + 1 then some ⟨q, o, none⟩ else some ⟨q, o + (k + 1) * 3, none⟩) c (c' - (k + 1)) p (l.drop (k + 1)) w.heap.size (w.heap.size + 1) wr.heap.size (wr.alloc (.cells #[.int .i64 x.p, .int .i64 x.f, .int .i64 x.t] 34)) B (Nat.le_trans hB bx2.size) (hp.below (bx2.mono hB)) (RdS.drop_ (hl.below (bx2.mono hB)) hc (k + 1)) hpk ((H1.out.below hbw (by have := Hsa.out; omega)).alloc _) ((H2.out.below hbw (by have := Hsa.out; omega)).alloc _) (Blk.new _ _ _) (fun y hy' => hy y (List.mem_of_mem_drop hy')) (by rw [List.length_drop]; omega)
      rw [List.length_drop] at hcall
      have Hcall := Lib.hid hcall
      have hwd : wtB p f x (l.drop (k + 1)) = wtD p f l k := by
        unfold wtD snAt
        rw [Hx.out]
        simp [List.getD, hlt]
      have Hwd := Lib.hid hwd
      have hrs : ∀ w2 : World, Below (wr.alloc (.cells #[.int .i64 x.p, .int .i64 x.f, .int .i64 x.t] 34)).heap.size (wr.alloc (.cells #[.int .i64 x.p, .int .i64 x.f, .int .i64 x.t] 34)) w2 → BRow w2 wa.heap.size 4 wa.heap.size l.length (fun j => if j < k then wtD p f l j else false) := fun w2 hb => by
        refine own_same Row.out fun g' hg' => ?_
        have := own_lt Row.out g' hg'
        exact ((bx.trans (hb.mono (by simp))).block g' this)
      clear hcall hwd
      go_wp2_with (go_at_call 77; refine Hcall.out.mono ?_; rintro e w2 ⟨rfl, hb2⟩; have row2 := hrs w2 hb2; have f2 := row2.frozenAt k; have e2 := BRow.cell row2 hlt; have Row2 := Lib.hid row2; clear row2)
      go_roundw
      case rel =>
        refine ⟨k + 1, by omega, by go_num, ?_, ?_⟩
        · refine BRow.cong (BRow.setB Row2.out k _) fun j hj => ?_
          by_cases hjk : j = k
          · subst hjk; rw [if_pos rfl, if_pos (by omega), Hwd.out]
          · rw [if_neg hjk]
            by_cases h9 : j < k
            · rw [if_pos h9, if_pos (by omega)]
            · rw [if_neg h9, if_neg (by omega)]
        · exact ((hbw.trans (bx.mono hbw.size)).trans (hb2.mono (by simp; omega))).setCell (p := ⟨wa.heap.size, k, none⟩) (Nat.le_refl _) _
      case measure => simp [intOf]; omega
    · obtain rfl : k = l.length := by omega
      go_wp2_with fail
      go_ret
      exact ⟨_, rfl, own_mono (BRow.cong Row.out fun j hj => by rw [if_pos hj]) sa1, ba.trans (hbw.mono sa1)⟩
end Go.Proofs.YtkkecnofgmpekaaDoor
