/- Package round: a packet comes to the turns of flows. Conditions written at each. -/
import Derived.Test.YtkkecnofgmpekaaDoorTurns
namespace Go.Proofs.YtkkecnofgmpekaaDoor
open Go.RowKit
set_option maxRecDepth 100000
theorem map_getD (s : List Nat) (j : Nat) (hj : j < s.length) : (s.map Int.ofNat).getD j 0 = (s[j] : Int) := by simp [List.getD, hj]
theorem contains_any (f : Nat) (v : Value) (l : List Nat) (w : World) (B : Nat) (h : MRow w B 3 v l) (hl : l.length ≤ 1000) :
    Calls Tryd.prog 75 #[v, .int .i64 (f : Int)] w fun e w' => e = .returned (.bool (decide (f ∈ l))) ∧ w = w' := by
  rcases Nat.eq_zero_or_pos l.length with h0 | h0
  · obtain ⟨A, c, rfl⟩ := h.slice
    obtain rfl := List.eq_nil_of_length_eq_zero h0
    refine (Tryd.slices_Contains_int_empty A c (f : Int) w).mono ?_
    rintro e w' ⟨rfl, rfl⟩
    exact ⟨by simp, rfl⟩
  · obtain ⟨b, o, c, rfl, _, _, hc⟩ := h.at_ h0
    refine (Tryd.slices_Contains_int b o l.length c (l.map Int.ofNat) (f : Int) w (by simp) (by omega) (fun j hj => ?_)).mono ?_
    · have hj' : j < l.length := by simpa using hj
      rw [hc j hj', map_getD l j hj']
    · rintro e w' ⟨rfl, rfl⟩
      refine ⟨?_, rfl⟩
      congr 2
      rw [List.take_of_length_le (by simp), Bool.eq_iff_iff, decide_eq_true_iff, List.contains_iff_mem, List.mem_map]
      constructor
      · rintro ⟨y, hy, e⟩
        have : y = f := Int.ofNat.inj e
        rw [← this]; exact hy
      · intro hf
        exact ⟨f, hf, rfl⟩
set_option maxHeartbeats 1000000 in
theorem rcome_any (B g k : Nat) (A A' : Option Addr) (c c' : Nat) (p : List Pk) (qs : List Int) (w : World) (own : Nat → Prop) (s : RS) (cs : Array Value) (qv : Nat → Value) (rv : Value) (h : TMem B g (.slice A p.length c) (.slice A' qs.length c') w own s cs qv rv) (hp : RdP w B A p) (hpk : ∀ x ∈ p, okPk x) (hk : k < p.length) (hq : ∀ f, f < 8 → (s.q f).length ≤ 900) (hr : s.row.length ≤ 900) :
    Calls Tryd.prog 59 #[.pointer (some ⟨g, 0, none⟩), .int .i64 k] w fun e w' => e = .returned (.tuple #[]) ∧ ∃ own' cs' qv' rv', TMem B g (.slice A p.length c) (.slice A' qs.length c') w' own' (rCome p s k) cs' qv' rv' ∧ Keeps B own w own' w' := by
  obtain ⟨b, o, rfl, hb, d0, d1, d2⟩ := RdP.get hp hk
  have hok := hpk _ (List.getElem_mem hk)
  obtain ⟨f, hf⟩ : ∃ f : Nat, p[k].f = f := ⟨p[k].f.toNat, by have := hok.1; omega⟩
  have hf8 : f < 8 := by have := hok.2.1; omega
  have hfl : flN p k = f := by unfold flN; rw [fOf_of hk, hf, Int.toNat_natCast]
  rw [hf] at d0
  obtain ⟨i0, hi0, hz0, hz1, hz2⟩ := info_parts infoInt
  have c0 : w.cell? ⟨g, 0, none⟩ = some (.slice (some ⟨b, o, none⟩) p.length c) := (h.at_ 0).trans h.c0
  have c18 : w.cell? ⟨g, 18, none⟩ = some rv := (h.at_ 18).trans h.cr
  have c19 : w.cell? ⟨g, 19, none⟩ = some (svV s.sv) := (h.at_ 19).trans h.cv
  have cq : w.cell? ⟨g, 2 + f, none⟩ = some (qv f) := (h.at_ _).trans (h.cq f hf8)
  have q1 : (0 : Int) ≤ (k : Int) := by omega
  have q2 : (k : Int) < (p.length : Int) := by omega
  have q3 : (0 : Int) ≤ (f : Int) := by omega
  have q4 : (f : Int) < 8 := by omega
  have H := Lib.hid h
  have Hfl := Lib.hid hfl
  have hqf := hq f hf8
  have hBs := h.size_
  clear hfl hf hok h
  obtain ⟨x, hx, hxl⟩ : ∃ x : Int, svV s.sv = .int .i64 x ∧ (f ∈ lst s ↔ x = f ∨ f ∈ s.row) := by
    cases hsv : s.sv with
    | none =>
      refine ⟨-1, rfl, ?_⟩
      unfold lst
      rw [hsv]
      exact ⟨fun e => .inr e, fun e => e.resolve_left (by omega)⟩
    | some g' =>
      refine ⟨g', rfl, ?_⟩
      unfold lst
      rw [hsv]
      constructor
      · intro e
        rcases List.mem_cons.1 e with e | e
        · exact .inl (by rw [e])
        · exact .inr e
      · rintro (e | e)
        · have : g' = f := Int.ofNat.inj e
          rw [this]; exact List.mem_cons_self
        · exact List.mem_cons_of_mem _ e
  have hrr : s.row.length ≤ 1000 := by omega
  rw [hx] at c19
  by_cases hxf : x = f
  · have hm : f ∈ lst s := hxl.2 (.inl hxf)
    have Hc : Hid (rCome p s k = { s with q := upd s.q f (s.q f ++ [k]) }) := Lib.hid (by unfold rCome; rw [Hfl.out, if_pos hm])
    clear hm hxl hx
    subst hxf
    have hb1 : ((f : Int) != (f : Int)) = false := by simp
    go_enter Tryd.func59, Tryd.ntmps59
    go_wp2_with fail
    have hQ := Lib.hid ((H.out.q f hf8).alloc (.cells #[.int .i64 (k : Int)] 3))
    have hbl : Hid (Blk (w.alloc (.cells #[.int .i64 (k : Int)] 3)).drew g 88 _) := Lib.hid (H.out.blk.alloc (.cells #[.int .i64 (k : Int)] 3))
    have x2 : w.cell? ⟨g, 2 + f, none⟩ = some (qv f) := (H.out.at_ _).trans (H.out.cq f hf8)
    have x2b : (w.alloc (.cells #[.int .i64 (k : Int)] 3)).cell? ⟨g, 2 + f, none⟩ = some (qv f) := ((H.out.blk.alloc (.cells #[.int .i64 (k : Int)] 3)).cell (2 + f)).trans (H.out.cq f hf8)
    have hgq : some g ≠ (qv f).ownBlock := fun e => H.out.gq f hf8 e.symm
    have hcq := H.out.cq f hf8
    have hba : B ≤ (w.alloc (.cells #[.int .i64 (k : Int)] 3)).heap.size := le_alloc H.out.size_ _
    have xk : (w.alloc (.cells #[.int .i64 (k : Int)] 3)).cell? ⟨w.heap.size, 0, none⟩ = some (.int .i64 (k : Int)) := (Blk.new w 3 #[.int .i64 (k : Int)]).cell 0
    have xq1 : (s.q f).length ≤ 1000 := by omega
    go_region_law (refine step_append_mid _ rfl (.tmp 45) (.tmp 47) 35 rfl B 3 i0 Tryd.underlying35 hi0 hz0 hz1 hz2 (qv f) (s.q f) rfl hQ.out ⟨w.heap.size, 0, none⟩ k rfl xk xq1 hba ?_; intro v5 w5 row5 g5 at5; have b5 := Blk.grown hbl.out g5 hgq; have y2 := (b5.cell (2 + f)).trans hcq; have z2 := b5.frozen (2 + f); clear b5; obtain ⟨A5, n5, c5, e5⟩ := row5.slice_; subst e5)
    all_goals
      go_end0
      have kk := keepsDrew (keepsAlloc (keepsRefl B own w) H.out.size_ (.cells #[.int .i64 (k : Int)] 3))
      obtain ⟨t9, k9⟩ := TMem.putQ (w := (w.alloc (.cells #[.int .i64 (k : Int)] 3)).drew) (H.out.alloc (.cells #[.int .i64 (k : Int)] 3)).drew hf8 row5 g5 at5
      rw [Hc.out]
      exact ⟨rfl, _, _, _, _, t9, keeps_trans kk k9⟩
  · have hb1 : (x != (f : Int)) = true := by simp [hxf]
    have Hx := Lib.hid hx
    clear hx
    by_cases hmr : f ∈ s.row
    · have hm : f ∈ lst s := hxl.2 (.inr hmr)
      have Hc : Hid (rCome p s k = { s with q := upd s.q f (s.q f ++ [k]) }) := Lib.hid (by unfold rCome; rw [Hfl.out, if_pos hm])
      have hfr : (decide (f ∈ s.row)) = true := decide_eq_true hmr
      clear hm hxl
      go_enter Tryd.func59, Tryd.ntmps59
      go_wp2_with (go_at_call 75; refine (contains_any f rv s.row w B H.out.r hrr).mono ?_; rintro e w1 ⟨rfl, rfl⟩; rw [hfr])
      have hQ := Lib.hid ((H.out.q f hf8).alloc (.cells #[.int .i64 (k : Int)] 3))
      have hbl : Hid (Blk (w.alloc (.cells #[.int .i64 (k : Int)] 3)).drew g 88 _) := Lib.hid (H.out.blk.alloc (.cells #[.int .i64 (k : Int)] 3))
      have x2 : w.cell? ⟨g, 2 + f, none⟩ = some (qv f) := (H.out.at_ _).trans (H.out.cq f hf8)
      have x2b : (w.alloc (.cells #[.int .i64 (k : Int)] 3)).cell? ⟨g, 2 + f, none⟩ = some (qv f) := ((H.out.blk.alloc (.cells #[.int .i64 (k : Int)] 3)).cell (2 + f)).trans (H.out.cq f hf8)
      have hgq : some g ≠ (qv f).ownBlock := fun e => H.out.gq f hf8 e.symm
      have hcq := H.out.cq f hf8
      have hba : B ≤ (w.alloc (.cells #[.int .i64 (k : Int)] 3)).heap.size := le_alloc H.out.size_ _
      have xk : (w.alloc (.cells #[.int .i64 (k : Int)] 3)).cell? ⟨w.heap.size, 0, none⟩ = some (.int .i64 (k : Int)) := (Blk.new w 3 #[.int .i64 (k : Int)]).cell 0
      have xq1 : (s.q f).length ≤ 1000 := by omega
      go_region_law (refine step_append_mid _ rfl (.tmp 45) (.tmp 47) 35 rfl B 3 i0 Tryd.underlying35 hi0 hz0 hz1 hz2 (qv f) (s.q f) rfl hQ.out ⟨w.heap.size, 0, none⟩ k rfl xk xq1 hba ?_; intro v5 w5 row5 g5 at5; have b5 := Blk.grown hbl.out g5 hgq; have y2 := (b5.cell (2 + f)).trans hcq; have z2 := b5.frozen (2 + f); clear b5; obtain ⟨A5, n5, c5, e5⟩ := row5.slice_; subst e5)
      all_goals
        go_end0
        have kk := keepsDrew (keepsAlloc (keepsRefl B own w) H.out.size_ (.cells #[.int .i64 (k : Int)] 3))
        obtain ⟨t9, k9⟩ := TMem.putQ (w := (w.alloc (.cells #[.int .i64 (k : Int)] 3)).drew) (H.out.alloc (.cells #[.int .i64 (k : Int)] 3)).drew hf8 row5 g5 at5
        rw [Hc.out]
        exact ⟨rfl, _, _, _, _, t9, keeps_trans kk k9⟩
    · have hm : ¬ f ∈ lst s := fun e => (hxl.1 e).elim hxf hmr
      have Hc : Hid (rCome p s k = { s with row := s.row ++ [f], q := upd s.q f (s.q f ++ [k]) }) := Lib.hid (by unfold rCome; rw [Hfl.out, if_neg hm])
      have hfr : (decide (f ∈ s.row)) = false := decide_eq_false hmr
      clear hm hxl
      have hR := Lib.hid (H.out.r.alloc (.cells #[.int .i64 (f : Int)] 3))
      have xf : (w.alloc (.cells #[.int .i64 (f : Int)] 3)).cell? ⟨w.heap.size, 0, none⟩ = some (.int .i64 (f : Int)) := (Blk.new w 3 #[.int .i64 (f : Int)]).cell 0
      have hbl : Hid (Blk (w.alloc (.cells #[.int .i64 (f : Int)] 3)) g 88 cs) := Lib.hid (H.out.blk.alloc (.cells #[.int .i64 (f : Int)] 3))
      have hba : B ≤ (w.alloc (.cells #[.int .i64 (f : Int)] 3)).heap.size := le_alloc H.out.size_ _
      have hgr : some g ≠ rv.ownBlock := fun e => H.out.gr e.symm
      have hcr := H.out.cr
      go_enter Tryd.func59, Tryd.ntmps59
      go_wp2_with first | (go_at_call 75; refine (contains_any f rv s.row w B H.out.r hrr).mono ?_; rintro e w1 ⟨rfl, rfl⟩; rw [hfr]) | (refine wpList_append_mid _ rfl (.tmp 32) (.tmp 34) 35 rfl B 3 i0 Tryd.underlying35 hi0 hz0 hz1 hz2 rv s.row rfl hR.out ⟨w.heap.size, 0, none⟩ f rfl xf hrr hba ?_; intro v4 w4 row4 g4 at4; have b4 := Blk.grown hbl.out g4 hgr; have y4 := (b4.cell 18).trans hcr; have z4 := b4.frozen 18; clear b4; obtain ⟨A4, n4, c4, e4⟩ := row4.slice_; subst e4)
      have kk0 := keepsAlloc (keepsRefl B own w) H.out.size_ (.cells #[.int .i64 (f : Int)] 3)
      obtain ⟨t4, k4⟩ := TMem.putR (w := w.alloc (.cells #[.int .i64 (f : Int)] 3)) (H.out.alloc (.cells #[.int .i64 (f : Int)] 3)) row4 g4 at4
      have k5 := keeps_trans kk0 k4
      clear hbl hba y4 z4 row4 g4 at4 k4 kk0
      generalize w4.setCell ⟨g, 18, none⟩ (.slice A4 n4 c4) = w2 at t4 k5 ⊢
      generalize Value.slice A4 n4 c4 = rv2 at t4 k5 ⊢
      have H2 := Lib.hid t4
      have K5 := Lib.hid k5
      clear t4 k5
      have hQ := Lib.hid ((H2.out.q f hf8).alloc (.cells #[.int .i64 (k : Int)] 3))
      have hbl : Hid (Blk (w2.alloc (.cells #[.int .i64 (k : Int)] 3)).drew g 88 _) := Lib.hid (H2.out.blk.alloc (.cells #[.int .i64 (k : Int)] 3))
      have x2 : w2.cell? ⟨g, 2 + f, none⟩ = some (qv f) := (H2.out.at_ _).trans (H2.out.cq f hf8)
      have x2b : (w2.alloc (.cells #[.int .i64 (k : Int)] 3)).cell? ⟨g, 2 + f, none⟩ = some (qv f) := ((H2.out.blk.alloc (.cells #[.int .i64 (k : Int)] 3)).cell (2 + f)).trans (H2.out.cq f hf8)
      have hgq : some g ≠ (qv f).ownBlock := fun e => H2.out.gq f hf8 e.symm
      have hcq := H2.out.cq f hf8
      have hba : B ≤ (w2.alloc (.cells #[.int .i64 (k : Int)] 3)).heap.size := le_alloc H2.out.size_ _
      have xk : (w2.alloc (.cells #[.int .i64 (k : Int)] 3)).cell? ⟨w2.heap.size, 0, none⟩ = some (.int .i64 (k : Int)) := (Blk.new w2 3 #[.int .i64 (k : Int)]).cell 0
      have xq1 : (s.q f).length ≤ 1000 := by omega
      go_region_law (refine step_append_mid _ rfl (.tmp 45) (.tmp 47) 35 rfl B 3 i0 Tryd.underlying35 hi0 hz0 hz1 hz2 (qv f) (s.q f) rfl hQ.out ⟨w2.heap.size, 0, none⟩ k rfl xk xq1 hba ?_; intro v5 w5 row5 g5 at5; have b5 := Blk.grown hbl.out g5 hgq; have y2 := (b5.cell (2 + f)).trans hcq; have z2 := b5.frozen (2 + f); clear b5; obtain ⟨A5, n5, c5, e5⟩ := row5.slice_; subst e5)
      all_goals
        go_end0
        have kk := keepsDrew (keepsAlloc (keepsRefl B (ownQ g qv rv2) w2) H2.out.size_ (.cells #[.int .i64 (k : Int)] 3))
        obtain ⟨t9, k9⟩ := TMem.putQ (w := (w2.alloc (.cells #[.int .i64 (k : Int)] 3)).drew) (H2.out.alloc (.cells #[.int .i64 (k : Int)] 3)).drew hf8 row5 g5 at5
        rw [Hc.out]
        exact ⟨rfl, _, _, _, _, t9, keeps_trans K5.out (keeps_trans kk k9)⟩
end Go.Proofs.YtkkecnofgmpekaaDoor
