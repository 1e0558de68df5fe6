/- Package fair: its picker. Conditions written at it. Package fair's weights: eight, each a divisor of 12. Condition written at each. Package fair: run. Conditions: the sentinels that it names lie in their variables. -/
import Derived.Test.YtoomffajodheaaaGreatDoorQFrA
import Derived.Test.YtoomffajodheaaaGreatDoorQFrB
import Derived.Test.YtoomffajodheaaaGreatDoorQFifoM2
import Derived.Test.YtoomffajodheaaaGreatDoorQRkM
import Derived.Test.YtoomffajodheaaaGreatDoorQPlnM
import Derived.Test.YtoomffajodheaaaGreatDoorQBaseM
import Derived.Test.YtoomffajodheaaaGreatDoorQMiscM
import Derived.Laws.OwnMore
import Derived.Deep.RegionHeld
set_option linter.all false
namespace Go.Proofs.YtoomffajodheaaaGreatDoor
open Go.RowKit
set_option maxRecDepth 100000
def fairR (g : Nat) : Value := .agg #[.func (.func 201) #[.pointer (some ⟨g, 0, none⟩)] #[], .func (.func 202) #[.pointer (some ⟨g, 0, none⟩)] #[], .func (.func 203) #[.pointer (some ⟨g, 0, none⟩)] #[]]
def fRuleB (g : Nat) : Obj := .cells #[.func (.func 201) #[.pointer (some ⟨g, 0, none⟩)] #[], .func (.func 202) #[.pointer (some ⟨g, 0, none⟩)] #[], .func (.func 203) #[.pointer (some ⟨g, 0, none⟩)] #[]] 262
theorem restFunc_neq (g : Nat) (w : World) : (binOp .neq 1 (.func (.func 203) #[.pointer (some ⟨g, 0, none⟩)] #[]) .nilFunc).run Tryz.prog w = .ok (.bool true) w := by kernel_rfl
structure FairMem (p : List Pk) (ws : List Int) (A A' : Option Addr) (c c' B g gt : Nat) (w0 w : World) (own : Nat → Prop) (s : FS) : Prop where
  bel : Below B w0 w
  fm : ∃ bm tc es ck wv, FMem B g (.slice A p.length c) (.slice A' ws.length c') p.length w own s gt bm tc es ck wv
set_option maxHeartbeats 1000000 in
theorem fairPicker (w0 : World) (B g gt : Nat) (A A' : Option Addr) (c c' : Nat) (p : List Pk) (ws : List Int) (hp : RdP w0 B A p) (hq : RdI w0 B A' ws) (hpk : ∀ x ∈ p, okPk x) (hwl : ws.length = 8) (hw : wOk ws) (hpl : p.length ≤ 300) :
    Picker (fairR g) (fairM p ws) p.length B (FairMem p ws A A' c c' B g gt w0) where
  own_ := fun {w own s} h b hb => by
    obtain ⟨bm, tc, es, ck, wv, h⟩ := h.fm
    exact h.own_lt hb
  stay := fun {w w' own s} h hs hb => by
    obtain ⟨hb0, bm, tc, es, ck, wv, h⟩ := h
    exact ⟨hb0.trans hb, bm, tc, es, ck, wv, h.same hs⟩
  come := fun {w own s} k h hok hkn => by
    obtain ⟨hb0, bm, tc, es, ck, wv, h⟩ := h
    have hB := h.size_
    have kk := keepsAlloc (keepsRefl B own w) hB (fRuleB g)
    have Hok := Lib.hid (show FI p ws k s from hok)
    have Hwl := Lib.hid hwl
    clear hok hwl
    unfold fairR
    go_enter Tryz.func278, Tryz.ntmps278
    go_wp2_with fail
    refine (fcome_any B g k A A' c c' p ws _ own s gt bm tc es ck wv (h.alloc (fRuleB g)) (hp.below (hb0.trans kk.1)) (hq.below (hb0.trans kk.1)) hpk hw Hwl.out Hok.out hkn hpl).mono ?_
    rintro e w1 ⟨rfl, own', tc', es', ck', wv', h', k'⟩
    go_wp2_with fail
    go_end0
    have kk := keeps_trans kk k'
    exact ⟨rfl, own', ⟨hb0.trans kk.1, bm, tc', es', ck', wv', h'⟩, kk⟩
  none_ := fun {w own s m} h hok hk => by
    obtain ⟨hb0, bm, tc, es, ck, wv, h⟩ := h
    have hB := h.size_
    have hl : s.w = [] := (fairOk hpk hw).w_none _ _ hok hk
    clear hk hok
    have kk := keepsAlloc (keepsRefl B own w) hB (fRuleB g)
    unfold fairR
    go_enter Tryz.func279, Tryz.ntmps279
    go_wp2_with fail
    refine (fpick_none B g _ _ _ _ own s gt bm tc es ck wv (h.alloc (fRuleB g)) hl).mono ?_
    rintro e w1 ⟨rfl, rfl⟩
    go_wp2_with fail
    go_ret2
    exact ⟨rfl, own, ⟨hb0.trans kk.1, bm, tc, es, ck, wv, h.alloc _⟩, kk⟩
  some_ := fun {w own s m} k s' h hok hk => by
    obtain ⟨hb0, bm, tc, es, ck, wv, h⟩ := h
    have hB := h.size_
    have kk := keepsAlloc (keepsRefl B own w) hB (fRuleB g)
    have hfi : FI p ws m s := hok
    obtain ⟨h1, h2, h3⟩ := fPick_eq (show fPick s = some (k, s') from hk)
    have hn : s.w.length ≤ 1000 := by
      have := asc_lenF (m := m) 0 (Nat.zero_le _) hfi.asc fun j hj => ⟨Nat.zero_le _, hfi.lt j hj⟩
      have := hfi.le
      omega
    have htb : ∀ j ∈ s.w, 0 ≤ s.tg j ∧ s.tg j ≤ 9223372036854775807 := fun j hj => by
      have a1 := hfi.ge j hj
      have a2 := hfi.bd.v
      have a3 := hfi.bd.t j hj
      have a4 := hfi.le
      omega
    have Hn := Lib.hid hn
    have H1 := Lib.hid h1
    subst h2 h3
    clear hk hfi hn h1 hok
    unfold fairR
    go_enter Tryz.func279, Tryz.ntmps279
    go_wp2_with fail
    refine (fpick_some B g _ _ _ _ own s gt bm tc es ck wv (h.alloc (fRuleB g)) H1.out Hn.out htb).mono ?_
    rintro e w1 ⟨rfl, wv', h', k'⟩
    go_wp2_with fail
    go_ret2
    have kk := keeps_trans kk k'
    exact ⟨rfl, own, ⟨hb0.trans kk.1, bm, tc, es, ck, wv', h'⟩, kk⟩
  rest := fun {w own s m} h hok hw => by
    obtain ⟨hb0, bm, tc, es, ck, wv, h⟩ := h
    have hB := h.size_
    have f1 := restFunc_neq g
    have kk := keepsAlloc (keepsRefl B own w) hB (fRuleB g)
    clear hw
    unfold fairR
    go_enter Tryz.func280, Tryz.ntmps280
    go_wp2_with fail
    refine (frest_any B g _ _ _ _ own s gt bm tc es ck wv (h.alloc (fRuleB g))).mono ?_
    rintro e w1 ⟨rfl, own', bm', es', ck', h', k'⟩
    go_wp2_with fail
    go_end0
    have kk := keeps_trans kk k'
    exact ⟨rfl, own', ⟨hb0.trans kk.1, bm', tc, es', ck', wv, h'⟩, kk⟩
end Go.Proofs.YtoomffajodheaaaGreatDoor
namespace Go.Proofs.YtoomffajodheaaaGreatDoor
open Go.RowKit
set_option maxRecDepth 100000
def outW (n : Int) : Bool := decide (n < 1 ∨ 12 < n ∨ ¬ 12 % n = 0)
theorem wnum1_any (n : Int) (w : World) :
    Calls Tryz.prog 200 #[.int .i64 n] w fun e w' => e = .returned (.bool (outW n)) ∧ w = w' := by
  by_cases h0 : n < 1
  · have He := Lib.hid (show outW n = true from decide_eq_true (.inl h0))
    go_enter Tryz.func200, Tryz.ntmps200
    go_wp2_with fail
    go_ret
    exact ⟨ret_bool (by rw [He.out]), rfl⟩
  · have h4 : n ≠ 0 := by omega
    have He := Lib.hid (show outW n = (decide (n < 1) || decide (12 < n) || 12 % n != 0) by
      unfold outW
      rw [Bool.eq_iff_iff]
      simp
      omega)
    clear h0
    go_enter Tryz.func200, Tryz.ntmps200
    go_wp2_with fail
    all_goals
      go_ret
      first | exact ⟨ret_bool He.out.symm, rfl⟩ | exact ⟨ret_bool (by rw [He.out]; simp; omega), rfl⟩
/-- The place of the first weight out of bounds; -1: none. -/
def weIdx : List Int → Nat → Int
  | [], _ => -1
  | n :: r, k => if outW n then k else weIdx r (k + 1)
theorem weIdx_none {l : List Int} {k : Nat} (h : ¬ 0 ≤ weIdx l k) : ∀ n ∈ l, 1 ≤ n ∧ n ≤ 12 ∧ n ∣ 12 := by
  induction l generalizing k with
  | nil => simp
  | cons x r ih =>
    unfold weIdx at h
    split at h
    · exact absurd (Int.natCast_nonneg k) h
    · rename_i h1
      intro n hn
      rcases List.mem_cons.1 hn with rfl | hn
      · simp only [outW, decide_eq_true_eq] at h1
        exact ⟨by omega, by omega, Int.dvd_of_emod_eq_zero (by
          by_cases h2 : 12 % n = 0
          · exact h2
          · exact absurd (.inr (.inr h2)) h1)⟩
      · exact ih h n hn
theorem weidx_any (A : Option Addr) (c : Nat) (l : List Int) (w : World) (B : Nat) (h : RdI w B A l) (hl : l.length ≤ 9223372036854775807) :
    Calls Tryz.prog 216 #[.slice A l.length c, .func (.func 200) #[] #[]] w fun e w' => e = .returned (.int .i64 (weIdx l 0)) ∧ w = w' := by
  go_enter Tryz.func216, Tryz.ntmps216
  go_wp2
  go_loopw [5, 8] (fun _ i wr => ∃ k : Nat, k ≤ l.length ∧ i = .int .i64 k ∧ weIdx l 0 = weIdx (l.drop k) k ∧ w = wr) (fun _ i _ => l.length - (intOf i).toNat)
  case atStart => exact ⟨0, Nat.zero_le _, rfl, rfl, rfl⟩
  case round =>
    obtain ⟨k, hk, rfl, hbad, rfl⟩ := hrel
    by_cases hlt : k < l.length
    · obtain ⟨q, o, rfl, hq, h0⟩ := RdI.get h hlt
      rw [List.drop_eq_getElem_cons hlt] at hbad
      have Hbad := Lib.hid hbad
      clear hbad
      go_wp2_with fail
      refine (wnum1_any _ _).mono ?_
      rintro e w1 ⟨rfl, rfl⟩
      cases hx : outW l[k]
      · have Hx := Lib.hid hx; clear hx
        go_wp2_with fail
        go_roundw
        case rel => exact ⟨k + 1, by omega, by go_num, by rw [Hbad.out]; simp [weIdx, Hx.out], by trivial⟩
        case measure => simp [intOf]; omega
      · have Hx := Lib.hid hx; clear hx
        go_wp2_with fail
        go_ret
        exact ⟨ret_int (by rw [Hbad.out]; simp [weIdx, Hx.out]), rfl⟩
    · rw [List.drop_eq_nil_of_le (by omega)] at hbad
      have Hbad := Lib.hid hbad
      clear hbad
      go_wp2_with fail
      go_ret
      exact ⟨ret_int (by rw [Hbad.out]; rfl), rfl⟩
theorem wecontains_any (A : Option Addr) (c : Nat) (l : List Int) (w : World) (B : Nat) (h : RdI w B A l) (hl : l.length ≤ 9223372036854775807) :
    Calls Tryz.prog 192 #[.slice A l.length c, .func (.func 200) #[] #[]] w fun e w' => e = .returned (.bool (decide (0 ≤ weIdx l 0))) ∧ w = w' := by
  go_enter Tryz.func192, Tryz.ntmps192
  go_wp2_with fail
  refine (weidx_any A c l w B h hl).mono ?_
  rintro e w1 ⟨rfl, rfl⟩
  go_wp2_with fail
  go_ret
  exact ⟨rfl, rfl⟩
/-- The number of the error of weights. -/
def weErr (l : List Int) : Nat := if l.length = 8 then (if 0 ≤ weIdx l 0 then 2 else 0) else 3
/-- The error of a link by tags. -/
def fairErr (p : List Pk) (per : Int) (l : List Int) : Nat × Int := if (lookErr p per).1 = 0 then (weErr l, -1) else lookErr p per
theorem fairErr_ok {p : List Pk} {per : Int} {l : List Int} (h : (fairErr p per l).1 = 0) : (lookErr p per).1 = 0 ∧ weErr l = 0 ∧ l.length = 8 ∧ ¬ 0 ≤ weIdx l 0 ∧ fairErr p per l = (0, -1) := by
  unfold fairErr at h ⊢
  by_cases h1 : (lookErr p per).1 = 0
  · rw [if_pos h1] at h ⊢
    have h' := h
    unfold weErr at h
    by_cases h8 : l.length = 8
    · rw [if_pos h8] at h
      by_cases ho : 0 ≤ weIdx l 0
      · rw [if_pos ho] at h; simp at h
      · exact ⟨h1, h', h8, ho, by rw [show weErr l = 0 from h']⟩
    · rw [if_neg h8] at h; simp at h
  · rw [if_neg h1] at h; exact absurd h h1
theorem wOk_of {l : List Int} (h8 : l.length = 8) (h : ∀ n ∈ l, 1 ≤ n ∧ n ≤ 12 ∧ n ∣ 12) : wOk l := fun g hg => by
  unfold qu
  have hgl : g < l.length := by omega
  simp only [List.getD, List.getElem?_eq_getElem hgl, Option.getD_some]
  exact ⟨(h _ (List.getElem_mem hgl)).1, (h _ (List.getElem_mem hgl)).2.2⟩
end Go.Proofs.YtoomffajodheaaaGreatDoor
namespace Go.Proofs.YtoomffajodheaaaGreatDoor
open Go.RowKit
set_option maxRecDepth 100000
theorem infoInt3 : (Tryz.prog.info? 3).map (fun i => (i.zero, i.size, i.bytes)) = some (some (.int .i64 0), 1, 8) := by kernel_rfl
theorem intRow_new (n : Nat) : (madeCells (Value.cells (.int .i64 0)) (n * 1)).toList = List.replicate n (.int .i64 0) := by
  rw [show Value.cells (.int .i64 0) = #[.int .i64 0] from rfl, toList_madeCells_one, Nat.mul_one]
/-- A row of the call's own, full: its block. -/
theorem own_blk {w : World} {base e g n : Nat} {u : Value} (h : w.ownsRow base e 1 (.slice (some ⟨g, 0, none⟩) n n) n (List.replicate n u)) : base ≤ g ∧ ∃ tc, Blk w g e tc ∧ tc.size = n ∧ ∀ k, k < n → tc[k]? = some u := by
  obtain ⟨_, ⟨h1, _⟩ | ⟨g', cap, cur, hv, hg, hh, hn, hc, hs, ht⟩⟩ := h
  · simp at h1
  · simp only [Value.slice.injEq, Option.some.injEq, Addr.mk.injEq, and_true, true_and] at hv
    obtain ⟨rfl, rfl⟩ := hv
    refine ⟨hg, cur, hh, by omega, fun k hk => ?_⟩
    have h2 : (cur.toList.take (n * 1))[k]? = some u := by rw [ht, List.getElem?_replicate, if_pos hk]
    rw [List.getElem?_take, if_pos (by omega)] at h2
    simpa using h2
def tagL (p : List Pk) (per : Int) (ws : List Int) : List Int := (List.range p.length).map (fairT p per ws)
theorem tagL_len (p : List Pk) (per : Int) (ws : List Int) : (tagL p per ws).length = p.length := by simp [tagL]
theorem FMem.tags {B g : Nat} {vp vw : Value} {n : Nat} {w : World} {own : Nat → Prop} {s : FS} {gt bm : Nat} {tc : Array Value} {es : Array MapEntry} {ck : Nat} {wv : Value} (h : FMem B g vp vw n w own s gt bm tc es ck wv) : RdI w w.heap.size (some ⟨gt, 0, none⟩) ((List.range n).map s.tg) := by
  refine Rd.of_block (cs := tc) (T := 3) (z := (0, 0)) h.tb ?_ h.tb.lt (by omega) iCs_len
  apply List.ext_getElem?
  intro k
  have e : ((List.range n).map s.tg).flatMap (fun m => [Value.int .i64 m]) = (List.range n).map fun j => Value.int .i64 (s.tg j) := by
    rw [← List.map_eq_flatMap, List.map_map]; rfl
  rw [e]
  by_cases hk : k < n
  · have := h.tt k hk
    simp [hk]
    simpa using this
  · rw [List.getElem?_eq_none (by have := h.ts; simp; omega), List.getElem?_eq_none (by simp; omega)]
theorem FairMem.at2 {p : List Pk} {ws : List Int} {A A' : Option Addr} {c c' B g gt : Nat} {w0 w : World} {own : Nat → Prop} {s : FS} (h : FairMem p ws A A' c c' B g gt w0 w own s) : w.cell? ⟨g, 2, none⟩ = some (.slice (some ⟨gt, 0, none⟩) p.length p.length) := by
  obtain ⟨_, bm, tc, es, ck, wv, h⟩ := h
  exact h.at_ 2
/-- What fair.run gives. -/
def EndRun (l : List Sn) (t : List Int) (S : Nat → Addr) (k : Nat) (a : Int) (w : World) (e : Ending) (w' : World) : Prop :=
  ∃ A1 c1 A2 c2 v, e = .returned (.tuple #[.slice A1 l.length c1, .slice A2 t.length c2, v]) ∧ w'.ownsRow w.heap.size 64 3 (.slice A1 l.length c1) l.length (l.flatMap Sn.cs) ∧ RdI w' w'.heap.size A2 t ∧ Er w' w'.heap.size S v k a ∧ Below w.heap.size w w'
set_option maxHeartbeats 2000000 in
theorem frun_ok (A A' : Option Addr) (c c' : Nat) (p : List Pk) (per : Int) (ws : List Int) (S : Nat → Addr) (w : World) (B : Nat) (hB : B ≤ w.heap.size) (h : RdP w B A p) (h' : RdI w B A' ws) (hS : Snt w B S [2, 3, 5]) (hl : p.length ≤ 9223372036854775807) (hl' : ws.length ≤ 9223372036854775807) (hok : (fairErr p per ws).1 = 0) :
    Calls Tryz.prog 179 #[.slice A p.length c, .int .i64 per, .slice A' ws.length c'] w (EndRun (fairL p per ws) (tagL p per ws) S 0 (-1) w) := by
  have hmm := @run_makeMap Tryz.prog
  obtain ⟨i1, hi1, hy0, hy1, hy2⟩ := info_parts infoInt3
  obtain ⟨e1, e2, h8, ho, e3⟩ := fairErr_ok hok
  obtain ⟨hf, h300, hpk, h0, h1⟩ := lookErr_ok e1
  have hw := wOk_of h8 (weIdx_none ho)
  have hwl8 : ((ws.length : Int) != 8) = false := by rw [h8]; rfl
  have Hf := Lib.hid hf
  have Ho := Lib.hid (show decide (0 ≤ weIdx ws 0) = false from decide_eq_false ho)
  have H8 := Lib.hid h8
  clear hf hok e1 e2 e3 h8 ho
  go_enter Tryz.func179, Tryz.ntmps179
  go_wp2_with fail
  refine (look_any A c p per S w B hB h (hS.sub (by simp)) hl).mono ?_
  rintro e w1 ⟨v, rfl, hv, hb1⟩
  obtain rfl := hv.nil_of (by rw [Hf.out])
  have r1 := h'.below (hb1.mono hB)
  go_wp2_with fail
  refine (wecontains_any A' c' ws _ B r1 hl').mono ?_
  rintro e w2 ⟨rfl, rfl⟩
  rw [Ho.out]
  have z1 := hb1.size
  have rp := h.below (hb1.mono hB)
  go_wp2_with (at_make; refine wpList_make_full _ rfl (.tmp 27) (.tmp 27) 27 rfl w1.heap.size 3 i1 (.int .i64 0) 1 Tryz.underlying27 hi1 hy0 hy1 .i64 .i64 p.length p.length p.length rfl rfl rfl rfl (by rw [hy2]; omega) (by simp only [maxLen]; omega) (Nat.le_refl _) ?_; intro w3 row3 g3)
  rw [intRow_new] at row3
  obtain ⟨gb, tc, htb, hts, htt⟩ := own_blk row3
  obtain ⟨X, hX⟩ : ∃ X : World, X = (w3.alloc (.map #[] 0)).alloc (.cells #[.slice A p.length c, .slice A' ws.length c', .slice (some ⟨w1.heap.size, 0, none⟩) p.length p.length, .map (some w3.heap.size), .int .i64 0, .slice none 0 0] 286) := ⟨_, rfl⟩
  rw [← hX]
  have k3 : Below w1.heap.size w1 w3 := (Below.refl _ _).grown g3 (Nat.le_refl _) (by simp)
  have s3 := k3.size
  have ltb := htb.lt
  have bX : Below w1.heap.size w1 X := by rw [hX]; exact (k3.alloc s3 _).alloc (by simp; omega) _
  have mX : FMem w1.heap.size (w3.heap.size + 1) (.slice A p.length c) (.slice A' ws.length c') p.length X (fun b => b = w3.heap.size + 1 ∨ b = w1.heap.size ∨ b = w3.heap.size ∨ (Value.slice none 0 0).ownBlock = some b) fs0 w1.heap.size w3.heap.size tc #[] 0 (.slice none 0 0) := by
    rw [hX]
    exact { blk := heap_alloc_new2 _ _ _, tb := (htb.alloc _).alloc _, ts := hts, tt := htt, mp := MapI.new_ ((Below.heap_alloc (w3.alloc _) _ _ (by simp)).trans (heap_alloc_new w3 _)), row := ⟨by simp [fs0], .inl ⟨rfl, rfl⟩⟩, hB := ⟨by omega, Nat.le_refl _, by omega⟩, ne := ⟨by omega, by omega, by omega⟩, rne := by simp [Value.ownBlock], o := fun b => Iff.rfl }
  have pX : RdP X.drew w1.heap.size A p := ((rp.more (Nat.le_trans hB z1)).below bX.drew)
  have qX : RdI X.drew w1.heap.size A' ws := ((r1.more (Nat.le_trans hB z1)).below bX.drew)
  have HSRV := Lib.hid (srv_any (R := fairR (w3.heap.size + 1)) (M := fairM p ws) (Mem := FairMem p ws A A' c c' w1.heap.size (w3.heap.size + 1) w1.heap.size X.drew) A c p per w1.heap.size fs0 _ X.drew bX.size pX hpk h300 h0 h1 (fairOk hpk hw) (fairPicker X.drew w1.heap.size (w3.heap.size + 1) w1.heap.size A A' c c' p ws pX qX hpk H8.out hw h300) ⟨Below.refl _ _, _, _, _, _, _, mX.drewN 1⟩ rfl (fs0_ok p ws))
  have KX := Lib.hid (show X.drew.cell? ⟨w3.heap.size + 1, 2, none⟩ = some (.slice (some ⟨w1.heap.size, 0, none⟩) p.length p.length) from mX.at_ 2)
  have BX := Lib.hid bX
  clear mX pX qX bX ltb s3 k3 hX htb htt hts gb row3 g3 rp r1
  go_region_held (fun w' => w'.cell? ⟨w3.heap.size + 1, 2, none⟩ = some (.slice (some ⟨w1.heap.size, 0, none⟩) p.length p.length)) (first | exact KX.out | exact hm4.at2) ((go_at_call 176; refine HSRV.out.mono ?_; rintro e w4 ⟨A3, c3, own3, rfl, row4, hb4, hm4⟩))
  all_goals
    go_wp2_with fail
    go_ret3
    obtain ⟨_, bm, tc', es, ck, wv, hF⟩ := hm4
    have hs := BX.out.size
    exact ⟨A3, c3, some ⟨w1.heap.size, 0, none⟩, p.length, .nilIface, by rw [tagL_len]; rfl, own_mono row4 (Nat.le_trans z1 hs), hF.tags, .nil, hb1.trans ((BX.out.drew.trans hb4).mono z1)⟩
set_option maxHeartbeats 1000000 in
theorem frun_bad (A A' : Option Addr) (c c' : Nat) (p : List Pk) (per : Int) (ws : List Int) (S : Nat → Addr) (w : World) (B : Nat) (hB : B ≤ w.heap.size) (h : RdP w B A p) (h' : RdI w B A' ws) (hS : Snt w B S [2, 3, 5]) (hl : p.length ≤ 9223372036854775807) (hl' : ws.length ≤ 9223372036854775807) (hok : (fairErr p per ws).1 ≠ 0) :
    Calls Tryz.prog 179 #[.slice A p.length c, .int .i64 per, .slice A' ws.length c'] w (EndRun [] [] S (fairErr p per ws).1 (fairErr p per ws).2 w) := by
  have nilR : ∀ w' : World, RdI w' w'.heap.size none ([] : List Int) := fun w' h0 => absurd h0 (by simp)
  by_cases h1 : (lookErr p per).1 = 0
  · obtain ⟨hf, _, _, _, _⟩ := lookErr_ok h1
    have He := Lib.hid (show fairErr p per ws = (weErr ws, -1) from if_pos h1)
    have Hf := Lib.hid hf
    have hwe : weErr ws ≠ 0 := by rw [He.out] at hok; exact hok
    clear hok hf h1
    by_cases h8 : ws.length = 8
    · have hb8 : ((ws.length : Int) != 8) = false := by rw [h8]; rfl
      have ho : 0 ≤ weIdx ws 0 := by
        unfold weErr at hwe
        rw [if_pos h8] at hwe
        by_cases ho : 0 ≤ weIdx ws 0
        · exact ho
        · rw [if_neg ho] at hwe; exact absurd rfl hwe
      have Hw := Lib.hid (show weErr ws = 2 by unfold weErr; rw [if_pos h8, if_pos ho])
      have Ho := Lib.hid (show decide (0 ≤ weIdx ws 0) = true from decide_eq_true ho)
      clear hwe h8 ho
      go_enter Tryz.func179, Tryz.ntmps179
      go_wp2_with fail
      refine (look_any A c p per S w B hB h (hS.sub (by simp)) hl).mono ?_
      rintro e w1 ⟨v, rfl, hv, hb1⟩
      obtain rfl := hv.nil_of (by rw [Hf.out])
      have r1 := h'.below (hb1.mono hB)
      have g2 : w1.cell? ⟨G 2, 0, none⟩ = some (sv S 2) := ((hS.below (hb1.mono hB)) 2 (by simp)).2.2
      have l2 := (hS 2 (by simp)).1
      simp only [G, sv] at g2 l2
      go_wp2_with fail
      refine (wecontains_any A' c' ws _ B r1 hl').mono ?_
      rintro e w2 ⟨rfl, rfl⟩
      rw [Ho.out]
      go_wp2_with fail
      go_quiet (fail)
      rename Nat => nq
      go_wp2_with fail
      go_ret3
      rw [He.out, Hw.out]
      exact ⟨none, 0, none, 0, _, rfl, ⟨by simp, .inl ⟨rfl, rfl⟩⟩, nilR _, .bare 2 (by omega) (by omega), below_drewN hb1 nq⟩
    · have hb8 : ((ws.length : Int) != 8) = true := by simp; omega
      have Hw := Lib.hid (show weErr ws = 3 by unfold weErr; rw [if_neg h8])
      clear hwe h8
      go_enter Tryz.func179, Tryz.ntmps179
      go_wp2_with fail
      refine (look_any A c p per S w B hB h (hS.sub (by simp)) hl).mono ?_
      rintro e w1 ⟨v, rfl, hv, hb1⟩
      obtain rfl := hv.nil_of (by rw [Hf.out])
      have g3 : w1.cell? ⟨G 3, 0, none⟩ = some (sv S 3) := ((hS.below (hb1.mono hB)) 3 (by simp)).2.2
      have l3 := (hS 3 (by simp)).1
      simp only [G, sv] at g3 l3
      go_wp2_with fail
      go_quiet (fail)
      rename Nat => nq
      go_wp2_with fail
      go_ret3
      rw [He.out, Hw.out]
      exact ⟨none, 0, none, 0, _, rfl, ⟨by simp, .inl ⟨rfl, rfl⟩⟩, nilR _, .bare 3 (by omega) (by omega), below_drewN hb1 nq⟩
  · have He := Lib.hid (show fairErr p per ws = lookErr p per from if_neg h1)
    have Hn := Lib.hid h1
    clear hok h1
    go_enter Tryz.func179, Tryz.ntmps179
    go_wp2_with fail
    refine (look_any A c p per S w B hB h (hS.sub (by simp)) hl).mono ?_
    rintro e w1 ⟨v, rfl, hv, hb1⟩
    obtain ⟨T, a, rfl⟩ := hv.some_of Hn.out
    go_wp2_with fail
    go_ret3
    rw [He.out]
    exact ⟨none, 0, none, 0, _, rfl, ⟨by simp, .inl ⟨rfl, rfl⟩⟩, nilR _, hv, hb1⟩
section
variable (A A' : Option Addr) (c c' : Nat) (p : List Pk) (per : Int) (ws : List Int) (S : Nat → Addr) (w : World)
def fairV (p : List Pk) (per : Int) (ws : List Int) : List Sn := if (fairErr p per ws).1 = 0 then fairL p per ws else []
def tagV (p : List Pk) (per : Int) (ws : List Int) : List Int := if (fairErr p per ws).1 = 0 then tagL p per ws else []
theorem frun_any (B : Nat) (hB : B ≤ w.heap.size) (h : RdP w B A p) (h' : RdI w B A' ws) (hS : Snt w B S [2, 3, 5]) (hl : p.length ≤ 9223372036854775807) (hl' : ws.length ≤ 9223372036854775807) :
    Calls Tryz.prog 179 #[.slice A p.length c, .int .i64 per, .slice A' ws.length c'] w (EndRun (fairV p per ws) (tagV p per ws) S (fairErr p per ws).1 (fairErr p per ws).2 w) := by
  unfold fairV tagV
  by_cases hok : (fairErr p per ws).1 = 0
  · rw [if_pos hok, if_pos hok, (fairErr_ok hok).2.2.2.2]
    exact frun_ok A A' c c' p per ws S w B hB h h' hS hl hl' hok
  · rw [if_neg hok, if_neg hok]
    exact frun_bad A A' c c' p per ws S w B hB h h' hS hl hl' hok
set_option maxHeartbeats 1000000 in
theorem fairRun_any (B : Nat) (hB : B ≤ w.heap.size) (h : RdP w B A p) (h' : RdI w B A' ws) (hS : Snt w B S [2, 3, 5]) (hl : p.length ≤ 9223372036854775807) (hl' : ws.length ≤ 9223372036854775807) :
    Calls Tryz.prog 149 #[.slice A p.length c, .int .i64 per, .slice A' ws.length c'] w (EndOwnEr Sn.cs 3 64 (fairV p per ws) S (fairErr p per ws).1 (fairErr p per ws).2 w) := by
  go_enter Tryz.func149, Tryz.ntmps149
  go_wp2_with fail
  refine (frun_any A A' c c' p per ws S w B hB h h' hS hl hl').mono ?_
  rintro e w1 ⟨A1, c1, A2, c2, v, rfl, row, rd, hv, hb1⟩
  go_wp2_with fail
  go_ret2
  exact ⟨A1, c1, v, rfl, row, hv, hb1⟩
end
end Go.Proofs.YtoomffajodheaaaGreatDoor
