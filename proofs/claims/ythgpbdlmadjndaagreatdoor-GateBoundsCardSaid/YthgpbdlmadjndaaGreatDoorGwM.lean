/- floodgatelaw3's opens, wide, ownGate. Conditions: as for a gate in memory. floodgatelaw3.opens returns true; gates without curves. Condition: the nine sentinels lie in their variables, apart; errors.errorType holds the type error. -/
import Derived.Test.YthgpbdlmadjndaaGreatDoorGrM
import Derived.Test.YthgpbdlmadjndaaGreatDoorCvM
import Derived.Deep.Upon
namespace Go.Proofs.YthgpbdlmadjndaaGreatDoor
open Go.RowKit
set_option maxRecDepth 100000
/-- A slice's value. -/
structure SlV where
  a : Option Addr
  n : Nat
  c : Nat
def sC (v : SlV) : List Value := [.slice v.a v.n v.c]
theorem sC_len (v : SlV) : (sC v).length = 1 := rfl
theorem sC_one (v : SlV) : ∀ u ∈ sC v, u.oneCell' = true := by simp [sC, Value.oneCell']
/-- Slices that read as curves. -/
def VsOk (w : World) (vs : List SlV) (cs : List (List Ln)) : Prop := vs.length = cs.length ∧ ∀ i (h : i < vs.length) (h2 : i < cs.length), ∃ a c, vs[i] = ⟨a, cs[i].length, c⟩ ∧ RdL w w.heap.size a cs[i]
theorem VsOk.below {w w' : World} {vs : List SlV} {cs : List (List Ln)} (h : VsOk w vs cs) (hb : Below w.heap.size w w') : VsOk w' vs cs := ⟨h.1, fun i h1 h2 => by
  obtain ⟨a, c, e, r⟩ := h.2 i h1 h2
  exact ⟨a, c, e, (r.below hb).more hb.size⟩⟩
/-- A row of slices of the call's own reads as curves. -/
theorem RdLL.of_own {w : World} {base c : Nat} {e : TypeId} {A : Option Addr} {vs : List SlV} {cs : List (List Ln)} (h : w.ownsRow base e 1 (.slice A vs.length c) vs.length (vs.flatMap sC)) (hv : VsOk w vs cs) : RdLL w w.heap.size A cs := fun i hi => by
  have hi' : i < vs.length := by rw [hv.1]; exact hi
  obtain ⟨b, hA, _, hb, y⟩ := own_get h (by omega) sC_len hi'
  obtain ⟨a, ca, e, r⟩ := hv.2 i hi' hi
  have := y 0 _ rfl
  simp only [Nat.mul_one, Nat.add_zero] at this
  rw [e] at this
  exact ⟨b, 0, a, ca, hA, hb, by rw [Nat.zero_add]; exact this, r⟩
def wideL : List (List Ln) → Bool
  | [] => false
  | l :: r => if 20 < l.length then true else wideL r
def wideB (cs : List (List Ln)) (K : ByteArray) (ns : List Int) : Bool := if 20 < cs.length then true else if 30 < ns.length then true else if 60 < K.size then true else wideL cs
theorem wideL_ok {cs : List (List Ln)} (h : wideL cs = false) : ∀ l ∈ cs, l.length ≤ 20 := by
  induction cs with
  | nil => simp
  | cons l r ih =>
    unfold wideL at h
    by_cases h1 : 20 < l.length
    · rw [if_pos h1] at h; cases h
    · rw [if_neg h1] at h
      intro x hx
      rcases List.mem_cons.1 hx with rfl | hx
      · omega
      · exact ih h x hx
theorem wideB_ok {cs : List (List Ln)} {K : ByteArray} {ns : List Int} (h : wideB cs K ns = false) : cs.length ≤ 20 ∧ ns.length ≤ 30 ∧ K.size ≤ 60 ∧ ∀ l ∈ cs, l.length ≤ 20 := by
  unfold wideB at h
  by_cases h1 : 20 < cs.length
  · rw [if_pos h1] at h; cases h
  · rw [if_neg h1] at h
    by_cases h2 : 30 < ns.length
    · rw [if_pos h2] at h; cases h
    · rw [if_neg h2] at h
      by_cases h3 : 60 < K.size
      · rw [if_pos h3] at h; cases h
      · rw [if_neg h3] at h
        exact ⟨by omega, by omega, by omega, wideL_ok h⟩
set_option maxHeartbeats 2000000 in
theorem wide_any (Ac An : Option Addr) (cc cn : Nat) (cs : List (List Ln)) (K : ByteArray) (per : Int) (ns : List Int) (w : World) (B : Nat) (hB : B ≤ w.heap.size) (h : RdLL w B Ac cs) (hl : ∀ l ∈ cs, l.length ≤ 9223372036854775807) (hcl : cs.length ≤ 9223372036854775807) (hl' : ns.length ≤ 9223372036854775807) (hK : K.size ≤ 9223372036854775807) :
    Calls Tryz.prog 7 #[.agg #[.slice Ac cs.length cc, .string K, .int .i64 per, .slice An ns.length cn]] w fun e w' => e = .returned (.bool (wideB cs K ns)) ∧ Below w.heap.size w w' := by
  have b0 : Below w.heap.size w (w.alloc (.cells #[.slice Ac cs.length cc, .string K, .int .i64 per, .slice An ns.length cn] 25)) := (Below.refl _ _).alloc (Nat.le_refl _) _
  have x0 : Blk (w.alloc (.cells #[.slice Ac cs.length cc, .string K, .int .i64 per, .slice An ns.length cn] 25)) w.heap.size 25 #[.slice Ac cs.length cc, .string K, .int .i64 per, .slice An ns.length cn] := Blk.new _ _ _
  have B0 := Lib.hid b0
  have X0 := Lib.hid x0
  clear b0 x0
  by_cases h1 : 20 < cs.length
  · have HE := Lib.hid (show wideB cs K ns = true from if_pos h1)
    have u1 : (20 : Int) < (cs.length : Int) := by omega
    clear h1
    go_enter Tryz.func7, Tryz.ntmps7
    go_wp2_with fail
    go_ret
    rw [HE.out]
    exact ⟨rfl, B0.out⟩
  · by_cases h2 : 30 < ns.length
    · have HE := Lib.hid (show wideB cs K ns = true from (if_neg h1).trans (if_pos h2))
      have u1 : ¬ (20 : Int) < (cs.length : Int) := by omega
      have u2 : (30 : Int) < (ns.length : Int) := by omega
      clear h1 h2
      go_enter Tryz.func7, Tryz.ntmps7
      go_wp2_with fail
      go_ret
      rw [HE.out]
      exact ⟨rfl, B0.out⟩
    · by_cases h3 : 60 < K.size
      · have HE := Lib.hid (show wideB cs K ns = true from (if_neg h1).trans ((if_neg h2).trans (if_pos h3)))
        have u1 : ¬ (20 : Int) < (cs.length : Int) := by omega
        have u2 : ¬ (30 : Int) < (ns.length : Int) := by omega
        have u3 : (60 : Int) < (K.size : Int) := by omega
        clear h1 h2 h3
        go_enter Tryz.func7, Tryz.ntmps7
        go_wp2_with fail
        go_ret
        rw [HE.out]
        exact ⟨rfl, B0.out⟩
      · have HE := Lib.hid (show wideB cs K ns = wideL cs from (if_neg h1).trans ((if_neg h2).trans (if_neg h3)))
        have u1 : ¬ (20 : Int) < (cs.length : Int) := by omega
        have u2 : ¬ (30 : Int) < (ns.length : Int) := by omega
        have u3 : ¬ (60 : Int) < (K.size : Int) := by omega
        clear h1 h2 h3
        go_enter Tryz.func7, Tryz.ntmps7
        go_wp2_with fail
        go_loopw [3] (fun iv wr => ∃ k : Nat, k ≤ cs.length ∧ iv = .int .i64 k ∧ wideL cs = wideL (cs.drop k) ∧ Below w.heap.size w wr ∧ Blk wr w.heap.size 25 #[.slice Ac cs.length cc, .string K, .int .i64 per, .slice An ns.length cn]) (fun iv _ => cs.length - (intOf iv).toNat)
        case atStart => exact ⟨0, Nat.zero_le _, rfl, rfl, B0.out, X0.out⟩
        case round =>
          obtain ⟨k, hk, rfl, hw, hbw, hx⟩ := hrel
          have HW := Lib.hid hw
          have HX := Lib.hid hx
          have c0 := hx.cell 0
          simp at c0
          clear hw hx
          by_cases hlt : k < cs.length
          · obtain ⟨b, o, a, c, rfl, hb, d0, hrd⟩ := (h.below (hbw.mono hB)) k hlt
            have hst : wideL (cs.drop k) = if 20 < cs[k].length then true else wideL (cs.drop (k + 1)) := by rw [List.drop_eq_getElem_cons hlt]; rfl
            have hll := hl _ (List.getElem_mem hlt)
            obtain ⟨l, hle⟩ : ∃ l, l = cs[k] := ⟨_, rfl⟩
            rw [← hle] at hst d0 hll
            have v1 : (0 : Int) ≤ (k : Int) := by omega
            have v2 : (k : Int) < (cs.length : Int) := by omega
            clear hrd hle
            by_cases h20 : 20 < l.length
            · have HF := Lib.hid (show wideL cs = true by rw [HW.out, hst, if_pos h20])
              have v3 : (20 : Int) < (l.length : Int) := by omega
              clear hst h20
              go_wp2_with fail
              go_ret
              rw [HE.out, HF.out]
              exact ⟨rfl, hbw⟩
            · have HF := Lib.hid (show wideL cs = wideL (cs.drop (k + 1)) by rw [HW.out, hst, if_neg h20])
              have v3 : ¬ (20 : Int) < (l.length : Int) := by omega
              clear hst h20
              go_wp2_with fail
              go_roundw
              case rel => exact ⟨k + 1, hlt, by go_num, HF.out, hbw, HX.out⟩
              case measure => simp [intOf]; omega
          · have HF := Lib.hid (show wideL cs = false by rw [HW.out, List.drop_eq_nil_of_le (by omega)]; rfl)
            go_wp2_with fail
            go_ret
            rw [HE.out, HF.out]
            exact ⟨rfl, hbw⟩
theorem infoSl : (Tryz.prog.info? 50).map (fun i => (i.zero, i.size, i.bytes)) = some (some (.slice none 0 0), 1, 24) := by kernel_rfl
theorem infoGt : (Tryz.prog.info? 34).map (·.size) = some 4 := by kernel_rfl
/-- Rows of different types lie in different blocks. -/
theorem own_types {w : World} {base base' : Nat} {e e' : TypeId} {sz sz' n n' : Nat} {v v' : Value} {xs xs' : List Value} (h : w.ownsRow base e sz v n xs) (h' : w.ownsRow base' e' sz' v' n' xs') (he : e ≠ e') : ∀ b, v.ownBlock = some b → v'.ownBlock ≠ some b := fun b hb hb' => by
  rcases h.2 with ⟨rfl, _⟩ | ⟨g, cap, cur, rfl, _, hh, _⟩
  · simp [Value.ownBlock] at hb
  · rcases h'.2 with ⟨rfl, _⟩ | ⟨g', cap', cur', rfl, _, hh', _⟩
    · simp [Value.ownBlock] at hb'
    · have e1 : g = b := by simpa [Value.ownBlock] using hb
      have e2 : g' = b := by simpa [Value.ownBlock] using hb'
      subst e1
      subst e2
      rw [hh] at hh'
      injection hh' with hh'
      injection hh' with _ h4
      exact he h4
theorem But.grown {g : Nat} {a w w' : World} {row : Option Nat} (h : But g a w) (hg : w.grownBy w' row) (hr : ∀ k, row = some k → a.heap.size ≤ k) : But g a w' :=
  ⟨hg.os.trans h.os, hg.tape.trans h.tape, hg.output.trans h.output, Nat.le_trans h.size hg.size, fun k hk hk2 => (hg.block k (Nat.lt_of_lt_of_le hk h.size) (fun e => by have := hr k e.symm; omega)).trans (h.blk k hk hk2)⟩
/-- Slices of the call's own that hold curves. -/
def VsOwn (w : World) (base : Nat) (vs : List SlV) (cs : List (List Ln)) : Prop := vs.length = cs.length ∧ ∀ i (h : i < vs.length) (h2 : i < cs.length), ∃ a c, vs[i] = ⟨a, cs[i].length, c⟩ ∧ w.ownsRow base 97 2 (.slice a cs[i].length c) cs[i].length (cs[i].flatMap Ln.cs)
theorem VsOwn.ok {w : World} {base : Nat} {vs : List SlV} {cs : List (List Ln)} (h : VsOwn w base vs cs) : VsOk w vs cs := ⟨h.1, fun i h1 h2 => by
  obtain ⟨a, c, e, r⟩ := h.2 i h1 h2
  exact ⟨a, c, e, RdL.of_own r⟩⟩
theorem VsOwn.same {w w' : World} {base : Nat} {vs : List SlV} {cs : List (List Ln)} (h : VsOwn w base vs cs) (hs : ∀ v n xs, w.ownsRow base 97 2 v n xs → w'.ownsRow base 97 2 v n xs) : VsOwn w' base vs cs := ⟨h.1, fun i h1 h2 => by
  obtain ⟨a, c, e, r⟩ := h.2 i h1 h2
  exact ⟨a, c, e, hs _ _ _ r⟩⟩
theorem VsOwn.snoc {w : World} {base : Nat} {vs : List SlV} {cs : List (List Ln)} {l : List Ln} {a : Option Addr} {c : Nat} (h : VsOwn w base vs cs) (r : w.ownsRow base 97 2 (.slice a l.length c) l.length (l.flatMap Ln.cs)) : VsOwn w base (vs ++ [⟨a, l.length, c⟩]) (cs ++ [l]) := by
  refine ⟨by simp [h.1], fun i h1 h2 => ?_⟩
  by_cases hi : i < vs.length
  · obtain ⟨a', c', e, r'⟩ := h.2 i hi (by rw [← h.1]; exact hi)
    refine ⟨a', c', ?_, ?_⟩
    · rw [List.getElem_append_left hi, List.getElem_append_left (by rw [← h.1]; exact hi)]; exact e
    · rw [List.getElem_append_left (by rw [← h.1]; exact hi)]; exact r'
  · have e : i = vs.length := by simp at h1; omega
    subst e
    refine ⟨a, c, ?_, ?_⟩
    · simp [h.1]
    · simp [h.1]; exact r
/-- A gate of the call's own. -/
def EndGt (cs : List (List Ln)) (K : ByteArray) (per : Int) (ns : List Int) (w : World) (e : Ending) (w' : World) : Prop :=
  ∃ Ac cc An cn, e = .returned (.agg #[.slice Ac cs.length cc, .string K, .int .i64 per, .slice An ns.length cn]) ∧ RdLL w' w'.heap.size Ac cs ∧ RdI w' w'.heap.size An ns ∧ Below w.heap.size w w'
/-- The same, and what the curves' slice can hold. -/
def EndGtC (cs : List (List Ln)) (K : ByteArray) (per : Int) (ns : List Int) (w : World) (e : Ending) (w' : World) : Prop :=
  ∃ Ac cc An cn, cs.length ≤ cc ∧ e = .returned (.agg #[.slice Ac cs.length cc, .string K, .int .i64 per, .slice An ns.length cn]) ∧ RdLL w' w'.heap.size Ac cs ∧ RdI w' w'.heap.size An ns ∧ Below w.heap.size w w'
theorem own_capS {w : World} {base : Nat} {e : TypeId} {sz : Nat} {A : Option Addr} {n c : Nat} {xs : List Value} (h : w.ownsRow base e sz (.slice A n c) n xs) : n ≤ c := by
  obtain ⟨_, ⟨h1, h2⟩ | ⟨g, cap, cur, hv, hg, hh, hn, hc, hs, ht⟩⟩ := h
  · omega
  · simp only [Value.slice.injEq, true_and] at hv
    omega
set_option maxHeartbeats 4000000 in
theorem ownGate_cap (Ac An : Option Addr) (cc cn : Nat) (cs : List (List Ln)) (K : ByteArray) (per : Int) (ns : List Int) (w : World) (B : Nat) (hB : B ≤ w.heap.size) (h : RdLL w B Ac cs) (h' : RdI w B An ns) (hl : ∀ l ∈ cs, l.length ≤ 20) (hcl : cs.length ≤ 20) (hl' : ns.length ≤ 30) :
    Calls Tryz.prog 11 #[.agg #[.slice Ac cs.length cc, .string K, .int .i64 per, .slice An ns.length cn]] w (EndGtC cs K per ns w) := by
  obtain ⟨i0, hi0, hz0, hz1, hz2⟩ := info_parts infoSl
  obtain ⟨i1, hi1, hy0, hy1, hy2⟩ := info_parts infoInt
  go_enter Tryz.func11, Tryz.ntmps11
  go_wp2_with fail
  obtain ⟨X, hX⟩ : ∃ X : World, X = ((w.alloc (.cells #[.slice Ac cs.length cc, .string K, .int .i64 per, .slice An ns.length cn] 25)).alloc (.cells #[.slice none 0 0, .string { data := #[] }, .int .i64 0, .slice none 0 0] 34)).alloc (.cells #[.slice none 0 0, .string K, .int .i64 per, .slice none 0 0] 34) := ⟨_, rfl⟩
  rw [← hX]
  obtain ⟨go, hgo⟩ : ∃ go, go = w.heap.size + 1 + 1 := ⟨_, rfl⟩
  obtain ⟨gr, hgr⟩ : ∃ gr, gr = w.heap.size + 1 := ⟨_, rfl⟩
  obtain ⟨ga, hga⟩ : ∃ ga, ga = w.heap.size := ⟨_, rfl⟩
  rw [← hgo, ← hgr, ← hga]
  have kX : Below w.heap.size w X := by rw [hX]; exact (((Below.refl _ _).alloc (Nat.le_refl _) _).alloc (le_alloc (Nat.le_refl _) _) _).alloc (le_alloc (le_alloc (Nat.le_refl _) _) _) _
  have xa : Blk X ga 25 #[.slice Ac cs.length cc, .string K, .int .i64 per, .slice An ns.length cn] := by rw [hX, hga]; exact ((Blk.new _ _ _).alloc _).alloc _
  have xr : Blk X gr 34 #[.slice none 0 0, .string { data := #[] }, .int .i64 0, .slice none 0 0] := by rw [hX, hgr]; exact Blk.alloc (show Blk _ _ 34 _ from heap_alloc_new2 _ _ _) _
  have xo : Blk X go 34 #[.slice none 0 0, .string K, .int .i64 per, .slice none 0 0] := by
    rw [hX, hgo]
    have := heap_alloc_new ((w.alloc (.cells #[.slice Ac cs.length cc, .string K, .int .i64 per, .slice An ns.length cn] 25)).alloc (.cells #[.slice none 0 0, .string { data := #[] }, .int .i64 0, .slice none 0 0] 34)) (.cells #[.slice none 0 0, .string K, .int .i64 per, .slice none 0 0] 34)
    simp at this
    simpa [Blk] using this
  have n1 : ga ≠ go := by omega
  have n2 : gr ≠ go := by omega
  have n3 : w.heap.size ≤ go := by omega
  have n4 : go < X.heap.size := xo.lt
  have n5 : ga ≠ gr := by omega
  have n6 : w.heap.size ≤ gr := by omega
  have XA := Lib.hid xa
  have XR := Lib.hid xr
  have XO := Lib.hid xo
  have KX := Lib.hid kX
  clear hX hgo hgr hga kX xa xr xo
  go_loopw [4] (fun iv wr => ∃ (k : Nat) (vs : List SlV) (A : Option Addr) (c : Nat), k ≤ cs.length ∧ iv = .int .i64 k ∧ VsOwn wr X.heap.size vs (cs.take k) ∧ Blk wr go 34 #[.slice A vs.length c, .string K, .int .i64 per, .slice none 0 0] ∧ wr.ownsRow X.heap.size 50 1 (.slice A vs.length c) vs.length (vs.flatMap sC) ∧ But go X wr) (fun iv _ => cs.length - (intOf iv).toNat)
  case atStart => exact ⟨0, [], none, 0, Nat.zero_le _, rfl, ⟨rfl, fun i h1 => by simp at h1⟩, XO.out, ⟨by simp, .inl ⟨rfl, rfl⟩⟩, But.refl _ _⟩
  case round =>
    obtain ⟨k, vs, A, c, hk, rfl, hvs, hbo, hrow, hbut⟩ := hrel
    have HVS := Lib.hid hvs
    have ROW := Lib.hid hrow
    have HBO := Lib.hid hbo
    have BT := Lib.hid hbut
    have xa := XA.out.but hbut n1
    have a0 := xa.cell 0
    have a3 := xa.cell 3
    simp at a0 a3
    have kw := KX.out.trans (hbut.below n3 KX.out.size)
    have zX := hbut.size
    clear hvs hrow hbo hbut xa
    by_cases hlt : k < cs.length
    · obtain ⟨b, o, a, ca, rfl, hb, d0, hrd⟩ := (h.below (kw.mono hB)) k hlt
      have hll := hl _ (List.getElem_mem hlt)
      obtain ⟨l, hle⟩ : ∃ l, l = cs[k] := ⟨_, rfl⟩
      rw [← hle] at d0 hrd hll
      have HTK := Lib.hid (show cs.take (k + 1) = cs.take k ++ [l] by rw [hle]; exact List.take_succ_eq_append_getElem hlt)
      have v1 : (0 : Int) ≤ (k : Int) := by omega
      have v2 : (k : Int) < (cs.length : Int) := by omega
      have HRD := Lib.hid hrd
      clear hle hrd
      go_wp2_with fail
      refine (ownLines_any a ca l wr B HRD.out (by omega)).mono ?_
      rintro e wv ⟨a', c', rfl, ol, kv⟩
      have hvl : vs.length ≤ 20 := by have := HVS.out.1; simp at this; omega
      have OL := Lib.hid (own_mono ol zX)
      have bo2 := HBO.out.below kv HBO.out.lt
      have BO2 := Lib.hid bo2
      have o0 := bo2.cell 0
      simp at o0
      have row2 := own_below ROW.out kv (Nat.le_refl _)
      have ROW2 := Lib.hid row2
      have zv : X.heap.size ≤ wv.heap.size := Nat.le_trans zX kv.size
      have BT2 := Lib.hid (BT.out.trans (But.of_below (g := go) kv))
      have VS2 := Lib.hid (HVS.out.same (w' := wv) fun v n xs r => own_below r kv (Nat.le_refl _))
      have q1 : vs.length + [(⟨a', l.length, c'⟩ : SlV)].length ≤ maxLen := by simp only [maxLen, List.length_cons, List.length_nil]; omega
      have q2 : (vs.length + [(⟨a', l.length, c'⟩ : SlV)].length) * 24 ≤ 140737488355328 := by simp only [List.length_cons, List.length_nil]; omega
      clear ol bo2 row2 kv a0 a3 d0
      obtain ⟨vs', hvs'⟩ : ∃ vs', vs' = vs ++ [(⟨a', l.length, c'⟩ : SlV)] := ⟨_, rfl⟩
      have HVN := Lib.hid hvs'
      clear hvs'
      go_wp2_with (at_builtin; refine wpList_append_rd _ sC rfl (.tmp 25) (.tmp 27) 22 rfl X.heap.size 50 i0 (.slice none 0 0) 1 24 Tryz.underlying22 hi0 hz0 hz1 hz2 rfl (by omega) sC_len sC_one (.slice A vs.length c) vs.length (vs.flatMap sC) rfl (ROW2.out.alloc _) (wv.heap.size + 1) (some ⟨wv.heap.size, 0, none⟩) 1 [(⟨a', l.length, c'⟩ : SlV)] rfl (Rd.new_ rfl (by omega) sC_len) q1 q2 (le_alloc zv _) ?_; intro v3 w4 row4 g4 at4; obtain ⟨A5, c5, hv5, row4⟩ := own_app row4 (by omega); rw [← HVN.out] at hv5 row4; rw [hv5] at at4 ⊢; clear hv5; have bo4 := (BO2.out.alloc (.cells #[.slice a' l.length c'] 50)).grown g4 (fun e => by have := own_ge ROW2.out go e.symm; omega); have z4 := bo4.frozen 0; have e4 := bo4.cell 0; simp at e4)
      have hsm : ∀ v n xs, wv.ownsRow X.heap.size 97 2 v n xs → (w4.setCell ⟨go, 0, none⟩ (.slice A5 vs'.length c5)).ownsRow X.heap.size 97 2 v n xs := fun v n xs r => own_sameG r fun b hb => by
        have hge := own_ge r b hb
        have hlt := own_lt' r b hb
        have hne := own_types r ROW2.out (by decide) b hb
        exact (Below.heap_setCell w4 ⟨go, 0, none⟩ _ b (fun e => by have : b = go := e; omega)).trans ((g4.block b (by simp; omega) (fun e => hne e.symm)).trans (Below.heap_alloc wv _ b hlt))
      have hvs2 : VsOwn (w4.setCell ⟨go, 0, none⟩ (.slice A5 vs'.length c5)) X.heap.size vs' (cs.take (k + 1)) := by
        rw [HTK.out, HVN.out]
        rw [HVN.out] at hsm
        exact (VS2.out.same hsm).snoc (hsm _ _ _ OL.out)
      have hrow5 : (w4.setCell ⟨go, 0, none⟩ (.slice A5 vs'.length c5)).ownsRow X.heap.size 50 1 (.slice A5 vs'.length c5) vs'.length (vs'.flatMap sC) := own_sameG row4 fun b hb => by
        have hge := own_ge row4 b hb
        exact Below.heap_setCell w4 ⟨go, 0, none⟩ _ b (fun e => by have : b = go := e; omega)
      have hbut5 : But go X (w4.setCell ⟨go, 0, none⟩ (.slice A5 vs'.length c5)) := ((BT2.out.trans (But.of_below ((Below.refl _ _).alloc (Nat.le_refl _) _))).grown g4 (fun k hk => own_ge ROW2.out k hk)).set_ 0 _
      have hbo5 : Blk (w4.setCell ⟨go, 0, none⟩ (.slice A5 vs'.length c5)) go 34 #[.slice A5 vs'.length c5, .string K, .int .i64 per, .slice none 0 0] := bo4.set_ 0 (.slice A5 vs'.length c5)
      clear at4 g4 row4 bo4 z4 e4 hsm
      go_roundw
      case rel => exact ⟨k + 1, vs', A5, c5, hlt, by go_num, hvs2, hbo5, hrow5, hbut5⟩
      case measure => simp [intOf]; omega
    · obtain rfl : k = cs.length := by omega
      have hvs := HVS.out
      rw [List.take_length] at hvs
      have hvl : vs.length = cs.length := hvs.1
      have HVS2 := Lib.hid hvs
      have HVL := Lib.hid hvl
      have o3 := HBO.out.cell 3
      simp at o3
      have hzw : w.heap.size ≤ wr.heap.size := kw.size
      have KW := Lib.hid kw
      have hgl : go < wr.heap.size := HBO.out.lt
      have XR2 := Lib.hid (XR.out.but BT.out n2)
      clear hvs hvl kw HVS
      go_upto_region 8 with (at_builtin; refine wpList_append_rd _ iCs rfl (.tmp 31) (.tmp 33) 23 rfl wr.heap.size 3 i1 (.int .i64 0) 1 8 Tryz.underlying23 hi1 hy0 hy1 hy2 rfl (by omega) iCs_len iCs_one (.slice none 0 0) 0 [] rfl ⟨by simp, .inl ⟨rfl, rfl⟩⟩ B An cn ns rfl (h'.below (KW.out.mono hB)) (by simp only [maxLen]; omega) (by omega) (Nat.le_refl _) ?_; intro v3 w4 row4 g4 at4; simp only [Nat.zero_add, List.nil_append] at row4; obtain ⟨A3, c3, rfl⟩ := own_slice row4 (by omega); have k4 : Below wr.heap.size wr w4 := (Below.refl _ _).grown g4 (Nat.le_refl _) (by simp [Value.ownBlock]); have bo4 := HBO.out.below k4 hgl; have z4 := bo4.frozen 3; have e4 := bo4.cell 3; simp at e4)
      obtain ⟨Y, hY⟩ : ∃ Y : World, Y = w4.setCell ⟨go, 3, none⟩ (.slice A3 ns.length c3) := ⟨_, rfl⟩
      have kY : Below w.heap.size w Y := by rw [hY]; exact (KW.out.trans (k4.mono hzw)).setCell (p := ⟨go, 3, none⟩) n3 _
      have yo : Blk Y go 34 #[.slice A vs.length c, .string K, .int .i64 per, .slice A3 ns.length c3] := by rw [hY]; exact bo4.set_ 3 _
      have yr : Blk Y gr 34 #[.slice none 0 0, .string { data := #[] }, .int .i64 0, .slice none 0 0] := by rw [hY]; exact (XR2.out.below k4 XR2.out.lt).far n2 _
      have yrow : Y.ownsRow wr.heap.size 3 1 (.slice A3 ns.length c3) ns.length (ns.flatMap iCs) := by
        rw [hY]
        exact own_sameG row4 fun b hb => Below.heap_setCell w4 ⟨go, 3, none⟩ _ b (fun e => by have h9 : b = go := e; have := own_ge row4 b hb; omega)
      have yvs : VsOwn Y X.heap.size vs cs := by
        rw [hY]
        refine HVS2.out.same fun v n xs r => ?_
        have r2 := own_below r k4 (Nat.le_refl _)
        exact own_sameG r2 fun b hb => Below.heap_setCell w4 ⟨go, 3, none⟩ _ b (fun e => by have h9 : b = go := e; have := own_ge r b hb; omega)
      have yrv : Y.ownsRow X.heap.size 50 1 (.slice A vs.length c) vs.length (vs.flatMap sC) := by
        rw [hY]
        have r2 := own_below ROW.out k4 (Nat.le_refl _)
        exact own_sameG r2 fun b hb => Below.heap_setCell w4 ⟨go, 3, none⟩ _ b (fun e => by have h9 : b = go := e; have := own_ge ROW.out b hb; omega)
      have p0 := yo.cell 0
      have p1 := yo.cell 1
      have p2 := yo.cell 2
      have p3 := yo.cell 3
      have r0 := yr.cell 0
      have r1 := yr.cell 1
      have r2 := yr.cell 2
      have r3 := yr.cell 3
      have f0 := yr.frozen 0
      have f1 := yr.frozen 1
      have f2 := yr.frozen 2
      have f3 := yr.frozen 3
      simp at p0 p1 p2 p3 r0 r1 r2 r3
      have YR := Lib.hid yr
      have YROW := Lib.hid yrow
      have YVS := Lib.hid yvs
      have YRV := Lib.hid yrv
      have KY := Lib.hid kY
      rw [← hY]
      clear hY kY yo yr yrow yvs yrv z4 e4 o3 a0 a3 bo4 g4 at4 row4 k4
      go_wp2_with fail
      have hfar : ∀ b, b ≠ gr → (((((Y.setCell ⟨gr, 0, none⟩ (.slice A vs.length c)).setCell ⟨gr, 1, none⟩ (.string K)).setCell ⟨gr, 2, none⟩ (.int .i64 per)).setCell ⟨gr, 3, none⟩ (.slice A3 ns.length c3)).heap[b]? = Y.heap[b]?) := fun b hb => (Below.heap_setCell _ ⟨gr, 3, none⟩ _ b hb).trans ((Below.heap_setCell _ ⟨gr, 2, none⟩ _ b hb).trans ((Below.heap_setCell _ ⟨gr, 1, none⟩ _ b hb).trans (Below.heap_setCell _ ⟨gr, 0, none⟩ _ b hb)))
      have hxr : gr < X.heap.size := XR.out.lt
      have hfr : ∀ {base : Nat} {e : TypeId} {size : Nat} {v : Value} {n : Nat} {xs : List Value}, X.heap.size ≤ base → Y.ownsRow base e size v n xs → ((((Y.setCell ⟨gr, 0, none⟩ (.slice A vs.length c)).setCell ⟨gr, 1, none⟩ (.string K)).setCell ⟨gr, 2, none⟩ (.int .i64 per)).setCell ⟨gr, 3, none⟩ (.slice A3 ns.length c3)).ownsRow base e size v n xs := fun hb r => own_sameG r fun b h9 => hfar b (fun e => by have := own_ge r b h9; omega)
      have hblk := (((YR.out.set_ 0 (.slice A vs.length c)).set_ 1 (.string K)).set_ 2 (.int .i64 per)).set_ 3 (.slice A3 ns.length c3)
      have hbel : Below w.heap.size w ((((Y.setCell ⟨gr, 0, none⟩ (.slice A vs.length c)).setCell ⟨gr, 1, none⟩ (.string K)).setCell ⟨gr, 2, none⟩ (.int .i64 per)).setCell ⟨gr, 3, none⟩ (.slice A3 ns.length c3)) := (((KY.out.setCell (p := ⟨gr, 0, none⟩) n6 _).setCell (p := ⟨gr, 1, none⟩) n6 _).setCell (p := ⟨gr, 2, none⟩) n6 _).setCell (p := ⟨gr, 3, none⟩) n6 _
      have hll := RdLL.of_own (hfr (Nat.le_refl _) YRV.out) (YVS.out.same fun v n xs r => hfr (Nat.le_refl _) r).ok
      have hii : RdI _ _ A3 ns := Rd.of_own (hfr zX YROW.out) (by omega) iCs_len
      refine bodyPost_ret (v := .agg #[.slice A vs.length c, .string K, .int .i64 per, .slice A3 ns.length c3]) (results_cell_row (p := 2) rfl _ _ gr 34 #[.slice A vs.length c, .string K, .int .i64 per, .slice A3 ns.length c3] (0, 0) _ rfl hblk Tryz.underlying34 rfl infoGt) rfl ?_
      have hcap := own_capS YRV.out
      rw [HVL.out] at *
      exact ⟨A, c, A3, c3, hcap, rfl, hll, hii, hbel⟩
theorem ownGate_any (Ac An : Option Addr) (cc cn : Nat) (cs : List (List Ln)) (K : ByteArray) (per : Int) (ns : List Int) (w : World) (B : Nat) (hB : B ≤ w.heap.size) (h : RdLL w B Ac cs) (h' : RdI w B An ns) (hl : ∀ l ∈ cs, l.length ≤ 20) (hcl : cs.length ≤ 20) (hl' : ns.length ≤ 30) :
    Calls Tryz.prog 11 #[.agg #[.slice Ac cs.length cc, .string K, .int .i64 per, .slice An ns.length cn]] w (EndGt cs K per ns w) :=
  (ownGate_cap Ac An cc cn cs K per ns w B hB h h' hl hcl hl').mono fun e w' ⟨Ac, cc, An, cn, _, h⟩ => ⟨Ac, cc, An, cn, h⟩
end Go.Proofs.YthgpbdlmadjndaaGreatDoor
namespace Go.Proofs.YthgpbdlmadjndaaGreatDoor
open Go.RowKit
set_option maxRecDepth 100000
def cs0 : List (List Ln) := List.replicate 8 []
def vs0 : List SlV := List.replicate 8 ⟨none, 0, 0⟩
theorem cs0_get (f : Nat) : cs0.getD f [] = [] := by
  unfold cs0
  rw [List.getD_eq_getElem?_getD, List.getElem?_replicate]
  split <;> rfl
theorem vs0_row : (madeCells (Value.cells (.slice none 0 0)) (8 * 1)).toList = vs0.flatMap sC := by kernel_rfl
theorem cs0_ll {w : World} {base : Nat} {e : TypeId} {A : Option Addr} {c : Nat} (h : w.ownsRow base e 1 (.slice A 8 c) 8 (vs0.flatMap sC)) : RdLL w w.heap.size A cs0 :=
  RdLL.of_own (vs := vs0) h ⟨rfl, fun i h1 h2 => by
    have e1 : vs0[i] = ⟨none, 0, 0⟩ := by unfold vs0; exact List.getElem_replicate _
    have e2 : cs0[i] = [] := by unfold cs0; exact List.getElem_replicate _
    have e3 : cs0[i].length = 0 := congrArg List.length e2
    refine ⟨none, 0, ?_, ?_⟩
    · show vs0[i] = ⟨none, cs0[i].length, 0⟩
      rw [e3]; exact e1
    · show RdL w w.heap.size none cs0[i]
      rw [e2]; exact Rd.nil_⟩
theorem cs0_len (l : List Ln) (h : l ∈ cs0) : l.length ≤ 9223372036854775807 := by
  unfold cs0 at h
  rw [(List.mem_replicate.1 h).2]
  simp
set_option maxHeartbeats 2000000 in
theorem opens_any (S : Nat → Addr) (w : World) (hS : GS w w.heap.size S) : Calls Tryz.prog 6 #[] w fun e w' => e = .returned (.bool true) ∧ Below w.heap.size w w' := by
  obtain ⟨i0, hi0, hz0, hz1, hz2⟩ := info_parts infoSl
  have H1 := Lib.hid (show runErr cs0 (kindN bFifo) 2 [] [⟨0, 3, 5⟩] = (0, -1) by decide)
  have H2 := Lib.hid (show runQ cs0 (kindN bFifo) 2 [] [⟨0, 3, 5⟩] = [⟨0, 3, 5⟩] by decide)
  have H3 := Lib.hid (show runL cs0 (kindN bFifo) 2 [] [⟨0, 3, 5⟩] = [⟨0, 5, 11⟩] by decide)
  go_enter Tryz.func6, Tryz.ntmps6
  go_wp2_with (at_make; refine wpList_make_full _ rfl (.const (.int .i64 8)) (.const (.int .i64 8)) 22 rfl w.heap.size 50 i0 (.slice none 0 0) 1 Tryz.underlying22 hi0 hz0 hz1 .i64 .i64 8 8 8 rfl rfl rfl rfl (by rw [hz2]; omega) (by simp only [maxLen]; omega) (Nat.le_refl _) ?_; intro w1 row1 g1; rw [vs0_row] at row1)
  have k1 : Below w.heap.size w w1 := (Below.refl _ _).grown g1 (Nat.le_refl _) (by simp)
  obtain ⟨g, hg⟩ : ∃ g, g = w.heap.size := ⟨_, rfl⟩
  have hll := cs0_ll row1
  rw [← hg] at hll ⊢
  obtain ⟨X, hX⟩ : ∃ X : World, X = (w1.alloc (.cells #[.slice (some ⟨g, 0, none⟩) 8 8, .string ⟨#[102, 105, 102, 111]⟩, .int .i64 2, .slice none 0 0] 34)).alloc (.cells #[.int .i64 0, .int .i64 3, .int .i64 5] 58) := ⟨_, rfl⟩
  obtain ⟨gp, hgp⟩ : ∃ gp, gp = w1.heap.size + 1 := ⟨_, rfl⟩
  have k1X : Below w1.heap.size w1 X := by rw [hX]; exact ((Below.refl _ _).alloc (Nat.le_refl _) _).alloc (le_alloc (Nat.le_refl _) _) _
  have kX : Below w.heap.size w X := k1.trans (k1X.mono k1.size)
  have hrp : RdP X X.heap.size (some ⟨gp, 0, none⟩) [⟨0, 3, 5⟩] := by
    rw [hgp]
    exact Rd.of_block (T := 58) (by rw [hX]; exact heap_alloc_new2 _ _ _) rfl (by rw [hX]; simp) (by omega) Pk.cs_len
  have HRUN := Lib.hid (grun_any (some ⟨g, 0, none⟩) none (some ⟨gp, 0, none⟩) 8 0 1 cs0 bFifo 2 [] [⟨0, 3, 5⟩] S X X.heap.size (Nat.le_refl _) ((hll.below k1X).more k1X.size) Rd.nil_ hrp ((hS.below kX).more kX.size) cs0_len (by simp) (by simp))
  have HX := Lib.hid hX
  rw [← hgp, ← hX]
  have KX := Lib.hid kX
  clear hX hgp hg row1 g1 k1 k1X kX hrp hll
  refine (HRUN.out).mono ?_
  rintro e w2 ⟨A1, c1, A2, c2, v, rfl, o1, o2, hv, k2⟩
  rw [H1.out] at hv
  obtain rfl := hv.nil_of rfl
  rw [H2.out] at o1 ⊢
  rw [H3.out] at o2 ⊢
  obtain ⟨b, o, rfl, hb, d0, d1, d2⟩ := RdS.get (RdS.of_own o2) (i := 0) (by simp)
  simp at d2
  have K2 := Lib.hid (KX.out.trans (k2.mono KX.out.size))
  clear o1 o2 hv k2 d0 d1
  go_wp2_with fail
  go_ret
  exact ⟨rfl, K2.out⟩
end Go.Proofs.YthgpbdlmadjndaaGreatDoor
