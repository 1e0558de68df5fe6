/- Package curve: tidy, at right lines. Conditions: where they lie; at least one, few. -/
import Derived.Test.YteeaipehkhldhaaDoorSortL
import Derived.Test.YteeaipehkhldhaaDoorDlyM
namespace Go.Proofs.YteeaipehkhldhaaDoor
open Go.RowKit
set_option maxRecDepth 100000
theorem prod_bd {a b : Int} (ha : -100000 ≤ a ∧ a ≤ 100000) (hb : -100000 ≤ b ∧ b ≤ 100000) : -10000000000 ≤ a * b ∧ a * b ≤ 10000000000 := by
  have h1 := Int.mul_nonneg (show 0 ≤ 100000 - a by omega) (show 0 ≤ 100000 - b by omega)
  have h2 := Int.mul_nonneg (show 0 ≤ 100000 + a by omega) (show 0 ≤ 100000 + b by omega)
  have h3 := Int.mul_nonneg (show 0 ≤ 100000 - a by omega) (show 0 ≤ 100000 + b by omega)
  have h4 := Int.mul_nonneg (show 0 ≤ 100000 + a by omega) (show 0 ≤ 100000 - b by omega)
  rw [Int.sub_mul, Int.mul_sub, Int.mul_sub] at h1
  rw [Int.add_mul, Int.mul_add, Int.mul_add] at h2
  rw [Int.sub_mul, Int.mul_add, Int.mul_add] at h3
  rw [Int.add_mul, Int.mul_sub, Int.mul_sub] at h4
  omega
theorem needless_any (a b c : Ln) (w : World) (ha : okLn a) (hb : okLn b) (hc : okLn c) :
    Calls Tryd.prog 88 #[.agg #[.int .i64 a.b, .int .i64 a.r], .agg #[.int .i64 b.b, .int .i64 b.r], .agg #[.int .i64 c.b, .int .i64 c.r]] w fun e w' => e = .returned (.bool (needB a b c)) ∧ Grew w w' := by
  obtain ⟨a1, a2, a3, a4⟩ := ha
  obtain ⟨b1, b2, b3, b4⟩ := hb
  obtain ⟨c1, c2, c3, c4⟩ := hc
  obtain ⟨m0, m1⟩ := prod_bd (a := c.b - a.b) (b := a.r - b.r) (by omega) (by omega)
  obtain ⟨n0, n1⟩ := prod_bd (a := b.b - a.b) (b := a.r - c.r) (by omega) (by omega)
  have E := Lib.hid (show needB a b c = decide ((c.b - a.b) * (a.r - b.r) ≤ (b.b - a.b) * (a.r - c.r)) from rfl)
  go_enter Tryd.func88, Tryd.ntmps88
  go_wp2_with fail
  go_ret
  exact ⟨by rw [E.out]; rfl, ((Grew.alloc _ _).trans (Grew.alloc _ _)).trans (Grew.alloc _ _)⟩
theorem own_trunc {w : World} {base : Nat} {e : TypeId} {sz : Nat} {f : Ln → List Value} {A : Option Addr} {c : Nat} {l l' : List Ln} (hf : ∀ x, (f x).length = sz) (h : w.ownsRow base e sz (.slice A (l ++ l').length c) (l ++ l').length ((l ++ l').flatMap f)) : w.ownsRow base e sz (.slice A l.length c) l.length (l.flatMap f) := by
  obtain ⟨_, ⟨h1, h2⟩ | ⟨g, cap, cur, hv, hg, hh, hn, hc, hs, ht⟩⟩ := h
  · have hl : l ++ l' = [] := List.eq_nil_of_length_eq_zero h2
    obtain ⟨rfl, rfl⟩ := List.append_eq_nil_iff.1 hl
    exact ⟨by simp, .inl ⟨h1, rfl⟩⟩
  · simp only [Value.slice.injEq, true_and] at hv
    obtain ⟨rfl, rfl⟩ := hv
    refine ⟨by rw [flat_len f sz hf], .inr ⟨g, c, cur, rfl, hg, hh, by rw [List.length_append] at hn; omega, hc, hs, ?_⟩⟩
    have h9 : (cur.toList.take ((l ++ l').length * sz)).take (l.length * sz) = ((l ++ l').flatMap f).take (l.length * sz) := by rw [ht]
    rw [List.take_take, List.flatMap_append, ← flat_len f sz hf l, List.take_left, flat_len f sz hf l] at h9
    rw [← h9]
    congr 1
    have := Nat.mul_le_mul_right sz (show l.length ≤ (l ++ l').length by simp)
    omega
theorem own_capL {w : World} {base : Nat} {e : TypeId} {sz : Nat} {A : Option Addr} {n c : Nat} {xs : List Value} (h : w.ownsRow base e sz (.slice A n c) n xs) : n ≤ c := by
  obtain ⟨_, ⟨h1, h2⟩ | ⟨g, cap, cur, hv, hg, hh, hn, hc, hs, ht⟩⟩ := h
  · omega
  · simp only [Value.slice.injEq, true_and] at hv
    omega
theorem hull_sub (x : Ln) (st : List Ln) : ∀ y ∈ hullStep st x, y = x ∨ y ∈ st := by
  cases st with
  | nil => simp [hullStep]
  | cons t r =>
    intro y hy
    unfold hullStep at hy
    by_cases hc : t.r ≤ x.r
    · simp only [if_pos hc] at hy
      exact .inr hy
    · simp only [if_neg hc] at hy
      rcases List.mem_cons.1 hy with e | e
      · exact .inl e
      · exact .inr (pop_sub y e)
set_option maxHeartbeats 8000000 in
theorem tidy_any (A : Option Addr) (c : Nat) (l : List Ln) (w : World) (B : Nat) (hB : B ≤ w.heap.size) (h : RdL w B A l) (h1 : 1 ≤ l.length) (hl : l.length ≤ 1000) (hok : ∀ x ∈ l, okLn x) :
    Calls Tryd.prog 74 #[.slice A l.length c] w (EndOwn Ln.cs 2 24 (tidyRef l) w) := by
  obtain ⟨i0, hi0, hz0, hz1, hz2⟩ := info_parts infoLn
  go_enter Tryd.func74, Tryd.ntmps74
  go_wp2_with fail
  refine (cloneLn_any A c l w B hB h (by omega)).mono ?_
  rintro e w1 ⟨A1, c1, rfl, o1, k1⟩
  obtain ⟨g, cap, hv1, _, hlt1⟩ := o1.form (by omega)
  simp only [Value.slice.injEq, true_and] at hv1
  obtain ⟨rfl, rfl⟩ := hv1
  go_wp2_with fail
  refine (sortLn_any g c1 w.heap.size l w1 o1 (by omega)).mono ?_
  rintro e w2 ⟨rfl, s, hp, hs, o2, k2⟩
  have hsl : s.length = l.length := hp.length_eq
  have hsok : ∀ x ∈ s, okLn x := fun x hx => hok x (hp.mem_iff.1 hx)
  have k2' : Below w.heap.size w w2 := k1.trans k2
  have hT : tidyRef l = (hullL s).reverse := (tidy_eq (fun x => hp.mem_iff) hs (fun y hy => (hsok y hy).2.2.1)).symm
  have r2 := RdL.of_own o2
  rw [← hsl]
  have HT := Lib.hid hT
  have HOK := Lib.hid hsok
  have K2 := Lib.hid k2'
  have z2 := k2'.size
  have R2 := Lib.hid r2
  have hs1 : 1 ≤ s.length := by omega
  have hs2 : s.length ≤ 1000 := by omega
  clear hT hsok k2' r2 o2 o1 hs hp k1 k2 hok h hlt1 hsl h1 hl
  go_wp2_with fail
  go_loopw [3, 14] (fun ov iv wr => ∃ (k : Nat) (st : List Ln) (A3 : Option Addr) (c3 : Nat), k ≤ s.length ∧ iv = .int .i64 k ∧ ov = .slice A3 st.reverse.length c3 ∧ st = (s.take k).foldl hullStep [] ∧ st.length ≤ k ∧ (∀ x ∈ st, okLn x) ∧ wr.ownsRow w2.heap.size 24 2 (.slice A3 st.reverse.length c3) st.reverse.length (st.reverse.flatMap Ln.cs) ∧ Below w2.heap.size w2 wr) (fun _ iv _ => s.length - (intOf iv).toNat)
  case atStart => exact ⟨0, [], none, 0, Nat.zero_le _, rfl, rfl, rfl, by simp, by simp, ⟨by simp, .inl ⟨rfl, rfl⟩⟩, Below.refl _ _⟩
  case round =>
    obtain ⟨k, st, A3, c3, hk, rfl, rfl, hst, hsk, hso, row, hbw⟩ := hrel
    have HST := Lib.hid hst
    have HSO := Lib.hid hso
    have ROW := Lib.hid row
    have zw := hbw.size
    clear hst hso row
    by_cases hlt : k < s.length
    · have hokk := HOK.out _ (List.getElem_mem hlt)
      have OKK := Lib.hid hokk
      obtain ⟨r1, r2, r3, r4⟩ := hokk
      have hstep : (s.take (k + 1)).foldl hullStep [] = hullStep st s[k] := by
        rw [List.take_succ_eq_append_getElem hlt, List.foldl_append, ← HST.out]
        rfl
      have HSTEP := Lib.hid hstep
      obtain ⟨b, o, e0, hb, d0, d1⟩ := RdL.get (R2.out.below hbw) hlt
      simp only [Option.some.injEq, Addr.mk.injEq, and_true] at e0
      obtain ⟨rfl, rfl⟩ := e0
      simp only [Nat.zero_add] at d0 d1
      clear hstep
      go_upto_region 7 with fail
      obtain ⟨V, hV⟩ : ∃ V : World, V = wr.alloc (.cells #[.int .i64 s[k].b, .int .i64 s[k].r] 24) := ⟨_, rfl⟩
      have bx : Blk V wr.heap.size 24 #[.int .i64 s[k].b, .int .i64 s[k].r] := by rw [hV]; exact Blk.new _ _ _
      have rowV : V.ownsRow w2.heap.size 24 2 (.slice A3 st.reverse.length c3) st.reverse.length (st.reverse.flatMap Ln.cs) := by rw [hV]; exact ROW.out.alloc _
      have kV : Below w2.heap.size w2 V := by rw [hV]; exact hbw.alloc zw _
      obtain ⟨gx, hgx⟩ : ∃ gx, gx = wr.heap.size := ⟨_, rfl⟩
      have hgxn : ∀ q, (Value.slice A3 st.reverse.length c3).ownBlock = some q → q ≠ gx := fun q hq => by have := own_ltL ROW.out q hq; omega
      rw [← hV, ← hgx]
      rw [← hgx] at bx
      have x0 : V.cell? ⟨gx, 0, none⟩ = some (.int .i64 s[k].b) := bx.cell 0
      have x1 : V.cell? ⟨gx, 1, none⟩ = some (.int .i64 s[k].r) := bx.cell 1
      have BX := Lib.hid bx
      have ROWV := Lib.hid rowV
      obtain ⟨x, hx⟩ : ∃ x, x = s[k] := ⟨_, rfl⟩
      rw [← hx] at x0 x1 r1 r2 r3 r4
      rw [← hx] at OKK HSTEP BX
      clear hV hgx bx rowV d0 d1 hx
      cases st with
      | nil =>
        have E := Lib.hid (show hullStep [] x = [x] from rfl)
        have Hnew := Lib.hid (show Rd (V.alloc (.cells #[.int .i64 x.b, .int .i64 x.r] 24)) (V.heap.size + 1) 2 Ln.cs (some ⟨V.heap.size, 0, none⟩) [x] from RdL.new_ x)
        have zV : w2.heap.size ≤ V.heap.size := kV.size
        have ROW0 := Lib.hid (show V.ownsRow w2.heap.size 24 2 (.slice A3 0 c3) 0 [] from ROWV.out)
        have e0 : ([] : List Ln).reverse.length = 0 := rfl
        rw [e0]
        clear e0
        go_upto_region 8 with fail
        go_quiet (fail)
        rename Nat => nq
        go_wp2_with fail
        go_loopw [3, 7] (fun ov kv wr => ov = .slice A3 0 c3 ∧ kv = .int .i64 0 ∧ ∃ q, wr = V.drewN q) (fun _ _ _ => 0)
        case atStart => exact ⟨rfl, rfl, nq, rfl⟩
        case round =>
          obtain ⟨rfl, rfl, q, rfl⟩ := hrel
          go_wp2_with fail
          go_quiet (fail)
          rename Nat => nq2
          obtain ⟨X, hX⟩ : ∃ X : World, X = (V.drewN q).drewN nq2 := ⟨_, rfl⟩
          have ROW2 := Lib.hid (show X.ownsRow w2.heap.size 24 2 (.slice A3 0 c3) 0 [] by rw [hX]; exact ROW0.out)
          have kX : Below w2.heap.size w2 X := by rw [hX]; exact below_drewN (below_drewN kV _) _
          have y0 : X.cell? ⟨gx, 0, none⟩ = some (.int .i64 x.b) := by rw [hX]; exact x0
          have y1 : X.cell? ⟨gx, 1, none⟩ = some (.int .i64 x.r) := by rw [hX]; exact x1
          have zX := kX.size
          rw [← hX]
          clear hX x0 x1
          go_wp2_with (at_builtin; refine wpList_append_rd _ Ln.cs rfl (.tmp 57) (.tmp 59) _ rfl w2.heap.size 24 i0 _ 2 16 Tryd.underlying22 hi0 hz0 hz1 hz2 rfl (by omega) Ln.cs_len Ln.cs_one (.slice A3 0 c3) 0 [] rfl (ROW2.out.alloc _) (X.heap.size + 1) (some ⟨X.heap.size, 0, none⟩) 1 [x] rfl (RdL.new_ x) (by simp only [maxLen, List.length_cons, List.length_nil]; omega) (by simp only [List.length_cons, List.length_nil]; omega) (by simp; omega) ?_; intro v3 w3 row3 g3' at3; simp only [Nat.zero_add, List.nil_append] at row3; obtain ⟨A9, c9, rfl⟩ := own_slice row3 (by omega); have k3 := below_app (kX.alloc zX _) (ROW2.out.alloc _) g3' (Nat.le_refl _) (by simp; omega))
          have hst2 : [x] = (s.take (k + 1)).foldl hullStep [] := by rw [HSTEP.out, E.out]
          refine ⟨⟨k + 1, [x], A9, c9, hlt, by go_num, rfl, hst2, by simp, fun y hy => (by simp at hy; subst hy; exact OKK.out), row3, k3⟩, ?_⟩
          simp [intOf]
          omega
      | cons t r =>
        have hgt : ((t :: r).reverse : List Ln) = r.reverse ++ [t] := by simp
        obtain ⟨m, hm⟩ : ∃ m, m = r.reverse.length := ⟨_, rfl⟩
        have hlen : (t :: r).reverse.length = m + 1 := by rw [hm]; simp
        have hmk : m + 1 ≤ k := by rw [← hlen]; simpa using hsk
        rw [hlen]
        obtain ⟨b3, o3, rfl, hb3, t0, t1⟩ := RdL.get (i := m) (RdL.of_own ROWV.out) (by rw [hlen]; omega)
        have htm : (t :: r).reverse[m]'(by rw [hlen]; omega) = t := by
          simp only [hgt]
          rw [List.getElem_append_right (by omega)]
          simp [hm]
        rw [htm] at t0 t1
        have HM := Lib.hid hm
        clear hm htm hgt
        go_upto_region 8 with fail
        have hw1 : IntKind.i64.wrap ((m : Int) + 1 - 1) = m := by rw [IntKind.wrap_i64]; omega
        have i0' : (0 : Int) ≤ (m : Int) := by omega
        have i1' : (m : Int) < (m : Int) + 1 := by omega
        have i2' : (0 : Int) < (m : Int) + 1 := by omega
        by_cases hc : t.r ≤ x.r
        · have E := Lib.hid (show hullStep (t :: r) x = t :: r from if_pos hc)
          go_quiet (fail)
          rename Nat => nq
          go_wp2_with fail
          refine ⟨⟨k + 1, t :: r, some ⟨b3, o3, none⟩, c3, hlt, by go_num, by rw [hlen], by rw [HSTEP.out, E.out], by omega, HSO.out, ROWV.out, below_drewN kV nq⟩, ?_⟩
          simp [intOf]
          omega
        · have E := Lib.hid (show hullStep (t :: r) x = x :: hullPop x (t :: r) from if_neg hc)
          go_quiet (fail)
          rename Nat => nq
          go_wp2_with fail
          go_loopw [3, 7] (fun ov kv wr => ∃ (st' : List Ln) (n' : Nat), 1 ≤ n' ∧ n' ≤ m + 1 ∧ n' = st'.reverse.length ∧ hullPop x (t :: r) = hullPop x st' ∧ (∀ y ∈ st', y ∈ t :: r) ∧ ov = .slice (some ⟨b3, o3, none⟩) n' c3 ∧ kv = .int .i64 n' ∧ wr.ownsRow w2.heap.size 24 2 (.slice (some ⟨b3, o3, none⟩) st'.reverse.length c3) st'.reverse.length (st'.reverse.flatMap Ln.cs) ∧ Below w2.heap.size w2 wr ∧ Blk wr gx 24 #[.int .i64 x.b, .int .i64 x.r]) (fun _ kv _ => (intOf kv).toNat)
          case atStart => exact ⟨t :: r, m + 1, by omega, Nat.le_refl _, hlen.symm, rfl, fun y hy => hy, rfl, rfl, ROWV.out, below_drewN kV nq, BX.out.drewN nq⟩
          case round =>
            obtain ⟨st', n', hn1, hnm, hn', hpop, hsub, rfl, rfl, row', kw', bx'⟩ := hrel
            have HPOP := Lib.hid hpop
            have HSUB := Lib.hid hsub
            have ROW' := Lib.hid row'
            have HN' := Lib.hid hn'
            have x0 : wr.cell? ⟨gx, 0, none⟩ = some (.int .i64 x.b) := bx'.cell 0
            have x1 : wr.cell? ⟨gx, 1, none⟩ = some (.int .i64 x.r) := bx'.cell 1
            clear hpop hsub row' hn'
            go_wp2_with fail
            match st', HPOP, HSUB, ROW', HN' with
            | [], _, _, _, HN' => exact absurd HN'.out (by simp; omega)
            | [b1], HPOP, HSUB, ROW', HN' =>
              obtain rfl : n' = 1 := HN'.out
              go_quiet (fail)
              rename Nat => nq2
              obtain ⟨X, hX⟩ : ∃ X : World, X = wr.drewN nq2 := ⟨_, rfl⟩
              have ROW2 := Lib.hid (show X.ownsRow w2.heap.size 24 2 (.slice (some ⟨b3, o3, none⟩) 1 c3) 1 ([b1].reverse.flatMap Ln.cs) by rw [hX]; exact ROW'.out)
              have kX : Below w2.heap.size w2 X := by rw [hX]; exact below_drewN kw' _
              have y0 : X.cell? ⟨gx, 0, none⟩ = some (.int .i64 x.b) := by rw [hX]; exact x0
              have y1 : X.cell? ⟨gx, 1, none⟩ = some (.int .i64 x.r) := by rw [hX]; exact x1
              have zX := kX.size
              rw [← hX]
              clear hX
              clear x0 x1
              go_wp2_with (at_builtin; refine wpList_append_rd _ Ln.cs rfl (.tmp 57) (.tmp 59) _ rfl w2.heap.size 24 i0 _ 2 16 Tryd.underlying22 hi0 hz0 hz1 hz2 rfl (by omega) Ln.cs_len Ln.cs_one (.slice (some ⟨b3, o3, none⟩) 1 c3) 1 ([b1].reverse.flatMap Ln.cs) rfl (ROW2.out.alloc _) (X.heap.size + 1) (some ⟨X.heap.size, 0, none⟩) 1 [x] rfl (RdL.new_ x) (by simp only [maxLen, List.length_cons, List.length_nil] <;> omega) (by simp only [List.length_cons, List.length_nil] <;> omega) (by simp <;> omega) ?_; intro v3 w3 row3 g3' at3; have row4 : w3.ownsRow w2.heap.size 24 2 v3 ([b1].reverse.length + [x].length) ([b1].reverse.flatMap Ln.cs ++ [x].flatMap Ln.cs) := (by rw [show [b1].reverse.length = 1 from rfl]; exact row3); obtain ⟨A9, c9, hv9, row5⟩ := own_app (l := [b1].reverse) (l' := [x]) row4 (by omega); subst hv9; have k3 := below_app (kX.alloc zX _) (ROW2.out.alloc _) g3' (Nat.le_refl _) (by simp; omega))
              have hst2 : x :: [b1] = (s.take (k + 1)).foldl hullStep [] := by rw [HSTEP.out, E.out, HPOP.out, show hullPop x [b1] = [b1] from rfl]
              have erev : [b1].reverse ++ [x] = (x :: [b1]).reverse := by simp
              rw [erev] at row5
              refine ⟨⟨k + 1, x :: [b1], A9, c9, hlt, by go_num, by rw [← erev]; first | done | simp, hst2, by (simp; omega), fun y hy => (by rcases List.mem_cons.1 hy with e | e; rw [e]; exact OKK.out; exact HSO.out y (HSUB.out y e)), row5, k3⟩, ?_⟩
              simp [intOf]
              omega
            | b1 :: a1 :: r1, HPOP, HSUB, ROW', HN' =>
              obtain ⟨q, hq⟩ : ∃ q, q = r1.length := ⟨_, rfl⟩
              have hnq : n' = q + 2 := by rw [HN'.out, hq]; simp
              obtain ⟨q1, hq1⟩ : ∃ q1, q1 = q + 1 := ⟨_, rfl⟩
              have hrev : (b1 :: a1 :: r1).reverse = r1.reverse ++ [a1, b1] := by simp
              have hlen' : (b1 :: a1 :: r1).reverse.length = q + 2 := by rw [← hnq]; exact HN'.out.symm
              obtain ⟨b4, o4, e4, hb4, a0', a1'⟩ := RdL.get (i := q) (RdL.of_own ROW'.out) (by rw [hlen']; omega)
              obtain ⟨b5, o5, e5, hb5, b0', b1'⟩ := RdL.get (i := q1) (RdL.of_own ROW'.out) (by rw [hlen']; omega)
              simp only [Option.some.injEq, Addr.mk.injEq, and_true] at e4 e5
              obtain ⟨rfl, rfl⟩ := e4
              obtain ⟨rfl, rfl⟩ := e5
              have ha1 : (b1 :: a1 :: r1).reverse[q]'(by rw [hlen']; omega) = a1 := by
                simp only [hrev]
                rw [List.getElem_append_right (by simp [hq])]
                simp [hq]
              have hb1 : (b1 :: a1 :: r1).reverse[q1]'(by rw [hlen']; omega) = b1 := by
                subst hq1
                simp only [hrev]
                rw [List.getElem_append_right (by simp [hq])]
                simp [hq]
              rw [ha1] at a0' a1'
              rw [hb1] at b0' b1'
              have okA := HSO.out a1 (HSUB.out a1 (by simp))
              have okB := HSO.out b1 (HSUB.out b1 (by simp))
              have v1 : IntKind.i64.wrap ((n' : Int) - 1) = (q1 : Int) := by rw [IntKind.wrap_i64]; omega
              have v2 : IntKind.i64.wrap ((n' : Int) - 2) = (q : Int) := by rw [IntKind.wrap_i64]; omega
              have j0 : (0 : Int) ≤ (q : Int) := by omega
              have j1 : (q : Int) < (n' : Int) := by omega
              have j2 : (0 : Int) ≤ (q1 : Int) := by omega
              have j3 : (q1 : Int) < (n' : Int) := by omega
              have j4 : (1 : Int) < (n' : Int) := by omega
              have HNQ := Lib.hid hnq
              have HQ1 := Lib.hid hq1
              have KP := Lib.hid (show ∀ W, Below wr.heap.size wr W → W.cell? ⟨b3, o3 + q * 2, none⟩ = some (.int .i64 a1.b) ∧ W.cell? ⟨b3, o3 + q * 2 + 1, none⟩ = some (.int .i64 a1.r) ∧ W.cell? ⟨b3, o3 + q1 * 2, none⟩ = some (.int .i64 b1.b) ∧ W.cell? ⟨b3, o3 + q1 * 2 + 1, none⟩ = some (.int .i64 b1.r) ∧ W.cell? ⟨gx, 0, none⟩ = some (.int .i64 x.b) ∧ W.cell? ⟨gx, 1, none⟩ = some (.int .i64 x.r) from fun W hb => ⟨(hb.cell (p := ⟨b3, o3 + q * 2, none⟩) hb4).trans a0', (hb.cell (p := ⟨b3, o3 + q * 2 + 1, none⟩) hb4).trans a1', (hb.cell (p := ⟨b3, o3 + q1 * 2, none⟩) hb4).trans b0', (hb.cell (p := ⟨b3, o3 + q1 * 2 + 1, none⟩) hb4).trans b1', (hb.cell (p := ⟨gx, 0, none⟩) bx'.lt).trans x0, (hb.cell (p := ⟨gx, 1, none⟩) bx'.lt).trans x1⟩)
              have HLEN' := Lib.hid hlen'
              clear hq hrev hlen' ha1 hb1 hnq hq1
              cases hnb : needB a1 b1 x with
              | true =>
                have HNB := Lib.hid hnb
                clear hnb
                go_region_held3 (fun W => W.cell? ⟨b3, o3 + q * 2, none⟩ = some (.int .i64 a1.b) ∧ W.cell? ⟨b3, o3 + q * 2 + 1, none⟩ = some (.int .i64 a1.r) ∧ W.cell? ⟨b3, o3 + q1 * 2, none⟩ = some (.int .i64 b1.b) ∧ W.cell? ⟨b3, o3 + q1 * 2 + 1, none⟩ = some (.int .i64 b1.r) ∧ W.cell? ⟨gx, 0, none⟩ = some (.int .i64 x.b) ∧ W.cell? ⟨gx, 1, none⟩ = some (.int .i64 x.r))
                  (first | go_keep | exact KP.out _ (((Below.refl _ _).drew).trans (k6.below (Nat.le_refl _))))
                  (first | (go_at_call 88; refine (needless_any a1 b1 x _ okA okB OKK.out).mono ?_; rw [HNB.out]; rintro e w6 ⟨rfl, k6⟩))
                have kw6 : Below w2.heap.size w2 w6 := kw'.trans ((((Below.refl _ _).drew).trans (k6.below (Nat.le_refl _))).mono kw'.size)
                have k66 : Below wr.heap.size wr w6 := ((Below.refl _ _).drew).trans (k6.below (Nat.le_refl _))
                have row6 : w6.ownsRow w2.heap.size 24 2 (.slice (some ⟨b3, o3, none⟩) (a1 :: r1).reverse.length c3) (a1 :: r1).reverse.length ((a1 :: r1).reverse.flatMap Ln.cs) := by
                  have h9 : w6.ownsRow w2.heap.size 24 2 (.slice (some ⟨b3, o3, none⟩) (b1 :: a1 :: r1).reverse.length c3) (b1 :: a1 :: r1).reverse.length ((b1 :: a1 :: r1).reverse.flatMap Ln.cs) := own_same ROW'.out fun q9 hq9 => k66.block q9 (own_ltL ROW'.out q9 hq9)
                  rw [List.reverse_cons] at h9
                  exact own_trunc Ln.cs_len h9
                have bx6 := bx'.below k66 bx'.lt
                have hcap := own_capL ROW'.out
                have hcap2 : n' ≤ c3 := by rw [HN'.out]; exact hcap
                have hpop2 : hullPop x (t :: r) = hullPop x (a1 :: r1) := by rw [HPOP.out, hullPop, if_pos HNB.out]
                have hn2 : q1 = (a1 :: r1).reverse.length := by
                  have e9 := HLEN'.out
                  have e8 := HQ1.out
                  simp at e9 ⊢
                  omega
                have HN2 := Lib.hid hn2
                have hq1b : 1 ≤ q1 ∧ q1 ≤ m + 1 := by have := HQ1.out; have := HNQ.out; omega
                have hnq1 : (n' : Int) - 1 = (q1 : Int) := by have := HQ1.out; have := HNQ.out; omega
                have ROW6 := Lib.hid row6
                clear hcap hn2 row6 x0 x1 a0' a1' b0' b1'
                go_wp2_with fail
                go_roundw
                case rel => exact ⟨a1 :: r1, q1, hq1b.1, hq1b.2, HN2.out, hpop2, fun y hy => HSUB.out y (List.mem_cons_of_mem _ hy), rfl, rfl, by rw [← HN2.out]; rw [← HN2.out] at ROW6; exact ROW6.out, kw6, bx6⟩
                case measure => simp [intOf]; omega
              | false =>
                have HNB := Lib.hid hnb
                clear hnb
                go_region_held3 (fun W => W.cell? ⟨b3, o3 + q * 2, none⟩ = some (.int .i64 a1.b) ∧ W.cell? ⟨b3, o3 + q * 2 + 1, none⟩ = some (.int .i64 a1.r) ∧ W.cell? ⟨b3, o3 + q1 * 2, none⟩ = some (.int .i64 b1.b) ∧ W.cell? ⟨b3, o3 + q1 * 2 + 1, none⟩ = some (.int .i64 b1.r) ∧ W.cell? ⟨gx, 0, none⟩ = some (.int .i64 x.b) ∧ W.cell? ⟨gx, 1, none⟩ = some (.int .i64 x.r))
                  (first | go_keep | exact KP.out _ (((Below.refl _ _).drew).trans (k6.below (Nat.le_refl _))))
                  (first | (go_at_call 88; refine (needless_any a1 b1 x _ okA okB OKK.out).mono ?_; rw [HNB.out]; rintro e X ⟨rfl, k6⟩))
                have kX : Below w2.heap.size w2 X := kw'.trans ((((Below.refl _ _).drew).trans (k6.below (Nat.le_refl _))).mono kw'.size)
                have k66 : Below wr.heap.size wr X := ((Below.refl _ _).drew).trans (k6.below (Nat.le_refl _))
                have ROW2 := Lib.hid (show X.ownsRow w2.heap.size 24 2 (.slice (some ⟨b3, o3, none⟩) n' c3) n' ((b1 :: a1 :: r1).reverse.flatMap Ln.cs) by
                  rw [HN'.out]
                  exact own_same ROW'.out fun q9 hq9 => k66.block q9 (own_ltL ROW'.out q9 hq9))
                have bx6 := bx'.below k66 bx'.lt
                have y0 : X.cell? ⟨gx, 0, none⟩ = some (.int .i64 x.b) := bx6.cell 0
                have y1 : X.cell? ⟨gx, 1, none⟩ = some (.int .i64 x.r) := bx6.cell 1
                have zX := kX.size
                clear bx6 a0' a1' b0' b1'
                clear x0 x1
                go_wp2_with (at_builtin; refine wpList_append_rd _ Ln.cs rfl (.tmp 57) (.tmp 59) _ rfl w2.heap.size 24 i0 _ 2 16 Tryd.underlying22 hi0 hz0 hz1 hz2 rfl (by omega) Ln.cs_len Ln.cs_one (.slice (some ⟨b3, o3, none⟩) n' c3) n' ((b1 :: a1 :: r1).reverse.flatMap Ln.cs) rfl (ROW2.out.alloc _) (X.heap.size + 1) (some ⟨X.heap.size, 0, none⟩) 1 [x] rfl (RdL.new_ x) (by simp only [maxLen, List.length_cons, List.length_nil] <;> omega) (by simp only [List.length_cons, List.length_nil] <;> omega) (by simp <;> omega) ?_; intro v3 w3 row3 g3' at3; have row4 : w3.ownsRow w2.heap.size 24 2 v3 ((b1 :: a1 :: r1).reverse.length + [x].length) ((b1 :: a1 :: r1).reverse.flatMap Ln.cs ++ [x].flatMap Ln.cs) := (by rw [← HN'.out]; exact row3); obtain ⟨A9, c9, hv9, row5⟩ := own_app (l := (b1 :: a1 :: r1).reverse) (l' := [x]) row4 (by omega); subst hv9; have k3 := below_app (kX.alloc zX _) (ROW2.out.alloc _) g3' (Nat.le_refl _) (by simp; omega))
                have hst2 : x :: b1 :: a1 :: r1 = (s.take (k + 1)).foldl hullStep [] := by rw [HSTEP.out, E.out, HPOP.out, hullPop, if_neg (by rw [HNB.out]; simp)]
                have erev : (b1 :: a1 :: r1).reverse ++ [x] = (x :: b1 :: a1 :: r1).reverse := by simp
                rw [erev] at row5
                refine ⟨⟨k + 1, x :: b1 :: a1 :: r1, A9, c9, hlt, by go_num, by rw [← erev]; first | done | simp, hst2, by (have e9 := HN'.out; have e8 := hnm; have e7 := hmk; simp at e9 ⊢; omega), fun y hy => (by rcases List.mem_cons.1 hy with e | e; rw [e]; exact OKK.out; exact HSO.out y (HSUB.out y e)), row5, k3⟩, ?_⟩
                simp [intOf]
                omega
    · have hend : st = hullL s := by
        rw [HST.out, List.take_of_length_le (by omega)]
        rfl
      have hfin : st.reverse = tidyRef l := by rw [HT.out, hend]
      have HFIN := Lib.hid hfin
      clear hend hfin HST
      go_wp2_with fail
      go_ret
      rw [← HFIN.out]
      exact ⟨A3, c3, rfl, own_mono ROW.out z2, K2.out.trans (hbw.mono z2)⟩
end Go.Proofs.YteeaipehkhldhaaDoor
