/- floodgateref1.TidyOf, at right lines. Conditions: where they lie; few. -/
import Derived.Test.YteeaipehkhldhaaDoorSome
namespace Go.Proofs.YteeaipehkhldhaaDoor
open Go.RowKit
set_option maxRecDepth 100000
theorem tw_take {out : List Ln} {p : Ln → Bool} {j : Nat} (hj : j ≤ out.length) (h1 : ∀ (m : Nat) (hm : m < out.length), m < j → p out[m] = true) (h2 : ∀ (hm : j < out.length), p out[j] = false) : out.takeWhile p = out.take j ∧ out.dropWhile p = out.drop j := by
  induction out generalizing j with
  | nil => simp
  | cons y r ih =>
    cases j with
    | zero =>
      have h3 : p y = false := h2 (by simp)
      rw [List.takeWhile_cons_of_neg (by simp [h3]), List.dropWhile_cons_of_neg (by simp [h3])]
      simp
    | succ j =>
      have h3 : p y = true := h1 0 (by simp) (by omega)
      obtain ⟨e1, e2⟩ := ih (j := j) (by simpa using hj) (fun m hm hmj => h1 (m + 1) (by simpa using hm) (by omega)) (fun hm => h2 (by simpa using hm))
      rw [List.takeWhile_cons_of_pos h3, List.dropWhile_cons_of_pos h3, e1, e2]
      simp
theorem RdL.prefix_ {w : World} {B : Nat} {A : Option Addr} {l : List Ln} (h : RdL w B A l) (j : Nat) : RdL w B A (l.take j) := fun h0 => by
  obtain ⟨b, o, e, hb, hc⟩ := h (by rw [List.length_take] at h0; omega)
  refine ⟨b, o, e, hb, fun i x hx => hc i x ?_⟩
  rw [List.getElem?_take] at hx
  by_cases hi : i < j
  · rw [if_pos hi] at hx; exact hx
  · rw [if_neg hi] at hx; cases hx
theorem RdL.suffix_ {w : World} {B b o : Nat} {l : List Ln} (h : RdL w B (some ⟨b, o, none⟩) l) (j : Nat) : RdL w B (some ⟨b, o + j * 2, none⟩) (l.drop j) := fun h0 => by
  obtain ⟨b', o', e, hb, hc⟩ := h (by rw [List.length_drop] at h0; omega)
  simp only [Option.some.injEq, Addr.mk.injEq, and_true] at e
  obtain ⟨rfl, rfl⟩ := e
  refine ⟨b, o + j * 2, rfl, hb, fun i x hx q v hv => ?_⟩
  rw [List.getElem?_drop] at hx
  have := hc (j + i) x hx q v hv
  rw [show o + (j + i) * 2 + q = o + j * 2 + i * 2 + q by omega] at this
  exact this
theorem refGo_step {l : List Ln} {i : Nat} (hi : i < l.length) (out : List Ln) : refGo l (l.length - i) out = refGo l (l.length - (i + 1)) (if someB l i then insT out l[i] else out) := by
  obtain ⟨n, hn⟩ : ∃ n, l.length - i = n + 1 := ⟨l.length - i - 1, by omega⟩
  rw [hn, refGo, show l.length - (n + 1) = i by omega, show l.length - (i + 1) = n by omega]
  simp [List.getD, List.getElem?_eq_getElem hi]
set_option maxHeartbeats 8000000 in
theorem tidyOf_any (A : Option Addr) (c : Nat) (l : List Ln) (w : World) (B : Nat) (hB : B ≤ w.heap.size) (h : RdL w B A l) (hl : l.length ≤ 1000) (hok : ∀ x ∈ l, okLn x) :
    Calls Tryd.prog 53 #[.slice A l.length c] w (EndOwn Ln.cs 2 24 (tidyRef l) w) := by
  obtain ⟨i0, hi0, hz0, hz1, hz2⟩ := info_parts infoLn
  go_enter Tryd.func53, Tryd.ntmps53
  go_wp2_with fail
  go_loopw [3, 4] (fun ov iv wr => ∃ (i : Nat) (out : List Ln) (A3 : Option Addr) (c3 : Nat), i ≤ l.length ∧ iv = .int .i64 i ∧ ov = .slice A3 out.length c3 ∧ out.length ≤ i ∧ tidyRef l = refGo l (l.length - i) out ∧ (out = [] → A3 = none ∧ c3 = 0) ∧ wr.ownsRow w.heap.size 24 2 (.slice A3 out.length c3) out.length (out.flatMap Ln.cs) ∧ Below w.heap.size w wr) (fun _ iv _ => l.length - (intOf iv).toNat)
  case atStart => exact ⟨0, [], none, 0, Nat.zero_le _, rfl, rfl, Nat.zero_le _, rfl, fun _ => ⟨rfl, rfl⟩, ⟨by simp, .inl ⟨rfl, rfl⟩⟩, Below.refl _ _⟩
  case round =>
    obtain ⟨i, out, A3, c3, hi, rfl, rfl, hoi, href, hnil, row, hbw⟩ := hrel
    have HREF := Lib.hid href
    have ROW := Lib.hid row
    have HNIL := Lib.hid hnil
    have zw := hbw.size
    clear href row hnil
    by_cases hil : i < l.length
    · have hrs := HREF.out.trans (refGo_step hil out)
      have q1 : (0 : Int) ≤ (i : Int) := by omega
      have q2 : (i : Int) < (l.length : Int) := by omega
      go_wp2_with fail
      refine (somewhere_any A c l i wr B (Nat.le_trans hB zw) (h.below (hbw.mono hB)) hl hil hok).mono ?_
      rintro e w2 ⟨rfl, k2⟩
      have k2' := hbw.trans (k2.mono zw)
      have z2 := k2'.size
      have row2 : w2.ownsRow w.heap.size 24 2 (.slice A3 out.length c3) out.length (out.flatMap Ln.cs) := own_same ROW.out fun q hq => k2.block q (own_ltL ROW.out q hq)
      have ROW2 := Lib.hid row2
      clear row2
      cases hsb : someB l i with
      | false =>
        rw [hsb, if_neg (by simp)] at hrs
        have HRS := Lib.hid hrs
        clear hrs hsb
        go_wp2_with fail
        go_roundw
        case rel => exact ⟨i + 1, out, A3, c3, hil, by go_num, rfl, by omega, HRS.out, HNIL.out, ROW2.out, k2'⟩
        case measure => simp [intOf]; omega
      | true =>
        rw [hsb, if_pos rfl] at hrs
        have HRS := Lib.hid hrs
        obtain ⟨b, o, rfl, hb, d0, d1⟩ := RdL.get (h.below (k2'.mono hB)) hil
        obtain ⟨x, hx⟩ : ∃ x, x = l[i] := ⟨_, rfl⟩
        rw [← hx] at d0 d1 HRS
        have hcap := own_capL ROW2.out
        obtain ⟨n, hn⟩ : ∃ n, n = out.length := ⟨_, rfl⟩
        rw [← hn] at hcap hoi ⊢
        have HN := Lib.hid hn
        have HX := Lib.hid hx
        clear hrs hsb hx hn
        go_wp2_with fail
        go_loopw [6] (fun jv wr => ∃ (j q : Nat), j ≤ n ∧ jv = .int .i64 j ∧ (∀ (m : Nat) (hm : m < out.length), m < j → x.r < out[m].r) ∧ wr = w2.drewN q) (fun jv _ => n - (intOf jv).toNat)
        case atStart => exact ⟨0, 0, Nat.zero_le _, rfl, fun m _ hm => by omega, rfl⟩
        case round =>
          obtain ⟨j, q, hj, rfl, hpre, rfl⟩ := hrel
          have HPRE := Lib.hid hpre
          clear hpre
          by_cases hjn : j < n
          · have hjo : j < out.length := by rw [← HN.out]; exact hjn
            obtain ⟨b3, o3, rfl, hb3, t0, t1⟩ := RdL.get (RdL.of_own ROW2.out) hjo
            obtain ⟨y, hy⟩ : ∃ y, y = out[j] := ⟨_, rfl⟩
            rw [← hy] at t0 t1
            have j0 : (0 : Int) ≤ (j : Int) := by omega
            have j1 : (j : Int) < (n : Int) := by omega
            have HY := Lib.hid hy
            clear hy
            by_cases hr : x.r < y.r
            · have HP2 := Lib.hid (show ∀ (m : Nat) (hm : m < out.length), m < j + 1 → x.r < out[m].r from fun m hm hmj => by
                by_cases e : m = j
                · subst e; rw [← HY.out]; exact hr
                · exact HPRE.out m hm (by omega))
              go_wp2_with fail
              go_quiet (fail)
              rename Nat => nq
              go_wp2_with fail
              go_roundw
              case rel => exact ⟨j + 1, q + nq, by omega, by go_num, HP2.out, by first | rfl | exact World.drewN_drewN _ _ _⟩
              case measure => simp [intOf]; omega
            · skip
              have hr2 : ¬ x.r < y.r := hr
              have HI := Lib.hid (show insT out x = out.take j ++ x :: out.drop j by
                obtain ⟨e1, e2⟩ := tw_take (out := out) (p := fun y => decide (x.r < y.r)) (j := j) (by omega) (fun m hm hmj => decide_eq_true (HPRE.out m hm hmj)) (fun hm => decide_eq_false (by rw [← HY.out]; exact hr))
                unfold insT
                rw [e1, e2])
              have hdl : (out.drop j).length = n - j := by rw [List.length_drop, ← HN.out]
              go_wp2_with fail
              go_quiet (fail)
              rename Nat => nq
              obtain ⟨X, hX⟩ : ∃ X : World, X = (w2.drewN q).drewN nq := ⟨_, rfl⟩
              rw [← hX]
              have ROWX := Lib.hid (show X.ownsRow w.heap.size 24 2 (.slice (some ⟨b3, o3, none⟩) out.length c3) out.length (out.flatMap Ln.cs) by rw [hX]; exact own_same ROW2.out fun q hq => rfl)
              have kX : Below w.heap.size w X := by rw [hX]; exact below_drewN (below_drewN k2' q) nq
              have zX := kX.size
              have zB : B ≤ X.heap.size := Nat.le_trans hB zX
              have HO := Lib.hid (RdL.of_own ROWX.out)
              have j2 : (j : Int) ≤ (n : Int) := by omega
              have hjc : j ≤ c3 := by omega
              have j3 : (j : Int) ≤ (c3 : Int) := by omega
              have htl : (out.take j).length = j := by rw [List.length_take]; omega
              clear hX
              go_upto_region 12 with (at_builtin; refine wpList_append_rd _ Ln.cs rfl (.tmp 38) (.tmp 41) _ rfl X.heap.size 24 i0 _ 2 16 Tryd.underlying22 hi0 hz0 hz1 hz2 rfl (by omega) Ln.cs_len Ln.cs_one (.slice none 0 0) 0 [] rfl ⟨by simp, .inl ⟨rfl, rfl⟩⟩ X.heap.size (some ⟨b3, o3, none⟩) c3 (out.take j) (by rw [htl]; rfl) (HO.out.prefix_ j) (by simp only [maxLen]; omega) (by omega) (Nat.le_refl _) ?_; intro v3 w3 row3 g3 at3; simp only [Nat.zero_add, List.nil_append] at row3; obtain ⟨A4, c4, rfl⟩ := own_slice row3 (by omega); have k3 : Below X.heap.size X w3 := (Below.refl _ _).grown g3 (Nat.le_refl _) (by simp [Value.ownBlock]); have z3 := k3.size; have ROW3 := Lib.hid row3; clear row3; obtain ⟨b', o', e', hb', e0, e1⟩ := RdL.get (h.below ((kX.trans (k3.mono zX)).mono hB)) hil; simp only [Option.some.injEq, Addr.mk.injEq, and_true] at e'; obtain ⟨rfl, rfl⟩ := e'; rw [← HX.out] at e0 e1; clear at3 d0 d1)
              go_upto_region 13 with (at_builtin; refine wpList_append_rd _ Ln.cs rfl (.tmp 43) (.tmp 48) _ rfl X.heap.size 24 i0 _ 2 16 Tryd.underlying22 hi0 hz0 hz1 hz2 rfl (by omega) Ln.cs_len Ln.cs_one (.slice A4 (out.take j).length c4) (out.take j).length ((out.take j).flatMap Ln.cs) (by rw [htl]; rfl) (ROW3.out.alloc _) (w3.heap.size + 1) (some ⟨w3.heap.size, 0, none⟩) 1 [x] rfl (RdL.new_ x) (by simp only [maxLen, List.length_cons, List.length_nil] <;> omega) (by simp only [List.length_cons, List.length_nil] <;> omega) (by simp <;> omega) ?_; intro v5 w5 row5 g5 at5; obtain ⟨A6, c6, hv6, row6⟩ := own_app row5 (by omega); subst hv6; have ROW6 := Lib.hid row6; have k5 := below_app (k3.alloc z3 _) (ROW3.out.alloc _) g5 (Nat.le_refl _) (by simp <;> omega); have z5 := k5.size; clear row5 row6 at5 e0 e1)
              have hxl : (out.take j ++ [x]).length = j + 1 := by rw [List.length_append, htl]; rfl
              go_wp2_with (at_builtin; refine wpList_append_rd _ Ln.cs rfl (.tmp 50) (.tmp 53) _ rfl X.heap.size 24 i0 _ 2 16 Tryd.underlying22 hi0 hz0 hz1 hz2 rfl (by omega) Ln.cs_len Ln.cs_one (.slice A6 (out.take j ++ [x]).length c6) (out.take j ++ [x]).length ((out.take j ++ [x]).flatMap Ln.cs) (by rw [hxl]; rfl) ROW6.out X.heap.size (some ⟨b3, o3 + j * 2, none⟩) (c3 - j) (out.drop j) (by rw [hdl]; rfl) ((HO.out.suffix_ j).below k5) (by simp only [maxLen]; omega) (by omega) z5 ?_; intro v7 w7 row7 g7 at7; obtain ⟨A8, c8, hv8, row8⟩ := own_app row7 (by omega); subst hv8; have ROW8 := Lib.hid row8; have k7 := below_app k5 ROW6.out g7 (Nat.le_refl _) z5; clear row7 row8 at7)
              have hins : out.take j ++ [x] ++ out.drop j = insT out x := by rw [HI.out, List.append_assoc, List.singleton_append]
              have hil2 : (insT out x).length ≤ i + 1 := by rw [← hins, List.length_append, hxl, hdl]; omega
              have hine : insT out x = [] → A8 = none ∧ c8 = 0 := fun e => absurd (congrArg List.length e) (by rw [← hins, List.length_append, hxl]; simp)
              have row9 := ROW8.out
              rw [hins] at row9
              go_roundw
              case rel => exact ⟨i + 1, insT out x, A8, c8, hil, by go_num, congrArg (fun k => Value.slice A8 k c8) (by rw [← hins, List.length_append, hxl, hdl] <;> omega), hil2, HRS.out, hine, own_mono row9 zX, kX.trans (k7.mono zX)⟩
              case measure => simp [intOf]; omega
          · obtain rfl : j = n := by omega
            have HI := Lib.hid (show insT out x = out.take j ++ x :: out.drop j by
              obtain ⟨e1, e2⟩ := tw_take (out := out) (p := fun y => decide (x.r < y.r)) (j := j) (by rw [HN.out]; exact Nat.le_refl _) (fun m hm hmj => decide_eq_true (HPRE.out m hm hmj)) (fun hm => absurd hm (by rw [HN.out]; omega))
              unfold insT
              rw [e1, e2])
            have hdl : (out.drop j).length = 0 := by rw [List.length_drop, ← HN.out, Nat.sub_self]
            have hdn : out.drop j = [] := List.length_eq_zero_iff.1 hdl
            go_wp2_with fail
            go_quiet (fail)
            rename Nat => nq
            obtain ⟨X, hX⟩ : ∃ X : World, X = (w2.drewN q).drewN nq := ⟨_, rfl⟩
            rw [← hX]
            cases A3 with
            | none =>
              have ho0 : out = [] ∧ c3 = 0 := by
                cases out with
                | nil => exact ⟨rfl, (HNIL.out rfl).2⟩
                | cons a r => exact absurd (RdL.get (RdL.of_own ROW2.out) (i := 0) (by simp)) (by rintro ⟨b, o, e, -⟩; cases e)
              obtain ⟨ho1, rfl⟩ := ho0
              obtain rfl : j = 0 := by rw [HN.out, ho1]; rfl
              have ROWX := Lib.hid (show X.ownsRow w.heap.size 24 2 (.slice none out.length 0) out.length (out.flatMap Ln.cs) by rw [hX]; exact own_same ROW2.out fun q hq => rfl)
              have kX : Below w.heap.size w X := by rw [hX]; exact below_drewN (below_drewN k2' q) nq
              have zX := kX.size
              have zB : B ≤ X.heap.size := Nat.le_trans hB zX
              have HO := Lib.hid (RdL.of_own ROWX.out)
              have hoz : out.length = 0 := by rw [ho1]; rfl
              have htl : (out.take 0).length = 0 := by rw [List.length_take]; omega
              clear hX
              go_upto_region 12 with (at_builtin; refine wpList_append_rd _ Ln.cs rfl (.tmp 38) (.tmp 41) _ rfl X.heap.size 24 i0 _ 2 16 Tryd.underlying22 hi0 hz0 hz1 hz2 rfl (by omega) Ln.cs_len Ln.cs_one (.slice none 0 0) 0 [] rfl ⟨by simp, .inl ⟨rfl, rfl⟩⟩ X.heap.size none 0 (out.take 0) (by rw [htl]; rfl) (HO.out.prefix_ 0) (by simp only [maxLen]; omega) (by omega) (Nat.le_refl _) ?_; intro v3 w3 row3 g3 at3; simp only [Nat.zero_add, List.nil_append] at row3; obtain ⟨A4, c4, rfl⟩ := own_slice row3 (by omega); have k3 : Below X.heap.size X w3 := (Below.refl _ _).grown g3 (Nat.le_refl _) (by simp [Value.ownBlock]); have z3 := k3.size; have ROW3 := Lib.hid row3; clear row3; obtain ⟨b', o', e', hb', e0, e1⟩ := RdL.get (h.below ((kX.trans (k3.mono zX)).mono hB)) hil; simp only [Option.some.injEq, Addr.mk.injEq, and_true] at e'; obtain ⟨rfl, rfl⟩ := e'; rw [← HX.out] at e0 e1; clear at3 d0 d1)
              go_upto_region 13 with (at_builtin; refine wpList_append_rd _ Ln.cs rfl (.tmp 43) (.tmp 48) _ rfl X.heap.size 24 i0 _ 2 16 Tryd.underlying22 hi0 hz0 hz1 hz2 rfl (by omega) Ln.cs_len Ln.cs_one (.slice A4 (out.take 0).length c4) (out.take 0).length ((out.take 0).flatMap Ln.cs) (by rw [htl]; rfl) (ROW3.out.alloc _) (w3.heap.size + 1) (some ⟨w3.heap.size, 0, none⟩) 1 [x] rfl (RdL.new_ x) (by simp only [maxLen, List.length_cons, List.length_nil] <;> omega) (by simp only [List.length_cons, List.length_nil] <;> omega) (by simp <;> omega) ?_; intro v5 w5 row5 g5 at5; obtain ⟨A6, c6, hv6, row6⟩ := own_app row5 (by omega); subst hv6; have ROW6 := Lib.hid row6; have k5 := below_app (k3.alloc z3 _) (ROW3.out.alloc _) g5 (Nat.le_refl _) (by simp <;> omega); have z5 := k5.size; clear row5 row6 at5 e0 e1)
              have hxl : (out.take 0 ++ [x]).length = 0 + 1 := by rw [List.length_append, htl]; rfl
              go_wp2_with (at_builtin; refine wpList_append_rd _ Ln.cs rfl (.tmp 50) (.tmp 53) _ rfl X.heap.size 24 i0 _ 2 16 Tryd.underlying22 hi0 hz0 hz1 hz2 rfl (by omega) Ln.cs_len Ln.cs_one (.slice A6 (out.take 0 ++ [x]).length c6) (out.take 0 ++ [x]).length ((out.take 0 ++ [x]).flatMap Ln.cs) (by rw [hxl]; rfl) ROW6.out X.heap.size _ _ (out.drop 0) (by rw [hdl]; rfl) (by rw [hdn]; exact fun h0 => absurd h0 (by simp)) (by simp only [maxLen]; omega) (by omega) z5 ?_; intro v7 w7 row7 g7 at7; obtain ⟨A8, c8, hv8, row8⟩ := own_app row7 (by omega); subst hv8; have ROW8 := Lib.hid row8; have k7 := below_app k5 ROW6.out g7 (Nat.le_refl _) z5; clear row7 row8 at7)
              have hins : out.take 0 ++ [x] ++ out.drop 0 = insT out x := by rw [HI.out, List.append_assoc, List.singleton_append]
              have hil2 : (insT out x).length ≤ i + 1 := by rw [← hins, List.length_append, hxl, hdl]; omega
              have hine : insT out x = [] → A8 = none ∧ c8 = 0 := fun e => absurd (congrArg List.length e) (by rw [← hins, List.length_append, hxl]; simp)
              have row9 := ROW8.out
              rw [hins] at row9
              go_roundw
              case rel => exact ⟨i + 1, insT out x, A8, c8, hil, by go_num, congrArg (fun k => Value.slice A8 k c8) (by rw [← hins, List.length_append, hxl, hdl] <;> omega), hil2, HRS.out, hine, own_mono row9 zX, kX.trans (k7.mono zX)⟩
              case measure => simp [intOf]; omega
            | some p3 =>
              have ho1 : out ≠ [] := fun e => by cases (HNIL.out e).1
              have ho2 : 0 < out.length := List.length_pos_iff.2 ho1
              obtain ⟨b3, o3, e3, hb3, -, -⟩ := RdL.get (RdL.of_own ROW2.out) ho2
              cases e3
              rcases Nat.lt_or_ge j c3 with hcl | hcl
              · skip
                have ROWX := Lib.hid (show X.ownsRow w.heap.size 24 2 (.slice (some ⟨b3, o3, none⟩) out.length c3) out.length (out.flatMap Ln.cs) by rw [hX]; exact own_same ROW2.out fun q hq => rfl)
                have kX : Below w.heap.size w X := by rw [hX]; exact below_drewN (below_drewN k2' q) nq
                have zX := kX.size
                have zB : B ≤ X.heap.size := Nat.le_trans hB zX
                have HO := Lib.hid (RdL.of_own ROWX.out)
                have hjc : j ≤ c3 := by omega
                have j3 : (j : Int) ≤ (c3 : Int) := by omega
                have j4 : (j : Int) < (c3 : Int) := by omega
                have htl : (out.take j).length = j := by rw [List.length_take]; have := HN.out; omega
                clear hX
                go_upto_region 12 with (at_builtin; refine wpList_append_rd _ Ln.cs rfl (.tmp 38) (.tmp 41) _ rfl X.heap.size 24 i0 _ 2 16 Tryd.underlying22 hi0 hz0 hz1 hz2 rfl (by omega) Ln.cs_len Ln.cs_one (.slice none 0 0) 0 [] rfl ⟨by simp, .inl ⟨rfl, rfl⟩⟩ X.heap.size (some ⟨b3, o3, none⟩) c3 (out.take j) (by rw [htl]; rfl) (HO.out.prefix_ j) (by simp only [maxLen]; omega) (by omega) (Nat.le_refl _) ?_; intro v3 w3 row3 g3 at3; simp only [Nat.zero_add, List.nil_append] at row3; obtain ⟨A4, c4, rfl⟩ := own_slice row3 (by omega); have k3 : Below X.heap.size X w3 := (Below.refl _ _).grown g3 (Nat.le_refl _) (by simp [Value.ownBlock]); have z3 := k3.size; have ROW3 := Lib.hid row3; clear row3; obtain ⟨b', o', e', hb', e0, e1⟩ := RdL.get (h.below ((kX.trans (k3.mono zX)).mono hB)) hil; simp only [Option.some.injEq, Addr.mk.injEq, and_true] at e'; obtain ⟨rfl, rfl⟩ := e'; rw [← HX.out] at e0 e1; clear at3 d0 d1)
                go_upto_region 13 with (at_builtin; refine wpList_append_rd _ Ln.cs rfl (.tmp 43) (.tmp 48) _ rfl X.heap.size 24 i0 _ 2 16 Tryd.underlying22 hi0 hz0 hz1 hz2 rfl (by omega) Ln.cs_len Ln.cs_one (.slice A4 (out.take j).length c4) (out.take j).length ((out.take j).flatMap Ln.cs) (by rw [htl]; rfl) (ROW3.out.alloc _) (w3.heap.size + 1) (some ⟨w3.heap.size, 0, none⟩) 1 [x] rfl (RdL.new_ x) (by simp only [maxLen, List.length_cons, List.length_nil] <;> omega) (by simp only [List.length_cons, List.length_nil] <;> omega) (by simp <;> omega) ?_; intro v5 w5 row5 g5 at5; obtain ⟨A6, c6, hv6, row6⟩ := own_app row5 (by omega); subst hv6; have ROW6 := Lib.hid row6; have k5 := below_app (k3.alloc z3 _) (ROW3.out.alloc _) g5 (Nat.le_refl _) (by simp <;> omega); have z5 := k5.size; clear row5 row6 at5 e0 e1)
                have hxl : (out.take j ++ [x]).length = j + 1 := by rw [List.length_append, htl]; rfl
                go_wp2_with (at_builtin; refine wpList_append_rd _ Ln.cs rfl (.tmp 50) (.tmp 53) _ rfl X.heap.size 24 i0 _ 2 16 Tryd.underlying22 hi0 hz0 hz1 hz2 rfl (by omega) Ln.cs_len Ln.cs_one (.slice A6 (out.take j ++ [x]).length c6) (out.take j ++ [x]).length ((out.take j ++ [x]).flatMap Ln.cs) (by rw [hxl]; rfl) ROW6.out X.heap.size (some ⟨b3, o3 + j * 2, none⟩) (c3 - j) (out.drop j) (by rw [hdl]; rfl) (by rw [hdn]; exact fun h0 => absurd h0 (by simp)) (by simp only [maxLen]; omega) (by omega) z5 ?_; intro v7 w7 row7 g7 at7; obtain ⟨A8, c8, hv8, row8⟩ := own_app row7 (by omega); subst hv8; have ROW8 := Lib.hid row8; have k7 := below_app k5 ROW6.out g7 (Nat.le_refl _) z5; clear row7 row8 at7)
                have hins : out.take j ++ [x] ++ out.drop j = insT out x := by rw [HI.out, List.append_assoc, List.singleton_append]
                have hil2 : (insT out x).length ≤ i + 1 := by rw [← hins, List.length_append, hxl, hdl]; omega
                have hine : insT out x = [] → A8 = none ∧ c8 = 0 := fun e => absurd (congrArg List.length e) (by rw [← hins, List.length_append, hxl]; simp)
                have row9 := ROW8.out
                rw [hins] at row9
                go_roundw
                case rel => exact ⟨i + 1, insT out x, A8, c8, hil, by go_num, congrArg (fun k => Value.slice A8 k c8) (by rw [← hins, List.length_append, hxl, hdl] <;> omega), hil2, HRS.out, hine, own_mono row9 zX, kX.trans (k7.mono zX)⟩
                case measure => simp [intOf]; omega
              · obtain rfl : c3 = j := by omega
                have ROWX := Lib.hid (show X.ownsRow w.heap.size 24 2 (.slice (some ⟨b3, o3, none⟩) out.length c3) out.length (out.flatMap Ln.cs) by rw [hX]; exact own_same ROW2.out fun q hq => rfl)
                have kX : Below w.heap.size w X := by rw [hX]; exact below_drewN (below_drewN k2' q) nq
                have zX := kX.size
                have zB : B ≤ X.heap.size := Nat.le_trans hB zX
                have HO := Lib.hid (RdL.of_own ROWX.out)
                have j3 : (c3 : Int) ≤ (c3 : Int) := by omega
                have htl : (out.take c3).length = c3 := by rw [List.length_take]; have := HN.out; omega
                clear hX
                go_upto_region 12 with (at_builtin; refine wpList_append_rd _ Ln.cs rfl (.tmp 38) (.tmp 41) _ rfl X.heap.size 24 i0 _ 2 16 Tryd.underlying22 hi0 hz0 hz1 hz2 rfl (by omega) Ln.cs_len Ln.cs_one (.slice none 0 0) 0 [] rfl ⟨by simp, .inl ⟨rfl, rfl⟩⟩ X.heap.size (some ⟨b3, o3, none⟩) c3 (out.take c3) (by rw [htl]; rfl) (HO.out.prefix_ c3) (by simp only [maxLen]; omega) (by omega) (Nat.le_refl _) ?_; intro v3 w3 row3 g3 at3; simp only [Nat.zero_add, List.nil_append] at row3; obtain ⟨A4, c4, rfl⟩ := own_slice row3 (by omega); have k3 : Below X.heap.size X w3 := (Below.refl _ _).grown g3 (Nat.le_refl _) (by simp [Value.ownBlock]); have z3 := k3.size; have ROW3 := Lib.hid row3; clear row3; obtain ⟨b', o', e', hb', e0, e1⟩ := RdL.get (h.below ((kX.trans (k3.mono zX)).mono hB)) hil; simp only [Option.some.injEq, Addr.mk.injEq, and_true] at e'; obtain ⟨rfl, rfl⟩ := e'; rw [← HX.out] at e0 e1; clear at3 d0 d1)
                go_upto_region 13 with (at_builtin; refine wpList_append_rd _ Ln.cs rfl (.tmp 43) (.tmp 48) _ rfl X.heap.size 24 i0 _ 2 16 Tryd.underlying22 hi0 hz0 hz1 hz2 rfl (by omega) Ln.cs_len Ln.cs_one (.slice A4 (out.take c3).length c4) (out.take c3).length ((out.take c3).flatMap Ln.cs) (by rw [htl]; rfl) (ROW3.out.alloc _) (w3.heap.size + 1) (some ⟨w3.heap.size, 0, none⟩) 1 [x] rfl (RdL.new_ x) (by simp only [maxLen, List.length_cons, List.length_nil] <;> omega) (by simp only [List.length_cons, List.length_nil] <;> omega) (by simp <;> omega) ?_; intro v5 w5 row5 g5 at5; obtain ⟨A6, c6, hv6, row6⟩ := own_app row5 (by omega); subst hv6; have ROW6 := Lib.hid row6; have k5 := below_app (k3.alloc z3 _) (ROW3.out.alloc _) g5 (Nat.le_refl _) (by simp <;> omega); have z5 := k5.size; clear row5 row6 at5 e0 e1)
                have hxl : (out.take c3 ++ [x]).length = c3 + 1 := by rw [List.length_append, htl]; rfl
                go_wp2_with (at_builtin; refine wpList_append_rd _ Ln.cs rfl (.tmp 50) (.tmp 53) _ rfl X.heap.size 24 i0 _ 2 16 Tryd.underlying22 hi0 hz0 hz1 hz2 rfl (by omega) Ln.cs_len Ln.cs_one (.slice A6 (out.take c3 ++ [x]).length c6) (out.take c3 ++ [x]).length ((out.take c3 ++ [x]).flatMap Ln.cs) (by rw [hxl]; rfl) ROW6.out X.heap.size (some ⟨b3, o3, none⟩) 0 (out.drop c3) (by rw [hdl]; rfl) (by rw [hdn]; exact fun h0 => absurd h0 (by simp)) (by simp only [maxLen]; omega) (by omega) z5 ?_; intro v7 w7 row7 g7 at7; obtain ⟨A8, c8, hv8, row8⟩ := own_app row7 (by omega); subst hv8; have ROW8 := Lib.hid row8; have k7 := below_app k5 ROW6.out g7 (Nat.le_refl _) z5; clear row7 row8 at7)
                have hins : out.take c3 ++ [x] ++ out.drop c3 = insT out x := by rw [HI.out, List.append_assoc, List.singleton_append]
                have hil2 : (insT out x).length ≤ i + 1 := by rw [← hins, List.length_append, hxl, hdl]; omega
                have hine : insT out x = [] → A8 = none ∧ c8 = 0 := fun e => absurd (congrArg List.length e) (by rw [← hins, List.length_append, hxl]; simp)
                have row9 := ROW8.out
                rw [hins] at row9
                go_roundw
                case rel => exact ⟨i + 1, insT out x, A8, c8, hil, by go_num, congrArg (fun k => Value.slice A8 k c8) (by rw [← hins, List.length_append, hxl, hdl] <;> omega), hil2, HRS.out, hine, own_mono row9 zX, kX.trans (k7.mono zX)⟩
                case measure => simp [intOf]; omega
    · have hfin : tidyRef l = out := by rw [HREF.out, show l.length - i = 0 by omega]; rfl
      have HF := Lib.hid hfin
      clear hfin
      go_wp2_with fail
      go_ret
      rw [HF.out]
      exact ⟨A3, c3, rfl, ROW.out, hbw⟩
end Go.Proofs.YteeaipehkhldhaaDoor
