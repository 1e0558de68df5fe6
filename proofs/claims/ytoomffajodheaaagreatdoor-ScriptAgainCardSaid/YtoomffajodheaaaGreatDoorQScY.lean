/- ScriptAgain: the same lines make the same answers. Conditions: the commands lie; the script's ground lies. -/
import Derived.Test.YtoomffajodheaaaGreatDoorQScMe
set_option linter.all false
namespace Go.Proofs.YtoomffajodheaaaGreatDoor
open Go.RowKit
set_option maxRecDepth 100000
/-- Commands in memory. -/
def RdC (w : World) (A : Option Addr) (l : List Cm) : Prop := ∀ i (h : i < l.length), ∃ b o a c, A = some ⟨b, o, none⟩ ∧ b < w.heap.size ∧ w.cell? ⟨b, o + i * 3, none⟩ = some (.string l[i].w) ∧ w.cell? ⟨b, o + i * 3 + 1, none⟩ = some (.string l[i].k) ∧ w.cell? ⟨b, o + i * 3 + 2, none⟩ = some (.slice a l[i].n.length c) ∧ RdI w w.heap.size a l[i].n
/-- The lines of those that are commands. -/
noncomputable def cmL : List Cm → List ByteArray
  | [] => []
  | c :: r => if (lineV c).2 = true then (lineV c).1 :: cmL r else cmL r
theorem cmL_app (a b : List Cm) : cmL (a ++ b) = cmL a ++ cmL b := by
  induction a with
  | nil => rfl
  | cons c r ih =>
    show (if (lineV c).2 = true then (lineV c).1 :: cmL (r ++ b) else cmL (r ++ b)) = (if (lineV c).2 = true then (lineV c).1 :: cmL r else cmL r) ++ cmL b
    rw [ih]
    split <;> rfl
theorem cmL_take {l : List Cm} {k : Nat} (h : k < l.length) : cmL (l.take (k + 1)) = cmL (l.take k) ++ (if (lineV l[k]).2 = true then [(lineV l[k]).1] else []) := by
  rw [List.take_succ_eq_append_getElem h, cmL_app]
  congr 1
theorem cmL_len (l : List Cm) : (cmL l).length ≤ l.length := by
  induction l with
  | nil => exact Nat.le_refl _
  | cons c r ih =>
    show (if (lineV c).2 = true then (lineV c).1 :: cmL r else cmL r).length ≤ _
    split <;> simp only [List.length_cons] <;> omega
theorem cmL_pre (l : List Cm) (k : Nat) : (cmL l).take (cmL (l.take k)).length = cmL (l.take k) := by
  have h : cmL l = cmL (l.take k) ++ cmL (l.drop k) := by rw [← cmL_app, List.take_append_drop]
  rw [h, List.take_left]
def small (c : Cm) : Prop := c.n.length ≤ 20 ∧ c.w.size ≤ 60 ∧ c.k.size ≤ 60
theorem lineV_size {c : Cm} (h : small c) (h64 : ∀ x ∈ c.n, i64 x) : (lineV c).1.size ≤ 1000 := by
  by_cases hc : cmOk c
  · rw [lineV_yes hc, ← cmPre_all]
    have := cmPre_size h64 h.2.1 h.2.2 (Nat.le_refl c.n.length)
    have := h.1
    show (cmPre c c.n.length).size ≤ 1000
    omega
  · rw [lineV_no hc]
    exact Nat.zero_le _
theorem cmL_size {l : List Cm} (h : ∀ c ∈ l, small c) (h64 : ∀ c ∈ l, ∀ x ∈ c.n, i64 x) : ∀ x ∈ cmL l, x.size ≤ 1000 := by
  induction l with
  | nil => intro x hx; simp [cmL] at hx
  | cons c r ih =>
    intro x hx
    have hr := ih (fun c hc => h c (List.mem_cons_of_mem _ hc)) (fun c hc => h64 c (List.mem_cons_of_mem _ hc))
    unfold cmL at hx
    split at hx
    · rcases List.mem_cons.1 hx with hx | hx
      · rw [hx]; exact lineV_size (h c List.mem_cons_self) (h64 c List.mem_cons_self)
      · exact hr x hx
    · exact hr x hx
theorem goS_pre (s : Sc) (l : List ByteArray) (k : Nat) : (goS s l).take (goS s (l.take k)).length = goS s (l.take k) := by
  have h : goS s l = goS s (l.take k) ++ goS (endS s (l.take k)) (l.drop k) := by rw [← goS_app, List.take_append_drop]
  rw [h, List.take_left]
theorem own_two {w : World} {base n c : Nat} {A : Option Addr} {xs : List Value} (h : w.ownsRow base 9 1 (.slice A n c) n xs) : (A = none ∧ n = 0 ∧ c = 0) ∨ ∃ g, A = some ⟨g, 0, none⟩ := by
  obtain ⟨-, ⟨h1, h2⟩ | ⟨g, cap, cur, hv, -⟩⟩ := h
  · left
    injection h1 with a1 a2 a3
    exact ⟨a1, a2, a3⟩
  · right
    injection hv with a1 a2 a3
    exact ⟨g, a1⟩
theorem rdB_take {w : World} {B : Nat} {A : Option Addr} {l : List ByteArray} (h : RdB w B A l) (k : Nat) : RdB w B A (l.take k) := fun h0 => by
  obtain ⟨b, o, e, hb, hc⟩ := h (by rw [List.length_take] at h0; omega)
  exact ⟨b, o, e, hb, fun i x hx j v hv => hc i x (by rw [List.getElem?_take] at hx; split at hx; exact hx; cases hx) j v hv⟩
section
variable (A : Option Addr) (c : Nat) (l : List Cm) (cut : Int) (S : Nat → Addr) (w : World) (h : RdC w A l) (hS : SX w w.heap.size S) (h64 : ∀ c ∈ l, ∀ x ∈ c.n, i64 x)
include h hS h64
set_option maxHeartbeats 16000000 in
theorem again_any (hl : l.length ≤ 9223372036854775807) : Calls Tryz.prog 5 #[.slice A l.length c, .int .i64 cut] w fun e w' => e = .returned (.bool true) ∧ Below w.heap.size w w' := by
  obtain ⟨L, hL⟩ : ∃ L, L = l.length := ⟨_, rfl⟩
  rw [← hL]
  have HL := Lib.hid hL
  have HR := Lib.hid h
  have HS := Lib.hid hS
  have H64 := Lib.hid h64
  have HHE := Lib.hid (hello_any S w w.heap.size (Nat.le_refl _) hS)
  by_cases hbig : 40 < L
  · have hb1 : (40 : Int) < (L : Int) := by omega
    clear hL h hS h64 hl
    go_enter Tryz.func5, Tryz.ntmps5
    go_wp2_with fail
    refine HHE.out.mono ?_
    rintro e w1 ⟨rfl, k1⟩
    go_wp2_with fail
    go_ret
    exact ⟨rfl, k1⟩
  · have hb1 : ¬ (40 : Int) < (L : Int) := by omega
    by_cases hc0 : cut < 0
    · clear hL h hS h64 hl
      go_enter Tryz.func5, Tryz.ntmps5
      go_wp2_with fail
      refine HHE.out.mono ?_
      rintro e w1 ⟨rfl, k1⟩
      go_wp2_with fail
      go_ret
      exact ⟨rfl, k1⟩
    · by_cases hcl : (L : Int) < cut
      · clear hL h hS h64 hl
        go_enter Tryz.func5, Tryz.ntmps5
        go_wp2_with fail
        refine HHE.out.mono ?_
        rintro e w1 ⟨rfl, k1⟩
        go_wp2_with fail
        go_ret
        exact ⟨rfl, k1⟩
      · obtain ⟨cu, rfl⟩ := Int.eq_ofNat_of_zero_le (show 0 ≤ cut by omega)
        have hcu : cu ≤ L := by omega
        have HCU := Lib.hid hcu
        clear hcu
        have hL40 : L ≤ 40 := by omega
        obtain ⟨i1, hi1, hy0, hy1, hy2⟩ := info_parts infoStr
        clear hL h hS h64 hl hbig
        go_enter Tryz.func5, Tryz.ntmps5
        go_wp2_with fail
        refine HHE.out.mono ?_
        rintro e w1 ⟨rfl, k1⟩
        have K1 := Lib.hid k1
        have z1 := k1.size
        clear k1 HHE
        go_wp2_with fail
        have hdc : decide (L < cu) = false := decide_eq_false (by have := HCU.out; omega)
        simp only [hdc, Bool.or_false]
        clear hcl hdc
        go_loopw [6, 7, 8] (fun ov av iv wr => ∃ (k : Nat) (A1 : Option Addr) (c1 : Nat), k ≤ L ∧ ov = .slice A1 (cmL (l.take k)).length c1 ∧ av = .int .i64 ((cmL (l.take (min k cu))).length : Nat) ∧ iv = .int .i64 k ∧ wr.ownsRow w1.heap.size 9 1 (.slice A1 (cmL (l.take k)).length c1) (cmL (l.take k)).length ((cmL (l.take k)).flatMap bCs) ∧ Below w1.heap.size w1 wr ∧ ∀ c ∈ l.take k, small c) (fun _ _ iv _ => L - (intOf iv).toNat)
        case atStart => exact ⟨0, none, 0, Nat.zero_le _, rfl, by rw [Nat.zero_min]; rfl, rfl, ⟨by simp [cmL], .inl ⟨rfl, rfl⟩⟩, Below.refl _ _, by simp⟩
        case round =>
          obtain ⟨k, A1, c1, hk, rfl, rfl, rfl, row, kw, hsm⟩ := hrel
          have ROW := Lib.hid row
          have KW := Lib.hid kw
          have HSM0 := Lib.hid hsm
          have zw := kw.size
          have kw1 := K1.out.trans (kw.mono z1)
          clear row kw hsm
          by_cases hlt0 : k < L
          · have hlt : k < l.length := by have := HL.out; omega
            obtain ⟨b, o, a, cc, rfl, hb, d0, d1, d2, hrn⟩ := HR.out k hlt
            obtain ⟨cm, hcm⟩ : ∃ cm, cm = l[k] := ⟨_, rfl⟩
            rw [← hcm] at d0 d1 d2 hrn
            obtain ⟨M, hM⟩ : ∃ M, M = cm.n.length := ⟨_, rfl⟩
            rw [← hM] at d2
            have e0 : wr.cell? ⟨b, o + k * 3, none⟩ = some (.string cm.w) := (kw1.cell (p := ⟨b, o + k * 3, none⟩) hb).trans d0
            have e1 : wr.cell? ⟨b, o + k * 3 + 1, none⟩ = some (.string cm.k) := (kw1.cell (p := ⟨b, o + k * 3 + 1, none⟩) hb).trans d1
            have e2 : wr.cell? ⟨b, o + k * 3 + 2, none⟩ = some (.slice a M cc) := (kw1.cell (p := ⟨b, o + k * 3 + 2, none⟩) hb).trans d2
            have HCM := Lib.hid hcm
            have HM := Lib.hid hM
            have HRN := Lib.hid ((Rd.below hrn kw1).more kw1.size)
            have q1 : (k : Int) < (L : Int) := by omega
            have q2 : (0 : Int) ≤ (k : Int) := by omega
            have KW1 := Lib.hid kw1
            clear d0 d1 d2 hcm hM hrn kw1
            by_cases hn20 : 20 < M
            · have n1 : (20 : Int) < (M : Int) := by omega
              go_wp2_with fail
              go_ret
              exact ⟨rfl, KW1.out⟩
            · have n1 : ¬ (20 : Int) < (M : Int) := by omega
              by_cases hw60 : 60 < cm.w.size
              · have n2 : (60 : Int) < (cm.w.size : Int) := by omega
                go_wp2_with fail
                go_ret
                exact ⟨rfl, KW1.out⟩
              · have n2 : ¬ (60 : Int) < (cm.w.size : Int) := by omega
                by_cases hk60 : 60 < cm.k.size
                · have n3 : (60 : Int) < (cm.k.size : Int) := by omega
                  go_wp2_with fail
                  go_ret
                  exact ⟨rfl, KW1.out⟩
                · have n3 : ¬ (60 : Int) < (cm.k.size : Int) := by omega
                  have HSM := Lib.hid (show ∀ c ∈ l.take (k + 1), small c from fun c hc => by
                    rw [List.take_succ_eq_append_getElem hlt] at hc
                    rcases List.mem_append.1 hc with hc | hc
                    · exact HSM0.out c hc
                    · rw [List.mem_singleton.1 hc, ← HCM.out]
                      exact ⟨by rw [← HM.out]; omega, by omega, by omega⟩)
                  have HLO0 := lineOf_any cm a cc wr HRN.out (by rw [← HM.out]; omega) (by omega) (by omega) (fun x hx => H64.out cm (by rw [HCM.out]; exact List.getElem_mem hlt) x hx)
                  rw [← HM.out] at HLO0
                  obtain ⟨t, ht⟩ : ∃ t, t = (lineV cm).1 := ⟨_, rfl⟩
                  obtain ⟨bb, hbb⟩ : ∃ bb, bb = (lineV cm).2 := ⟨_, rfl⟩
                  rw [← ht, ← hbb] at HLO0
                  have HLO := Lib.hid HLO0
                  have HTK := Lib.hid (show cmL (l.take (k + 1)) = cmL (l.take k) ++ (if bb = true then [t] else []) by rw [cmL_take hlt, ← HCM.out, ← ht, ← hbb])
                  clear HLO0 ht hbb hn20 hw60 hk60
                  go_wp2_with fail
                  refine HLO.out.mono ?_
                  rintro e w3 ⟨rfl, k3⟩
                  have K3 := Lib.hid (KW.out.trans (k3.mono zw))
                  have z3 := K3.out.size
                  have ROW3 := Lib.hid (own_below ROW.out k3 (Nat.le_refl _))
                  clear k3 HLO e0 e1 e2
                  obtain ⟨r, hr⟩ : ∃ r, r = cmL (l.take k) := ⟨_, rfl⟩
                  have HRR := Lib.hid hr
                  rw [← hr] at ROW3 HTK ⊢
                  have hm1 : r.length ≤ 40 := by rw [hr]; have := cmL_len (l.take k); rw [List.length_take] at this; omega
                  clear hr
                  cases bb with
                  | true =>
                    have M1 := Lib.hid (show r.length + 1 ≤ maxLen by simp only [maxLen]; omega)
                    have M2 := Lib.hid (show (r.length + 1) * 16 ≤ 140737488355328 by omega)
                    have HNW := Lib.hid (show Rd (w3.alloc (.cells #[.string t] 9)) (w3.heap.size + 1) 1 bCs (some ⟨w3.heap.size, 0, none⟩) [t] from Rd.new_ rfl (by omega) bCs_len)
                    go_upto_region 14 with (at_builtin; refine wpList_append_rd _ bCs rfl (.tmp 75) (.tmp 77) 24 rfl w1.heap.size 9 i1 (.string ⟨#[]⟩) 1 16 Tryz.underlying24 hi1 hy0 hy1 hy2 rfl (by omega) bCs_len bCs_one (.slice A1 r.length c1) r.length (r.flatMap bCs) rfl (ROW3.out.alloc _) (w3.heap.size + 1) (some ⟨w3.heap.size, 0, none⟩) 1 [t] rfl HNW.out M1.out M2.out (le_alloc z3 _) ?_; intro v4 w4 row4 g4 at4; obtain ⟨A6, c6, hv6, row5⟩ := own_app row4 (by omega); subst hv6; have ROW4 := Lib.hid row5; have K4 := Lib.hid (below_app (K3.out.alloc z3 _) (ROW3.out.alloc _) g4 (Nat.le_refl _) (le_alloc z3 _)); clear row4 row5 at4 g4)
                    have hq : r ++ [t] = cmL (l.take (k + 1)) := by rw [HTK.out]; simp
                    have hlen : r.length + 1 = (cmL (l.take (k + 1))).length := by rw [← hq]; simp
                    have HLN := Lib.hid hlen
                    have hrow := ROW4.out
                    rw [hq] at hrow
                    try rw [hq]
                    have HRW := Lib.hid hrow
                    clear hlen hq hrow hm1
                    by_cases hkc : k < cu
                    · have hk1 : (k : Int) < (cu : Int) := by omega
                      have HMN := Lib.hid (show min (k + 1) cu = k + 1 by omega)
                      have HMO := Lib.hid hkc
                      clear hkc
                      go_wp2_with fail
                      go_roundw
                      case rel => first | exact ⟨k + 1, A6, c6, by omega, by first | rfl | rw [← HLN.out], by first | (rw [HMN.out]; done) | (rw [HMN.out, ← HLN.out]; done) | (rw [HMN.out, ← HLN.out]; rfl), by go_num, HRW.out, K4.out, HSM.out⟩ | exact ⟨_, _, _, _, ⟨k + 1, by omega, A6, c6, rfl, rfl, rfl, HRW.out, K4.out, HSM.out⟩, rfl, by first | rfl | rw [HLN.out], by first | (rw [HMN.out]; done) | (rw [HMN.out, ← HLN.out]; done) | (rw [HMN.out, ← HLN.out]; rfl), by go_num⟩ | ((repeat (apply Exists.intro)); refine And.intro ?_ rfl; exact ⟨k + 1, A6, c6, by omega, by first | rfl | rw [← HLN.out], by first | (rw [HMN.out]; done) | (rw [HMN.out, ← HLN.out]; done) | (rw [HMN.out, ← HLN.out]; rfl), by go_num, HRW.out, K4.out, HSM.out⟩)
                      case measure => simp [intOf]; omega
                    · have hk1 : ¬ (k : Int) < (cu : Int) := by omega
                      have HMN := Lib.hid (show min (k + 1) cu = min k cu by omega)
                      have HMO := Lib.hid hkc
                      clear hkc
                      go_wp2_with fail
                      go_roundw
                      case rel => first | exact ⟨k + 1, A6, c6, by omega, by first | rfl | rw [← HLN.out], by first | (rw [HMN.out]; done) | (rw [HMN.out, ← HLN.out]; done) | (rw [HMN.out, ← HLN.out]; rfl), by go_num, HRW.out, K4.out, HSM.out⟩ | exact ⟨_, _, _, _, ⟨k + 1, by omega, A6, c6, rfl, rfl, rfl, HRW.out, K4.out, HSM.out⟩, rfl, by first | rfl | rw [HLN.out], by first | (rw [HMN.out]; done) | (rw [HMN.out, ← HLN.out]; done) | (rw [HMN.out, ← HLN.out]; rfl), by go_num⟩ | ((repeat (apply Exists.intro)); refine And.intro ?_ rfl; exact ⟨k + 1, A6, c6, by omega, by first | rfl | rw [← HLN.out], by first | (rw [HMN.out]; done) | (rw [HMN.out, ← HLN.out]; done) | (rw [HMN.out, ← HLN.out]; rfl), by go_num, HRW.out, K4.out, HSM.out⟩)
                      case measure => simp [intOf]; omega
                  | false =>
                    have hq : r = cmL (l.take (k + 1)) := by rw [HTK.out]; simp
                    have HLN := Lib.hid (congrArg List.length hq)
                    have hrow := ROW3.out
                    rw [hq] at hrow
                    rw [hq]
                    have HRW := Lib.hid hrow
                    have K4 := K3
                    obtain ⟨A6, rfl⟩ : ∃ A6, A6 = A1 := ⟨_, rfl⟩
                    obtain ⟨c6, rfl⟩ : ∃ c6, c6 = c1 := ⟨_, rfl⟩
                    clear hq hrow hm1
                    go_upto_region 14 with fail
                    by_cases hkc : k < cu
                    · have hk1 : (k : Int) < (cu : Int) := by omega
                      have HMN := Lib.hid (show min (k + 1) cu = k + 1 by omega)
                      have HMO := Lib.hid hkc
                      clear hkc
                      go_wp2_with fail
                      go_roundw
                      case rel => first | exact ⟨k + 1, A6, c6, by omega, by first | rfl | rw [← HLN.out], by first | (rw [HMN.out]; done) | (rw [HMN.out, ← HLN.out]; done) | (rw [HMN.out, ← HLN.out]; rfl), by go_num, HRW.out, K4.out, HSM.out⟩ | exact ⟨_, _, _, _, ⟨k + 1, by omega, A6, c6, rfl, rfl, rfl, HRW.out, K4.out, HSM.out⟩, rfl, by first | rfl | rw [HLN.out], by first | (rw [HMN.out]; done) | (rw [HMN.out, ← HLN.out]; done) | (rw [HMN.out, ← HLN.out]; rfl), by go_num⟩ | ((repeat (apply Exists.intro)); refine And.intro ?_ rfl; exact ⟨k + 1, A6, c6, by omega, by first | rfl | rw [← HLN.out], by first | (rw [HMN.out]; done) | (rw [HMN.out, ← HLN.out]; done) | (rw [HMN.out, ← HLN.out]; rfl), by go_num, HRW.out, K4.out, HSM.out⟩)
                      case measure => simp [intOf]; omega
                    · have hk1 : ¬ (k : Int) < (cu : Int) := by omega
                      have HMN := Lib.hid (show min (k + 1) cu = min k cu by omega)
                      have HMO := Lib.hid hkc
                      clear hkc
                      go_wp2_with fail
                      go_roundw
                      case rel => first | exact ⟨k + 1, A6, c6, by omega, by first | rfl | rw [← HLN.out], by first | (rw [HMN.out]; done) | (rw [HMN.out, ← HLN.out]; done) | (rw [HMN.out, ← HLN.out]; rfl), by go_num, HRW.out, K4.out, HSM.out⟩ | exact ⟨_, _, _, _, ⟨k + 1, by omega, A6, c6, rfl, rfl, rfl, HRW.out, K4.out, HSM.out⟩, rfl, by first | rfl | rw [HLN.out], by first | (rw [HMN.out]; done) | (rw [HMN.out, ← HLN.out]; done) | (rw [HMN.out, ← HLN.out]; rfl), by go_num⟩ | ((repeat (apply Exists.intro)); refine And.intro ?_ rfl; exact ⟨k + 1, A6, c6, by omega, by first | rfl | rw [← HLN.out], by first | (rw [HMN.out]; done) | (rw [HMN.out, ← HLN.out]; done) | (rw [HMN.out, ← HLN.out]; rfl), by go_num, HRW.out, K4.out, HSM.out⟩)
                      case measure => simp [intOf]; omega
          · obtain rfl : k = L := by omega
            have e1 : l.take k = l := List.take_of_length_le (by have := HL.out; omega)
            rw [e1] at ROW HSM0 ⊢
            rw [show min k cu = cu by have := HCU.out; omega]
            obtain ⟨ls, hls⟩ : ∃ ls, ls = cmL l := ⟨_, rfl⟩
            obtain ⟨ah, hah⟩ : ∃ ah, ah = (cmL (l.take cu)).length := ⟨_, rfl⟩
            have hpre : ls.take ah = cmL (l.take cu) := by rw [hls, hah]; exact cmL_pre l cu
            have hal : ah ≤ ls.length := by
              have h7 := congrArg List.length hpre
              rw [List.length_take, ← hah] at h7
              omega
            have hl40 : ls.length ≤ 40 := by rw [hls]; have := cmL_len l; have := HL.out; omega
            have HZ := Lib.hid (show ∀ x ∈ ls, x.size ≤ 1000 by rw [hls]; exact cmL_size HSM0.out H64.out)
            rw [← hls] at ROW ⊢
            rw [← hah]
            obtain ⟨N, hN⟩ : ∃ N, N = ls.length := ⟨_, rfl⟩
            rw [← hN]
            have HNN := Lib.hid hN
            have KW1 := Lib.hid kw1
            have hcap := own_cap_ ROW.out
            have M1 := Lib.hid (show 0 + ls.length ≤ maxLen by simp only [maxLen]; omega)
            have M2 := Lib.hid (show (0 + ls.length) * 16 ≤ 140737488355328 by omega)
            have hz := KW1.out.size
            rw [← hN] at hal hcap
            have hal2 : (ah : Int) ≤ (N : Int) := by omega
            have hal3 : (0 : Int) ≤ (ah : Int) := by omega
            have hal4 : (ah : Int) ≤ (c1 : Int) := by omega
            have HPRE := Lib.hid hpre
            clear e1 hls hah hpre kw1 hN HSM0
            have RDL := Lib.hid (own_rdB ROW.out)
            have hN40 : N ≤ 40 := by have := HNN.out; omega
            go_wp2_with (at_builtin; refine wpList_append_rd _ bCs rfl (.tmp 85) (.tmp 86) 24 rfl wr.heap.size 9 i1 (.string ⟨#[]⟩) 1 16 Tryz.underlying24 hi1 hy0 hy1 hy2 rfl (by omega) bCs_len bCs_one (.slice none 0 0) 0 [] rfl ⟨by simp, .inl ⟨rfl, rfl⟩⟩ wr.heap.size A1 c1 ls (by rw [← HNN.out]; rfl) RDL.out M1.out M2.out (Nat.le_refl _) ?_; intro v4 w4 row4 g4 at4; simp only [Nat.zero_add, List.nil_append] at row4; obtain ⟨A6, c6, rfl⟩ := own_slice row4 (by omega); have ROW4 := Lib.hid row4; have K40 := Lib.hid ((Below.refl wr.heap.size wr).grown g4 (Nat.le_refl _) (by simp [Value.ownBlock])); clear row4 at4 g4)
            have K4 := Lib.hid (KW1.out.trans (K40.out.mono hz))
            have HRN1 := Lib.hid (srun_any A6 c6 ls S w4 w.heap.size K4.out.size (HS.out.below K4.out) (own_rdB ROW4.out) (by omega) HZ.out)
            refine HRN1.out.mono ?_
            rintro e w5 ⟨A7, c7, rfl, o7, k7⟩
            have hgl : (goS newS ls).length = N := by rw [goS_len]; exact HNN.out.symm
            rw [hgl] at o7 ⊢
            have K5 := Lib.hid (K4.out.trans (k7.mono K4.out.size))
            have RL5 := Lib.hid (show RdB w5 w5.heap.size A1 ls from (RDL.out.below (K40.out.trans (k7.mono K40.out.size))).more (K40.out.trans (k7.mono K40.out.size)).size)
            have RO5 := Lib.hid (show RdB w5 w5.heap.size A7 (goS newS ls) from own_rdB (by rw [hgl]; exact o7))
            have hc7 := own_cap_ o7
            have hal7 : (ah : Int) ≤ (c7 : Int) := by omega
            have HO7 := Lib.hid (own_two o7)
            have HO1 := Lib.hid (own_two ROW.out)
            have HGL := Lib.hid hgl
            clear k7 o7 hgl HRN1
            rcases HO1.out with ⟨rfl, h0, h1⟩ | ⟨g, rfl⟩
            · obtain rfl : c1 = 0 := h1
              obtain rfl : N = 0 := by rw [HNN.out]; exact h0
              obtain rfl : ah = 0 := by omega
              obtain rfl : ls = [] := List.length_eq_zero_iff.1 h0
              rcases HO7.out with ⟨rfl, -, h3⟩ | ⟨g7, rfl⟩
              · obtain rfl : c7 = 0 := h3
                have HRN2 := Lib.hid (show Calls Tryz.prog 10 #[.slice none 0 0] w5 (EndSr [] w5) from srun_any none 0 [] S w5 w.heap.size K5.out.size (HS.out.below K5.out) Rd.nil_ (by decide) (by simp))
                go_wp2_with fail
                refine HRN2.out.mono ?_
                rintro e w6 ⟨A8, c8, rfl, o8, k8⟩
                have K6 := Lib.hid (K5.out.trans (k8.mono K5.out.size))
                have HST := Lib.hid (show Calls Tryz.prog 11 #[.slice none 0 0, .slice A8 0 c8] w6 (fun e w' => e = .returned (.bool true) ∧ ∃ n, w6.drewN n = w') from (sameT_any none A8 0 c8 [] [] w6 w6.heap.size Rd.nil_ Rd.nil_ (by decide) (by decide)).mono fun e w' h7 => ⟨by rw [h7.1, decide_eq_true rfl], h7.2⟩)
                rw [show ([] : List ByteArray).length = 0 from rfl]
                clear o8 k8 HRN2
                go_wp2_with fail
                refine HST.out.mono ?_
                rintro e w7 ⟨rfl, n, rfl⟩
                clear HST
                go_wp2_with fail
                go_ret
                exact ⟨rfl, Below.drewN_ K6.out n⟩
              · have j0 := 0
                have HRN2 := Lib.hid (show Calls Tryz.prog 10 #[.slice none 0 0] w5 (EndSr [] w5) from srun_any none 0 [] S w5 w.heap.size K5.out.size (HS.out.below K5.out) Rd.nil_ (by decide) (by simp))
                go_wp2_with fail
                refine HRN2.out.mono ?_
                rintro e w6 ⟨A8, c8, rfl, o8, k8⟩
                have K6 := Lib.hid (K5.out.trans (k8.mono K5.out.size))
                have HST := Lib.hid (show Calls Tryz.prog 11 #[.slice (some ⟨g7, 0, none⟩) 0 c7, .slice A8 0 c8] w6 (fun e w' => e = .returned (.bool true) ∧ ∃ n, w6.drewN n = w') from (sameT_any (some ⟨g7, 0, none⟩) A8 c7 c8 [] [] w6 w6.heap.size Rd.nil_ Rd.nil_ (by decide) (by decide)).mono fun e w' h7 => ⟨by rw [h7.1, decide_eq_true rfl], h7.2⟩)
                rw [show ([] : List ByteArray).length = 0 from rfl]
                clear o8 k8 HRN2
                go_wp2_with fail
                refine HST.out.mono ?_
                rintro e w7 ⟨rfl, n, rfl⟩
                clear HST
                go_wp2_with fail
                go_ret
                exact ⟨rfl, Below.drewN_ K6.out n⟩
            · rcases HO7.out with ⟨rfl, h2, h3⟩ | ⟨g7, rfl⟩
              · obtain rfl : c7 = 0 := h3
                obtain rfl : N = 0 := h2
                obtain rfl : ah = 0 := by omega
                obtain rfl : ls = [] := List.length_eq_zero_iff.1 HNN.out.symm
                have HRN2 := Lib.hid (show Calls Tryz.prog 10 #[.slice (some ⟨g, 0, none⟩) 0 c1] w5 (EndSr [] w5) from srun_any (some ⟨g, 0, none⟩) c1 [] S w5 w.heap.size K5.out.size (HS.out.below K5.out) Rd.nil_ (by decide) (by simp))
                go_wp2_with fail
                refine HRN2.out.mono ?_
                rintro e w6 ⟨A8, c8, rfl, o8, k8⟩
                have K6 := Lib.hid (K5.out.trans (k8.mono K5.out.size))
                have HST := Lib.hid (show Calls Tryz.prog 11 #[.slice none 0 0, .slice A8 0 c8] w6 (fun e w' => e = .returned (.bool true) ∧ ∃ n, w6.drewN n = w') from (sameT_any none A8 0 c8 [] [] w6 w6.heap.size Rd.nil_ Rd.nil_ (by decide) (by decide)).mono fun e w' h7 => ⟨by rw [h7.1, decide_eq_true rfl], h7.2⟩)
                rw [show ([] : List ByteArray).length = 0 from rfl]
                clear o8 k8 HRN2
                go_wp2_with fail
                refine HST.out.mono ?_
                rintro e w7 ⟨rfl, n, rfl⟩
                clear HST
                go_wp2_with fail
                go_ret
                exact ⟨rfl, Below.drewN_ K6.out n⟩
              · have j0 := 0
                have hta : (ls.take ah).length = ah := by rw [List.length_take]; have := HNN.out; omega
                have HTA := Lib.hid hta
                have HRN2 := Lib.hid (show Calls Tryz.prog 10 #[.slice (some ⟨g, 0, none⟩) ah c1] w5 (EndSr (goS newS (ls.take ah)) w5) by
                  have h7 := srun_any (some ⟨g, 0, none⟩) c1 (ls.take ah) S w5 w.heap.size K5.out.size (HS.out.below K5.out) (rdB_take RL5.out ah) (by omega) (fun x hx => HZ.out x (List.mem_of_mem_take hx))
                  rw [hta] at h7
                  exact h7)
                clear hta
                go_wp2_with fail
                refine HRN2.out.mono ?_
                rintro e w6 ⟨A8, c8, rfl, o8, k8⟩
                have K6 := Lib.hid (K5.out.trans (k8.mono K5.out.size))
                have hgo : (goS newS (ls.take ah)).length = ah := by rw [goS_len]; exact HTA.out
                have hgt : ((goS newS ls).take ah).length = ah := by rw [List.length_take, HGL.out]; omega
                have heq : (goS newS ls).take ah = goS newS (ls.take ah) := by
                  have h7 := goS_pre newS ls ah
                  rw [hgo] at h7
                  exact h7
                have HST := Lib.hid (show Calls Tryz.prog 11 #[.slice (some ⟨g7, 0, none⟩) ah c7, .slice A8 ah c8] w6 (fun e w' => e = .returned (.bool true) ∧ ∃ n, w6.drewN n = w') by
                  have h7 := sameT_any (some ⟨g7, 0, none⟩) A8 c7 c8 ((goS newS ls).take ah) (goS newS (ls.take ah)) w6 w6.heap.size (rdB_take ((RO5.out.below k8).more k8.size) ah) (own_rdB o8) (by omega) (by omega)
                  rw [hgt, hgo] at h7
                  exact h7.mono fun e w' h8 => ⟨by rw [h8.1, decide_eq_true heq], h8.2⟩)
                rw [hgo]
                clear o8 k8 HRN2 hgo hgt heq
                go_wp2_with fail
                refine HST.out.mono ?_
                rintro e w7 ⟨rfl, n, rfl⟩
                clear HST
                go_wp2_with fail
                go_ret
                exact ⟨rfl, Below.drewN_ K6.out n⟩
end
end Go.Proofs.YtoomffajodheaaaGreatDoor
