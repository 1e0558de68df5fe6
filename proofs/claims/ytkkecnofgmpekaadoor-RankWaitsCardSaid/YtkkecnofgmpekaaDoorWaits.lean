/- The law RankWaits returns true, whatever its arguments, and changes nothing that was there. Condition: the sentinels lie in their variables. -/
import Derived.Test.YtkkecnofgmpekaaDoorRank5
import Derived.Test.YtkkecnofgmpekaaDoorBools
import Derived.Test.YtkkecnofgmpekaaDoorLeastP
import Derived.Test.YtkkecnofgmpekaaDoorSends
namespace Go.Proofs.YtkkecnofgmpekaaDoor
open Go.RowKit
set_option maxRecDepth 100000
theorem infoBool : (Tryd.prog.info? 4).map (fun i => (i.zero, i.size, i.bytes)) = some (some (.bool false), 1, 1) := by kernel_rfl
def iCs (n : Int) : List Value := [.int .i64 n]
theorem iCs_len (x : Int) : (iCs x).length = 1 := rfl
theorem iCs_one (x : Int) : ∀ u ∈ iCs x, u.oneCell' = true := by simp [iCs, Value.oneCell']
theorem wait_test {key : Nat → Int} {a b : Int} {j k : Nat} (h1 : key k ≤ key j ∧ (key j = key k → k ≤ j)) (ha : key j = a) (hb : key k = b) : b < a ∨ (a = b ∧ k ≤ j) := by
  rcases Int.lt_or_eq_of_le h1.1 with h | h
  · exact .inl (by omega)
  · exact .inr ⟨by omega, h1.2 h.symm⟩
theorem rankKey_of {p : List Pk} {ranks : List Int} {k f : Nat} (hk : k < p.length) (hf : p[k].f = f) (hl : f < ranks.length) : rankKey p ranks k = ranks[f] := by
  unfold rankKey
  rw [fOf_of hk, hf, Int.toNat_natCast]
  simp [List.getD, hl]
theorem dnB_take {l : List Sn} {k n : Nat} (hk : k < l.length) (hn : l[k].p = n) : (fun j => dnB (l.take k) j || n == j) = dnB (l.take (k + 1)) := by
  funext j
  rw [List.take_succ_eq_append_getElem hk, dnB_add, hn]
  congr 1
  rw [Bool.eq_iff_iff, beq_iff_eq, beq_iff_eq]
  omega
set_option maxHeartbeats 4000000 in
theorem waits_main (A A' : Option Addr) (c c' : Nat) (p : List Pk) (per : Int) (ranks : List Int) (S : Nat → Addr) (w : World) (h : RdP w w.heap.size A p) (h' : RdI w w.heap.size A' ranks) (hS : Snt w w.heap.size S [2, 3, 5]) (hl : p.length ≤ 9223372036854775807) (hfit : fitB p.length 80 = true) (h30 : ranks.length ≤ 30) (hok : (rankErr p per ranks 100).1 = 0) :
    Calls Tryd.prog 4 #[.slice A p.length c, .int .i64 per, .slice A' ranks.length c'] w fun e w' => e = .returned (.bool true) ∧ Below w.heap.size w w' := by
  obtain ⟨e1, _, h8, _, _⟩ := rankErr_ok hok
  obtain ⟨hf, h300, hpk, h0, h1⟩ := lookErr_ok e1
  have Hok := Lib.hid hok
  have Hfit := Lib.hid hfit
  have H8 := Lib.hid h8
  have Hlen := Lib.hid (leastL_len (key := rankKey p ranks) hpk h0 h1)
  have HL := Lib.hid (leastL_ok (key := rankKey p ranks) hpk (lookErr_sorted e1) h0 h1)
  obtain ⟨i0, hi0, hz0, hz1, hz2⟩ := info_parts infoInt
  obtain ⟨i1, hi1, hy0, hy1, hy2⟩ := info_parts infoBool
  clear hf hok hfit e1 h8
  go_enter Tryd.func4, Tryd.ntmps4
  go_wp2_with fail
  refine (sends_any S w _ (Nat.le_refl _) (hS.sub (by simp))).mono ?_
  rintro e w1 ⟨rfl, k1⟩
  go_wp2_with fail
  refine (fit_any A c p.length 80 _ hl).mono ?_
  rintro e w2 ⟨rfl, rfl⟩
  rw [Hfit.out]
  go_wp2_with fail
  refine (ownPackets_any A c p w1 _ (h.below k1) (by omega)).mono ?_
  rintro e w2 ⟨A1, c1, rfl, o1, k2⟩
  have r1 := RdP.of_own o1
  have k2' := k1.trans (k2.mono k1.size)
  go_wp2_with (at_builtin; refine wpList_append_rd _ iCs rfl (.tmp 35) (.tmp 36) 35 rfl w2.heap.size 3 i0 (.int .i64 0) 1 8 Tryd.underlying35 hi0 hz0 hz1 hz2 rfl (by omega) iCs_len iCs_one (.slice none 0 0) 0 [] rfl ⟨by simp, .inl ⟨rfl, rfl⟩⟩ w.heap.size A' c' ranks rfl (h'.below k2') (by simp only [maxLen]; omega) (by omega) (Nat.le_refl _) ?_; intro v3 w3 row3 g3 at3; simp only [Nat.zero_add, List.nil_append] at row3; obtain ⟨A3, c3, rfl⟩ := own_slice row3 (by omega); have k3 : Below w2.heap.size w2 w3 := (Below.refl _ _).grown g3 (Nat.le_refl _) (by simp [Value.ownBlock]))
  have k3' := k2'.trans (k3.mono k2'.size)
  have hri : RdI w3 w3.heap.size A3 ranks := Rd.of_own row3 (by omega) iCs_len
  refine (rankRun_ok A1 A3 c1 c3 p per ranks S w3 _ (Nat.le_refl _) ((r1.below k3).more k3.size) hri ((hS.below k3').more k3'.size) hl (by omega) Hok.out).mono ?_
  rintro e w4 ⟨A4, c4, v, rfl, o4, hv, k4⟩
  obtain rfl := hv.nil_of Hok.out
  have r4 := RdS.of_own o4
  have k4' := k3'.trans (k4.mono k3'.size)
  rw [Hlen.out]
  obtain ⟨l, hl'⟩ : ∃ l, l = leastL p per (rankKey p ranks) := ⟨_, rfl⟩
  rw [← hl'] at r4
  have HLL := Lib.hid (show ∀ i (h : i < l.length), SentOk p (rankKey p ranks) (l.take i) l[i] by rw [hl']; exact HL.out)
  have Hll := Lib.hid (show l.length = p.length by rw [hl']; exact Hlen.out)
  clear hl' HL o4
  go_wp2_with (at_make; refine wpList_make_full _ rfl (.tmp 52) (.tmp 52) 37 rfl w4.heap.size 4 i1 (.bool false) 1 Tryd.underlying37 hi1 hy0 hy1 .i64 .i64 p.length p.length p.length rfl rfl rfl rfl (by rw [hy2]; omega) (by simp only [maxLen]; omega) (Nat.le_refl _) ?_; intro w5 row5 g5; rw [boolRow_new] at row5; have k5 : Below w4.heap.size w4 w5 := (Below.refl _ _).grown g5 (Nat.le_refl _) (by simp))
  have k5' := k4'.trans (k5.mono k4'.size)
  have HR5 := Lib.hid row5
  clear row5
  go_loopw [12] (fun i wr => ∃ k : Nat, k ≤ p.length ∧ i = .int .i64 k ∧ BRow wr w4.heap.size 4 w4.heap.size p.length (dnB (l.take k)) ∧ Below w4.heap.size w5 wr) (fun i _ => p.length - (intOf i).toNat)
  case atStart => exact ⟨0, Nat.zero_le _, rfl, HR5.out, Below.refl _ _⟩
  case round =>
    obtain ⟨k, hk, rfl, hrow, hbw⟩ := hrel
    obtain ⟨wo, rfl⟩ : ∃ wo : World, wo = wr := ⟨_, rfl⟩
    have kw := k5'.trans (hbw.mono k4'.size)
    by_cases hlt : k < p.length
    · have hlt2 : k < l.length := by rw [Hll.out]; exact hlt
      have hx := HLL.out k hlt2
      obtain ⟨b', o', rfl, hb', l0, l1, l2⟩ := RdS.get ((r4.below k5).below hbw) hlt2
      obtain ⟨n, hn⟩ : ∃ n : Nat, l[k].p = n := ⟨l[k].p.toNat, by have := hx.pos; omega⟩
      have hnl : n < p.length := by have := hx.lt; omega
      rw [hn] at l0
      obtain ⟨b, o, rfl, hb, d0, d1, d2⟩ := RdP.get (h.below kw) hnl
      have hd : dnB (l.take k) n = false := dnB_not.2 fun y hy e => hx.fresh y hy (by omega)
      have b0 := hrow.cell hnl
      rw [hd] at b0
      have hcame : p[n].a ≤ l[k].f := by have := hx.came; rw [hn, Int.toNat_natCast, aOf_of hnl] at this; exact this
      have hleast : ∀ j, (hj : j < p.length) → dnB (l.take k) j = false → p[j].a ≤ l[k].f → rankKey p ranks n ≤ rankKey p ranks j ∧ (rankKey p ranks j = rankKey p ranks n → n ≤ j) := fun j hj h9 ha => by
        have := hx.least j hj (dnB_not.1 h9) (by rw [aOf_of hj]; exact ha)
        rw [hn, Int.toNat_natCast] at this
        exact this
      have Hleast := Lib.hid hleast
      have Hrow := Lib.hid hrow
      obtain ⟨x, hxx⟩ : ∃ x, x = l[k] := ⟨_, rfl⟩
      have Hx := Lib.hid hxx
      have Hn := Lib.hid hn
      rw [← hxx] at l1 hcame
      obtain ⟨f, hf⟩ : ∃ f : Nat, p[n].f = f := ⟨p[n].f.toNat, by have := (hpk _ (List.getElem_mem hnl)).1; omega⟩
      have hf8 : f < ranks.length := by rw [H8.out]; have := (hpk _ (List.getElem_mem hnl)).2.1; omega
      rw [hf] at d0
      have Hf := Lib.hid hf
      obtain ⟨rb, ro, rfl, hrb, rf⟩ := RdI.get (h'.below kw) hf8
      obtain ⟨rv, hrv⟩ : ∃ rv, rv = ranks[f] := ⟨_, rfl⟩
      rw [← hrv] at rf
      have Hrv := Lib.hid hrv
      clear hx hleast hrow hxx hn hd hf hrv
      have q1 : (0 : Int) ≤ (n : Int) := by omega
      have q2 : (n : Int) < (p.length : Int) := by omega
      have q3 : (0 : Int) ≤ (k : Int) := by omega
      have q4 : (k : Int) < (l.length : Int) := by omega
      have q5 : (k : Int) < (p.length : Int) := by omega
      have q6 : (f : Int) < (ranks.length : Int) := by omega
      have q7 : (0 : Int) ≤ (f : Int) := by omega
      go_wp2_with fail
      go_quiet (fail)
      go_wp2_with fail
      have HR := Lib.hid Hrow.out
      rename ((0 : Int) ≤ (n : Int) ∧ ¬ p.length ≤ n) ∧ p[n].a ≤ x.f => hgone
      clear hgone
      go_loopw [14] (fun jv wr => ∃ j m : Nat, j ≤ p.length ∧ jv = .int .i64 j ∧ wr = wo.drewN m) (fun jv _ => p.length - (intOf jv).toNat)
      case atStart => exact ⟨0, _, Nat.zero_le _, rfl, rfl⟩
      case round =>
        obtain ⟨j, m, hj, rfl, rfl⟩ := hrel
        by_cases hjl : j < p.length
        · have b1 := HR.out.cell hjl
          have p1 : (0 : Int) ≤ (j : Int) := by omega
          have p2 : (j : Int) < (p.length : Int) := by omega
          cases hdj : dnB (l.take k) j with
          | true =>
            rw [hdj] at b1
            clear hdj
            go_wp2_with fail
            go_quiet (fail)
            go_wp2_with fail
            go_roundw
            case rel => exact ⟨j + 1, _, hjl, by go_num, rfl⟩
            case measure => simp [intOf]; omega
          | false =>
            rw [hdj] at b1
            obtain ⟨b2, o2, he, hb2, f0, f1, f2⟩ := RdP.get (h.below kw) hjl
            simp only [Option.some.injEq, Addr.mk.injEq, and_true] at he
            obtain ⟨rfl, rfl⟩ := he
            by_cases ha : p[j].a ≤ x.f
            · have ht := Hleast.out j hjl hdj (by rw [← Hx.out]; exact ha)
              obtain ⟨fj, hfj⟩ : ∃ f : Nat, p[j].f = f := ⟨p[j].f.toNat, by have := (hpk _ (List.getElem_mem hjl)).1; omega⟩
              have hfj8 : fj < ranks.length := by rw [H8.out]; have := (hpk _ (List.getElem_mem hjl)).2.1; omega
              rw [hfj] at f0
              obtain ⟨rb2, ro2, he, hrb2, rf2⟩ := RdI.get (h'.below kw) hfj8
              simp only [Option.some.injEq, Addr.mk.injEq, and_true] at he
              obtain ⟨rfl, rfl⟩ := he
              obtain ⟨rj, hrj⟩ : ∃ rj, rj = ranks[fj] := ⟨_, rfl⟩
              rw [← hrj] at rf2
              have ht2 := wait_test ht ((rankKey_of hjl hfj hfj8).trans hrj.symm) ((rankKey_of hnl Hf.out hf8).trans Hrv.out.symm)
              have p3 : (fj : Int) < (ranks.length : Int) := by omega
              have p4 : (0 : Int) ≤ (fj : Int) := by omega
              clear hdj ht hfj hrj
              rcases ht2 with ht2 | ⟨rfl, ht2⟩
              · go_wp2_with fail
                go_quiet (fail)
                go_wp2_with fail
                go_roundw
                case rel => exact ⟨j + 1, _, hjl, by go_num, rfl⟩
                case measure => simp [intOf]; omega
              · go_wp2_with fail
                go_quiet (fail)
                go_wp2_with fail
                go_roundw
                case rel => exact ⟨j + 1, _, hjl, by go_num, rfl⟩
                case measure => simp [intOf]; omega
            · have ha2 : x.f < p[j].a := by omega
              clear hdj ha
              go_wp2_with fail
              go_quiet (fail)
              go_wp2_with fail
              go_roundw
              case rel => exact ⟨j + 1, _, hjl, by go_num, rfl⟩
              case measure => simp [intOf]; omega
        · have fz := HR.out.frozenAt n
          go_wp2_with fail
          go_roundw
          case rel => exact ⟨k + 1, hlt, by go_num, by rw [← dnB_take hlt2 Hn.out]; exact (HR.out.drewN m).set_ n, (below_drewN hbw m).setCell (p := ⟨w4.heap.size, n, none⟩) (Nat.le_refl _) _⟩
          case measure => simp [intOf]; omega
    · go_wp2_with fail
      go_ret
      exact ⟨rfl, kw⟩
set_option maxHeartbeats 400000 in
theorem waits_early (A A' : Option Addr) (c c' : Nat) (p : List Pk) (per : Int) (ranks : List Int) (S : Nat → Addr) (w : World) (hS : Snt w w.heap.size S [2, 3, 5]) (hl : p.length ≤ 9223372036854775807) (hl' : ranks.length ≤ 9223372036854775807) (hfit : fitB p.length 80 = false ∨ (fitB p.length 80 = true ∧ 30 < ranks.length)) :
    Calls Tryd.prog 4 #[.slice A p.length c, .int .i64 per, .slice A' ranks.length c'] w fun e w' => e = .returned (.bool true) ∧ Below w.heap.size w w' := by
  rcases hfit with hfit | ⟨hfit, h30⟩
  all_goals
    have Hfit := Lib.hid hfit
    clear hfit
    go_enter Tryd.func4, Tryd.ntmps4
    go_wp2_with fail
    refine (sends_any S w _ (Nat.le_refl _) (hS.sub (by simp))).mono ?_
    rintro e w1 ⟨rfl, k1⟩
    go_wp2_with fail
    refine (fit_any A c p.length 80 _ hl).mono ?_
    rintro e w2 ⟨rfl, rfl⟩
    rw [Hfit.out]
    go_wp2_with fail
    go_ret
    exact ⟨rfl, k1⟩
set_option maxHeartbeats 1000000 in
theorem waits_bad (A A' : Option Addr) (c c' : Nat) (p : List Pk) (per : Int) (ranks : List Int) (S : Nat → Addr) (w : World) (h : RdP w w.heap.size A p) (h' : RdI w w.heap.size A' ranks) (hS : Snt w w.heap.size S [2, 3, 5]) (hl : p.length ≤ 9223372036854775807) (hfit : fitB p.length 80 = true) (h30 : ranks.length ≤ 30) (hok : (rankErr p per ranks 100).1 ≠ 0) :
    Calls Tryd.prog 4 #[.slice A p.length c, .int .i64 per, .slice A' ranks.length c'] w fun e w' => e = .returned (.bool true) ∧ Below w.heap.size w w' := by
  have hle : p.length ≤ 301 := by have := of_decide_eq_true hfit; omega
  have Hok := Lib.hid hok
  have Hfit := Lib.hid hfit
  obtain ⟨i0, hi0, hz0, hz1, hz2⟩ := info_parts infoInt
  clear hok hfit
  go_enter Tryd.func4, Tryd.ntmps4
  go_wp2_with fail
  refine (sends_any S w _ (Nat.le_refl _) (hS.sub (by simp))).mono ?_
  rintro e w1 ⟨rfl, k1⟩
  go_wp2_with fail
  refine (fit_any A c p.length 80 _ hl).mono ?_
  rintro e w2 ⟨rfl, rfl⟩
  rw [Hfit.out]
  go_wp2_with fail
  refine (ownPackets_any A c p w1 _ (h.below k1) (by omega)).mono ?_
  rintro e w2 ⟨A1, c1, rfl, o1, k2⟩
  have r1 := RdP.of_own o1
  have k2' := k1.trans (k2.mono k1.size)
  go_wp2_with (at_builtin; refine wpList_append_rd _ iCs rfl (.tmp 35) (.tmp 36) 35 rfl w2.heap.size 3 i0 (.int .i64 0) 1 8 Tryd.underlying35 hi0 hz0 hz1 hz2 rfl (by omega) iCs_len iCs_one (.slice none 0 0) 0 [] rfl ⟨by simp, .inl ⟨rfl, rfl⟩⟩ w.heap.size A' c' ranks rfl (h'.below k2') (by simp only [maxLen]; omega) (by omega) (Nat.le_refl _) ?_; intro v3 w3 row3 g3 at3; simp only [Nat.zero_add, List.nil_append] at row3; obtain ⟨A3, c3, rfl⟩ := own_slice row3 (by omega); have k3 : Below w2.heap.size w2 w3 := (Below.refl _ _).grown g3 (Nat.le_refl _) (by simp [Value.ownBlock]))
  have k3' := k2'.trans (k3.mono k2'.size)
  have hri : RdI w3 w3.heap.size A3 ranks := Rd.of_own row3 (by omega) iCs_len
  refine (rankRun_bad A1 A3 c1 c3 p per ranks S w3 _ (Nat.le_refl _) ((r1.below k3).more k3.size) hri ((hS.below k3').more k3'.size) hl (by omega) Hok.out).mono ?_
  rintro e w4 ⟨A4, c4, v, rfl, o4, hv, k4⟩
  obtain ⟨T, a, rfl⟩ := hv.some_of Hok.out
  have k4' := k3'.trans (k4.mono k3'.size)
  go_wp2_with fail
  go_ret
  exact ⟨rfl, k4'⟩
theorem waits_any (A : Option Addr) (c : Nat) (p : List Pk) (per : Int) (A' : Option Addr) (c' : Nat) (ranks : List Int) (S : Nat → Addr) (w : World) (h : RdP w w.heap.size A p) (h' : RdI w w.heap.size A' ranks) (hS : Snt w w.heap.size S [2, 3, 5]) (hl : p.length ≤ 9223372036854775807) (hl' : ranks.length ≤ 9223372036854775807) :
    Calls Tryd.prog 4 #[.slice A p.length c, .int .i64 per, .slice A' ranks.length c'] w fun e w' => e = .returned (.bool true) ∧ Below w.heap.size w w' := by
  cases hfit : fitB p.length 80
  · exact waits_early A A' c c' p per ranks S w hS hl hl' (.inl hfit)
  · by_cases h30 : ranks.length ≤ 30
    · by_cases hok : (rankErr p per ranks 100).1 = 0
      · exact waits_main A A' c c' p per ranks S w h h' hS hl hfit h30 hok
      · exact waits_bad A A' c c' p per ranks S w h h' hS hl hfit h30 hok
    · exact waits_early A A' c c' p per ranks S w hS hl hl' (.inr ⟨hfit, by omega⟩)
end Go.Proofs.YtkkecnofgmpekaaDoor
