/- The law FifoTells returns true, whatever its arguments, and changes nothing that was there. Condition: the nine sentinels lie in their variables, apart; errors.errorType holds the type error. -/
import Derived.Test.YtkkecnofgmpekaaDoorBusyT
import Derived.Test.YtkkecnofgmpekaaDoorSentRef
import Derived.Test.YtkkecnofgmpekaaDoorCoded2
namespace Go.Proofs.YtkkecnofgmpekaaDoor
open Go.RowKit
set_option maxRecDepth 100000
theorem eqTk (a b c d : Int) (w : World) : (Op.equalIn 10000 61 (.agg #[.int .i64 a, .int .i64 b]) (.agg #[.int .i64 c, .int .i64 d])).run Tryd.prog w = .ok (a == c && b == d) w := by
  have u3 := Tryd.underlying3
  have a3 := Tryd.isAgg3
  have z3 := Tryd.sizeOf3
  rw [show (10000 : Nat) = 9999 + 1 from rfl, Op.equalIn]
  simp only [Sem.run_bind, run_underlying Tryd.underlying61, Result.andThen_ok]
  simp only [Std.Legacy.Range.forIn_eq_forIn_range', Std.Legacy.Range.size, Nat.sub_zero, Nat.add_sub_cancel, Nat.div_one, List.range'_succ, List.range'_zero, List.forIn_cons, List.forIn_nil]
  go_simp
  by_cases h1 : a = c <;> by_cases h2 : b = d <;> simp [h1, h2]
theorem delOut_len {p : List Pk} {l : List Sn} (h : (delErr p.length l).1 = 0) : delOut p l = delL p l ∧ (delL p l).length = l.length := by
  unfold delOut
  rw [if_pos (delErr_ok h).1]
  exact ⟨rfl, by simp [delL]⟩
theorem tells_bad {p : List Pk} {l : List Sn} (h : (delErr p.length l).1 ≠ 0) : delOut p l = [] := by
  unfold delOut
  rw [if_neg (fun h9 => h (by unfold delErr; rw [if_pos h9]))]
theorem tameN_of {l : List Sn} (h : tameB l = true) : tameN l = 1 := by unfold tameN; rw [h]; rfl
theorem tameN_off {l : List Sn} (h : tameB l = false) : tameN l = 0 := by unfold tameN; rw [h]; rfl
def tameP (x : Pk) : Prop := -1125899906842624 ≤ x.a ∧ x.a ≤ 1125899906842624
set_option maxHeartbeats 8000000 in
theorem tells_main (A A' : Option Addr) (c c' : Nat) (p : List Pk) (l : List Sn) (S : Nat → Addr) (w : World) (h : RdP w w.heap.size A p) (h' : RdS w w.heap.size A' l) (hS : All9 w w.heap.size S) (hp1 : p.length ≤ 100) (hl1 : l.length ≤ 100) (htm : tameB l = true) :
    Calls Tryd.prog 10 #[.slice A p.length c, .slice A' l.length c'] w fun e w' => e = .returned (.bool true) ∧ Below w.heap.size w w' := by
  have hl : p.length ≤ 9223372036854775807 := by omega
  have Htm := Lib.hid (tameN_of htm)
  have Ht := Lib.hid (tameB_of htm)
  clear htm
  have eqt := eqTk
  go_enter Tryd.func10, Tryd.ntmps10
  go_wp2_with fail
  refine (sends_any S w _ (Nat.le_refl _) (hS.s.sub (by simp))).mono ?_
  rintro e w1 ⟨rfl, k1⟩
  go_wp2_with fail
  refine (tame_any A' c' l _ _ (h'.below k1) (by omega)).mono ?_
  rintro e wx ⟨rfl, rfl⟩
  rw [Htm.out]
  go_wp2_with fail
  have z1 := k1.size
  go_loopw [6] (fun i wr => ∃ k : Nat, k ≤ p.length ∧ i = .int .i64 k ∧ (∀ x ∈ p.take k, tame50 x.a) ∧ wr = w1) (fun i _ => p.length - (intOf i).toNat)
  case atStart => exact ⟨0, Nat.zero_le _, rfl, by simp, rfl⟩
  case round =>
    obtain ⟨k, hk, rfl, htk, rfl⟩ := hrel
    have Htk := Lib.hid htk
    clear htk
    by_cases hlt : k < p.length
    · obtain ⟨b, o, rfl, hb, d0, d1, d2⟩ := RdP.get (h.below k1) hlt
      by_cases hx : tame50 p[k].a
      · have Hn := Lib.hid (show ∀ x ∈ p.take (k + 1), tame50 x.a from fun x hxm => by
          rw [List.take_succ_eq_append_getElem hlt] at hxm
          rcases List.mem_append.1 hxm with h9 | h9
          · exact Htk.out x h9
          · rw [List.mem_singleton.1 h9]; exact hx)
        obtain ⟨x1, x2⟩ := hx
        go_wp2_with fail
        go_roundw
        case rel => exact ⟨k + 1, hlt, by go_num, Hn.out, by trivial⟩
        case measure => simp [intOf]; omega
      · have hx2 : p[k].a < -1125899906842624 ∨ (-1125899906842624 ≤ p[k].a ∧ 1125899906842624 < p[k].a) := by unfold tame50 at hx; omega
        clear hx
        rcases hx2 with x1 | ⟨x1, x2⟩
        all_goals
          go_wp2_with fail
          go_ret
          exact ⟨rfl, k1⟩
    · have Hap := Lib.hid (show ∀ x ∈ p, tame50 x.a by have := Htk.out; rw [List.take_of_length_le (by omega)] at this; exact this)
      clear Htk
      obtain ⟨wo, rfl⟩ : ∃ wo : World, wo = wr := ⟨_, rfl⟩
      go_wp2_with fail
      refine (ownSent_any A' c' l wo _ (h'.below k1) (by omega)).mono ?_
      rintro e w2 ⟨A2, c2, rfl, o2, k2⟩
      have r2 := RdS.of_own o2
      have k2' := k1.trans (k2.mono k1.size)
      clear o2
      go_wp2_with fail
      refine (busy_any A2 c2 l w2 _ (Nat.le_refl _) r2 (by omega)).mono ?_
      rintro e w3 ⟨A3, c3, rfl, o3, k3⟩
      have r3 := RdL.of_own o3
      have k3' := k2'.trans (k3.mono k2'.size)
      clear o3 r2
      go_wp2_with fail
      refine (busyTicks_any A' c' l w3 _ k3'.size (h'.below k3') (by omega)).mono ?_
      rintro e w4 ⟨A4, c4, rfl, o4, k4⟩
      have r4 := RdL.of_own o4
      have k4' := k3'.trans (k4.mono k3'.size)
      have r34 := (r3.below k4).more k4.size
      have z4 := k4'.size
      clear o4 r3
      obtain ⟨bl, hbl⟩ : ∃ bl, bl = busyL l := ⟨_, rfl⟩
      have hbll : bl.length ≤ 100 := by
        have key : ∀ (r : List Sn) (acc : List Ln), (r.foldl bStep acc).length ≤ acc.length + r.length := fun r => by
          induction r with
          | nil => intro acc; simp
          | cons x r ih =>
            intro acc
            rw [List.foldl_cons]
            have h1 : (bStep acc x).length ≤ acc.length + 1 := by
              rcases snoc_or acc with rfl | ⟨a, y, rfl⟩
              · simp [bStep]
              · rcases Int.lt_or_le y.r x.f with h9 | h9
                · rw [bStep_out a y x h9]; simp
                · rw [bStep_in a y x h9]; simp
            have := ih (bStep acc x)
            simp only [List.length_cons]
            omega
        have := key l []
        rw [hbl]
        unfold busyL
        simp only [List.length_nil] at this
        omega
      rw [← hbl] at r4 r34 ⊢
      clear hbl
      go_wp2_with fail
      go_loopw [9] (fun i wr => ∃ k m : Nat, k ≤ bl.length ∧ i = .int .i64 k ∧ wr = w4.drewN m) (fun i _ => bl.length - (intOf i).toNat)
      case atStart => exact ⟨0, 0, Nat.zero_le _, rfl, rfl⟩
      case round =>
        obtain ⟨k2, m2, hk2, rfl, rfl⟩ := hrel
        by_cases hlt2 : k2 < bl.length
        · obtain ⟨b, o, rfl, hb, d0, d1⟩ := RdL.get r34 hlt2
          obtain ⟨b', o', rfl, hb', e0, e1⟩ := RdL.get r4 hlt2
          have q1 : (0 : Int) ≤ (k2 : Int) := by omega
          have q2 : (k2 : Int) < (bl.length : Int) := by omega
          go_wp2_with fail
          go_quiet (fail)
          go_wp2_with fail
          go_roundw
          case rel => exact ⟨k2 + 1, _, hlt2, by go_num, rfl⟩
          case measure => simp [intOf]; omega
        · obtain ⟨w5, hw5⟩ : ∃ w5 : World, w5 = w4.drewN m2 := ⟨_, rfl⟩
          have k5' : Below w.heap.size w w5 := by rw [hw5]; exact below_drewN k4' m2
          have z5 := k5'.size
          rw [← hw5]
          clear hw5 r4 r34
          go_wp2_with fail
          refine (ownPackets_any A c p w5 _ (h.below k5') (by omega)).mono ?_
          rintro e w6 ⟨A6, c6, rfl, o6, k6⟩
          have r6 := RdP.of_own o6
          have k6' := k5'.trans (k6.mono z5)
          clear o6
          go_wp2_with fail
          refine (ownSent_any A' c' l w6 _ (h'.below k6') (by omega)).mono ?_
          rintro e w7 ⟨A7, c7, rfl, o7, k7⟩
          have r7 := RdS.of_own o7
          have k7' := k6'.trans (k7.mono k6'.size)
          clear o7
          go_wp2_with fail
          refine (delays_any A6 A7 c6 c7 p l S w7 _ (Nat.le_refl _) ((r6.below k7).more k7.size) r7 (((hS.s.below k7').more k7'.size).sub (by simp)) hl (by omega) Ht.out Hap.out).mono ?_
          rintro e w8 ⟨A8, c8, v8, rfl, o8, e8, k8⟩
          have k8' := k7'.trans (k8.mono k7'.size)
          have z8 := k8'.size
          clear r6 r7
          go_wp2_with fail
          refine (sentFault_any A A' c c' p.length l w8 _ z8 (h'.below k8') hl (by omega)).mono ?_
          rintro e w9 ⟨rfl, k9⟩
          have k9' := k8'.trans (k9.mono z8)
          have z9 := k9'.size
          have e9 := (e8.below k9).more k9.size
          clear e8
          unfold fv
          by_cases hd : (delErr p.length l).1 = 0
          · obtain ⟨hbad, hde⟩ := delErr_ok hd
            have hsp := sentBad_ok hbad
            obtain ⟨ho, hol⟩ := delOut_len hd
            rw [hde] at e9 ⊢
            rw [ho] at o8 ⊢
            obtain rfl := e9.nil_of rfl
            have r8 : RdI w8 w8.heap.size A8 (delL p l) := Rd.of_own o8 (by omega) iCs_len
            rw [hol]
            have Hol := Lib.hid hol
            have Hsp := Lib.hid hsp
            obtain ⟨v, hv⟩ : ∃ v : World, v = w9.alloc (.cells #[.int .i64 0, .int .i64 (-1)] 48) := ⟨_, rfl⟩
            have kv : Below w9.heap.size w9 v := by rw [hv]; exact (Below.refl _ _).alloc (Nat.le_refl _) _
            have kv' := k9'.trans (kv.mono z9)
            have k8v : Below w8.heap.size w8 v := k9.trans (kv.mono k9.size)
            have rv := r8.below k8v
            have Hv := Lib.hid (show v = w9.alloc (.cells #[.int .i64 0, .int .i64 (-1)] 48) from hv)
            clear hol hsp ho hd hde hbad o8 r8 hv e9
            go_wp2_with fail
            first | rw [← Hv.out] | skip
            go_loopw [13] (fun i wr => ∃ k m : Nat, k ≤ l.length ∧ i = .int .i64 k ∧ wr = v.drewN m) (fun i _ => l.length - (intOf i).toNat)
            case atStart => exact ⟨0, 0, Nat.zero_le _, rfl, by first | exact Hv.out.symm | rfl⟩
            case round =>
              obtain ⟨k3, m3, hk3, rfl, rfl⟩ := hrel
              by_cases hlt3 : k3 < l.length
              · obtain ⟨b, o, rfl, hb, d0, d1, d2⟩ := RdS.get (h'.below kv') hlt3
                have hx := Hsp.out _ (List.getElem_mem hlt3)
                obtain ⟨n, hn⟩ : ∃ n : Nat, l[k3].p = n := ⟨l[k3].p.toNat, by omega⟩
                have hnl : n < p.length := by omega
                obtain ⟨b1, o1, rfl, hb1, e0, e1, e2⟩ := RdP.get (h.below kv') hnl
                have hdl : k3 < (delL p l).length := by rw [Hol.out]; exact hlt3
                obtain ⟨b2, o2, rfl, hb2, g0⟩ := RdI.get rv hdl
                have hdv : (delL p l)[k3] = l[k3].t - p[n].a := by
                  simp only [delL, List.getElem_map]
                  rw [hn, Int.toNat_natCast, aOf_of hnl]
                rw [hdv] at g0
                rw [hn] at d0
                have t1 := Ht.out _ (List.getElem_mem hlt3)
                have t2 := Hap.out _ (List.getElem_mem hnl)
                unfold tame50 at t1 t2
                obtain ⟨t11, t12⟩ := t1
                obtain ⟨t21, t22⟩ := t2
                have q1 : (0 : Int) ≤ (k3 : Int) := by omega
                have q2 : (k3 : Int) < (l.length : Int) := by omega
                have q3 : (0 : Int) ≤ (n : Int) := by omega
                have q4 : (n : Int) < (p.length : Int) := by omega
                have hwr : IntKind.i64.wrap (l[k3].t - p[n].a) = l[k3].t - p[n].a := by rw [IntKind.wrap_i64]; omega
                clear hn hx hdv
                go_wp2_with fail
                go_quiet (fail)
                go_wp2_with fail
                go_roundw
                case rel => exact ⟨k3 + 1, _, hlt3, by go_num, rfl⟩
                case measure => simp [intOf]; omega
              · go_wp2_with fail
                go_ret
                exact ⟨rfl, below_drewN kv' m3⟩
          · have hb := tells_bad hd
            rw [hb]
            have h1' : (0 : Int) < ((delErr p.length l).1 : Int) := by omega
            obtain ⟨v, hv⟩ : ∃ v : World, v = w9.alloc (.cells #[.int .i64 (delErr p.length l).1, .int .i64 (delErr p.length l).2] 48) := ⟨_, rfl⟩
            have kv : Below w9.heap.size w9 v := by rw [hv]; exact (Below.refl _ _).alloc (Nat.le_refl _) _
            have kv' := k9'.trans (kv.mono z9)
            have ev := (e9.below kv).more kv.size
            have Hv := Lib.hid hv
            clear hd hb hv o8 e9
            go_wp2_with fail
            rw [← Hv.out]
            refine (faulted2_any v8 (delErr p.length l).1 (delErr p.length l).2 (delErr p.length l).2 S v _ (Nat.le_refl _) ((hS.below kv').more kv'.size) ev (.inr rfl)).mono ?_
            rintro e w12 ⟨rfl, k12⟩
            go_wp2_with fail
            go_ret
            exact ⟨by first | rfl | simp, kv'.trans (k12.mono kv'.size)⟩
theorem fifoTells_any (A : Option Addr) (c : Nat) (p : List Pk) (A' : Option Addr) (c' : Nat) (l : List Sn) (S : Nat → Addr) (w : World) (h : RdP w w.heap.size A p) (h' : RdS w w.heap.size A' l) (hS : All9 w w.heap.size S) (hl : p.length ≤ 9223372036854775807) (hl' : l.length ≤ 9223372036854775807) :
    Calls Tryd.prog 10 #[.slice A p.length c, .slice A' l.length c'] w fun e w' => e = .returned (.bool true) ∧ Below w.heap.size w w' := by
  have hx : (p.length ≤ 100 ∧ l.length ≤ 100 ∧ tameB l = true) ∨ (100 < p.length) ∨ (p.length ≤ 100 ∧ 100 < l.length) ∨ (p.length ≤ 100 ∧ l.length ≤ 100 ∧ tameB l = false) := by
    rcases Nat.lt_or_ge 100 p.length with h1 | h1
    · exact .inr (.inl h1)
    · rcases Nat.lt_or_ge 100 l.length with h2 | h2
      · exact .inr (.inr (.inl ⟨h1, h2⟩))
      · cases ht : tameB l
        · exact .inr (.inr (.inr ⟨h1, h2, rfl⟩))
        · exact .inl ⟨h1, h2, rfl⟩
  rcases hx with ⟨h1, h2, h3⟩ | h1 | ⟨h1, h2⟩ | ⟨h1, h2, h3⟩
  · exact tells_main A A' c c' p l S w h h' hS h1 h2 h3
  · go_enter Tryd.func10, Tryd.ntmps10
    go_wp2_with fail
    refine (sends_any S w _ (Nat.le_refl _) (hS.s.sub (by simp))).mono ?_
    rintro e w1 ⟨rfl, k1⟩
    go_wp2_with fail
    go_ret
    exact ⟨rfl, k1⟩
  · go_enter Tryd.func10, Tryd.ntmps10
    go_wp2_with fail
    refine (sends_any S w _ (Nat.le_refl _) (hS.s.sub (by simp))).mono ?_
    rintro e w1 ⟨rfl, k1⟩
    go_wp2_with fail
    go_ret
    exact ⟨rfl, k1⟩
  · have Htm := Lib.hid (tameN_off h3)
    clear h3
    go_enter Tryd.func10, Tryd.ntmps10
    go_wp2_with fail
    refine (sends_any S w _ (Nat.le_refl _) (hS.s.sub (by simp))).mono ?_
    rintro e w1 ⟨rfl, k1⟩
    go_wp2_with fail
    refine (tame_any A' c' l _ _ (h'.below k1) (by omega)).mono ?_
    rintro e wx ⟨rfl, rfl⟩
    rw [Htm.out]
    go_wp2_with fail
    go_ret
    exact ⟨rfl, k1⟩
end Go.Proofs.YtkkecnofgmpekaaDoor
