/- floodgateref1.LeastOf: it computes what a link by least keys does. Conditions: packets in bounds and in order, a key for each. floodgateref1.SameSent: the same ones are told to be the same; FifoOf. Conditions written at each. floodgateref1's RankOf, DuesOf: they compute what rank's links do. Conditions: packets in bounds and in order; eight numbers in bounds. -/
import Derived.Test.YthgpbdlmadjndaaGreatDoorDocPl
import Derived.Test.YthgpbdlmadjndaaGreatDoorMiscM
import Derived.Test.YthgpbdlmadjndaaGreatDoorBools
import Derived.Test.YthgpbdlmadjndaaGreatDoorRkM
import Derived.Deep.RegionLaw
namespace Go.Proofs.YthgpbdlmadjndaaGreatDoor
open Go.RowKit
set_option maxRecDepth 100000
theorem infoBool2 : (Tryz.prog.info? 4).map (fun i => (i.zero, i.size, i.bytes)) = some (some (.bool false), 1, 1) := by kernel_rfl
def keyOf (keys : List Int) (k : Nat) : Int := keys.getD k 0
theorem keyOf_at {keys : List Int} {k : Nat} (h : k < keys.length) : keyOf keys k = keys[k] := by simp [keyOf, List.getD, h]
structure LRel (p : List Pk) (per : Int) (key : Nat → Int) (w w1 : World) (f : Nat) (t : St (List Nat)) (A : Option Addr) (c : Nat) (wr : World) : Prop where
  run : serveS (leastM key) p per [] = runS (leastM key) p per f t
  fuel : mu p t ≤ f
  inv : Inv (leastM key) p t
  rj : RankJ p key t
  row : wr.ownsRow w1.heap.size 62 3 (.slice A t.out.length c) t.out.length (t.out.flatMap Sn.cs)
  br : BRow wr w.heap.size 4 w.heap.size p.length (dnB t.out)
  bel : Below w.heap.size w1 wr
theorem lo_block {w w' : World} {o o2 : Obj} {base base2 : Nat} {e : TypeId} {size n : Nat} {v : Value} {xs : List Value} {g m c : Nat} (h : w.ownsRow base2 e size v n xs) (hg : ((w.alloc o).alloc o2).grownBy w' v.ownBlock) (he : (Value.slice (some ⟨base, 0, none⟩) m c).ownBlock = some g) (hl : base < w.heap.size) (hb : base < base2) : w'.heap[g]? = w.heap[g]? := by
  simp only [Value.ownBlock, Option.some.injEq] at he
  subst he
  rw [hg.block base (by simp; omega) (fun e => by have := own_ge h base e.symm; omega), Below.heap_alloc (w.alloc o) o2 base (by simp; omega), Below.heap_alloc w o base hl]
theorem lo_load {w w' : World} {x y z : Value} {T : TypeId} {o2 : Obj} {base2 : Nat} {e : TypeId} {size n : Nat} {v : Value} {xs : List Value} {base : Nat} (h : w.ownsRow base2 e size v n xs) (hg : ((w.alloc (.cells #[x, y, z] T)).alloc o2).grownBy w' v.ownBlock) (hl : base < w.heap.size) (k : Nat) : (w'.setCell ⟨base, k, none⟩ (.bool true)).cell? ⟨w.heap.size, 2, none⟩ = some z := by
  have b : Blk w' w.heap.size T #[x, y, z] := new_grown hg (own_lt h)
  exact (b.far (p := ⟨base, k, none⟩) (by simp only; omega) (.bool true)).cell 2
theorem dnB_taken {acc : List Sn} {k : Nat} {x : Sn} (hx : x.p = k) : (fun j => dnB acc j || k == j) = dnB (acc ++ [x]) := by
  funext j
  rw [dnB_add, hx]
  congr 1
  rw [Bool.eq_iff_iff, beq_iff_eq, beq_iff_eq]
  omega
set_option maxHeartbeats 8000000 in
theorem leastOf_any (A A' : Option Addr) (c c' : Nat) (p : List Pk) (per : Int) (keys : List Int) (w : World) (B : Nat) (hB : B ≤ w.heap.size) (h : RdP w B A p) (h' : RdI w B A' keys) (hp : ∀ x ∈ p, okPk x) (hs : p.Pairwise (fun x y => x.a ≤ y.a)) (hl : p.length ≤ 300) (h0 : 1 ≤ per) (h1 : per ≤ 1000) (hk : keys.length = p.length) :
    Calls Tryz.prog 105 #[.slice A p.length c, .int .i64 per, .slice A' keys.length c'] w (EndOwn Sn.cs 3 62 (leastL p per (keyOf keys)) w) := by
  obtain ⟨i1, hi1, hy0, hy1, hy2⟩ := info_parts infoBool2
  obtain ⟨i2, hi2, hx0, hx1, hx2⟩ := info_parts infoSn
  have Hk := Lib.hid hk
  clear hk
  go_enter Tryz.func105, Tryz.ntmps105
  go_wp2_with (at_make; refine wpList_make_full _ rfl (.tmp 15) (.tmp 15) 104 rfl w.heap.size 4 i1 (.bool false) 1 Tryz.underlying104 hi1 hy0 hy1 .i64 .i64 p.length p.length p.length rfl rfl rfl rfl (by rw [hy2]; omega) (by simp only [maxLen]; omega) (Nat.le_refl _) ?_; intro w1 row1 g1; rw [boolRow_new] at row1; have k1 : Below w.heap.size w w1 := (Below.refl _ _).grown g1 (Nat.le_refl _) (by simp); have s1 : w.heap.size < w1.heap.size := own_lt row1 _ rfl)
  go_loopw [7, 9] (fun v nw wr => ∃ (f : Nat) (t : St (List Nat)) (A5 : Option Addr) (c5 : Nat), v = .slice A5 t.out.length c5 ∧ nw = .int .i64 t.now ∧ LRel p per (keyOf keys) w w1 f t A5 c5 wr) (fun v nw _ => muV p (lenOf v) (intOf nw))
  case atStart => exact ⟨_, ⟨[], 0, 0, []⟩, none, 0, rfl, rfl, ⟨rfl, mu_start p [], least_start p _, ⟨fun j hj => by simp at hj, fun i hi => by simp at hi⟩, ⟨by simp, .inl ⟨rfl, rfl⟩⟩, row1, Below.refl _ _⟩⟩
  case round =>
    obtain ⟨f, t, A5, c5, rfl, rfl, hR⟩ := hrel
    obtain ⟨wo, rfl⟩ : ∃ wo : World, wo = wr := ⟨_, rfl⟩
    have kw := k1.trans hR.bel
    have n0 := hR.inv.now0
    have n1 := hR.inv.now1
    have zo := hR.bel.size
    by_cases hlt : t.out.length < p.length
    · go_wp2_with fail
      go_loopw [10, 11, 12] (fun bv fv iv wr => ∃ (i m : Nat) (best first : Int), i ≤ p.length ∧ iv = .int .i64 i ∧ bv = .int .i64 best ∧ fv = .int .i64 first ∧ BestAt p (keyOf keys) t.now t.out i best ∧ FirstAt t.out i first ∧ wr = wo.drewN m) (fun _ _ iv _ => p.length - (intOf iv).toNat)
      case atStart => exact ⟨0, 0, -1, -1, Nat.zero_le _, rfl, rfl, rfl, best0, first0, rfl⟩
      case round =>
        obtain ⟨i, m, best, first, hi, rfl, rfl, rfl, hb, hf, rfl⟩ := hrel
        have HB := Lib.hid hb
        have HF := Lib.hid hf
        clear hb hf
        by_cases hil : i < p.length
        · obtain ⟨b, o, rfl, hbb, d0, d1, d2⟩ := RdP.get (h.below (kw.mono hB)) hil
          have b0 := hR.br.cell hil
          have q1 : (0 : Int) ≤ (i : Int) := by omega
          have q2 : (i : Int) < (p.length : Int) := by omega
          cases hd : dnB t.out i with
          | true =>
            rw [hd] at b0
            have HB' := Lib.hid (HB.out.skip (.inl hd))
            have HF' := Lib.hid (HF.out.skip (.inl hd))
            clear hd
            go_wp2_with fail
            go_roundw
            case rel => exact ⟨i + 1, m, best, first, hil, by go_num, rfl, rfl, HB'.out, HF'.out, rfl⟩
            case measure => simp [intOf]; omega
          | false =>
            rw [hd] at b0
            by_cases hf0 : first < 0
            · have HF' := Lib.hid (HF.out.new_ hd hf0)
              by_cases ha : p[i].a ≤ t.now
              · by_cases hb0 : best < 0
                · have HB' := Lib.hid (HB.out.new_ hd (by rw [aOf_of hil]; exact ha) (.inl hb0))
                  clear hd
                  go_wp2_with fail
                  go_quiet (fail)
                  go_wp2_with fail
                  go_roundw
                  case rel => exact ⟨i + 1, _, i, i, hil, by go_num, rfl, rfl, HB'.out, HF'.out, rfl⟩
                  case measure => simp [intOf]; omega
                · have hb1 := HB.out.lt
                  obtain ⟨bb, rfl⟩ : ∃ bb : Nat, best = bb := ⟨best.toNat, by omega⟩
                  have hbl : bb < keys.length := by rw [Hk.out]; omega
                  have hikl : i < keys.length := by rw [Hk.out]; exact hil
                  obtain ⟨kb, ko, hA', hkb, e0⟩ := RdI.get (h'.below (kw.mono hB)) hikl
                  obtain ⟨kb2, ko2, he, hkb2, e1⟩ := RdI.get (h'.below (kw.mono hB)) hbl
                  rw [hA'] at he
                  simp only [Option.some.injEq, Addr.mk.injEq, and_true] at he
                  obtain ⟨rfl, rfl⟩ := he
                  subst hA'
                  have r1 : (0 : Int) ≤ (bb : Int) := by omega
                  have r2 : (bb : Int) < (keys.length : Int) := by omega
                  have r3 : (i : Int) < (keys.length : Int) := by omega
                  clear hb0 hb1
                  by_cases hkk : keys[i] < keys[bb]
                  · have HB' := Lib.hid (HB.out.new_ hd (by rw [aOf_of hil]; exact ha) (.inr ⟨Int.natCast_nonneg _, by rw [Int.toNat_natCast, keyOf_at hikl, keyOf_at hbl]; exact hkk⟩))
                    clear hd
                    go_wp2_with fail
                    go_quiet (fail)
                    go_wp2_with fail
                    go_roundw
                    case rel => exact ⟨i + 1, _, i, i, hil, by go_num, rfl, rfl, HB'.out, HF'.out, rfl⟩
                    case measure => simp [intOf]; omega
                  · have hkk2 : keys[bb] ≤ keys[i] := by omega
                    have HB' := Lib.hid (HB.out.keep (Int.natCast_nonneg _) (by rw [Int.toNat_natCast, keyOf_at hikl, keyOf_at hbl]; exact hkk2))
                    clear hd hkk
                    go_wp2_with fail
                    go_quiet (fail)
                    go_wp2_with fail
                    go_roundw
                    case rel => exact ⟨i + 1, _, bb, i, hil, by go_num, rfl, rfl, HB'.out, HF'.out, rfl⟩
                    case measure => simp [intOf]; omega
              · have ha2 : t.now < p[i].a := by omega
                have ha3 : decide (p[i].a ≤ t.now) = false := decide_eq_false ha
                have HB' := Lib.hid (HB.out.skip (.inr (by rw [aOf_of hil]; exact ha2)))
                clear hd ha
                go_wp2_with fail
                go_quiet (fail)
                go_wp2_with fail
                go_roundw
                case rel => exact ⟨i + 1, _, best, i, hil, by go_num, rfl, rfl, HB'.out, HF'.out, rfl⟩
                case measure => simp [intOf]; omega
            · have hf1 : 0 ≤ first := by omega
              have HF' := Lib.hid (HF.out.skip (.inr hf1))
              clear hf0
              by_cases ha : p[i].a ≤ t.now
              · by_cases hb0 : best < 0
                · have HB' := Lib.hid (HB.out.new_ hd (by rw [aOf_of hil]; exact ha) (.inl hb0))
                  clear hd
                  go_wp2_with fail
                  go_quiet (fail)
                  go_wp2_with fail
                  go_roundw
                  case rel => exact ⟨i + 1, _, i, first, hil, by go_num, rfl, rfl, HB'.out, HF'.out, rfl⟩
                  case measure => simp [intOf]; omega
                · have hb1 := HB.out.lt
                  obtain ⟨bb, rfl⟩ : ∃ bb : Nat, best = bb := ⟨best.toNat, by omega⟩
                  have hbl : bb < keys.length := by rw [Hk.out]; omega
                  have hikl : i < keys.length := by rw [Hk.out]; exact hil
                  obtain ⟨kb, ko, hA', hkb, e0⟩ := RdI.get (h'.below (kw.mono hB)) hikl
                  obtain ⟨kb2, ko2, he, hkb2, e1⟩ := RdI.get (h'.below (kw.mono hB)) hbl
                  rw [hA'] at he
                  simp only [Option.some.injEq, Addr.mk.injEq, and_true] at he
                  obtain ⟨rfl, rfl⟩ := he
                  subst hA'
                  have r1 : (0 : Int) ≤ (bb : Int) := by omega
                  have r2 : (bb : Int) < (keys.length : Int) := by omega
                  have r3 : (i : Int) < (keys.length : Int) := by omega
                  clear hb0 hb1
                  by_cases hkk : keys[i] < keys[bb]
                  · have HB' := Lib.hid (HB.out.new_ hd (by rw [aOf_of hil]; exact ha) (.inr ⟨Int.natCast_nonneg _, by rw [Int.toNat_natCast, keyOf_at hikl, keyOf_at hbl]; exact hkk⟩))
                    clear hd
                    go_wp2_with fail
                    go_quiet (fail)
                    go_wp2_with fail
                    go_roundw
                    case rel => exact ⟨i + 1, _, i, first, hil, by go_num, rfl, rfl, HB'.out, HF'.out, rfl⟩
                    case measure => simp [intOf]; omega
                  · have hkk2 : keys[bb] ≤ keys[i] := by omega
                    have HB' := Lib.hid (HB.out.keep (Int.natCast_nonneg _) (by rw [Int.toNat_natCast, keyOf_at hikl, keyOf_at hbl]; exact hkk2))
                    clear hd hkk
                    go_wp2_with fail
                    go_quiet (fail)
                    go_wp2_with fail
                    go_roundw
                    case rel => exact ⟨i + 1, _, bb, first, hil, by go_num, rfl, rfl, HB'.out, HF'.out, rfl⟩
                    case measure => simp [intOf]; omega
              · have ha2 : t.now < p[i].a := by omega
                have ha3 : decide (p[i].a ≤ t.now) = false := decide_eq_false ha
                have HB' := Lib.hid (HB.out.skip (.inr (by rw [aOf_of hil]; exact ha2)))
                clear hd ha
                go_wp2_with fail
                go_quiet (fail)
                go_wp2_with fail
                go_roundw
                case rel => exact ⟨i + 1, _, best, first, hil, by go_num, rfl, rfl, HB'.out, HF'.out, rfl⟩
                case measure => simp [intOf]; omega
        · have hie : i = p.length := by omega
          subst hie
          have hrun := runS_step (leastM (keyOf keys)) p per f t hlt hR.fuel
          have hstep := step_inv (leastOk (keyOf keys) p.length) hp h0 h1 hR.inv hlt
          have hrj := rank_step hp hs h0 t hR.inv hlt hR.rj
          obtain ⟨wv, hwv⟩ : ∃ wv : World, wv = wo.drewN m := ⟨_, rfl⟩
          have rowv : wv.ownsRow w1.heap.size 62 3 (.slice A5 t.out.length c5) t.out.length (t.out.flatMap Sn.cs) := by rw [hwv]; exact hR.row
          have brv : BRow wv w.heap.size 4 w.heap.size p.length (dnB t.out) := by rw [hwv]; exact hR.br
          have belv : Below w.heap.size w1 wv := by rw [hwv]; exact below_drewN hR.bel m
          rw [← hwv]
          clear hwv
          have kv := k1.trans belv
          have zv := belv.size
          by_cases hbn : best < 0
          · obtain ⟨f2, n2, s2, hfe, hf2, e2⟩ := ref_none hs hR.inv hR.rj hlt HB.out HF.out hbn
            subst hfe
            rw [e2] at hrun hstep hrj
            obtain ⟨b, o, rfl, hbb, d0, d1, d2⟩ := RdP.get (h.below (kv.mono hB)) hf2
            have q1 : (0 : Int) ≤ (f2 : Int) := by omega
            have q2 : (f2 : Int) < (p.length : Int) := by omega
            have Hrun := Lib.hid hrun
            have Hstep := Lib.hid hstep
            have Hrj := Lib.hid hrj
            clear hrun hstep hrj e2 hil
            go_wp2_with fail
            go_roundw
            case rel => exact ⟨f - 1, ⟨t.out, aOf p f2, n2, s2⟩, A5, c5, rfl, by rw [aOf_of hf2], ⟨hR.run.trans Hrun.out, by have := Hstep.out.2; have := hR.fuel; omega, Hstep.out.1, Hrj.out, rowv, brv, belv⟩⟩
            case measure =>
              have h9 := Hstep.out.2
              unfold mu at h9
              simp only [aOf_of hf2] at h9
              exact h9
          · obtain ⟨k, n2, s2, hbe, hkl, hdk, e2⟩ := ref_some (per := per) hs hR.inv hR.rj HB.out (by omega)
            subst hbe
            rw [e2, sOf_of hkl] at hrun hstep hrj
            obtain ⟨b, o, rfl, hbb, d0, d1, d2⟩ := RdP.get (h.below (kv.mono hB)) hkl
            have hokk := hp _ (List.getElem_mem hkl)
            have m1 : 0 ≤ per * p[k].s := Int.mul_nonneg (by omega) (by have := hokk.2.2.1; omega)
            have m2 : per * p[k].s ≤ 1500000 := by
              have := Int.mul_le_mul h1 hokk.2.2.2.1 (by have := hokk.2.2.1; omega) (by omega : (0:Int) ≤ 1000)
              omega
            obtain ⟨x, hx⟩ : ∃ x : Sn, x = ⟨k, t.now, t.now + per * p[k].s⟩ := ⟨_, rfl⟩
            rw [← hx] at hrun hstep hrj
            obtain ⟨out', ho⟩ : ∃ out', out' = t.out ++ [x] := ⟨_, rfl⟩
            rw [← ho] at hrun hstep hrj
            have Hx := Lib.hid hx
            have Ho := Lib.hid ho
            have Hrun := Lib.hid hrun
            have Hstep := Lib.hid hstep
            have Hrj := Lib.hid hrj
            have hq3 : t.out.length + [x].length ≤ maxLen := by simp only [maxLen, List.length_cons, List.length_nil]; omega
            have hq4 : (t.out.length + [x].length) * 24 ≤ 140737488355328 := by simp only [List.length_cons, List.length_nil]; omega
            have hq5 : w1.heap.size ≤ ((wv.alloc (.cells #[.int .i64 k, .int .i64 t.now, .int .i64 (t.now + per * p[k].s)] 62)).alloc (.cells #[.int .i64 k, .int .i64 t.now, .int .i64 (t.now + per * p[k].s)] 62)).heap.size := by simp; omega
            have hgl : w.heap.size < wv.heap.size := own_lt brv _ rfl
            have q1 : (0 : Int) ≤ (k : Int) := by omega
            have q2 : (k : Int) < (p.length : Int) := by omega
            have Row := Lib.hid rowv
            have Br := Lib.hid brv
            clear hrun hstep hrj e2 hil hbn hx ho hdk hokk rowv brv
            go_wp2_with (at_builtin; refine wpList_append_rd _ Sn.cs rfl (.tmp 77) (.tmp 79) 39 rfl w1.heap.size 62 i2 (.agg #[.int .i64 0, .int .i64 0, .int .i64 0]) 3 24 Tryz.underlying39 hi2 hx0 hx1 hx2 rfl (by omega) Sn.cs_len Sn.cs_one (.slice A5 t.out.length c5) t.out.length (t.out.flatMap Sn.cs) rfl ((Row.out.alloc _).alloc _) (wv.heap.size + 2) (some ⟨wv.heap.size + 1, 0, none⟩) 1 [x] rfl (Rd.of_block (heap_alloc_new2 _ _ _) ((congrArg (fun y => [y].flatMap Sn.cs) Hx.out).symm) (Nat.lt_succ_self _) (by omega) Sn.cs_len) hq3 hq4 hq5 ?_; intro v3 w3 row3 g3 at3; obtain ⟨A6, c6, hv6, row3⟩ := own_app row3 (by omega); rw [← Ho.out] at hv6 row3; have br3 : BRow w3 w.heap.size 4 w.heap.size p.length (dnB t.out) := own_same Br.out (fun g hg => lo_block Row.out g3 hg hgl s1); have c3 := br3.cell hkl; have f3 := br3.frozenAt k; have x3 := lo_load Row.out g3 hgl k; rw [hv6]; clear hv6)
            have Br3 := Lib.hid br3
            clear br3
            have k3 : Below w.heap.size wv w3 := below_app (((Below.refl _ _).alloc (by omega) _).alloc (by simp; omega) _) ((Row.out.alloc _).alloc _) g3 (Nat.le_of_lt s1) (by simp; omega)
            go_roundw
            case rel => exact ⟨f - 1, ⟨out', t.now + per * p[k].s, n2, s2⟩, A6, c6, rfl, rfl, ⟨hR.run.trans Hrun.out, by have := Hstep.out.2; have := hR.fuel; omega, Hstep.out.1, Hrj.out, ownsRow_setCell_other row3 (fun e => by have := own_ge row3 _ e; simp at this; omega) _, by have h9 := Br3.out.set_ k; rw [dnB_taken (x := x) (by rw [Hx.out]), ← Ho.out] at h9; exact h9, (belv.trans k3).setCell (p := ⟨w.heap.size, k, none⟩) (Nat.le_refl _) _⟩⟩
            case measure => exact Hstep.out.2
    · have e := Lib.hid (hR.run.trans (runS_done _ p per f t hlt))
      go_wp2_with fail
      go_ret
      refine ⟨A5, c5, ?_, ?_, kw⟩
      · rw [show leastL p per (keyOf keys) = t.out by unfold leastL; rw [e.out]]; rfl
      · rw [show leastL p per (keyOf keys) = t.out by unfold leastL; rw [e.out]]; exact own_mono hR.row k1.size
end Go.Proofs.YthgpbdlmadjndaaGreatDoor
namespace Go.Proofs.YthgpbdlmadjndaaGreatDoor
open Go.RowKit
set_option maxRecDepth 100000
theorem sameSent_any (A A' : Option Addr) (c c' : Nat) (l : List Sn) (w : World) (B : Nat) (h : RdS w B A l) (h' : RdS w B A' l) (hl : l.length ≤ 9223372036854775807) :
    Calls Tryz.prog 17 #[.slice A l.length c, .slice A' l.length c'] w fun e w' => e = .returned (.bool true) ∧ ∃ m, w' = w.drewN m := by
  go_enter Tryz.func17, Tryz.ntmps17
  go_wp2_with fail
  go_loopw [5] (fun i wr => ∃ k m : Nat, k ≤ l.length ∧ i = .int .i64 k ∧ wr = w.drewN m) (fun i _ => l.length - (intOf i).toNat)
  case atStart => exact ⟨0, 0, Nat.zero_le _, rfl, rfl⟩
  case round =>
    obtain ⟨k, m, hk, rfl, rfl⟩ := hrel
    by_cases hlt : k < l.length
    · obtain ⟨b, o, rfl, hb, d0, d1, d2⟩ := RdS.get h hlt
      obtain ⟨b', o', rfl, hb', e0, e1, e2⟩ := RdS.get h' hlt
      have q1 : (0 : Int) ≤ (k : Int) := by omega
      have q2 : (k : Int) < (l.length : Int) := by omega
      go_wp2_with fail
      go_quiet (fail)
      go_wp2_with fail
      go_roundw
      case rel => exact ⟨k + 1, _, hlt, by go_num, rfl⟩
      case measure => simp [intOf]; omega
    · go_wp2_with fail
      go_ret
      exact ⟨rfl, _, rfl⟩
theorem rep_get (n i : Nat) (h : i < (List.replicate n (0 : Int)).length) : (List.replicate n (0 : Int))[i] = 0 := by simp
theorem keyOf_rep (n : Nat) : keyOf (List.replicate n 0) = fun _ => 0 := by
  funext k
  unfold keyOf
  by_cases h : k < n
  · simp [List.getD, h]
  · simp [List.getD, h]
set_option maxHeartbeats 1000000 in
theorem fifoOf_any (A : Option Addr) (c : Nat) (p : List Pk) (per : Int) (w : World) (B : Nat) (hB : B ≤ w.heap.size) (h : RdP w B A p) (hp : ∀ x ∈ p, okPk x) (hs : p.Pairwise (fun x y => x.a ≤ y.a)) (hl : p.length ≤ 300) (h0 : 1 ≤ per) (h1 : per ≤ 1000) :
    Calls Tryz.prog 77 #[.slice A p.length c, .int .i64 per] w (EndOwn Sn.cs 3 62 (fifoL p per) w) := by
  obtain ⟨i0, hi0, hz0, hz1, hz2⟩ := info_parts infoInt
  have He := Lib.hid (show fifoL p per = leastL p per (keyOf (List.replicate p.length 0)) by rw [keyOf_rep, fifoL_eq hp h0 h1, leastL_lind hp hs h0 h1])
  go_enter Tryz.func77, Tryz.ntmps77
  go_wp2_with (at_make; refine wpList_make_full _ rfl (.tmp 8) (.tmp 8) 23 rfl w.heap.size 3 i0 (.int .i64 0) 1 Tryz.underlying23 hi0 hz0 hz1 .i64 .i64 p.length p.length p.length rfl rfl rfl rfl (by rw [hz2]; omega) (by simp only [maxLen]; omega) (Nat.le_refl _) ?_; intro w1 row1 g1; have k1 : Below w.heap.size w w1 := (Below.refl _ _).grown g1 (Nat.le_refl _) (by simp))
  have e0 : (madeCells (Value.cells (.int .i64 0)) (p.length * 1)).toList = (List.replicate p.length (0 : Int)).flatMap iCs := by
    rw [show Value.cells (.int .i64 0) = #[.int .i64 0] from rfl, toList_madeCells_one, Nat.mul_one]
    generalize p.length = n
    induction n with
    | zero => rfl
    | succ n ih => rw [List.replicate_succ, List.replicate_succ, ih]; rfl
  rw [e0] at row1
  have elen : (List.replicate p.length (0 : Int)).length = p.length := List.length_replicate
  have r1 : RdI w1 w1.heap.size (some ⟨w.heap.size, 0, none⟩) (List.replicate p.length (0 : Int)) := Rd.of_own (base := w.heap.size) (e := 3) (c := p.length) (by rw [elen]; exact row1) (by omega) iCs_len
  have HC := leastOf_any A (some ⟨w.heap.size, 0, none⟩) c p.length p per (List.replicate p.length 0) w1 _ (Nat.le_refl _) ((h.below (k1.mono hB)).more (Nat.le_trans hB k1.size)) r1 hp hs hl h0 h1 elen
  rw [elen] at HC
  refine HC.mono ?_
  rintro e w2 ⟨A2, c2, rfl, row2, k2⟩
  go_wp2_with fail
  go_ret
  rw [He.out]
  exact ⟨A2, c2, rfl, own_mono row2 k1.size, k1.trans (k2.mono k1.size)⟩
end Go.Proofs.YthgpbdlmadjndaaGreatDoor
namespace Go.Proofs.YthgpbdlmadjndaaGreatDoor
open Go.RowKit
set_option maxRecDepth 100000
theorem keyOf_map (f : Nat → Int) (n k : Nat) (h : k < n) : keyOf ((List.range n).map f) k = f k := by simp [keyOf, List.getD, h]
/-- Keys that are the same at each packet's number give the same link. -/
theorem bestI_congr {key key' : Nat → Int} (s : List Nat) (h : ∀ k ∈ s, key k = key' k) : bestI key s = bestI key' s := by
  unfold bestI
  cases s with
  | nil => rfl
  | cons x r =>
    show bestGo key 0 (key x) 0 (x :: r) = bestGo key' 0 (key' x) 0 (x :: r)
    rw [bestGo_congr (x :: r) (x :: r) h, h x List.mem_cons_self]
theorem comeL_least (key key' : Nat → Int) (now : Int) (r : List Pk) (k : Nat) (s : List Nat) : comeL (leastM key) now r k s = comeL (leastM key') now r k s := by
  induction r generalizing k s with
  | nil => rfl
  | cons x r ih =>
    unfold comeL
    split
    · exact ih (k + 1) _
    · rfl
theorem step_congr {p : List Pk} {per : Int} {key key' : Nat → Int} (h : ∀ k, k < p.length → key k = key' k) (t : St (List Nat)) (hi : Inv (leastM key) p t) : stepS (leastM key) p per t = stepS (leastM key') p per t := by
  obtain ⟨hc, _⟩ := comeL_inv (leastOk key _) t.now (p.drop t.next) t.next t.s rfl hi.toC
  have e := comeL_least key key' t.now (p.drop t.next) t.next t.s
  unfold stepS
  rw [← e]
  generalize comeL (leastM key) t.now (p.drop t.next) t.next t.s = q at hc
  have hb : bestI key q.2 = bestI key' q.2 := bestI_congr q.2 fun k hk => h k (Nat.lt_of_lt_of_le (hc.wait_lt hk) hc.k_le)
  have hp : (leastM key).pick q.2 = (leastM key').pick q.2 := by
    show (if q.2.length = 0 then none else some (q.2.getD (bestI key q.2) 0, q.2.eraseIdx (bestI key q.2))) = (if q.2.length = 0 then none else some (q.2.getD (bestI key' q.2) 0, q.2.eraseIdx (bestI key' q.2)))
    rw [hb]
  rw [hp]
  rfl
theorem leastL_congr {p : List Pk} {per : Int} {key key' : Nat → Int} (hp : ∀ x ∈ p, okPk x) (h0 : 1 ≤ per) (h1 : per ≤ 1000) (h : ∀ k, k < p.length → key k = key' k) : leastL p per key = leastL p per key' := by
  have main : ∀ (f : Nat) (t : St (List Nat)), Inv (leastM key) p t → runS (leastM key) p per f t = runS (leastM key') p per f t := fun f => by
    induction f with
    | zero => exact fun _ _ => rfl
    | succ f ih =>
      intro t hi
      unfold runS
      by_cases hlt : t.out.length < p.length
      · rw [if_pos hlt, if_pos hlt, ← step_congr h t hi]
        exact ih _ (step_inv (leastOk key _) hp h0 h1 hi hlt).1
      · rw [if_neg hlt, if_neg hlt]
  unfold leastL serveS
  rw [main _ _ (least_start p key)]
def rankKeys (p : List Pk) (ranks : List Int) : List Int := (List.range p.length).map (rankKey p ranks)
def dueKeys (p : List Pk) (dues : List Int) : List Int := (List.range p.length).map (dueKey p dues)
theorem range_flat (f : Nat → Int) (k : Nat) : ((List.range k).map f).flatMap iCs ++ [f k].flatMap iCs = ((List.range (k + 1)).map f).flatMap iCs := by
  rw [List.range_succ, List.map_append, List.flatMap_append]
  rfl
set_option maxHeartbeats 2000000 in
theorem rankOf_any (A A' : Option Addr) (c c' : Nat) (p : List Pk) (per : Int) (ranks : List Int) (w : World) (B : Nat) (hB : B ≤ w.heap.size) (h : RdP w B A p) (h' : RdI w B A' ranks) (hp : ∀ x ∈ p, okPk x) (hs : p.Pairwise (fun x y => x.a ≤ y.a)) (hl : p.length ≤ 300) (h0 : 1 ≤ per) (h1 : per ≤ 1000) (h8 : ranks.length = 8) :
    Calls Tryz.prog 73 #[.slice A p.length c, .int .i64 per, .slice A' ranks.length c'] w (EndOwn Sn.cs 3 62 (leastL p per (rankKey p ranks)) w) := by
  obtain ⟨i0, hi0, hz0, hz1, hz2⟩ := info_parts infoInt
  have H8 := Lib.hid h8
  have He := Lib.hid (leastL_congr (key := keyOf (rankKeys p ranks)) (key' := rankKey p ranks) hp h0 h1 fun k hk => keyOf_map _ _ _ hk)
  clear h8
  go_enter Tryz.func73, Tryz.ntmps73
  go_wp2_with fail
  go_loopw [7, 8] (fun v iv wr => ∃ (k : Nat) (A5 : Option Addr) (c5 : Nat), k ≤ p.length ∧ v = .slice A5 k c5 ∧ iv = .int .i64 k ∧ wr.ownsRow w.heap.size 3 1 (.slice A5 k c5) k (((List.range k).map (rankKey p ranks)).flatMap iCs) ∧ Below w.heap.size w wr) (fun _ iv _ => p.length - (intOf iv).toNat)
  case atStart => exact ⟨0, none, 0, Nat.zero_le _, rfl, rfl, ⟨by simp, .inl ⟨rfl, by simp⟩⟩, Below.refl _ _⟩
  case round =>
    obtain ⟨k, A5, c5, hk, rfl, rfl, row, hbw⟩ := hrel
    have zw := hbw.size
    have Row := Lib.hid row
    clear row
    by_cases hlt : k < p.length
    · obtain ⟨b, o, rfl, hb, d0, d1, d2⟩ := RdP.get (h.below (hbw.mono hB)) hlt
      have hok := hp _ (List.getElem_mem hlt)
      obtain ⟨f, hf⟩ : ∃ f : Nat, p[k].f = f := ⟨p[k].f.toNat, by have := hok.1; omega⟩
      have hfl : f < ranks.length := by rw [H8.out]; have := hok.2.1; omega
      obtain ⟨b', o', rfl, hb', e0⟩ := RdI.get (h'.below (hbw.mono hB)) hfl
      rw [hf] at d0
      obtain ⟨x, hx⟩ : ∃ x, x = ranks[f] := ⟨_, rfl⟩
      have Hx := Lib.hid (show rankKey p ranks k = x by rw [hx]; unfold rankKey; rw [fOf_of hlt, hf, Int.toNat_natCast]; simp [List.getD, hfl])
      rw [← hx] at e0
      have q1 : (0 : Int) ≤ (f : Int) := by omega
      have q2 : (f : Int) < (ranks.length : Int) := by omega
      have q3 : (0 : Int) ≤ (k : Int) := by omega
      have q4 : (k : Int) < (p.length : Int) := by omega
      have hq5 : k + [x].length ≤ maxLen := by simp only [maxLen, List.length_cons, List.length_nil]; omega
      have hq6 : (k + [x].length) * 8 ≤ 140737488355328 := by simp only [List.length_cons, List.length_nil]; omega
      have hq7 : w.heap.size ≤ (wr.alloc (.cells #[.int .i64 x] 3)).heap.size := by simp; omega
      clear hok hf hx
      go_wp2_with (at_builtin; refine wpList_append_rd _ iCs rfl (.tmp 15) (.tmp 24) 23 rfl w.heap.size 3 i0 (.int .i64 0) 1 8 Tryz.underlying23 hi0 hz0 hz1 hz2 rfl (by omega) iCs_len iCs_one (.slice A5 k c5) k (((List.range k).map (rankKey p ranks)).flatMap iCs) rfl (Row.out.alloc _) (wr.heap.size + 1) (some ⟨wr.heap.size, 0, none⟩) 1 [x] rfl (Rd.new_ rfl (by omega) iCs_len) hq5 hq6 hq7 ?_; intro v3 w3 row3 g3 at3; obtain ⟨A6, c6, hv6, row6⟩ := own_slice' (m := k + 1) (ys := ((List.range (k + 1)).map (rankKey p ranks)).flatMap iCs) row3 rfl (by rw [← Hx.out]; exact range_flat _ k); rw [hv6]; clear hv6)
      have k3 : Below w.heap.size w w3 := below_app (hbw.alloc zw _) (Row.out.alloc _) g3 (Nat.le_refl _) hq7
      go_roundw
      case rel => exact ⟨k + 1, A6, c6, hlt, rfl, by go_num, row6, k3⟩
      case measure => simp [intOf]; omega
    · have hk2 : k = p.length := by omega
      subst hk2
      have ek : (rankKeys p ranks).length = p.length := by simp [rankKeys]
      have hr : RdI wr wr.heap.size A5 (rankKeys p ranks) := Rd.of_own (base := w.heap.size) (e := 3) (c := c5) (by rw [ek]; exact Row.out) (by omega) iCs_len
      have HC := leastOf_any A A5 c c5 p per (rankKeys p ranks) wr _ (Nat.le_refl _) ((h.below (hbw.mono hB)).more (Nat.le_trans hB zw)) hr hp hs hl h0 h1 ek
      rw [ek] at HC
      go_wp2_with fail
      refine HC.mono ?_
      rintro e w2 ⟨A2, c2, rfl, row2, k2⟩
      rw [He.out] at row2 ⊢
      go_wp2_with fail
      go_ret
      exact ⟨A2, c2, rfl, own_mono row2 zw, hbw.trans (k2.mono zw)⟩
set_option maxHeartbeats 2000000 in
theorem duesOf_any (A A' : Option Addr) (c c' : Nat) (p : List Pk) (per : Int) (dues : List Int) (w : World) (B : Nat) (hB : B ≤ w.heap.size) (h : RdP w B A p) (h' : RdI w B A' dues) (hp : ∀ x ∈ p, okPk x) (hs : p.Pairwise (fun x y => x.a ≤ y.a)) (hl : p.length ≤ 300) (h0 : 1 ≤ per) (h1 : per ≤ 1000) (h8 : dues.length = 8) (hdu : ∀ n ∈ dues, 0 ≤ n ∧ n ≤ 1099511627776) :
    Calls Tryz.prog 74 #[.slice A p.length c, .int .i64 per, .slice A' dues.length c'] w (EndOwn Sn.cs 3 62 (leastL p per (dueKey p dues)) w) := by
  obtain ⟨i0, hi0, hz0, hz1, hz2⟩ := info_parts infoInt
  have H8 := Lib.hid h8
  have He := Lib.hid (leastL_congr (key := keyOf (dueKeys p dues)) (key' := dueKey p dues) hp h0 h1 fun k hk => keyOf_map _ _ _ hk)
  clear h8
  go_enter Tryz.func74, Tryz.ntmps74
  go_wp2_with fail
  go_loopw [7, 8] (fun v iv wr => ∃ (k : Nat) (A5 : Option Addr) (c5 : Nat), k ≤ p.length ∧ v = .slice A5 k c5 ∧ iv = .int .i64 k ∧ wr.ownsRow w.heap.size 3 1 (.slice A5 k c5) k (((List.range k).map (dueKey p dues)).flatMap iCs) ∧ Below w.heap.size w wr) (fun _ iv _ => p.length - (intOf iv).toNat)
  case atStart => exact ⟨0, none, 0, Nat.zero_le _, rfl, rfl, ⟨by simp, .inl ⟨rfl, by simp⟩⟩, Below.refl _ _⟩
  case round =>
    obtain ⟨k, A5, c5, hk, rfl, rfl, row, hbw⟩ := hrel
    have zw := hbw.size
    have Row := Lib.hid row
    clear row
    by_cases hlt : k < p.length
    · obtain ⟨b, o, rfl, hb, d0, d1, d2⟩ := RdP.get (h.below (hbw.mono hB)) hlt
      have hok := hp _ (List.getElem_mem hlt)
      obtain ⟨f, hf⟩ : ∃ f : Nat, p[k].f = f := ⟨p[k].f.toNat, by have := hok.1; omega⟩
      have hfl : f < dues.length := by rw [H8.out]; have := hok.2.1; omega
      obtain ⟨b', o', rfl, hb', e0⟩ := RdI.get (h'.below (hbw.mono hB)) hfl
      rw [hf] at d0
      obtain ⟨t31, t32⟩ := hdu _ (List.getElem_mem hfl)
      obtain ⟨_, _, _, _, t1, t2⟩ := hok
      have hwr : IntKind.i64.wrap (p[k].a + dues[f]) = p[k].a + dues[f] := by rw [IntKind.wrap_i64]; omega
      have Hx := Lib.hid (show dueKey p dues k = IntKind.i64.wrap (p[k].a + dues[f]) by rw [hwr]; unfold dueKey; rw [aOf_of hlt, fOf_of hlt, hf, Int.toNat_natCast]; simp [List.getD, hfl])
      have q1 : (0 : Int) ≤ (f : Int) := by omega
      have q2 : (f : Int) < (dues.length : Int) := by omega
      have q3 : (0 : Int) ≤ (k : Int) := by omega
      have q4 : (k : Int) < (p.length : Int) := by omega
      have hq5 : k + 1 ≤ maxLen := by simp only [maxLen]; omega
      have hq6 : (k + 1) * 8 ≤ 140737488355328 := by omega
      have hq7 : w.heap.size ≤ (wr.alloc (.cells #[.int .i64 (IntKind.i64.wrap (p[k].a + dues[f]))] 3)).heap.size := by simp; omega
      have hnew : Rd (wr.alloc (.cells #[.int .i64 (IntKind.i64.wrap (p[k].a + dues[f]))] 3)) (wr.heap.size + 1) 1 iCs (some ⟨wr.heap.size, 0, none⟩) [IntKind.i64.wrap (p[k].a + dues[f])] := Rd.new_ rfl Nat.one_pos iCs_len
      have Hrow2 := Row.out.alloc (.cells #[.int .i64 (IntKind.i64.wrap (p[k].a + dues[f]))] 3)
      clear hf hwr
      go_wp2_with fail
      go_region_law (refine step_append_rd _ iCs rfl (.tmp 15) (.tmp 30) 23 rfl w.heap.size 3 i0 (.int .i64 0) 1 8 Tryz.underlying23 hi0 hz0 hz1 hz2 rfl Nat.one_pos iCs_len iCs_one (.slice A5 k c5) k (((List.range k).map (dueKey p dues)).flatMap iCs) rfl Hrow2 (wr.heap.size + 1) (some ⟨wr.heap.size, 0, none⟩) 1 [IntKind.i64.wrap (p[k].a + dues[f])] rfl hnew hq5 hq6 hq7 ?_; intro v3 w3 row3 g3 at3)
      all_goals
        obtain ⟨A6, c6, hv6, row6⟩ := own_slice' (m := k + 1) (ys := ((List.range (k + 1)).map (dueKey p dues)).flatMap iCs) row3 rfl (by rw [← Hx.out]; exact range_flat _ k)
        rw [hv6]
        clear hv6 row3
        have k3 := below_app (((hbw.alloc zw (.cells #[.int .i64 (IntKind.i64.wrap (p[k].a + dues[f]))] 3))).drew) Hrow2.drew g3 (Nat.le_refl _) hq7
        go_wp2_with fail
        go_roundw
        case rel => exact ⟨k + 1, A6, c6, hlt, by go_num, by go_num, row6, k3⟩
        case measure => simp [intOf]; omega
    · have hk2 : k = p.length := by omega
      subst hk2
      have ek : (dueKeys p dues).length = p.length := by simp [dueKeys]
      have hr : RdI wr wr.heap.size A5 (dueKeys p dues) := Rd.of_own (base := w.heap.size) (e := 3) (c := c5) (by rw [ek]; exact Row.out) (by omega) iCs_len
      have HC := leastOf_any A A5 c c5 p per (dueKeys p dues) wr _ (Nat.le_refl _) ((h.below (hbw.mono hB)).more (Nat.le_trans hB zw)) hr hp hs hl h0 h1 ek
      rw [ek] at HC
      go_wp2_with fail
      refine HC.mono ?_
      rintro e w2 ⟨A2, c2, rfl, row2, k2⟩
      rw [He.out] at row2 ⊢
      go_wp2_with fail
      go_ret
      exact ⟨A2, c2, rfl, own_mono row2 zw, hbw.trans (k2.mono zw)⟩
end Go.Proofs.YthgpbdlmadjndaaGreatDoor
