/- floodgateref1.SameTexts, Byte, below, Decimal; the law's errorText, orOk, isKind. Conditions written at each. floodgateref1.Byte, below, Decimal. Conditions written at each. The law's hello, errorText, orOk, isKind. Conditions written at each. -/
import Derived.Test.YtoomffajodheaaaGreatDoorQScMa
import Derived.Test.YtoomffajodheaaaGreatDoorQMiscM
import Derived.Test.YtoomffajodheaaaGreatDoorQScPl
import Derived.BigQuiet
import Derived.Deep.QuietTactic
import Derived.Laws.IdiomStrings
import Derived.Test.YtoomffajodheaaaGreatDoorQScMc
set_option linter.all false
namespace Go.Proofs.YtoomffajodheaaaGreatDoor
open Go.RowKit
set_option maxRecDepth 100000
theorem bs_ne {a b : ByteArray} (h : a ≠ b) : (a.toList == b.toList) = false := by
  rw [show b.toList = b.data.toList from eq_of_beq (tl_eq b)]
  exact tl_ne h
theorem bs_eq (a : ByteArray) : (a.toList == a.toList) = true := beq_self_eq_true _
set_option maxHeartbeats 400000 in
theorem sameT_any (A A' : Option Addr) (c c' : Nat) (a b : List ByteArray) (w : World) (B : Nat) (h : RdB w B A a) (h' : RdB w B A' b) (hl : a.length ≤ 9223372036854775807) (hl' : b.length ≤ 9223372036854775807) :
    Calls Tryz.prog 11 #[.slice A a.length c, .slice A' b.length c'] w fun e w' => e = .returned (.bool (decide (a = b))) ∧ ∃ n, w.drewN n = w' := by
  by_cases hlen : a.length = b.length
  · have hb1 : ((a.length : Int) != (b.length : Int)) = false := by rw [hlen]; simp
    have Hlen := Lib.hid hlen
    clear hlen
    go_enter Tryz.func11, Tryz.ntmps11
    go_wp2
    go_loopw [5] (fun i wr => ∃ k n : Nat, k ≤ a.length ∧ i = .int .i64 k ∧ a.take k = b.take k ∧ w.drewN n = wr) (fun i _ => a.length - (intOf i).toNat)
    case atStart => exact ⟨0, 0, Nat.zero_le _, rfl, by simp, rfl⟩
    case round =>
      obtain ⟨k, n, hk, rfl, ht, rfl⟩ := hrel
      have Ht := Lib.hid ht
      clear ht
      by_cases hlt : k < a.length
      · have hlt2 : k < b.length := by have := Hlen.out; omega
        obtain ⟨q, o, rfl, hb, d0⟩ := RdB.get h hlt
        obtain ⟨q', o', rfl, hb', d0'⟩ := RdB.get h' hlt2
        have hi2 : (k : Int) < (b.length : Int) := by omega
        obtain ⟨x, hx⟩ : ∃ x, x = a[k] := ⟨_, rfl⟩
        obtain ⟨y, hy⟩ : ∃ y, y = b[k] := ⟨_, rfl⟩
        rw [← hx] at d0
        rw [← hy] at d0'
        have HX := Lib.hid hx
        have HY := Lib.hid hy
        clear hx hy
        by_cases he : x = y
        · have He := Lib.hid (show a[k] = b[k] by rw [← HX.out, ← HY.out]; exact he)
          have ht : (x.toList == y.toList) = true := by rw [he]; exact bs_eq y
          clear he
          go_wp2_with fail
          go_quiet (fail)
          go_wp2
          go_roundw
          case rel => exact ⟨k + 1, _, by omega, by go_num, take_next Ht.out hlt hlt2 He.out, rfl⟩
          case measure => simp [intOf]; omega
        · have He := Lib.hid (show a[k] ≠ b[k] by rw [← HX.out, ← HY.out]; exact he)
          have ht : (x.toList == y.toList) = false := bs_ne he
          clear he
          go_wp2_with fail
          go_quiet (fail)
          go_wp2
          go_ret
          exact ⟨ret_bool (by symm; exact decide_eq_false (take_ne hlt hlt2 He.out)), n + nq, (World.drewN_drewN _ _ _).symm⟩
      · have hk2 : a.length ≤ k := by omega
        go_wp2
        go_ret
        exact ⟨ret_bool (by symm; exact decide_eq_true (by have := Ht.out; rwa [List.take_of_length_le hk2, List.take_of_length_le (by have := Hlen.out; omega)] at this)), n, rfl⟩
  · have hb1 : ((a.length : Int) != (b.length : Int)) = true := by simp; omega
    have Hf := Lib.hid (show decide (a = b) = false from decide_eq_false (fun e => hlen (by rw [e])))
    clear hlen
    go_enter Tryz.func11, Tryz.ntmps11
    go_wp2
    go_ret
    exact ⟨ret_bool Hf.out.symm, 0, rfl⟩
end Go.Proofs.YtoomffajodheaaaGreatDoor
namespace Go.Proofs.YtoomffajodheaaaGreatDoor
open Go.RowKit
set_option maxRecDepth 100000
def byB (n : Nat) : ByteArray := ⟨#[UInt8.ofNat n]⟩
theorem byte_any (m : Int) (n : Nat) (w : World) (hm : m = (n : Int)) (hn : n ≤ 255) : Calls Tryz.prog 44 #[.int .i64 m] w fun e w' => e = .returned (.string (byB n)) ∧ Below w.heap.size w w' := by
  have hcv : (convert 144 9 (.slice (some ⟨w.heap.size, 0, none⟩) 1 1)).run Tryz.prog (w.alloc (.cells #[.int .u8 (n : Int)] 5)) = .ok (.string (byB n)) (w.alloc (.cells #[.int .u8 (n : Int)] 5)) := by
    refine run_convert_bytes_back _ _ _ 5 ⟨w.heap.size, 0, none⟩ 1 [UInt8.ofNat n] Tryz.underlying144 Tryz.underlying5 Tryz.underlying9 (fun j hj => ?_)
    have hj0 : j = 0 := by simpa using hj
    subst hj0
    have h := (Blk.new w 5 #[.int .u8 (n : Int)]).cell 0
    simp only [List.getElem_cons_zero, UInt8.toNat_ofNat']
    rw [Nat.mod_eq_of_lt (by omega : n < 2 ^ 8)]
    exact h
  have hwr : IntKind.u8.wrap m = (n : Int) := by rw [hm]; unfold IntKind.wrap; have hs : IntKind.u8.signed = false := rfl; have hb : IntKind.u8.bits = 8 := rfl; simp only [hs, hb]; simp; omega
  have HM := Lib.hid hm
  clear hm
  go_enter Tryz.func44, Tryz.ntmps44
  go_wp2_with fail
  go_ret
  exact ⟨rfl, (Below.refl _ _).alloc (Nat.le_refl _) _⟩
theorem quo_neg (u : Nat) : (-(u : Int)).tdiv 10 = -((u / 10 : Nat) : Int) := by
  rw [Int.neg_tdiv]
  rfl
theorem rem_neg (u : Nat) : (-(u : Int)).tmod 10 = -((u % 10 : Nat) : Int) := by
  rw [Int.neg_tmod]
  rfl
def decB (u : Nat) : ByteArray := ⟨(Lib.decDigits u).toArray⟩
theorem decB_one (u : Nat) (h : u < 10) : byB (48 + u) = decB u := by
  unfold byB decB
  rw [Lib.decDigits, dif_pos h]
theorem decB_more (u : Nat) (h : ¬ u < 10) : decB (u / 10) ++ byB (48 + u % 10) = decB u := by
  apply toList_inj
  unfold byB decB
  rw [Lib.decDigits.eq_def u, dif_neg h]
  simp
theorem decB_size (k u : Nat) (h : u < 10 ^ (k + 1)) : (decB u).size ≤ k + 1 := by
  have := dec_len k u h
  show (Lib.decDigits u).toArray.size ≤ k + 1
  simpa using this
theorem below_one (m : Int) (u : Nat) (w : World) (hm : m = -(u : Int)) (h10 : u < 10) :
    Calls Tryz.prog 26 #[.int .i64 m] w fun e w' => e = .returned (.string (decB u)) ∧ Below w.heap.size w w' := by
  have h1 : -10 < m := by omega
  have HB := Lib.hid (fun x (hx : x = 48 - m) => byte_any x (48 + u) w (by omega) (by omega))
  have h48 : IntKind.i64.wrap (48 - m) = 48 - m := by rw [IntKind.wrap_i64]; omega
  have h2 : m ≤ 0 := by omega
  clear hm
  go_enter Tryz.func26, Tryz.ntmps26
  go_wp2_with fail
  refine (HB.out _ (by omega)).mono ?_
  rintro e w1 ⟨rfl, k1⟩
  go_wp2_with fail
  go_ret
  exact ⟨by rw [← decB_one u h10]; rfl, k1⟩
theorem below_dig (k : Nat) : ∀ (m : Int) (u : Nat) (w : World), m = -(u : Int) → u ≤ k → u ≤ 9223372036854775807 →
    Calls Tryz.prog 26 #[.int .i64 m] w fun e w' => e = .returned (.string (decB u)) ∧ Below w.heap.size w w' := by
  induction k with
  | zero => exact fun m u w hm hk _ => below_one m u w hm (by omega)
  | succ k ih =>
    intro m u w hm hk hu
    have hq := quo_neg u
    have hr := rem_neg u
    rw [← hm] at hq hr
    have HM := Lib.hid hm
    by_cases h10 : u < 10
    · exact below_one m u w hm h10
    · have h1 : m ≤ -10 := by omega
      obtain ⟨Q, hQ⟩ : ∃ Q : Int, Q = -((u / 10 : Nat) : Int) := ⟨_, rfl⟩
      obtain ⟨R, hR⟩ : ∃ R : Int, R = -((u % 10 : Nat) : Int) := ⟨_, rfl⟩
      rw [← hQ] at hq
      rw [← hR] at hr
      have HIH := Lib.hid (fun x (hx : x = Q) => ih x (u / 10) w (by rw [hx, hQ]) (by omega) (by omega))
      have HB := Lib.hid (fun x (hx : x = 48 - R) W => byte_any x (48 + u % 10) W (by omega) (by omega))
      have HD := Lib.hid (decB_more u h10)
      have q1 : -922337203685477580 ≤ Q := by omega
      have q2 : Q ≤ -1 := by omega
      have q3 : -9 ≤ R := by omega
      have q4 : R ≤ 0 := by omega
      have hs1 := decB_size 18 (u / 10) (by omega)
      have hs2 : (byB (48 + u % 10)).size = 1 := rfl
      have hm0 : m < 0 := by omega
      obtain ⟨D, hD⟩ : ∃ D, D = decB (u / 10) := ⟨_, rfl⟩
      obtain ⟨E, hE⟩ : ∃ E, E = byB (48 + u % 10) := ⟨_, rfl⟩
      rw [← hD] at HD HIH hs1
      rw [← hE] at HD HB hs2
      have t1 : ¬ 9223372036854775807 < D.size + E.size := by omega
      have HQ := Lib.hid hQ
      have HR := Lib.hid hR
      clear hm hQ hR hD hE hs1 hs2 h10
      go_enter Tryz.func26, Tryz.ntmps26
      go_wp2_with fail
      refine (HIH.out _ (by omega)).mono ?_
      rintro e w1 ⟨rfl, k1⟩
      go_wp2_with fail
      refine (HB.out _ (by omega) w1).mono ?_
      rintro e w2 ⟨rfl, k2⟩
      go_wp2_with fail
      go_ret
      exact ⟨by rw [← HD.out]; rfl, k1.trans (k2.mono k1.size)⟩
/-- Decimal tells a number's numeral. -/
theorem decimal_any (n : Int) (w : World) (h0 : -9223372036854775807 ≤ n) (h1 : n ≤ 9223372036854775807) : Calls Tryz.prog 15 #[.int .i64 n] w fun e w' => e = .returned (.string (itT n)) ∧ Below w.heap.size w w' := by
  by_cases hn : n < 0
  · have HB := Lib.hid (below_dig n.natAbs n n.natAbs w (by omega) (Nat.le_refl _) (by omega))
    have hs := decB_size 18 n.natAbs (by omega)
    obtain ⟨D, hD⟩ : ∃ D, D = decB n.natAbs := ⟨_, rfl⟩
    have HI := Lib.hid (show ByteArray.mk #[45] ++ D = itT n by
      apply toList_inj
      rw [hD]
      unfold decB itT Lib.itoa
      rw [if_pos hn]
      simp)
    rw [← hD] at HB hs
    have t1 : ¬ 9223372036854775807 < 1 + D.size := by omega
    clear hD hs
    go_enter Tryz.func15, Tryz.ntmps15
    go_wp2_with fail
    refine (HB.out).mono ?_
    rintro e w1 ⟨rfl, k1⟩
    go_wp2_with fail
    go_ret
    exact ⟨by rw [← HI.out]; rfl, k1⟩
  · have HB := Lib.hid (fun x (hx : x = -n) => below_dig n.toNat x n.toNat w (by omega) (Nat.le_refl _) (by omega))
    have HI := Lib.hid (show decB n.toNat = itT n by unfold decB itT Lib.itoa; rw [if_neg hn])
    go_enter Tryz.func15, Tryz.ntmps15
    go_wp2_with fail
    refine (HB.out _ (by omega)).mono ?_
    rintro e w1 ⟨rfl, k1⟩
    go_wp2_with fail
    go_ret
    exact ⟨by rw [← HI.out]; rfl, k1⟩
end Go.Proofs.YtoomffajodheaaaGreatDoor
namespace Go.Proofs.YtoomffajodheaaaGreatDoor
open Go.RowKit
set_option maxRecDepth 100000
theorem own_rdB {w : World} {base : Nat} {A : Option Addr} {c : Nat} {l : List ByteArray} (h : w.ownsRow base 9 1 (.slice A l.length c) l.length (l.flatMap bCs)) : RdB w w.heap.size A l := Rd.of_own h (by omega) bCs_len
theorem rdB_new (w : World) (l : List ByteArray) (arr : Array Value) (ha : arr = (l.map Value.string).toArray) : RdB (w.alloc (.cells arr 9)) (w.heap.size + 1) (some ⟨w.heap.size, 0, none⟩) l := fun h0 => by
  refine ⟨w.heap.size, 0, rfl, by omega, fun i x hx j v hv => ?_⟩
  cases j with
  | zero =>
    simp only [bCs, List.getElem?_cons_zero, Option.some.injEq] at hv
    subst hv
    have hb := (Blk.new w 9 arr).cell i
    simp only [Nat.zero_add, Nat.mul_one, Nat.add_zero]
    refine Eq.trans hb ?_
    rw [ha, List.getElem?_toArray, List.getElem?_map, hx]
    rfl
  | succ j => simp [bCs] at hv
theorem Below.drewN_ {B : Nat} {a w : World} (h : Below B a w) (n : Nat) : Below B a (w.drewN n) := ⟨h.os, h.tape, h.output, h.size, h.block⟩
theorem hello_any (S : Nat → Addr) (w : World) (B : Nat) (hB : B ≤ w.heap.size) (hS : SX w B S) : Calls Tryz.prog 6 #[] w fun e w' => e = .returned (.bool true) ∧ Below w.heap.size w w' := by
  obtain ⟨X, hX⟩ : ∃ X, X = w.alloc (.cells #[.string ⟨#[108, 105, 110, 107, 32, 102, 105, 102, 111, 32, 50]⟩, .string ⟨#[112, 97, 99, 107, 101, 116, 32, 48, 32, 51, 32, 53]⟩, .string ⟨#[114, 117, 110]⟩, .string ⟨#[119, 111, 114, 115, 116]⟩, .string ⟨#[98, 111, 117, 110, 100]⟩] 9) := ⟨_, rfl⟩
  have kX : Below w.heap.size w X := by rw [hX]; exact (Below.refl _ _).alloc (Nat.le_refl _) _
  have rX : RdB X X.heap.size (some ⟨w.heap.size, 0, none⟩) hIn := by rw [hX]; exact (rdB_new w hIn _ rfl).more (by simp)
  have HR := srun_any (some ⟨w.heap.size, 0, none⟩) 5 hIn S X B (Nat.le_trans hB kX.size) (hS.below (kX.mono hB)) rX (by decide) (by
    intro x hx
    simp only [hIn, List.mem_cons, List.not_mem_nil, or_false] at hx
    rcases hx with rfl | rfl | rfl | rfl | rfl <;> decide)
  rw [hel_go] at HR
  have HRR := Lib.hid HR
  have HX := Lib.hid hX
  have KX := Lib.hid kX
  clear hX kX rX HR
  go_enter Tryz.func6, Tryz.ntmps6
  go_wp2_with fail
  rw [← HX.out]
  refine HRR.out.mono ?_
  rintro e w2 ⟨A, c, rfl, ow, k2⟩
  have K2 := Lib.hid (KX.out.trans (k2.mono KX.out.size))
  have z2 := K2.out.size
  have rd2 : RdB w2 w2.heap.size A hOut := own_rdB ow
  have HR2 := Lib.hid rd2
  clear ow k2 rd2 HRR
  obtain ⟨Y, hY⟩ : ∃ Y, Y = w2.alloc (.cells #[.string ⟨#[111, 107]⟩, .string ⟨#[111, 107]⟩, .string ⟨#[48, 58, 53, 45, 49, 49]⟩, .string ⟨#[54]⟩, .string ⟨#[102, 108, 111, 111, 100, 103, 97, 116, 101, 58, 32, 110, 111, 110, 101]⟩] 9) := ⟨_, rfl⟩
  have rY : RdB Y (w2.heap.size + 1) (some ⟨w2.heap.size, 0, none⟩) hOut := by rw [hY]; exact rdB_new w2 hOut _ rfl
  have kY : Below w2.heap.size w2 Y := by rw [hY]; exact (Below.refl _ _).alloc (Nat.le_refl _) _
  have HST0 := (sameT_any A (some ⟨w2.heap.size, 0, none⟩) c 5 hOut hOut Y (w2.heap.size + 1) ((HR2.out.below kY).more (by omega)) rY (by decide) (by decide))
  have HST := Lib.hid (show Calls Tryz.prog 11 #[.slice A hOut.length c, .slice (some ⟨w2.heap.size, 0, none⟩) 5 5] Y fun e w' => e = .returned (.bool true) ∧ ∃ n, Y.drewN n = w' from HST0.mono fun e w' h9 => ⟨by rw [h9.1, decide_eq_true rfl], h9.2⟩)
  clear HST0
  have HY := Lib.hid hY
  have KY := Lib.hid kY
  clear hY rY kY
  go_wp2_with fail
  rw [← HY.out]
  refine HST.out.mono ?_
  rintro e w3 ⟨rfl, n, rfl⟩
  clear HST
  go_wp2_with fail
  go_ret
  exact ⟨rfl, Below.drewN_ (K2.out.trans (KY.out.mono z2)) n⟩
set_option maxHeartbeats 4000000 in
theorem errText_any (k : Nat) (x : Int) (w : World) (hx : x = (k : Int)) (h1 : 1 ≤ k) (h9 : k ≤ 9) : Calls Tryz.prog 13 #[.int .i64 x] w fun e w' => e = .returned (.string (errT k)) ∧ Below w.heap.size w w' := by
  subst hx
  have hk : k = 1 ∨ k = 2 ∨ k = 3 ∨ k = 4 ∨ k = 5 ∨ k = 6 ∨ k = 7 ∨ k = 8 ∨ k = 9 := by omega
  clear h1 h9
  rcases hk with rfl | rfl | rfl | rfl | rfl | rfl | rfl | rfl | rfl
  all_goals
    go_enter Tryz.func13, Tryz.ntmps13
    go_wp2_with fail
    go_ret
    exact ⟨rfl, (Below.refl _ _).alloc (Nat.le_refl _) _⟩
theorem isKind_any (K : ByteArray) (w : World) : Calls Tryz.prog 14 #[.string K] w fun e w' => e = .returned (.bool (decide (kindN K < 5))) ∧ w' = w := by
  rcases kind_cases K with ⟨s0, s1, s2, s3, s4, hn⟩ | ⟨s0, s1, s2, s3, s4, hn⟩ | ⟨s0, s1, s2, s3, s4, hn⟩ | ⟨s0, s1, s2, s3, s4, hn⟩ | ⟨s0, s1, s2, s3, s4, hn⟩ | ⟨s0, s1, s2, s3, s4, hn⟩
  all_goals
    rw [hn]
    clear hn
    go_enter Tryz.func14, Tryz.ntmps14
    go_wp2_with fail
    go_ret
    exact ⟨rfl, rfl⟩
end Go.Proofs.YtoomffajodheaaaGreatDoor
