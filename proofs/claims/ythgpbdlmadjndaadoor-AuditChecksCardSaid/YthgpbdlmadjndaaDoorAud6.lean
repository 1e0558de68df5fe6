/- Package audit: Bytes. Conditions: ticks are not too great, few are sent; the sentinels that it names lie in their variables. -/
import Derived.Test.YthgpbdlmadjndaaDoorDelays
import Derived.Test.YthgpbdlmadjndaaDoorSentRef
namespace Go.Proofs.YthgpbdlmadjndaaDoor
open Go.RowKit
set_option maxRecDepth 100000
def byIn (p : List Pk) (f : Int) (lo hi : Int) (x : Sn) : Bool := decide (fOf p x.p.toNat = f ∧ lo < x.t ∧ x.t ≤ hi)
def byGo (p : List Pk) (f lo hi : Int) : Int → List Sn → Int
  | n, [] => n
  | n, x :: r => byGo p f lo hi (if byIn p f lo hi x = true then n + sOf p x.p.toNat else n) r
def byErr (p : List Pk) (l : List Sn) (f : Int) : Nat × Int := if (pktErr p).1 ≠ 0 then pktErr p else if (delErr p.length l).1 ≠ 0 then delErr p.length l else if f < 0 ∨ 8 ≤ f then (2, -1) else (0, -1)
def byV (p : List Pk) (l : List Sn) (f lo hi : Int) : Int := if (byErr p l f).1 = 0 then byGo p f lo hi 0 l else 0
set_option maxHeartbeats 4000000 in
theorem bytes_ok (A A' : Option Addr) (c c' : Nat) (p : List Pk) (l : List Sn) (f lo hi : Int) (S : Nat → Addr) (w : World) (B : Nat) (hB : B ≤ w.heap.size) (h : RdP w B A p) (h' : RdS w B A' l) (hS : Snt w B S [2, 3, 4, 5, 7, 8]) (hl : p.length ≤ 9223372036854775807) (hl' : l.length ≤ 1000)
    (ht : ∀ x ∈ l, tame50 x.t) (h1 : (pktErr p).1 = 0) (h3 : (delErr p.length l).1 = 0) (hf0 : ¬ f < 0) (hf8 : ¬ 8 ≤ f) :
    Calls Tryd.prog 23 #[.slice A p.length c, .slice A' l.length c', .int .i64 f, .int .i64 lo, .int .i64 hi] w (EndVEr (.int .i64 (byGo p f lo hi 0 l)) S 0 (-1) w) := by
  have hpk := pktErr_okPk h1
  have Hc := Lib.hid (pktErr_nil h1)
  have hta : ∀ x ∈ p, tame50 x.a := fun x hx => by
    have := (hpk x hx).2.2.2.2
    unfold tame50
    omega
  obtain ⟨hbad, hd0⟩ := delErr_ok h3
  have hsp : ∀ y ∈ l, 0 ≤ y.p ∧ y.p.toNat < p.length := fun y hy => by
    have := sentBad_ok hbad y hy
    omega
  have Hd := Lib.hid hd0
  clear h1 h3 hbad hd0
  go_enter Tryd.func23, Tryd.ntmps23
  go_wp2_with fail
  refine (pcheck_any A c p S _ B hB h (hS.sub (by simp)) hl).mono ?_
  rintro e w1 ⟨v, rfl, hv, k1⟩
  obtain rfl := hv.nil_of (by rw [Hc.out])
  have z1 := k1.size
  go_wp2_with fail
  refine (delays_any A A' c c' p l S w1 B (by omega) (h.below (k1.mono hB)) (h'.below (k1.mono hB)) ((hS.below (k1.mono hB)).sub (by simp)) hl (by omega) ht hta).mono ?_
  rintro e w2 ⟨A3, c3, v, rfl, o3, hv, k2⟩
  obtain rfl := hv.nil_of (by rw [Hd.out])
  have k2' := k1.trans (k2.mono z1)
  have z2 := k2'.size
  clear o3 hv
  go_wp2_with fail
  go_loopw [15, 42] (fun nv iv wr => ∃ (k : Nat) (n : Int), k ≤ l.length ∧ iv = .int .i64 k ∧ nv = .int .i64 n ∧ byGo p f lo hi 0 l = byGo p f lo hi n (l.drop k) ∧ 0 ≤ n ∧ n ≤ 1500 * (k : Int) ∧ Below w2.heap.size w2 wr) (fun _ iv _ => l.length - (intOf iv).toNat)
  case atStart => exact ⟨0, 0, Nat.zero_le _, rfl, rfl, rfl, Int.le_refl _, by omega, Below.refl _ _⟩
  case round =>
    obtain ⟨k, n, hk, rfl, rfl, hby, n0, n1, hbw⟩ := hrel
    have zw := hbw.size
    have kw := k2'.trans (hbw.mono z2)
    by_cases hlt : k < l.length
    · obtain ⟨q, o, rfl, hqq, d0, d1, d2⟩ := RdS.get (h'.below (kw.mono hB)) hlt
      have hsk := hsp _ (List.getElem_mem hlt)
      obtain ⟨m, hn⟩ : ∃ m : Nat, l[k].p = m := ⟨l[k].p.toNat, by omega⟩
      have hnl : m < p.length := by omega
      obtain ⟨b1, o1, rfl, hb1, f0, f1, f2⟩ := RdP.get (h.below (kw.mono hB)) hnl
      have hok := hpk _ (List.getElem_mem hnl)
      obtain ⟨z, hz⟩ : ∃ z, z = p[m].s := ⟨_, rfl⟩
      obtain ⟨g, hg⟩ : ∃ g, g = p[m].f := ⟨_, rfl⟩
      obtain ⟨pa, hpa⟩ : ∃ pa, pa = p[m].a := ⟨_, rfl⟩
      have hz1 : 1 ≤ z := by rw [hz]; exact hok.2.2.1
      have hz2 : z ≤ 1500 := by rw [hz]; exact hok.2.2.2.1
      have hfl : fOf p l[k].p.toNat = g := by rw [hn, Int.toNat_natCast, fOf_of hnl, hg]
      have hsz : sOf p l[k].p.toNat = z := by rw [hn, Int.toNat_natCast, sOf_of hnl, hz]
      rw [List.drop_eq_getElem_cons hlt] at hby
      obtain ⟨x, hx⟩ : ∃ x : Sn, x = l[k] := ⟨_, rfl⟩
      rw [hn] at d0
      rw [← hx] at d1 d2 hfl hsz hby
      rw [← hg] at f0
      rw [← hz] at f1
      rw [← hpa] at f2
      have bx := (Below.refl wr.heap.size wr).alloc (Nat.le_refl _) (.cells #[.int .i64 (m : Int), .int .i64 x.f, .int .i64 x.t] 44)
      have old : ∀ (a : Addr) (u : Value), wr.cell? a = some u → (wr.alloc (.cells #[.int .i64 (m : Int), .int .i64 x.f, .int .i64 x.t] 44)).cell? a = some u := fun a u ha => (bx.cell (p := a) (World.block_lt_of_cell? _ _ ha)).trans ha
      have u0 := old _ _ f0
      have u1 := old _ _ f1
      have u2 := old _ _ f2
      have bq := bx.alloc (by simp) (.cells #[.int .i64 g, .int .i64 z, .int .i64 pa] 42)
      have kq := hbw.trans (bq.mono zw)
      have p1 : (0 : Int) ≤ (k : Int) := by omega
      have p2 : (k : Int) < (l.length : Int) := by omega
      have p3 : (0 : Int) ≤ (m : Int) := by omega
      have p4 : (m : Int) < (p.length : Int) := by omega
      have s1 : -9223372036854775808 ≤ n + z := by omega
      have s2 : n + z ≤ 9223372036854775807 := by omega
      clear hn hok hg hz hpa hx hsk f0 f1 f2 old bx bq
      by_cases hgf : g = f
      · have j1 : (g == f) = true := by simp [hgf]
        by_cases hlo : lo < x.t
        · by_cases hhi : x.t ≤ hi
          · have Hby := Lib.hid (show byGo p f lo hi 0 l = byGo p f lo hi (n + z) (l.drop (k + 1)) by rw [hby]; show byGo p f lo hi (if byIn p f lo hi x = true then n + sOf p x.p.toNat else n) _ = _; rw [if_pos (by unfold byIn; rw [hfl]; exact decide_eq_true ⟨hgf, hlo, hhi⟩), hsz])
            clear hby hfl hsz hgf
            go_wp2_with fail
            go_roundw
            case rel => exact ⟨k + 1, n + z, hlt, by go_num, rfl, Hby.out, by omega, by omega, kq⟩
            case measure => simp [intOf]; omega
          · have Hby := Lib.hid (show byGo p f lo hi 0 l = byGo p f lo hi n (l.drop (k + 1)) by rw [hby]; show byGo p f lo hi (if byIn p f lo hi x = true then n + sOf p x.p.toNat else n) _ = _; rw [if_neg (by unfold byIn; simp; intro _ _; omega)])
            clear hby hfl hsz hgf
            go_wp2_with fail
            go_roundw
            case rel => exact ⟨k + 1, n, hlt, by go_num, rfl, Hby.out, n0, by omega, kq⟩
            case measure => simp [intOf]; omega
        · have Hby := Lib.hid (show byGo p f lo hi 0 l = byGo p f lo hi n (l.drop (k + 1)) by rw [hby]; show byGo p f lo hi (if byIn p f lo hi x = true then n + sOf p x.p.toNat else n) _ = _; rw [if_neg (by unfold byIn; simp; intro _ h9; omega)])
          clear hby hfl hsz hgf
          go_wp2_with fail
          go_roundw
          case rel => exact ⟨k + 1, n, hlt, by go_num, rfl, Hby.out, n0, by omega, kq⟩
          case measure => simp [intOf]; omega
      · have j1 : (g == f) = false := by simp [hgf]
        have Hby := Lib.hid (show byGo p f lo hi 0 l = byGo p f lo hi n (l.drop (k + 1)) by rw [hby]; show byGo p f lo hi (if byIn p f lo hi x = true then n + sOf p x.p.toNat else n) _ = _; rw [if_neg (by unfold byIn; rw [hfl]; simp [hgf])])
        clear hby hfl hsz hgf
        go_wp2_with fail
        go_roundw
        case rel => exact ⟨k + 1, n, hlt, by go_num, rfl, Hby.out, n0, by omega, kq⟩
        case measure => simp [intOf]; omega
    · rw [List.drop_eq_nil_of_le (by omega)] at hby
      have Hby := Lib.hid (show byGo p f lo hi 0 l = n from hby)
      clear hby
      go_wp2_with fail
      go_ret2
      rw [Hby.out]
      exact ⟨.nilIface, rfl, .nil, kw⟩
set_option maxHeartbeats 2000000 in
theorem bytes_any (A A' : Option Addr) (c c' : Nat) (p : List Pk) (l : List Sn) (f lo hi : Int) (S : Nat → Addr) (w : World) (B : Nat) (hB : B ≤ w.heap.size) (h : RdP w B A p) (h' : RdS w B A' l) (hS : Snt w B S [2, 3, 4, 5, 7, 8]) (hl : p.length ≤ 9223372036854775807) (hl' : l.length ≤ 1000)
    (ht : ∀ x ∈ l, tame50 x.t) :
    Calls Tryd.prog 23 #[.slice A p.length c, .slice A' l.length c', .int .i64 f, .int .i64 lo, .int .i64 hi] w (EndVEr (.int .i64 (byV p l f lo hi)) S (byErr p l f).1 (byErr p l f).2 w) := by
  by_cases h1 : (pktErr p).1 = 0
  · have hpk := pktErr_okPk h1
    have hta : ∀ x ∈ p, tame50 x.a := fun x hx => by
      have := (hpk x hx).2.2.2.2
      unfold tame50
      omega
    have Hc := Lib.hid (pktErr_nil h1)
    by_cases h3 : (delErr p.length l).1 = 0
    · by_cases hf : f < 0 ∨ 8 ≤ f
      · have He := Lib.hid (show byErr p l f = (2, -1) by unfold byErr; rw [if_neg (by omega), if_neg (by omega), if_pos hf])
        have Hv := Lib.hid (show byV p l f lo hi = 0 by unfold byV; rw [He.out]; rfl)
        have Hd := Lib.hid (delErr_ok h3).2
        have hf4 : f < 0 ∨ (¬ f < 0 ∧ 8 ≤ f) := by omega
        clear h1 h3 hf
        rcases hf4 with hf1 | ⟨hf1, hf2⟩
        all_goals
          go_enter Tryd.func23, Tryd.ntmps23
          go_wp2_with fail
          refine (pcheck_any A c p S _ B hB h (hS.sub (by simp)) hl).mono ?_
          rintro e w1 ⟨v, rfl, hv, k1⟩
          obtain rfl := hv.nil_of (by rw [Hc.out])
          have z1 := k1.size
          go_wp2_with fail
          refine (delays_any A A' c c' p l S w1 B (by omega) (h.below (k1.mono hB)) (h'.below (k1.mono hB)) ((hS.below (k1.mono hB)).sub (by simp)) hl (by omega) ht hta).mono ?_
          rintro e w2 ⟨A3, c3, v, rfl, o3, hv, k2⟩
          obtain rfl := hv.nil_of (by rw [Hd.out])
          have k2' := k1.trans (k2.mono z1)
          have gE : w2.cell? ⟨G 2, 0, none⟩ = some (sv S 2) := ((hS.below (k2'.mono hB)) 2 (by simp)).2.2
          simp only [G, sv] at gE
          clear o3 hv
          go_wp2_with fail
          go_quiet (fail)
          rename Nat => nq
          go_wp2_with fail
          go_ret2
          rw [Hv.out, He.out]
          exact ⟨_, rfl, .bare 2 (by omega) (by omega), below_drewN k2' nq⟩
      · have e1 : byErr p l f = (0, -1) := by unfold byErr; rw [if_neg (by omega), if_neg (by omega), if_neg hf]
        have e2 : byV p l f lo hi = byGo p f lo hi 0 l := by unfold byV; rw [e1]; rfl
        rw [e1, e2]
        exact bytes_ok A A' c c' p l f lo hi S w B hB h h' hS hl hl' ht h1 h3 (by omega) (by omega)
    · have He := Lib.hid (show byErr p l f = delErr p.length l by unfold byErr; rw [if_neg (by omega), if_pos h3])
      have Hv := Lib.hid (show byV p l f lo hi = 0 by unfold byV; rw [He.out, if_neg h3])
      have Hd := Lib.hid h3
      clear h1 h3
      go_enter Tryd.func23, Tryd.ntmps23
      go_wp2_with fail
      refine (pcheck_any A c p S _ B hB h (hS.sub (by simp)) hl).mono ?_
      rintro e w1 ⟨v, rfl, hv, k1⟩
      obtain rfl := hv.nil_of (by rw [Hc.out])
      have z1 := k1.size
      go_wp2_with fail
      refine (delays_any A A' c c' p l S w1 B (by omega) (h.below (k1.mono hB)) (h'.below (k1.mono hB)) ((hS.below (k1.mono hB)).sub (by simp)) hl (by omega) ht hta).mono ?_
      rintro e w2 ⟨A3, c3, v, rfl, o3, hv, k2⟩
      obtain ⟨T, a, rfl⟩ := hv.some_of Hd.out
      go_wp2_with fail
      go_ret2
      rw [Hv.out, He.out]
      exact ⟨_, rfl, hv, k1.trans (k2.mono z1)⟩
  · have He := Lib.hid (show byErr p l f = pktErr p by unfold byErr; rw [if_pos h1])
    have Hv := Lib.hid (show byV p l f lo hi = 0 by unfold byV; rw [He.out, if_neg h1])
    have Hn := Lib.hid h1
    clear h1
    go_enter Tryd.func23, Tryd.ntmps23
    go_wp2_with fail
    refine (pcheck_any A c p S _ B hB h (hS.sub (by simp)) hl).mono ?_
    rintro e w1 ⟨v, rfl, hv, k1⟩
    obtain ⟨T, a, rfl⟩ := hv.some_of Hn.out
    go_wp2_with fail
    go_ret2
    rw [Hv.out, He.out]
    exact ⟨_, rfl, hv, k1⟩
end Go.Proofs.YthgpbdlmadjndaaDoor
