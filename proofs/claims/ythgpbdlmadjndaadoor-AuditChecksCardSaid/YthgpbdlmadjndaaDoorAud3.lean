/- Package audit: Check. Conditions: ticks are not too great; the sentinels that it names lie in their variables. -/
import Derived.Test.YthgpbdlmadjndaaDoorAud2
import Derived.Laws.OwnMore
namespace Go.Proofs.YthgpbdlmadjndaaDoor
open Go.RowKit
set_option maxRecDepth 100000
theorem infoBool2 : (Tryd.prog.info? 4).map (fun i => (i.zero, i.size, i.bytes)) = some (some (.bool false), 1, 1) := by kernel_rfl
theorem auErr_le (p : List Pk) (per : Int) (d : Nat → Bool) (to : Int) (x : Sn) : auErr p per d to x ≤ 8 := by
  unfold auErr
  repeat' split
  all_goals omega
set_option maxHeartbeats 4000000 in
theorem audCheck_ok (A A' : Option Addr) (c c' : Nat) (p : List Pk) (per : Int) (l : List Sn) (S : Nat → Addr) (w : World) (B : Nat) (hB : B ≤ w.heap.size) (h : RdP w B A p) (h' : RdS w B A' l) (hS : Snt w B S [2, 3, 4, 5, 7, 8]) (hl' : l.length ≤ 1000) (ht : ∀ x ∈ l, tame50 x.f) (hlk : (lookErr p per).1 = 0) :
    Calls Tryd.prog 20 #[.slice A p.length c, .int .i64 per, .slice A' l.length c'] w (EndEr S (auGo p per (fun _ => false) 0 l 0).1 (auGo p per (fun _ => false) 0 l 0).2 w) := by
  obtain ⟨hf, hl, hpk, h0, h1⟩ := lookErr_ok hlk
  obtain ⟨i1, hi1, hy0, hy1, hy2⟩ := info_parts infoBool2
  have Hf := Lib.hid hf
  clear hf hlk
  go_enter Tryd.func20, Tryd.ntmps20
  go_wp2_with fail
  refine (look_any A c p per S w B hB h (hS.sub (by simp)) (by omega)).mono ?_
  rintro e w1 ⟨v, rfl, hv, k1⟩
  obtain rfl := hv.nil_of (by rw [Hf.out])
  have z1 := k1.size
  go_wp2_with (at_make; refine wpList_make_full _ rfl (.tmp 21) (.tmp 21) 59 rfl w1.heap.size 4 i1 (.bool false) 1 Tryd.underlying59 hi1 hy0 hy1 .i64 .i64 p.length p.length p.length rfl rfl rfl rfl (by rw [hy2]; omega) (by simp only [maxLen]; omega) (Nat.le_refl _) ?_; intro w2 row2 g2; rw [boolRow_new] at row2; have k2 : Below w1.heap.size w1 w2 := (Below.refl _ _).grown g2 (Nat.le_refl _) (by simp); have s2 : w1.heap.size < w2.heap.size := own_lt row2 _ rfl)
  have hI0 : OneIn (w2.alloc (.cells (bookCs A p.length c per w1.heap.size 0) 88)) w1.heap.size w2.heap.size w1.heap.size w1.heap.size A c p per 0 (fun _ => false) :=
    ⟨((h.below (k1.mono hB)).more (Nat.le_trans hB z1)).below (k2.alloc (Nat.le_of_lt s2) _), Blk.new _ _ _, row2.alloc _, Nat.le_of_lt s2, Nat.le_refl _, by omega⟩
  have k3 : Below w1.heap.size w1 (w2.alloc (.cells (bookCs A p.length c per w1.heap.size 0) 88)) := k2.alloc (Nat.le_of_lt s2) _
  go_loopw [27] (fun iv wr => ∃ (i : Nat) (d : Nat → Bool) (to : Int), i ≤ l.length ∧ iv = .int .i64 i ∧ OneIn wr w1.heap.size w2.heap.size w1.heap.size w1.heap.size A c p per to d ∧ auGo p per (fun _ => false) 0 l 0 = auGo p per d to (l.drop i) i ∧ Below w1.heap.size w1 wr) (fun iv _ => l.length - (intOf iv).toNat)
  case atStart => exact ⟨0, fun _ => false, 0, Nat.zero_le _, rfl, hI0, rfl, k3⟩
  case round =>
    obtain ⟨i, d, to, hi, rfl, hI, hgo, hbw⟩ := hrel
    have HI := Lib.hid hI
    have zw := hbw.size
    have kw := k1.trans (hbw.mono z1)
    clear hI hI0 k3 row2
    by_cases hlt : i < l.length
    · obtain ⟨q, o, rfl, hq, d0, d1, d2⟩ := RdS.get (h'.below (kw.mono hB)) hlt
      rw [List.drop_eq_getElem_cons hlt, auGo] at hgo
      have htx := ht _ (List.getElem_mem hlt)
      obtain ⟨x, hx⟩ : ∃ x : Sn, x = l[i] := ⟨_, rfl⟩
      rw [← hx] at d0 d1 d2 hgo htx
      have Hgo := Lib.hid hgo
      have q1 : (0 : Int) ≤ (i : Int) := by omega
      have q2 : (i : Int) < (l.length : Int) := by omega
      obtain ⟨X, hX⟩ : ∃ X : World, X = wr.alloc (.cells #[.int .i64 x.p, .int .i64 x.f, .int .i64 x.t] 44) := ⟨_, rfl⟩
      have kx : Below wr.heap.size wr X := by rw [hX]; exact (Below.refl _ _).alloc (Nat.le_refl _) _
      have iX : OneIn X w1.heap.size w2.heap.size w1.heap.size w1.heap.size A c p per to d := HI.out.below kx
      have kX := hbw.trans (kx.mono zw)
      have hone := one_any w2.heap.size w1.heap.size w1.heap.size A c p per to d x S X w1.heap.size iX ((((hS.below (kw.mono hB)).below ((kx.mono zw).mono (Nat.le_trans hB z1))).more (Nat.le_trans hB z1)).sub (by simp)) hl h0 h1 hpk htx
      unfold auVal at hone
      have Hone := Lib.hid hone
      have HX := Lib.hid hX
      have zX := kX.size
      have zxx := kx.size
      clear hgo hx hX hone iX
      go_wp2_with fail
      rw [← HX.out]
      refine Hone.out.mono ?_
      rintro e w4 ⟨hgood, hbad⟩
      by_cases he : auErr p per d to x = 0
      · obtain ⟨rfl, i4, k4⟩ := hgood he
        have Hgo2 := Lib.hid (show auGo p per (fun _ => false) 0 l 0 = auGo p per (dSet d x.p.toNat) x.t (l.drop (i + 1)) (i + 1) by rw [Hgo.out, if_neg (by omega)])
        have I4 := Lib.hid i4
        clear hgood hbad he i4
        go_wp2_with fail
        go_roundw
        case rel => exact ⟨i + 1, dSet d x.p.toNat, x.t, hlt, by go_num, I4.out, Hgo2.out, kX.trans k4⟩
        case measure => simp [intOf]; omega
      · obtain ⟨rfl, k4⟩ := hbad he
        have Hgo2 := Lib.hid (show auGo p per (fun _ => false) 0 l 0 = (auErr p per d to x, (i : Int)) by rw [Hgo.out, if_pos he])
        have hle := auErr_le p per d to x
        obtain ⟨en, hen⟩ : ∃ en, en = auErr p per d to x := ⟨_, rfl⟩
        rw [← hen] at he hle
        have Hen := Lib.hid hen
        rw [← hen]
        have he1 : 1 ≤ en := by omega
        have k5 := k1.trans ((kX.trans (k4.mono zX)).mono z1)
        clear hgood hbad hen he
        unfold sv
        go_wp2_with fail
        go_ret
        rw [Hgo2.out, ← Hen.out]
        exact ⟨_, rfl, .fault en he1 (by omega) _ _ (by simp) (heap_alloc_new _ _), k5.alloc k5.size _⟩
    · rw [List.drop_eq_nil_of_le (by omega), auGo] at hgo
      have Hgo := Lib.hid hgo
      have hoth := oth0_any w2.heap.size w1.heap.size A c p per to d (fun _ => true) w1.heap.size wr HI.out.hb HI.out.hr (by omega) (fun j m _ => aone0_any j m wr)
      have Hoth := Lib.hid hoth
      clear hgo hoth
      go_wp2_with fail
      refine Hoth.out.mono ?_
      rintro e w4 ⟨rfl, m4, hm4⟩
      have k4 : Below w.heap.size w w4 := by rw [hm4]; exact below_drewN kw m4
      cases ho : oth p.length d (fun _ => true)
      · have Hg := Lib.hid (show auGo p per (fun _ => false) 0 l 0 = (0, -1) by rw [Hgo.out, ho]; rfl)
        clear ho hm4
        go_wp2_with fail
        go_ret
        rw [Hg.out]
        exact ⟨_, rfl, .nil, k4⟩
      · have Hg := Lib.hid (show auGo p per (fun _ => false) 0 l 0 = (4, -1) by rw [Hgo.out, ho]; rfl)
        have gE : w4.cell? ⟨G 4, 0, none⟩ = some (sv S 4) := ((hS.below (k4.mono hB)) 4 (by simp)).2.2
        simp only [G, sv] at gE
        clear ho hm4
        go_wp2_with fail
        go_ret
        rw [Hg.out]
        exact ⟨_, rfl, .bare 4 (by omega) (by omega), k4⟩
theorem audCheck_any (A A' : Option Addr) (c c' : Nat) (p : List Pk) (per : Int) (l : List Sn) (S : Nat → Addr) (w : World) (B : Nat) (hB : B ≤ w.heap.size) (h : RdP w B A p) (h' : RdS w B A' l) (hS : Snt w B S [2, 3, 4, 5, 7, 8]) (hl : p.length ≤ 9223372036854775807) (hl' : l.length ≤ 1000) (ht : ∀ x ∈ l, tame50 x.f) :
    Calls Tryd.prog 20 #[.slice A p.length c, .int .i64 per, .slice A' l.length c'] w (EndEr S (audErr p per l).1 (audErr p per l).2 w) := by
  by_cases hlk : (lookErr p per).1 = 0
  · rw [show audErr p per l = auGo p per (fun _ => false) 0 l 0 from if_neg (by omega)]
    exact audCheck_ok A A' c c' p per l S w B hB h h' hS hl' ht hlk
  · rw [show audErr p per l = lookErr p per from if_pos hlk]
    have Hn := Lib.hid hlk
    clear hlk
    go_enter Tryd.func20, Tryd.ntmps20
    go_wp2_with fail
    refine (look_any A c p per S w B hB h (hS.sub (by simp)) hl).mono ?_
    rintro e w1 ⟨v, rfl, hv, k1⟩
    obtain ⟨T, a, rfl⟩ := hv.some_of Hn.out
    go_wp2_with fail
    go_ret
    exact ⟨_, rfl, hv, k1⟩
end Go.Proofs.YthgpbdlmadjndaaDoor
