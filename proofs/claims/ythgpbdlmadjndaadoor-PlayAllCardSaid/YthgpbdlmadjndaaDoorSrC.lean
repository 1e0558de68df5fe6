/- slices.insertionSortCmpFunc at []int, over a row of the caller's own whose numbers rise. slices.stableCmpFunc at []int, over a row of the caller's own that holds 0, 1, ..: first its blocks. cmp.Compare at int, the comparing function of gate.Run, slices.SortStableFunc at []int. Conditions: the rows that are read lie apart from the one that is sorted. -/
import Derived.Test.YthgpbdlmadjndaaDoorSym2
import Derived.BigQuiet
import Derived.Test.YthgpbdlmadjndaaDoorSrA
namespace Go.Proofs.YthgpbdlmadjndaaDoor
open Go.RowKit
set_option maxRecDepth 100000
set_option maxHeartbeats 8000000 in
theorem ins_any (key : Int → Int) (g n bA a b : Nat) (f : Nat → Int) (w0 w : World) (HC : Hid (CmpOk key n g bA w0)) (hab : a ≤ b) (hb : b ≤ n) (hn : n ≤ 1000000) (h : IA w g n f) (ho : OnlyG g w0 w) (hv : ValF f n) (hup : ∀ i j, a ≤ i → i < j → j < b → f i < f j) :
    Calls Tryd.prog 103 #[.slice (some ⟨g, 0, none⟩) n n, .int .i64 a, .int .i64 b, .func (.func 62) #[] #[.pointer (some ⟨bA, 0, none⟩)]] w (Merged key n g a b f w) := by
  obtain ⟨a1, ha1⟩ : ∃ a1, a1 = a + 1 := ⟨_, rfl⟩
  have sa : (a : Int) + 1 = (a1 : Int) := by omega
  have wa := wrapN (x := a1) (by omega)
  have HA := Lib.hid ha1
  have HI := Lib.hid h
  have HO := Lib.hid ho
  have HV := Lib.hid hv
  have HU := Lib.hid hup
  clear ha1 h ho hv hup
  go_enter Tryd.func103, Tryd.ntmps103
  go_wp2_with fail
  go_loopw [8] (fun iv wr => ∃ (i : Nat) (F : Nat → Int), a1 ≤ i ∧ (i ≤ b ∨ i = a1) ∧ iv = .int .i64 i ∧ IA wr g n F ∧ OnlyG g w wr ∧ SrtF key F a i ∧ SubF f F a i ∧ OutF f F a i) (fun iv _ => b - (intOf iv).toNat)
  case atStart => exact ⟨a1, f, Nat.le_refl _, .inr rfl, rfl, HI.out, OnlyG.refl _ _, fun i j h1 h2 h3 => by have := HA.out; omega, SubF.refl _ _ _, fun _ _ => rfl⟩
  case round =>
    obtain ⟨i, F, c1, c2, rfl, r1, r2, r3, r4, r5⟩ := hrel
    have R1 := Lib.hid r1
    have R2 := Lib.hid r2
    have R3 := Lib.hid r3
    have R4 := Lib.hid r4
    have R5 := Lib.hid r5
    clear r1 r2 r3 r4 r5
    by_cases hib : i < b
    · have hai : a < i := by have := HA.out; omega
      have HVF := Lib.hid (HV.out.sub R4.out R5.out (show i ≤ n by omega))
      have HLT := Lib.hid (show ∀ k, a ≤ k → k < i → F k < F i from fun k h1 h2 => by
        obtain ⟨k', d1, d2, e⟩ := R4.out k h1 h2
        rw [e, R5.out i (.inr (Nat.le_refl _))]
        exact HU.out k' i d1 d2 hib)
      go_wp2_with fail
      go_loopw [9] (fun jv wr => ∃ j : Nat, a ≤ j ∧ j ≤ i ∧ jv = .int .i64 j ∧ IA wr g n (rotF F j i (i + 1)) ∧ OnlyG g w wr ∧ (j < i → LexI key (F i) (F j))) (fun jv _ => (intOf jv).toNat)
      case atStart => exact ⟨i, Nat.le_of_lt hai, Nat.le_refl _, rfl, by rw [rotF_nil F i i (i + 1) (.inl rfl)]; exact R1.out, R2.out, fun h => by omega⟩
      case round =>
        obtain ⟨x, d1, d2, rfl, hr, ho2, l1⟩ := hrel
        have L1 := Lib.hid l1
        clear l1
        have HEND := Lib.hid (show (x = a ∨ (a < x ∧ LexI key (F (x - 1)) (F i))) → (SrtF key (rotF F x i (i + 1)) a (i + 1) ∧ SubF f (rotF F x i (i + 1)) a (i + 1) ∧ OutF f (rotF F x i (i + 1)) a (i + 1)) from fun hx =>
          ⟨ins_up d1 d2 R3.out (fun h9 => by rcases hx with hx | hx; omega; exact hx.2) L1.out, (R4.out.wide R5.out (Nat.le_refl _) (Nat.le_succ i)).trans ((rotF_sub F d2 (Nat.le_succ i)).wide (rotF_out F d2 (Nat.le_succ i)) d1 (Nat.le_refl _)), (R5.out.wide (Nat.le_refl _) (Nat.le_succ i)).trans ((rotF_out F d2 (Nat.le_succ i)).wide d1 (Nat.le_refl _))⟩)
        by_cases hax : a < x
        · obtain ⟨y, hy⟩ : ∃ y, y = x - 1 := ⟨_, rfl⟩
          have sy : (x : Int) - 1 = (y : Int) := by omega
          have wy := wrapN (x := y) (by omega)
          have hyx : y < x := by omega
          have hay : a ≤ y := by omega
          have x0 : (0 : Int) ≤ (x : Int) := by omega
          have x1 : (x : Int) < (n : Int) := by omega
          have y0 : (0 : Int) ≤ (y : Int) := by omega
          have y1 : (y : Int) < (n : Int) := by omega
          have t1 : (a : Int) < (x : Int) := by omega
          obtain ⟨G, hG⟩ : ∃ G, G = rotF F x i (i + 1) := ⟨_, rfl⟩
          have hGx : G x = F i := by rw [hG, rotF_lo F (Nat.le_refl _) (by omega)]; congr 1; omega
          have hGy : G y = F y := by rw [hG, rotF_no F (.inl hyx)]
          have HSTEP := Lib.hid (show ∀ k, rotF F y i (i + 1) k = if k = y then G x else if k = x then G y else G k from fun k => by
            have e : x = y + 1 := by omega
            rw [hG, e]; exact rot_up_step F (by omega) k)
          have HXY := Lib.hid (show x - 1 = y by omega)
          rw [← hG] at hr HEND
          have HGE := Lib.hid hG
          have e0 := hr.cell (k := x) (by omega)
          have e1 := hr.cell (k := y) (by omega)
          obtain ⟨P, hP⟩ : ∃ P, P = G x := ⟨_, rfl⟩
          obtain ⟨Q, hQ⟩ : ∃ Q, Q = G y := ⟨_, rfl⟩
          have vP : 0 ≤ P ∧ P < (n : Int) := by rw [hP, hGx]; exact HVF.out i (by omega)
          have vQ : 0 ≤ Q ∧ Q < (n : Int) := by rw [hQ, hGy]; exact HVF.out y (by omega)
          have hcr : Q < P := by rw [hP, hQ, hGx, hGy]; exact HLT.out y hay (by omega)
          have CC := Lib.hid (show ∀ W, OnlyG g w0 W → Calls Tryd.prog 62 #[.int .i64 P, .int .i64 Q, .pointer (some ⟨bA, 0, none⟩)] W fun e w' => e = .returned (.int .i64 (cmpI (key P) (key Q))) ∧ ∃ q, w' = W.drewN q from fun W hW => HC.out W hW P Q vP.1 vP.2 vQ.1 vQ.2)
          have HGX := Lib.hid (show F i = P by rw [hP, hGx])
          have HGY := Lib.hid (show F y = Q by rw [hQ, hGy])
          have HR := Lib.hid hr
          have HO2 := Lib.hid ho2
          have HOW := Lib.hid (HO.out.trans ho2)
          rw [← hP] at e0
          rw [← hQ] at e1
          by_cases hk : key P < key Q
          · have HK := Lib.hid (cmpI_lt hk)
            have HLX := Lib.hid (show y < i → LexI key (F i) (F y) from fun _ => by rw [HGX.out, HGY.out]; exact .of_lt hk)
            clear hk hG hGx hGy hP hQ hr ho2 vP vQ hcr hy HEND L1
            go_upto_region 4 with fail
            go_region_held3 (fun W => W.cell? ⟨g, x, none⟩ = some (.int .i64 P) ∧ W.cell? ⟨g, y, none⟩ = some (.int .i64 Q))
              (first | go_keep | exact ⟨e0, e1⟩)
              ((go_at_call 62; refine (CC.out _ (HOW.out.drewN 1)).mono ?_; rw [HK.out]; rintro e w6 ⟨rfl, q6, rfl⟩))
            obtain ⟨X, hX⟩ : ∃ X : World, X = wr.drewN (1 + q6) := ⟨_, rfl⟩
            have HRX := Lib.hid (show IA X g n G by rw [hX]; exact HR.out)
            have HOX := Lib.hid (show OnlyG g w X by rw [hX]; exact HO2.out.drewN (1 + q6))
            go_upto_region 6 with fail
            first | rw [← hX] | skip
            have e2 := HRX.out.cell (k := x) (by omega)
            have e3 := HRX.out.cell (k := y) (by omega)
            have z0 := HRX.out.frozen x
            have z1 := HRX.out.frozen y
            have HQ2 := Lib.hid (HRX.out.swap (x := x) (y := y) HSTEP.out)
            have HO3 := Lib.hid (HOX.out.set_ x (.int .i64 (G y)) |>.set_ y (.int .i64 (G x)))
            have wx := wrapN (x := x) (by omega)
            have hne : x ≠ y := by omega
            have hne2 : ¬ y = x := by omega
            have hyi : y ≤ i := by omega
            obtain ⟨P2, hP2⟩ : ∃ P2, P2 = G x := ⟨_, rfl⟩
            obtain ⟨Q2, hQ2⟩ : ∃ Q2, Q2 = G y := ⟨_, rfl⟩
            rw [← hP2] at e2
            rw [← hQ2] at e3
            rw [← hP2, ← hQ2] at HQ2 HO3
            clear hP2 hQ2 hX e0 e1 HSTEP HR HO2 HOW HRX HOX
            go_region
            go_wp2_with fail
            go_roundw
            case rel => exact ⟨y, hay, hyi, by first | rfl | go_num, HQ2.out, HO3.out.drewN 1, HLX.out⟩
            case measure => simp [intOf]; omega
          · obtain ⟨z, hz0, hz⟩ := cmpI_ge hk
            have hz1 : decide (z < 0) = false := decide_eq_false hz0
            have hz2 : (0 : Int) ≤ z := by omega
            have HK := Lib.hid hz
            have HD := Lib.hid (HEND.out (.inr ⟨hax, by rw [HXY.out, HGX.out, HGY.out]; exact .of_le hk hcr⟩))
            clear hk hG hGx hGy hP hQ hr ho2 vP vQ hcr hy HEND L1 hz HSTEP
            go_upto_region 4 with fail
            go_region_held3 (fun W => W.cell? ⟨g, x, none⟩ = some (.int .i64 P) ∧ W.cell? ⟨g, y, none⟩ = some (.int .i64 Q))
              (first | go_keep | exact ⟨e0, e1⟩)
              ((go_at_call 62; refine (CC.out _ (HOW.out.drewN 1)).mono ?_; rw [HK.out]; rintro e w6 ⟨rfl, q6, rfl⟩))
            go_wp2_with fail
            go_roundw
            case rel => exact ⟨i + 1, G, by omega, .inl hib, by go_num, HR.out.drewN _, HO2.out.drewN _, HD.out.1, HD.out.2.1, HD.out.2.2⟩
            case measure => simp [intOf]; omega
        · have hxa : x = a := by omega
          have t1 : ¬ (a : Int) < (x : Int) := by omega
          have t2 : decide ((a : Int) < (x : Int)) = false := decide_eq_false t1
          have t3 : (x : Int) ≤ (a : Int) := by omega
          have HR := Lib.hid hr
          have HO2 := Lib.hid ho2
          have HD := Lib.hid (HEND.out (.inl hxa))
          have hai1 : a1 ≤ i + 1 := by omega
          clear hr ho2 HEND L1 hxa sa wa HA HLT HVF hax
          go_upto_region 4 with fail
          go_cut [34] from 18 to 34 (fun v wx => v = .bool false ∧ IA wx g n (rotF F x i (i + 1)) ∧ OnlyG g w wx)
          case first =>
            have hgt : ((x : Int) > (a : Int)) = False := by simp; omega
            go_big_quiet (fail)
            go_wp2_with fail
            go_meet
            exact ⟨rfl, HR.out.drewN _, HO2.out.drewN _⟩
          case rest =>
          obtain ⟨rfl, g1, g2⟩ := hcut
          have G1 := Lib.hid g1
          have G2 := Lib.hid g2
          clear g1 g2
          go_wp2_with fail
          go_roundw
          case rel => exact ⟨i + 1, _, hai1, .inl hib, by go_num, G1.out, G2.out, HD.out.1, HD.out.2.1, HD.out.2.2⟩
          case measure => simp [intOf]; omega
    · have HD := Lib.hid (show SrtF key F a b ∧ SubF f F a b ∧ OutF f F a b from by
        rcases c2 with c2 | c2
        · obtain rfl : i = b := by omega
          exact ⟨R3.out, R4.out, R5.out⟩
        · by_cases e : i = b
          · subst e; exact ⟨R3.out, R4.out, R5.out⟩
          · have h0 : b = a := by have := HA.out; omega
            have hF : ∀ k, F k = f k := fun k => by
              by_cases hk : k < a ∨ i ≤ k
              · exact R5.out k hk
              · obtain ⟨k', d1, d2, e⟩ := R4.out k (by omega) (by omega)
                have h3 := HA.out
                rw [e, show k' = k by omega]
            exact ⟨fun x y h1 h2 h3 => by omega, fun k h1 h2 => by omega, fun k _ => hF k⟩)
      go_wp2_with fail
      go_end0
      exact ⟨rfl, F, R1.out, R2.out, HD.out.1, HD.out.2.1, HD.out.2.2⟩
end Go.Proofs.YthgpbdlmadjndaaDoor
namespace Go.Proofs.YthgpbdlmadjndaaDoor
open Go.RowKit
set_option maxRecDepth 100000
theorem Sg.id {key : Int → Int} {f : Nat → Int} {a b n : Nat} (h : ∀ k, a ≤ k → k < n → f k = (k : Int)) (hb : b ≤ n) : (∀ i j, a ≤ i → i < j → j < b → f i < f j) ∧ ∀ k, a ≤ k → k < b → (a : Int) ≤ f k ∧ f k < (b : Int) :=
  ⟨fun i j h1 h2 h3 => by rw [h i h1 (by omega), h j (by omega) (by omega)]; omega, fun k h1 h2 => by rw [h k h1 (by omega)]; omega⟩
set_option maxHeartbeats 8000000 in
theorem stable_any (key : Int → Int) (g n bA : Nat) (w : World) (HC : Hid (CmpOk key n g bA w)) (hn : n ≤ 1000000) (h : IA w g n fun k => (k : Int)) :
    Calls Tryd.prog 85 #[.slice (some ⟨g, 0, none⟩) n n, .int .i64 n, .func (.func 62) #[] #[.pointer (some ⟨bA, 0, none⟩)]] w (fun e w' => e = .returned (.tuple #[]) ∧ ∃ f', IA w' g n f' ∧ OnlyG g w w' ∧ Sg key f' 0 n) := by
  have HI := Lib.hid h
  clear h
  go_enter Tryd.func85, Tryd.ntmps85
  go_wp2_with fail
  go_loopw [7, 8] (fun iv jv wr => ∃ (a b : Nat) (F : Nat → Int), b = a + 20 ∧ a ≤ n ∧ iv = .int .i64 a ∧ jv = .int .i64 b ∧ IA wr g n F ∧ OnlyG g w wr ∧ Pres key F 20 a ∧ ValF F n ∧ ∀ k, a ≤ k → k < n → F k = (k : Int)) (fun iv _ _ => n - (intOf iv).toNat)
  case atStart => exact ⟨0, 20, _, rfl, Nat.zero_le _, rfl, rfl, HI.out, OnlyG.refl _ _, .nil, fun k hk => (show (0 : Int) ≤ (k : Int) ∧ (k : Int) < (n : Int) by omega), fun k _ _ => rfl⟩
  case round =>
    obtain ⟨a, b, F, hb, ha, rfl, rfl, r1, r2, r3, r4, r5⟩ := hrel
    have R1 := Lib.hid r1
    have R2 := Lib.hid r2
    have R3 := Lib.hid r3
    have R4 := Lib.hid r4
    have R5 := Lib.hid r5
    have HB := Lib.hid hb
    clear r1 r2 r3 r4 r5 hb
    by_cases hbn : b ≤ n
    · have HID := Lib.hid (Sg.id (key := key) R5.out hbn)
      have hab : a ≤ b := by have := HB.out; omega
      obtain ⟨b2, hb2⟩ : ∃ b2, b2 = b + 20 := ⟨_, rfl⟩
      have sb : (b : Int) + 20 = (b2 : Int) := by omega
      have wb := wrapN (x := b2) (by omega)
      have HB2 := Lib.hid hb2
      have hlt : a < b := by have := HB.out; omega
      clear hb2
      go_wp2_with fail
      refine (ins_any key g n bA a b F w wr HC hab hbn hn R1.out R2.out R4.out HID.out.1).mono ?_
      rintro e w2 ⟨rfl, G, g1, g2, g3, g4, g5⟩
      have G1 := Lib.hid g1
      have G2 := Lib.hid (R2.out.trans g2)
      have hsg : Sg key G a b := Sg.merged HID.out.2 g3 g4
      have G3 := Lib.hid (show Pres key G 20 b by have := (R3.out.out g5 (Nat.le_refl _)).snoc (by rw [← HB.out]; exact hsg); rw [← HB.out] at this; exact this)
      have G4 := Lib.hid (R4.out.sub g4 g5 hbn)
      have G5 := Lib.hid (show ∀ k, b ≤ k → k < n → G k = (k : Int) from fun k h1 h2 => by rw [g5 k (.inr h1)]; exact R5.out k (by omega) h2)
      clear g1 g2 g3 g4 g5 hsg
      go_wp2_with fail
      go_roundw
      case rel => exact ⟨b, b2, G, HB2.out, hbn, rfl, rfl, G1.out, G2.out, G3.out, G4.out, G5.out⟩
      case measure => simp [intOf]; omega
    · have HID := Lib.hid (Sg.id (key := key) R5.out (Nat.le_refl n))
      go_wp2_with fail
      refine (ins_any key g n bA a n F w wr HC ha (Nat.le_refl _) hn R1.out R2.out R4.out HID.out.1).mono ?_
      rintro e w2 ⟨rfl, G, g1, g2, g3, g4, g5⟩
      have hsg : Sg key G a n := Sg.merged HID.out.2 g3 g4
      have hnb : n < a + 20 := by rw [← HB.out]; omega
      have hseg : Segs key G 20 n a := by
        by_cases h9 : a < n
        · exact .step h9 (by rw [Nat.min_eq_right (Nat.le_of_lt hnb)]; exact hsg) (.done (Nat.le_of_lt hnb))
        · exact .done (by omega)
      have G1 := Lib.hid g1
      have G2 := Lib.hid (R2.out.trans g2)
      have G3 := Lib.hid (Pres.join (R3.out.out g5 (Nat.le_refl _)) (by omega) ha hseg)
      have G4 := Lib.hid (R4.out.sub g4 g5 (Nat.le_refl _))
      clear g1 g2 g3 g4 g5 hsg hseg hnb R1 R2 R3 R4 R5 HID HB
      go_wp2_with fail
      go_loopw [6, 7, 8, 9] (fun sv _ _ _ wr => ∃ (s : Nat) (F : Nat → Int), 0 < s ∧ s ≤ 2000000 ∧ sv = .int .i64 s ∧ IA wr g n F ∧ OnlyG g w wr ∧ Segs key F s n 0 ∧ ValF F n) (fun sv _ _ _ _ => n - (intOf sv).toNat)
      case atStart => exact ⟨20, G, by omega, by omega, rfl, G1.out, G2.out, G3.out, G4.out⟩
      case round =>
        obtain ⟨s, F, hs0, hs1, rfl, r1, r2, r3, r4⟩ := hrel
        have R1 := Lib.hid r1
        have R2 := Lib.hid r2
        have R3 := Lib.hid r3
        have R4 := Lib.hid r4
        clear r1 r2 r3 r4
        by_cases hsn : s < n
        · obtain ⟨d, hd⟩ : ∃ d, d = 2 * s := ⟨_, rfl⟩
          have sd : 2 * (s : Int) = (d : Int) := by omega
          have sd' : (s : Int) * 2 = (d : Int) := by omega
          have wd := wrapN (x := d) (by omega)
          have hd0 : 0 < d := by omega
          have hd1 : d ≤ 2000000 := by omega
          have hsd : s < d := by omega
          have HD := Lib.hid hd
          clear hd
          go_wp2_with fail
          go_loopw [7, 8] (fun iv jv wr => ∃ (a b : Nat) (F : Nat → Int), b = a + d ∧ a ≤ n ∧ iv = .int .i64 a ∧ jv = .int .i64 b ∧ IA wr g n F ∧ OnlyG g w wr ∧ Pres key F d a ∧ Segs key F s n a ∧ ValF F n) (fun iv _ _ => n - (intOf iv).toNat)
          case atStart => exact ⟨0, d, F, by omega, Nat.zero_le _, rfl, rfl, R1.out, R2.out, .nil, R3.out, R4.out⟩
          case round =>
            obtain ⟨a, b, F, hb, ha, rfl, rfl, r1, r2, r3, r4, r5⟩ := hrel
            have Q1 := Lib.hid r1
            have Q2 := Lib.hid r2
            have Q3 := Lib.hid r3
            have Q4 := Lib.hid r4
            have Q5 := Lib.hid r5
            have HB := Lib.hid hb
            clear r1 r2 r3 r4 r5 hb R1 R2 R3 R4
            obtain ⟨m, hm⟩ : ∃ m, m = a + s := ⟨_, rfl⟩
            have sm : (a : Int) + (s : Int) = (m : Int) := by omega
            have wm := wrapN (x := m) (by omega)
            have HM := Lib.hid hm
            have ham : a < m := by omega
            clear hm
            by_cases hbn : b ≤ n
            · have hmb : m < b := by have := HB.out; have := HM.out; omega
              have HH := Lib.hid (show Sg key F a m ∧ Sg key F m b ∧ Segs key F s n b from by
                obtain ⟨x1, x2⟩ := Q4.out.head (by omega)
                have e1 := HM.out
                have e2 := HB.out
                have e3 := HD.out
                rw [Nat.min_eq_left (by omega), ← e1] at x1
                rw [← e1] at x2
                obtain ⟨x3, x4⟩ := x2.head (by omega)
                rw [Nat.min_eq_left (by omega), show m + s = b by omega] at x3
                rw [show m + s = b by omega] at x4
                exact ⟨x1, x3, x4⟩)
              obtain ⟨b2, hb2⟩ : ∃ b2, b2 = b + d := ⟨_, rfl⟩
              have sb : (b : Int) + (d : Int) = (b2 : Int) := by omega
              have wb := wrapN (x := b2) (by omega)
              have HB2 := Lib.hid hb2
              clear hb2
              go_wp2_with fail
              refine (sym_any key g n bA w HC hn (b - a) a m b F wr (Nat.le_refl _) ham hmb hbn Q1.out Q2.out Q5.out HH.out.1.1 HH.out.2.1.1 (Sg.crs HH.out.1 HH.out.2.1)).mono ?_
              rintro e w3 ⟨rfl, G', g1, g2, g3, g4, g5⟩
              have hsg : Sg key G' a b := Sg.merged (Sg.both HH.out.1 HH.out.2.1 (Nat.le_of_lt ham) (Nat.le_of_lt hmb)) g3 g4
              have K1 := Lib.hid g1
              have K2 := Lib.hid (Q2.out.trans g2)
              have K3 := Lib.hid (show Pres key G' d b by have := (Q3.out.out g5 (Nat.le_refl _)).snoc (by rw [← HB.out]; exact hsg); rw [← HB.out] at this; exact this)
              have K4 := Lib.hid (HH.out.2.2.out g5 (Nat.le_refl _))
              have K5 := Lib.hid (Q5.out.sub g4 g5 hbn)
              clear g1 g2 g3 g4 g5 hsg
              go_wp2_with fail
              go_roundw
              case rel => exact ⟨b, b2, G', HB2.out, hbn, rfl, rfl, K1.out, K2.out, K3.out, K4.out, K5.out⟩
              case measure => simp [intOf]; omega
            · have hnb : n < a + d := by have := HB.out; omega
              by_cases hmn : m < n
              · have HH := Lib.hid (show Sg key F a m ∧ Sg key F m n from by
                  obtain ⟨x1, x2⟩ := Q4.out.head (by omega)
                  have e1 := HM.out
                  have e3 := HD.out
                  rw [Nat.min_eq_left (by omega), ← e1] at x1
                  rw [← e1] at x2
                  obtain ⟨x3, x4⟩ := x2.head hmn
                  rw [Nat.min_eq_right (by omega)] at x3
                  exact ⟨x1, x3⟩)
                go_wp2_with fail
                refine (sym_any key g n bA w HC hn (n - a) a m n F wr (Nat.le_refl _) ham hmn (Nat.le_refl _) Q1.out Q2.out Q5.out HH.out.1.1 HH.out.2.1 (Sg.crs HH.out.1 HH.out.2)).mono ?_
                rintro e w3 ⟨rfl, G', g1, g2, g3, g4, g5⟩
                have hsg : Sg key G' a n := Sg.merged (Sg.both HH.out.1 HH.out.2 (Nat.le_of_lt ham) (Nat.le_of_lt hmn)) g3 g4
                have K1 := Lib.hid g1
                have K2 := Lib.hid (Q2.out.trans g2)
                have K3 := Lib.hid (Pres.join (Q3.out.out g5 (Nat.le_refl _)) hd0 ha (.step (by omega) (by rw [Nat.min_eq_right (by omega)]; exact hsg) (.done (by omega))))
                have K5 := Lib.hid (Q5.out.sub g4 g5 (Nat.le_refl _))
                clear g1 g2 g3 g4 g5 hsg
                go_wp2_with fail
                go_roundw
                case rel => exact ⟨d, G', hd0, hd1, by first | rfl | go_num, K1.out, K2.out, K3.out, K5.out⟩
                case measure => simp [intOf]; omega
              · have K3 := Lib.hid (show Segs key F d n 0 from Pres.join Q3.out hd0 ha (by
                  by_cases h9 : a < n
                  · obtain ⟨x1, -⟩ := Q4.out.head h9
                    have e1 := HM.out
                    rw [Nat.min_eq_right (by omega)] at x1
                    exact .step h9 (by rw [Nat.min_eq_right (by omega)]; exact x1) (.done (by omega))
                  · exact .done (by omega)))
                go_wp2_with fail
                go_roundw
                case rel => exact ⟨d, F, hd0, hd1, by first | rfl | go_num, Q1.out, Q2.out, K3.out, Q5.out⟩
                case measure => simp [intOf]; omega
        · have HS := Lib.hid (show Sg key F 0 n by
            by_cases h0 : 0 < n
            · have := (R3.out.head h0).1
              rw [Nat.min_eq_right (by omega)] at this
              exact this
            · exact ⟨fun i j h1 h2 h3 => by omega, fun k h1 h2 => by omega⟩)
          go_wp2_with fail
          go_end0
          exact ⟨rfl, F, R1.out, R2.out, HS.out⟩
end Go.Proofs.YthgpbdlmadjndaaDoor
namespace Go.Proofs.YthgpbdlmadjndaaDoor
open Go.RowKit
set_option maxRecDepth 100000
set_option maxHeartbeats 1000000 in
theorem compare_any (x y : Int) (w : World) : Calls Tryd.prog 63 #[.int .i64 x, .int .i64 y] w fun e w' => e = .returned (.int .i64 (cmpI x y)) ∧ w' = w := by
  by_cases h1 : x < y
  · have HE := Lib.hid (show cmpI x y = -1 from if_pos h1)
    go_enter Tryd.func63, Tryd.ntmps63
    go_wp2
    go_ret
    rw [HE.out]
    exact ⟨rfl, rfl⟩
  · by_cases h2 : y < x
    · have HE := Lib.hid (show cmpI x y = 1 from (if_neg h1).trans (if_pos h2))
      go_enter Tryd.func63, Tryd.ntmps63
      go_wp2
      go_ret
      rw [HE.out]
      exact ⟨rfl, rfl⟩
    · have HE := Lib.hid (show cmpI x y = 0 from (if_neg h1).trans (if_neg h2))
      go_enter Tryd.func63, Tryd.ntmps63
      go_wp2
      go_ret
      rw [HE.out]
      exact ⟨rfl, rfl⟩
set_option maxHeartbeats 2000000 in
theorem runCmp_ok (key : Int → Int) (n g bA gA c : Nat) (w0 : World) (hA : w0.cell? ⟨bA, 0, none⟩ = some (.slice (some ⟨gA, 0, none⟩) n c)) (hbA : bA ≠ g) (hgA : gA ≠ g) (hr : IA w0 gA n fun k => key k) : CmpOk key n g bA w0 := by
  intro W hW x y x0 x1 y0 y1
  obtain ⟨a, rfl⟩ : ∃ a : Nat, x = a := ⟨x.toNat, by omega⟩
  obtain ⟨b, rfl⟩ : ∃ b : Nat, y = b := ⟨y.toNat, by omega⟩
  have c0 : W.cell? ⟨bA, 0, none⟩ = some (.slice (some ⟨gA, 0, none⟩) n c) := (World.cell?_of_block (a := ⟨bA, 0, none⟩) (hW.blk bA hbA)).trans hA
  have hr2 := hr.same (hW.blk gA hgA)
  have c1 : W.cell? ⟨gA, a, none⟩ = some (.int .i64 (key a)) := hr2.cell (k := a) (by omega)
  have c2 : W.cell? ⟨gA, b, none⟩ = some (.int .i64 (key b)) := hr2.cell (k := b) (by omega)
  have HK := Lib.hid (fun m => compare_any (key a) (key b) (W.drewN m))
  obtain ⟨u, hu⟩ : ∃ u, u = key a := ⟨_, rfl⟩
  obtain ⟨v, hv⟩ : ∃ v, v = key b := ⟨_, rfl⟩
  rw [← hu] at c1 HK ⊢
  rw [← hv] at c2 HK ⊢
  clear hu hv hr hr2 hW hA
  go_enter Tryd.func62, Tryd.ntmps62
  go_wp2_with fail
  go_quiet ((go_at_call 63; exact Calls.quiet_of_same (HK.out _)))
  go_wp2_with fail
  go_ret
  exact ⟨rfl, _, rfl⟩
set_option maxHeartbeats 1000000 in
theorem sortStable_any (key : Int → Int) (g n bA gA c : Nat) (w : World) (hA : w.cell? ⟨bA, 0, none⟩ = some (.slice (some ⟨gA, 0, none⟩) n c)) (hbA : bA ≠ g) (hgA : gA ≠ g) (hr : IA w gA n fun k => key k) (hn : n ≤ 1000000) (h : IA w g n fun k => (k : Int)) :
    Calls Tryd.prog 61 #[.slice (some ⟨g, 0, none⟩) n n, .func (.func 62) #[] #[.pointer (some ⟨bA, 0, none⟩)]] w (fun e w' => e = .returned (.tuple #[]) ∧ ∃ f', IA w' g n f' ∧ OnlyG g w w' ∧ (List.range n).map (fun k => (f' k).toNat) = ordL (fun k => key k) n ∧ ∀ k, k < n → 0 ≤ f' k) := by
  have HC := Lib.hid (runCmp_ok key n g bA gA c w hA hbA hgA hr)
  have HI := Lib.hid h
  clear hA hr h
  go_enter Tryd.func61, Tryd.ntmps61
  go_wp2_with fail
  refine (stable_any key g n bA w HC hn HI.out).mono ?_
  rintro e w2 ⟨rfl, f', q1, q2, q3⟩
  go_wp2_with fail
  go_end0
  exact ⟨rfl, f', q1, q2, sg_ord q3, fun k hk => by have := q3.2 k (Nat.zero_le _) hk; omega⟩
end Go.Proofs.YthgpbdlmadjndaaDoor
