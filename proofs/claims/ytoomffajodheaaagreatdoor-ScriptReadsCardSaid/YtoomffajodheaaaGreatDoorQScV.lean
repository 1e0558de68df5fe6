/- ScriptReads: any lines: what is no line is told. Conditions: the lines lie; the script's ground lies; all nine errors lie. -/
import Derived.Test.YtoomffajodheaaaGreatDoorQScMd
import Derived.Test.YtoomffajodheaaaGreatDoorQCoded3
set_option linter.all false
namespace Go.Proofs.YtoomffajodheaaaGreatDoor
open Go.RowKit
set_option maxRecDepth 100000
theorem word10 (w : ByteArray) : (wordIs w ∧ (w.toList == ([99, 117, 114, 118, 101] : List UInt8)) = true) ∨ (wordIs w ∧ (w.toList == ([99, 117, 114, 118, 101] : List UInt8)) = false ∧ (w.toList == ([108, 105, 110, 107] : List UInt8)) = true) ∨ (wordIs w ∧ (w.toList == ([99, 117, 114, 118, 101] : List UInt8)) = false ∧ (w.toList == ([108, 105, 110, 107] : List UInt8)) = false ∧ (w.toList == ([110, 117, 109, 98, 101, 114, 115] : List UInt8)) = true) ∨ (wordIs w ∧ (w.toList == ([99, 117, 114, 118, 101] : List UInt8)) = false ∧ (w.toList == ([108, 105, 110, 107] : List UInt8)) = false ∧ (w.toList == ([110, 117, 109, 98, 101, 114, 115] : List UInt8)) = false ∧ (w.toList == ([112, 97, 99, 107, 101, 116] : List UInt8)) = true) ∨ (wordIs w ∧ (w.toList == ([99, 117, 114, 118, 101] : List UInt8)) = false ∧ (w.toList == ([108, 105, 110, 107] : List UInt8)) = false ∧ (w.toList == ([110, 117, 109, 98, 101, 114, 115] : List UInt8)) = false ∧ (w.toList == ([112, 97, 99, 107, 101, 116] : List UInt8)) = false ∧ (w.toList == ([97, 116] : List UInt8)) = true) ∨ (wordIs w ∧ (w.toList == ([99, 117, 114, 118, 101] : List UInt8)) = false ∧ (w.toList == ([108, 105, 110, 107] : List UInt8)) = false ∧ (w.toList == ([110, 117, 109, 98, 101, 114, 115] : List UInt8)) = false ∧ (w.toList == ([112, 97, 99, 107, 101, 116] : List UInt8)) = false ∧ (w.toList == ([97, 116] : List UInt8)) = false ∧ (w.toList == ([99, 108, 101, 97, 114] : List UInt8)) = true) ∨ (wordIs w ∧ (w.toList == ([99, 117, 114, 118, 101] : List UInt8)) = false ∧ (w.toList == ([108, 105, 110, 107] : List UInt8)) = false ∧ (w.toList == ([110, 117, 109, 98, 101, 114, 115] : List UInt8)) = false ∧ (w.toList == ([112, 97, 99, 107, 101, 116] : List UInt8)) = false ∧ (w.toList == ([97, 116] : List UInt8)) = false ∧ (w.toList == ([99, 108, 101, 97, 114] : List UInt8)) = false ∧ (w.toList == ([114, 117, 110] : List UInt8)) = true) ∨ (wordIs w ∧ (w.toList == ([99, 117, 114, 118, 101] : List UInt8)) = false ∧ (w.toList == ([108, 105, 110, 107] : List UInt8)) = false ∧ (w.toList == ([110, 117, 109, 98, 101, 114, 115] : List UInt8)) = false ∧ (w.toList == ([112, 97, 99, 107, 101, 116] : List UInt8)) = false ∧ (w.toList == ([97, 116] : List UInt8)) = false ∧ (w.toList == ([99, 108, 101, 97, 114] : List UInt8)) = false ∧ (w.toList == ([114, 117, 110] : List UInt8)) = false ∧ (w.toList == ([119, 111, 114, 115, 116] : List UInt8)) = true) ∨ (wordIs w ∧ (w.toList == ([99, 117, 114, 118, 101] : List UInt8)) = false ∧ (w.toList == ([108, 105, 110, 107] : List UInt8)) = false ∧ (w.toList == ([110, 117, 109, 98, 101, 114, 115] : List UInt8)) = false ∧ (w.toList == ([112, 97, 99, 107, 101, 116] : List UInt8)) = false ∧ (w.toList == ([97, 116] : List UInt8)) = false ∧ (w.toList == ([99, 108, 101, 97, 114] : List UInt8)) = false ∧ (w.toList == ([114, 117, 110] : List UInt8)) = false ∧ (w.toList == ([119, 111, 114, 115, 116] : List UInt8)) = false ∧ (w.toList == ([98, 111, 117, 110, 100] : List UInt8)) = true) ∨ (¬ wordIs w ∧ (w.toList == ([99, 117, 114, 118, 101] : List UInt8)) = false ∧ (w.toList == ([108, 105, 110, 107] : List UInt8)) = false ∧ (w.toList == ([110, 117, 109, 98, 101, 114, 115] : List UInt8)) = false ∧ (w.toList == ([112, 97, 99, 107, 101, 116] : List UInt8)) = false ∧ (w.toList == ([97, 116] : List UInt8)) = false ∧ (w.toList == ([99, 108, 101, 97, 114] : List UInt8)) = false ∧ (w.toList == ([114, 117, 110] : List UInt8)) = false ∧ (w.toList == ([119, 111, 114, 115, 116] : List UInt8)) = false ∧ (w.toList == ([98, 111, 117, 110, 100] : List UInt8)) = false) := by
  by_cases h0 : w = wCurve
  · subst h0; exact .inl ⟨.inl rfl, tl_eq wCurve⟩
  by_cases h1 : w = wLink
  · subst h1; exact .inr (.inl ⟨.inr (.inl rfl), tl_ne (a := wLink) (b := wCurve) (by decide), tl_eq wLink⟩)
  by_cases h2 : w = wNumbers
  · subst h2; exact .inr (.inr (.inl ⟨.inr (.inr (.inl rfl)), tl_ne (a := wNumbers) (b := wCurve) (by decide), tl_ne (a := wNumbers) (b := wLink) (by decide), tl_eq wNumbers⟩))
  by_cases h3 : w = wPacket
  · subst h3; exact .inr (.inr (.inr (.inl ⟨.inr (.inr (.inr (.inl rfl))), tl_ne (a := wPacket) (b := wCurve) (by decide), tl_ne (a := wPacket) (b := wLink) (by decide), tl_ne (a := wPacket) (b := wNumbers) (by decide), tl_eq wPacket⟩)))
  by_cases h4 : w = wAt
  · subst h4; exact .inr (.inr (.inr (.inr (.inl ⟨.inr (.inr (.inr (.inr (.inl rfl)))), tl_ne (a := wAt) (b := wCurve) (by decide), tl_ne (a := wAt) (b := wLink) (by decide), tl_ne (a := wAt) (b := wNumbers) (by decide), tl_ne (a := wAt) (b := wPacket) (by decide), tl_eq wAt⟩))))
  by_cases h5 : w = wClear
  · subst h5; exact .inr (.inr (.inr (.inr (.inr (.inl ⟨.inr (.inr (.inr (.inr (.inr (.inl rfl))))), tl_ne (a := wClear) (b := wCurve) (by decide), tl_ne (a := wClear) (b := wLink) (by decide), tl_ne (a := wClear) (b := wNumbers) (by decide), tl_ne (a := wClear) (b := wPacket) (by decide), tl_ne (a := wClear) (b := wAt) (by decide), tl_eq wClear⟩)))))
  by_cases h6 : w = wRun
  · subst h6; exact .inr (.inr (.inr (.inr (.inr (.inr (.inl ⟨.inr (.inr (.inr (.inr (.inr (.inr (.inl rfl)))))), tl_ne (a := wRun) (b := wCurve) (by decide), tl_ne (a := wRun) (b := wLink) (by decide), tl_ne (a := wRun) (b := wNumbers) (by decide), tl_ne (a := wRun) (b := wPacket) (by decide), tl_ne (a := wRun) (b := wAt) (by decide), tl_ne (a := wRun) (b := wClear) (by decide), tl_eq wRun⟩))))))
  by_cases h7 : w = wWorst
  · subst h7; exact .inr (.inr (.inr (.inr (.inr (.inr (.inr (.inl ⟨.inr (.inr (.inr (.inr (.inr (.inr (.inr (.inl rfl))))))), tl_ne (a := wWorst) (b := wCurve) (by decide), tl_ne (a := wWorst) (b := wLink) (by decide), tl_ne (a := wWorst) (b := wNumbers) (by decide), tl_ne (a := wWorst) (b := wPacket) (by decide), tl_ne (a := wWorst) (b := wAt) (by decide), tl_ne (a := wWorst) (b := wClear) (by decide), tl_ne (a := wWorst) (b := wRun) (by decide), tl_eq wWorst⟩)))))))
  by_cases h8 : w = wBound
  · subst h8; exact .inr (.inr (.inr (.inr (.inr (.inr (.inr (.inr (.inl ⟨.inr (.inr (.inr (.inr (.inr (.inr (.inr (.inr (rfl)))))))), tl_ne (a := wBound) (b := wCurve) (by decide), tl_ne (a := wBound) (b := wLink) (by decide), tl_ne (a := wBound) (b := wNumbers) (by decide), tl_ne (a := wBound) (b := wPacket) (by decide), tl_ne (a := wBound) (b := wAt) (by decide), tl_ne (a := wBound) (b := wClear) (by decide), tl_ne (a := wBound) (b := wRun) (by decide), tl_ne (a := wBound) (b := wWorst) (by decide), tl_eq wBound⟩))))))))
  exact .inr (.inr (.inr (.inr (.inr (.inr (.inr (.inr (.inr (⟨fun h => by rcases h with h | h | h | h | h | h | h | h | h <;> contradiction, tl_ne (b := wCurve) h0, tl_ne (b := wLink) h1, tl_ne (b := wNumbers) h2, tl_ne (b := wPacket) h3, tl_ne (b := wAt) h4, tl_ne (b := wClear) h5, tl_ne (b := wRun) h6, tl_ne (b := wWorst) h7, tl_ne (b := wBound) h8⟩)))))))))
/-- The first j bytes. -/
def preB (t : ByteArray) (j : Nat) : ByteArray := ⟨(t.data.toList.take j).toArray⟩
theorem preB_step {t : ByteArray} {j : Nat} (h : j < t.size) : preB t j ++ t.extract j (j + 1) = preB t (j + 1) := by
  apply toList_inj
  have hj : j < t.data.toList.length := by simpa using h
  unfold preB
  rw [List.take_succ_eq_append_getElem hj]
  rw [ByteArray.data_append, Array.toList_append, ByteArray.data_extract, Array.toList_extract]
  congr 1
  rw [List.extract_eq_take_drop]
  rw [show j + 1 - j = 1 by omega]
  rw [List.drop_eq_getElem_cons hj]
  rfl
theorem preB_get {t : ByteArray} {j : Nat} (h : j < t.size) : t.data.toList[j]'(by simpa using h) = t[j] := by
  simp [ByteArray.getElem_eq_getElem_data]
theorem take_none {l : List UInt8} {j : Nat} (h : (32 : UInt8) ∉ l.take j) (hj : j = l.length ∨ l[j]? = some 32) : l.take j = l.takeWhile (fun c => decide (c ≠ 32)) := by
  induction l generalizing j with
  | nil => simp
  | cons c r ih =>
    cases j with
    | zero =>
      rcases hj with h1 | h1
      · simp at h1
      · simp only [List.getElem?_cons_zero, Option.some.injEq] at h1
        rw [h1, List.takeWhile_cons_of_neg (by decide)]
        rfl
    | succ j =>
      rw [List.take_succ_cons] at h ⊢
      have hc : c ≠ 32 := fun e => h (by rw [e]; exact List.mem_cons_self)
      rw [List.takeWhile_cons_of_pos (by simpa using hc), ih (fun e => h (List.mem_cons_of_mem _ e)) (by
        rcases hj with h1 | h1
        · left; simpa using h1
        · right; simpa using h1)]
theorem goS_get {ls : List ByteArray} {i : Nat} (h : i < ls.length) : (goS newS ls)[i]'(by rw [goS_len]; exact h) = outT (lineS (endS newS (ls.take i)) ls[i]).1 := by
  have key : ∀ (s : Sc) (l : List ByteArray) (i : Nat) (h : i < l.length), (goS s l)[i]'(by rw [goS_len]; exact h) = outT (lineS (endS s (l.take i)) l[i]).1 := by
    intro s l
    induction l generalizing s with
    | nil => intro i h; simp at h
    | cons t r ih =>
      intro i h
      cases i with
      | zero => rfl
      | succ i => exact ih _ i (by simpa using h)
  exact key newS ls i h
theorem goS_ne {ls : List ByteArray} {i : Nat} (h : i < ls.length) : ((goS newS ls)[i]'(by rw [goS_len]; exact h)).data.toList ≠ [] := by
  rw [goS_get h]
  exact line_out_ne _ _
section
variable (A : Option Addr) (c : Nat) (ls : List ByteArray) (S : Nat → Addr) (w : World) (h : RdB w w.heap.size A ls) (hS : SX w w.heap.size S) (h9 : All9 w w.heap.size S)
include h hS h9
set_option maxHeartbeats 16000000 in
theorem reads_any (hl : ls.length ≤ 9223372036854775807) : Calls Tryz.prog 4 #[.slice A ls.length c] w fun e w' => e = .returned (.bool true) ∧ Below w.heap.size w w' := by
  obtain ⟨L, hL⟩ : ∃ L, L = ls.length := ⟨_, rfl⟩
  rw [← hL]
  have HL := Lib.hid hL
  have HR := Lib.hid h
  have HS := Lib.hid hS
  have H9 := Lib.hid h9
  have HHE := Lib.hid (hello_any S w w.heap.size (Nat.le_refl _) hS)
  by_cases hbig : 110 < L
  · have hb1 : (110 : Int) < (L : Int) := by omega
    clear hL h hS h9 hl
    go_enter Tryz.func4, Tryz.ntmps4
    go_wp2_with fail
    refine HHE.out.mono ?_
    rintro e w1 ⟨rfl, k1⟩
    go_wp2_with fail
    go_ret
    exact ⟨rfl, k1⟩
  · have hb1 : ¬ (110 : Int) < (L : Int) := by omega
    have hL110 : L ≤ 110 := by omega
    obtain ⟨i1, hi1, hy0, hy1, hy2⟩ := info_parts infoStr
    clear hL h hS h9 hl hbig
    go_enter Tryz.func4, Tryz.ntmps4
    go_wp2_with fail
    refine HHE.out.mono ?_
    rintro e w1 ⟨rfl, k1⟩
    have K1 := Lib.hid k1
    have z1 := k1.size
    clear k1 HHE
    go_wp2_with fail
    go_loopw [4, 5] (fun ov iv wr => ∃ (k : Nat) (A1 : Option Addr) (c1 : Nat), k ≤ L ∧ ov = .slice A1 (ls.take k).length c1 ∧ iv = .int .i64 k ∧ wr.ownsRow w1.heap.size 9 1 (.slice A1 (ls.take k).length c1) (ls.take k).length ((ls.take k).flatMap bCs) ∧ Below w1.heap.size w1 wr ∧ ∀ x ∈ ls.take k, x.size ≤ 100) (fun _ iv _ => L - (intOf iv).toNat)
    case atStart => exact ⟨0, none, 0, Nat.zero_le _, rfl, rfl, ⟨by simp, .inl ⟨rfl, rfl⟩⟩, Below.refl _ _, by simp⟩
    case round =>
      obtain ⟨k, A1, c1, hk, rfl, rfl, row, kw, hsz⟩ := hrel
      have ROW := Lib.hid row
      have KW := Lib.hid kw
      have HSZ := Lib.hid hsz
      have zw := kw.size
      have kw1 := K1.out.trans (kw.mono z1)
      clear row kw hsz
      by_cases hlt0 : k < L
      · have hlt : k < ls.length := by have := HL.out; omega
        obtain ⟨b, o, rfl, hb, d0⟩ := RdB.get HR.out hlt
        obtain ⟨t, ht⟩ : ∃ t, t = ls[k] := ⟨_, rfl⟩
        rw [← ht] at d0
        have d1 : wr.cell? ⟨b, o + k, none⟩ = some (.string t) := (kw1.cell (p := ⟨b, o + k, none⟩) hb).trans d0
        have HT := Lib.hid ht
        have q1 : (k : Int) < (L : Int) := by omega
        have q2 : (0 : Int) ≤ (k : Int) := by omega
        have KW1 := Lib.hid kw1
        clear d0 ht kw1
        by_cases htz : 100 < t.size
        · have htz1 : (100 : Int) < (t.size : Int) := by omega
          go_wp2_with fail
          go_ret
          exact ⟨rfl, KW1.out⟩
        · have htz1 : ¬ (100 : Int) < (t.size : Int) := by omega
          obtain ⟨r, hr⟩ : ∃ r, r = ls.take k := ⟨_, rfl⟩
          rw [← hr] at ROW HSZ ⊢
          have HRR := Lib.hid hr
          have hm1 : r.length ≤ 110 := by rw [hr, List.length_take]; omega
          have M1 := Lib.hid (show r.length + 1 ≤ maxLen by simp only [maxLen]; omega)
          have M2 := Lib.hid (show (r.length + 1) * 16 ≤ 140737488355328 by omega)
          have HTZ := Lib.hid htz
          have HNW := Lib.hid (show Rd (wr.alloc (.cells #[.string t] 9)) (wr.heap.size + 1) 1 bCs (some ⟨wr.heap.size, 0, none⟩) [t] from Rd.new_ rfl (by omega) bCs_len)
          clear hr hm1 htz
          go_wp2_with (at_builtin; refine wpList_append_rd _ bCs rfl (.tmp 33) (.tmp 38) 24 rfl w1.heap.size 9 i1 (.string ⟨#[]⟩) 1 16 Tryz.underlying24 hi1 hy0 hy1 hy2 rfl (by omega) bCs_len bCs_one (.slice A1 r.length c1) r.length (r.flatMap bCs) rfl (ROW.out.alloc _) (wr.heap.size + 1) (some ⟨wr.heap.size, 0, none⟩) 1 [t] rfl HNW.out M1.out M2.out (le_alloc zw _) ?_; intro v4 w4 row4 g4 at4; obtain ⟨A6, c6, hv6, row5⟩ := own_app row4 (by omega); subst hv6; have ROW4 := Lib.hid row5; have K4 := Lib.hid (below_app (KW.out.alloc zw _) (ROW.out.alloc _) g4 (Nat.le_refl _) (le_alloc zw _)); clear row4 row5 at4 g4)
          have hq : r ++ [t] = ls.take (k + 1) := by rw [HRR.out, HT.out, List.take_succ_eq_append_getElem hlt]
          have hlen : r.length + 1 = (ls.take (k + 1)).length := by rw [← hq]; simp
          have HLN := Lib.hid hlen
          have hrow := ROW4.out
          have hall : ∀ x ∈ ls.take (k + 1), x.size ≤ 100 := fun x hx => by
            rw [← hq] at hx
            rcases List.mem_append.1 hx with hx | hx
            · exact HSZ.out x hx
            · rw [List.mem_singleton.1 hx]; have := HTZ.out; omega
          rw [hq] at hrow
          try rw [hq]
          have HRW := Lib.hid hrow
          have HALL := Lib.hid hall
          clear hlen hq hrow hall d1
          go_wp2_with fail
          go_roundw
          case rel => exact ⟨k + 1, A6, c6, by omega, by first | rfl | rw [← HLN.out], by go_num, HRW.out, K4.out, HALL.out⟩
          case measure => simp [intOf]; omega
      · obtain rfl : k = L := by omega
        have e1 : ls.take k = ls := List.take_of_length_le (by have := HL.out; omega)
        rw [e1] at ROW HSZ ⊢
        rw [← HL.out]
        rw [← HL.out] at ROW
        have KW1 := Lib.hid kw1
        clear e1 kw1
        by_cases h100 : 100 < k
        · have hb2 : (100 : Int) < (k : Int) := by omega
          have HRN := sLong_any A1 c1 ls S wr w.heap.size KW1.out.size (HS.out.below KW1.out) (by have := HL.out; omega) (by have := HL.out; omega)
          rw [← HL.out] at HRN
          have HRN2 := Lib.hid HRN
          clear HRN h100
          go_wp2_with fail
          refine HRN2.out.mono ?_
          rintro e w3 ⟨v, rfl, hv, k3⟩
          have K3 := Lib.hid (KW1.out.trans (k3.mono KW1.out.size))
          have HCD := Lib.hid (coded2_any v 2 (-1) S w3 w3.heap.size (Nat.le_refl _) ((H9.out.below K3.out).more K3.out.size) hv rfl)
          clear k3 hv HRN2
          go_wp2_with fail
          refine HCD.out.mono ?_
          rintro e w4 ⟨rfl, k4⟩
          go_wp2_with fail
          go_ret
          exact ⟨rfl, K3.out.trans (k4.mono K3.out.size)⟩
        · have hb2 : ¬ (100 : Int) < (k : Int) := by omega
          have HRN := srun_any A1 c1 ls S wr w.heap.size KW1.out.size (HS.out.below KW1.out) (by rw [HL.out] at ROW; exact own_rdB ROW.out) (by have := HL.out; omega) (fun x hx => Nat.le_trans (HSZ.out x hx) (by omega))
          rw [← HL.out] at HRN
          have HRN2 := Lib.hid HRN
          clear HRN h100
          go_wp2_with fail
          refine HRN2.out.mono ?_
          rintro e w3 ⟨A3, c3, rfl, o3, k3⟩
          have K3 := Lib.hid (KW1.out.trans (k3.mono KW1.out.size))
          have R3 := Lib.hid (show RdB w3 w3.heap.size A3 (goS newS ls) from own_rdB o3)
          rw [show (goS newS ls).length = k by rw [goS_len]; exact HL.out.symm]
          clear k3 o3 HRN2
          go_wp2_with fail
          go_loopw [8] (fun iv wr => ∃ i : Nat, i ≤ k ∧ iv = .int .i64 i ∧ Below w3.heap.size w3 wr) (fun iv _ => k - (intOf iv).toNat)
          case atStart => exact ⟨0, Nat.zero_le _, rfl, Below.refl _ _⟩
          case round =>
            obtain ⟨i, hi, rfl, kw⟩ := hrel
            by_cases hik : i < k
            · have hil : i < ls.length := by have := HL.out; omega
              have hol : i < (goS newS ls).length := by rw [goS_len]; exact hil
              obtain ⟨b, o, rfl, hb, d0⟩ := RdB.get HR.out hil
              obtain ⟨b3, o3, rfl, hb3, e0⟩ := RdB.get R3.out hol
              obtain ⟨t, ht⟩ : ∃ t, t = ls[i] := ⟨_, rfl⟩
              obtain ⟨y, hy⟩ : ∃ y, y = (goS newS ls)[i] := ⟨_, rfl⟩
              rw [← ht] at d0
              rw [← hy] at e0
              have d1 : wr.cell? ⟨b, o + i, none⟩ = some (.string t) := ((K3.out.trans (kw.mono K3.out.size)).cell (p := ⟨b, o + i, none⟩) hb).trans d0
              have e1 : wr.cell? ⟨b3, o3 + i, none⟩ = some (.string y) := (kw.cell (p := ⟨b3, o3 + i, none⟩) hb3).trans e0
              have HT := Lib.hid ht
              have HY := Lib.hid hy
              have KW := Lib.hid kw
              have q1 : (i : Int) < (k : Int) := by omega
              have q2 : (0 : Int) ≤ (i : Int) := by omega
              have htz : t.size ≤ 100 := HSZ.out t (by rw [ht]; exact List.getElem_mem hil)
              clear d0 e0 ht hy kw
              go_wp2_with fail
              go_loopw [9, 10] (fun wv jv wq => ∃ j : Nat, j ≤ t.size ∧ wv = .string (preB t j) ∧ jv = .int .i64 j ∧ (32 : UInt8) ∉ t.data.toList.take j ∧ wq = wr) (fun _ jv _ => t.size - (intOf jv).toNat)
              case atStart => exact ⟨0, Nat.zero_le _, rfl, rfl, by simp, rfl⟩
              case round =>
                obtain ⟨j, hj, rfl, rfl, hno, rfl⟩ := hrel
                by_cases hgo : ∃ hjt : j < t.size, t[j] ≠ 32
                · obtain ⟨hjt, hc⟩ := hgo
                  have j1 : (j : Int) < (t.size : Int) := by omega
                  have j2 : (0 : Int) ≤ (j : Int) := by omega
                  have jc : (((t[j]'hjt).toNat : Int) != 32) = true := by
                    rw [bne_iff_ne]
                    exact fun e => hc (UInt8.toNat_inj.1 (by have h7 : (32 : UInt8).toNat = 32 := rfl; rw [h7]; omega))
                  have jp : ¬ 9223372036854775807 < (preB t j).size + (min (j + 1) t.size - j) := by
                    have : (preB t j).size ≤ t.size := by
                      show ((t.data.toList.take j).toArray).size ≤ t.size
                      rw [List.size_toArray, List.length_take]
                      have h7 : t.data.toList.length = t.size := Array.length_toList
                      omega
                    omega
                  have HST := Lib.hid (preB_step hjt)
                  have HNX := Lib.hid (show (32 : UInt8) ∉ t.data.toList.take (j + 1) by
                    have hj9 : j < t.data.toList.length := by simpa using hjt
                    rw [List.take_succ_eq_append_getElem hj9, preB_get hjt]
                    intro h8
                    rcases List.mem_append.1 h8 with h8 | h8
                    · exact hno h8
                    · exact hc (List.mem_singleton.1 h8).symm)
                  clear hc hno
                  go_wp2_with fail
                  go_roundw
                  case rel => exact ⟨j + 1, by omega, by rw [HST.out], by go_num, HNX.out, trivial⟩
                  case measure => simp [intOf]; omega
                · have hfa : (¬ (j : Int) < (t.size : Int)) ∨ ∃ hjt : j < t.size, (((t[j]'hjt).toNat : Int) != 32) = false := by
                    by_cases hjt : j < t.size
                    · right
                      refine ⟨hjt, ?_⟩
                      have hc : t[j] = 32 := Classical.byContradiction fun h8 => hgo ⟨hjt, h8⟩
                      rw [hc]
                      rfl
                    · left; omega
                  have HVT0 : (preB t j).data.toList = t.data.toList.takeWhile (fun c => decide (c ≠ 32)) := by
                    show t.data.toList.take j = _
                    refine take_none hno ?_
                    by_cases hjt : j < t.size
                    · right
                      have hj9 : j < t.data.toList.length := by simpa using hjt
                      rw [List.getElem?_eq_getElem hj9, preB_get hjt]
                      exact congrArg some (Classical.byContradiction fun h8 => hgo ⟨hjt, h8⟩)
                    · left
                      have : t.data.toList.length = t.size := by simp
                      omega
                  obtain ⟨v, hv⟩ : ∃ v, v = preB t j := ⟨_, rfl⟩
                  rw [← hv] at HVT0 ⊢
                  have HVT := Lib.hid HVT0
                  have hye0 : (y.toList == ([] : List UInt8)) = false := tl_ne (b := ⟨#[]⟩) (fun e => by
                    have h8 := goS_ne hil
                    rw [← HY.out, e] at h8
                    exact h8 rfl)
                  have j2 : (0 : Int) ≤ (j : Int) := by omega
                  clear HVT0 hv hgo hno
                  rcases hfa with j1 | ⟨hjt, jc⟩
                  · have j3 : True := trivial
                    rcases word10 v with ⟨hw, u1⟩ | ⟨hw, u1, u2⟩ | ⟨hw, u1, u2, u3⟩ | ⟨hw, u1, u2, u3, u4⟩ | ⟨hw, u1, u2, u3, u4, u5⟩ | ⟨hw, u1, u2, u3, u4, u5, u6⟩ | ⟨hw, u1, u2, u3, u4, u5, u6, u7⟩ | ⟨hw, u1, u2, u3, u4, u5, u6, u7, u8⟩ | ⟨hw, u1, u2, u3, u4, u5, u6, u7, u8, u9⟩ | ⟨hw, u1, u2, u3, u4, u5, u6, u7, u8, u9⟩
                    · clear hw
                      go_wp2_with fail
                      go_quiet (fail)
                      go_wp2_with fail
                      go_roundw
                      case rel => exact ⟨i + 1, by omega, by go_num, Below.drewN_ KW.out _⟩
                      case measure => simp [intOf]; omega
                    · clear hw
                      go_wp2_with fail
                      go_quiet (fail)
                      go_wp2_with fail
                      go_roundw
                      case rel => exact ⟨i + 1, by omega, by go_num, Below.drewN_ KW.out _⟩
                      case measure => simp [intOf]; omega
                    · clear hw
                      go_wp2_with fail
                      go_quiet (fail)
                      go_wp2_with fail
                      go_roundw
                      case rel => exact ⟨i + 1, by omega, by go_num, Below.drewN_ KW.out _⟩
                      case measure => simp [intOf]; omega
                    · clear hw
                      go_wp2_with fail
                      go_quiet (fail)
                      go_wp2_with fail
                      go_roundw
                      case rel => exact ⟨i + 1, by omega, by go_num, Below.drewN_ KW.out _⟩
                      case measure => simp [intOf]; omega
                    · clear hw
                      go_wp2_with fail
                      go_quiet (fail)
                      go_wp2_with fail
                      go_roundw
                      case rel => exact ⟨i + 1, by omega, by go_num, Below.drewN_ KW.out _⟩
                      case measure => simp [intOf]; omega
                    · clear hw
                      go_wp2_with fail
                      go_quiet (fail)
                      go_wp2_with fail
                      go_roundw
                      case rel => exact ⟨i + 1, by omega, by go_num, Below.drewN_ KW.out _⟩
                      case measure => simp [intOf]; omega
                    · clear hw
                      go_wp2_with fail
                      go_quiet (fail)
                      go_wp2_with fail
                      go_roundw
                      case rel => exact ⟨i + 1, by omega, by go_num, Below.drewN_ KW.out _⟩
                      case measure => simp [intOf]; omega
                    · clear hw
                      go_wp2_with fail
                      go_quiet (fail)
                      go_wp2_with fail
                      go_roundw
                      case rel => exact ⟨i + 1, by omega, by go_num, Below.drewN_ KW.out _⟩
                      case measure => simp [intOf]; omega
                    · clear hw
                      go_wp2_with fail
                      go_quiet (fail)
                      go_wp2_with fail
                      go_roundw
                      case rel => exact ⟨i + 1, by omega, by go_num, Below.drewN_ KW.out _⟩
                      case measure => simp [intOf]; omega
                    · have hye : y = errT 1 := by rw [HY.out, goS_get hil]; exact line_no (by rw [← HT.out]; exact HVT.out) hw
                      have HET := Lib.hid (fun W : World => errText_any 1 1 W rfl (by omega) (by omega))
                      rw [← hye] at HET
                      have HYE := Lib.hid hye
                      have HKE := Lib.hid (show ∀ W : World, Below wr.heap.size wr W → W.cell? ⟨b3, o3 + i, none⟩ = some (.string y) from fun W hW => (hW.cell (p := ⟨b3, o3 + i, none⟩) (Nat.lt_of_lt_of_le hb3 KW.out.size)).trans e1)
                      have kd : Below wr.heap.size wr wr.drew := (Below.refl _ _).drew
                      have hyy := bs_eq y
                      clear hye hw
                      go_wp2_with fail
                      go_region_held3 (fun w' => w'.cell? ⟨b3, o3 + i, none⟩ = some (.string y))
                        (first
                          | go_keep
                          | exact HKE.out _ KE)
                        (first
                         | (go_at_call 13; refine (HET.out wr.drew).mono ?_; rintro e wE ⟨rfl, kE⟩; have KE : Below wr.heap.size wr wE := kd.trans kE)
                         | fail "no arm")
                      all_goals
                        have KE2 := Lib.hid KE
                        clear KE kE
                        go_wp2_with fail
                        go_roundw
                        case rel => exact ⟨i + 1, by omega, by go_num, KW.out.trans (KE2.out.mono KW.out.size)⟩
                        case measure => simp [intOf]; omega
                  · have j1 : (j : Int) < (t.size : Int) := by omega
                    rcases word10 v with ⟨hw, u1⟩ | ⟨hw, u1, u2⟩ | ⟨hw, u1, u2, u3⟩ | ⟨hw, u1, u2, u3, u4⟩ | ⟨hw, u1, u2, u3, u4, u5⟩ | ⟨hw, u1, u2, u3, u4, u5, u6⟩ | ⟨hw, u1, u2, u3, u4, u5, u6, u7⟩ | ⟨hw, u1, u2, u3, u4, u5, u6, u7, u8⟩ | ⟨hw, u1, u2, u3, u4, u5, u6, u7, u8, u9⟩ | ⟨hw, u1, u2, u3, u4, u5, u6, u7, u8, u9⟩
                    · clear hw
                      go_wp2_with fail
                      go_quiet (fail)
                      go_wp2_with fail
                      go_roundw
                      case rel => exact ⟨i + 1, by omega, by go_num, Below.drewN_ KW.out _⟩
                      case measure => simp [intOf]; omega
                    · clear hw
                      go_wp2_with fail
                      go_quiet (fail)
                      go_wp2_with fail
                      go_roundw
                      case rel => exact ⟨i + 1, by omega, by go_num, Below.drewN_ KW.out _⟩
                      case measure => simp [intOf]; omega
                    · clear hw
                      go_wp2_with fail
                      go_quiet (fail)
                      go_wp2_with fail
                      go_roundw
                      case rel => exact ⟨i + 1, by omega, by go_num, Below.drewN_ KW.out _⟩
                      case measure => simp [intOf]; omega
                    · clear hw
                      go_wp2_with fail
                      go_quiet (fail)
                      go_wp2_with fail
                      go_roundw
                      case rel => exact ⟨i + 1, by omega, by go_num, Below.drewN_ KW.out _⟩
                      case measure => simp [intOf]; omega
                    · clear hw
                      go_wp2_with fail
                      go_quiet (fail)
                      go_wp2_with fail
                      go_roundw
                      case rel => exact ⟨i + 1, by omega, by go_num, Below.drewN_ KW.out _⟩
                      case measure => simp [intOf]; omega
                    · clear hw
                      go_wp2_with fail
                      go_quiet (fail)
                      go_wp2_with fail
                      go_roundw
                      case rel => exact ⟨i + 1, by omega, by go_num, Below.drewN_ KW.out _⟩
                      case measure => simp [intOf]; omega
                    · clear hw
                      go_wp2_with fail
                      go_quiet (fail)
                      go_wp2_with fail
                      go_roundw
                      case rel => exact ⟨i + 1, by omega, by go_num, Below.drewN_ KW.out _⟩
                      case measure => simp [intOf]; omega
                    · clear hw
                      go_wp2_with fail
                      go_quiet (fail)
                      go_wp2_with fail
                      go_roundw
                      case rel => exact ⟨i + 1, by omega, by go_num, Below.drewN_ KW.out _⟩
                      case measure => simp [intOf]; omega
                    · clear hw
                      go_wp2_with fail
                      go_quiet (fail)
                      go_wp2_with fail
                      go_roundw
                      case rel => exact ⟨i + 1, by omega, by go_num, Below.drewN_ KW.out _⟩
                      case measure => simp [intOf]; omega
                    · have hye : y = errT 1 := by rw [HY.out, goS_get hil]; exact line_no (by rw [← HT.out]; exact HVT.out) hw
                      have HET := Lib.hid (fun W : World => errText_any 1 1 W rfl (by omega) (by omega))
                      rw [← hye] at HET
                      have HYE := Lib.hid hye
                      have HKE := Lib.hid (show ∀ W : World, Below wr.heap.size wr W → W.cell? ⟨b3, o3 + i, none⟩ = some (.string y) from fun W hW => (hW.cell (p := ⟨b3, o3 + i, none⟩) (Nat.lt_of_lt_of_le hb3 KW.out.size)).trans e1)
                      have kd : Below wr.heap.size wr wr.drew := (Below.refl _ _).drew
                      have hyy := bs_eq y
                      clear hye hw
                      go_wp2_with fail
                      go_region_held3 (fun w' => w'.cell? ⟨b3, o3 + i, none⟩ = some (.string y))
                        (first
                          | go_keep
                          | exact HKE.out _ KE)
                        (first
                         | (go_at_call 13; refine (HET.out wr.drew).mono ?_; rintro e wE ⟨rfl, kE⟩; have KE : Below wr.heap.size wr wE := kd.trans kE)
                         | fail "no arm")
                      all_goals
                        have KE2 := Lib.hid KE
                        clear KE kE
                        go_wp2_with fail
                        go_roundw
                        case rel => exact ⟨i + 1, by omega, by go_num, KW.out.trans (KE2.out.mono KW.out.size)⟩
                        case measure => simp [intOf]; omega
            · obtain rfl : i = k := by omega
              have KWW := Lib.hid (K3.out.trans (kw.mono K3.out.size))
              go_wp2_with fail
              go_ret
              exact ⟨rfl, KWW.out⟩
end
end Go.Proofs.YtoomffajodheaaaGreatDoor
