/- lineOf: a command's line. Conditions: the command lies; its texts and numbers are few. lineOf walked. Conditions: the command's numbers lie; its texts and numbers are few. -/
import Derived.Test.YtoomffajodheaaaGreatDoorQScMd
import Derived.Deep.CutRange
import Derived.Deep.CutBlock
set_option linter.all false
namespace Go.Proofs.YtoomffajodheaaaGreatDoor
open Go.RowKit
set_option maxRecDepth 100000
theorem wordE (w : ByteArray) : (w = wCurve ∧ (w.toList == ([99, 117, 114, 118, 101] : List UInt8)) = true) ∨ (w = wLink ∧ (w.toList == ([99, 117, 114, 118, 101] : List UInt8)) = false ∧ (w.toList == ([108, 105, 110, 107] : List UInt8)) = true) ∨ (w = wNumbers ∧ (w.toList == ([99, 117, 114, 118, 101] : List UInt8)) = false ∧ (w.toList == ([108, 105, 110, 107] : List UInt8)) = false ∧ (w.toList == ([110, 117, 109, 98, 101, 114, 115] : List UInt8)) = true) ∨ (w = wPacket ∧ (w.toList == ([99, 117, 114, 118, 101] : List UInt8)) = false ∧ (w.toList == ([108, 105, 110, 107] : List UInt8)) = false ∧ (w.toList == ([110, 117, 109, 98, 101, 114, 115] : List UInt8)) = false ∧ (w.toList == ([112, 97, 99, 107, 101, 116] : List UInt8)) = true) ∨ (w = wAt ∧ (w.toList == ([99, 117, 114, 118, 101] : List UInt8)) = false ∧ (w.toList == ([108, 105, 110, 107] : List UInt8)) = false ∧ (w.toList == ([110, 117, 109, 98, 101, 114, 115] : List UInt8)) = false ∧ (w.toList == ([112, 97, 99, 107, 101, 116] : List UInt8)) = false ∧ (w.toList == ([97, 116] : List UInt8)) = true) ∨ (w = wClear ∧ (w.toList == ([99, 117, 114, 118, 101] : List UInt8)) = false ∧ (w.toList == ([108, 105, 110, 107] : List UInt8)) = false ∧ (w.toList == ([110, 117, 109, 98, 101, 114, 115] : List UInt8)) = false ∧ (w.toList == ([112, 97, 99, 107, 101, 116] : List UInt8)) = false ∧ (w.toList == ([97, 116] : List UInt8)) = false ∧ (w.toList == ([99, 108, 101, 97, 114] : List UInt8)) = true) ∨ (w = wRun ∧ (w.toList == ([99, 117, 114, 118, 101] : List UInt8)) = false ∧ (w.toList == ([108, 105, 110, 107] : List UInt8)) = false ∧ (w.toList == ([110, 117, 109, 98, 101, 114, 115] : List UInt8)) = false ∧ (w.toList == ([112, 97, 99, 107, 101, 116] : List UInt8)) = false ∧ (w.toList == ([97, 116] : List UInt8)) = false ∧ (w.toList == ([99, 108, 101, 97, 114] : List UInt8)) = false ∧ (w.toList == ([114, 117, 110] : List UInt8)) = true) ∨ (w = wWorst ∧ (w.toList == ([99, 117, 114, 118, 101] : List UInt8)) = false ∧ (w.toList == ([108, 105, 110, 107] : List UInt8)) = false ∧ (w.toList == ([110, 117, 109, 98, 101, 114, 115] : List UInt8)) = false ∧ (w.toList == ([112, 97, 99, 107, 101, 116] : List UInt8)) = false ∧ (w.toList == ([97, 116] : List UInt8)) = false ∧ (w.toList == ([99, 108, 101, 97, 114] : List UInt8)) = false ∧ (w.toList == ([114, 117, 110] : List UInt8)) = false ∧ (w.toList == ([119, 111, 114, 115, 116] : List UInt8)) = true) ∨ (w = wBound ∧ (w.toList == ([99, 117, 114, 118, 101] : List UInt8)) = false ∧ (w.toList == ([108, 105, 110, 107] : List UInt8)) = false ∧ (w.toList == ([110, 117, 109, 98, 101, 114, 115] : List UInt8)) = false ∧ (w.toList == ([112, 97, 99, 107, 101, 116] : List UInt8)) = false ∧ (w.toList == ([97, 116] : List UInt8)) = false ∧ (w.toList == ([99, 108, 101, 97, 114] : List UInt8)) = false ∧ (w.toList == ([114, 117, 110] : List UInt8)) = false ∧ (w.toList == ([119, 111, 114, 115, 116] : List UInt8)) = false ∧ (w.toList == ([98, 111, 117, 110, 100] : List UInt8)) = true) ∨ (¬ wordIs w ∧ (w.toList == ([99, 117, 114, 118, 101] : List UInt8)) = false ∧ (w.toList == ([108, 105, 110, 107] : List UInt8)) = false ∧ (w.toList == ([110, 117, 109, 98, 101, 114, 115] : List UInt8)) = false ∧ (w.toList == ([112, 97, 99, 107, 101, 116] : List UInt8)) = false ∧ (w.toList == ([97, 116] : List UInt8)) = false ∧ (w.toList == ([99, 108, 101, 97, 114] : List UInt8)) = false ∧ (w.toList == ([114, 117, 110] : List UInt8)) = false ∧ (w.toList == ([119, 111, 114, 115, 116] : List UInt8)) = false ∧ (w.toList == ([98, 111, 117, 110, 100] : List UInt8)) = false) := by
  by_cases h0 : w = wCurve
  · subst h0; exact .inl ⟨rfl, tl_eq wCurve⟩
  by_cases h1 : w = wLink
  · subst h1; exact .inr (.inl ⟨rfl, tl_ne (a := wLink) (b := wCurve) (by decide), tl_eq wLink⟩)
  by_cases h2 : w = wNumbers
  · subst h2; exact .inr (.inr (.inl ⟨rfl, tl_ne (a := wNumbers) (b := wCurve) (by decide), tl_ne (a := wNumbers) (b := wLink) (by decide), tl_eq wNumbers⟩))
  by_cases h3 : w = wPacket
  · subst h3; exact .inr (.inr (.inr (.inl ⟨rfl, tl_ne (a := wPacket) (b := wCurve) (by decide), tl_ne (a := wPacket) (b := wLink) (by decide), tl_ne (a := wPacket) (b := wNumbers) (by decide), tl_eq wPacket⟩)))
  by_cases h4 : w = wAt
  · subst h4; exact .inr (.inr (.inr (.inr (.inl ⟨rfl, tl_ne (a := wAt) (b := wCurve) (by decide), tl_ne (a := wAt) (b := wLink) (by decide), tl_ne (a := wAt) (b := wNumbers) (by decide), tl_ne (a := wAt) (b := wPacket) (by decide), tl_eq wAt⟩))))
  by_cases h5 : w = wClear
  · subst h5; exact .inr (.inr (.inr (.inr (.inr (.inl ⟨rfl, tl_ne (a := wClear) (b := wCurve) (by decide), tl_ne (a := wClear) (b := wLink) (by decide), tl_ne (a := wClear) (b := wNumbers) (by decide), tl_ne (a := wClear) (b := wPacket) (by decide), tl_ne (a := wClear) (b := wAt) (by decide), tl_eq wClear⟩)))))
  by_cases h6 : w = wRun
  · subst h6; exact .inr (.inr (.inr (.inr (.inr (.inr (.inl ⟨rfl, tl_ne (a := wRun) (b := wCurve) (by decide), tl_ne (a := wRun) (b := wLink) (by decide), tl_ne (a := wRun) (b := wNumbers) (by decide), tl_ne (a := wRun) (b := wPacket) (by decide), tl_ne (a := wRun) (b := wAt) (by decide), tl_ne (a := wRun) (b := wClear) (by decide), tl_eq wRun⟩))))))
  by_cases h7 : w = wWorst
  · subst h7; exact .inr (.inr (.inr (.inr (.inr (.inr (.inr (.inl ⟨rfl, tl_ne (a := wWorst) (b := wCurve) (by decide), tl_ne (a := wWorst) (b := wLink) (by decide), tl_ne (a := wWorst) (b := wNumbers) (by decide), tl_ne (a := wWorst) (b := wPacket) (by decide), tl_ne (a := wWorst) (b := wAt) (by decide), tl_ne (a := wWorst) (b := wClear) (by decide), tl_ne (a := wWorst) (b := wRun) (by decide), tl_eq wWorst⟩)))))))
  by_cases h8 : w = wBound
  · subst h8; exact .inr (.inr (.inr (.inr (.inr (.inr (.inr (.inr (.inl ⟨rfl, tl_ne (a := wBound) (b := wCurve) (by decide), tl_ne (a := wBound) (b := wLink) (by decide), tl_ne (a := wBound) (b := wNumbers) (by decide), tl_ne (a := wBound) (b := wPacket) (by decide), tl_ne (a := wBound) (b := wAt) (by decide), tl_ne (a := wBound) (b := wClear) (by decide), tl_ne (a := wBound) (b := wRun) (by decide), tl_ne (a := wBound) (b := wWorst) (by decide), tl_eq wBound⟩))))))))
  exact .inr (.inr (.inr (.inr (.inr (.inr (.inr (.inr (.inr (⟨fun h => by rcases h with h | h | h | h | h | h | h | h | h <;> contradiction, tl_ne (b := wCurve) h0, tl_ne (b := wLink) h1, tl_ne (b := wNumbers) h2, tl_ne (b := wPacket) h3, tl_ne (b := wAt) h4, tl_ne (b := wClear) h5, tl_ne (b := wRun) h6, tl_ne (b := wWorst) h7, tl_ne (b := wBound) h8⟩)))))))))
theorem cmIs_0 {c : Cm} (h : c.w = wCurve) : cmIs c = (c.n.length % 2 == 1) := by unfold cmIs; rw [if_pos h]
theorem cmIs_1 {c : Cm} (h : c.w = wLink) : cmIs c = (c.n.length == 1 && decide (kindN c.k < 5)) := by unfold cmIs; rw [if_neg (by rw [h]; decide), if_pos h]
theorem cmIs_2 {c : Cm} (h : c.w = wNumbers) : cmIs c = (c.n.length == 8) := by unfold cmIs; rw [if_neg (by rw [h]; decide), if_neg (by rw [h]; decide), if_pos h]
theorem cmIs_3 {c : Cm} (h : c.w = wPacket) : cmIs c = (c.n.length == 3) := by unfold cmIs; rw [if_neg (by rw [h]; decide), if_neg (by rw [h]; decide), if_neg (by rw [h]; decide), if_pos h]
theorem cmIs_4 {c : Cm} (h : c.w = wAt) : cmIs c = (c.n.length == 2) := by unfold cmIs; rw [if_neg (by rw [h]; decide), if_neg (by rw [h]; decide), if_neg (by rw [h]; decide), if_neg (by rw [h]; decide), if_pos h]
theorem cmIs_5 {c : Cm} (h : c.w = wClear ∨ c.w = wRun ∨ c.w = wWorst ∨ c.w = wBound) : cmIs c = (c.n.length == 0) := by
  have hd : ∀ x, x = wCurve ∨ x = wLink ∨ x = wNumbers ∨ x = wPacket ∨ x = wAt → ¬ c.w = x := by
    intro x hx e
    rw [e] at h
    rcases hx with rfl | rfl | rfl | rfl | rfl <;> revert h <;> decide
  unfold cmIs
  rw [if_neg (hd _ (by simp)), if_neg (hd _ (by simp)), if_neg (hd _ (by simp)), if_neg (hd _ (by simp)), if_neg (hd _ (by simp)), if_pos h]
theorem cmIs_no {c : Cm} (h : ¬ wordIs c.w) : cmIs c = false := by
  unfold wordIs at h
  simp only [not_or] at h
  obtain ⟨h1, h2, h3, h4, h5, h6, h7, h8, h9⟩ := h
  unfold cmIs
  rw [if_neg h1, if_neg h2, if_neg h3, if_neg h4, if_neg h5, if_neg (fun h => by rcases h with h | h | h | h <;> contradiction)]
/-- The text ahead of the numbers, and behind j of them. -/
def cmPre (c : Cm) (j : Nat) : ByteArray := ⟨(spJ c.w.data.toList (((if c.w = wLink then [c.k] else []) ++ (c.n.take j).map itT).map (·.data.toList))).toArray⟩
theorem cmPre_step {c : Cm} {j : Nat} (h : j < c.n.length) : cmPre c j ++ ByteArray.mk #[32] ++ itT c.n[j] = cmPre c (j + 1) := by
  apply toList_inj
  unfold cmPre
  rw [List.take_succ_eq_append_getElem h]
  simp only [List.map_append, List.map_cons, List.map_nil]
  rw [← List.append_assoc, spJ_snoc]
  simp
theorem cmPre_0 {c : Cm} (h : c.w ≠ wLink) : cmPre c 0 = c.w := by
  apply toList_inj
  unfold cmPre spJ
  rw [if_neg h]
  simp
theorem cmPre_l {c : Cm} (h : c.w = wLink) : cmPre c 0 = c.w ++ ByteArray.mk #[32] ++ c.k := by
  apply toList_inj
  unfold cmPre spJ
  rw [if_pos h]
  simp
theorem cmPre_all (c : Cm) : cmPre c c.n.length = cmB c := by
  unfold cmPre cmB cmT cmWs
  rw [List.take_length]
def inK (m : Int) (n : List Int) (j : Nat) : Prop := ∀ i (h : i < n.length), i < j → 0 ≤ n[i] ∧ n[i] ≤ (if i = 0 then m else 9999999)
theorem inK_all {m : Int} {n : List Int} : inK m n n.length ↔ inB m n := by
  constructor
  · intro h
    cases n with
    | nil => trivial
    | cons x r =>
      refine ⟨by have h7 := h 0 (by simp) (by simp); rw [if_pos rfl] at h7; exact h7, fun y hy => ?_⟩
      obtain ⟨i, hi, rfl⟩ := List.mem_iff_getElem.1 hy
      have h7 := h (i + 1) (Nat.succ_lt_succ hi) (Nat.succ_lt_succ hi)
      rw [if_neg (Nat.succ_ne_zero i)] at h7
      exact h7
  · intro h i hi hij
    cases n with
    | nil => simp at hi
    | cons x r =>
      cases i with
      | zero => rw [if_pos rfl]; exact h.1
      | succ i => rw [if_neg (Nat.succ_ne_zero i)]; exact h.2 _ (List.getElem_mem (Nat.lt_of_succ_lt_succ hi))
open Classical in
noncomputable def lineV (c : Cm) : ByteArray × Bool := if cmOk c then (cmB c, true) else (⟨#[]⟩, false)
end Go.Proofs.YtoomffajodheaaaGreatDoor
namespace Go.Proofs.YtoomffajodheaaaGreatDoor
open Go.RowKit
set_option maxRecDepth 100000
theorem lineV_yes {c : Cm} (h : cmOk c) : lineV c = (cmB c, true) := if_pos h
theorem lineV_no {c : Cm} (h : ¬ cmOk c) : lineV c = (⟨#[]⟩, false) := if_neg h
theorem cmPre_size {c : Cm} {j : Nat} (h : ∀ x ∈ c.n, i64 x) (hw : c.w.size ≤ 60) (hk : c.k.size ≤ 60) : j ≤ c.n.length → (cmPre c j).size ≤ 121 + 22 * j := by
  induction j with
  | zero =>
    intro _
    by_cases hl : c.w = wLink
    · rw [cmPre_l hl, ByteArray.size_append, ByteArray.size_append]
      have : (ByteArray.mk #[32]).size = 1 := rfl
      omega
    · rw [cmPre_0 hl]; omega
  | succ j ih =>
    intro hj
    have := ih (by omega)
    have hz := h c.n[j] (List.getElem_mem (by omega))
    rw [← cmPre_step (by omega), ByteArray.size_append, ByteArray.size_append]
    have h1 : (ByteArray.mk #[32]).size = 1 := rfl
    have h2 : (itT c.n[j]).size ≤ 21 := Lib.itoa_length_le _ hz.1 hz.2
    omega
theorem nb_eq (a b : Nat) : ((a : Int) == (b : Int)) = (a == b) := by
  by_cases h : a = b
  · rw [h, beq_self_eq_true, beq_self_eq_true]
  · rw [beq_eq_false_iff_ne.2 h, beq_eq_false_iff_ne.2 (fun e => h (by omega))]
theorem nb_mod (a : Nat) : ((a : Int) % 2 == 1) = (a % 2 == 1) := nb_eq (a % 2) 1
section
variable (c : Cm) (A : Option Addr) (cap : Nat) (w : World) (h : RdI w w.heap.size A c.n) (hn : c.n.length ≤ 20) (hw : c.w.size ≤ 60) (hk : c.k.size ≤ 60) (h64 : ∀ x ∈ c.n, i64 x)
include h hn hw hk h64
set_option maxHeartbeats 8000000 in
theorem lineOf_any : Calls Tryz.prog 8 #[.agg #[.string c.w, .string c.k, .slice A c.n.length cap]] w fun e w' => e = .returned (.tuple #[.string (lineV c).1, .bool (lineV c).2]) ∧ Below w.heap.size w w' := by
  obtain ⟨L, hL⟩ : ∃ L, L = c.n.length := ⟨_, rfl⟩
  rw [← hL]
  obtain ⟨X, hX⟩ : ∃ X, X = w.alloc (.cells #[.string c.w, .string c.k, .slice A L cap] 29) := ⟨_, rfl⟩
  obtain ⟨lb, hlb⟩ : ∃ lb, lb = w.heap.size := ⟨_, rfl⟩
  have xX : Blk X lb 29 #[.string c.w, .string c.k, .slice A L cap] := by rw [hX, hlb]; exact Blk.new _ _ _
  have bX : Below w.heap.size w X := by rw [hX]; exact (Below.refl _ _).alloc (Nat.le_refl _) _
  have d0 := xX.cell 0
  have d1 := xX.cell 1
  have d2 := xX.cell 2
  simp only [List.getElem?_toArray, List.getElem?_cons_zero, List.getElem?_cons_succ] at d0 d1 d2
  have HL := Lib.hid hL
  have HX := Lib.hid hX
  have HLB := Lib.hid hlb
  have BX := Lib.hid bX
  have HPS := Lib.hid (fun (j : Nat) (hj : j ≤ c.n.length) => cmPre_size h64 hw hk hj)
  have HRD := Lib.hid (Rd.below h bX)
  have H64 := Lib.hid h64
  have hL20 : L ≤ 20 := by omega
  obtain ⟨cw, hcw⟩ : ∃ cw, cw = c.w := ⟨_, rfl⟩
  obtain ⟨ck, hck⟩ : ∃ ck, ck = c.k := ⟨_, rfl⟩
  rw [← hcw] at d0 hw
  rw [← hck] at d1 hk
  rw [← hcw, ← hck] at HX
  have HCW := Lib.hid hcw
  have HCK := Lib.hid hck
  rw [← hcw, ← hck]
  clear hL hX hlb xX bX h hn h64 hcw hck
  go_enter Tryz.func8, Tryz.ntmps8
  go_upto_region 1 with fail
  rw [← HLB.out]
  rw [HLB.out, ← HX.out, ← HLB.out]
  go_upto_block 0 with fail
  go_cut [5, 6] from 16 to 55 (fun s5 s6 wx => s5 = .string (if cw = wLink then cw ++ ByteArray.mk #[32] ++ ck else cw) ∧ s6 = .bool (cmIs c) ∧ wx = X)
  case first =>
    rcases wordE cw with ⟨hh, u1⟩ | ⟨hh, u1, u2⟩ | ⟨hh, u1, u2, u3⟩ | ⟨hh, u1, u2, u3, u4⟩ | ⟨hh, u1, u2, u3, u4, u5⟩ | ⟨hh, u1, u2, u3, u4, u5, u6⟩ | ⟨hh, u1, u2, u3, u4, u5, u6, u7⟩ | ⟨hh, u1, u2, u3, u4, u5, u6, u7, u8⟩ | ⟨hh, u1, u2, u3, u4, u5, u6, u7, u8, u9⟩ | ⟨hh, u1, u2, u3, u4, u5, u6, u7, u8, u9⟩
    · have HI := Lib.hid (cmIs_0 (c := c) (by rw [← HCW.out]; exact hh))
      have HNL := Lib.hid (show cw ≠ wLink by rw [hh]; decide)
      clear hh
      go_wp2_with fail
      go_meet
      exact ⟨by rw [if_neg HNL.out], by rw [HI.out, ← HL.out, ← nb_mod L]; (try rfl), rfl⟩
    · have HI := Lib.hid (cmIs_1 (c := c) (by rw [← HCW.out]; exact hh))
      have HNL := Lib.hid hh
      have hz : (ByteArray.mk #[32]).size = 1 := rfl
      have t1 : ¬ 9223372036854775807 < cw.size + 1 := by omega
      have t2 : ¬ 9223372036854775807 < cw.size + 1 + ck.size := by omega
      have HKK := Lib.hid (isKind_any ck X)
      clear hh hz
      by_cases hl1 : L = 1
      · subst hl1
        go_wp2_with fail
        refine HKK.out.mono ?_
        rintro e w1 ⟨rfl, rfl⟩
        go_wp2_with fail
        go_meet
        exact ⟨by rw [if_pos HNL.out], by rw [HI.out, ← HL.out, ← HCK.out]; (try rfl), rfl⟩
      · have l1 : ¬ (L : Int) = 1 := by omega
        have HN1 := Lib.hid hl1
        clear hl1
        go_wp2_with fail
        go_meet
        exact ⟨by rw [if_pos HNL.out], by rw [HI.out, ← HL.out, show (L == 1) = false from beq_eq_false_iff_ne.2 HN1.out]; rfl, rfl⟩
    · have HI := Lib.hid (cmIs_2 (c := c) (by rw [← HCW.out]; exact hh))
      have HNL := Lib.hid (show cw ≠ wLink by rw [hh]; decide)
      clear hh
      go_wp2_with fail
      go_meet
      exact ⟨by rw [if_neg HNL.out], by rw [HI.out, ← HL.out, ← nb_eq L 8]; rfl, rfl⟩
    · have HI := Lib.hid (cmIs_3 (c := c) (by rw [← HCW.out]; exact hh))
      have HNL := Lib.hid (show cw ≠ wLink by rw [hh]; decide)
      clear hh
      go_wp2_with fail
      go_meet
      exact ⟨by rw [if_neg HNL.out], by rw [HI.out, ← HL.out, ← nb_eq L 3]; rfl, rfl⟩
    · have HI := Lib.hid (cmIs_4 (c := c) (by rw [← HCW.out]; exact hh))
      have HNL := Lib.hid (show cw ≠ wLink by rw [hh]; decide)
      clear hh
      go_wp2_with fail
      go_meet
      exact ⟨by rw [if_neg HNL.out], by rw [HI.out, ← HL.out, ← nb_eq L 2]; rfl, rfl⟩
    · have HI := Lib.hid (cmIs_5 (c := c) (by rw [← HCW.out]; exact .inl hh))
      have HNL := Lib.hid (show cw ≠ wLink by rw [hh]; decide)
      clear hh
      go_wp2_with fail
      go_meet
      exact ⟨by rw [if_neg HNL.out], by rw [HI.out, ← HL.out, ← nb_eq L 0]; rfl, rfl⟩
    · have HI := Lib.hid (cmIs_5 (c := c) (by rw [← HCW.out]; exact .inr (.inl hh)))
      have HNL := Lib.hid (show cw ≠ wLink by rw [hh]; decide)
      clear hh
      go_wp2_with fail
      go_meet
      exact ⟨by rw [if_neg HNL.out], by rw [HI.out, ← HL.out, ← nb_eq L 0]; rfl, rfl⟩
    · have HI := Lib.hid (cmIs_5 (c := c) (by rw [← HCW.out]; exact .inr (.inr (.inl hh))))
      have HNL := Lib.hid (show cw ≠ wLink by rw [hh]; decide)
      clear hh
      go_wp2_with fail
      go_meet
      exact ⟨by rw [if_neg HNL.out], by rw [HI.out, ← HL.out, ← nb_eq L 0]; rfl, rfl⟩
    · have HI := Lib.hid (cmIs_5 (c := c) (by rw [← HCW.out]; exact .inr (.inr (.inr (hh)))))
      have HNL := Lib.hid (show cw ≠ wLink by rw [hh]; decide)
      clear hh
      go_wp2_with fail
      go_meet
      exact ⟨by rw [if_neg HNL.out], by rw [HI.out, ← HL.out, ← nb_eq L 0]; rfl, rfl⟩
    · have HI := Lib.hid (cmIs_no (c := c) (by rw [← HCW.out]; exact hh))
      have HNL := Lib.hid (show cw ≠ wLink from fun e => hh (.inr (.inl e)))
      clear hh
      go_wp2_with fail
      go_meet
      exact ⟨by rw [if_neg HNL.out], by rw [HI.out], rfl⟩
  case rest =>
    obtain ⟨rfl, rfl, rfl⟩ := hcut
    have ho : (if cw = wLink then cw ++ ByteArray.mk #[32] ++ ck else cw) = cmPre c 0 := by
      by_cases hl : cw = wLink
      · rw [if_pos hl, cmPre_l (by rw [← HCW.out]; exact hl), ← HCW.out, ← HCK.out]
      · rw [if_neg hl, cmPre_0 (by rw [← HCW.out]; exact hl), ← HCW.out]
    rw [ho]
    clear ho
    have z0 := BX.out.size
    cases hb : cmIs c with
    | false =>
      have HNO := Lib.hid (lineV_no (c := c) (fun hc => by have := hc.1; rw [hb] at this; cases this))
      clear hb
      go_wp2_with fail
      go_ret2
      rw [HNO.out]
      exact ⟨rfl, BX.out⟩
    | true =>
      have HB := Lib.hid hb
      clear hb
      go_wp2_with fail
      go_loopw [5, 7] (fun ov jv wr => ∃ j : Nat, j ≤ L ∧ ov = .string (cmPre c j) ∧ jv = .int .i64 j ∧ inK (mostOf c.w) c.n j ∧ Below wc.heap.size wc wr) (fun _ jv _ => L - (intOf jv).toNat)
      case atStart => exact ⟨0, Nat.zero_le _, rfl, rfl, fun i _ h0 => absurd h0 (Nat.not_lt_zero _), Below.refl _ _⟩
      case round =>
        obtain ⟨j, hj, rfl, rfl, hin, kw⟩ := hrel
        have HIN := Lib.hid hin
        have KW := Lib.hid kw
        by_cases hjl : j < L
        · have hjn : j < c.n.length := by have := HL.out; omega
          obtain ⟨b, o, rfl, hbl, e0⟩ := RdI.get HRD.out hjn
          obtain ⟨y, hy⟩ : ∃ y, y = c.n[j] := ⟨_, rfl⟩
          rw [← hy] at e0
          have hy64 : i64 y := H64.out y (by rw [hy]; exact List.getElem_mem hjn)
          have e1 : wr.cell? ⟨b, o + j, none⟩ = some (.int .i64 y) := (kw.cell (p := ⟨b, o + j, none⟩) (Nat.lt_of_lt_of_le hbl z0)).trans e0
          have lbl : lb < wc.heap.size := by
            have h8 := HX.out
            rw [h8, HLB.out]
            simp
          have f0 : wr.cell? ⟨lb, 0, none⟩ = some (.string cw) := (kw.cell (p := ⟨lb, 0, none⟩) lbl).trans d0
          have f2 : wr.cell? ⟨lb, 2, none⟩ = some (.slice (some ⟨b, o, none⟩) L cap) := (kw.cell (p := ⟨lb, 2, none⟩) lbl).trans d2
          have HY := Lib.hid hy
          obtain ⟨P, hP⟩ : ∃ P, P = cmPre c j := ⟨_, rfl⟩
          have HP := Lib.hid hP
          have hps : P.size ≤ 561 := by rw [hP]; have := HPS.out j (by omega); omega
          rw [← hP]
          have q1 : (j : Int) < (L : Int) := by omega
          have q2 : (0 : Int) ≤ (j : Int) := by omega
          obtain ⟨y0, y1⟩ := hy64
          clear e0 hy hP kw hin
          go_upto_region 27 with fail
          go_cut [77] from 56 to 101 (fun s77 wx => s77 = .bool (decide (j = 0 ∧ (cw = wPacket ∨ cw = wAt ∨ cw = wCurve))) ∧ wx = wr)
          case first =>
            by_cases hj0 : j = 0
            · subst hj0
              rcases wordE cw with ⟨hh, u1⟩ | ⟨hh, u1, u2⟩ | ⟨hh, u1, u2, u3⟩ | ⟨hh, u1, u2, u3, u4⟩ | ⟨hh, u1, u2, u3, u4, u5⟩ | ⟨hh, u1, u2, u3, u4, u5, u6⟩ | ⟨hh, u1, u2, u3, u4, u5, u6, u7⟩ | ⟨hh, u1, u2, u3, u4, u5, u6, u7, u8⟩ | ⟨hh, u1, u2, u3, u4, u5, u6, u7, u8, u9⟩ | ⟨hh, u1, u2, u3, u4, u5, u6, u7, u8, u9⟩
              · have E1 : (cw.toList == ([112, 97, 99, 107, 101, 116] : List UInt8)) = false := by rw [hh]; exact tl_ne (b := wPacket) (by decide)
                have E2 : (cw.toList == ([97, 116] : List UInt8)) = false := by rw [hh]; exact tl_ne (b := wAt) (by decide)
                have E3 : (cw.toList == ([99, 117, 114, 118, 101] : List UInt8)) = true := by rw [hh]; exact tl_eq wCurve
                have HE := Lib.hid (show decide ((0 : Nat) = 0 ∧ (cw = wPacket ∨ cw = wAt ∨ cw = wCurve)) = true from by rw [hh]; decide)
                clear hh
                go_wp2_with fail
                go_meet
                exact ⟨by rw [HE.out], rfl⟩
              · have E1 : (cw.toList == ([112, 97, 99, 107, 101, 116] : List UInt8)) = false := by rw [hh]; exact tl_ne (b := wPacket) (by decide)
                have E2 : (cw.toList == ([97, 116] : List UInt8)) = false := by rw [hh]; exact tl_ne (b := wAt) (by decide)
                have E3 : (cw.toList == ([99, 117, 114, 118, 101] : List UInt8)) = false := by rw [hh]; exact tl_ne (b := wCurve) (by decide)
                have HE := Lib.hid (show decide ((0 : Nat) = 0 ∧ (cw = wPacket ∨ cw = wAt ∨ cw = wCurve)) = false from by rw [hh]; decide)
                clear hh
                go_wp2_with fail
                go_meet
                exact ⟨by rw [HE.out], rfl⟩
              · have E1 : (cw.toList == ([112, 97, 99, 107, 101, 116] : List UInt8)) = false := by rw [hh]; exact tl_ne (b := wPacket) (by decide)
                have E2 : (cw.toList == ([97, 116] : List UInt8)) = false := by rw [hh]; exact tl_ne (b := wAt) (by decide)
                have E3 : (cw.toList == ([99, 117, 114, 118, 101] : List UInt8)) = false := by rw [hh]; exact tl_ne (b := wCurve) (by decide)
                have HE := Lib.hid (show decide ((0 : Nat) = 0 ∧ (cw = wPacket ∨ cw = wAt ∨ cw = wCurve)) = false from by rw [hh]; decide)
                clear hh
                go_wp2_with fail
                go_meet
                exact ⟨by rw [HE.out], rfl⟩
              · have E1 : (cw.toList == ([112, 97, 99, 107, 101, 116] : List UInt8)) = true := by rw [hh]; exact tl_eq wPacket
                have E2 : (cw.toList == ([97, 116] : List UInt8)) = false := by rw [hh]; exact tl_ne (b := wAt) (by decide)
                have E3 : (cw.toList == ([99, 117, 114, 118, 101] : List UInt8)) = false := by rw [hh]; exact tl_ne (b := wCurve) (by decide)
                have HE := Lib.hid (show decide ((0 : Nat) = 0 ∧ (cw = wPacket ∨ cw = wAt ∨ cw = wCurve)) = true from by rw [hh]; decide)
                clear hh
                go_wp2_with fail
                go_meet
                exact ⟨by rw [HE.out], rfl⟩
              · have E1 : (cw.toList == ([112, 97, 99, 107, 101, 116] : List UInt8)) = false := by rw [hh]; exact tl_ne (b := wPacket) (by decide)
                have E2 : (cw.toList == ([97, 116] : List UInt8)) = true := by rw [hh]; exact tl_eq wAt
                have E3 : (cw.toList == ([99, 117, 114, 118, 101] : List UInt8)) = false := by rw [hh]; exact tl_ne (b := wCurve) (by decide)
                have HE := Lib.hid (show decide ((0 : Nat) = 0 ∧ (cw = wPacket ∨ cw = wAt ∨ cw = wCurve)) = true from by rw [hh]; decide)
                clear hh
                go_wp2_with fail
                go_meet
                exact ⟨by rw [HE.out], rfl⟩
              · have E1 : (cw.toList == ([112, 97, 99, 107, 101, 116] : List UInt8)) = false := by rw [hh]; exact tl_ne (b := wPacket) (by decide)
                have E2 : (cw.toList == ([97, 116] : List UInt8)) = false := by rw [hh]; exact tl_ne (b := wAt) (by decide)
                have E3 : (cw.toList == ([99, 117, 114, 118, 101] : List UInt8)) = false := by rw [hh]; exact tl_ne (b := wCurve) (by decide)
                have HE := Lib.hid (show decide ((0 : Nat) = 0 ∧ (cw = wPacket ∨ cw = wAt ∨ cw = wCurve)) = false from by rw [hh]; decide)
                clear hh
                go_wp2_with fail
                go_meet
                exact ⟨by rw [HE.out], rfl⟩
              · have E1 : (cw.toList == ([112, 97, 99, 107, 101, 116] : List UInt8)) = false := by rw [hh]; exact tl_ne (b := wPacket) (by decide)
                have E2 : (cw.toList == ([97, 116] : List UInt8)) = false := by rw [hh]; exact tl_ne (b := wAt) (by decide)
                have E3 : (cw.toList == ([99, 117, 114, 118, 101] : List UInt8)) = false := by rw [hh]; exact tl_ne (b := wCurve) (by decide)
                have HE := Lib.hid (show decide ((0 : Nat) = 0 ∧ (cw = wPacket ∨ cw = wAt ∨ cw = wCurve)) = false from by rw [hh]; decide)
                clear hh
                go_wp2_with fail
                go_meet
                exact ⟨by rw [HE.out], rfl⟩
              · have E1 : (cw.toList == ([112, 97, 99, 107, 101, 116] : List UInt8)) = false := by rw [hh]; exact tl_ne (b := wPacket) (by decide)
                have E2 : (cw.toList == ([97, 116] : List UInt8)) = false := by rw [hh]; exact tl_ne (b := wAt) (by decide)
                have E3 : (cw.toList == ([99, 117, 114, 118, 101] : List UInt8)) = false := by rw [hh]; exact tl_ne (b := wCurve) (by decide)
                have HE := Lib.hid (show decide ((0 : Nat) = 0 ∧ (cw = wPacket ∨ cw = wAt ∨ cw = wCurve)) = false from by rw [hh]; decide)
                clear hh
                go_wp2_with fail
                go_meet
                exact ⟨by rw [HE.out], rfl⟩
              · have E1 : (cw.toList == ([112, 97, 99, 107, 101, 116] : List UInt8)) = false := by rw [hh]; exact tl_ne (b := wPacket) (by decide)
                have E2 : (cw.toList == ([97, 116] : List UInt8)) = false := by rw [hh]; exact tl_ne (b := wAt) (by decide)
                have E3 : (cw.toList == ([99, 117, 114, 118, 101] : List UInt8)) = false := by rw [hh]; exact tl_ne (b := wCurve) (by decide)
                have HE := Lib.hid (show decide ((0 : Nat) = 0 ∧ (cw = wPacket ∨ cw = wAt ∨ cw = wCurve)) = false from by rw [hh]; decide)
                clear hh
                go_wp2_with fail
                go_meet
                exact ⟨by rw [HE.out], rfl⟩
              · have HE := Lib.hid (show decide ((0 : Nat) = 0 ∧ (cw = wPacket ∨ cw = wAt ∨ cw = wCurve)) = false from decide_eq_false (fun e => hh (by rcases e.2 with e | e | e <;> (rw [e]; simp [wordIs]))))
                clear hh
                go_wp2_with fail
                go_meet
                exact ⟨by rw [HE.out], rfl⟩
            · have j0 : ((j : Int) == 0) = false := beq_eq_false_iff_ne.2 (by omega)
              have HE := Lib.hid (show decide (j = 0 ∧ (cw = wPacket ∨ cw = wAt ∨ cw = wCurve)) = false from decide_eq_false (fun e => hj0 e.1))
              have HJ0 := Lib.hid hj0
              clear hj0
              go_wp2_with fail
              go_meet
              exact ⟨by rw [HE.out], rfl⟩
          case rest =>
            obtain ⟨rfl, rfl⟩ := hcut
            by_cases hm : j = 0 ∧ (cw = wPacket ∨ cw = wAt ∨ cw = wCurve)
            · rw [decide_eq_true hm]
              have HMO := Lib.hid (show (if j = 0 then mostOf c.w else 9999999) = 9 by rw [if_pos hm.1]; unfold mostOf; rw [← HCW.out, if_pos hm.2])
              clear hm
              by_cases hy0 : y < 0
              · have HNO := Lib.hid (lineV_no (c := c) (fun hc => by
                  have h7 := (inK_all.2 hc.2) j hjn (by omega)
                  rw [← HY.out] at h7
                  have h8 := HMO.out
                  omega))
                go_wp2_with fail
                go_ret2
                rw [HNO.out]
                exact ⟨rfl, BX.out.trans (KW.out.mono BX.out.size)⟩
              · by_cases hym : 9 < y
                · have HNO := Lib.hid (lineV_no (c := c) (fun hc => by
                    have h7 := (inK_all.2 hc.2) j hjn (by omega)
                    rw [← HY.out] at h7
                    have h8 := HMO.out
                    omega))
                  go_wp2_with fail
                  go_ret2
                  rw [HNO.out]
                  exact ⟨rfl, BX.out.trans (KW.out.mono BX.out.size)⟩
                · have HD := Lib.hid (decimal_any y wc (by omega) (by omega))
                  have HNX := Lib.hid (show inK (mostOf c.w) c.n (j + 1) from fun i hi hij => by
                    by_cases hij2 : i < j
                    · exact HIN.out i hi hij2
                    · obtain rfl : i = j := by omega
                      have h8 := HMO.out
                      rw [← HY.out]
                      omega)
                  have hts : (itT y).size ≤ 21 := Lib.itoa_length_le y y0 y1
                  obtain ⟨T, hT⟩ : ∃ T, T = itT y := ⟨_, rfl⟩
                  rw [← hT] at HD hts
                  have HST := Lib.hid (show P ++ ByteArray.mk #[32] ++ T = cmPre c (j + 1) by rw [HP.out, hT, HY.out]; exact cmPre_step hjn)
                  have t1 : ¬ 9223372036854775807 < P.size + 1 := by omega
                  have t2 : ¬ 9223372036854775807 < P.size + 1 + T.size := by omega
                  clear hT hts
                  go_wp2_with fail
                  refine HD.out.mono ?_
                  rintro e w5 ⟨rfl, k5⟩
                  have K5 := Lib.hid (KW.out.trans (k5.mono KW.out.size))
                  clear k5 HD f0 f2 e1
                  go_wp2_with fail
                  go_roundw
                  case rel => exact ⟨j + 1, by omega, by rw [HST.out], by go_num, HNX.out, K5.out⟩
                  case measure => simp [intOf]; omega
            · rw [decide_eq_false hm]
              have HMO := Lib.hid (show (if j = 0 then mostOf c.w else 9999999) = 9999999 by
                by_cases hj0 : j = 0
                · rw [if_pos hj0]; unfold mostOf; rw [← HCW.out, if_neg (fun e => hm ⟨hj0, e⟩)]
                · rw [if_neg hj0])
              clear hm
              by_cases hy0 : y < 0
              · have HNO := Lib.hid (lineV_no (c := c) (fun hc => by
                  have h7 := (inK_all.2 hc.2) j hjn (by omega)
                  rw [← HY.out] at h7
                  have h8 := HMO.out
                  omega))
                go_wp2_with fail
                go_ret2
                rw [HNO.out]
                exact ⟨rfl, BX.out.trans (KW.out.mono BX.out.size)⟩
              · by_cases hym : 9999999 < y
                · have HNO := Lib.hid (lineV_no (c := c) (fun hc => by
                    have h7 := (inK_all.2 hc.2) j hjn (by omega)
                    rw [← HY.out] at h7
                    have h8 := HMO.out
                    omega))
                  go_wp2_with fail
                  go_ret2
                  rw [HNO.out]
                  exact ⟨rfl, BX.out.trans (KW.out.mono BX.out.size)⟩
                · have HD := Lib.hid (decimal_any y wc (by omega) (by omega))
                  have HNX := Lib.hid (show inK (mostOf c.w) c.n (j + 1) from fun i hi hij => by
                    by_cases hij2 : i < j
                    · exact HIN.out i hi hij2
                    · obtain rfl : i = j := by omega
                      have h8 := HMO.out
                      rw [← HY.out]
                      omega)
                  have hts : (itT y).size ≤ 21 := Lib.itoa_length_le y y0 y1
                  obtain ⟨T, hT⟩ : ∃ T, T = itT y := ⟨_, rfl⟩
                  rw [← hT] at HD hts
                  have HST := Lib.hid (show P ++ ByteArray.mk #[32] ++ T = cmPre c (j + 1) by rw [HP.out, hT, HY.out]; exact cmPre_step hjn)
                  have t1 : ¬ 9223372036854775807 < P.size + 1 := by omega
                  have t2 : ¬ 9223372036854775807 < P.size + 1 + T.size := by omega
                  clear hT hts
                  go_wp2_with fail
                  refine HD.out.mono ?_
                  rintro e w5 ⟨rfl, k5⟩
                  have K5 := Lib.hid (KW.out.trans (k5.mono KW.out.size))
                  clear k5 HD f0 f2 e1
                  go_wp2_with fail
                  go_roundw
                  case rel => exact ⟨j + 1, by omega, by rw [HST.out], by go_num, HNX.out, K5.out⟩
                  case measure => simp [intOf]; omega
        · obtain rfl : j = L := by omega
          have HYS := Lib.hid (lineV_yes (c := c) ⟨HB.out, by rw [HL.out] at hin; exact inK_all.1 hin⟩)
          have HPA := Lib.hid (show cmPre c j = cmB c by rw [HL.out]; exact cmPre_all c)
          clear hin kw
          go_wp2_with fail
          go_ret2
          rw [HYS.out, HPA.out]
          exact ⟨rfl, BX.out.trans (KW.out.mono BX.out.size)⟩
end
end Go.Proofs.YtoomffajodheaaaGreatDoor
