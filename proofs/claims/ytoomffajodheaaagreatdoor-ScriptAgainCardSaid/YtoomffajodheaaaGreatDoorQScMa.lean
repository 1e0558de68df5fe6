/- A player of commands in memory: a struct of five cells, and what it leads to. Conditions written at each. script.number, script.numbers: numerals as numbers are written. Conditions: the script's ground lies; the words fit memory. script.ok, become; slices.Repeat of one number eight times. Conditions written at each. A player's link. Conditions: the script's ground lies; the player lies. A player's packet, and what a flow's curve tells. Conditions: the script's ground lies; the player lies. What a flow's curve tells. Conditions: the script's ground lies; the player lies. -/
import Derived.Test.YtoomffajodheaaaGreatDoorQScPl
import Derived.Test.YtoomffajodheaaaGreatDoorQGrM
import Derived.Test.YtoomffajodheaaaGreatDoorQKpM
import Derived.Test.YtoomffajodheaaaGreatDoorQShelf
import Derived.WalkSmall
import Derived.Laws.CopyOwn
import Derived.Deep.RegionLaw
set_option linter.all false
namespace Go.Proofs.YtoomffajodheaaaGreatDoor
open Go.RowKit
set_option maxRecDepth 100000
theorem tabG : Tryz.prog.globalNamed "internal/strconv.uint64pow10" = some 15 := by kernel_rfl
/-- What a script leans on: sentinels with their texts, the table of powers of ten, the parser's two errors, a length. -/
structure SX (w : World) (B : Nat) (S : Nat → Addr) : Prop where
  gs : GS w B S
  s1 : Snt w B S [1]
  tx : ∀ k ∈ [1, 2, 3, 4, 5, 9], w.cell? (S k) = some (.string (errT k))
  tb : 15 < B
  tab : Lib.TabIs Tryz.prog w "internal/strconv.uint64pow10" .u64 Lib.pow10Tab
  mxB : 10 < B
  mx : ∃ m, w.cell? ⟨10, 0, none⟩ = some (.int .i64 m)
  e1B : 11 < B
  e1 : ∃ te pe, w.cell? ⟨11, 0, none⟩ = some (.iface te pe)
  e2B : 12 < B
  e2 : ∃ te pe, w.cell? ⟨12, 0, none⟩ = some (.iface te pe)
theorem SX.sB {w : World} {B : Nat} {S : Nat → Addr} (h : SX w B S) {k : Nat} (hk : k ∈ [1, 2, 3, 4, 5, 9]) : (S k).block < B := by
  by_cases h1 : k = 1
  · subst h1; exact (h.s1 1 (by simp)).2.1
  · exact (h.gs.s k (by simp at hk ⊢; omega)).2.1
theorem SX.below {w w' : World} {B : Nat} {S : Nat → Addr} (h : SX w B S) (hb : Below B w w') : SX w' B S where
  gs := h.gs.below hb
  s1 := h.s1.below hb
  tx := fun k hk => (hb.cell (h.sB hk)).trans (h.tx k hk)
  tb := h.tb
  tab := var?_below hb tabG h.tb h.tab
  mxB := h.mxB
  mx := by obtain ⟨m, hm⟩ := h.mx; exact ⟨m, (hb.cell (p := ⟨10, 0, none⟩) h.mxB).trans hm⟩
  e1B := h.e1B
  e1 := by obtain ⟨a, b, hm⟩ := h.e1; exact ⟨a, b, (hb.cell (p := ⟨11, 0, none⟩) h.e1B).trans hm⟩
  e2B := h.e2B
  e2 := by obtain ⟨a, b, hm⟩ := h.e2; exact ⟨a, b, (hb.cell (p := ⟨12, 0, none⟩) h.e2B).trans hm⟩
/-- A slice that does not lie in a block. -/
def NotB (F : Nat → Prop) (pb : Nat) (A : Option Addr) : Prop := ∀ b o, A = some ⟨b, o, none⟩ → b ≠ pb ∧ ¬ F b
theorem NotB.none_ (F : Nat → Prop) (pb : Nat) : NotB F pb none := fun b o h => by cases h
theorem Rd.but {F : Nat → Prop} {α : Type} {w w' : World} {pb size : Nat} {f : α → List Value} {A : Option Addr} {l : List α} (h : Rd w w.heap.size size f A l) (hb : But pb w w') (hn : 0 < l.length → NotB F pb A) : Rd w' w'.heap.size size f A l := fun h0 => by
  obtain ⟨b, o, e, hlt, hc⟩ := h h0
  refine ⟨b, o, e, Nat.lt_of_lt_of_le hlt hb.size, fun i x hx q v hv => ?_⟩
  rw [← hc i x hx q v hv]
  unfold World.cell?
  simp only [hb.blk b hlt (hn h0 b o e).1]
/-- Curves of a player. -/
def RdLX (F : Nat → Prop) (w : World) (pb : Nat) (A : Option Addr) (cs : List (List Ln)) : Prop := NotB F pb A ∧ ∀ i (h : i < cs.length), ∃ b o a c, A = some ⟨b, o, none⟩ ∧ b < w.heap.size ∧ w.cell? ⟨b, o + i, none⟩ = some (.slice a cs[i].length c) ∧ RdL w w.heap.size a cs[i] ∧ (0 < cs[i].length → NotB F pb a)
theorem RdLX.ll {F : Nat → Prop} {w : World} {pb : Nat} {A : Option Addr} {cs : List (List Ln)} (h : RdLX F w pb A cs) : RdLL w w.heap.size A cs := fun i hi => by
  obtain ⟨b, o, a, c, e, h1, h2, h3, h4⟩ := h.2 i hi
  exact ⟨b, o, a, c, e, h1, h2, h3⟩
theorem RdLX.but {F : Nat → Prop} {w w' : World} {pb : Nat} {A : Option Addr} {cs : List (List Ln)} (h : RdLX F w pb A cs) (hb : But pb w w') : RdLX F w' pb A cs := ⟨h.1, fun i hi => by
  obtain ⟨b, o, a, c, e, h1, h2, h3, h4⟩ := h.2 i hi
  refine ⟨b, o, a, c, e, Nat.lt_of_lt_of_le h1 hb.size, ?_, Rd.but h3 hb h4, h4⟩
  rw [← h2]
  unfold World.cell?
  simp only [hb.blk b h1 (h.1 b o e).1]⟩
/-- The player at block pb. -/
def PMem (F : Nat → Prop) (w : World) (pb : Nat) (s : Sc) : Prop := ∃ Ac cc An cn Ap cp, Blk w pb 68 #[.slice Ac s.cs.length cc, .string s.K, .int .i64 s.per, .slice An s.ns.length cn, .slice Ap s.p.length cp] ∧ s.cs.length ≤ cc ∧ RdLX F w pb Ac s.cs ∧ RdI w w.heap.size An s.ns ∧ (0 < s.ns.length → NotB F pb An) ∧ RdP w w.heap.size Ap s.p ∧ (0 < s.p.length → NotB F pb Ap)
/-- A player's step ends: a text, an error; of what was there the player's block alone has changed. -/
def EndSc (F : Nat → Prop) (pb : Nat) (S : Nat → Addr) (r : Rs) (w : World) (e : Ending) (w' : World) : Prop :=
  ∃ t v a, e = .returned (.tuple #[.string t, v]) ∧ Er w' w'.heap.size S v r.1.1 a ∧ (r.1.1 = 0 → t = r.1.2) ∧ PMem F w' pb r.2 ∧ But pb w w'
theorem PMem.but {F : Nat → Prop} {w w' : World} {pb : Nat} {s : Sc} (h : PMem F w pb s) (hb : Below w.heap.size w w') : PMem F w' pb s := by
  obtain ⟨Ac, cc, An, cn, Ap, cp, h1, h2, h3, h4, h5, h6, h7⟩ := h
  have hb' : But pb w w' := But.of_below hb
  exact ⟨Ac, cc, An, cn, Ap, cp, h1.below hb h1.lt, h2, h3.but hb', Rd.but h4 hb' h5, h5, Rd.but h6 hb' h7, h7⟩
theorem But.set1 {g : Nat} (w : World) (i : Nat) (u : Value) : But g w (w.setCell ⟨g, i, none⟩ u) := (But.refl g w).set_ i u
theorem SX.but {w w' : World} {B pb : Nat} {S : Nat → Addr} (h : SX w B S) (hb : But pb w w') (hp : B ≤ pb) (hB : B ≤ w.heap.size) : SX w' B S := h.below (hb.below hp hB)
theorem own_notB {F : Nat → Prop} {w : World} {base pb : Nat} {e : TypeId} {sz n : Nat} {A : Option Addr} {c : Nat} {xs : List Value} (h : w.ownsRow base e sz (.slice A n c) n xs) (hb : pb < base) (hF : ∀ b, F b → b < base) : NotB F pb A := fun b o e2 => by
  subst e2
  have h9 := hF b
  have := own_ge h b (by simp [Value.ownBlock])
  exact ⟨by omega, fun h8 => by have := h9 h8; omega⟩
end Go.Proofs.YtoomffajodheaaaGreatDoor
namespace Go.Proofs.YtoomffajodheaaaGreatDoor
open Go.RowKit
set_option maxRecDepth 100000
theorem below_growS (w : World) (k : Nat) (os : Array Obj) : Below w.heap.size w (Go.Sort.grow (w.drewN k) os) := by
  refine ⟨rfl, rfl, rfl, ?_, fun j hj => ?_⟩
  · unfold Go.Sort.grow; simp [World.drewN]
  · unfold Go.Sort.grow
    simp only [World.drewN]
    rw [Array.getElem?_append_left hj]
def EndNum (o : Option Int) (w : World) (e : Ending) (w' : World) : Prop := (∃ m : Int, e = .returned (.tuple #[.int .i64 m, .bool o.isSome]) ∧ ∀ n, o = some n → m = n) ∧ Below w.heap.size w w'
set_option maxHeartbeats 4000000 in
theorem number_any (s : ByteArray) (S : Nat → Addr) (w : World) (B : Nat) (hB : B ≤ w.heap.size) (hS : SX w B S) (hs : s.size ≤ 281474976710656) :
    Calls Tryz.prog 37 #[.string s] w (EndNum (numW s.data.toList) w) := by
  cases ha : Lib.atoiAll s.data.toList with
  | ok v =>
    have HA := Lib.hid (Tryz.strconv_Atoi_ok s (by omega) v ha w)
    obtain ⟨v0, v1⟩ := Lib.atoiAll_bounds ha
    have hnw : numW s.data.toList = if s.data.toList.length ≤ 7 ∧ 0 ≤ v ∧ Lib.itoa v = s.data.toList then some v else none := by unfold numW; rw [ha]
    have hsz : s.data.toList.length = s.size := Array.length_toList
    rw [hsz] at hnw
    clear ha hsz
    by_cases h7 : s.size ≤ 7
    · by_cases hv : 0 ≤ v
      · have HB := Lib.hid (show (numW s.data.toList).isSome = (Lib.itoa v == s.toList) by
          rw [hnw, ByteArray.toList_eq]
          by_cases h9 : Lib.itoa v = s.data.toList
          · rw [if_pos ⟨h7, hv, h9⟩, h9, beq_self_eq_true]; rfl
          · rw [if_neg (fun h8 => h9 h8.2.2), beq_eq_false_iff_ne.2 h9]; rfl)
        have HN := Lib.hid (show ∀ n, numW s.data.toList = some n → v = n from fun n hn => by
          rw [hnw] at hn
          split at hn
          · injection hn
          · cases hn)
        have u7 : (s.size : Int) ≤ 7 := by omega
        clear hnw h7
        go_enter Tryz.func37, Tryz.ntmps37
        go_wp2_with fail
        refine (HA.out).mono ?_
        rintro e w1 ⟨rfl, hw1⟩
        have k1 : Below w.heap.size w w1 := by
          rcases hw1 with rfl | ⟨t, rfl⟩
          · exact Below.refl _ _
          · exact Lib.bytesWorld_below _ _ _
        have K1 := Lib.hid k1
        clear hw1 k1 HA
        go_wp2_with fail
        refine (Tryz.strconv_Itoa v v0 v1 w1 (hS.below (K1.out.mono hB)).tab).mono ?_
        rintro e w2 ⟨rfl, k, os, rfl⟩
        go_wp2_with fail
        go_ret2
        refine ⟨⟨v, by rw [HB.out]; rfl, HN.out⟩, K1.out.trans ((below_growS w1 k os).mono K1.out.size)⟩
      · have HB := Lib.hid (show numW s.data.toList = none by rw [hnw, if_neg (fun h9 => hv h9.2.1)])
        have u7 : (s.size : Int) ≤ 7 := by omega
        clear hnw h7
        go_enter Tryz.func37, Tryz.ntmps37
        go_wp2_with fail
        refine (HA.out).mono ?_
        rintro e w1 ⟨rfl, hw1⟩
        have k1 : Below w.heap.size w w1 := by
          rcases hw1 with rfl | ⟨t, rfl⟩
          · exact Below.refl _ _
          · exact Lib.bytesWorld_below _ _ _
        have K1 := Lib.hid k1
        clear hw1 k1 HA
        go_wp2_with fail
        go_ret2
        rw [HB.out]
        exact ⟨⟨v, rfl, fun n hn => by cases hn⟩, K1.out⟩
    · have HB := Lib.hid (show numW s.data.toList = none by rw [hnw, if_neg (fun h9 => h7 h9.1)])
      have u7 : ¬ (s.size : Int) ≤ 7 := by omega
      clear hnw h7
      go_enter Tryz.func37, Tryz.ntmps37
      go_wp2_with fail
      refine (HA.out).mono ?_
      rintro e w1 ⟨rfl, hw1⟩
      have k1 : Below w.heap.size w w1 := by
        rcases hw1 with rfl | ⟨t, rfl⟩
        · exact Below.refl _ _
        · exact Lib.bytesWorld_below _ _ _
      have K1 := Lib.hid k1
      clear hw1 k1 HA
      go_wp2_with fail
      go_ret2
      rw [HB.out]
      exact ⟨⟨v, rfl, fun n hn => by cases hn⟩, K1.out⟩
  | range =>
    have HB := Lib.hid (show numW s.data.toList = none by unfold numW; rw [ha])
    obtain ⟨te, pe, he⟩ := hS.e2
    have HA := Lib.hid (Tryz.strconv_Atoi_range s hs ha _ w he (.inr ⟨te, pe, rfl⟩))
    clear ha
    go_enter Tryz.func37, Tryz.ntmps37
    go_wp2_with fail
    refine (HA.out).mono ?_
    rintro e w1 ⟨N, rfl, -, -, k1⟩
    clear HA
    go_wp2_with fail
    go_ret2
    rw [HB.out]
    exact ⟨⟨_, rfl, fun n hn => by cases hn⟩, k1⟩
  | _ =>
    have HB := Lib.hid (show numW s.data.toList = none by unfold numW; rw [ha])
    obtain ⟨te, pe, he⟩ := hS.e1
    have HA := Lib.hid (Any.strconv_Atoi_syntax Tryz.laysC172 s hs ha _ w he (.inr ⟨te, pe, rfl⟩))
    clear ha
    go_enter Tryz.func37, Tryz.ntmps37
    go_wp2_with fail
    refine (HA.out).mono ?_
    rintro e w1 ⟨N, rfl, -, -, k1⟩
    clear HA
    go_wp2_with fail
    go_ret2
    rw [HB.out]
    exact ⟨⟨_, rfl, fun n hn => by cases hn⟩, k1⟩
/-- Cells of a string. -/
def bCs (s : ByteArray) : List Value := [.string s]
theorem bCs_len (s : ByteArray) : (bCs s).length = 1 := rfl
theorem bCs_one (s : ByteArray) : ∀ u ∈ bCs s, u.oneCell' = true := by simp [bCs, Value.oneCell']
def RdB (w : World) (B : Nat) (A : Option Addr) (l : List ByteArray) : Prop := Rd w B 1 bCs A l
theorem RdB.get {w : World} {B : Nat} {A : Option Addr} {l : List ByteArray} (h : RdB w B A l) {i : Nat} (hi : i < l.length) : ∃ b o, A = some ⟨b, o, none⟩ ∧ b < B ∧ w.cell? ⟨b, o + i, none⟩ = some (.string l[i]) := by
  obtain ⟨b, o, e, hb, hc⟩ := h (Nat.lt_of_le_of_lt (Nat.zero_le _) hi)
  refine ⟨b, o, e, hb, ?_⟩
  have := hc i l[i] (List.getElem?_eq_getElem hi) 0 _ rfl
  simpa using this
theorem RdB.below {w w' : World} {B : Nat} {A : Option Addr} {l : List ByteArray} (h : RdB w B A l) (hb : Below B w w') : RdB w' B A l := Rd.below h hb
/-- Numbers of words: a slice of the call's own. -/
def EndNums (o : Option (List Int)) (w : World) (e : Ending) (w' : World) : Prop := ∃ A c n, e = .returned (.tuple #[.slice A n c, .bool o.isSome]) ∧ (∀ l, o = some l → n = l.length ∧ w'.ownsRow w.heap.size 3 1 (.slice A n c) n (l.flatMap iCs)) ∧ Below w.heap.size w w'
theorem numsW_drop {ws pre : List ByteArray} {l : List Int} (h : numsW pre = some l) : numsW (pre ++ ws) = (numsW ws).map (l ++ ·) := by
  induction pre generalizing l with
  | nil =>
    simp only [numsW, Option.some.injEq] at h
    subst h
    rw [List.nil_append]
    cases numsW ws <;> rfl
  | cons w r ih =>
    unfold numsW at h
    show (match numW w.data.toList with
      | none => none
      | some n => match numsW (r ++ ws) with
        | none => none
        | some l => some (n :: l)) = _
    split at h
    · cases h
    · rename_i x hx
      split at h
      · cases h
      · rename_i l' hl
        injection h with h
        subst h
        rw [hx]
        simp only
        rw [ih hl]
        cases numsW ws <;> rfl
theorem numsW_take {ws : List ByteArray} {k : Nat} (hk : k < ws.length) {l : List Int} (h : numsW (ws.take k) = some l) : numsW (ws.take (k + 1)) = (match numW ws[k].data.toList with
    | none => none
    | some n => some (l ++ [n])) := by
  rw [List.take_succ_eq_append_getElem hk, numsW_drop h]
  show ((match numW ws[k].data.toList with
      | none => none
      | some n => match numsW [] with
        | none => none
        | some l => some (n :: l))).map (l ++ ·) = _
  cases numW ws[k].data.toList <;> rfl
theorem numsW_none {ws : List ByteArray} {k : Nat} (h : numsW (ws.take k) = none) : numsW ws = none := by
  rw [← List.take_append_drop k ws]
  generalize ws.take k = a at h
  induction a with
  | nil => simp [numsW] at h
  | cons w r ih =>
    unfold numsW at h
    show (match numW w.data.toList with
      | none => none
      | some n => match numsW (r ++ ws.drop k) with
        | none => none
        | some l => some (n :: l)) = none
    split at h
    · rename_i hx; rw [hx]
    · rename_i x hx
      rw [hx]
      simp only
      split at h
      · rename_i hl; rw [ih hl]
      · cases h
set_option maxHeartbeats 4000000 in
theorem numbers_any (A : Option Addr) (c : Nat) (ws : List ByteArray) (S : Nat → Addr) (w : World) (B : Nat) (hB : B ≤ w.heap.size) (hS : SX w B S) (h : RdB w w.heap.size A ws) (hl : ws.length ≤ 1000000) (hs : ∀ x ∈ ws, x.size ≤ 281474976710656) :
    Calls Tryz.prog 40 #[.slice A ws.length c] w (EndNums (numsW ws) w) := by
  obtain ⟨i1, hi1, hy0, hy1, hy2⟩ := info_parts infoInt
  have HSS := Lib.hid hs
  clear hs
  go_enter Tryz.func40, Tryz.ntmps40
  go_wp2_with fail
  go_loopw [2, 10] (fun ov iv wr => ∃ (k : Nat) (l : List Int) (A1 : Option Addr) (c1 : Nat), k ≤ ws.length ∧ ov = .slice A1 l.length c1 ∧ iv = .int .i64 k ∧ numsW (ws.take k) = some l ∧ l.length = k ∧ wr.ownsRow w.heap.size 3 1 (.slice A1 l.length c1) l.length (l.flatMap iCs) ∧ Below w.heap.size w wr) (fun _ iv _ => ws.length - (intOf iv).toNat)
  case atStart => exact ⟨0, [], none, 0, Nat.zero_le _, rfl, rfl, rfl, rfl, ⟨by simp, .inl ⟨rfl, rfl⟩⟩, Below.refl _ _⟩
  case round =>
    obtain ⟨k, l, A1, c1, hk, rfl, rfl, hn, hlk, row, hbw⟩ := hrel
    have HN := Lib.hid hn
    have HLK := Lib.hid hlk
    have ROW := Lib.hid row
    have zw := hbw.size
    have hl3 : l.length ≤ 1000000 := by omega
    clear hn row hlk
    by_cases hlt : k < ws.length
    · obtain ⟨b, o, rfl, hb, d0⟩ := RdB.get (h.below hbw) hlt
      obtain ⟨s, hse⟩ : ∃ s, s = ws[k] := ⟨_, rfl⟩
      have hsz := HSS.out ws[k] (List.getElem_mem hlt)
      have hst := numsW_take hlt HN.out
      rw [← hse] at d0 hsz hst
      have HST := Lib.hid hst
      have HNB := Lib.hid (number_any s S wr B (Nat.le_trans hB zw) (hS.below (hbw.mono hB)) hsz)
      have q1 : (0 : Int) ≤ (k : Int) := by omega
      have q2 : (k : Int) < (ws.length : Int) := by omega
      clear hse hst hsz
      cases hnw : numW s.data.toList with
      | none =>
        have HR := Lib.hid (show numsW ws = none from numsW_none (k := k + 1) (by rw [HST.out, hnw]))
        rw [hnw] at HNB
        clear hnw
        go_wp2_with fail
        refine (HNB.out).mono ?_
        rintro e w1 ⟨⟨m, rfl, -⟩, k1⟩
        have hbf : (none : Option Int).isSome = false := rfl
        rw [hbf]
        clear hbf d0
        go_wp2_with fail
        go_ret2
        rw [HR.out]
        exact ⟨none, 0, 0, rfl, (fun l hl => by cases hl), hbw.trans (k1.mono zw)⟩
      | some n =>
        rw [hnw] at HNB HST
        clear hnw
        go_wp2_with fail
        refine (HNB.out).mono ?_
        rintro e w1 ⟨⟨m, rfl, hm⟩, k1⟩
        obtain rfl := hm n rfl
        have hbf : (some m : Option Int).isSome = true := rfl
        rw [hbf]
        have k1' := hbw.trans (k1.mono zw)
        have ROW1 := Lib.hid (own_below ROW.out k1 (Nat.le_refl _))
        have z1 : w.heap.size ≤ w1.heap.size := k1'.size
        have M1 := Lib.hid (show l.length + [m].length ≤ maxLen by simp only [maxLen, List.length_cons, List.length_nil]; omega)
        have M2 := Lib.hid (show (l.length + [m].length) * 8 ≤ 140737488355328 by simp only [List.length_cons, List.length_nil]; omega)
        have HNW := Lib.hid (show Rd (w1.alloc (.cells #[.int .i64 m] 3)) (w1.heap.size + 1) 1 iCs (some ⟨w1.heap.size, 0, none⟩) [m] from Rd.new_ rfl (by omega) iCs_len)
        clear hbf d0 hm HNB
        go_wp2_with (at_builtin; refine wpList_append_rd _ iCs rfl (.tmp 21) (.tmp 23) 27 rfl w.heap.size 3 i1 (.int .i64 0) 1 8 Tryz.underlying27 hi1 hy0 hy1 hy2 rfl (by omega) iCs_len iCs_one (.slice A1 l.length c1) l.length (l.flatMap iCs) rfl (ROW1.out.alloc _) (w1.heap.size + 1) (some ⟨w1.heap.size, 0, none⟩) 1 [m] rfl HNW.out M1.out M2.out (le_alloc z1 _) ?_; intro v4 w4 row4 g4 at4; obtain ⟨A6, c6, hv6, row5⟩ := own_app row4 (by omega); subst hv6; have ROW4 := Lib.hid row5; have k4 := below_app (k1'.alloc z1 _) (ROW1.out.alloc _) g4 (Nat.le_refl _) (le_alloc z1 _); clear row4 row5 at4)
        have HL4 := Lib.hid (show (l ++ [m]).length = k + 1 by rw [List.length_append, HLK.out]; rfl)
        go_roundw
        case rel => exact ⟨k + 1, l ++ [m], A6, c6, hlt, by first | rfl | simp, by go_num, HST.out, HL4.out, ROW4.out, k4⟩
        case measure => simp [intOf]; omega
    · obtain rfl : k = ws.length := by omega
      have HR := Lib.hid (show numsW ws = some l by have := HN.out; rwa [List.take_length] at this)
      go_wp2_with fail
      go_ret2
      rw [HR.out]
      exact ⟨A1, c1, l.length, rfl, (fun l' hl' => by injection hl' with hl'; subst hl'; exact ⟨rfl, ROW.out⟩), hbw⟩
end Go.Proofs.YtoomffajodheaaaGreatDoor
namespace Go.Proofs.YtoomffajodheaaaGreatDoor
open Go.RowKit
set_option maxRecDepth 100000
theorem ok_any (v : Value) (w : World) : Calls Tryz.prog 94 #[v] w fun e w' => e = .returned (.tuple #[.string okT, v]) ∧ w' = w := by
  go_enter Tryz.func94, Tryz.ntmps94
  go_wp2_with fail
  go_ret2
  exact ⟨rfl, rfl⟩
section
variable (F : Nat → Prop) (pb : Nat) (s : Sc) (S : Nat → Addr) (w : World) (B : Nat) (hpB : B ≤ pb) (hB : B ≤ w.heap.size) (hS : SX w B S) (hm : PMem F w pb s) (hF : ∀ b, F b → b < w.heap.size)
include hpB hB hS hm hF
set_option maxHeartbeats 4000000 in
theorem become_any (Ac An : Option Addr) (cc cn : Nat) (cs : List (List Ln)) (K : ByteArray) (per : Int) (ns : List Int) (hcc : cs.length ≤ cc) (hcs : RdLX F w pb Ac cs) (hns : RdI w w.heap.size An ns) (hnb : 0 < ns.length → NotB F pb An) (hl : ∀ l ∈ cs, l.length ≤ 9223372036854775807) (hl' : ns.length ≤ 9223372036854775807) :
    Calls Tryz.prog 67 #[.pointer (some ⟨pb, 0, none⟩), .agg #[.slice Ac cs.length cc, .string K, .int .i64 per, .slice An ns.length cn]] w (EndSc F pb S (becomeS s ⟨cs, K, per, ns, s.p⟩) w) := by
  have bW : Below w.heap.size w (w.alloc (.cells #[.slice Ac cs.length cc, .string K, .int .i64 per, .slice An ns.length cn] 66)) := (Below.refl _ _).alloc (Nat.le_refl _) _
  have xW : Blk (w.alloc (.cells #[.slice Ac cs.length cc, .string K, .int .i64 per, .slice An ns.length cn] 66)) w.heap.size 66 #[.slice Ac cs.length cc, .string K, .int .i64 per, .slice An ns.length cn] := Blk.new _ _ _
  have HCK := Lib.hid (gcheck_any Ac An cc cn cs K per ns S _ w.heap.size bW.size (hcs.ll.below bW) (Rd.below hns bW) ((hS.gs.more hB).below bW) hl hl')
  have BW := Lib.hid bW
  have XW := Lib.hid xW
  have HM := Lib.hid hm
  have _hp := hpB
  clear _hp
  have HF := Lib.hid hF
  clear hF
  have HC := Lib.hid hcs
  have HNS := Lib.hid hns
  clear bW xW hcs hns
  by_cases hg : (gateErr cs (kindN K) per ns).1 = 0
  · have HR := Lib.hid (show becomeS s ⟨cs, K, per, ns, s.p⟩ = ((0, okT), ⟨cs, K, per, ns, s.p⟩) from if_pos hg)
    have HG := Lib.hid hg
    clear hg
    go_enter Tryz.func67, Tryz.ntmps67
    go_wp2_with fail
    refine (HCK.out).mono ?_
    rintro e w1 ⟨v, rfl, hv, k1⟩
    obtain rfl := hv.nil_of HG.out
    have k1' := BW.out.trans (k1.mono BW.out.size)
    have x1 := XW.out.below k1 XW.out.lt
    have c0 := x1.cell 0
    have c1 := x1.cell 1
    have c2 := x1.cell 2
    have c3 := x1.cell 3
    simp only [List.getElem?_toArray, List.getElem?_cons_zero, List.getElem?_cons_succ] at c0 c1 c2 c3
    obtain ⟨Ac0, cc0, An0, cn0, Ap, cp, h1, -, -, -, -, h6, h7⟩ := HM.out.but k1'
    have d0 := h1.cell 0
    have d1 := h1.cell 1
    have d2 := h1.cell 2
    have d3 := h1.cell 3
    have z0 := h1.frozen 0
    have z1 := h1.frozen 1
    have z2 := h1.frozen 2
    have z3 := h1.frozen 3
    simp only [List.getElem?_toArray, List.getElem?_cons_zero, List.getElem?_cons_succ] at d0 d1 d2 d3
    have hb2 : But pb w ((((w1.setCell ⟨pb, 0, none⟩ (.slice Ac cs.length cc)).setCell ⟨pb, 1, none⟩ (.string K)).setCell ⟨pb, 2, none⟩ (.int .i64 per)).setCell ⟨pb, 3, none⟩ (.slice An ns.length cn)) := ((((But.of_below (g := pb) k1').set_ 0 _).set_ 1 _).set_ 2 _).set_ 3 _
    have hb1 : But pb w1 ((((w1.setCell ⟨pb, 0, none⟩ (.slice Ac cs.length cc)).setCell ⟨pb, 1, none⟩ (.string K)).setCell ⟨pb, 2, none⟩ (.int .i64 per)).setCell ⟨pb, 3, none⟩ (.slice An ns.length cn)) := ((((But.refl pb w1).set_ 0 _).set_ 1 _).set_ 2 _).set_ 3 _
    have HPM := Lib.hid (show PMem F ((((w1.setCell ⟨pb, 0, none⟩ (.slice Ac cs.length cc)).setCell ⟨pb, 1, none⟩ (.string K)).setCell ⟨pb, 2, none⟩ (.int .i64 per)).setCell ⟨pb, 3, none⟩ (.slice An ns.length cn)) pb ⟨cs, K, per, ns, s.p⟩ from ⟨Ac, cc, An, cn, Ap, cp, (((h1.set_ 0 _).set_ 1 _).set_ 2 _).set_ 3 _, hcc, HC.out.but hb2, Rd.but HNS.out hb2 hnb, hnb, Rd.but h6 hb1 h7, h7⟩)
    have HB2 := Lib.hid hb2
    clear hv k1 k1' x1 h1 h6 h7 hb2 hb1 HCK
    go_wp2_with fail
    refine (ok_any _ _).mono ?_
    rintro e w3 ⟨rfl, rfl⟩
    clear c0 c1 c2 c3 d0 d1 d2 d3 z0 z1 z2 z3
    go_wp2_with fail
    go_ret2
    rw [HR.out]
    exact ⟨okT, .nilIface, -1, rfl, .nil, fun _ => rfl, HPM.out, HB2.out⟩
  · have HR := Lib.hid (show becomeS s ⟨cs, K, per, ns, s.p⟩ = (((gateErr cs (kindN K) per ns).1, okT), s) from if_neg hg)
    have HG := Lib.hid hg
    clear hg
    go_enter Tryz.func67, Tryz.ntmps67
    go_wp2_with fail
    refine (HCK.out).mono ?_
    rintro e w1 ⟨v, rfl, hv, k1⟩
    have HV := Lib.hid hv
    obtain ⟨T, ad, rfl⟩ := hv.some_of HG.out
    have K1 := Lib.hid (BW.out.trans (k1.mono BW.out.size))
    clear hv k1 HCK
    go_wp2_with fail
    refine (ok_any _ _).mono ?_
    rintro e w3 ⟨rfl, rfl⟩
    go_wp2_with fail
    go_ret2
    rw [HR.out]
    exact ⟨okT, _, _, rfl, HV.out, fun h9 => absurd h9 HG.out, HM.out.but K1.out, But.of_below K1.out⟩
end
def row8 (n : Nat) : List Value := List.replicate n (.int .i64 1) ++ List.replicate (8 - n) (.int .i64 0)
theorem row8_new {w2 : World} {base : Nat} {xs : List Value} (h : w2.ownsRow base 3 1 (.slice (some ⟨base, 0, none⟩) 8 8) 8 xs) (hx : xs = List.replicate 8 (.int .i64 0)) : w2.heap[base]? = some (.cells (row8 0).toArray 3 (0, 0)) := by
  obtain ⟨hl, ⟨h1, h2⟩ | ⟨g, cap, cur, hv, hg, hh, hn, hc, hs, ht⟩⟩ := h
  · cases h1
  · simp only [Value.slice.injEq, Option.some.injEq, Addr.mk.injEq, and_true, true_and] at hv
    obtain ⟨rfl, rfl⟩ := hv
    have e : cur = (row8 0).toArray := by
      rw [hx, Nat.mul_one, List.take_of_length_le (by rw [Array.length_toList]; omega)] at ht
      show cur = (List.replicate 0 (Value.int .i64 1) ++ List.replicate 8 (Value.int .i64 0)).toArray
      rw [List.replicate_zero, List.nil_append, ← ht]
    rw [← e]
    exact hh
theorem row8_cell {w : World} {g n : Nat} (h : w.heap[g]? = some (.cells (row8 n).toArray 3 (0, 0))) (hn : n ≤ 8) {j : Nat} (hj : j < n) : w.cell? ⟨g, j, none⟩ = some (.int .i64 1) := by
  unfold World.cell?
  simp only [h]
  simp only [List.getElem?_toArray]
  unfold row8
  rw [List.getElem?_append_left (by rw [List.length_replicate]; exact hj), List.getElem?_replicate, if_pos hj]
  rfl
theorem row8_own {w : World} {base g : Nat} (h : w.heap[g]? = some (.cells (row8 8).toArray 3 (0, 0))) (hb : base ≤ g) : w.ownsRow base 3 1 (.slice (some ⟨g, 0, none⟩) (List.replicate 8 (1 : Int)).length 8) (List.replicate 8 (1 : Int)).length ((List.replicate 8 (1 : Int)).flatMap iCs) :=
  ⟨rfl, .inr ⟨g, 8, _, rfl, hb, h, Nat.le_refl _, by simp [maxLen], rfl, rfl⟩⟩
set_option maxHeartbeats 8000000 in
/-- Eight ones. -/
theorem repeat_any (b : Nat) (w : World) (hb : w.cell? ⟨b, 0, none⟩ = some (.int .i64 1)) (hbl : b < w.heap.size) :
    Calls Tryz.prog 66 #[.slice (some ⟨b, 0, none⟩) 1 1, .int .i64 8] w (EndOwn iCs 1 3 (List.replicate 8 1) w) := by
  obtain ⟨i1, hi1, hy0, hy1, hy2⟩ := info_parts infoInt
  go_enter Tryz.func66, Tryz.ntmps66
  have HMUL := Lib.hid (Tryz.bits_Mul 1 8 (by omega) (by omega) w)
  go_wp2_with fail
  refine (show Calls Tryz.prog 92 #[.int .u64 1, .int .u64 8] w _ from HMUL.out).mono ?_
  rintro e w1 ⟨rfl, rfl⟩
  have e1 : ((1 * 8 / 18446744073709551616 : Nat) : Int) = 0 := rfl
  have e2 : ((1 * 8 % 18446744073709551616 : Nat) : Int) = 8 := rfl
  rw [e1, e2]
  clear e1 e2 HMUL
  go_upto_region 7 with (at_make; refine wpList_make_full _ rfl (.tmp 29) (.tmp 29) 27 rfl w1.heap.size 3 i1 (.int .i64 0) 1 Tryz.underlying27 hi1 hy0 hy1 .i64 .i64 8 8 8 rfl rfl rfl rfl (by rw [hy2]; omega) (by simp only [maxLen]; omega) (Nat.le_refl _) ?_; intro w2 row2 g2; have hg2 : w2.heap[w1.heap.size]? = some (.cells (row8 0).toArray 3 (0, 0)) := row8_new row2 (intRow_new 8); have k2 : Below w1.heap.size w1 w2 := (Below.refl _ _).grown g2 (Nat.le_refl _) (by simp); have hb2 : w2.cell? ⟨b, 0, none⟩ = some (.int .i64 1) := (k2.cell (p := ⟨b, 0, none⟩) hbl).trans hb; have H2 := Lib.hid hg2; clear row2 g2 hg2)
  obtain ⟨g, hg⟩ : ∃ g, g = w1.heap.size := ⟨_, rfl⟩
  have HGE := Lib.hid hg
  rw [← hg] at H2 ⊢
  have K2 := Lib.hid (show Below g w1 w2 by rw [hg]; exact k2)
  have hbg : b < g := by rw [hg]; exact hbl
  have hc2 : ∀ j v, [Value.int .i64 1][j]? = some v → w2.cell? (Addr.add ⟨b, 0, none⟩ j) = some v := fun j v hv => by
    cases j with
    | zero => simp at hv; subst hv; exact hb2
    | succ j => simp at hv
  clear hg k2
  obtain ⟨w3, hw3⟩ : ∃ w3, w3 = w2.setRow g ((row8 0).toArray.toList.take 0 ++ ([Value.int .i64 1] ++ (row8 0).toArray.toList.drop (0 + 1))).toArray := ⟨_, rfl⟩
  have hrun : ∀ ty, (Builtin.copy_ #[27, 27] ty #[.slice (some ⟨g, 0, none⟩) 8 8, .slice (some ⟨b, 0, none⟩) 1 1]).run Tryz.prog w2 = .ok (.int .i64 1) w3 := fun ty => by
    rw [hw3]
    exact run_copy_row (P := Tryz.prog) w2 27 27 ty 3 g 0 8 8 ⟨b, 0, none⟩ 1 1 (row8 0).toArray 3 [Value.int .i64 1] Tryz.underlying27 (by rw [hi1]; simp [hy1]) H2.out rfl hc2 (by decide) (by simp [Value.oneCell'])
  have H3 := Lib.hid (show w3.heap[g]? = some (.cells (row8 1).toArray 3 (0, 0)) by rw [hw3]; exact setRow_heap w2 g _ _ _ _ H2.out)
  have K3 := Lib.hid (show Below g w1 w3 by rw [hw3]; exact below_setRow K2.out (Nat.le_refl _) _)
  clear hc2 hb2 hw3
  go_wp2_with fail
  go_loopw [8] (fun nv wr => ∃ n : Nat, (n = 1 ∨ n = 2 ∨ n = 4 ∨ n = 8) ∧ nv = .int .i64 n ∧ wr.heap[g]? = some (.cells (row8 n).toArray 3 (0, 0)) ∧ Below g w1 wr) (fun nv _ => 8 - (intOf nv).toNat)
  case atStart => exact ⟨1, by omega, rfl, H3.out, K3.out⟩
  case round =>
    obtain ⟨n, hn, rfl, hrow, hbw⟩ := hrel
    have HG := Lib.hid hrow
    have HB := Lib.hid hbw
    clear hrow hbw
    rcases hn with hn | hn | hn | hn
    · obtain rfl : n = 1 := hn
      have hg9 : wr.drew.heap[g]? = some (.cells (row8 1).toArray 3 (0, 0)) := HG.out
      have hc9 : ∀ j v, (List.replicate 1 (Value.int .i64 1))[j]? = some v → wr.drew.cell? (Addr.add ⟨g, 0, none⟩ j) = some v := fun j v hv => by
        rw [List.getElem?_replicate] at hv
        by_cases hj : j < 1
        · rw [if_pos hj] at hv
          injection hv with hv
          subst hv
          have := row8_cell hg9 (by omega) hj
          rw [add_mk, Nat.zero_add]
          exact this
        · rw [if_neg hj] at hv; cases hv
      obtain ⟨w4, hw4⟩ : ∃ w4, w4 = wr.drew.setRow g ((row8 1).toArray.toList.take 1 ++ ((List.replicate 1 (Value.int .i64 1)) ++ (row8 1).toArray.toList.drop (1 + 1))).toArray := ⟨_, rfl⟩
      have hrun : ∀ ty, (Builtin.copy_ #[27, 27] ty #[.slice (some ⟨g, 1, none⟩) 7 7, .slice (some ⟨g, 0, none⟩) 1 8]).run Tryz.prog wr.drew = .ok (.int .i64 1) w4 := fun ty => by
        rw [hw4]
        exact run_copy_row (P := Tryz.prog) wr.drew 27 27 ty 3 g 1 7 7 ⟨g, 0, none⟩ 1 8 (row8 1).toArray 3 (List.replicate 1 (Value.int .i64 1)) Tryz.underlying27 (by rw [hi1]; simp [hy1]) hg9 rfl hc9 (by decide) (by simp [Value.oneCell'])
      have H4 := Lib.hid (show w4.heap[g]? = some (.cells (row8 2).toArray 3 (0, 0)) by rw [hw4]; exact setRow_heap wr.drew g _ _ _ _ hg9)
      have K4 := Lib.hid (show Below g w1 w4 by rw [hw4]; exact below_setRow HB.out.drew (Nat.le_refl _) _)
      clear hg9 hc9 hw4
      go_wp2_with fail
      go_region
      all_goals
        go_wp2_with fail
        go_roundw
        case rel => exact ⟨2, by omega, rfl, H4.out, K4.out⟩
        case measure => simp [intOf]
    · obtain rfl : n = 2 := hn
      have hg9 : wr.drew.heap[g]? = some (.cells (row8 2).toArray 3 (0, 0)) := HG.out
      have hc9 : ∀ j v, (List.replicate 2 (Value.int .i64 1))[j]? = some v → wr.drew.cell? (Addr.add ⟨g, 0, none⟩ j) = some v := fun j v hv => by
        rw [List.getElem?_replicate] at hv
        by_cases hj : j < 2
        · rw [if_pos hj] at hv
          injection hv with hv
          subst hv
          have := row8_cell hg9 (by omega) hj
          rw [add_mk, Nat.zero_add]
          exact this
        · rw [if_neg hj] at hv; cases hv
      obtain ⟨w4, hw4⟩ : ∃ w4, w4 = wr.drew.setRow g ((row8 2).toArray.toList.take 2 ++ ((List.replicate 2 (Value.int .i64 1)) ++ (row8 2).toArray.toList.drop (2 + 2))).toArray := ⟨_, rfl⟩
      have hrun : ∀ ty, (Builtin.copy_ #[27, 27] ty #[.slice (some ⟨g, 2, none⟩) 6 6, .slice (some ⟨g, 0, none⟩) 2 8]).run Tryz.prog wr.drew = .ok (.int .i64 2) w4 := fun ty => by
        rw [hw4]
        exact run_copy_row (P := Tryz.prog) wr.drew 27 27 ty 3 g 2 6 6 ⟨g, 0, none⟩ 2 8 (row8 2).toArray 3 (List.replicate 2 (Value.int .i64 1)) Tryz.underlying27 (by rw [hi1]; simp [hy1]) hg9 rfl hc9 (by decide) (by simp [Value.oneCell'])
      have H4 := Lib.hid (show w4.heap[g]? = some (.cells (row8 4).toArray 3 (0, 0)) by rw [hw4]; exact setRow_heap wr.drew g _ _ _ _ hg9)
      have K4 := Lib.hid (show Below g w1 w4 by rw [hw4]; exact below_setRow HB.out.drew (Nat.le_refl _) _)
      clear hg9 hc9 hw4
      go_wp2_with fail
      go_region
      all_goals
        go_wp2_with fail
        go_roundw
        case rel => exact ⟨4, by omega, rfl, H4.out, K4.out⟩
        case measure => simp [intOf]
    · obtain rfl : n = 4 := hn
      have hg9 : wr.drew.heap[g]? = some (.cells (row8 4).toArray 3 (0, 0)) := HG.out
      have hc9 : ∀ j v, (List.replicate 4 (Value.int .i64 1))[j]? = some v → wr.drew.cell? (Addr.add ⟨g, 0, none⟩ j) = some v := fun j v hv => by
        rw [List.getElem?_replicate] at hv
        by_cases hj : j < 4
        · rw [if_pos hj] at hv
          injection hv with hv
          subst hv
          have := row8_cell hg9 (by omega) hj
          rw [add_mk, Nat.zero_add]
          exact this
        · rw [if_neg hj] at hv; cases hv
      obtain ⟨w4, hw4⟩ : ∃ w4, w4 = wr.drew.setRow g ((row8 4).toArray.toList.take 4 ++ ((List.replicate 4 (Value.int .i64 1)) ++ (row8 4).toArray.toList.drop (4 + 4))).toArray := ⟨_, rfl⟩
      have hrun : ∀ ty, (Builtin.copy_ #[27, 27] ty #[.slice (some ⟨g, 4, none⟩) 4 4, .slice (some ⟨g, 0, none⟩) 4 8]).run Tryz.prog wr.drew = .ok (.int .i64 4) w4 := fun ty => by
        rw [hw4]
        exact run_copy_row (P := Tryz.prog) wr.drew 27 27 ty 3 g 4 4 4 ⟨g, 0, none⟩ 4 8 (row8 4).toArray 3 (List.replicate 4 (Value.int .i64 1)) Tryz.underlying27 (by rw [hi1]; simp [hy1]) hg9 rfl hc9 (by decide) (by simp [Value.oneCell'])
      have H4 := Lib.hid (show w4.heap[g]? = some (.cells (row8 8).toArray 3 (0, 0)) by rw [hw4]; exact setRow_heap wr.drew g _ _ _ _ hg9)
      have K4 := Lib.hid (show Below g w1 w4 by rw [hw4]; exact below_setRow HB.out.drew (Nat.le_refl _) _)
      clear hg9 hc9 hw4
      go_wp2_with fail
      go_region
      all_goals
        go_wp2_with fail
        go_roundw
        case rel => exact ⟨8, by omega, rfl, H4.out, K4.out⟩
        case measure => simp [intOf]
    · subst hn
      go_wp2_with fail
      go_ret
      have hr := HG.out
      have hb9 := HB.out
      rw [HGE.out] at hr hb9
      rw [HGE.out]
      exact ⟨_, 8, rfl, row8_own hr (Nat.le_refl _), hb9⟩
end Go.Proofs.YtoomffajodheaaaGreatDoor
namespace Go.Proofs.YtoomffajodheaaaGreatDoor
open Go.RowKit
set_option maxRecDepth 100000
theorem Sc.ok.ll {s : Sc} (h : s.ok) : s.cs.length = 8 ∧ ∀ l ∈ s.cs, l.length ≤ 9223372036854775807 := by
  obtain ⟨h8, hc, -, -⟩ := gateErr_ok h.1
  refine ⟨h8, fun l hl => ?_⟩
  rcases hc l hl with h9 | h9
  · rw [h9]; exact Nat.zero_le _
  · have := (crvErr_ok h9).2.1; omega
section
variable (F : Nat → Prop) (pb : Nat) (s : Sc) (S : Nat → Addr) (w : World) (B : Nat) (hpB : B ≤ pb) (hB : B ≤ w.heap.size) (hS : SX w B S) (hm : PMem F w pb s) (hF : ∀ b, F b → b < w.heap.size) (hok : s.ok)
include hpB hB hS hm hF hok
set_option maxHeartbeats 4000000 in
theorem link_any (K : ByteArray) (per : Int) : Calls Tryz.prog 39 #[.pointer (some ⟨pb, 0, none⟩), .string K, .int .i64 per] w (EndSc F pb S (linkS s K per) w) := by
  obtain ⟨h8, hll⟩ := hok.ll
  have hm' := hm
  obtain ⟨Ac, cc, An, cn, Ap, cp, h1, h2, h3, h4, h5, h6, h7⟩ := hm'
  have c0 := h1.cell 0
  have c1 := h1.cell 1
  have c2 := h1.cell 2
  have c3 := h1.cell 3
  simp only [List.getElem?_toArray, List.getElem?_cons_zero, List.getElem?_cons_succ] at c0 c1 c2 c3
  obtain ⟨X, hX⟩ : ∃ X : World, X = w.alloc (.cells #[.slice Ac s.cs.length cc, .string s.K, .int .i64 s.per, .slice An s.ns.length cn] 66) := ⟨_, rfl⟩
  obtain ⟨gb, hgb⟩ : ∃ gb, gb = w.heap.size := ⟨_, rfl⟩
  have bX : Below w.heap.size w X := by rw [hX]; exact (Below.refl _ _).alloc (Nat.le_refl _) _
  have xX : Blk X gb 66 #[.slice Ac s.cs.length cc, .string s.K, .int .i64 s.per, .slice An s.ns.length cn] := by rw [hX, hgb]; exact Blk.new _ _ _
  obtain ⟨X2, hX2⟩ : ∃ X2 : World, X2 = ((X.setCell ⟨gb, 1, none⟩ (.string K)).setCell ⟨gb, 2, none⟩ (.int .i64 per)).setCell ⟨gb, 3, none⟩ (.slice none 0 0) := ⟨_, rfl⟩
  have hge : w.heap.size ≤ gb := by rw [hgb]; exact Nat.le_refl _
  have bX2 : Below w.heap.size w X2 := by rw [hX2]; exact ((bX.setCell (p := ⟨gb, 1, none⟩) hge _).setCell (p := ⟨gb, 2, none⟩) hge _).setCell (p := ⟨gb, 3, none⟩) hge _
  have xX2 : Blk X2 gb 66 #[.slice Ac s.cs.length cc, .string K, .int .i64 per, .slice none 0 0] := by rw [hX2]; exact ((xX.set_ 1 _).set_ 2 _).set_ 3 _
  have d1 := xX.cell 1
  have d2 := xX.cell 2
  have d3 := xX.cell 3
  have z1 := xX.frozen 1
  have z2 := xX.frozen 2
  have z3 := xX.frozen 3
  simp only [List.getElem?_toArray, List.getElem?_cons_zero, List.getElem?_cons_succ] at d1 d2 d3
  have HX := Lib.hid hX
  have HX2 := Lib.hid hX2
  have HGB := Lib.hid hgb
  have BX2 := Lib.hid bX2
  have XX2 := Lib.hid xX2
  have HM := Lib.hid hm
  have HF := Lib.hid hF
  clear hF
  have HL := Lib.hid hll
  have HC := Lib.hid h3
  clear hX hX2 hgb bX bX2 xX xX2 hll h1 h4 h5 h6 h7 hok h8 hm h3
  go_enter Tryz.func39, Tryz.ntmps39
  go_upto_region 2 with fail
  rw [← HGB.out]
  rw [HGB.out, ← HX.out, ← HGB.out]
  clear c0 c1 c2 c3
  go_upto_region 3 with fail
  rw [← HX2.out]
  clear d1 d2 d3 z1 z2 z3
  have e0 := XX2.out.cell 0
  have e1 := XX2.out.cell 1
  have e2 := XX2.out.cell 2
  have e3 := XX2.out.cell 3
  simp only [List.getElem?_toArray, List.getElem?_cons_zero, List.getElem?_cons_succ] at e0 e1 e2 e3
  rcases bfifo_cases K with ⟨s0, hn⟩ | ⟨s0, hn⟩
  · have HR := Lib.hid (show linkS s K per = becomeS s ⟨s.cs, K, per, [], s.p⟩ by unfold linkS; rw [if_pos hn])
    have HBC := Lib.hid (become_any F pb s S X2 B hpB (Nat.le_trans hB BX2.out.size) (hS.below (BX2.out.mono hB)) (HM.out.but BX2.out) (fun b h9 => Nat.lt_of_lt_of_le (HF.out b h9) BX2.out.size) Ac none cc 0 s.cs K per [] h2 (HC.out.but (But.of_below BX2.out)) Rd.nil_ (fun _ => NotB.none_ F pb) HL.out (by simp))
    clear hn
    go_wp2_with fail
    refine (HBC.out).mono ?_
    rintro e w3 ⟨t, v, a, rfl, hv, ht, hpm, hbt⟩
    have HV := Lib.hid hv
    have HT := Lib.hid ht
    have HP := Lib.hid hpm
    have HB3 := Lib.hid hbt
    clear hv ht hpm hbt e0 e1 e2 e3 HBC
    go_wp2_with fail
    go_ret2
    rw [HR.out]
    exact ⟨t, v, a, rfl, HV.out, HT.out, HP.out, (But.of_below BX2.out).trans HB3.out⟩
  · have HR := Lib.hid (show linkS s K per = becomeS s ⟨s.cs, K, per, List.replicate 8 1, s.p⟩ by unfold linkS; rw [if_neg hn])
    have z3 := XX2.out.frozen 3
    have kY : Below w.heap.size w (X2.alloc (.cells #[.int .i64 1] 3)) := BX2.out.alloc BX2.out.size _
    have xY : Blk (X2.alloc (.cells #[.int .i64 1] 3)) gb 66 #[.slice Ac s.cs.length cc, .string K, .int .i64 per, .slice none 0 0] := XX2.out.below ((Below.refl _ _).alloc (Nat.le_refl _) _) XX2.out.lt
    have HRP := Lib.hid (repeat_any X2.heap.size (X2.alloc (.cells #[.int .i64 1] 3)) ((Blk.new X2 3 #[.int .i64 1]).cell 0) (by simp))
    have KY := Lib.hid kY
    have XY := Lib.hid xY
    clear hn kY xY
    go_wp2_with fail
    refine (HRP.out).mono ?_
    rintro e w3 ⟨Ar, cr, rfl, or, k3⟩
    have k3' := KY.out.trans (k3.mono KY.out.size)
    have x3 := XY.out.below k3 XY.out.lt
    have y0 := x3.cell 0
    have y1 := x3.cell 1
    have y2 := x3.cell 2
    have y3 := x3.cell 3
    have yz := x3.frozen 3
    simp only [List.getElem?_toArray, List.getElem?_cons_zero, List.getElem?_cons_succ] at y0 y1 y2 y3
    obtain ⟨W4, hW4⟩ : ∃ W4 : World, W4 = w3.setCell ⟨gb, 3, none⟩ (.slice Ar 8 cr) := ⟨_, rfl⟩
    have b4 : Below w.heap.size w W4 := by rw [hW4]; exact k3'.setCell (p := ⟨gb, 3, none⟩) hge _
    have x4 : Blk W4 gb 66 #[.slice Ac s.cs.length cc, .string K, .int .i64 per, .slice Ar 8 cr] := by rw [hW4]; exact x3.set_ 3 _
    have hgbl := XX2.out.lt
    have r4 : RdI W4 W4.heap.size Ar (List.replicate 8 1) := Rd.of_own (show W4.ownsRow _ _ _ _ _ _ by rw [hW4]; exact own_sameG or fun b hb => Below.heap_setCell w3 ⟨gb, 3, none⟩ _ b (fun e => by have h9 : b = gb := e; have := own_ge or b hb; simp at this; omega)) (by omega) iCs_len
    have hpl : pb < w.heap.size := by
      obtain ⟨_, _, _, _, _, _, h9, -⟩ := HM.out
      exact h9.lt
    have nb : NotB F pb Ar := own_notB or (by have := KY.out.size; omega) (fun b h9 => Nat.lt_of_lt_of_le (HF.out b h9) KY.out.size)
    have HBC := Lib.hid (become_any F pb s S W4 B hpB (Nat.le_trans hB b4.size) (hS.below (b4.mono hB)) (HM.out.but b4) (fun b h9 => Nat.lt_of_lt_of_le (HF.out b h9) b4.size) Ac Ar cc cr s.cs K per (List.replicate 8 1) h2 (HC.out.but (But.of_below b4)) r4 (fun _ => nb) HL.out (by simp))
    have HW4 := Lib.hid hW4
    have B4 := Lib.hid b4
    have X4 := Lib.hid x4
    clear or k3 k3' x3 hW4 b4 x4 r4 nb HRP e0 e1 e2 e3 z3
    go_upto_region 5 with fail
    rw [← HW4.out]
    clear y0 y1 y2 y3 yz
    have y0 := X4.out.cell 0
    have y1 := X4.out.cell 1
    have y2 := X4.out.cell 2
    have y3 := X4.out.cell 3
    simp only [List.getElem?_toArray, List.getElem?_cons_zero, List.getElem?_cons_succ] at y0 y1 y2 y3
    go_wp2_with fail
    refine (HBC.out).mono ?_
    rintro e w5 ⟨t, v, a, rfl, hv, ht, hpm, hbt⟩
    have HV := Lib.hid hv
    have HT := Lib.hid ht
    have HP := Lib.hid hpm
    have HB3 := Lib.hid hbt
    clear hv ht hpm hbt y0 y1 y2 y3 HBC
    go_wp2_with fail
    go_ret2
    rw [HR.out]
    exact ⟨t, v, a, rfl, HV.out, HT.out, HP.out, (But.of_below B4.out).trans HB3.out⟩
end
end Go.Proofs.YtoomffajodheaaaGreatDoor
namespace Go.Proofs.YtoomffajodheaaaGreatDoor
open Go.RowKit
set_option maxRecDepth 100000
theorem Sc.ok.pl {s : Sc} (h : s.ok) : s.p.length ≤ 300 := pktErr_len h.2
section
variable (F : Nat → Prop) (pb : Nat) (s : Sc) (S : Nat → Addr) (w : World) (B : Nat) (hpB : B ≤ pb) (hB : B ≤ w.heap.size) (hS : SX w B S) (hm : PMem F w pb s) (hF : ∀ b, F b → b < w.heap.size) (hok : s.ok)
include hpB hB hS hm hF hok
set_option maxHeartbeats 8000000 in
theorem packet_any (A' : Option Addr) (c' : Nat) (n : List Int) (hn3 : n.length = 3) (hr : RdI w w.heap.size A' n) :
    Calls Tryz.prog 69 #[.pointer (some ⟨pb, 0, none⟩), .slice A' n.length c'] w (EndSc F pb S (packetS s n) w) := by
  have hm' := hm
  have hpl := hok.pl
  obtain ⟨Ac, cc, An, cn, Ap, cp, h1, h2, h3, h4, h5, h6, h7⟩ := hm'
  have d4 := h1.cell 4
  simp only [List.getElem?_toArray, List.getElem?_cons_zero, List.getElem?_cons_succ] at d4
  obtain ⟨b, o, rfl, hb, e0⟩ := RdI.get hr (i := 0) (by omega)
  obtain ⟨b9, o9, hA1, -, e1⟩ := RdI.get hr (i := 1) (by omega)
  simp only [Option.some.injEq, Addr.mk.injEq, and_true] at hA1
  obtain ⟨rfl, rfl⟩ := hA1
  obtain ⟨b9, o9, hA1, -, e2⟩ := RdI.get hr (i := 2) (by omega)
  simp only [Option.some.injEq, Addr.mk.injEq, and_true] at hA1
  obtain ⟨rfl, rfl⟩ := hA1
  have g0 : n.getD 0 0 = n[0] := by simp [List.getD, show 0 < n.length by omega]
  have g1 : n.getD 1 0 = n[1] := by simp [List.getD, show 1 < n.length by omega]
  have g2 : n.getD 2 0 = n[2] := by simp [List.getD, show 2 < n.length by omega]
  obtain ⟨x, hx⟩ : ∃ x : Pk, x = ⟨n.getD 0 0, n.getD 1 0, n.getD 2 0⟩ := ⟨_, rfl⟩
  rw [show n[0] = x.f by rw [hx, g0]] at e0
  rw [show n[1] = x.s by rw [hx, g1]] at e1
  rw [show n[2] = x.a by rw [hx, g2]] at e2
  simp only [Nat.add_zero] at e0
  obtain ⟨q, hq⟩ : ∃ q, q = s.p ++ [x] := ⟨_, rfl⟩
  have HPS := Lib.hid (show packetS s n = if (pktErr q).1 = 0 then ((0, okT), { s with p := q }) else (((pktErr q).1, okT), s) by unfold packetS; rw [← hx, ← hq])
  have hql : q.length ≤ 301 := by rw [hq, List.length_append]; simp; omega
  have hpbl := h1.lt
  obtain ⟨i0, hi0, hz0, hz1, hz2⟩ := info_parts infoPk
  have Hq5 := Lib.hid (show ∀ W : World, Below w.heap.size w W → RdP W w.heap.size Ap s.p from fun W hW => Rd.below h6 hW)
  have Hkeep := Lib.hid (show ∀ W : World, Below w.heap.size w W → W.cell? ⟨pb, 4, none⟩ = some (.slice Ap s.p.length cp) ∧ W.cell? ⟨b, o, none⟩ = some (.int .i64 x.f) ∧ W.cell? ⟨b, o + 1, none⟩ = some (.int .i64 x.s) ∧ W.cell? ⟨b, o + 2, none⟩ = some (.int .i64 x.a) from fun W hW => ⟨(hW.cell (p := ⟨pb, 4, none⟩) hpbl).trans d4, (hW.cell (p := ⟨b, o, none⟩) hb).trans e0, (hW.cell (p := ⟨b, o + 1, none⟩) hb).trans e1, (hW.cell (p := ⟨b, o + 2, none⟩) hb).trans e2⟩)
  have HM := Lib.hid hm
  have _hp := hpB
  clear _hp
  have HF := Lib.hid hF
  clear hF
  have Hq := Lib.hid hq
  have q4 : s.p.length ≤ 4294967296 := by omega
  have q5 : s.p.length + 1 ≤ maxLen := by simp only [maxLen]; omega
  have q6 : (s.p.length + 1) * 24 ≤ 140737488355328 := by omega
  have three_pos : 0 < 3 := by omega
  rw [hn3]
  clear h1 h2 h3 h4 h5 h6 h7 g0 g1 g2 hx hq hn3 hr hm hok
  go_enter Tryz.func69, Tryz.ntmps69
  go_wp2_with fail
  go_region_held3 (fun w' => w'.cell? ⟨pb, 4, none⟩ = some (.slice Ap s.p.length cp) ∧ w'.cell? ⟨b, o, none⟩ = some (.int .i64 x.f) ∧ w'.cell? ⟨b, o + 1, none⟩ = some (.int .i64 x.s) ∧ w'.cell? ⟨b, o + 2, none⟩ = some (.int .i64 x.a))
    (first
      | go_keep
      | exact Hkeep.out _ K9
      | exact Hkeep.out _ K10)
    (first
     | (go_at_call 96; (with_reducible show Calls _ _ _ w.drew _); refine (clonePk_any Ap cp s.p w.drew w.heap.size (Nat.le_refl _) (Hq5.out w.drew ((Below.refl _ _).drew)) q4).mono ?_; rintro e w9 ⟨A9, c9, rfl, o9, k9⟩; have K9 := bel0 k9)
     | (go_at_call 96; (with_reducible show Calls _ _ _ (w.alloc _).drew _); refine (clonePk_any Ap cp s.p (World.drew (w.alloc _)) w.heap.size (bel_a _).size (Hq5.out _ ((bel_a _).drew)) q4).mono ?_; rintro e w9 ⟨A9, c9, rfl, o9, k9⟩; have K9 := bel1 k9)
     | ((with_reducible show (if _ then Oper.wp _ _ _ (w9.alloc (.cells #[.int .i64 x.f, .int .i64 x.s, .int .i64 x.a] 53)) _ _ else _)); have _t := bel0 k9; refine step_append_rd (w9.alloc (.cells #[.int .i64 x.f, .int .i64 x.s, .int .i64 x.a] 53)) Pk.cs (by rfl) (.tmp 12) (.tmp 23) 46 (by rfl) _ 53 i0 (.agg #[.int .i64 0, .int .i64 0, .int .i64 0]) 3 24 Tryz.underlying46 hi0 hz0 hz1 hz2 (by rfl) three_pos Pk.cs_len Pk.cs_one (.slice A9 s.p.length c9) s.p.length (s.p.flatMap Pk.cs) (by rfl) (o9.alloc _) _ (some ⟨w9.heap.size, 0, none⟩) 1 [x] (by rfl) (RdP.new_ x) q5 q6 (le_alloc k9.size _) ?_; intro v10 w10 o10 g10 h10; have K10 : Below w.heap.size w w10 := below_app (K9.alloc K9.size _) (o9.alloc _) g10 (Nat.le_refl _) (le_alloc K9.size _); obtain ⟨A10, c10, hv10, o10⟩ := own_app o10 three_pos; rw [← Hq.out] at hv10 o10; rw [hv10]; clear hv10)
     | ((with_reducible show (if _ then Oper.wp _ _ _ w9 _ _ else _)); have _t : Below (w.heap.size + 1) (w.alloc (.cells #[.int .i64 x.f, .int .i64 x.s, .int .i64 x.a] 53)) w9 := below_size1 k9; refine step_append_rd w9 Pk.cs (by rfl) (.tmp 12) (.tmp 23) 46 (by rfl) _ 53 i0 (.agg #[.int .i64 0, .int .i64 0, .int .i64 0]) 3 24 Tryz.underlying46 hi0 hz0 hz1 hz2 (by rfl) three_pos Pk.cs_len Pk.cs_one (.slice A9 s.p.length c9) s.p.length (s.p.flatMap Pk.cs) (by rfl) o9 _ (some ⟨w.heap.size, 0, none⟩) 1 [x] (by rfl) ((RdP.new_ x).below _t) q5 q6 k9.size ?_; intro v10 w10 o10 g10 h10; have K10 : Below w.heap.size w w10 := below_app K9 o9 g10 (Nat.le_of_lt (lt_size1 _ _)) K9.size; obtain ⟨A10, c10, hv10, o10⟩ := own_app o10 three_pos; rw [← Hq.out] at hv10 o10; rw [hv10]; clear hv10)
     | fail "no arm")
  all_goals
    have RQ := RdP.of_own o10
    have NB : NotB F pb A10 := own_notB o10 (by first | exact hpbl | exact Nat.lt_of_lt_of_le hpbl (le_alloc (Nat.le_refl _) _)) (fun b h9 => by have := HF.out b h9; first | exact this | exact Nat.lt_of_lt_of_le this (le_alloc (Nat.le_refl _) _))
    have SN : Snt w10 w10.heap.size S [2, 5] := ((hS.gs.s.below (K10.mono hB)).more (Nat.le_trans hB K10.size)).sub (by simp)
    have HCK := Lib.hid (pcheck_any A10 c10 q S w10 w10.heap.size (Nat.le_refl _) RQ SN (by omega))
    have KK := Lib.hid K10
    have HRQ := Lib.hid RQ
    clear K10 RQ SN o10 o9 k9 K9 _t g10 h10 d4 e0 e1 e2
    go_wp2_with fail
    refine (HCK.out).mono ?_
    rintro e w11 ⟨v, rfl, hv, k11⟩
    have k11' := KK.out.trans (k11.mono KK.out.size)
    by_cases hg : (pktErr q).1 = 0
    · obtain rfl := hv.nil_of hg
      have HR := Lib.hid (show packetS s n = ((0, okT), { s with p := q }) by rw [HPS.out, if_pos hg])
      obtain ⟨Ac1, cc1, An1, cn1, Ap1, cp1, h1, h2, h3, h4, h5, h6, h7⟩ := HM.out.but k11'
      have d4 := h1.cell 4
      have z4 := h1.frozen 4
      simp only [List.getElem?_toArray, List.getElem?_cons_zero, List.getElem?_cons_succ] at d4
      have hb1 : But pb w11 (w11.setCell ⟨pb, 4, none⟩ (.slice A10 q.length c10)) := But.set1 w11 4 _
      have hb2 : But pb w (w11.setCell ⟨pb, 4, none⟩ (.slice A10 q.length c10)) := (But.of_below (g := pb) k11').trans hb1
      have HPM := Lib.hid (show PMem F (w11.setCell ⟨pb, 4, none⟩ (.slice A10 q.length c10)) pb { s with p := q } from ⟨Ac1, cc1, An1, cn1, A10, c10, h1.set_ 4 _, h2, h3.but hb1, Rd.but h4 hb1 h5, h5, Rd.but (HRQ.out.below k11 |>.more k11.size) hb1 (fun _ => NB), fun _ => NB⟩)
      have HB2 := Lib.hid hb2
      clear hv k11 k11' h1 h2 h3 h4 h5 h6 h7 hb1 hb2 HCK hg
      go_wp2_with fail
      refine (ok_any _ _).mono ?_
      rintro e w3 ⟨rfl, rfl⟩
      clear d4 z4
      go_wp2_with fail
      go_ret2
      rw [HR.out]
      exact ⟨okT, .nilIface, -1, rfl, .nil, fun _ => rfl, HPM.out, HB2.out⟩
    · have HR := Lib.hid (show packetS s n = (((pktErr q).1, okT), s) by rw [HPS.out, if_neg hg])
      have HG := Lib.hid hg
      have HV := Lib.hid hv
      obtain ⟨T, ad, rfl⟩ := hv.some_of hg
      have K1 := Lib.hid k11'
      clear hv k11 k11' HCK hg
      go_wp2_with fail
      refine (ok_any _ _).mono ?_
      rintro e w3 ⟨rfl, rfl⟩
      go_wp2_with fail
      go_ret2
      rw [HR.out]
      exact ⟨okT, _, _, rfl, HV.out, fun h9 => absurd h9 HG.out, HM.out.but K1.out, But.of_below K1.out⟩
end
end Go.Proofs.YtoomffajodheaaaGreatDoor
namespace Go.Proofs.YtoomffajodheaaaGreatDoor
open Go.RowKit
set_option maxRecDepth 100000
theorem atVal_lt (l : List Ln) (t : Int) : 0 ≤ atVal l t ∧ atVal l t ≤ 109951162797600 := by
  unfold atVal
  split
  · rename_i h
    unfold atErr at h
    split at h
    · rename_i h1; exact absurd h h1
    · rename_i h1
      split at h
      · cases h
      · rename_i h2
        obtain ⟨h3, h4, h5, -⟩ := crvErr_ok (Classical.byContradiction h1)
        have := valueL_pos h3 h5 (show 0 ≤ t by omega)
        exact ⟨by omega, valueL_top h3 h5 (by omega) (by omega)⟩
  · exact ⟨by omega, by omega⟩
section
variable (F : Nat → Prop) (pb : Nat) (s : Sc) (S : Nat → Addr) (w : World) (B : Nat) (hpB : B ≤ pb) (hB : B ≤ w.heap.size) (hS : SX w B S) (hm : PMem F w pb s) (hF : ∀ b, F b → b < w.heap.size) (hok : s.ok)
include hpB hB hS hm hF hok
set_option maxHeartbeats 4000000 in
theorem pat_any (A' : Option Addr) (c' : Nat) (n : List Int) (hn2 : n.length = 2) (hn0 : 0 ≤ n.getD 0 0) (hr : RdI w w.heap.size A' n) :
    Calls Tryz.prog 70 #[.pointer (some ⟨pb, 0, none⟩), .slice A' n.length c'] w (EndSc F pb S (atTS s n) w) := by
  obtain ⟨h8, hll⟩ := hok.ll
  have hm' := hm
  obtain ⟨Ac, cc, An, cn, Ap, cp, h1, h2, h3, h4, h5, h6, h7⟩ := hm'
  have d0 := h1.cell 0
  simp only [List.getElem?_toArray, List.getElem?_cons_zero, List.getElem?_cons_succ] at d0
  obtain ⟨b, o, rfl, hb, e0⟩ := RdI.get hr (i := 0) (by omega)
  obtain ⟨b9, o9, hA1, -, e1⟩ := RdI.get hr (i := 1) (by omega)
  simp only [Option.some.injEq, Addr.mk.injEq, and_true] at hA1
  obtain ⟨rfl, rfl⟩ := hA1
  have g0 : n.getD 0 0 = n[0] := by simp [List.getD, show 0 < n.length by omega]
  have g1 : n.getD 1 0 = n[1] := by simp [List.getD, show 1 < n.length by omega]
  obtain ⟨y, hy⟩ : ∃ y, y = n.getD 0 0 := ⟨_, rfl⟩
  obtain ⟨t, ht⟩ : ∃ t, t = n.getD 1 0 := ⟨_, rfl⟩
  rw [show n[0] = y by rw [hy, g0]] at e0
  rw [show n[1] = t by rw [ht, g1]] at e1
  simp only [Nat.add_zero] at e0
  have HPS := Lib.hid (show atTS s n = if 8 ≤ y then ((1, okT), s) else (((atErr (s.cs.getD y.toNat []) t).1, itT (atVal (s.cs.getD y.toNat []) t)), s) by unfold atTS; rw [← hy, ← ht])
  have y0 : 0 ≤ y := by rw [hy]; exact hn0
  have HM := Lib.hid hm
  have _hp := hpB
  clear _hp
  have HF := Lib.hid hF
  clear hF
  rw [hn2]
  by_cases hy8 : 8 ≤ y
  · have HR := Lib.hid (show atTS s n = ((1, okT), s) by rw [HPS.out, if_pos hy8])
    have s1 := (hS.s1 1 (by simp)).2.2
    simp only [G, sv] at s1
    clear hll h1 h2 h3 h4 h5 h6 h7 g0 g1 hy ht hr hm hok h8 e1 d0
    go_enter Tryz.func70, Tryz.ntmps70
    go_wp2_with fail
    go_region
    all_goals
      go_wp2_with fail
      go_ret2
      rw [HR.out]
      exact ⟨_, _, _, rfl, .bare 1 (by omega) (by omega), fun h9 => absurd h9 (by simp), HM.out.but ((Below.refl _ _).drew), But.of_below ((Below.refl _ _).drew)⟩
  · obtain ⟨k, rfl⟩ := Int.eq_ofNat_of_zero_le y0
    have hk8 : k < s.cs.length := by omega
    have HR := Lib.hid (show atTS s n = (((atErr s.cs[k] t).1, itT (atVal s.cs[k] t)), s) by
      rw [HPS.out, if_neg hy8, Int.toNat_natCast, show s.cs.getD k [] = s.cs[k] by simp [List.getD, hk8]])
    obtain ⟨v0, v1⟩ := atVal_lt s.cs[k] t
    obtain ⟨bc, oc, a, c, rfl, hbc, f0, f1, f2⟩ := h3.2 k hk8
    obtain ⟨l, hl⟩ : ∃ l, l = s.cs[k] := ⟨_, rfl⟩
    rw [← hl] at HR v0 v1 f0 f1
    have hll2 := hll l (by rw [hl]; exact List.getElem_mem hk8)
    have HAT := Lib.hid (fun W (hb : Below w.heap.size w W) => at_any a c l t S W w.heap.size hb.size (Rd.below f1 hb) (((hS.gs.s.below (hb.mono hB)).more hB).sub (by simp)) hll2)
    have hcl : (k : Int) < 8 := by omega
    rw [h8] at d0
    have hpbl := h1.lt
    have Hkeep := Lib.hid (show ∀ W : World, Below w.heap.size w W → W.cell? ⟨pb, 0, none⟩ = some (.slice (some ⟨bc, oc, none⟩) 8 cc) ∧ W.cell? ⟨b, o, none⟩ = some (.int .i64 (k : Int)) ∧ W.cell? ⟨b, o + 1, none⟩ = some (.int .i64 t) ∧ W.cell? ⟨bc, oc + k, none⟩ = some (.slice a l.length c) from fun W hW => ⟨(hW.cell (p := ⟨pb, 0, none⟩) hpbl).trans d0, (hW.cell (p := ⟨b, o, none⟩) hb).trans e0, (hW.cell (p := ⟨b, o + 1, none⟩) hb).trans e1, (hW.cell (p := ⟨bc, oc + k, none⟩) hbc).trans f0⟩)
    clear hll h1 h2 h3 h4 h5 h6 h7 g0 g1 hy ht hr hm hok f1 f2 hl hll2
    go_enter Tryz.func70, Tryz.ntmps70
    go_wp2_with fail
    go_region_held3 (fun w' => w'.cell? ⟨pb, 0, none⟩ = some (.slice (some ⟨bc, oc, none⟩) 8 cc) ∧ w'.cell? ⟨b, o, none⟩ = some (.int .i64 (k : Int)) ∧ w'.cell? ⟨b, o + 1, none⟩ = some (.int .i64 t) ∧ w'.cell? ⟨bc, oc + k, none⟩ = some (.slice a l.length c))
      (first
        | go_keep
        | exact Hkeep.out _ K9)
      (first
       | (go_at_call 98; refine (HAT.out w.drew ((Below.refl _ _).drew)).mono ?_; rintro e w9 ⟨v9, rfl, e9, k9⟩; have K9 : Below w.heap.size w w9 := ((Below.refl _ _).drew).trans k9)
       | fail "no arm")
    all_goals
      clear d0 e0 e1 f0
      go_wp2_with fail
      refine (Tryz.strconv_Itoa (atVal l t) (by omega) (by omega) w9 (hS.below (K9.mono hB)).tab).mono ?_
      rintro e w2 ⟨rfl, k2, os, rfl⟩
      go_wp2_with fail
      go_ret2
      rw [HR.out]
      have KS := below_growS w9 k2 os
      exact ⟨_, _, _, rfl, (e9.below KS).more KS.size, fun h9 => rfl, HM.out.but (K9.trans (KS.mono K9.size)), But.of_below (K9.trans (KS.mono K9.size))⟩
end
end Go.Proofs.YtoomffajodheaaaGreatDoor
