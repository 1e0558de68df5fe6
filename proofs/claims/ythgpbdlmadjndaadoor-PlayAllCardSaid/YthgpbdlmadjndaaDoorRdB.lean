/- Package round's numbers of flows: eight, each from 1 to 3000. Condition: the sentinels that it names lie in their variables. Package round: its picker, and Run. Conditions: the sentinels that it names lie in their variables. -/
import Derived.Test.YthgpbdlmadjndaaDoorRkA
import Derived.Test.YthgpbdlmadjndaaDoorRdPl
import Derived.Test.YthgpbdlmadjndaaDoorRPick
import Derived.Test.YthgpbdlmadjndaaDoorRkB
namespace Go.Proofs.YthgpbdlmadjndaaDoor
open Go.RowKit
set_option maxRecDepth 100000
def outQ (n : Int) : Bool := decide (n < 1 ∨ 3000 < n)
theorem qnum1_any (n : Int) (w : World) :
    Calls Tryd.prog 75 #[.int .i64 n] w fun e w' => e = .returned (.bool (outQ n)) ∧ w = w' := by
  by_cases h0 : n < 1
  · go_enter Tryd.func75, Tryd.ntmps75
    go_wp2
    go_ret
    exact ⟨ret_bool (by symm; exact decide_eq_true (.inl h0)), rfl⟩
  · have h1 : 1 ≤ n := by omega
    have He := Lib.hid (show outQ n = decide (3000 < n) from decide_eq_decide.2 (by omega))
    clear h0
    go_enter Tryd.func75, Tryd.ntmps75
    go_wp2
    go_ret
    exact ⟨ret_bool (by rw [He.out]; first | rfl | (simp; omega)), rfl⟩
/-- The place of the first number out of bounds; -1: none. -/
def qIdx : List Int → Nat → Int
  | [], _ => -1
  | n :: r, k => if outQ n then k else qIdx r (k + 1)
theorem qIdx_none {l : List Int} {k : Nat} (h : ¬ 0 ≤ qIdx l k) : ∀ n ∈ l, 1 ≤ n ∧ n ≤ 3000 := by
  induction l generalizing k with
  | nil => simp
  | cons x r ih =>
    unfold qIdx at h
    split at h
    · exact absurd (Int.natCast_nonneg k) h
    · rename_i h1
      intro n hn
      rcases List.mem_cons.1 hn with rfl | hn
      · simp only [outQ, decide_eq_true_eq] at h1; omega
      · exact ih h n hn
theorem qIdx_ge (l : List Int) (k : Nat) : qIdx l k = -1 ∨ (k : Int) ≤ qIdx l k := by
  induction l generalizing k with
  | nil => exact .inl rfl
  | cons n r ih =>
    unfold qIdx
    split
    · exact .inr (Int.le_refl _)
    · rcases ih (k + 1) with h | h
      · exact .inl h
      · exact .inr (by omega)
theorem qidx_any (A : Option Addr) (c : Nat) (l : List Int) (w : World) (B : Nat) (h : RdI w B A l) (hl : l.length ≤ 9223372036854775807) :
    Calls Tryd.prog 94 #[.slice A l.length c, .func (.func 75) #[] #[]] w fun e w' => e = .returned (.int .i64 (qIdx l 0)) ∧ w = w' := by
  go_enter Tryd.func94, Tryd.ntmps94
  go_wp2
  go_loopw [5, 8] (fun _ i wr => ∃ k : Nat, k ≤ l.length ∧ i = .int .i64 k ∧ qIdx l 0 = qIdx (l.drop k) k ∧ w = wr) (fun _ i _ => l.length - (intOf i).toNat)
  case atStart => exact ⟨0, Nat.zero_le _, rfl, rfl, rfl⟩
  case round =>
    obtain ⟨k, hk, rfl, hbad, rfl⟩ := hrel
    by_cases hlt : k < l.length
    · obtain ⟨q, o, rfl, hq, h0⟩ := RdI.get h hlt
      rw [List.drop_eq_getElem_cons hlt] at hbad
      have Hbad := Lib.hid hbad
      clear hbad
      go_wp2_with fail
      refine (qnum1_any _ _).mono ?_
      rintro e w1 ⟨rfl, rfl⟩
      cases hx : outQ l[k]
      · have Hx := Lib.hid hx; clear hx
        go_wp2_with fail
        go_roundw
        case rel => exact ⟨k + 1, by omega, by go_num, by rw [Hbad.out]; simp [qIdx, Hx.out], by trivial⟩
        case measure => simp [intOf]; omega
      · have Hx := Lib.hid hx; clear hx
        go_wp2_with fail
        go_ret
        exact ⟨ret_int (by rw [Hbad.out]; simp [qIdx, Hx.out]), rfl⟩
    · rw [List.drop_eq_nil_of_le (by omega)] at hbad
      have Hbad := Lib.hid hbad
      clear hbad
      go_wp2_with fail
      go_ret
      exact ⟨ret_int (by rw [Hbad.out]; rfl), rfl⟩
theorem qcontains_any (A : Option Addr) (c : Nat) (l : List Int) (w : World) (B : Nat) (h : RdI w B A l) (hl : l.length ≤ 9223372036854775807) :
    Calls Tryd.prog 70 #[.slice A l.length c, .func (.func 75) #[] #[]] w fun e w' => e = .returned (.bool (decide (0 ≤ qIdx l 0))) ∧ w = w' := by
  go_enter Tryd.func70, Tryd.ntmps70
  go_wp2_with fail
  refine (qidx_any A c l w B h hl).mono ?_
  rintro e w1 ⟨rfl, rfl⟩
  go_wp2_with fail
  go_ret
  exact ⟨rfl, rfl⟩
/-- The number of the error of flows' numbers. -/
def quErr (l : List Int) : Nat := if l.length = 8 then (if 0 ≤ qIdx l 0 then 2 else 0) else 3
theorem qnumbers_any (A : Option Addr) (c : Nat) (l : List Int) (S : Nat → Addr) (w : World) (B : Nat) (hB : B ≤ w.heap.size) (h : RdI w B A l) (hS : Snt w B S [2, 3]) (hl : l.length ≤ 9223372036854775807) :
    Calls Tryd.prog 54 #[.slice A l.length c] w (EndEr S (quErr l) (-1) w) := by
  have ba := Below.refl w.heap.size w
  have g2 : w.cell? ⟨G 2, 0, none⟩ = some (sv S 2) := ((hS.below (ba.mono hB)) 2 (by simp)).2.2
  have g3 : w.cell? ⟨G 3, 0, none⟩ = some (sv S 3) := ((hS.below (ba.mono hB)) 3 (by simp)).2.2
  have l2 := (hS 2 (by simp)).1
  have l3 := (hS 3 (by simp)).1
  simp only [G, sv] at g2 g3 l2 l3
  by_cases h8 : l.length = 8
  · have hb1 : ((l.length : Int) != 8) = false := by rw [h8]; rfl
    by_cases ho : 0 ≤ qIdx l 0
    · have Hf := Lib.hid (show quErr l = 2 by unfold quErr; rw [if_pos h8, if_pos ho])
      have Ho := Lib.hid (show decide (0 ≤ qIdx l 0) = true from decide_eq_true ho)
      clear h8 ho
      go_enter Tryd.func54, Tryd.ntmps54
      go_wp2_with fail
      refine (qcontains_any A c l _ B h hl).mono ?_
      rintro e w1 ⟨rfl, rfl⟩
      rw [Ho.out]
      go_wp2_with fail
      go_ret
      rw [Hf.out]
      exact ⟨_, rfl, .bare 2 (by omega) (by omega), ba⟩
    · have Hf := Lib.hid (show quErr l = 0 by unfold quErr; rw [if_pos h8, if_neg ho])
      have Ho := Lib.hid (show decide (0 ≤ qIdx l 0) = false from decide_eq_false ho)
      clear h8 ho
      go_enter Tryd.func54, Tryd.ntmps54
      go_wp2_with fail
      refine (qcontains_any A c l _ B h hl).mono ?_
      rintro e w1 ⟨rfl, rfl⟩
      rw [Ho.out]
      go_wp2_with fail
      go_ret
      rw [Hf.out]
      exact ⟨_, rfl, .nil, ba⟩
  · have hb1 : ((l.length : Int) != 8) = true := by simp; omega
    have Hf := Lib.hid (show quErr l = 3 from if_neg h8)
    clear h8
    go_enter Tryd.func54, Tryd.ntmps54
    go_wp2_with fail
    go_ret
    rw [Hf.out]
    exact ⟨_, rfl, .bare 3 (by omega) (by omega), ba⟩
end Go.Proofs.YthgpbdlmadjndaaDoor
namespace Go.Proofs.YthgpbdlmadjndaaDoor
open Go.RowKit
set_option maxRecDepth 100000
def roundR (g : Nat) : Value := .agg #[.func (.func 55) #[.pointer (some ⟨g, 0, none⟩)] #[], .func (.func 56) #[.pointer (some ⟨g, 0, none⟩)] #[], .nilFunc]
structure RoundMem (p : List Pk) (qs : List Int) (A A' : Option Addr) (c c' B g : Nat) (w0 w : World) (own : Nat → Prop) (s : RS) : Prop where
  bel : Below B w0 w
  tm : ∃ cs qv rv, TMem B g (.slice A p.length c) (.slice A' qs.length c') w own s cs qv rv
set_option maxHeartbeats 1000000 in
theorem rpick_none (B g m : Nat) (vp vq : Value) (p : List Pk) (qs : List Int) (w : World) (own : Nat → Prop) (s : RS) (cs : Array Value) (qv : Nat → Value) (rv : Value) (h : TMem B g vp vq w own s cs qv rv) (hs : lst s = []) :
    Calls Tryd.prog 56 #[.pointer (some ⟨g, 0, none⟩)] w fun e w' => e = .returned (.tuple #[.int .i64 0, .bool false]) ∧ w = w' := by
  obtain ⟨hsv, hrow⟩ : s.sv = none ∧ s.row = [] := by
    unfold lst at hs
    cases hv : s.sv with
    | none => rw [hv] at hs; exact ⟨rfl, hs⟩
    | some g => rw [hv] at hs; cases hs
  have hr := h.r
  rw [hrow] at hr
  obtain ⟨A, c, hv⟩ := hr.slice
  have hv : rv = .slice A 0 c := hv
  have e19 : w.cell? ⟨g, 19, none⟩ = some (.int .i64 (-1)) := ((h.at_ 19).trans h.cv).trans (by rw [hsv]; rfl)
  have e18 : w.cell? ⟨g, 18, none⟩ = some (.slice A 0 c) := ((h.at_ 18).trans h.cr).trans (by rw [hv])
  clear h hs hsv hrow hr hv
  go_enter Tryd.func56, Tryd.ntmps56
  go_wp2
  go_loopg [4] 1 (fun n fv wr => w = wr)
  case atStart => trivial
  case round =>
    subst hrel
    go_wp2_with fail
    go_ret2
    exact ⟨rfl, rfl⟩
def ruleB (g : Nat) : Obj := .cells #[.func (.func 55) #[.pointer (some ⟨g, 0, none⟩)] #[], .func (.func 56) #[.pointer (some ⟨g, 0, none⟩)] #[], .nilFunc] 101
theorem roundPicker (w0 : World) (B g : Nat) (A A' : Option Addr) (c c' : Nat) (p : List Pk) (qs : List Int) (hp : RdP w0 B A p) (hq : RdI w0 B A' qs) (hpk : ∀ x ∈ p, okPk x) (hql : qs.length = 8) (hq1 : ∀ g, g < 8 → 1 ≤ qu qs g ∧ qu qs g ≤ 3000) (hpl : p.length ≤ 300) :
    Picker (roundR g) (roundM p qs) p.length B (RoundMem p qs A A' c c' B g w0) where
  own_ := fun {w own s} h b hb => by
    obtain ⟨cs, qv, rv, h⟩ := h.tm
    exact h.own_lt hb
  stay := fun {w w' own s} h hs hb => by
    obtain ⟨hb0, cs, qv, rv, h⟩ := h
    exact ⟨hb0.trans hb, cs, qv, rv, h.same hs⟩
  come := fun {w own s} k h hok hkn => by
    obtain ⟨hb0, cs, qv, rv, h⟩ := h
    have hB := h.size_
    have kk := keepsAlloc (keepsRefl B own w) hB (ruleB g)
    have hl := rlst_len hpk hok
    have hrl : s.row.length ≤ 900 := by
      unfold lst at hl
      cases hv : s.sv with
      | none => rw [hv] at hl; simp only at hl; omega
      | some g => rw [hv] at hl; simp only [List.length_cons] at hl; omega
    unfold roundR
    go_enter Tryd.func132, Tryd.ntmps132
    go_wp2_with fail
    refine (rcome_any B g k A A' c c' p qs _ own s cs qv rv (h.alloc (ruleB g)) (hp.below (hb0.trans kk.1)) hpk hkn (fun f _ => by have := rq_len hok hpl f; omega) hrl).mono ?_
    rintro e w1 ⟨rfl, own', cs', qv', rv', h', k'⟩
    go_wp2_with fail
    go_end0
    have kk := keeps_trans kk k'
    exact ⟨rfl, own', ⟨hb0.trans kk.1, cs', qv', rv', h'⟩, kk⟩
  none_ := fun {w own s m} h hok hk => by
    obtain ⟨hb0, cs, qv, rv, h⟩ := h
    have hB := h.size_
    have hq0 : ∀ g, 0 ≤ qu qs g := fun g => by
      by_cases h8 : g < 8
      · have := (hq1 g h8).1; omega
      · have : qu qs g = 0 := by unfold qu; simp [List.getD, show ¬ g < qs.length by omega]
        omega
    have hl := rPick_none hpk hq0 (fun g hg => (hq1 g hg).1) _ s m hok (Nat.le_refl _) hk
    clear hk hok
    have kk := keepsAlloc (keepsRefl B own w) hB (ruleB g)
    unfold roundR
    go_enter Tryd.func133, Tryd.ntmps133
    go_wp2_with fail
    refine (rpick_none B g m _ _ p qs _ own s cs qv rv (h.alloc (ruleB g)) hl).mono ?_
    rintro e w1 ⟨rfl, rfl⟩
    go_wp2_with fail
    go_ret2
    exact ⟨rfl, own, ⟨hb0.trans kk.1, cs, qv, rv, h.alloc _⟩, kk⟩
  some_ := fun {w own s m} k s' h hok hk => by
    obtain ⟨hb0, cs, qv, rv, h⟩ := h
    have hB := h.size_
    have kk := keepsAlloc (keepsRefl B own w) hB (ruleB g)
    have Hk := Lib.hid (show rPick p qs (rMu s) s = some (k, s') from hk)
    clear hk
    unfold roundR
    go_enter Tryd.func133, Tryd.ntmps133
    go_wp2_with fail
    refine (rpick_some B g m k A A' c c' p qs _ own s s' cs qv rv (h.alloc (ruleB g)) (hp.below (hb0.trans kk.1)) (hq.below (hb0.trans kk.1)) hpk hql hq1 hpl hok Hk.out).mono ?_
    rintro e w1 ⟨rfl, own', cs', qv', rv', h', k'⟩
    go_wp2_with fail
    go_ret2
    have kk := keeps_trans kk k'
    exact ⟨rfl, own', ⟨hb0.trans kk.1, cs', qv', rv', h'⟩, kk⟩
  rest := fun {w own s m} h hok hw => by
    obtain ⟨hb0, cs, qv, rv, h⟩ := h
    have hB := h.size_
    have f1 := nilFunc_neq
    have kk := keepsAlloc (keepsRefl B own w) hB (ruleB g)
    unfold roundR
    go_enter Tryd.func134, Tryd.ntmps134
    go_wp2_with fail
    go_end0
    exact ⟨rfl, own, ⟨hb0.trans kk.1, cs, qv, rv, h.alloc _⟩, kk⟩
/-- The error of a link by rounds. -/
def roundErr (p : List Pk) (per : Int) (l : List Int) : Nat × Int := if (lookErr p per).1 = 0 then (quErr l, -1) else lookErr p per
theorem roundErr_ok {p : List Pk} {per : Int} {l : List Int} (h : (roundErr p per l).1 = 0) : (lookErr p per).1 = 0 ∧ quErr l = 0 ∧ l.length = 8 ∧ (∀ n ∈ l, 1 ≤ n ∧ n ≤ 3000) ∧ roundErr p per l = (0, -1) := by
  unfold roundErr at h ⊢
  by_cases h1 : (lookErr p per).1 = 0
  · rw [if_pos h1] at h ⊢
    have h' := h
    unfold quErr at h
    by_cases h8 : l.length = 8
    · rw [if_pos h8] at h
      by_cases ho : 0 ≤ qIdx l 0
      · rw [if_pos ho] at h; simp at h
      · exact ⟨h1, h', h8, qIdx_none ho, by rw [show quErr l = 0 from h']⟩
    · rw [if_neg h8] at h; simp at h
  · rw [if_neg h1] at h; exact absurd h h1
theorem qu_bd {l : List Int} (h8 : l.length = 8) (h : ∀ n ∈ l, 1 ≤ n ∧ n ≤ 3000) : ∀ g, g < 8 → 1 ≤ qu l g ∧ qu l g ≤ 3000 := fun g hg => by
  unfold qu
  have hgl : g < l.length := by omega
  simp only [List.getD, List.getElem?_eq_getElem hgl, Option.getD_some]
  exact h _ (List.getElem_mem hgl)
def turnsB (vp vq : Value) : Array Value := #[vp, vq, .slice none 0 0, .slice none 0 0, .slice none 0 0, .slice none 0 0, .slice none 0 0, .slice none 0 0, .slice none 0 0, .slice none 0 0, .int .i64 0, .int .i64 0, .int .i64 0, .int .i64 0, .int .i64 0, .int .i64 0, .int .i64 0, .int .i64 0, .slice none 0 0, .int .i64 (-1)]
theorem lt8 {P : Nat → Prop} (h0 : P 0) (h1 : P 1) (h2 : P 2) (h3 : P 3) (h4 : P 4) (h5 : P 5) (h6 : P 6) (h7 : P 7) (f : Nat) (hf : f < 8) : P f := by
  have h : f = 0 ∨ f = 1 ∨ f = 2 ∨ f = 3 ∨ f = 4 ∨ f = 5 ∨ f = 6 ∨ f = 7 := by omega
  rcases h with rfl | rfl | rfl | rfl | rfl | rfl | rfl | rfl <;> assumption
theorem turns_new (B : Nat) (vp vq : Value) (w : World) (hB : B ≤ w.heap.size) : TMem B w.heap.size vp vq (w.alloc (.cells (turnsB vp vq) 110)) (fun b => b = w.heap.size) rs0 (turnsB vp vq) (fun _ => .slice none 0 0) (.slice none 0 0) where
  blk := Blk.new _ _ _
  size := rfl
  c0 := rfl
  c1 := rfl
  cq := lt8 rfl rfl rfl rfl rfl rfl rfl rfl
  cc := lt8 rfl rfl rfl rfl rfl rfl rfl rfl
  cr := rfl
  cv := rfl
  q := fun _ _ => MRow.nil_ _ _ _
  r := MRow.nil_ _ _ _
  hB := hB
  gq := fun _ _ => by simp [Value.ownBlock]
  gr := by simp [Value.ownBlock]
  qr := fun _ _ _ h => by simp [Value.ownBlock] at h
  qq := fun _ _ _ _ _ _ h => by simp [Value.ownBlock] at h
  o := fun b => ⟨fun h => .inl h, fun h => by
    rcases h with h | h | ⟨f, _, h⟩
    · exact h
    · simp [Value.ownBlock] at h
    · simp [Value.ownBlock] at h⟩
set_option maxHeartbeats 1000000 in
theorem roundRun_ok (A A' : Option Addr) (c c' : Nat) (p : List Pk) (per : Int) (qs : List Int) (S : Nat → Addr) (w : World) (B : Nat) (hB : B ≤ w.heap.size) (h : RdP w B A p) (h' : RdI w B A' qs) (hS : Snt w B S [2, 3, 5]) (hl : p.length ≤ 9223372036854775807) (hl' : qs.length ≤ 9223372036854775807) (hok : (roundErr p per qs).1 = 0) :
    Calls Tryd.prog 29 #[.slice A p.length c, .int .i64 per, .slice A' qs.length c'] w (EndOwnEr Sn.cs 3 44 (roundL p per qs) S (roundErr p per qs).1 (roundErr p per qs).2 w) := by
  obtain ⟨e1, e2, h8, hn, e3⟩ := roundErr_ok hok
  obtain ⟨hf, h300, hpk, h0, h1⟩ := lookErr_ok e1
  have hq1 := qu_bd h8 hn
  have hq0 : ∀ g, 0 ≤ qu qs g := fun g => by
    by_cases h9 : g < 8
    · have := (hq1 g h9).1; omega
    · have : qu qs g = 0 := by unfold qu; simp [List.getD, show ¬ g < qs.length by omega]
      omega
  have Hf := Lib.hid hf
  have Hn := Lib.hid e2
  have He := Lib.hid e3
  have H8 := Lib.hid h8
  clear hf hok e1 e2 e3 h8
  go_enter Tryd.func29, Tryd.ntmps29
  go_wp2_with fail
  refine (look_any A c p per S w B hB h (hS.sub (by simp)) hl).mono ?_
  rintro e w1 ⟨v, rfl, hv, hb1⟩
  obtain rfl := hv.nil_of (by rw [Hf.out])
  go_wp2_with fail
  refine (qnumbers_any A' c' qs S w1 B (Nat.le_trans hB hb1.size) (h'.below (hb1.mono hB)) ((hS.below (hb1.mono hB)).sub (by simp)) hl').mono ?_
  rintro e w2 ⟨v, rfl, hv, hb2⟩
  obtain rfl := hv.nil_of Hn.out
  have k2 : Below w.heap.size w w2 := hb1.trans (hb2.mono hb1.size)
  have z2 := k2.size
  go_wp2_with fail
  have tn := turns_new (w2.heap.size) (.slice A p.length c) (.slice A' qs.length c') w2 (Nat.le_refl _)
  have bn : Below w2.heap.size w2 (w2.alloc (.cells (turnsB (.slice A p.length c) (.slice A' qs.length c')) 110)) := (Below.refl _ _).alloc (Nat.le_refl _) _
  refine (srv_any (R := roundR w2.heap.size) (M := roundM p qs) (Mem := RoundMem p qs A A' c c' w2.heap.size w2.heap.size (w2.alloc (.cells (turnsB (.slice A p.length c) (.slice A' qs.length c')) 110))) A c p per w2.heap.size rs0 _ _ (by simp)
    (((h.below (k2.mono hB)).more (Nat.le_trans hB z2)).below bn) hpk h300 h0 h1 (roundOk hpk hq0 (fun g hg => (hq1 g hg).1)) (roundPicker _ _ _ A A' c c' p qs (((h.below (k2.mono hB)).more (Nat.le_trans hB z2)).below bn) (((h'.below (k2.mono hB)).more (Nat.le_trans hB z2)).below bn) hpk H8.out hq1 h300) ⟨Below.refl _ _, _, _, _, tn⟩ rs0_wait (rs0_ok p qs)).mono ?_
  rintro e w3 ⟨A3, c3, own', rfl, row, hb3, _⟩
  go_wp2_with fail
  go_ret2
  rw [He.out]
  exact ⟨A3, c3, _, rfl, own_mono row (Nat.le_trans k2.size bn.size), .nil, (k2.trans (bn.mono k2.size)).trans (hb3.mono k2.size)⟩
set_option maxHeartbeats 1000000 in
theorem roundRun_bad (A A' : Option Addr) (c c' : Nat) (p : List Pk) (per : Int) (qs : List Int) (S : Nat → Addr) (w : World) (B : Nat) (hB : B ≤ w.heap.size) (h : RdP w B A p) (h' : RdI w B A' qs) (hS : Snt w B S [2, 3, 5]) (hl : p.length ≤ 9223372036854775807) (hl' : qs.length ≤ 9223372036854775807) (hok : (roundErr p per qs).1 ≠ 0) :
    Calls Tryd.prog 29 #[.slice A p.length c, .int .i64 per, .slice A' qs.length c'] w (EndOwnEr Sn.cs 3 44 [] S (roundErr p per qs).1 (roundErr p per qs).2 w) := by
  by_cases h1 : (lookErr p per).1 = 0
  · obtain ⟨hf, _, _, _, _⟩ := lookErr_ok h1
    have He := Lib.hid (show roundErr p per qs = (quErr qs, -1) from if_pos h1)
    have Hn := Lib.hid (show quErr qs ≠ 0 from by rw [He.out] at hok; exact hok)
    have Hf := Lib.hid hf
    clear hok hf h1
    go_enter Tryd.func29, Tryd.ntmps29
    go_wp2_with fail
    refine (look_any A c p per S w B hB h (hS.sub (by simp)) hl).mono ?_
    rintro e w1 ⟨v, rfl, hv, hb1⟩
    obtain rfl := hv.nil_of (by rw [Hf.out])
    go_wp2_with fail
    refine (qnumbers_any A' c' qs S w1 B (Nat.le_trans hB hb1.size) (h'.below (hb1.mono hB)) ((hS.below (hb1.mono hB)).sub (by simp)) hl').mono ?_
    rintro e w2 ⟨v, rfl, hv, hb2⟩
    obtain ⟨T, a, rfl⟩ := hv.some_of Hn.out
    go_wp2_with fail
    go_ret2
    rw [He.out]
    exact ⟨none, 0, _, rfl, ⟨by simp, .inl ⟨rfl, rfl⟩⟩, hv, hb1.trans (hb2.mono hb1.size)⟩
  · have He := Lib.hid (show roundErr p per qs = lookErr p per from if_neg h1)
    have Hn := Lib.hid h1
    clear hok h1
    go_enter Tryd.func29, Tryd.ntmps29
    go_wp2_with fail
    refine (look_any A c p per S w B hB h (hS.sub (by simp)) hl).mono ?_
    rintro e w1 ⟨v, rfl, hv, hb1⟩
    obtain ⟨T, a, rfl⟩ := hv.some_of Hn.out
    go_wp2_with fail
    go_ret2
    rw [He.out]
    exact ⟨none, 0, _, rfl, ⟨by simp, .inl ⟨rfl, rfl⟩⟩, hv, hb1⟩
end Go.Proofs.YthgpbdlmadjndaaDoor
