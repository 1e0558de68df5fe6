/- Package curve: what line, Check, value and At compute. No condition beyond those written. Plain arithmetic of curves: the least of lines. No program. No condition. Package bucket: a bucket in memory; holds, look, Take, When, Has compute what a plain function says. Conditions: the bucket is right; the sentinels that are named lie in their variables. floodgateref1.LineError. No condition. floodgatelaw1.OwnLines hands back new memory that reads as what came in. Condition: the list fits memory. -/
import Derived.Test.YtoomffajodheaaaGreatDoorProg
import Derived.Test.YtoomffajodheaaaGreatDoorQBaseM
import Derived.WalkKit
import Derived.WalkLawsBesides
import Derived.WalkSpells
import Derived.BigQuiet
import Derived.Deep.QuietTactic
set_option linter.all false
namespace Go.Proofs.YtoomffajodheaaaGreatDoor
open Go.RowKit
set_option maxRecDepth 100000

def lineB (b r : Int) : Bool := decide (1 ≤ b ∧ b ≤ 20000 ∧ 0 ≤ r ∧ r ≤ 100000)

theorem line_any (b r : Int) (w : World) :
    Calls Tryz.prog 109 #[.agg #[.int .i64 b, .int .i64 r]] w fun e w' => e = .returned (.bool (lineB b r)) ∧ Below w.heap.size w w' := by
  go_enter Tryz.func109, Tryz.ntmps109
  go_wp2
  all_goals (go_ret; exact ⟨ret_bool (by unfold lineB; symm; first | exact decide_eq_true (by omega) | exact decide_eq_false (by omega) | exact decide_eq_decide.2 (by omega)), (Below.refl _ _).alloc (Nat.le_refl _) _⟩)

theorem chk1_any (b r : Int) (w : World) :
    Calls Tryz.prog 108 #[.agg #[.int .i64 b, .int .i64 r]] w fun e w' => e = .returned (.bool (!lineB b r)) ∧ Below w.heap.size w w' := by
  go_enter Tryz.func108, Tryz.ntmps108
  go_wp2_with (go_at_call 109; refine (line_any _ _ _).mono ?_; rintro e w1 ⟨rfl, hb1⟩)
  go_ret
  exact ⟨rfl, ((Below.refl _ _).alloc (Nat.le_refl _) _).trans (hb1.mono (by simp))⟩

def badIdx : List Ln → Nat → Int
  | [], _ => -1
  | x :: r, k => if lineB x.b x.r then badIdx r (k + 1) else k
theorem badIdx_ge (l : List Ln) (k : Nat) : badIdx l k = -1 ∨ ((k : Int) ≤ badIdx l k ∧ badIdx l k < k + l.length) := by
  induction l generalizing k with
  | nil => exact .inl rfl
  | cons x r ih =>
    unfold badIdx
    split
    · rcases ih (k + 1) with h | h
      · exact .inl h
      · exact .inr (by simp; omega)
    · exact .inr (by simp only [List.length_cons]; omega)

theorem idx_any (A : Option Addr) (c : Nat) (l : List Ln) (w : World) (B : Nat) (hB : B ≤ w.heap.size) (h : RdL w B A l) (hl : l.length ≤ 9223372036854775807) :
    Calls Tryz.prog 107 #[.slice A l.length c, .func (.func 108) #[] #[]] w fun e w' => e = .returned (.int .i64 (badIdx l 0)) ∧ Below w.heap.size w w' := by
  go_enter Tryz.func107, Tryz.ntmps107
  go_wp2
  go_loopw [5, 8] (fun _ i wr => ∃ k : Nat, k ≤ l.length ∧ i = .int .i64 k ∧ badIdx l 0 = badIdx (l.drop k) k ∧ Below w.heap.size w wr) (fun _ i _ => l.length - (intOf i).toNat)
  case atStart => exact ⟨0, Nat.zero_le _, rfl, rfl, Below.refl _ _⟩
  case round =>
    obtain ⟨k, hk, rfl, hbad, hbw⟩ := hrel
    by_cases hlt : k < l.length
    · obtain ⟨b, o, rfl, hb, h0, h1⟩ := RdL.get (h.below (hbw.mono hB)) hlt
      have hd : l.drop k = l[k] :: l.drop (k + 1) := List.drop_eq_getElem_cons hlt
      rw [hd] at hbad
      have Hbad := Lib.hid hbad
      clear hbad hd
      cases hx : lineB l[k].b l[k].r
      · have Hx := Lib.hid hx; clear hx
        go_wp2_with (go_at_call 108; refine (chk1_any _ _ _).mono ?_; rintro e w1 ⟨rfl, hb1⟩; rw [Hx.out])
        go_ret
        exact ⟨ret_int (by rw [Hbad.out]; simp [badIdx, Hx.out]), hbw.trans (hb1.mono (by have := hbw.size; omega))⟩
      · have Hx := Lib.hid hx; clear hx
        go_wp2_with (go_at_call 108; refine (chk1_any _ _ _).mono ?_; rintro e w1 ⟨rfl, hb1⟩; rw [Hx.out])
        go_roundw
        case rel => exact ⟨k + 1, by omega, by go_num, by rw [Hbad.out]; simp [badIdx, Hx.out], hbw.trans (hb1.mono (by have := hbw.size; omega))⟩
        case measure => simp [intOf]; omega
    · have hkl : l.length ≤ k := by omega
      rw [List.drop_eq_nil_of_le hkl] at hbad
      have Hbad := Lib.hid hbad
      clear hbad
      go_wp2
      go_ret
      exact ⟨ret_int (by rw [Hbad.out]; rfl), hbw⟩

/-- The number, and the place, of a curve's error. -/
def crvErr (l : List Ln) : Nat × Int := if l.length < 1 ∨ 6 < l.length then (3, -1) else if badIdx l 0 = -1 then (0, -1) else (2, badIdx l 0)

theorem check_any (A : Option Addr) (c : Nat) (l : List Ln) (S : Nat → Addr) (w : World) (B : Nat) (hB : B ≤ w.heap.size) (h : RdL w B A l) (hS : Snt w B S [2, 3]) (hl : l.length ≤ 9223372036854775807) :
    Calls Tryz.prog 81 #[.slice A l.length c] w (EndEr S (crvErr l).1 (crvErr l).2 w) := by
  by_cases h1 : l.length < 1 ∨ 6 < l.length
  · have g3 : w.cell? ⟨G 3, 0, none⟩ = some (sv S 3) := (hS 3 (by simp)).2.2
    simp only [G, sv] at g3
    have Hf := Lib.hid (show crvErr l = (3, -1) from if_pos h1)
    rcases h1 with h1 | h1
    · go_enter Tryz.func81, Tryz.ntmps81
      go_wp2
      go_ret
      rw [Hf.out]
      exact ⟨_, rfl, .bare 3 (by omega) (by omega), Below.refl _ _⟩
    · go_enter Tryz.func81, Tryz.ntmps81
      go_wp2
      go_ret
      rw [Hf.out]
      exact ⟨_, rfl, .bare 3 (by omega) (by omega), Below.refl _ _⟩
  · have h2 : 1 ≤ l.length := by omega
    have h3 : l.length ≤ 6 := by omega
    have hge := badIdx_ge l 0
    by_cases h4 : badIdx l 0 = -1
    · have Hf := Lib.hid (show crvErr l = (0, -1) from (if_neg h1).trans (if_pos h4))
      have H4 := Lib.hid h4
      clear h4 h1 hge
      go_enter Tryz.func81, Tryz.ntmps81
      go_wp2_with (go_at_call 107; refine (idx_any A c l _ B hB h hl).mono ?_; rintro e w1 ⟨rfl, hb1⟩; rw [H4.out])
      go_ret
      rw [Hf.out]
      exact ⟨_, rfl, .nil, hb1⟩
    · have Hf := Lib.hid (show crvErr l = (2, badIdx l 0) from (if_neg h1).trans (if_neg h4))
      have h5 : 0 ≤ badIdx l 0 := by omega
      clear h4 h1 hge
      have g2 : ∀ w1, Below w.heap.size w w1 → w1.cell? ⟨G 2, 0, none⟩ = some (sv S 2) := fun w1 hb1 => ((hS.below (hb1.mono hB)) 2 (by simp)).2.2
      simp only [G, sv] at g2
      have G2 := Lib.hid g2
      clear g2
      go_enter Tryz.func81, Tryz.ntmps81
      go_wp2_with (go_at_call 107; refine (idx_any A c l _ B hB h hl).mono ?_; rintro e w1 ⟨rfl, hb1⟩; have g2 := G2.out w1 hb1)
      go_ret
      rw [Hf.out]
      exact ⟨_, rfl, .fault 2 (by omega) (by omega) _ _ (by simp) (heap_alloc_new _ _), hb1.alloc hb1.size _⟩
def lineAt (x : Ln) (t : Int) : Int := x.b + x.r * t / 1000
def valFrom (t : Int) : Int → List Ln → Int
  | n, [] => n
  | n, x :: r => valFrom t (if lineAt x t < n then lineAt x t else n) r
def valueL (l : List Ln) (t : Int) : Int := match l with | [] => 0 | x :: r => valFrom t (lineAt x t) (x :: r)
def okLn (x : Ln) : Prop := 1 ≤ x.b ∧ x.b ≤ 20000 ∧ 0 ≤ x.r ∧ x.r ≤ 100000
theorem okLn_mul {x : Ln} (h : okLn x) {t : Int} (h0 : 0 ≤ t) (h1 : t ≤ 1099511627776) : 0 ≤ x.r * t ∧ x.r * t ≤ 109951162777600000 := by
  obtain ⟨_, _, a, b⟩ := h
  refine ⟨Int.mul_nonneg a h0, ?_⟩
  have := Int.mul_le_mul b h1 h0 (by omega : (0:Int) ≤ 100000)
  omega

theorem value_any (A : Option Addr) (c : Nat) (l : List Ln) (t : Int) (w : World) (B : Nat) (hB : B ≤ w.heap.size) (h : RdL w B A l) (hl : l.length ≤ 9223372036854775807) (h0 : 0 < l.length) (hok : ∀ x ∈ l, okLn x) (ht0 : 0 ≤ t) (ht1 : t ≤ 1099511627776) :
    Calls Tryz.prog 123 #[.slice A l.length c, .int .i64 t] w fun e w' => e = .returned (.int .i64 (valueL l t)) ∧ Below w.heap.size w w' := by
  have hok0 := hok _ (List.getElem_mem h0)
  obtain ⟨m1, m2⟩ := okLn_mul hok0 ht0 ht1
  obtain ⟨p1, p2, p3, p4⟩ := hok0
  obtain ⟨b, o, rfl, hb, c0, c1⟩ := RdL.get h h0
  simp only [Nat.zero_mul, Nat.add_zero] at c0 c1
  go_enter Tryz.func123, Tryz.ntmps123
  go_wp2
  go_quiet (fail)
  go_wp2
  have Bw : Below w.heap.size w (w.drewN nq) := below_drewN (Below.refl _ _) _
  go_loopw [5, 22] (fun n i wr => ∃ (k : Nat) (m : Int), k ≤ l.length ∧ i = .int .i64 k ∧ n = .int .i64 m ∧ valueL l t = valFrom t m (l.drop k) ∧ Below w.heap.size w wr) (fun _ i _ => l.length - (intOf i).toNat)
  case atStart => exact ⟨0, _, Nat.zero_le _, rfl, rfl, by cases l with | nil => simp at h0 | cons x r => rfl, Bw⟩
  case round =>
    obtain ⟨k, m, hk, rfl, rfl, hv, hbw⟩ := hrel
    have Hv := Lib.hid hv
    clear hv
    by_cases hlt : k < l.length
    · have hokk := hok _ (List.getElem_mem hlt)
      obtain ⟨q1, q2⟩ := okLn_mul hokk ht0 ht1
      obtain ⟨r1, r2, r3, r4⟩ := hokk
      obtain ⟨b', o', he, hb', d0, d1⟩ := RdL.get (h.below (hbw.mono hB)) hlt
      simp only [Option.some.injEq, Addr.mk.injEq, and_true] at he
      obtain ⟨rfl, rfl⟩ := he
      have hd : l.drop k = l[k] :: l.drop (k + 1) := List.drop_eq_getElem_cons hlt
      have Hd := Lib.hid hd
      clear hd
      go_wp2
      all_goals
        go_roundw
        case rel => exact ⟨k + 1, _, by omega, by go_num, rfl, by rw [Hv.out, Hd.out]; rfl, hbw.trans ((Below.refl _ _).alloc (by have := hbw.size; omega) _)⟩
        case measure => simp [intOf]; omega
    · go_wp2
      go_ret
      refine ⟨ret_int ?_, hbw⟩
      rw [Hv.out, List.drop_eq_nil_of_le (by omega)]; rfl

theorem okLn_of_badIdx (l : List Ln) (k : Nat) (h : badIdx l k = -1) : ∀ x ∈ l, okLn x := by
  induction l generalizing k with
  | nil => simp
  | cons x r ih =>
    unfold badIdx at h
    split at h
    · rename_i hx
      intro y hy
      rcases List.mem_cons.1 hy with rfl | hy
      · unfold lineB at hx; have h2 := of_decide_eq_true hx; exact h2
      · exact ih _ h y hy
    · omega
theorem crvErr_ok {l : List Ln} (h : (crvErr l).1 = 0) : 1 ≤ l.length ∧ l.length ≤ 6 ∧ (∀ x ∈ l, okLn x) ∧ (crvErr l).2 = -1 := by
  unfold crvErr at h ⊢
  by_cases h1 : l.length < 1 ∨ 6 < l.length
  · rw [if_pos h1] at h; simp at h
  · rw [if_neg h1] at h ⊢
    by_cases h2 : badIdx l 0 = -1
    · rw [if_pos h2]; exact ⟨by omega, by omega, okLn_of_badIdx l 0 h2, rfl⟩
    · rw [if_neg h2] at h; simp at h

/-- The error of a curve asked at a tick. -/
def atErr (l : List Ln) (t : Int) : Nat × Int := if (crvErr l).1 ≠ 0 then crvErr l else if t < 0 ∨ 1099511627776 < t then (2, -1) else (0, -1)
def atVal (l : List Ln) (t : Int) : Int := if (atErr l t).1 = 0 then valueL l t else 0

set_option maxHeartbeats 400000 in
theorem at_any (A : Option Addr) (c : Nat) (l : List Ln) (t : Int) (S : Nat → Addr) (w : World) (B : Nat) (hB : B ≤ w.heap.size) (h : RdL w B A l) (hS : Snt w B S [2, 3]) (hl : l.length ≤ 9223372036854775807) :
    Calls Tryz.prog 98 #[.slice A l.length c, .int .i64 t] w (EndVEr (.int .i64 (atVal l t)) S (atErr l t).1 (atErr l t).2 w) := by
  by_cases h1 : (crvErr l).1 = 0
  · obtain ⟨q1, q2, q3, q4⟩ := crvErr_ok h1
    have Hc := Lib.hid (show crvErr l = (0, -1) from Prod.ext h1 q4)
    clear h1 q4
    by_cases h2 : t < 0 ∨ 1099511627776 < t
    · have Hf := Lib.hid (show atErr l t = (2, -1) by unfold atErr; rw [Hc.out]; exact if_pos h2)
      have Hv := Lib.hid (show atVal l t = 0 by unfold atVal; rw [Hf.out]; rfl)
      have g2 : ∀ w1, Below w.heap.size w w1 → w1.cell? ⟨G 2, 0, none⟩ = some (sv S 2) := fun w1 hb1 => ((hS.below (hb1.mono hB)) 2 (by simp)).2.2
      simp only [G, sv] at g2
      have G2 := Lib.hid g2
      clear g2
      rcases h2 with h2 | h2
      all_goals
        go_enter Tryz.func98, Tryz.ntmps98
        go_wp2_with (go_at_call 81; refine (check_any A c l S _ B hB h hS hl).mono ?_; rintro e w1 ⟨v, rfl, hv, hb1⟩; have g2 := G2.out w1 hb1; obtain rfl := hv.nil_of (by rw [Hc.out]))
        go_quiet (fail)
        go_wp2
        go_ret2
        rw [Hf.out, Hv.out]
        exact ⟨_, rfl, .bare 2 (by omega) (by omega), below_drewN hb1 _⟩
    · have h3 : 0 ≤ t := by omega
      have h4 : t ≤ 1099511627776 := by omega
      have Hf := Lib.hid (show atErr l t = (0, -1) by unfold atErr; rw [Hc.out]; exact if_neg h2)
      have Hv := Lib.hid (show atVal l t = valueL l t by unfold atVal; rw [Hf.out]; rfl)
      clear h2
      go_enter Tryz.func98, Tryz.ntmps98
      go_wp2_with (first | (go_at_call 81; refine (check_any A c l S _ B hB h hS hl).mono ?_; rintro e w1 ⟨v, rfl, hv, hb1⟩; obtain rfl := hv.nil_of (by rw [Hc.out])) | (go_at_call 123; refine (value_any A c l t _ B (Nat.le_trans hB hb1.size) (h.below (hb1.mono hB)) hl q1 q3 h3 h4).mono ?_; rintro e w2 ⟨rfl, hb2⟩))
      go_ret2
      rw [Hf.out, Hv.out]
      exact ⟨_, rfl, .nil, hb1.trans (hb2.mono hb1.size)⟩
  · have h1' : (crvErr l).1 ≠ 0 := h1
    have Hf := Lib.hid (show atErr l t = crvErr l from if_pos h1')
    have Hv := Lib.hid (show atVal l t = 0 by unfold atVal; rw [Hf.out]; exact if_neg h1')
    have H1 := Lib.hid h1'
    clear h1 h1'
    go_enter Tryz.func98, Tryz.ntmps98
    go_wp2_with (go_at_call 81; refine (check_any A c l S _ B hB h hS hl).mono ?_; rintro e w1 ⟨v, rfl, hv, hb1⟩; obtain ⟨T, a, rfl⟩ := hv.some_of H1.out)
    go_ret2
    rw [Hf.out, Hv.out]
    exact ⟨_, rfl, hv, hb1⟩
end Go.Proofs.YtoomffajodheaaaGreatDoor
namespace Go.Proofs.YtoomffajodheaaaGreatDoor
theorem valFrom_le (t : Int) (l : List Ln) (n : Int) : valFrom t n l ≤ n ∧ ∀ x ∈ l, valFrom t n l ≤ lineAt x t := by
  induction l generalizing n with
  | nil => exact ⟨Int.le_refl _, by simp⟩
  | cons x r ih =>
    obtain ⟨h1, h2⟩ := ih (if lineAt x t < n then lineAt x t else n)
    have h3 : (if lineAt x t < n then lineAt x t else n) ≤ n := by split <;> omega
    have h4 : (if lineAt x t < n then lineAt x t else n) ≤ lineAt x t := by split <;> omega
    refine ⟨Int.le_trans h1 h3, fun y hy => ?_⟩
    rcases List.mem_cons.1 hy with rfl | hy
    · exact Int.le_trans h1 h4
    · exact h2 y hy
theorem valFrom_mem (t : Int) (l : List Ln) (n : Int) : valFrom t n l = n ∨ ∃ x ∈ l, valFrom t n l = lineAt x t := by
  induction l generalizing n with
  | nil => exact .inl rfl
  | cons x r ih =>
    rcases ih (if lineAt x t < n then lineAt x t else n) with h | ⟨y, hy, h⟩
    · by_cases hc : lineAt x t < n
      · rw [if_pos hc] at h
        exact .inr ⟨x, List.mem_cons_self, by show valFrom t (if lineAt x t < n then lineAt x t else n) r = _; rw [if_pos hc]; exact h⟩
      · rw [if_neg hc] at h
        exact .inl (by show valFrom t (if lineAt x t < n then lineAt x t else n) r = _; rw [if_neg hc]; exact h)
    · exact .inr ⟨y, List.mem_cons_of_mem _ hy, h⟩
theorem valueL_le {l : List Ln} {x : Ln} (hx : x ∈ l) (t : Int) : valueL l t ≤ lineAt x t := by
  cases l with
  | nil => cases hx
  | cons y r => exact (valFrom_le t (y :: r) _).2 x hx
theorem valueL_mem {l : List Ln} (h0 : 0 < l.length) (t : Int) : ∃ x ∈ l, valueL l t = lineAt x t := by
  cases l with
  | nil => simp at h0
  | cons y r =>
    rcases valFrom_mem t (y :: r) (lineAt y t) with h | h
    · exact ⟨y, List.mem_cons_self, h⟩
    · exact h
theorem lineAt_pos {x : Ln} (h : okLn x) {t : Int} (ht : 0 ≤ t) : 1 ≤ lineAt x t := by
  unfold lineAt
  have h1 := Int.mul_nonneg h.2.2.1 ht
  have := h.1
  omega
theorem valueL_pos {l : List Ln} (h0 : 0 < l.length) (hok : ∀ x ∈ l, okLn x) {t : Int} (ht : 0 ≤ t) : 1 ≤ valueL l t := by
  obtain ⟨x, hx, e⟩ := valueL_mem h0 t
  rw [e]
  exact lineAt_pos (hok x hx) ht
theorem valueL_top {l : List Ln} (h0 : 0 < l.length) (hok : ∀ x ∈ l, okLn x) {t : Int} (ht : 0 ≤ t) (ht1 : t ≤ 1099511627776) : valueL l t ≤ 109951162797600 := by
  obtain ⟨x, hx, e⟩ := valueL_mem h0 t
  rw [e]
  have := okLn_mul (hok x hx) ht ht1
  have := (hok x hx).2.1
  unfold lineAt
  omega
theorem badIdx_ok {l : List Ln} (h : ∀ x ∈ l, okLn x) (k : Nat) : badIdx l k = -1 := by
  induction l generalizing k with
  | nil => rfl
  | cons x r ih =>
    have hx : lineB x.b x.r = true := decide_eq_true (h x List.mem_cons_self)
    unfold badIdx
    rw [if_pos hx]
    exact ih (fun y hy => h y (List.mem_cons_of_mem _ hy)) _
theorem crvErr_of {l : List Ln} (h1 : 1 ≤ l.length) (h2 : l.length ≤ 6) (h : ∀ x ∈ l, okLn x) : crvErr l = (0, -1) := by
  unfold crvErr
  rw [if_neg (by omega), if_pos (badIdx_ok h 0)]
end Go.Proofs.YtoomffajodheaaaGreatDoor
namespace Go.Proofs.YtoomffajodheaaaGreatDoor
open Go.RowKit
set_option maxRecDepth 100000
/-- A bucket: its line, the tick and what it had then, the last tick that was asked. -/
structure Bu where
  b : Int
  r : Int
  at_ : Int
  has : Int
  last : Int
def Bu.cells (s : Bu) : Array Value := #[.int .i64 s.b, .int .i64 s.r, .int .i64 s.at_, .int .i64 s.has, .int .i64 s.last]
structure BuOk (s : Bu) : Prop where
  b1 : 1 ≤ s.b
  b2 : s.b ≤ 20000
  r1 : 0 ≤ s.r
  r2 : s.r ≤ 100000
  h1 : 0 ≤ s.has
  h2 : s.has ≤ 1000 * s.b
  a1 : 0 ≤ s.at_
  a2 : s.at_ ≤ s.last
  l2 : s.last ≤ 1099511627776
def holdsB (s : Bu) (t : Int) : Int := if 0 < s.r ∧ (1000 * s.b - s.has) / s.r < t - s.at_ then 1000 * s.b else s.has + s.r * (t - s.at_)
def lookB (s : Bu) (t n : Int) : Nat := if t < 0 ∨ 1099511627776 < t ∨ n < 1 ∨ 1500 < n then 2 else if t < s.last then 5 else 0
theorem lookB_ok {s : Bu} {t n : Int} (h : lookB s t n = 0) : 0 ≤ t ∧ t ≤ 1099511627776 ∧ 1 ≤ n ∧ n ≤ 1500 ∧ s.last ≤ t := by
  unfold lookB at h
  split at h
  · omega
  · split at h
    · omega
    · omega
theorem holds_slack {s : Bu} (h : BuOk s) {t : Int} (ht : s.at_ ≤ t) (hn : ¬ (0 < s.r ∧ (1000 * s.b - s.has) / s.r < t - s.at_)) : 0 ≤ s.r * (t - s.at_) ∧ s.r * (t - s.at_) ≤ 1000 * s.b - s.has := by
  refine ⟨Int.mul_nonneg h.r1 (by omega), ?_⟩
  have := h.r1
  have := h.h2
  by_cases h0 : 0 < s.r
  · have h1 : t - s.at_ ≤ (1000 * s.b - s.has) / s.r := by
      refine Int.not_lt.1 fun h9 => hn ⟨h0, h9⟩
    have h2 := Int.mul_le_mul_of_nonneg_left h1 (Int.le_of_lt h0)
    have h3 := Int.mul_ediv_self_le (x := 1000 * s.b - s.has) (k := s.r) (by omega)
    omega
  · have : s.r = 0 := by omega
    rw [this]
    omega
theorem holds_range {s : Bu} (h : BuOk s) {t : Int} (ht : s.at_ ≤ t) : s.has ≤ holdsB s t ∧ holdsB s t ≤ 1000 * s.b := by
  unfold holdsB
  have := h.h2
  split
  · exact ⟨by omega, Int.le_refl _⟩
  · rename_i hn
    have := holds_slack h ht hn
    omega
theorem holds_any (g : Nat) (s : Bu) (t : Int) (w : World) (h : Blk w g 288 s.cells) (hs : BuOk s) (ht : s.at_ ≤ t) (ht2 : t ≤ 1099511627776) :
    Calls Tryz.prog 220 #[.pointer (some ⟨g, 0, none⟩), .int .i64 t] w fun e w' => e = .returned (.int .i64 (holdsB s t)) ∧ ∃ m, w' = w.drewN m := by
  obtain ⟨b, r, a, hh, la⟩ := s
  have c0 : w.cell? ⟨g, 0, none⟩ = some (.int .i64 b) := h.cell 0
  have c1 : w.cell? ⟨g, 1, none⟩ = some (.int .i64 r) := h.cell 1
  have c2 : w.cell? ⟨g, 2, none⟩ = some (.int .i64 a) := h.cell 2
  have c3 : w.cell? ⟨g, 3, none⟩ = some (.int .i64 hh) := h.cell 3
  have hsl := holds_slack hs ht
  obtain ⟨b1, b2, r1, r2, h1, h2, a1, a2, l2⟩ := hs
  simp only at b1 b2 r1 r2 h1 h2 a1 a2 l2 hsl ht
  clear h
  by_cases hr : 0 < r
  · have q0 : 0 ≤ (1000 * b - hh) / r := Int.ediv_nonneg (by omega) (by omega)
    have q1 : (1000 * b - hh) / r ≤ 1000 * b - hh := Int.ediv_le_self _ (by omega)
    by_cases hf : (1000 * b - hh) / r < t - a
    · have Hv := Lib.hid (show holdsB ⟨b, r, a, hh, la⟩ t = 1000 * b from if_pos ⟨hr, hf⟩)
      clear hsl
      go_enter Tryz.func220, Tryz.ntmps220
      go_wp2_with fail
      go_quiet (fail)
      go_wp2_with fail
      go_ret
      exact ⟨ret_int Hv.out.symm, _, rfl⟩
    · have Hv := Lib.hid (show holdsB ⟨b, r, a, hh, la⟩ t = hh + r * (t - a) from if_neg (fun h9 => hf h9.2))
      obtain ⟨m1, m2⟩ := hsl (fun h9 => hf h9.2)
      have hf2 : t - a ≤ (1000 * b - hh) / r := by omega
      clear hsl hf
      go_enter Tryz.func220, Tryz.ntmps220
      go_wp2_with fail
      go_quiet (fail)
      go_wp2_with fail
      go_quiet (fail)
      go_wp2_with fail
      go_ret
      exact ⟨ret_int Hv.out.symm, _, by first | rfl | exact World.drewN_drewN _ _ _⟩
  · obtain rfl : r = 0 := by omega
    have Hv := Lib.hid (show holdsB ⟨b, 0, a, hh, la⟩ t = hh from (if_neg (fun h9 => hr h9.1)).trans (by simp))
    clear hsl hr
    go_enter Tryz.func220, Tryz.ntmps220
    go_wp2_with fail
    go_quiet (fail)
    go_wp2_with fail
    go_quiet (fail)
    go_wp2_with fail
    go_ret
    exact ⟨by rw [Hv.out]; rfl, _, by first | rfl | exact World.drewN_drewN _ _ _⟩
theorem blook_any (g : Nat) (s : Bu) (t n : Int) (S : Nat → Addr) (w : World) (B : Nat) (hS : Snt w B S [2, 5]) (h : Blk w g 288 s.cells) :
    Calls Tryz.prog 219 #[.pointer (some ⟨g, 0, none⟩), .int .i64 t, .int .i64 n] w fun e w' => ∃ v, e = .returned v ∧ Er w w.heap.size S v (lookB s t n) (-1) ∧ w = w' := by
  have c4 : w.cell? ⟨g, 4, none⟩ = some (.int .i64 s.last) := h.cell 4
  have g2 : w.cell? ⟨G 2, 0, none⟩ = some (sv S 2) := (hS 2 (by simp)).2.2
  have g5 : w.cell? ⟨G 5, 0, none⟩ = some (sv S 5) := (hS 5 (by simp)).2.2
  simp only [G, sv] at g2 g5
  by_cases hb : t < 0 ∨ 1099511627776 < t ∨ n < 1 ∨ 1500 < n
  · have Hf := Lib.hid (show lookB s t n = 2 from if_pos hb)
    have hb2 : t < 0 ∨ (0 ≤ t ∧ 1099511627776 < t) ∨ (0 ≤ t ∧ t ≤ 1099511627776 ∧ n < 1) ∨ (0 ≤ t ∧ t ≤ 1099511627776 ∧ 1 ≤ n ∧ 1500 < n) := by omega
    clear hb
    rcases hb2 with h1 | ⟨h1, h2⟩ | ⟨h1, h2, h3⟩ | ⟨h1, h2, h3, h4⟩
    all_goals
      go_enter Tryz.func219, Tryz.ntmps219
      go_wp2_with fail
      go_ret
      rw [Hf.out]
      exact ⟨_, rfl, .bare 2 (by omega) (by omega), rfl⟩
  · have h1 : 0 ≤ t := by omega
    have h2 : t ≤ 1099511627776 := by omega
    have h3 : 1 ≤ n := by omega
    have h4 : n ≤ 1500 := by omega
    by_cases hl : t < s.last
    · have Hf := Lib.hid (show lookB s t n = 5 from (if_neg hb).trans (if_pos hl))
      clear hb
      go_enter Tryz.func219, Tryz.ntmps219
      go_wp2_with fail
      go_ret
      rw [Hf.out]
      exact ⟨_, rfl, .bare 5 (by omega) (by omega), rfl⟩
    · have Hf := Lib.hid (show lookB s t n = 0 from (if_neg hb).trans (if_neg hl))
      have h5 : s.last ≤ t := by omega
      clear hb hl
      go_enter Tryz.func219, Tryz.ntmps219
      go_wp2_with fail
      go_ret
      rw [Hf.out]
      exact ⟨_, rfl, .nil, rfl⟩
end Go.Proofs.YtoomffajodheaaaGreatDoor
namespace Go.Proofs.YtoomffajodheaaaGreatDoor
open Go.RowKit
set_option maxRecDepth 100000
end Go.Proofs.YtoomffajodheaaaGreatDoor
namespace Go.Proofs.YtoomffajodheaaaGreatDoor
open Go.RowKit
set_option maxRecDepth 100000
theorem infoLn : (Tryz.prog.info? 75).map (fun i => (i.zero, i.size, i.bytes)) = some (some (.agg #[.int .i64 0, .int .i64 0]), 2, 16) := by kernel_rfl

end Go.Proofs.YtoomffajodheaaaGreatDoor
