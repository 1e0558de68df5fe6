/- play.Packets, floodgateref2.PacketsOf: packets of a script. Condition: the script fits memory. play.Tallies: tallies of flows. Conditions: packets are right, ticks are not too great, few are sent; the sentinels that it names lie in their variables. All bytes that come are sent, plainly: tallies of whatever a link sends. No program in sight. The law PlayPackets: its parts. Conditions written at each. -/
import Derived.Test.YthgpbdlmadjndaaDoorFifoM2
import Derived.Test.YthgpbdlmadjndaaDoorMiscM
import Derived.Laws.OwnMore
import Derived.Test.YthgpbdlmadjndaaDoorSentRef
import Derived.Lib.MinMax
import Derived.StillTailTactics
import Derived.Test.YthgpbdlmadjndaaDoorLkM
import Derived.Test.YthgpbdlmadjndaaDoorGateP
import Derived.Test.YthgpbdlmadjndaaDoorSameP
import Derived.Test.YthgpbdlmadjndaaDoorCoded3
import Derived.Test.YthgpbdlmadjndaaDoorPkRefB
namespace Go.Proofs.YthgpbdlmadjndaaDoor
open Go.RowKit
set_option maxRecDepth 100000
def rollPk (v t : Int) : Pk := ⟨v / 7 % 3, 1 + v / 21 % 300, t⟩
def rollGo : List Pk → Int → List Int → List Pk
  | acc, _, [] => acc
  | acc, t, v :: r => if acc.length = 300 then acc else if v < 0 then rollGo acc t r else rollGo (acc ++ [rollPk v (t + v % 7)]) (t + v % 7) r
def rollL (s : List Int) : List Pk := rollGo [] 0 s
/-- Right packets, in order, none behind a tick. -/
structure RollOk (acc : List Pk) (t : Int) : Prop where
  len : acc.length ≤ 300
  ok : ∀ x ∈ acc, 0 ≤ x.f ∧ x.f ≤ 2 ∧ 1 ≤ x.s ∧ x.s ≤ 300 ∧ 0 ≤ x.a ∧ x.a ≤ t
  so : acc.Pairwise (fun x y => x.a ≤ y.a)
theorem RollOk.snoc {acc : List Pk} {t v : Int} (h : RollOk acc t) (hl : acc.length ≠ 300) (hv : 0 ≤ v) (ht : 0 ≤ t) : RollOk (acc ++ [rollPk v (t + v % 7)]) (t + v % 7) := by
  have h1 := h.len
  refine ⟨by simp; omega, fun x hx => ?_, List.pairwise_append.2 ⟨h.so, List.pairwise_singleton _ _, fun a ha b hb => ?_⟩⟩
  · rcases List.mem_append.1 hx with hx | hx
    · have := h.ok x hx
      omega
    · rw [List.mem_singleton.1 hx]
      unfold rollPk
      simp only
      omega
  · rw [List.mem_singleton.1 hb]
    have := h.ok a ha
    unfold rollPk
    simp only
    omega
theorem rollGo_ok (s : List Int) (acc : List Pk) (t : Int) (h : RollOk acc t) (ht : 0 ≤ t) : ∃ t', RollOk (rollGo acc t s) t' ∧ t' ≤ t + 6 * s.length := by
  induction s generalizing acc t with
  | nil => exact ⟨t, h, by simp⟩
  | cons v r ih =>
    unfold rollGo
    by_cases h1 : acc.length = 300
    · rw [if_pos h1]
      exact ⟨t, h, by omega⟩
    · rw [if_neg h1]
      by_cases h2 : v < 0
      · rw [if_pos h2]
        obtain ⟨t', a, b⟩ := ih acc t h ht
        refine ⟨t', a, ?_⟩
        simp only [List.length_cons]; omega
      · rw [if_neg h2]
        obtain ⟨t', a, b⟩ := ih _ _ (h.snoc (v := v) h1 (by omega) ht) (by omega)
        refine ⟨t', a, ?_⟩
        simp only [List.length_cons]; omega
theorem rollL_ok (s : List Int) : ∃ t', RollOk (rollL s) t' ∧ t' ≤ 6 * s.length := by
  obtain ⟨t', a, b⟩ := rollGo_ok s [] 0 ⟨by simp, by simp, List.Pairwise.nil⟩ (Int.le_refl _)
  exact ⟨t', a, by omega⟩
set_option maxHeartbeats 2000000 in
theorem packets_any (A : Option Addr) (c : Nat) (s : List Int) (w : World) (B : Nat) (hB : B ≤ w.heap.size) (h : RdI w B A s) (hl : s.length ≤ 4294967296) (hw : ∀ v ∈ s, v ≤ 9223372036854775807) :
    Calls Tryd.prog 11 #[.slice A s.length c] w (EndOwn Pk.cs 3 42 (rollL s) w) := by
  obtain ⟨i0, hi0, hz0, hz1, hz2⟩ := info_parts infoPk
  go_enter Tryd.func11, Tryd.ntmps11
  go_wp2
  go_loopw [3, 4, 9] (fun v tv iv wr => ∃ (k : Nat) (acc : List Pk) (t : Int) (A' : Option Addr) (c' : Nat), k ≤ s.length ∧ v = .slice A' acc.length c' ∧ tv = .int .i64 t ∧ iv = .int .i64 k ∧ rollL s = rollGo acc t (s.drop k) ∧ acc.length ≤ 300 ∧ 0 ≤ t ∧ t ≤ 6 * (k : Int) ∧ wr.ownsRow w.heap.size 42 3 (.slice A' acc.length c') acc.length (acc.flatMap Pk.cs) ∧ Below w.heap.size w wr) (fun _ _ iv _ => s.length - (intOf iv).toNat)
  case atStart => exact ⟨0, [], 0, none, 0, Nat.zero_le _, rfl, rfl, rfl, rfl, by simp, Int.le_refl _, by omega, ⟨by simp, .inl ⟨rfl, rfl⟩⟩, Below.refl _ _⟩
  case round =>
    obtain ⟨k, acc, t, A', c', hk, rfl, rfl, rfl, hroll, hal, ht0, ht1, row, hbw⟩ := hrel
    have zw := hbw.size
    by_cases hlt : k < s.length
    · obtain ⟨q, o, rfl, hq, d0⟩ := RdI.get (h.below (hbw.mono hB)) hlt
      rw [List.drop_eq_getElem_cons hlt, rollGo] at hroll
      have hv := hw _ (List.getElem_mem hlt)
      obtain ⟨x, hx⟩ : ∃ x, x = s[k] := ⟨_, rfl⟩
      rw [← hx] at hroll hv d0
      have Hx := Lib.hid hx
      clear hx
      have q1 : (0 : Int) ≤ (k : Int) := by omega
      have q2 : (k : Int) < (s.length : Int) := by omega
      have Row := Lib.hid row
      clear row
      by_cases h3 : acc.length = 300
      · rw [if_pos h3] at hroll
        have Hroll := Lib.hid hroll
        have h3' : ((acc.length : Int) == 300) = true := by rw [h3]; rfl
        clear hroll h3
        go_wp2_with fail
        go_ret
        rw [Hroll.out]
        exact ⟨A', c', rfl, Row.out, hbw⟩
      · have h3' : ((acc.length : Int) == 300) = false := by simp; omega
        rw [if_neg h3] at hroll
        by_cases hneg : x < 0
        · rw [if_pos hneg] at hroll
          have Hroll := Lib.hid hroll
          clear hroll h3
          go_wp2_with fail
          go_roundw
          case rel => exact ⟨k + 1, acc, t, A', c', hlt, rfl, rfl, by go_num, Hroll.out, hal, ht0, by omega, Row.out, hbw⟩
          case measure => simp [intOf]; omega
        · rw [if_neg hneg] at hroll
          have n0 : 0 ≤ x := by omega
          have b0 : 0 ≤ t + x % 7 := by omega
          have b1 : t + x % 7 ≤ 9223372036854775807 := by omega
          have b2 : 0 ≤ x / 7 := by omega
          have b3 : x / 7 ≤ 9223372036854775807 := by omega
          have b4 : 0 ≤ x / 21 := by omega
          have b5 : x / 21 ≤ 9223372036854775807 := by omega
          have b6 : 0 ≤ x / 21 % 300 := by omega
          have b7 : x / 21 % 300 ≤ 299 := by omega
          have b8 : 0 ≤ x % 7 := by omega
          have b9 : x % 7 ≤ 6 := by omega
          obtain ⟨out', hout'⟩ : ∃ out', out' = acc ++ [rollPk x (t + x % 7)] := ⟨_, rfl⟩
          rw [← hout'] at hroll
          have hol : out'.length ≤ 300 := by rw [hout']; simp; omega
          have Hroll := Lib.hid hroll
          have Ho := Lib.hid hout'
          have Hol := Lib.hid hol
          have hnew : RdP (wr.alloc (.cells #[.int .i64 (x / 7 % 3), .int .i64 (1 + x / 21 % 300), .int .i64 (t + x % 7)] 42)) (wr.heap.size + 1) (some ⟨wr.heap.size, 0, none⟩) [rollPk x (t + x % 7)] := RdP.new_ (rollPk x (t + x % 7))
          have Hnew := Lib.hid hnew
          clear hroll h3 hout' hol hnew
          go_wp2_with (at_builtin; refine wpList_append_rd _ Pk.cs rfl (.tmp 22) (.tmp 32) 26 rfl w.heap.size 42 i0 (.agg #[.int .i64 0, .int .i64 0, .int .i64 0]) 3 24 Tryd.underlying26 hi0 hz0 hz1 hz2 rfl (by omega) Pk.cs_len Pk.cs_one (.slice A' acc.length c') acc.length (acc.flatMap Pk.cs) rfl (Row.out.alloc _) (wr.heap.size + 1) (some ⟨wr.heap.size, 0, none⟩) 1 [rollPk x (t + x % 7)] rfl Hnew.out (by simp only [maxLen, List.length_cons, List.length_nil]; omega) (by simp only [List.length_cons, List.length_nil]; omega) (by simp; omega) ?_; intro v3 w3 row3 g3 at3; obtain ⟨A5, c5, hv5, row3⟩ := own_app row3 (by omega); rw [← Ho.out] at hv5 row3; rw [hv5]; clear hv5)
          have k3 := below_app (hbw.alloc zw (.cells #[.int .i64 (x / 7 % 3), .int .i64 (1 + x / 21 % 300), .int .i64 (t + x % 7)] 42)) (Row.out.alloc _) g3 (Nat.le_refl _) (by simp; omega)
          go_roundw
          case rel => exact ⟨k + 1, out', t + x % 7, A5, c5, hlt, rfl, rfl, by go_num, Hroll.out, Hol.out, b0, by omega, row3, k3⟩
          case measure => simp [intOf]; omega
    · rw [List.drop_eq_nil_of_le (by omega)] at hroll
      have Hroll := Lib.hid (show rollL s = acc from hroll)
      clear hroll
      go_wp2_with fail
      go_ret
      rw [Hroll.out]
      exact ⟨A', c', rfl, row, hbw⟩
set_option maxHeartbeats 2000000 in
theorem packetsOf_any (A : Option Addr) (c : Nat) (s : List Int) (w : World) (B : Nat) (hB : B ≤ w.heap.size) (h : RdI w B A s) (hl : s.length ≤ 4294967296) (hw : ∀ v ∈ s, v ≤ 9223372036854775807) :
    Calls Tryd.prog 12 #[.slice A s.length c] w (EndOwn Pk.cs 3 42 (rollL s) w) := by
  obtain ⟨i0, hi0, hz0, hz1, hz2⟩ := info_parts infoPk
  go_enter Tryd.func12, Tryd.ntmps12
  go_wp2
  go_loopw [3, 4, 5] (fun v tv iv wr => ∃ (k : Nat) (acc : List Pk) (t : Int) (A' : Option Addr) (c' : Nat), k ≤ s.length ∧ v = .slice A' acc.length c' ∧ tv = .int .i64 t ∧ iv = .int .i64 k ∧ rollL s = rollGo acc t (s.drop k) ∧ acc.length ≤ 300 ∧ 0 ≤ t ∧ t ≤ 6 * (k : Int) ∧ wr.ownsRow w.heap.size 42 3 (.slice A' acc.length c') acc.length (acc.flatMap Pk.cs) ∧ Below w.heap.size w wr) (fun _ _ iv _ => s.length - (intOf iv).toNat)
  case atStart => exact ⟨0, [], 0, none, 0, Nat.zero_le _, rfl, rfl, rfl, rfl, by simp, Int.le_refl _, by omega, ⟨by simp, .inl ⟨rfl, rfl⟩⟩, Below.refl _ _⟩
  case round =>
    obtain ⟨k, acc, t, A', c', hk, rfl, rfl, rfl, hroll, hal, ht0, ht1, row, hbw⟩ := hrel
    have zw := hbw.size
    by_cases hlt : k < s.length
    · obtain ⟨q, o, rfl, hq, d0⟩ := RdI.get (h.below (hbw.mono hB)) hlt
      rw [List.drop_eq_getElem_cons hlt, rollGo] at hroll
      have hv := hw _ (List.getElem_mem hlt)
      obtain ⟨x, hx⟩ : ∃ x, x = s[k] := ⟨_, rfl⟩
      rw [← hx] at hroll hv d0
      have Hx := Lib.hid hx
      clear hx
      have q1 : (0 : Int) ≤ (k : Int) := by omega
      have q2 : (k : Int) < (s.length : Int) := by omega
      have Row := Lib.hid row
      clear row
      by_cases h3 : acc.length = 300
      · rw [if_pos h3] at hroll
        have Hroll := Lib.hid hroll
        have h3' : ¬ (acc.length : Int) < 300 := by omega
        clear hroll h3
        go_wp2_with fail
        go_ret
        rw [Hroll.out]
        exact ⟨A', c', rfl, Row.out, hbw⟩
      · have h3' : (acc.length : Int) < 300 := by omega
        rw [if_neg h3] at hroll
        by_cases hneg : x < 0
        · rw [if_pos hneg] at hroll
          have Hroll := Lib.hid hroll
          clear hroll h3
          go_wp2_with fail
          go_roundw
          case rel => exact ⟨k + 1, acc, t, A', c', hlt, rfl, rfl, by go_num, Hroll.out, hal, ht0, by omega, Row.out, hbw⟩
          case measure => simp [intOf]; omega
        · rw [if_neg hneg] at hroll
          have n0 : 0 ≤ x := by omega
          have b0 : 0 ≤ t + x % 7 := by omega
          have b1 : t + x % 7 ≤ 9223372036854775807 := by omega
          have b2 : 0 ≤ x / 7 := by omega
          have b3 : x / 7 ≤ 9223372036854775807 := by omega
          have b4 : 0 ≤ x / 21 := by omega
          have b5 : x / 21 ≤ 9223372036854775807 := by omega
          have b6 : 0 ≤ x / 21 % 300 := by omega
          have b7 : x / 21 % 300 ≤ 299 := by omega
          have b8 : 0 ≤ x % 7 := by omega
          have b9 : x % 7 ≤ 6 := by omega
          obtain ⟨out', hout'⟩ : ∃ out', out' = acc ++ [rollPk x (t + x % 7)] := ⟨_, rfl⟩
          rw [← hout'] at hroll
          have hol : out'.length ≤ 300 := by rw [hout']; simp; omega
          have Hroll := Lib.hid hroll
          have Ho := Lib.hid hout'
          have Hol := Lib.hid hol
          have hnew : RdP (wr.alloc (.cells #[.int .i64 (x / 7 % 3), .int .i64 (x / 21 % 300 + 1), .int .i64 (t + x % 7)] 42)) (wr.heap.size + 1) (some ⟨wr.heap.size, 0, none⟩) [rollPk x (t + x % 7)] := by rw [show x / 21 % 300 + 1 = 1 + x / 21 % 300 by omega]; exact RdP.new_ (rollPk x (t + x % 7))
          have Hnew := Lib.hid hnew
          clear hroll h3 hout' hol hnew
          go_wp2_with (at_builtin; refine wpList_append_rd _ Pk.cs rfl (.tmp 28) (.tmp 38) 26 rfl w.heap.size 42 i0 (.agg #[.int .i64 0, .int .i64 0, .int .i64 0]) 3 24 Tryd.underlying26 hi0 hz0 hz1 hz2 rfl (by omega) Pk.cs_len Pk.cs_one (.slice A' acc.length c') acc.length (acc.flatMap Pk.cs) rfl (Row.out.alloc _) (wr.heap.size + 1) (some ⟨wr.heap.size, 0, none⟩) 1 [rollPk x (t + x % 7)] rfl Hnew.out (by simp only [maxLen, List.length_cons, List.length_nil]; omega) (by simp only [List.length_cons, List.length_nil]; omega) (by simp; omega) ?_; intro v3 w3 row3 g3 at3; obtain ⟨A5, c5, hv5, row3⟩ := own_app row3 (by omega); rw [← Ho.out] at hv5 row3; rw [hv5]; clear hv5)
          have k3 := below_app (hbw.alloc zw (.cells #[.int .i64 (x / 7 % 3), .int .i64 (x / 21 % 300 + 1), .int .i64 (t + x % 7)] 42)) (Row.out.alloc _) g3 (Nat.le_refl _) (by simp; omega)
          go_roundw
          case rel => exact ⟨k + 1, out', t + x % 7, A5, c5, hlt, rfl, rfl, by go_num, Hroll.out, Hol.out, b0, by omega, row3, k3⟩
          case measure => simp [intOf]; omega
    · rw [List.drop_eq_nil_of_le (by omega)] at hroll
      have Hroll := Lib.hid (show rollL s = acc from hroll)
      clear hroll
      go_wp2_with fail
      go_ret
      rw [Hroll.out]
      exact ⟨A', c', rfl, row, hbw⟩
end Go.Proofs.YthgpbdlmadjndaaDoor
namespace Go.Proofs.YthgpbdlmadjndaaDoor
open Go.RowKit
set_option maxRecDepth 100000
def flT (p : List Pk) (x : Sn) : Nat := (fOf p x.p.toNat).toNat
def tB (p : List Pk) (f : Nat) : Int → List Sn → Int
  | n, [] => n
  | n, x :: r => tB p f (if flT p x = f then n + sOf p x.p.toNat else n) r
def tM (p : List Pk) (f : Nat) : Int → List Sn → Int
  | n, [] => n
  | n, x :: r => tM p f (if flT p x = f then max n (x.t - aOf p x.p.toNat) else n) r
def tL (p : List Pk) (f : Nat) : Int → List Sn → Int
  | n, [] => n
  | n, x :: r => tL p f (if flT p x = f then max n x.t else n) r
def upi (h : Nat → Int) (g : Nat) (x : Int) : Nat → Int := fun f => if f = g then x else h f
/-- Tallies in memory. -/
structure TalMem (w : World) (g : Nat) (cs : Array Value) (hb hm hl : Nat → Int) : Prop where
  blk : Blk w g 80 cs
  size : cs.size = 24
  cb : ∀ f, f < 8 → cs[f * 3]? = some (.int .i64 (hb f))
  cm : ∀ f, f < 8 → cs[f * 3 + 1]? = some (.int .i64 (hm f))
  cl : ∀ f, f < 8 → cs[f * 3 + 2]? = some (.int .i64 (hl f))
theorem ta_get {cs : Array Value} {i j : Nat} {u : Value} (h : j ≠ i) : (cs.setIfInBounds i u)[j]? = cs[j]? := by rw [Array.getElem?_setIfInBounds, if_neg (fun e => h e.symm)]
theorem ta_get_same {cs : Array Value} {i : Nat} {u : Value} (h : i < cs.size) : (cs.setIfInBounds i u)[i]? = some u := by rw [Array.getElem?_setIfInBounds, if_pos rfl, if_pos h]
section
variable {w : World} {g : Nat} {cs : Array Value} {hb hm hl : Nat → Int}
theorem TalMem.setB (h : TalMem w g cs hb hm hl) {f : Nat} (hf : f < 8) (x : Int) : TalMem (w.setCell ⟨g, f * 3, none⟩ (.int .i64 x)) g (cs.setIfInBounds (f * 3) (.int .i64 x)) (upi hb f x) hm hl where
  blk := h.blk.set_ _ _
  size := by rw [Array.size_setIfInBounds]; exact h.size
  cb := fun f' hf' => by
    unfold upi
    by_cases he : f' = f
    · subst he; rw [if_pos rfl]; exact ta_get_same (by rw [h.size]; omega)
    · rw [if_neg he]; exact (ta_get (by omega)).trans (h.cb f' hf')
  cm := fun f' hf' => (ta_get (by omega)).trans (h.cm f' hf')
  cl := fun f' hf' => (ta_get (by omega)).trans (h.cl f' hf')
theorem TalMem.setM (h : TalMem w g cs hb hm hl) {f : Nat} (hf : f < 8) (x : Int) : TalMem (w.setCell ⟨g, f * 3 + 1, none⟩ (.int .i64 x)) g (cs.setIfInBounds (f * 3 + 1) (.int .i64 x)) hb (upi hm f x) hl where
  blk := h.blk.set_ _ _
  size := by rw [Array.size_setIfInBounds]; exact h.size
  cm := fun f' hf' => by
    unfold upi
    by_cases he : f' = f
    · subst he; rw [if_pos rfl]; exact ta_get_same (by rw [h.size]; omega)
    · rw [if_neg he]; exact (ta_get (by omega)).trans (h.cm f' hf')
  cb := fun f' hf' => (ta_get (by omega)).trans (h.cb f' hf')
  cl := fun f' hf' => (ta_get (by omega)).trans (h.cl f' hf')
theorem TalMem.setL (h : TalMem w g cs hb hm hl) {f : Nat} (hf : f < 8) (x : Int) : TalMem (w.setCell ⟨g, f * 3 + 2, none⟩ (.int .i64 x)) g (cs.setIfInBounds (f * 3 + 2) (.int .i64 x)) hb hm (upi hl f x) where
  blk := h.blk.set_ _ _
  size := by rw [Array.size_setIfInBounds]; exact h.size
  cl := fun f' hf' => by
    unfold upi
    by_cases he : f' = f
    · subst he; rw [if_pos rfl]; exact ta_get_same (by rw [h.size]; omega)
    · rw [if_neg he]; exact (ta_get (by omega)).trans (h.cl f' hf')
  cb := fun f' hf' => (ta_get (by omega)).trans (h.cb f' hf')
  cm := fun f' hf' => (ta_get (by omega)).trans (h.cm f' hf')
theorem TalMem.same {w' : World} (h : TalMem w g cs hb hm hl) (hs : w'.heap[g]? = w.heap[g]?) : TalMem w' g cs hb hm hl := { h with blk := h.blk.same hs }
end
/-- What holds at each round's head. -/
structure TalAt (p : List Pk) (l : List Sn) (k : Nat) (hb hm hl : Nat → Int) : Prop where
  b : ∀ f, f < 8 → tB p f 0 l = tB p f (hb f) (l.drop k)
  m : ∀ f, f < 8 → tM p f 0 l = tM p f (hm f) (l.drop k)
  l : ∀ f, f < 8 → tL p f 0 l = tL p f (hl f) (l.drop k)
  b0 : ∀ f, f < 8 → 0 ≤ hb f ∧ hb f ≤ 1500 * (k : Int)
theorem TalAt.step {p : List Pk} {l : List Sn} {k : Nat} {hb hm hl : Nat → Int} (h : TalAt p l k hb hm hl) (hk : k < l.length) {f : Nat} (hf : flT p l[k] = f) {z : Int} (hz : sOf p l[k].p.toNat = z) (z0 : 0 ≤ z) (z1 : z ≤ 1500) :
    TalAt p l (k + 1) (upi hb f (hb f + z)) (upi hm f (max (hm f) (l[k].t - aOf p l[k].p.toNat))) (upi hl f (max (hl f) l[k].t)) := by
  have hd := List.drop_eq_getElem_cons hk
  refine ⟨fun g hg => ?_, fun g hg => ?_, fun g hg => ?_, fun g hg => ?_⟩
  · rw [h.b g hg, hd]
    show tB p g (if flT p l[k] = g then hb g + sOf p l[k].p.toNat else hb g) _ = _
    rw [hf, hz]
    unfold upi
    by_cases he : f = g
    · subst he; rw [if_pos rfl]
      try rw [if_pos rfl]
    · rw [if_neg he, if_neg (fun e => he e.symm)]
  · rw [h.m g hg, hd]
    show tM p g (if flT p l[k] = g then max (hm g) (l[k].t - aOf p l[k].p.toNat) else hm g) _ = _
    rw [hf]
    unfold upi
    by_cases he : f = g
    · subst he; rw [if_pos rfl]
      try rw [if_pos rfl]
    · rw [if_neg he, if_neg (fun e => he e.symm)]
  · rw [h.l g hg, hd]
    show tL p g (if flT p l[k] = g then max (hl g) l[k].t else hl g) _ = _
    rw [hf]
    unfold upi
    by_cases he : f = g
    · subst he; rw [if_pos rfl]
      try rw [if_pos rfl]
    · rw [if_neg he, if_neg (fun e => he e.symm)]
  · have := h.b0 g hg
    unfold upi
    by_cases he : g = f
    · subst he; rw [if_pos rfl]; omega
    · rw [if_neg he]; omega
def zero24 : Array Value := #[.int .i64 0, .int .i64 0, .int .i64 0, .int .i64 0, .int .i64 0, .int .i64 0, .int .i64 0, .int .i64 0, .int .i64 0, .int .i64 0, .int .i64 0, .int .i64 0, .int .i64 0, .int .i64 0, .int .i64 0, .int .i64 0, .int .i64 0, .int .i64 0, .int .i64 0, .int .i64 0, .int .i64 0, .int .i64 0, .int .i64 0, .int .i64 0]
theorem ta_lt8 {P : Nat → Prop} (h0 : P 0) (h1 : P 1) (h2 : P 2) (h3 : P 3) (h4 : P 4) (h5 : P 5) (h6 : P 6) (h7 : P 7) (f : Nat) (hf : f < 8) : P f := by
  have h : f = 0 ∨ f = 1 ∨ f = 2 ∨ f = 3 ∨ f = 4 ∨ f = 5 ∨ f = 6 ∨ f = 7 := by omega
  rcases h with rfl | rfl | rfl | rfl | rfl | rfl | rfl | rfl <;> assumption
theorem tal_new (w : World) : TalMem (w.alloc (.cells zero24 80)) w.heap.size zero24 (fun _ => 0) (fun _ => 0) (fun _ => 0) :=
  ⟨Blk.new _ _ _, rfl, ta_lt8 rfl rfl rfl rfl rfl rfl rfl rfl, ta_lt8 rfl rfl rfl rfl rfl rfl rfl rfl, ta_lt8 rfl rfl rfl rfl rfl rfl rfl rfl⟩
set_option maxHeartbeats 4000000 in
theorem tallies_ok (A A' : Option Addr) (c c' : Nat) (p : List Pk) (l : List Sn) (S : Nat → Addr) (w : World) (B : Nat) (hB : B ≤ w.heap.size) (h : RdP w B A p) (h' : RdS w B A' l) (hS : Snt w B S [2, 3, 4, 5]) (hl : p.length ≤ 300) (hl' : l.length ≤ 1000)
    (ht : ∀ x ∈ l, tame50 x.t) (h1 : (pktErr p).1 = 0) (h3 : (delErr p.length l).1 = 0) :
    Calls Tryd.prog 14 #[.slice A p.length c, .slice A' l.length c'] w fun e w' => ∃ g cs hb hm hl, e = .returned (.tuple #[.slice (some ⟨g, 0, none⟩) 8 8, .nilIface]) ∧ TalMem w' g cs hb hm hl ∧ (∀ f, f < 8 → hb f = tB p f 0 l ∧ hm f = tM p f 0 l ∧ hl f = tL p f 0 l) ∧ Below w.heap.size w w' ∧ w.heap.size ≤ g := by
  have hpk := pktErr_okPk h1
  have Hc := Lib.hid (pktErr_nil h1)
  have hta : ∀ x ∈ p, tame50 x.a := fun x hx => by
    have := (hpk x hx).2.2.2.2
    unfold tame50
    omega
  obtain ⟨hbad, hd0⟩ := delErr_ok h3
  have hsp : ∀ y ∈ l, 0 ≤ y.p ∧ y.p.toNat < p.length := fun y hy => by
    have := sentBad_ok hbad y hy
    omega
  have Hd := Lib.hid hd0
  have Ho := Lib.hid (show delOut p l = delL p l from if_pos hbad)
  have Hdl := Lib.hid (show (delL p l).length = l.length by simp [delL])
  clear h1 h3 hbad hd0
  go_enter Tryd.func14, Tryd.ntmps14
  go_wp2_with fail
  refine (pcheck_any A c p S _ B hB h (hS.sub (by simp)) (by omega)).mono ?_
  rintro e w1 ⟨v, rfl, hv, k1⟩
  obtain rfl := hv.nil_of (by rw [Hc.out])
  have z1 := k1.size
  go_wp2_with fail
  refine (delays_any A A' c c' p l S w1 B (by omega) (h.below (k1.mono hB)) (h'.below (k1.mono hB)) ((hS.below (k1.mono hB)).sub (by simp)) (by omega) (by omega) ht hta).mono ?_
  rintro e w2 ⟨A3, c3, v, rfl, o3, hv, k2⟩
  obtain rfl := hv.nil_of (by rw [Hd.out])
  have k2' := k1.trans (k2.mono z1)
  have z2 := k2'.size
  rw [Ho.out] at o3 ⊢
  have r3 : RdI w2 w2.heap.size A3 (delL p l) := Rd.of_own o3 (by omega) iCs_len
  rw [Hdl.out]
  clear o3 hv
  have tn := tal_new w2
  go_wp2_with fail
  go_loopw [29] (fun iv wr => ∃ (k : Nat) (cs : Array Value) (hb hm hl : Nat → Int), k ≤ l.length ∧ iv = .int .i64 k ∧ TalMem wr w2.heap.size cs hb hm hl ∧ TalAt p l k hb hm hl ∧ Below w2.heap.size w2 wr) (fun iv _ => l.length - (intOf iv).toNat)
  case atStart => exact ⟨0, zero24, fun _ => 0, fun _ => 0, fun _ => 0, Nat.zero_le _, rfl, tn, ⟨fun _ _ => rfl, fun _ _ => rfl, fun _ _ => rfl, fun _ _ => ⟨by omega, by omega⟩⟩, (Below.refl _ _).alloc (Nat.le_refl _) _⟩
  case round =>
    obtain ⟨k, cs, hb, hm, hlf, hk, rfl, tm, hat, hbw⟩ := hrel
    have TM := Lib.hid tm
    have HAT := Lib.hid hat
    have zw : w2.heap.size < wr.heap.size := tm.blk.lt
    have kw := k2'.trans (hbw.mono z2)
    clear tm hat tn
    by_cases hlt : k < l.length
    · obtain ⟨q, o, rfl, hqq, d0, d1, d2⟩ := RdS.get (h'.below (kw.mono hB)) hlt
      have hsk := hsp _ (List.getElem_mem hlt)
      obtain ⟨n, hn⟩ : ∃ n : Nat, l[k].p = n := ⟨l[k].p.toNat, by omega⟩
      have hnl : n < p.length := by omega
      obtain ⟨b1, o1, rfl, hb1, f0, f1, f2⟩ := RdP.get (h.below (kw.mono hB)) hnl
      have hok := hpk _ (List.getElem_mem hnl)
      obtain ⟨f, hg⟩ : ∃ f : Nat, p[n].f = f := ⟨p[n].f.toNat, by have := hok.1; omega⟩
      have f8 : f < 8 := by have := hok.2.1; omega
      obtain ⟨z, hz⟩ : ∃ z, z = p[n].s := ⟨_, rfl⟩
      have hz1 : 1 ≤ z := by rw [hz]; exact hok.2.2.1
      have hz2 : z ≤ 1500 := by rw [hz]; exact hok.2.2.2.1
      have hfl : flT p l[k] = f := by unfold flT; rw [hn, Int.toNat_natCast, fOf_of hnl, hg, Int.toNat_natCast]
      have hsz : sOf p l[k].p.toNat = z := by rw [hn, Int.toNat_natCast, sOf_of hnl, hz]
      have haz : aOf p l[k].p.toNat = p[n].a := by rw [hn, Int.toNat_natCast, aOf_of hnl]
      have hstep := HAT.out.step hlt hfl hsz (by omega) hz2
      have hdl2 : k < (delL p l).length := by rw [Hdl.out]; exact hlt
      obtain ⟨b3, o3, rfl, hb3, g0⟩ := RdI.get (r3.below hbw) hdl2
      have hdv : (delL p l)[k] = l[k].t - aOf p l[k].p.toNat := by simp only [delL, List.getElem_map]
      rw [hdv] at g0
      obtain ⟨y, hy⟩ : ∃ y, y = l[k].t - aOf p l[k].p.toNat := ⟨_, rfl⟩
      rw [← hy] at g0 hstep
      obtain ⟨x, hx⟩ : ∃ x : Sn, x = l[k] := ⟨_, rfl⟩
      rw [hn] at d0
      rw [← hx] at d1 d2 hstep
      rw [hg] at f0
      rw [← hz] at f1
      have hbb := HAT.out.b0 f f8
      obtain ⟨X, hX⟩ : ∃ X : World, X = wr.alloc (.cells #[.int .i64 (n : Int), .int .i64 x.f, .int .i64 x.t] 44) := ⟨_, rfl⟩
      have bx : Below wr.heap.size wr X := by rw [hX]; exact (Below.refl _ _).alloc (Nat.le_refl _) _
      have old : ∀ (q : Addr) (u : Value), wr.cell? q = some u → X.cell? q = some u := fun q u hq => (bx.cell (p := q) (World.block_lt_of_cell? _ _ hq)).trans hq
      have u0 := old _ _ f0
      have u1 := old _ _ f1
      have ug := old _ _ g0
      have x0 : X.cell? ⟨wr.heap.size, 0, none⟩ = some (.int .i64 (n : Int)) := by rw [hX]; exact (Blk.new wr 44 #[.int .i64 (n : Int), .int .i64 x.f, .int .i64 x.t]).cell 0
      have x2 : X.cell? ⟨wr.heap.size, 2, none⟩ = some (.int .i64 x.t) := by rw [hX]; exact (Blk.new wr 44 #[.int .i64 (n : Int), .int .i64 x.f, .int .i64 x.t]).cell 2
      have tX : TalMem X w2.heap.size cs hb hm hlf := TM.out.same (bx.block _ zw)
      have c0 : X.cell? ⟨w2.heap.size, f * 3, none⟩ = some (.int .i64 (hb f)) := (tX.blk.cell _).trans (tX.cb f f8)
      have c1 : X.cell? ⟨w2.heap.size, f * 3 + 1, none⟩ = some (.int .i64 (hm f)) := (tX.blk.cell _).trans (tX.cm f f8)
      have c2 : X.cell? ⟨w2.heap.size, f * 3 + 2, none⟩ = some (.int .i64 (hlf f)) := (tX.blk.cell _).trans (tX.cl f f8)
      have z0 := tX.blk.frozen (f * 3)
      have u0' := u0
      have x0' := x0
      rw [hX] at u0' x0'
      have p1 : (0 : Int) ≤ (k : Int) := by omega
      have p2 : (k : Int) < (l.length : Int) := by omega
      have p3 : (0 : Int) ≤ (n : Int) := by omega
      have p4 : (n : Int) < (p.length : Int) := by omega
      have p5 : (0 : Int) ≤ (f : Int) := by omega
      have p6 : (f : Int) < 8 := by omega
      have s1 : -9223372036854775808 ≤ hb f + z := by omega
      have s2 : hb f + z ≤ 9223372036854775807 := by omega
      have kX := hbw.trans (bx.mono (Nat.le_of_lt zw))
      have TX := Lib.hid tX
      have HX := Lib.hid hX
      have Hst := Lib.hid hstep
      clear hn hok hg hz hfl hsz haz hstep hdv hy hx hX tX hsk f0 f1 f2 g0 old hdl2
      go_wp2_with fail
      rw [← HX.out]
      clear u0' x0' d0 d1 d2
      go_still_tail 13, (by kernel_rfl)
      go_wp2_with fail
      obtain ⟨Y, hY⟩ : ∃ Y : World, Y = (X.setCell ⟨w2.heap.size, f * 3, none⟩ (.int .i64 (hb f + z))).drew := ⟨_, rfl⟩
      have tY : TalMem Y w2.heap.size _ (upi hb f (hb f + z)) hm hlf := (TX.out.setB f8 (hb f + z)).same (by rw [hY]; rfl)
      have kY : Below w2.heap.size w2 Y := by rw [hY]; exact (kX.setCell (p := ⟨w2.heap.size, f * 3, none⟩) (Nat.le_refl _) _).drew
      have sx : ∀ (q : Addr) (u : Value), q.block ≠ w2.heap.size → X.cell? q = some u → Y.cell? q = some u := fun q u hq hu => by
        rw [hY]
        show (X.setCell ⟨w2.heap.size, f * 3, none⟩ (.int .i64 (hb f + z))).cell? q = some u
        rw [World.cell?_setCell_other _ _ _ _ (fun e => hq (congrArg Addr.block e).symm)]
        exact hu
      have c1' : Y.cell? ⟨w2.heap.size, f * 3 + 1, none⟩ = some (.int .i64 (hm f)) := (tY.blk.cell _).trans (tY.cm f f8)
      have c2' : Y.cell? ⟨w2.heap.size, f * 3 + 2, none⟩ = some (.int .i64 (hlf f)) := (tY.blk.cell _).trans (tY.cl f f8)
      have z1' := tY.blk.frozen (f * 3 + 1)
      have z2' := tY.blk.frozen (f * 3 + 2)
      have x2' : Y.cell? ⟨wr.heap.size, 2, none⟩ = some (.int .i64 x.t) := sx _ _ (by simp only; omega) x2
      have ug' : Y.cell? ⟨b3, o3 + k, none⟩ = some (.int .i64 y) := sx _ _ (by simp only; omega) ug
      have p9 : (k : Int) < ((delL p l).length : Int) := by rw [Hdl.out]; exact p2
      have TY := Lib.hid tY
      have KY := Lib.hid kY
      rw [← hY]
      clear hY tY kY sx c0 c1 c2 z0 x2 ug u0 u1 x0
      go_region
      go_wp2_with fail
      go_roundw
      case rel => exact ⟨k + 1, _, _, _, _, hlt, by go_num, ((TY.out.setM f8 (max (hm f) y)).setL f8 (max (hlf f) x.t)).same rfl, Hst.out, ((KY.out.setCell (p := ⟨w2.heap.size, f * 3 + 1, none⟩) (Nat.le_refl _) _).setCell (p := ⟨w2.heap.size, f * 3 + 2, none⟩) (Nat.le_refl _) _).drew⟩
      case measure => simp [intOf]; omega
    · have e : l.drop k = [] := List.drop_eq_nil_of_le (by omega)
      have Hfin := Lib.hid (show ∀ f, f < 8 → hb f = tB p f 0 l ∧ hm f = tM p f 0 l ∧ hlf f = tL p f 0 l from fun f hf => by
        have h1 := HAT.out.b f hf
        have h2 := HAT.out.m f hf
        have h3 := HAT.out.l f hf
        rw [e] at h1 h2 h3
        exact ⟨h1.symm, h2.symm, h3.symm⟩)
      clear e
      go_wp2_with fail
      go_ret2
      exact ⟨w2.heap.size, cs, hb, hm, hlf, rfl, TM.out, Hfin.out, kw, z2⟩
end Go.Proofs.YthgpbdlmadjndaaDoor
namespace Go.Proofs.YthgpbdlmadjndaaDoor
def sumZ : List Pk → Int
  | [] => 0
  | x :: r => x.s + sumZ r
theorem sumZ_perm {l l' : List Pk} (h : l.Perm l') : sumZ l = sumZ l' := by
  induction h with
  | nil => rfl
  | cons x _ ih => unfold sumZ; rw [ih]
  | swap x y l => unfold sumZ; unfold sumZ; omega
  | trans _ _ i1 i2 => exact i1.trans i2
theorem sumZ_map {α : Type} (f g : α → Pk) (l : List α) (h : ∀ x ∈ l, (f x).s = (g x).s) : sumZ (l.map f) = sumZ (l.map g) := by
  induction l with
  | nil => rfl
  | cons x r ih =>
    show (f x).s + sumZ (r.map f) = (g x).s + sumZ (r.map g)
    rw [h x List.mem_cons_self, ih fun y hy => h y (List.mem_cons_of_mem _ hy)]
theorem sumW_sumZ (p : List Pk) (l : List Nat) : sumW 1 p l = sumZ (l.map fun k => p.getD k ⟨0, 0, 0⟩) := by
  induction l with
  | nil => rfl
  | cons k r ih =>
    show 1 * sOf p k + sumW 1 p r = (p.getD k ⟨0, 0, 0⟩).s + sumZ (r.map fun k => p.getD k ⟨0, 0, 0⟩)
    rw [ih, Int.one_mul]
    rfl
theorem sumZ_gOut (p : List Pk) (a : Nat → Int) : sumZ (gOut p a) = sumZ p := by
  unfold gOut
  rw [sumZ_perm ((ordL_perm a p.length).map _), sumZ_map (fun k => (⟨fOf p k, sOf p k, a k⟩ : Pk)) (fun k => p.getD k ⟨0, 0, 0⟩) (List.range p.length) (fun k _ => rfl), range_getD]
/-- Bytes of the flows below F. -/
def sB (p : List Pk) (l : List Sn) : Nat → Int
  | 0 => 0
  | f + 1 => sB p l f + tB p f 0 l
theorem tB_add (p : List Pk) (f : Nat) (l : List Sn) (n : Int) : tB p f n l = n + tB p f 0 l := by
  induction l generalizing n with
  | nil => unfold tB; omega
  | cons x r ih =>
    unfold tB
    rw [ih (if flT p x = f then n + sOf p x.p.toNat else n), ih (if flT p x = f then 0 + sOf p x.p.toNat else 0)]
    split <;> omega
theorem sB_cons (p : List Pk) (x : Sn) (r : List Sn) (F : Nat) : sB p (x :: r) F = sB p r F + if flT p x < F then sOf p x.p.toNat else 0 := by
  induction F with
  | zero => rfl
  | succ F ih =>
    unfold sB
    rw [ih]
    have e : tB p F 0 (x :: r) = tB p F (if flT p x = F then 0 + sOf p x.p.toNat else 0) r := rfl
    rw [e, tB_add]
    split <;> split <;> split <;> omega
theorem sB_all (p : List Pk) (l : List Sn) (h : ∀ x ∈ l, flT p x < 8) : sB p l 8 = sumW 1 p (l.map fun x => x.p.toNat) := by
  induction l with
  | nil => rfl
  | cons x r ih =>
    rw [sB_cons, if_pos (h x List.mem_cons_self), ih fun y hy => h y (List.mem_cons_of_mem _ hy)]
    show _ = 1 * sOf p x.p.toNat + sumW 1 p (r.map fun x => x.p.toNat)
    omega
theorem flT_lt {p : List Pk} (hp : ∀ x ∈ p, okPk x) (x : Sn) (h : x.p.toNat < p.length) : flT p x < 8 := by
  unfold flT
  rw [fOf_of h]
  have := hp _ (List.getElem_mem h)
  have := this.1
  have := (hp _ (List.getElem_mem h)).2.1
  omega
theorem sB_link {p : List Pk} {per : Int} {l : List Sn} (h : LinkIs p per l) : sB p l 8 = sumZ p := by
  have hp := (lookErr_ok h.look).2.2.1
  rw [sB_all p l fun x hx => flT_lt hp x (h.each x hx).2.1, sumW_perm (perm_range (n := p.length) h.nd (by rw [List.length_map]; exact h.len) fun y hy => by
    obtain ⟨x, hx, rfl⟩ := List.mem_map.1 hy
    exact (h.each x hx).2.1), sumW_sumZ, range_getD]
/-- Who has bytes has waited, and was through no sooner than that. -/
theorem tal_all {p : List Pk} (f : Nat) (l : List Sn) (h : ∀ x ∈ l, 1 ≤ x.t - aOf p x.p.toNat ∧ 0 ≤ aOf p x.p.toNat) (n m k : Int) (h1 : 0 < n → 1 ≤ m) (h2 : m ≤ k) : (0 < tB p f n l → 1 ≤ tM p f m l) ∧ tM p f m l ≤ tL p f k l := by
  induction l generalizing n m k with
  | nil => exact ⟨h1, h2⟩
  | cons x r ih =>
    unfold tB tM tL
    obtain ⟨a1, a2⟩ := h x List.mem_cons_self
    by_cases hf : flT p x = f
    · rw [if_pos hf, if_pos hf, if_pos hf]
      exact ih (fun y hy => h y (List.mem_cons_of_mem _ hy)) _ _ _ (fun _ => by omega) (by omega)
    · rw [if_neg hf, if_neg hf, if_neg hf]
      exact ih (fun y hy => h y (List.mem_cons_of_mem _ hy)) _ _ _ h1 h2
theorem tal_link {p : List Pk} {per : Int} {l : List Sn} (h : LinkIs p per l) (f : Nat) : (0 < tB p f 0 l → 1 ≤ tM p f 0 l) ∧ tM p f 0 l ≤ tL p f 0 l := by
  obtain ⟨-, -, hp, h0, -⟩ := lookErr_ok h.look
  refine tal_all f l (fun x hx => ?_) 0 0 0 (fun e => by omega) (Int.le_refl _)
  obtain ⟨e1, e2, e3, e4⟩ := h.each x hx
  have hok := hp _ (List.getElem_mem e2)
  have hs := sOf_of e2
  have ha := aOf_of e2
  have : per * 1 ≤ per * sOf p x.p.toNat := Int.mul_le_mul_of_nonneg_left (by rw [hs]; exact hok.2.2.1) (by omega)
  refine ⟨by omega, by rw [ha]; exact hok.2.2.2.2.1⟩
end Go.Proofs.YthgpbdlmadjndaaDoor
namespace Go.Proofs.YthgpbdlmadjndaaDoor
open Go.RowKit
set_option maxRecDepth 100000
theorem pktBad_good (l : List Pk) (m : Int) (k : Nat) (hx : ∀ x ∈ l, okPk x ∧ m ≤ x.a) (hs : l.Pairwise (fun x y => x.a ≤ y.a)) : (pktBad l m k).1 = 0 := by
  induction l generalizing m k with
  | nil => rfl
  | cons x r ih =>
    obtain ⟨h1, h2⟩ := hx x List.mem_cons_self
    obtain ⟨h3, h4⟩ := List.pairwise_cons.1 hs
    unfold pktBad
    rw [if_pos h1, if_neg (by omega)]
    exact ih x.a (k + 1) (fun y hy => ⟨(hx y (List.mem_cons_of_mem _ hy)).1, h3 y hy⟩) h4
theorem rollOk_good {acc : List Pk} {t : Int} (h : RollOk acc t) (ht : t ≤ 1099511627776) : (pktErr acc).1 = 0 := by
  unfold pktErr
  rw [if_neg (by have := h.len; omega)]
  refine pktBad_good acc 0 0 (fun x hx => ?_) h.so
  have := h.ok x hx
  unfold okPk
  exact ⟨⟨by omega, by omega, by omega, by omega, by omega, by omega⟩, by omega⟩
set_option maxHeartbeats 1000000 in
theorem tallies_bad (A A' : Option Addr) (c c' : Nat) (p : List Pk) (l : List Sn) (S : Nat → Addr) (w : World) (B : Nat) (hB : B ≤ w.heap.size) (h : RdP w B A p) (h' : RdS w B A' l) (hS : Snt w B S [2, 3, 4, 5]) (hl : p.length ≤ 300) (hl' : l.length ≤ 1000)
    (ht : ∀ x ∈ l, tame50 x.t) (h1 : (pktErr p).1 = 0) (h3 : (delErr p.length l).1 ≠ 0) :
    Calls Tryd.prog 14 #[.slice A p.length c, .slice A' l.length c'] w fun e w' => ∃ v, e = .returned (.tuple #[.slice none 0 0, v]) ∧ Er w' w'.heap.size S v (delErr p.length l).1 (delErr p.length l).2 ∧ Below w.heap.size w w' := by
  have hpk := pktErr_okPk h1
  have Hc := Lib.hid (pktErr_nil h1)
  have hta : ∀ x ∈ p, tame50 x.a := fun x hx => by
    have := (hpk x hx).2.2.2.2
    unfold tame50
    omega
  have Hd := Lib.hid h3
  clear h1 h3
  go_enter Tryd.func14, Tryd.ntmps14
  go_wp2_with fail
  refine (pcheck_any A c p S _ B hB h (hS.sub (by simp)) (by omega)).mono ?_
  rintro e w1 ⟨v, rfl, hv, k1⟩
  obtain rfl := hv.nil_of (by rw [Hc.out])
  have z1 := k1.size
  go_wp2_with fail
  refine (delays_any A A' c c' p l S w1 B (by omega) (h.below (k1.mono hB)) (h'.below (k1.mono hB)) ((hS.below (k1.mono hB)).sub (by simp)) (by omega) (by omega) ht hta).mono ?_
  rintro e w2 ⟨A3, c3, v, rfl, o3, hv, k2⟩
  obtain ⟨T, a, rfl⟩ := hv.some_of Hd.out
  go_wp2_with fail
  go_ret2
  exact ⟨_, rfl, hv, k1.trans (k2.mono z1)⟩
def rs2 : List Int := [-1, 22]
theorem rolled_any (w : World) : Calls Tryd.prog 9 #[] w fun e w' => e = .returned (.bool true) ∧ Below w.heap.size w w' := by
  have Hl := Lib.hid (show rollL rs2 = [⟨0, 2, 1⟩] by decide)
  obtain ⟨wa, hwa⟩ : ∃ wa : World, wa = w.alloc (.cells #[.int .i64 (-1), .int .i64 22] 3) := ⟨_, rfl⟩
  have ba : Below w.heap.size w wa := by rw [hwa]; exact (Below.refl _ _).alloc (Nat.le_refl _) _
  have sa : wa.heap.size = w.heap.size + 1 := by rw [hwa]; simp
  have hq : RdI wa wa.heap.size (some ⟨w.heap.size, 0, none⟩) rs2 := by
    refine Rd.of_block (cs := #[.int .i64 (-1), .int .i64 22]) (T := 3) (z := (0, 0)) ?_ rfl (by omega) (by omega) iCs_len
    rw [hwa]
    exact Blk.new _ _ _
  have Hwa := Lib.hid hwa
  clear hwa sa
  go_enter Tryd.func9, Tryd.ntmps9
  go_wp2_with fail
  rw [← Hwa.out]
  refine (packets_any (some ⟨w.heap.size, 0, none⟩) 2 rs2 wa wa.heap.size (Nat.le_refl _) hq (by decide) (by decide)).mono ?_
  rintro e w1 ⟨A', c', rfl, row, hb1⟩
  rw [Hl.out] at row ⊢
  obtain ⟨b, o, rfl, hb, c0, c1, c2⟩ := RdP.get (RdP.of_own row) (show 0 < [(⟨0, 2, 1⟩ : Pk)].length by decide)
  simp only [Nat.zero_mul, Nat.add_zero, List.getElem_cons_zero] at c0 c1 c2
  clear row
  go_wp2_with fail
  go_ret
  exact ⟨rfl, ba.trans (hb1.mono ba.size)⟩
end Go.Proofs.YthgpbdlmadjndaaDoor
