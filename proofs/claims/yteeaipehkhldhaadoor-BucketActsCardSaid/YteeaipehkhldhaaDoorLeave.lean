/- Package bucket's leave: buckets in a row of pointers of the call's own. Conditions written at each. -/
import Derived.Test.YteeaipehkhldhaaDoorClone
namespace Go.Proofs.YteeaipehkhldhaaDoor
open Go.RowKit
set_option maxRecDepth 100000
/-- A bucket's pointer in a row. -/
def pC (x : Nat × Bu) : List Value := [.pointer (some ⟨x.1, 0, none⟩)]
theorem pC_len (x : Nat × Bu) : (pC x).length = 1 := rfl
theorem pC_one (x : Nat × Bu) : ∀ u ∈ pC x, u.oneCell' = true := by simp [pC, Value.oneCell']
structure BsMem (base : Nat) (w : World) (A : Option Addr) (c : Nat) (bs : List (Nat × Bu)) : Prop where
  row : w.ownsRow base 53 1 (.slice A bs.length c) bs.length (bs.flatMap pC)
  bk : ∀ x ∈ bs, Blk w x.1 106 x.2.cells
  nd : (bs.map (·.1)).Nodup
  ge : ∀ x ∈ bs, base ≤ x.1
  far : ∀ x ∈ bs, (Value.slice A bs.length c).ownBlock ≠ some x.1
structure OnlyGs (base : Nat) (bs : List (Nat × Bu)) (w w' : World) : Prop where
  bel : Below base w w'
  blk : ∀ b, (∀ x ∈ bs, x.1 ≠ b) → w'.heap[b]? = w.heap[b]?
theorem OnlyGs.refl (base : Nat) (bs : List (Nat × Bu)) (w : World) : OnlyGs base bs w w := ⟨Below.refl _ _, fun _ _ => rfl⟩
def tookP (t n : Int) (x : Nat × Bu) : Nat × Bu := (x.1, tookB x.2 t n)
def leaveT (bs : List (Nat × Bu)) (from_ n t : Int) : Option Int := match bs with
  | [] => some t
  | x :: r => if (whenB x.2 from_ n).1 = 0 then leaveT r from_ n (if t < (whenB x.2 from_ n).2 then (whenB x.2 from_ n).2 else t) else none
theorem whenB_le {s : Bu} (h : BuOk s) {t n : Int} (hw : (whenB s t n).1 = 0) : lookB s t n = 0 ∧ t ≤ (whenB s t n).2 ∧ (whenB s t n).2 ≤ 1099511627776 := by
  have := when_ok h (T := (whenB s t n).2) (Prod.ext hw rfl)
  exact ⟨this.1, this.2.1, this.2.2.1⟩
theorem leaveT_ok {bs : List (Nat × Bu)} {from_ n t T : Int} (hb : ∀ x ∈ bs, BuOk x.2) (h : leaveT bs from_ n t = some T) :
    t ≤ T ∧ (∀ x ∈ bs, (whenB x.2 from_ n).1 = 0 ∧ (whenB x.2 from_ n).2 ≤ T) ∧ (t ≤ 1099511627776 → T ≤ 1099511627776) ∧ (T = t ∨ ∃ x ∈ bs, T = (whenB x.2 from_ n).2) := by
  induction bs generalizing t with
  | nil =>
    simp only [leaveT, Option.some.injEq] at h
    subst h
    exact ⟨Int.le_refl _, by simp, fun h => h, .inl rfl⟩
  | cons x r ih =>
    unfold leaveT at h
    split at h
    · rename_i hw
      obtain ⟨h1, h2, h3, h4⟩ := ih (fun y hy => hb y (List.mem_cons_of_mem _ hy)) h
      have hx := whenB_le (hb x List.mem_cons_self) hw
      have e1 : t ≤ (if t < (whenB x.2 from_ n).2 then (whenB x.2 from_ n).2 else t) := by split <;> omega
      have e2 : (whenB x.2 from_ n).2 ≤ (if t < (whenB x.2 from_ n).2 then (whenB x.2 from_ n).2 else t) := by split <;> omega
      have e3 : t ≤ 1099511627776 → (if t < (whenB x.2 from_ n).2 then (whenB x.2 from_ n).2 else t) ≤ 1099511627776 := by split <;> omega
      refine ⟨by omega, fun y hy => ?_, fun ht => h3 (e3 ht), ?_⟩
      · rcases List.mem_cons.1 hy with rfl | hy
        · exact ⟨hw, by omega⟩
        · exact h2 y hy
      · rcases h4 with h4 | ⟨y, hy, h4⟩
        · rw [h4]
          split
          · exact .inr ⟨x, List.mem_cons_self, rfl⟩
          · exact .inl rfl
        · exact .inr ⟨y, List.mem_cons_of_mem _ hy, h4⟩
    · cases h
theorem look_after {s : Bu} (h : BuOk s) {from_ n t : Int} (hl : lookB s from_ n = 0) (h1 : from_ ≤ t) (h2 : t ≤ 1099511627776) : lookB s t n = 0 := by
  obtain ⟨q1, q2, q3, q4, q5⟩ := lookB_ok hl
  unfold lookB
  rw [if_neg (by omega), if_neg (by omega)]
section
variable {base : Nat} {w w' : World} {A : Option Addr} {c : Nat} {bs : List (Nat × Bu)}
theorem BsMem.drewN (h : BsMem base w A c bs) (m : Nat) : BsMem base (w.drewN m) A c bs := ⟨h.row, h.bk, h.nd, h.ge, h.far⟩
theorem BsMem.rd (h : BsMem base w A c bs) : Rd w w.heap.size 1 pC A bs := Rd.of_own h.row (by omega) pC_len
theorem BsMem.get (h : BsMem base w A c bs) {k : Nat} (hk : k < bs.length) : ∃ b o, A = some ⟨b, o, none⟩ ∧ b < w.heap.size ∧ w.cell? ⟨b, o + k, none⟩ = some (.pointer (some ⟨bs[k].1, 0, none⟩)) := by
  obtain ⟨b, o, e, hb, hc⟩ := h.rd.at_ hk
  have := hc 0 _ rfl
  simp only [Nat.mul_one, Nat.add_zero] at this
  exact ⟨b, o, e, hb, this⟩
/-- Behind what has taken: those ahead of place k have. -/
def tookTo (bs : List (Nat × Bu)) (t n : Int) (k : Nat) : List (Nat × Bu) := (bs.take k).map (tookP t n) ++ bs.drop k
theorem tookTo_len (bs : List (Nat × Bu)) (t n : Int) (k : Nat) : (tookTo bs t n k).length = bs.length := by
  unfold tookTo
  rw [List.length_append, List.length_map, List.length_take, List.length_drop]
  omega
theorem tookTo_fst (bs : List (Nat × Bu)) (t n : Int) (k : Nat) : (tookTo bs t n k).map (·.1) = bs.map (·.1) := by
  unfold tookTo
  rw [List.map_append, List.map_map, show (fun x : Nat × Bu => x.1) ∘ tookP t n = fun x => x.1 from rfl, ← List.map_append, List.take_append_drop]
theorem tookTo_zero (bs : List (Nat × Bu)) (t n : Int) : tookTo bs t n 0 = bs := rfl
theorem tookTo_all (bs : List (Nat × Bu)) (t n : Int) : tookTo bs t n bs.length = bs.map (tookP t n) := by simp [tookTo]
theorem tookTo_at {bs : List (Nat × Bu)} {t n : Int} {k : Nat} (hk : k < bs.length) (h : k < (tookTo bs t n k).length) : (tookTo bs t n k)[k] = bs[k] := by
  simp only [tookTo]
  rw [List.getElem_append_right (by simp; omega)]
  simp
  congr 1
  omega
theorem tookTo_succ {bs : List (Nat × Bu)} {t n : Int} {k : Nat} (hk : k < bs.length) : tookTo bs t n (k + 1) = (tookTo bs t n k).set k (tookP t n bs[k]) := by
  unfold tookTo
  have e : ((bs.take k).map (tookP t n)).length = k := by simp; omega
  rw [List.set_append_right _ _ (by omega), e, Nat.sub_self, List.take_succ_eq_append_getElem hk, List.map_append, List.drop_eq_getElem_cons hk, List.append_assoc]
  rfl
theorem BsMem.step (h : BsMem base w A c bs) {k : Nat} (hk : k < bs.length) {s' : Bu} (ho : OnlyG bs[k].1 w w') (hb : Blk w' bs[k].1 106 s'.cells) : BsMem base w' A c (bs.set k (bs[k].1, s')) := by
  have hfst : (bs.set k (bs[k].1, s')).map (·.1) = bs.map (·.1) := by
    rw [List.map_set]
    apply List.ext_getElem?
    intro j
    rw [List.getElem?_set]
    split
    · rename_i h9; subst h9; simp [hk]
    · rfl
  have hflat : (bs.set k (bs[k].1, s')).flatMap pC = bs.flatMap pC := by
    have : ∀ l : List (Nat × Bu), l.flatMap pC = (l.map (·.1)).map fun g => Value.pointer (some ⟨g, 0, none⟩) := fun l => by
      induction l with
      | nil => rfl
      | cons x r ih => rw [List.flatMap_cons, ih]; rfl
    rw [this, this, hfst]
  refine ⟨?_, fun x hx => ?_, by rw [hfst]; exact h.nd, fun x hx => ?_, fun x hx => ?_⟩
  · rw [hflat, List.length_set]
    have hne := h.far _ (List.getElem_mem hk)
    obtain ⟨h1, h2⟩ := h.row
    refine ⟨h1, ?_⟩
    rcases h2 with h2 | ⟨g', cap, cur, hv, hg', hh, r⟩
    · exact .inl h2
    · exact .inr ⟨g', cap, cur, hv, hg', (ho.blk g' (fun e => hne (by rw [hv, e]; rfl))).trans hh, r⟩
  · obtain ⟨j, hj, e⟩ := List.getElem_of_mem hx
    rw [List.length_set] at hj
    rw [List.getElem_set] at e
    split at e
    · subst e; exact hb
    · rename_i hjk
      subst e
      have hne : bs[j].1 ≠ bs[k].1 := fun e => by
        have h9 := List.pairwise_iff_getElem.1 h.nd
        rcases Nat.lt_or_gt_of_ne hjk with h8 | h8
        · exact h9 k j (by simpa using hk) (by simpa using hj) h8 (by simpa using e.symm)
        · exact h9 j k (by simpa using hj) (by simpa using hk) h8 (by simpa using e)
      exact (h.bk _ (List.getElem_mem hj)).same (ho.blk _ hne)
  · have : x.1 ∈ bs.map (·.1) := by rw [← hfst]; exact List.mem_map.2 ⟨x, hx, rfl⟩
    obtain ⟨y, hy, e⟩ := List.mem_map.1 this
    have := h.ge y hy
    omega
  · rw [List.length_set]
    have : x.1 ∈ bs.map (·.1) := by rw [← hfst]; exact List.mem_map.2 ⟨x, hx, rfl⟩
    obtain ⟨y, hy, e⟩ := List.mem_map.1 this
    have := h.far y hy
    rw [e] at this
    exact this
end
set_option maxHeartbeats 1000000 in
theorem leave_none (A : Option Addr) (c : Nat) (bs : List (Nat × Bu)) (from_ n : Int) (S : Nat → Addr) (w : World) (B base : Nat) (hB : B ≤ base) (hS : Snt w B S [2, 4, 5]) (hm : BsMem base w A c bs) (hok : ∀ x ∈ bs, BuOk x.2) (hl : bs.length ≤ 1000) (hn : leaveT bs from_ n from_ = none) :
    Calls Tryd.prog 66 #[.slice A bs.length c, .int .i64 from_, .int .i64 n] w fun e w' => (∃ T a, e = .returned (.tuple #[.int .i64 0, .iface T (.pointer (some a))])) ∧ ∃ m, w' = w.drewN m := by
  have Hn := Lib.hid hn
  have Hok := Lib.hid hok
  clear hn hok
  go_enter Tryd.func66, Tryd.ntmps66
  go_wp2_with fail
  go_loopw [8, 20] (fun tv iv wr => ∃ (k m : Nat) (t : Int), k ≤ bs.length ∧ iv = .int .i64 k ∧ tv = .int .i64 t ∧ leaveT (bs.drop k) from_ n t = none ∧ wr = w.drewN m) (fun _ iv _ => bs.length - (intOf iv).toNat)
  case atStart => exact ⟨0, 0, from_, Nat.zero_le _, rfl, rfl, Hn.out, rfl⟩
  case round =>
    obtain ⟨k, m, t, hk, rfl, rfl, hlv, rfl⟩ := hrel
    by_cases hlt : k < bs.length
    · obtain ⟨b, o, rfl, hb, d0⟩ := hm.get hlt
      rw [List.drop_eq_getElem_cons hlt] at hlv
      have hx := Hok.out _ (List.getElem_mem hlt)
      have hbk := (hm.bk _ (List.getElem_mem hlt)).drewN m
      have hge := hm.ge _ (List.getElem_mem hlt)
      by_cases hw : (whenB bs[k].2 from_ n).1 = 0
      · have Hlv := Lib.hid (show leaveT (bs.drop (k + 1)) from_ n (if t < (whenB bs[k].2 from_ n).2 then (whenB bs[k].2 from_ n).2 else t) = none by rw [← hlv]; unfold leaveT; rw [if_pos hw]; cases bs.drop (k + 1) <;> rfl)
        have Hw := Lib.hid hw
        have Hx := Lib.hid hx
        have Hbk := Lib.hid hbk
        clear hlv hw hx hbk
        go_wp2_with fail
        refine (when_any bs[k].1 bs[k].2 from_ n S (w.drewN m) B (Nat.le_trans hB hge) hS Hbk.out Hx.out).mono ?_
        rintro e w1 ⟨v, rfl, hv, m1, rfl⟩
        obtain rfl := hv.nil_of Hw.out
        go_wp2_with fail
        go_roundw
        case rel => exact ⟨k + 1, _, _, hlt, by go_num, rfl, Hlv.out, by first | rfl | exact World.drewN_drewN _ _ _⟩
        case measure => simp [intOf]; omega
      · have Hw := Lib.hid hw
        have Hx := Lib.hid hx
        have Hbk := Lib.hid hbk
        clear hlv hw hx hbk
        go_wp2_with fail
        refine (when_any bs[k].1 bs[k].2 from_ n S (w.drewN m) B (Nat.le_trans hB hge) hS Hbk.out Hx.out).mono ?_
        rintro e w1 ⟨v, rfl, hv, m1, rfl⟩
        obtain ⟨T, a, rfl⟩ := hv.some_of Hw.out
        go_wp2_with fail
        go_ret2
        exact ⟨⟨T, a, rfl⟩, _, by first | rfl | exact World.drewN_drewN _ _ _⟩
    · rw [List.drop_eq_nil_of_le (by omega)] at hlv
      cases hlv
theorem OnlyGs.step {base : Nat} {bs : List (Nat × Bu)} {w w1 w2 : World} (h : OnlyGs base bs w w1) {x : Nat × Bu} (hx : x ∈ bs) (hg : base ≤ x.1) (ho : OnlyG x.1 w1 w2) : OnlyGs base bs w w2 :=
  ⟨h.bel.trans (ho.bel.mono hg), fun b hb => (ho.blk b (fun e => hb x hx e.symm)).trans (h.blk b hb)⟩
theorem OnlyGs.drewN {base : Nat} {bs : List (Nat × Bu)} {w w1 : World} (h : OnlyGs base bs w w1) (m : Nat) : OnlyGs base bs w (w1.drewN m) := ⟨below_drewN h.bel m, h.blk⟩
set_option maxHeartbeats 2000000 in
theorem leave_some (A : Option Addr) (c : Nat) (bs : List (Nat × Bu)) (from_ n T : Int) (S : Nat → Addr) (w : World) (B base : Nat) (hB : B ≤ base) (hS : Snt w B S [2, 4, 5]) (hm : BsMem base w A c bs) (hok : ∀ x ∈ bs, BuOk x.2) (hl : bs.length ≤ 1000) (hf : from_ ≤ 1099511627776) (hn : leaveT bs from_ n from_ = some T) :
    Calls Tryd.prog 66 #[.slice A bs.length c, .int .i64 from_, .int .i64 n] w fun e w' => e = .returned (.tuple #[.int .i64 T, .nilIface]) ∧ BsMem base w' A c (bs.map (tookP T n)) ∧ OnlyGs base bs w w' := by
  obtain ⟨l1, l2, l3, _⟩ := leaveT_ok hok hn
  have hT := l3 hf
  have Hl := Lib.hid l2
  have Hn := Lib.hid hn
  have Hok := Lib.hid hok
  clear hn hok l2 l3
  go_enter Tryd.func66, Tryd.ntmps66
  go_wp2_with fail
  go_loopw [8, 20] (fun tv iv wr => ∃ (k m : Nat) (t : Int), k ≤ bs.length ∧ iv = .int .i64 k ∧ tv = .int .i64 t ∧ leaveT (bs.drop k) from_ n t = some T ∧ wr = w.drewN m) (fun _ iv _ => bs.length - (intOf iv).toNat)
  case atStart => exact ⟨0, 0, from_, Nat.zero_le _, rfl, rfl, Hn.out, rfl⟩
  case round =>
    obtain ⟨k, m, t, hk, rfl, rfl, hlv, rfl⟩ := hrel
    by_cases hlt : k < bs.length
    · obtain ⟨b, o, rfl, hb, d0⟩ := hm.get hlt
      rw [List.drop_eq_getElem_cons hlt] at hlv
      have hx := Hok.out _ (List.getElem_mem hlt)
      have hbk := (hm.bk _ (List.getElem_mem hlt)).drewN m
      have hge := hm.ge _ (List.getElem_mem hlt)
      have hw := (Hl.out _ (List.getElem_mem hlt)).1
      have Hlv := Lib.hid (show leaveT (bs.drop (k + 1)) from_ n (if t < (whenB bs[k].2 from_ n).2 then (whenB bs[k].2 from_ n).2 else t) = some T by rw [← hlv, leaveT, if_pos hw])
      have Hw := Lib.hid hw
      have Hx := Lib.hid hx
      have Hbk := Lib.hid hbk
      clear hlv hw hx hbk
      go_wp2_with fail
      refine (when_any bs[k].1 bs[k].2 from_ n S (w.drewN m) B (Nat.le_trans hB hge) hS Hbk.out Hx.out).mono ?_
      rintro e w1 ⟨v, rfl, hv, m1, rfl⟩
      obtain rfl := hv.nil_of Hw.out
      go_wp2_with fail
      go_roundw
      case rel => exact ⟨k + 1, _, _, hlt, by go_num, rfl, Hlv.out, by first | rfl | exact World.drewN_drewN _ _ _⟩
      case measure => simp [intOf]; omega
    · rw [List.drop_eq_nil_of_le (by omega)] at hlv
      simp only [leaveT, Option.some.injEq] at hlv
      subst hlv
      obtain ⟨w1, hw1⟩ : ∃ w1 : World, w1 = w.drewN m := ⟨_, rfl⟩
      have hm1 : BsMem base w1 A c bs := by rw [hw1]; exact hm.drewN m
      have hS1 : Snt w1 B S [2, 5] := by rw [hw1]; exact (show Snt (w.drewN m) B S [2, 4, 5] from hS).sub (by simp)
      have on0 : OnlyGs base bs w w1 := by rw [hw1]; exact (OnlyGs.refl _ _ _).drewN m
      rw [← hw1]
      clear hw1
      go_wp2_with fail
      go_loopw [40] (fun iv wr => ∃ k : Nat, k ≤ bs.length ∧ iv = .int .i64 k ∧ BsMem base wr A c (tookTo bs t n k) ∧ OnlyGs base bs w wr ∧ OnlyGs base bs w1 wr) (fun iv _ => bs.length - (intOf iv).toNat)
      case atStart => exact ⟨0, Nat.zero_le _, rfl, hm1, on0, OnlyGs.refl _ _ _⟩
      case round =>
        obtain ⟨k2, hk2, rfl, hmk, onk, onk1⟩ := hrel
        have Hmk := Lib.hid hmk
        clear hmk
        by_cases hlt2 : k2 < bs.length
        · have hlt3 : k2 < (tookTo bs t n k2).length := by rw [tookTo_len]; exact hlt2
          obtain ⟨b, o, rfl, hb, d0⟩ := Hmk.out.get hlt3
          rw [tookTo_at hlt2 hlt3] at d0
          have hbk := Hmk.out.bk _ (List.getElem_mem hlt3)
          rw [tookTo_at hlt2 hlt3] at hbk
          have hge := hm1.ge _ (List.getElem_mem hlt2)
          have hx := Hok.out _ (List.getElem_mem hlt2)
          have hlk : lookB bs[k2].2 t n = 0 := look_after hx (whenB_le hx (Hl.out _ (List.getElem_mem hlt2)).1).1 l1 hT
          have Hx := Lib.hid hx
          have Hbk := Lib.hid hbk
          have Hlk := Lib.hid hlk
          have hSk : Snt wr B S [2, 5] := hS1.below (onk1.bel.mono hB)
          have HS := Lib.hid hSk
          have Hat := Lib.hid (tookTo_at hlt2 hlt3)
          clear hx hbk hlk hSk
          go_wp2_with fail
          refine (take_any bs[k2].1 bs[k2].2 t n S wr B (Nat.le_trans hB hge) HS.out Hbk.out Hx.out).mono ?_
          rintro e w5 ⟨v5, rfl, e5, b5, on5⟩
          obtain rfl := e5.nil_of Hlk.out
          have hm5 : BsMem base w5 (some ⟨b, o, none⟩) c (tookTo bs t n (k2 + 1)) := by
            rw [tookTo_succ hlt2]
            have h9 := Hmk.out.step hlt3 (s' := tookB bs[k2].2 t n) (w' := w5) (by rw [Hat.out]; exact on5) (by rw [Hat.out]; exact b5)
            rw [Hat.out] at h9
            exact h9
          have Hm5 := Lib.hid hm5
          clear hm5
          go_wp2_with fail
          go_roundw
          case rel => exact ⟨k2 + 1, hlt2, by go_num, Hm5.out, onk.step (List.getElem_mem hlt2) hge on5, onk1.step (List.getElem_mem hlt2) hge on5⟩
          case measure => simp [intOf]; omega
        · have Hm5 := Lib.hid (show BsMem base wr A c (bs.map (tookP t n)) by
            have h9 := Hmk.out
            rw [show k2 = bs.length by omega, tookTo_all] at h9
            exact h9)
          go_wp2_with fail
          go_ret2
          exact ⟨rfl, Hm5.out, onk⟩
end Go.Proofs.YteeaipehkhldhaaDoor
