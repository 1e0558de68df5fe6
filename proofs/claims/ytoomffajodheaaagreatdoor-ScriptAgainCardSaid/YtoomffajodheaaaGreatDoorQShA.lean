/- slices.Clone of packets. Condition: the list fits memory. Package bucket's leave: buckets in a row of pointers of the call's own. Conditions written at each. What a shaper makes of packets, plainly. No program. No condition. TURNER, plainly: what leaves a shaper fits its curve, keeps its order, and leaves no sooner than it came; what fits leaves at once; shaped again it is the same. No program. No condition. -/
import Derived.Test.YtoomffajodheaaaGreatDoorQBkM
import Derived.Laws.OwnMore
set_option linter.all false
namespace Go.Proofs.YtoomffajodheaaaGreatDoor
open Go.RowKit
set_option maxRecDepth 100000
set_option maxHeartbeats 400000 in
theorem clonePk_any (A : Option Addr) (c : Nat) (l : List Pk) (w : World) (B : Nat) (hB : B ≤ w.heap.size) (h : RdP w B A l) (hl : l.length ≤ 4294967296) :
    Calls Tryz.prog 96 #[.slice A l.length c] w (EndOwn Pk.cs 3 53 l w) := by
  obtain ⟨i0, hi0, hz0, hz1, hz2⟩ := info_parts infoPkA
  have r1 := @Lib.run_eql_slice_nil Tryz.prog
  cases A with
  | none =>
    obtain rfl : l = [] := by
      rcases l with _ | ⟨x, r⟩
      · rfl
      · obtain ⟨b, o, h9, _⟩ := h (by simp)
        cases h9
    go_enter Tryz.func96, Tryz.ntmps96
    go_wp2_with fail
    go_ret
    exact ⟨none, 0, rfl, ⟨by simp, .inl ⟨rfl, rfl⟩⟩, Below.refl _ _⟩
  | some ad =>
    have hown : (w.alloc (.cells #[] 53)).ownsRow w.heap.size 53 3 (.slice (some ⟨w.heap.size, 0, none⟩) 0 0) 0 [] := World.ownsRow_made w #[] 0 (Nat.le_refl _) (Nat.zero_le _) rfl
    have kb : Below w.heap.size w (w.alloc (.cells #[] 53)) := (Below.refl _ _).alloc (Nat.le_refl _) _
    go_enter Tryz.func96, Tryz.ntmps96
    go_wp2_with (at_builtin; refine wpList_append_rd _ Pk.cs rfl (.tmp 5) (.tmp 6) 46 rfl w.heap.size 53 i0 _ 3 24 Tryz.underlying46 hi0 hz0 hz1 hz2 rfl (by omega) Pk.cs_len Pk.cs_one (.slice (some ⟨w.heap.size, 0, none⟩) 0 0) 0 [] rfl hown B (some ad) c l rfl (h.below (kb.mono hB)) (by simp only [maxLen]; omega) (by omega) (le_alloc (Nat.le_refl _) _) ?_; intro v1 w1 hown1 hg1 hat1; simp only [Nat.zero_add, List.nil_append] at hown1; obtain ⟨A1, c1, rfl⟩ := own_slice hown1 (by omega))
    go_ret
    exact ⟨A1, c1, rfl, hown1, below_app kb hown hg1 (Nat.le_refl _) (le_alloc (Nat.le_refl _) _)⟩
end Go.Proofs.YtoomffajodheaaaGreatDoor
namespace Go.Proofs.YtoomffajodheaaaGreatDoor
open Go.RowKit
set_option maxRecDepth 100000
/-- A bucket's pointer in a row. -/
def pC (x : Nat × Bu) : List Value := [.pointer (some ⟨x.1, 0, none⟩)]
theorem pC_len (x : Nat × Bu) : (pC x).length = 1 := rfl
theorem pC_one (x : Nat × Bu) : ∀ u ∈ pC x, u.oneCell' = true := by simp [pC, Value.oneCell']
structure BsMem (base : Nat) (w : World) (A : Option Addr) (c : Nat) (bs : List (Nat × Bu)) : Prop where
  row : w.ownsRow base 266 1 (.slice A bs.length c) bs.length (bs.flatMap pC)
  bk : ∀ x ∈ bs, Blk w x.1 288 x.2.cells
  nd : (bs.map (·.1)).Nodup
  ge : ∀ x ∈ bs, base ≤ x.1
  far : ∀ x ∈ bs, (Value.slice A bs.length c).ownBlock ≠ some x.1
structure OnlyGs (base : Nat) (bs : List (Nat × Bu)) (w w' : World) : Prop where
  bel : Below base w w'
  blk : ∀ b, (∀ x ∈ bs, x.1 ≠ b) → w'.heap[b]? = w.heap[b]?
theorem OnlyGs.refl (base : Nat) (bs : List (Nat × Bu)) (w : World) : OnlyGs base bs w w := ⟨Below.refl _ _, fun _ _ => rfl⟩
def tookP (t n : Int) (x : Nat × Bu) : Nat × Bu := (x.1, tookB x.2 t n)
def leaveT (bs : List (Nat × Bu)) (from_ n t : Int) : Option Int := match bs with
  | [] => some t
  | x :: r => if (whenB x.2 from_ n).1 = 0 then leaveT r from_ n (if t < (whenB x.2 from_ n).2 then (whenB x.2 from_ n).2 else t) else none
theorem whenB_le {s : Bu} (h : BuOk s) {t n : Int} (hw : (whenB s t n).1 = 0) : lookB s t n = 0 ∧ t ≤ (whenB s t n).2 ∧ (whenB s t n).2 ≤ 1099511627776 := by
  have := when_ok h (T := (whenB s t n).2) (Prod.ext hw rfl)
  exact ⟨this.1, this.2.1, this.2.2.1⟩
theorem leaveT_ok {bs : List (Nat × Bu)} {from_ n t T : Int} (hb : ∀ x ∈ bs, BuOk x.2) (h : leaveT bs from_ n t = some T) :
    t ≤ T ∧ (∀ x ∈ bs, (whenB x.2 from_ n).1 = 0 ∧ (whenB x.2 from_ n).2 ≤ T) ∧ (t ≤ 1099511627776 → T ≤ 1099511627776) ∧ (T = t ∨ ∃ x ∈ bs, T = (whenB x.2 from_ n).2) := by
  induction bs generalizing t with
  | nil =>
    simp only [leaveT, Option.some.injEq] at h
    subst h
    exact ⟨Int.le_refl _, by simp, fun h => h, .inl rfl⟩
  | cons x r ih =>
    unfold leaveT at h
    split at h
    · rename_i hw
      obtain ⟨h1, h2, h3, h4⟩ := ih (fun y hy => hb y (List.mem_cons_of_mem _ hy)) h
      have hx := whenB_le (hb x List.mem_cons_self) hw
      have e1 : t ≤ (if t < (whenB x.2 from_ n).2 then (whenB x.2 from_ n).2 else t) := by split <;> omega
      have e2 : (whenB x.2 from_ n).2 ≤ (if t < (whenB x.2 from_ n).2 then (whenB x.2 from_ n).2 else t) := by split <;> omega
      have e3 : t ≤ 1099511627776 → (if t < (whenB x.2 from_ n).2 then (whenB x.2 from_ n).2 else t) ≤ 1099511627776 := by split <;> omega
      refine ⟨by omega, fun y hy => ?_, fun ht => h3 (e3 ht), ?_⟩
      · rcases List.mem_cons.1 hy with rfl | hy
        · exact ⟨hw, by omega⟩
        · exact h2 y hy
      · rcases h4 with h4 | ⟨y, hy, h4⟩
        · rw [h4]
          split
          · exact .inr ⟨x, List.mem_cons_self, rfl⟩
          · exact .inl rfl
        · exact .inr ⟨y, List.mem_cons_of_mem _ hy, h4⟩
    · cases h
theorem look_after {s : Bu} (h : BuOk s) {from_ n t : Int} (hl : lookB s from_ n = 0) (h1 : from_ ≤ t) (h2 : t ≤ 1099511627776) : lookB s t n = 0 := by
  obtain ⟨q1, q2, q3, q4, q5⟩ := lookB_ok hl
  unfold lookB
  rw [if_neg (by omega), if_neg (by omega)]
section
variable {base : Nat} {w w' : World} {A : Option Addr} {c : Nat} {bs : List (Nat × Bu)}
theorem BsMem.drewN (h : BsMem base w A c bs) (m : Nat) : BsMem base (w.drewN m) A c bs := ⟨h.row, h.bk, h.nd, h.ge, h.far⟩
theorem BsMem.rd (h : BsMem base w A c bs) : Rd w w.heap.size 1 pC A bs := Rd.of_own h.row (by omega) pC_len
theorem BsMem.get (h : BsMem base w A c bs) {k : Nat} (hk : k < bs.length) : ∃ b o, A = some ⟨b, o, none⟩ ∧ b < w.heap.size ∧ w.cell? ⟨b, o + k, none⟩ = some (.pointer (some ⟨bs[k].1, 0, none⟩)) := by
  obtain ⟨b, o, e, hb, hc⟩ := h.rd.at_ hk
  have := hc 0 _ rfl
  simp only [Nat.mul_one, Nat.add_zero] at this
  exact ⟨b, o, e, hb, this⟩
/-- Behind what has taken: those ahead of place k have. -/
def tookTo (bs : List (Nat × Bu)) (t n : Int) (k : Nat) : List (Nat × Bu) := (bs.take k).map (tookP t n) ++ bs.drop k
theorem tookTo_len (bs : List (Nat × Bu)) (t n : Int) (k : Nat) : (tookTo bs t n k).length = bs.length := by
  unfold tookTo
  rw [List.length_append, List.length_map, List.length_take, List.length_drop]
  omega
theorem tookTo_all (bs : List (Nat × Bu)) (t n : Int) : tookTo bs t n bs.length = bs.map (tookP t n) := by simp [tookTo]
theorem tookTo_at {bs : List (Nat × Bu)} {t n : Int} {k : Nat} (hk : k < bs.length) (h : k < (tookTo bs t n k).length) : (tookTo bs t n k)[k] = bs[k] := by
  simp only [tookTo]
  rw [List.getElem_append_right (by simp; omega)]
  simp
  congr 1
  omega
theorem tookTo_succ {bs : List (Nat × Bu)} {t n : Int} {k : Nat} (hk : k < bs.length) : tookTo bs t n (k + 1) = (tookTo bs t n k).set k (tookP t n bs[k]) := by
  unfold tookTo
  have e : ((bs.take k).map (tookP t n)).length = k := by simp; omega
  rw [List.set_append_right _ _ (by omega), e, Nat.sub_self, List.take_succ_eq_append_getElem hk, List.map_append, List.drop_eq_getElem_cons hk, List.append_assoc]
  rfl
theorem BsMem.step (h : BsMem base w A c bs) {k : Nat} (hk : k < bs.length) {s' : Bu} (ho : OnlyG bs[k].1 w w') (hb : Blk w' bs[k].1 288 s'.cells) : BsMem base w' A c (bs.set k (bs[k].1, s')) := by
  have hfst : (bs.set k (bs[k].1, s')).map (·.1) = bs.map (·.1) := by
    rw [List.map_set]
    apply List.ext_getElem?
    intro j
    rw [List.getElem?_set]
    split
    · rename_i h9; subst h9; simp [hk]
    · rfl
  have hflat : (bs.set k (bs[k].1, s')).flatMap pC = bs.flatMap pC := by
    have : ∀ l : List (Nat × Bu), l.flatMap pC = (l.map (·.1)).map fun g => Value.pointer (some ⟨g, 0, none⟩) := fun l => by
      induction l with
      | nil => rfl
      | cons x r ih => rw [List.flatMap_cons, ih]; rfl
    rw [this, this, hfst]
  refine ⟨?_, fun x hx => ?_, by rw [hfst]; exact h.nd, fun x hx => ?_, fun x hx => ?_⟩
  · rw [hflat, List.length_set]
    have hne := h.far _ (List.getElem_mem hk)
    obtain ⟨h1, h2⟩ := h.row
    refine ⟨h1, ?_⟩
    rcases h2 with h2 | ⟨g', cap, cur, hv, hg', hh, r⟩
    · exact .inl h2
    · exact .inr ⟨g', cap, cur, hv, hg', (ho.blk g' (fun e => hne (by rw [hv, e]; rfl))).trans hh, r⟩
  · obtain ⟨j, hj, e⟩ := List.getElem_of_mem hx
    rw [List.length_set] at hj
    rw [List.getElem_set] at e
    split at e
    · subst e; exact hb
    · rename_i hjk
      subst e
      have hne : bs[j].1 ≠ bs[k].1 := fun e => by
        have h9 := List.pairwise_iff_getElem.1 h.nd
        rcases Nat.lt_or_gt_of_ne hjk with h8 | h8
        · exact h9 k j (by simpa using hk) (by simpa using hj) h8 (by simpa using e.symm)
        · exact h9 j k (by simpa using hj) (by simpa using hk) h8 (by simpa using e)
      exact (h.bk _ (List.getElem_mem hj)).same (ho.blk _ hne)
  · have : x.1 ∈ bs.map (·.1) := by rw [← hfst]; exact List.mem_map.2 ⟨x, hx, rfl⟩
    obtain ⟨y, hy, e⟩ := List.mem_map.1 this
    have := h.ge y hy
    omega
  · rw [List.length_set]
    have : x.1 ∈ bs.map (·.1) := by rw [← hfst]; exact List.mem_map.2 ⟨x, hx, rfl⟩
    obtain ⟨y, hy, e⟩ := List.mem_map.1 this
    have := h.far y hy
    rw [e] at this
    exact this
end
set_option maxHeartbeats 1000000 in
theorem leave_none (A : Option Addr) (c : Nat) (bs : List (Nat × Bu)) (from_ n : Int) (S : Nat → Addr) (w : World) (B base : Nat) (hB : B ≤ base) (hS : Snt w B S [2, 4, 5]) (hm : BsMem base w A c bs) (hok : ∀ x ∈ bs, BuOk x.2) (hl : bs.length ≤ 1000) (hn : leaveT bs from_ n from_ = none) :
    Calls Tryz.prog 181 #[.slice A bs.length c, .int .i64 from_, .int .i64 n] w fun e w' => (∃ T a, e = .returned (.tuple #[.int .i64 0, .iface T (.pointer (some a))])) ∧ ∃ m, w' = w.drewN m := by
  have Hn := Lib.hid hn
  have Hok := Lib.hid hok
  clear hn hok
  go_enter Tryz.func181, Tryz.ntmps181
  go_wp2_with fail
  go_loopw [8, 20] (fun tv iv wr => ∃ (k m : Nat) (t : Int), k ≤ bs.length ∧ iv = .int .i64 k ∧ tv = .int .i64 t ∧ leaveT (bs.drop k) from_ n t = none ∧ wr = w.drewN m) (fun _ iv _ => bs.length - (intOf iv).toNat)
  case atStart => exact ⟨0, 0, from_, Nat.zero_le _, rfl, rfl, Hn.out, rfl⟩
  case round =>
    obtain ⟨k, m, t, hk, rfl, rfl, hlv, rfl⟩ := hrel
    by_cases hlt : k < bs.length
    · obtain ⟨b, o, rfl, hb, d0⟩ := hm.get hlt
      rw [List.drop_eq_getElem_cons hlt] at hlv
      have hx := Hok.out _ (List.getElem_mem hlt)
      have hbk := (hm.bk _ (List.getElem_mem hlt)).drewN m
      have hge := hm.ge _ (List.getElem_mem hlt)
      by_cases hw : (whenB bs[k].2 from_ n).1 = 0
      · have Hlv := Lib.hid (show leaveT (bs.drop (k + 1)) from_ n (if t < (whenB bs[k].2 from_ n).2 then (whenB bs[k].2 from_ n).2 else t) = none by rw [← hlv]; unfold leaveT; rw [if_pos hw]; cases bs.drop (k + 1) <;> rfl)
        have Hw := Lib.hid hw
        have Hx := Lib.hid hx
        have Hbk := Lib.hid hbk
        clear hlv hw hx hbk
        go_wp2_with fail
        refine (when_any bs[k].1 bs[k].2 from_ n S (w.drewN m) B (Nat.le_trans hB hge) hS Hbk.out Hx.out).mono ?_
        rintro e w1 ⟨v, rfl, hv, m1, rfl⟩
        obtain rfl := hv.nil_of Hw.out
        go_wp2_with fail
        go_roundw
        case rel => exact ⟨k + 1, _, _, hlt, by go_num, rfl, Hlv.out, by first | rfl | exact World.drewN_drewN _ _ _⟩
        case measure => simp [intOf]; omega
      · have Hw := Lib.hid hw
        have Hx := Lib.hid hx
        have Hbk := Lib.hid hbk
        clear hlv hw hx hbk
        go_wp2_with fail
        refine (when_any bs[k].1 bs[k].2 from_ n S (w.drewN m) B (Nat.le_trans hB hge) hS Hbk.out Hx.out).mono ?_
        rintro e w1 ⟨v, rfl, hv, m1, rfl⟩
        obtain ⟨T, a, rfl⟩ := hv.some_of Hw.out
        go_wp2_with fail
        go_ret2
        exact ⟨⟨T, a, rfl⟩, _, by first | rfl | exact World.drewN_drewN _ _ _⟩
    · rw [List.drop_eq_nil_of_le (by omega)] at hlv
      cases hlv
theorem OnlyGs.step {base : Nat} {bs : List (Nat × Bu)} {w w1 w2 : World} (h : OnlyGs base bs w w1) {x : Nat × Bu} (hx : x ∈ bs) (hg : base ≤ x.1) (ho : OnlyG x.1 w1 w2) : OnlyGs base bs w w2 :=
  ⟨h.bel.trans (ho.bel.mono hg), fun b hb => (ho.blk b (fun e => hb x hx e.symm)).trans (h.blk b hb)⟩
theorem OnlyGs.drewN {base : Nat} {bs : List (Nat × Bu)} {w w1 : World} (h : OnlyGs base bs w w1) (m : Nat) : OnlyGs base bs w (w1.drewN m) := ⟨below_drewN h.bel m, h.blk⟩
set_option maxHeartbeats 2000000 in
theorem leave_some (A : Option Addr) (c : Nat) (bs : List (Nat × Bu)) (from_ n T : Int) (S : Nat → Addr) (w : World) (B base : Nat) (hB : B ≤ base) (hS : Snt w B S [2, 4, 5]) (hm : BsMem base w A c bs) (hok : ∀ x ∈ bs, BuOk x.2) (hl : bs.length ≤ 1000) (hf : from_ ≤ 1099511627776) (hn : leaveT bs from_ n from_ = some T) :
    Calls Tryz.prog 181 #[.slice A bs.length c, .int .i64 from_, .int .i64 n] w fun e w' => e = .returned (.tuple #[.int .i64 T, .nilIface]) ∧ BsMem base w' A c (bs.map (tookP T n)) ∧ OnlyGs base bs w w' := by
  obtain ⟨l1, l2, l3, _⟩ := leaveT_ok hok hn
  have hT := l3 hf
  have Hl := Lib.hid l2
  have Hn := Lib.hid hn
  have Hok := Lib.hid hok
  clear hn hok l2 l3
  go_enter Tryz.func181, Tryz.ntmps181
  go_wp2_with fail
  go_loopw [8, 20] (fun tv iv wr => ∃ (k m : Nat) (t : Int), k ≤ bs.length ∧ iv = .int .i64 k ∧ tv = .int .i64 t ∧ leaveT (bs.drop k) from_ n t = some T ∧ wr = w.drewN m) (fun _ iv _ => bs.length - (intOf iv).toNat)
  case atStart => exact ⟨0, 0, from_, Nat.zero_le _, rfl, rfl, Hn.out, rfl⟩
  case round =>
    obtain ⟨k, m, t, hk, rfl, rfl, hlv, rfl⟩ := hrel
    by_cases hlt : k < bs.length
    · obtain ⟨b, o, rfl, hb, d0⟩ := hm.get hlt
      rw [List.drop_eq_getElem_cons hlt] at hlv
      have hx := Hok.out _ (List.getElem_mem hlt)
      have hbk := (hm.bk _ (List.getElem_mem hlt)).drewN m
      have hge := hm.ge _ (List.getElem_mem hlt)
      have hw := (Hl.out _ (List.getElem_mem hlt)).1
      have Hlv := Lib.hid (show leaveT (bs.drop (k + 1)) from_ n (if t < (whenB bs[k].2 from_ n).2 then (whenB bs[k].2 from_ n).2 else t) = some T by rw [← hlv, leaveT, if_pos hw])
      have Hw := Lib.hid hw
      have Hx := Lib.hid hx
      have Hbk := Lib.hid hbk
      clear hlv hw hx hbk
      go_wp2_with fail
      refine (when_any bs[k].1 bs[k].2 from_ n S (w.drewN m) B (Nat.le_trans hB hge) hS Hbk.out Hx.out).mono ?_
      rintro e w1 ⟨v, rfl, hv, m1, rfl⟩
      obtain rfl := hv.nil_of Hw.out
      go_wp2_with fail
      go_roundw
      case rel => exact ⟨k + 1, _, _, hlt, by go_num, rfl, Hlv.out, by first | rfl | exact World.drewN_drewN _ _ _⟩
      case measure => simp [intOf]; omega
    · rw [List.drop_eq_nil_of_le (by omega)] at hlv
      simp only [leaveT, Option.some.injEq] at hlv
      subst hlv
      obtain ⟨w1, hw1⟩ : ∃ w1 : World, w1 = w.drewN m := ⟨_, rfl⟩
      have hm1 : BsMem base w1 A c bs := by rw [hw1]; exact hm.drewN m
      have hS1 : Snt w1 B S [2, 5] := by rw [hw1]; exact (show Snt (w.drewN m) B S [2, 4, 5] from hS).sub (by simp)
      have on0 : OnlyGs base bs w w1 := by rw [hw1]; exact (OnlyGs.refl _ _ _).drewN m
      rw [← hw1]
      clear hw1
      go_wp2_with fail
      go_loopw [40] (fun iv wr => ∃ k : Nat, k ≤ bs.length ∧ iv = .int .i64 k ∧ BsMem base wr A c (tookTo bs t n k) ∧ OnlyGs base bs w wr ∧ OnlyGs base bs w1 wr) (fun iv _ => bs.length - (intOf iv).toNat)
      case atStart => exact ⟨0, Nat.zero_le _, rfl, hm1, on0, OnlyGs.refl _ _ _⟩
      case round =>
        obtain ⟨k2, hk2, rfl, hmk, onk, onk1⟩ := hrel
        have Hmk := Lib.hid hmk
        clear hmk
        by_cases hlt2 : k2 < bs.length
        · have hlt3 : k2 < (tookTo bs t n k2).length := by rw [tookTo_len]; exact hlt2
          obtain ⟨b, o, rfl, hb, d0⟩ := Hmk.out.get hlt3
          rw [tookTo_at hlt2 hlt3] at d0
          have hbk := Hmk.out.bk _ (List.getElem_mem hlt3)
          rw [tookTo_at hlt2 hlt3] at hbk
          have hge := hm1.ge _ (List.getElem_mem hlt2)
          have hx := Hok.out _ (List.getElem_mem hlt2)
          have hlk : lookB bs[k2].2 t n = 0 := look_after hx (whenB_le hx (Hl.out _ (List.getElem_mem hlt2)).1).1 l1 hT
          have Hx := Lib.hid hx
          have Hbk := Lib.hid hbk
          have Hlk := Lib.hid hlk
          have hSk : Snt wr B S [2, 5] := hS1.below (onk1.bel.mono hB)
          have HS := Lib.hid hSk
          have Hat := Lib.hid (tookTo_at hlt2 hlt3)
          clear hx hbk hlk hSk
          go_wp2_with fail
          refine (take_any bs[k2].1 bs[k2].2 t n S wr B (Nat.le_trans hB hge) HS.out Hbk.out Hx.out).mono ?_
          rintro e w5 ⟨v5, rfl, e5, b5, on5⟩
          obtain rfl := e5.nil_of Hlk.out
          have hm5 : BsMem base w5 (some ⟨b, o, none⟩) c (tookTo bs t n (k2 + 1)) := by
            rw [tookTo_succ hlt2]
            have h9 := Hmk.out.step hlt3 (s' := tookB bs[k2].2 t n) (w' := w5) (by rw [Hat.out]; exact on5) (by rw [Hat.out]; exact b5)
            rw [Hat.out] at h9
            exact h9
          have Hm5 := Lib.hid hm5
          clear hm5
          go_wp2_with fail
          go_roundw
          case rel => exact ⟨k2 + 1, hlt2, by go_num, Hm5.out, onk.step (List.getElem_mem hlt2) hge on5, onk1.step (List.getElem_mem hlt2) hge on5⟩
          case measure => simp [intOf]; omega
        · have Hm5 := Lib.hid (show BsMem base wr A c (bs.map (tookP t n)) by
            have h9 := Hmk.out
            rw [show k2 = bs.length by omega, tookTo_all] at h9
            exact h9)
          go_wp2_with fail
          go_ret2
          exact ⟨rfl, Hm5.out, onk⟩
end Go.Proofs.YtoomffajodheaaaGreatDoor
namespace Go.Proofs.YtoomffajodheaaaGreatDoor
def leaveL (ss : List Bu) (from_ n t : Int) : Option Int := match ss with
  | [] => some t
  | s :: r => if (whenB s from_ n).1 = 0 then leaveL r from_ n (if t < (whenB s from_ n).2 then (whenB s from_ n).2 else t) else none
theorem leaveT_eq (bs : List (Nat × Bu)) (from_ n t : Int) : leaveT bs from_ n t = leaveL (bs.map (·.2)) from_ n t := by
  induction bs generalizing t with
  | nil => rfl
  | cons x r ih => unfold leaveT; rw [List.map_cons]; unfold leaveL; rw [ih]
def fr (last a : Int) : Int := if last < a then a else last
theorem fr_ge (last a : Int) : last ≤ fr last a ∧ a ≤ fr last a ∧ (fr last a = a ∨ fr last a = last) := by unfold fr; split <;> omega
def shapeGo : List Pk → List Bu → Int → Nat → List Pk × Int
  | [], _, _, _ => ([], -1)
  | x :: r, ss, last, i => match leaveL ss (fr last x.a) x.s (fr last x.a) with
    | none => ([], (i : Int))
    | some T => if (shapeGo r (ss.map fun s => tookB s T x.s) T (i + 1)).2 = -1 then (⟨x.f, x.s, T⟩ :: (shapeGo r (ss.map fun s => tookB s T x.s) T (i + 1)).1, -1) else ([], (shapeGo r (ss.map fun s => tookB s T x.s) T (i + 1)).2)
def glue (acc : List Pk) (y : List Pk × Int) : List Pk × Int := if y.2 = -1 then (acc ++ y.1, -1) else ([], y.2)
theorem glue_none {acc : List Pk} {x : Pk} {r : List Pk} {ss : List Bu} {last : Int} {i : Nat} (h : leaveL ss (fr last x.a) x.s (fr last x.a) = none) : glue acc (shapeGo (x :: r) ss last i) = ([], (i : Int)) := by
  unfold shapeGo
  rw [h]
  unfold glue
  rw [if_neg (by show ¬ (i : Int) = -1; omega)]
theorem glue_some {acc : List Pk} {x : Pk} {r : List Pk} {ss : List Bu} {last T : Int} {i : Nat} (h : leaveL ss (fr last x.a) x.s (fr last x.a) = some T) : glue acc (shapeGo (x :: r) ss last i) = glue (acc ++ [⟨x.f, x.s, T⟩]) (shapeGo r (ss.map fun s => tookB s T x.s) T (i + 1)) := by
  rw [shapeGo, h]
  simp only
  generalize shapeGo r (ss.map fun s => tookB s T x.s) T (i + 1) = y
  unfold glue
  by_cases hy : y.2 = -1
  · rw [if_pos hy, if_pos hy, if_pos rfl]; simp
  · rw [if_neg hy, if_neg hy, if_neg hy]
def shapeR (l : List Ln) (p : List Pk) : List Pk × Int := shapeGo p (l.map newB) 0 0
def shapeErr (l : List Ln) (p : List Pk) : Nat × Int := if (pktErr p).1 ≠ 0 then pktErr p else if (crvErr l).1 ≠ 0 then crvErr l else if (shapeR l p).2 = -1 then (0, -1) else (4, (shapeR l p).2)
def shapeV (l : List Ln) (p : List Pk) : List Pk := if (shapeErr l p).1 = 0 then (shapeR l p).1 else []
theorem pk_set (acc : List Pk) (x : Pk) (r : List Pk) (T : Int) : ((acc ++ x :: r).flatMap Pk.cs).set (acc.length * 3 + 2) (.int .i64 T) = ((acc ++ [(⟨x.f, x.s, T⟩ : Pk)]) ++ r).flatMap Pk.cs := by
  have e : (acc.flatMap Pk.cs).length = acc.length * 3 := flat_len Pk.cs 3 Pk.cs_len acc
  rw [List.append_assoc, List.flatMap_append, List.flatMap_append, List.set_append_right _ _ (by omega), e, show acc.length * 3 + 2 - acc.length * 3 = 2 by omega]
  rfl
/-- What holds of buckets ahead of each packet. -/
def BsOk (bs : List (Nat × Bu)) (last : Int) : Prop := ∀ x ∈ bs, BuOk x.2 ∧ x.2.last ≤ last
theorem took_last {s : Bu} {t n : Int} (h : lookB s t n = 0) : (tookB s t n).last = t := by
  unfold tookB
  rw [if_neg (by omega)]
  split <;> rfl
theorem bsOk_step {bs : List (Nat × Bu)} {last a n T : Int} (h : BsOk bs last) (ha : 0 ≤ a ∧ a ≤ 1099511627776) (hl : last ≤ 1099511627776) (ht : leaveT bs (fr last a) n (fr last a) = some T) :
    BsOk (bs.map (tookP T n)) T ∧ a ≤ T ∧ last ≤ T ∧ T ≤ 1099511627776 := by
  have hf := fr_ge last a
  obtain ⟨h1, h2, h3, _⟩ := leaveT_ok (fun x hx => (h x hx).1) ht
  have hT := h3 (by omega)
  refine ⟨fun y hy => ?_, by omega, by omega, hT⟩
  obtain ⟨x, hx, rfl⟩ := List.mem_map.1 hy
  have hk := look_after (h x hx).1 (whenB_le (h x hx).1 (h2 x hx).1).1 h1 hT
  exact ⟨tookB_ok (h x hx).1 T n, by show (tookB x.2 T n).last ≤ T; rw [took_last hk]; exact Int.le_refl _⟩
theorem map_took (bs : List (Nat × Bu)) (T n : Int) : (bs.map (tookP T n)).map (·.2) = (bs.map (·.2)).map fun s => tookB s T n := by
  rw [List.map_map, List.map_map]; rfl
end Go.Proofs.YtoomffajodheaaaGreatDoor
namespace Go.Proofs.YtoomffajodheaaaGreatDoor
theorem le_valueL {l : List Ln} (h0 : 0 < l.length) {n t : Int} : n ≤ valueL l t ↔ ∀ y ∈ l, n ≤ lineAt y t := by
  refine ⟨fun h y hy => Int.le_trans h (valueL_le hy t), fun h => ?_⟩
  obtain ⟨x, hx, e⟩ := valueL_mem h0 t
  rw [e]
  exact h x hx
theorem fitsGo_each {l : List Ln} (h0 : 0 < l.length) (ai : Int) (q : List Pk) (n : Int) : fitsGo l ai n q = true ↔ ∀ y ∈ l, fitsGo [y] ai n q = true := by
  induction q generalizing n with
  | nil => exact ⟨fun _ _ _ => rfl, fun _ => rfl⟩
  | cons x r ih =>
    have e : ∀ ls : List Ln, fitsGo ls ai n (x :: r) = true ↔ n + x.s ≤ valueL ls (x.a - ai) ∧ fitsGo ls ai (n + x.s) r = true := fun ls => by
      show (if valueL ls (x.a - ai) < n + x.s then false else fitsGo ls ai (n + x.s) r) = true ↔ _
      by_cases h : valueL ls (x.a - ai) < n + x.s
      · rw [if_pos h]; simp; omega
      · rw [if_neg h]; simp; omega
    rw [e, ih, le_valueL h0]
    constructor
    · intro ⟨h1, h2⟩ y hy
      rw [e, valueL_one]
      exact ⟨h1 y hy, h2 y hy⟩
    · intro h
      refine ⟨fun y hy => ?_, fun y hy => ?_⟩
      · have := h y hy; rw [e, valueL_one] at this; exact this.1
      · have := h y hy; rw [e] at this; exact this.2
theorem fitsL_each {l : List Ln} (h0 : 0 < l.length) (q : List Pk) : fitsL l q = true ↔ ∀ y ∈ l, fitsL [y] q = true := by
  induction q with
  | nil => exact ⟨fun _ _ _ => rfl, fun _ => rfl⟩
  | cons x r ih =>
    have e : ∀ ls : List Ln, fitsL ls (x :: r) = true ↔ fitsGo ls x.a 0 (x :: r) = true ∧ fitsL ls r = true := fun ls => by
      show (if fitsGo ls x.a 0 (x :: r) then fitsL ls r else false) = true ↔ _
      by_cases h : fitsGo ls x.a 0 (x :: r) = true
      · rw [if_pos h]; simp [h]
      · rw [if_neg h]; simp [h]
    rw [e, ih, fitsGo_each h0]
    constructor
    · intro ⟨h1, h2⟩ y hy
      rw [e]; exact ⟨h1 y hy, h2 y hy⟩
    · intro h
      exact ⟨fun y hy => ((e _).1 (h y hy)).1, fun y hy => ((e _).1 (h y hy)).2⟩
theorem fits_pre (y : Ln) (q r : List Pk) (h : fitsL [y] (q ++ r) = true) : fitsL [y] q = true := by
  induction r generalizing q with
  | nil => rwa [List.append_nil] at h
  | cons z r ih =>
    rw [show q ++ z :: r = (q ++ [z]) ++ r by simp] at h
    exact ((fitsL_app y q z).1 (ih (q ++ [z]) h)).1
theorem leaveL_eq (ss : List Bu) (from_ n t : Int) : leaveL ss from_ n t = leaveT (ss.map fun s => (0, s)) from_ n t := by
  rw [leaveT_eq, List.map_map]
  have e : ((fun x : Nat × Bu => x.2) ∘ fun s => ((0 : Nat), s)) = id := rfl
  rw [e, List.map_id]
theorem holds_mono {s : Bu} (h : BuOk s) {t T : Int} (h1 : s.at_ ≤ t) (h2 : t ≤ T) : holdsB s t ≤ holdsB s T := by
  rw [holds_min h h1, holds_min h (by omega)]
  have hd : s.r * (T - s.at_) = s.r * (t - s.at_) + s.r * (T - t) := by rw [← Int.mul_add]; congr 1; omega
  have m := Int.mul_nonneg h.r1 (show 0 ≤ T - t by omega)
  rw [hd]
  generalize s.r * (t - s.at_) = y
  generalize s.r * (T - t) = z at m ⊢
  split <;> split <;> omega
theorem when_now {s : Bu} (h : BuOk s) {T n : Int} (hl : lookB s T n = 0) (hb : n ≤ s.b) (hh : 1000 * n ≤ holdsB s T) : whenB s T n = (0, T) := by
  unfold whenB
  rw [if_neg (by omega), if_neg (by omega), if_pos (by omega)]
theorem leave_now (ss : List Bu) (T n : Int) (h : ∀ s ∈ ss, whenB s T n = (0, T)) : leaveL ss T n T = some T := by
  induction ss with
  | nil => rfl
  | cons s r ih =>
    unfold leaveL
    rw [h s List.mem_cons_self, if_pos rfl, if_neg (Int.lt_irrefl _)]
    exact ih fun y hy => h y (List.mem_cons_of_mem _ hy)
/-- Lines with their buckets, behind those that left. -/
structure ZJ (zs : List (Ln × Bu)) (acc : List Pk) (last : Int) : Prop where
  ok : ∀ z ∈ zs, BuOk z.2 ∧ z.2.last ≤ last ∧ PassJ z.1 acc z.2 ∧ fitsL [z.1] acc = true
  l0 : 0 ≤ last
  l1 : last ≤ 1099511627776
  le : ∀ y ∈ acc, y.a ≤ last
  pk : ∀ y ∈ acc, okPk y
  so : acc.Pairwise (fun x y => x.a ≤ y.a)
def zTook (T n : Int) (z : Ln × Bu) : Ln × Bu := (z.1, tookB z.2 T n)
theorem zj_take {zs : List (Ln × Bu)} {acc : List Pk} {last T : Int} {x : Pk} (h : ZJ zs acc last) (hx : okPk x) (hT : leaveL (zs.map (·.2)) (fr last x.a) x.s (fr last x.a) = some T) :
    ZJ (zs.map (zTook T x.s)) (acc ++ [⟨x.f, x.s, T⟩]) T ∧ last ≤ T ∧ x.a ≤ T ∧ T ≤ 1099511627776 ∧ (∀ z ∈ zs, whenB z.2 T x.s = (0, T)) := by
  obtain ⟨p1, p2, p3, p4, p5, p6⟩ := hx
  have hf := fr_ge last x.a
  have h0 := h.l0
  have h1 := h.l1
  rw [leaveL_eq] at hT
  obtain ⟨t1, t2, t3, _⟩ := leaveT_ok (fun y hy => by
    obtain ⟨s, hs, rfl⟩ := List.mem_map.1 hy
    obtain ⟨z, hz, rfl⟩ := List.mem_map.1 hs
    exact (h.ok z hz).1) hT
  have hT1 := t3 (by omega)
  have each : ∀ z ∈ zs, lookB z.2 T x.s = 0 ∧ x.s ≤ z.2.b ∧ 1000 * x.s ≤ holdsB z.2 T ∧ z.2.at_ ≤ T := fun z hz => by
    obtain ⟨k1, k2, k3, k4⟩ := h.ok z hz
    obtain ⟨w1, w2⟩ := t2 (0, z.2) (List.mem_map.2 ⟨z.2, List.mem_map.2 ⟨z, hz, rfl⟩, rfl⟩)
    simp only at w1 w2
    have hk := whenB_le k1 w1
    have hw := when_ok k1 (T := (whenB z.2 (fr last x.a) x.s).2) (Prod.ext w1 rfl)
    have ha2 := k1.a2
    have hmo := holds_mono k1 (t := (whenB z.2 (fr last x.a) x.s).2) (T := T) (by omega) w2
    have hb : x.s ≤ z.2.b := by
      unfold whenB at w1
      rw [if_neg (by omega)] at w1
      by_cases hb : z.2.b < x.s
      · rw [if_pos hb] at w1; simp at w1
      · omega
    exact ⟨look_after k1 hk.1 t1 hT1, hb, by omega, by omega⟩
  refine ⟨⟨fun z' hz' => ?_, by omega, hT1, fun y hy => ?_, fun y hy => ?_, ?_⟩, by omega, by omega, hT1, fun z hz => ?_⟩
  · obtain ⟨z, hz, rfl⟩ := List.mem_map.1 hz'
    obtain ⟨k1, k2, k3, k4⟩ := h.ok z hz
    obtain ⟨e1, e2, e3, e4⟩ := each z hz
    have htk : takeB z.2 T x.s = true := decide_eq_true ⟨e1, e3⟩
    have hst := pass_step (x := ⟨x.f, x.s, T⟩) k1 k3 e4 e1
    rw [htk, if_pos rfl] at hst
    have hft := pass_tells (x := ⟨x.f, x.s, T⟩) k1 k3 k4 e4 e1
    simp only at hft
    exact ⟨tookB_ok k1 T x.s, by show (tookB z.2 T x.s).last ≤ T; rw [took_last e1]; exact Int.le_refl _, hst, hft.trans htk⟩
  · rcases List.mem_append.1 hy with hy | hy
    · have := h.le y hy; omega
    · rw [List.mem_singleton.1 hy]; exact Int.le_refl _
  · rcases List.mem_append.1 hy with hy | hy
    · exact h.pk y hy
    · rw [List.mem_singleton.1 hy]; exact ⟨p1, p2, p3, p4, by show 0 ≤ T; omega, hT1⟩
  · refine List.pairwise_append.2 ⟨h.so, by simp, fun a ha b hb => ?_⟩
    rw [List.mem_singleton.1 hb]
    have := h.le a ha
    show a.a ≤ T
    omega
  · obtain ⟨e1, e2, e3, _⟩ := each z hz
    exact when_now (h.ok z hz).1 e1 e2 e3
/-- One that fits leaves at once. -/
theorem zj_fits {zs : List (Ln × Bu)} {acc r : List Pk} {last : Int} {x : Pk} (h : ZJ zs acc last) (hx : okPk x) (hl : last ≤ x.a) (hf : ∀ z ∈ zs, fitsL [z.1] (acc ++ x :: r) = true) : leaveL (zs.map (·.2)) (fr last x.a) x.s (fr last x.a) = some x.a := by
  obtain ⟨p1, p2, p3, p4, p5, p6⟩ := hx
  have e : fr last x.a = x.a := by unfold fr; split <;> omega
  rw [e]
  refine leave_now _ _ _ fun s hs => ?_
  obtain ⟨z, hz, rfl⟩ := List.mem_map.1 hs
  obtain ⟨k1, k2, k3, k4⟩ := h.ok z hz
  have h1 := hf z hz
  rw [show acc ++ x :: r = (acc ++ [x]) ++ r by simp] at h1
  have h2 := (fitsL_app z.1 acc x).1 (fits_pre z.1 _ _ h1)
  have ha2 := k1.a2
  have h3 := (pass_fits k1 k3 (t := x.a) (n := x.s) (by omega)).2 h2.2
  have hlk : lookB z.2 x.a x.s = 0 := by
    unfold lookB
    rw [if_neg (by omega), if_neg (by omega)]
  exact when_now k1 hlk (by rw [k3.1]; exact h2.2.2) h3
theorem turn_go (r : List Pk) : ∀ (zs : List (Ln × Bu)) (acc : List Pk) (last : Int) (i : Nat) (x : List Pk), ZJ zs acc last → (∀ y ∈ r, okPk y) → shapeGo r (zs.map (·.2)) last i = (x, -1) →
    (∀ z ∈ zs, fitsL [z.1] (acc ++ x) = true) ∧ x.length = r.length ∧ (∀ j (h1 : j < r.length) (h2 : j < x.length), x[j].f = r[j].f ∧ x[j].s = r[j].s ∧ r[j].a ≤ x[j].a) ∧ (∀ y ∈ acc ++ x, okPk y) ∧ (acc ++ x).Pairwise (fun a b => a.a ≤ b.a) ∧
    shapeGo x (zs.map (·.2)) last i = (x, -1) ∧ (r.Pairwise (fun a b => a.a ≤ b.a) → (∀ y ∈ r, last ≤ y.a) → (∀ z ∈ zs, fitsL [z.1] (acc ++ r) = true) → x = r) := by
  induction r with
  | nil =>
    intro zs acc last i x h _ hs
    simp only [shapeGo, Prod.mk.injEq, and_true] at hs
    subst hs
    refine ⟨fun z hz => by rw [List.append_nil]; exact (h.ok z hz).2.2.2, rfl, fun j h1 => by simp at h1, by rw [List.append_nil]; exact h.pk, by rw [List.append_nil]; exact h.so, rfl, fun _ _ _ => rfl⟩
  | cons y r ih =>
    intro zs acc last i x h hok hs
    have hy := hok y List.mem_cons_self
    unfold shapeGo at hs
    split at hs
    · simp only [Prod.mk.injEq] at hs
      omega
    · rename_i T hT
      obtain ⟨z1, z2, z3, z4, z5⟩ := zj_take h hy hT
      split at hs
      · rename_i h9
        simp only [Prod.mk.injEq, and_true] at hs
        have hms : (zs.map (·.2)).map (fun s => tookB s T y.s) = (zs.map (zTook T y.s)).map (·.2) := by rw [List.map_map, List.map_map]; rfl
        rw [hms] at h9 hs
        obtain ⟨x', hx'⟩ : ∃ x', x' = (shapeGo r ((zs.map (zTook T y.s)).map (·.2)) T (i + 1)).1 := ⟨_, rfl⟩
        rw [← hx'] at hs
        subst hs
        obtain ⟨i1, i2, i3, i4, i5, i6, i7⟩ := ih (zs.map (zTook T y.s)) _ T (i + 1) x' z1 (fun u hu => hok u (List.mem_cons_of_mem _ hu)) (Prod.ext hx'.symm h9)
        have eapp : acc ++ ⟨y.f, y.s, T⟩ :: x' = (acc ++ [⟨y.f, y.s, T⟩]) ++ x' := by simp
        refine ⟨fun z hz => ?_, by simp [i2], fun j h1 h2 => ?_, ?_, ?_, ?_, fun hso hla hft => ?_⟩
        · rw [eapp]
          exact i1 (zTook T y.s z) (List.mem_map.2 ⟨z, hz, rfl⟩)
        · cases j with
          | zero => exact ⟨rfl, rfl, z3⟩
          | succ j =>
            simp only [List.getElem_cons_succ]
            exact i3 j (by simpa using h1) (by simpa using h2)
        · rw [eapp]; exact i4
        · rw [eapp]; exact i5
        · unfold shapeGo
          have e : fr last T = T := by unfold fr; split <;> omega
          simp only [e]
          rw [leave_now _ _ _ (fun s hs => by obtain ⟨z, hz, rfl⟩ := List.mem_map.1 hs; exact z5 z hz)]
          simp only [hms, i6, if_pos]
        · have hT2 := zj_fits h hy (hla y List.mem_cons_self) hft
          rw [hT] at hT2
          injection hT2 with hT2
          subst hT2
          obtain ⟨s1, s2⟩ := List.pairwise_cons.1 hso
          have : x' = r := i7 s2 s1 (fun z hz => by
            obtain ⟨u, hu, rfl⟩ := List.mem_map.1 hz
            rw [List.append_assoc]
            exact hft u hu)
          rw [this]
      · rename_i h9
        simp only [Prod.mk.injEq] at hs
        exact absurd hs.2 h9
/-- What leaves a shaper. -/
theorem turner {l : List Ln} {p x : List Pk} (hl : ∀ y ∈ l, okLn y) (h0 : 0 < l.length) (hp : ∀ y ∈ p, okPk y) (hs : p.Pairwise (fun a b => a.a ≤ b.a)) (hx : shapeR l p = (x, -1)) :
    fitsL l x = true ∧ x.length = p.length ∧ (∀ j (h1 : j < p.length) (h2 : j < x.length), x[j].f = p[j].f ∧ x[j].s = p[j].s ∧ p[j].a ≤ x[j].a) ∧ (∀ y ∈ x, okPk y) ∧ x.Pairwise (fun a b => a.a ≤ b.a) ∧ shapeR l x = (x, -1) ∧ (fitsL l p = true ↔ x = p) := by
  have e1 : (l.map fun y => (y, newB y)).map (·.2) = l.map newB := by rw [List.map_map]; rfl
  have hJ : ZJ (l.map fun y => (y, newB y)) [] 0 := by
    refine ⟨fun z hz => ?_, Int.le_refl _, by omega, by simp, by simp, List.Pairwise.nil⟩
    obtain ⟨y, hy, rfl⟩ := List.mem_map.1 hz
    exact ⟨newB_ok (hl y hy), Int.le_refl _, pass_new y, rfl⟩
  have hx2 : shapeGo p ((l.map fun y => (y, newB y)).map (·.2)) 0 0 = (x, -1) := by rw [e1]; exact hx
  obtain ⟨i1, i2, i3, i4, i5, i6, i7⟩ := turn_go p _ [] 0 0 x hJ hp hx2
  have hfx : fitsL l x = true := (fitsL_each h0 x).2 fun y hy => i1 (y, newB y) (List.mem_map.2 ⟨y, hy, rfl⟩)
  refine ⟨hfx, i2, i3, i4, i5, by rw [e1] at i6; exact i6, fun hf => ?_, fun e => by rw [← e]; exact hfx⟩
  refine i7 hs (fun y hy => (hp y hy).2.2.2.2.1) fun z hz => ?_
  obtain ⟨y, hy, rfl⟩ := List.mem_map.1 hz
  exact (fitsL_each h0 p).1 hf y hy
end Go.Proofs.YtoomffajodheaaaGreatDoor
