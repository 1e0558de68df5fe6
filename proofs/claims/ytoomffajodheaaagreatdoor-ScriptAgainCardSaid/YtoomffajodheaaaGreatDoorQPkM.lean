/- Package bucket's Check of packets, and package fifo's Look. Condition: the sentinels that they name lie in their variables. A link that serves packets by a picker: the plain function, its invariant, and that it ends. No program. No condition. -/
import Derived.Test.YtoomffajodheaaaGreatDoorProg
import Derived.Test.YtoomffajodheaaaGreatDoorQBaseM
import Derived.WalkKit
import Derived.WalkLawsBesides
import Derived.WalkSpells
import Derived.BigQuiet
import Derived.Deep.QuietTactic
set_option linter.all false
namespace Go.Proofs.YtoomffajodheaaaGreatDoor
open Go.RowKit
set_option maxRecDepth 100000

theorem RdP.get {w : World} {B : Nat} {A : Option Addr} {l : List Pk} (h : RdP w B A l) {i : Nat} (hi : i < l.length) :
    ∃ b o, A = some ⟨b, o, none⟩ ∧ b < B ∧ w.cell? ⟨b, o + i * 3, none⟩ = some (.int .i64 l[i].f) ∧ w.cell? ⟨b, o + i * 3 + 1, none⟩ = some (.int .i64 l[i].s) ∧ w.cell? ⟨b, o + i * 3 + 2, none⟩ = some (.int .i64 l[i].a) := by
  obtain ⟨b, o, e, hb, hc⟩ := h.at_ hi
  exact ⟨b, o, e, hb, hc 0 _ rfl, hc 1 _ rfl, hc 2 _ rfl⟩

/-- A packet within bounds. -/
def okPk (x : Pk) : Prop := 0 ≤ x.f ∧ x.f < 8 ∧ 1 ≤ x.s ∧ x.s ≤ 1500 ∧ 0 ≤ x.a ∧ x.a ≤ 1099511627776
instance (x : Pk) : Decidable (okPk x) := by unfold okPk; infer_instance
def pktBad : List Pk → Int → Nat → Nat × Int
  | [], _, _ => (0, -1)
  | x :: r, last, k => if okPk x then (if x.a < last then (5, (k : Int)) else pktBad r x.a (k + 1)) else (2, (k : Int))
/-- The number, and the place, of packets' error. -/
def pktErr (l : List Pk) : Nat × Int := if 300 < l.length then (2, -1) else pktBad l 0 0

set_option maxHeartbeats 1000000 in
theorem pcheck_any (A : Option Addr) (c : Nat) (l : List Pk) (S : Nat → Addr) (w : World) (B : Nat) (hB : B ≤ w.heap.size) (h : RdP w B A l) (hS : Snt w B S [2, 5]) (hl : l.length ≤ 9223372036854775807) :
    Calls Tryz.prog 97 #[.slice A l.length c] w (EndEr S (pktErr l).1 (pktErr l).2 w) := by
  by_cases h1 : 300 < l.length
  · have g2 : w.cell? ⟨G 2, 0, none⟩ = some (sv S 2) := (hS 2 (by simp)).2.2
    simp only [G, sv] at g2
    have Hf := Lib.hid (show pktErr l = (2, -1) from if_pos h1)
    go_enter Tryz.func97, Tryz.ntmps97
    go_wp2
    go_ret
    rw [Hf.out]
    exact ⟨_, rfl, .bare 2 (by omega) (by omega), Below.refl _ _⟩
  · have Hf := Lib.hid (show pktErr l = pktBad l 0 0 from if_neg h1)
    have h2 : l.length ≤ 300 := by omega
    clear h1
    go_enter Tryz.func97, Tryz.ntmps97
    go_wp2
    go_loopw [3, 12] (fun t i wr => ∃ (k : Nat) (m : Int), k ≤ l.length ∧ i = .int .i64 k ∧ t = .int .i64 m ∧ pktErr l = pktBad (l.drop k) m k ∧ Below w.heap.size w wr) (fun _ i _ => l.length - (intOf i).toNat)
    case atStart => exact ⟨0, 0, Nat.zero_le _, rfl, rfl, Hf.out, Below.refl _ _⟩
    case round =>
      obtain ⟨k, m, hk, rfl, rfl, hbad, hbw⟩ := hrel
      clear Hf
      by_cases hlt : k < l.length
      · obtain ⟨b, o, rfl, hb, d0, d1, d2⟩ := RdP.get (h.below (hbw.mono hB)) hlt
        have hd : l.drop k = l[k] :: l.drop (k + 1) := List.drop_eq_getElem_cons hlt
        rw [hd] at hbad
        have g2 : wr.cell? ⟨G 2, 0, none⟩ = some (sv S 2) := ((hS.below (hbw.mono hB)) 2 (by simp)).2.2
        have g5 : wr.cell? ⟨G 5, 0, none⟩ = some (sv S 5) := ((hS.below (hbw.mono hB)) 5 (by simp)).2.2
        have l2 := World.block_lt_of_cell? wr _ g2
        have l5 := World.block_lt_of_cell? wr _ g5
        simp only [G, sv] at g2 g5 l2 l5
        have hz := hbw.size
        by_cases hx : okPk l[k]
        · have Hx := Lib.hid hx
          obtain ⟨x1, x2, x3, x4, x5, x6⟩ := hx
          by_cases hlast : l[k].a < m
          · have Hb := Lib.hid (show pktErr l = (5, (k : Int)) by rw [hbad]; exact (if_pos Hx.out).trans (if_pos hlast))
            clear hbad hd
            go_wp2
            go_ret
            rw [Hb.out]
            exact ⟨_, rfl, .fault 5 (by omega) (by omega) _ _ (by simp) (heap_alloc_new2 _ _ _), (hbw.alloc hz _).alloc (by simp; omega) _⟩
          · have Hb := Lib.hid (show pktErr l = pktBad (l.drop (k + 1)) l[k].a (k + 1) by rw [hbad]; exact (if_pos Hx.out).trans (if_neg hlast))
            clear hbad hd
            have hlast' : m ≤ l[k].a := by omega
            clear hlast
            go_wp2
            go_roundw
            case rel => exact ⟨k + 1, _, by omega, by go_num, rfl, Hb.out, hbw.alloc hz _⟩
            case measure => simp [intOf]; omega
        · have Hb := Lib.hid (show pktErr l = (2, (k : Int)) by rw [hbad]; exact if_neg hx)
          clear hbad hd
          have hx' : l[k].f < 0 ∨ (0 ≤ l[k].f ∧ 8 ≤ l[k].f) ∨ (0 ≤ l[k].f ∧ l[k].f < 8 ∧ l[k].s < 1) ∨ (0 ≤ l[k].f ∧ l[k].f < 8 ∧ 1 ≤ l[k].s ∧ 1500 < l[k].s) ∨ (0 ≤ l[k].f ∧ l[k].f < 8 ∧ 1 ≤ l[k].s ∧ l[k].s ≤ 1500 ∧ l[k].a < 0) ∨ (0 ≤ l[k].f ∧ l[k].f < 8 ∧ 1 ≤ l[k].s ∧ l[k].s ≤ 1500 ∧ 0 ≤ l[k].a ∧ 1099511627776 < l[k].a) := by
            unfold okPk at hx
            omega
          clear hx
          rcases hx' with x1 | ⟨x1, x2⟩ | ⟨x1, x2, x3⟩ | ⟨x1, x2, x3, x4⟩ | ⟨x1, x2, x3, x4, x5⟩ | ⟨x1, x2, x3, x4, x5, x6⟩
          all_goals
            go_wp2
            go_ret
            rw [Hb.out]
            exact ⟨_, rfl, .fault 2 (by omega) (by omega) _ _ (by simp) (heap_alloc_new2 _ _ _), (hbw.alloc hz _).alloc (by simp; omega) _⟩
      · rw [List.drop_eq_nil_of_le (by omega)] at hbad
        have Hb := Lib.hid hbad
        clear hbad
        go_wp2
        go_ret
        rw [Hb.out]
        exact ⟨_, rfl, .nil, hbw⟩

/-- The error of packets at a link. -/
def lookErr (l : List Pk) (per : Int) : Nat × Int := if (pktErr l).1 ≠ 0 then pktErr l else if per < 1 ∨ 1000 < per then (2, -1) else (0, -1)
theorem pktBad_nil {l : List Pk} {m : Int} {k : Nat} (h : (pktBad l m k).1 = 0) : (pktBad l m k).2 = -1 := by
  induction l generalizing m k with
  | nil => rfl
  | cons x r ih =>
    unfold pktBad at h ⊢
    split at h
    · rename_i h1
      rw [if_pos h1]
      split at h
      · simp at h
      · rename_i h2
        rw [if_neg h2]
        exact ih h
    · simp at h
theorem pktErr_nil {l : List Pk} (h : (pktErr l).1 = 0) : pktErr l = (0, -1) := by
  unfold pktErr at h ⊢
  by_cases h1 : 300 < l.length
  · rw [if_pos h1] at h; simp at h
  · rw [if_neg h1] at h ⊢
    exact Prod.ext h (pktBad_nil h)

theorem pktBad_okPk {l : List Pk} {m : Int} {k : Nat} (h : (pktBad l m k).1 = 0) : ∀ x ∈ l, okPk x := by
  induction l generalizing m k with
  | nil => simp
  | cons x r ih =>
    unfold pktBad at h
    split at h
    · rename_i h1
      split at h
      · simp at h
      · intro y hy
        rcases List.mem_cons.1 hy with rfl | hy
        · exact h1
        · exact ih h y hy
    · simp at h
theorem pktErr_okPk {l : List Pk} (h : (pktErr l).1 = 0) : ∀ x ∈ l, okPk x := by
  unfold pktErr at h
  by_cases h1 : 300 < l.length
  · rw [if_pos h1] at h; simp at h
  · rw [if_neg h1] at h; exact pktBad_okPk h
set_option maxHeartbeats 400000 in
theorem look_any (A : Option Addr) (c : Nat) (l : List Pk) (per : Int) (S : Nat → Addr) (w : World) (B : Nat) (hB : B ≤ w.heap.size) (h : RdP w B A l) (hS : Snt w B S [2, 5]) (hl : l.length ≤ 9223372036854775807) :
    Calls Tryz.prog 170 #[.slice A l.length c, .int .i64 per] w (EndEr S (lookErr l per).1 (lookErr l per).2 w) := by
  by_cases h1 : (pktErr l).1 = 0
  · have Hc := Lib.hid (pktErr_nil h1)
    clear h1
    by_cases h2 : per < 1 ∨ 1000 < per
    · have Hf := Lib.hid (show lookErr l per = (2, -1) by unfold lookErr; rw [Hc.out]; exact if_pos h2)
      have h3 : per < 1 ∨ (1 ≤ per ∧ 1000 < per) := by omega
      clear h2
      have G2 := Lib.hid (show ∀ w1, Below w.heap.size w w1 → w1.cell? ⟨G 2, 0, none⟩ = some (sv S 2) from fun w1 hb1 => ((hS.below (hb1.mono hB)) 2 (by simp)).2.2)
      rcases h3 with h3 | ⟨h3, h4⟩
      all_goals
        go_enter Tryz.func170, Tryz.ntmps170
        go_wp2_with (go_at_call 97; refine (pcheck_any A c l S _ B hB h hS hl).mono ?_; rintro e w1 ⟨v, rfl, hv, hb1⟩; have g2 := G2.out w1 hb1; simp only [G, sv] at g2; obtain rfl := hv.nil_of (by rw [Hc.out]))
        go_ret
        rw [Hf.out]
        exact ⟨_, rfl, .bare 2 (by omega) (by omega), hb1⟩
    · have Hf := Lib.hid (show lookErr l per = (0, -1) by unfold lookErr; rw [Hc.out]; exact if_neg h2)
      have h3 : 1 ≤ per := by omega
      have h4 : per ≤ 1000 := by omega
      clear h2
      go_enter Tryz.func170, Tryz.ntmps170
      go_wp2_with (go_at_call 97; refine (pcheck_any A c l S _ B hB h hS hl).mono ?_; rintro e w1 ⟨v, rfl, hv, hb1⟩; obtain rfl := hv.nil_of (by rw [Hc.out]))
      go_ret
      rw [Hf.out]
      exact ⟨_, rfl, .nil, hb1⟩
  · have Hf := Lib.hid (show lookErr l per = pktErr l from if_pos h1)
    have H1 := Lib.hid h1
    clear h1
    go_enter Tryz.func170, Tryz.ntmps170
    go_wp2_with (go_at_call 97; refine (pcheck_any A c l S _ B hB h hS hl).mono ?_; rintro e w1 ⟨v, rfl, hv, hb1⟩; obtain ⟨T, a, rfl⟩ := hv.some_of H1.out)
    go_ret
    rw [Hf.out]
    exact ⟨_, rfl, hv, hb1⟩
end Go.Proofs.YtoomffajodheaaaGreatDoor
namespace Go.Proofs.YtoomffajodheaaaGreatDoor

/-- A picker: a packet comes; the next one (none: none waits); the link is idle; those that wait; what holds of its states. -/
structure Pol (σ : Type) where
  come : σ → Nat → σ
  pick : σ → Option (Nat × σ)
  rest : σ → σ
  wait : σ → List Nat
  ok : Nat → σ → Prop
structure PolOk {σ : Type} (M : Pol σ) (n : Nat) : Prop where
  ok_come : ∀ s k, M.ok k s → k < n → M.ok (k + 1) (M.come s k)
  ok_pick : ∀ s m k s', M.ok m s → M.pick s = some (k, s') → M.ok m s'
  ok_rest : ∀ s m, M.ok m s → M.wait s = [] → M.ok m (M.rest s)
  w_come : ∀ s k, M.ok k s → k < n → (M.wait (M.come s k)).Perm (k :: M.wait s)
  w_none : ∀ s m, M.ok m s → M.pick s = none → M.wait s = []
  w_some : ∀ s m k s', M.ok m s → M.pick s = some (k, s') → (M.wait s).Perm (k :: M.wait s')
  w_rest : ∀ s m, M.ok m s → M.wait s = [] → M.wait (M.rest s) = []

def aOf (p : List Pk) (k : Nat) : Int := (p.getD k ⟨0, 0, 0⟩).a
def sOf (p : List Pk) (k : Nat) : Int := (p.getD k ⟨0, 0, 0⟩).s
def fOf (p : List Pk) (k : Nat) : Int := (p.getD k ⟨0, 0, 0⟩).f
theorem getD_of {p : List Pk} {k : Nat} (h : k < p.length) : p.getD k ⟨0, 0, 0⟩ = p[k] := by simp [List.getD, h]
theorem aOf_of {p : List Pk} {k : Nat} (h : k < p.length) : aOf p k = p[k].a := by unfold aOf; rw [getD_of h]
theorem sOf_of {p : List Pk} {k : Nat} (h : k < p.length) : sOf p k = p[k].s := by unfold sOf; rw [getD_of h]
theorem fOf_of {p : List Pk} {k : Nat} (h : k < p.length) : fOf p k = p[k].f := by unfold fOf; rw [getD_of h]

/-- All that have come by now. -/
def comeL {σ : Type} (M : Pol σ) (now : Int) : List Pk → Nat → σ → Nat × σ
  | [], k, s => (k, s)
  | x :: r, k, s => if x.a ≤ now then comeL M now r (k + 1) (M.come s k) else (k, s)
structure St (σ : Type) where
  out : List Sn
  now : Int
  next : Nat
  s : σ
def stepS {σ : Type} (M : Pol σ) (p : List Pk) (per : Int) (t : St σ) : St σ :=
  match M.pick (comeL M t.now (p.drop t.next) t.next t.s).2 with
  | none => { out := t.out, now := aOf p (comeL M t.now (p.drop t.next) t.next t.s).1, next := (comeL M t.now (p.drop t.next) t.next t.s).1, s := M.rest (comeL M t.now (p.drop t.next) t.next t.s).2 }
  | some (k, s') => { out := t.out ++ [⟨k, t.now, t.now + per * sOf p k⟩], now := t.now + per * sOf p k, next := (comeL M t.now (p.drop t.next) t.next t.s).1, s := s' }
def runS {σ : Type} (M : Pol σ) (p : List Pk) (per : Int) : Nat → St σ → St σ
  | 0, t => t
  | f + 1, t => if t.out.length < p.length then runS M p per f (stepS M p per t) else t
def serveS {σ : Type} (M : Pol σ) (p : List Pk) (per : Int) (s0 : σ) : St σ := runS M p per (2 * p.length + 1) ⟨[], 0, 0, s0⟩

/-- What holds at each round's head. -/
structure Inv {σ : Type} (M : Pol σ) (p : List Pk) (t : St σ) : Prop where
  next_le : t.next ≤ p.length
  perm : ((t.out.map fun x => x.p.toNat) ++ M.wait t.s).Perm (List.range t.next)
  pos : ∀ x ∈ t.out, 0 ≤ x.p
  now0 : 0 ≤ t.now
  now1 : t.now ≤ 1099511627776 + 1500000 * t.out.length
  ok : M.ok t.next t.s
/-- What falls. -/
def muV (p : List Pk) (n : Nat) (now : Int) : Nat := 2 * (p.length - n) + if now < aOf p n then 1 else 0
def mu {σ : Type} (p : List Pk) (t : St σ) : Nat := muV p t.out.length t.now

/-- What holds while packets come. -/
structure InvC {σ : Type} (M : Pol σ) (p : List Pk) (out : List Sn) (k : Nat) (s : σ) : Prop where
  k_le : k ≤ p.length
  perm : ((out.map fun x => x.p.toNat) ++ M.wait s).Perm (List.range k)
  ok : M.ok k s
theorem InvC.wait_lt {σ : Type} {M : Pol σ} {p : List Pk} {out : List Sn} {k : Nat} {s : σ} (h : InvC M p out k s) {j : Nat} (hj : j ∈ M.wait s) : j < k :=
  List.mem_range.1 (h.perm.mem_iff.1 (List.mem_append_right _ hj))
theorem InvC.come {σ : Type} {M : Pol σ} {p : List Pk} {out : List Sn} {k : Nat} {s : σ} (hM : PolOk M p.length) (h : InvC M p out k s) (hk : k < p.length) : InvC M p out (k + 1) (M.come s k) := by
  refine ⟨hk, ?_, hM.ok_come s k h.ok hk⟩
  rw [List.range_succ]
  refine ((hM.w_come s k h.ok hk).append_left _).trans ?_
  refine (List.perm_middle).trans ?_
  exact (List.Perm.cons k h.perm).trans (List.perm_append_comm (l₁ := [k]))
theorem comeL_inv {σ : Type} {M : Pol σ} {p : List Pk} (hM : PolOk M p.length) {out : List Sn} (now : Int) (r : List Pk) (k : Nat) (s : σ) (hr : p.drop k = r) (h : InvC M p out k s) :
    InvC M p out (comeL M now r k s).1 (comeL M now r k s).2 ∧ ((comeL M now r k s).1 < p.length → now < aOf p (comeL M now r k s).1) := by
  induction r generalizing k s with
  | nil =>
    have : p.length ≤ k := by have := congrArg List.length hr; simp at this; omega
    exact ⟨h, fun h2 => absurd h2 (by simp only [comeL]; omega)⟩
  | cons x r ih =>
    have hk : k < p.length := by
      have := congrArg List.length hr
      simp at this
      omega
    have hd := List.drop_eq_getElem_cons hk
    rw [hr] at hd
    injection hd with hx hr'
    unfold comeL
    by_cases hc : x.a ≤ now
    · rw [if_pos hc]
      exact ih (k + 1) (M.come s k) hr'.symm (h.come hM hk)
    · rw [if_neg hc]
      refine ⟨h, fun _ => ?_⟩
      rw [aOf_of hk, ← hx]
      omega

theorem Inv.toC {σ : Type} {M : Pol σ} {p : List Pk} {t : St σ} (h : Inv M p t) : InvC M p t.out t.next t.s := ⟨h.next_le, h.perm, h.ok⟩
theorem InvC.cnt {σ : Type} {M : Pol σ} {p : List Pk} {out : List Sn} {k : Nat} {s : σ} (h : InvC M p out k s) : out.length + (M.wait s).length = k := by
  have := h.perm.length_eq
  simpa using this
/-- A picked one has come, and is a packet. -/
theorem InvC.pick_lt {σ : Type} {M : Pol σ} {p : List Pk} (hM : PolOk M p.length) {out : List Sn} {k : Nat} {s : σ} (h : InvC M p out k s) {j : Nat} {s' : σ} (hp : M.pick s = some (j, s')) : j < k :=
  h.wait_lt ((hM.w_some s _ j s' h.ok hp).mem_iff.2 List.mem_cons_self)
theorem InvC.idle {σ : Type} {M : Pol σ} {p : List Pk} (hM : PolOk M p.length) {out : List Sn} {k : Nat} {s : σ} (h : InvC M p out k s) (hp : M.pick s = none) : out.length = k := by
  have h1 := h.cnt
  rw [hM.w_none s _ h.ok hp] at h1
  simpa using h1

theorem step_inv {σ : Type} {M : Pol σ} {p : List Pk} {per : Int} (hM : PolOk M p.length) (hp : ∀ x ∈ p, okPk x) (h0 : 1 ≤ per) (h1 : per ≤ 1000) {t : St σ} (h : Inv M p t) (hl : t.out.length < p.length) :
    Inv M p (stepS M p per t) ∧ mu p (stepS M p per t) < mu p t := by
  obtain ⟨hc, hlt⟩ := comeL_inv hM t.now (p.drop t.next) t.next t.s rfl h.toC
  unfold stepS
  generalize comeL M t.now (p.drop t.next) t.next t.s = q at hc hlt
  cases hpk : M.pick q.2 with
  | none =>
    have hid := hc.idle hM hpk
    have hq : q.1 < p.length := by omega
    have hw := hM.w_none _ _ hc.ok hpk
    have hok := hp _ (List.getElem_mem hq)
    have ha := hlt hq
    refine ⟨⟨hc.k_le, ?_, h.pos, ?_, ?_, hM.ok_rest _ _ hc.ok hw⟩, ?_⟩
    · rw [hM.w_rest _ _ hc.ok hw, ← hw]; exact hc.perm
    · show 0 ≤ aOf p q.1
      rw [aOf_of hq]; exact hok.2.2.2.2.1
    · show aOf p q.1 ≤ _
      rw [aOf_of hq]; have := hok.2.2.2.2.2; simp only; omega
    · unfold mu muV
      simp only
      rw [hid, if_neg (by omega), if_pos ha]
      omega
  | some ks =>
    obtain ⟨k, s'⟩ := ks
    have hk : k < q.1 := hc.pick_lt hM hpk
    have hkl : k < p.length := Nat.lt_of_lt_of_le hk hc.k_le
    have hok := hp _ (List.getElem_mem hkl)
    have e1 := sOf_of hkl
    have m1 : 0 ≤ per * sOf p k := Int.mul_nonneg (by omega) (by rw [e1]; have := hok.2.2.1; omega)
    have m2 : per * sOf p k ≤ 1500000 := by
      have := Int.mul_le_mul h1 (by rw [e1]; exact hok.2.2.2.1 : sOf p k ≤ 1500) (by rw [e1]; have := hok.2.2.1; omega) (by omega : (0:Int) ≤ 1000)
      omega
    have n0 := h.now0
    have n1 := h.now1
    refine ⟨⟨hc.k_le, ?_, ?_, ?_, ?_, hM.ok_pick _ _ _ _ hc.ok hpk⟩, ?_⟩
    · have hperm := hc.perm
      have hw := hM.w_some _ _ _ _ hc.ok hpk
      simp only [List.map_append, List.map_cons, List.map_nil, Int.toNat_natCast]
      rw [List.append_assoc]
      exact ((hw.symm).append_left _).trans hperm
    · intro x hx
      rcases List.mem_append.1 hx with hx | hx
      · exact h.pos x hx
      · rw [List.mem_singleton.1 hx]; exact Int.natCast_nonneg _
    · simp only; omega
    · simp only [List.length_append, List.length_cons, List.length_nil]; omega
    · unfold mu muV
      simp only [List.length_append, List.length_cons, List.length_nil]
      split <;> split <;> omega

theorem comeL_out {σ : Type} (M : Pol σ) (p : List Pk) (now : Int) (k : Nat) (s : σ) (h : k < p.length → now < aOf p k) : comeL M now (p.drop k) k s = (k, s) := by
  by_cases hk : k < p.length
  · rw [List.drop_eq_getElem_cons hk]
    unfold comeL
    have := h hk
    rw [aOf_of hk] at this
    rw [if_neg (by omega)]
  · rw [List.drop_eq_nil_of_le (by omega)]
    rfl
theorem step_none {σ : Type} {M : Pol σ} {p : List Pk} {per : Int} {t : St σ} {k : Nat} {s : σ} (hq : comeL M t.now (p.drop t.next) t.next t.s = (k, s)) (hp : M.pick s = none) : stepS M p per t = ⟨t.out, aOf p k, k, M.rest s⟩ := by
  unfold stepS
  rw [hq, hp]
theorem step_some {σ : Type} {M : Pol σ} {p : List Pk} {per : Int} {t : St σ} {k j : Nat} {s s' : σ} (hq : comeL M t.now (p.drop t.next) t.next t.s = (k, s)) (hp : M.pick s = some (j, s')) :
    stepS M p per t = ⟨t.out ++ [⟨j, t.now, t.now + per * sOf p j⟩], t.now + per * sOf p j, k, s'⟩ := by
  unfold stepS
  rw [hq, hp]
theorem inv_start {σ : Type} {M : Pol σ} (p : List Pk) {s0 : σ} (hw : M.wait s0 = []) (ho : M.ok 0 s0) : Inv M p ⟨[], 0, 0, s0⟩ :=
  ⟨Nat.zero_le _, by simp [hw], by simp, Int.le_refl _, by simp, ho⟩
theorem mu_start {σ : Type} (p : List Pk) (s0 : σ) : mu p (⟨[], 0, 0, s0⟩ : St σ) ≤ 2 * p.length + 1 := by
  unfold mu muV
  simp only [List.length_nil]
  split <;> omega
theorem runS_done {σ : Type} (M : Pol σ) (p : List Pk) (per : Int) (f : Nat) (t : St σ) (h : ¬ t.out.length < p.length) : runS M p per f t = t := by
  cases f with
  | zero => rfl
  | succ f => unfold runS; rw [if_neg h]
theorem runS_step {σ : Type} (M : Pol σ) (p : List Pk) (per : Int) (f : Nat) (t : St σ) (h : t.out.length < p.length) (hf : mu p t ≤ f) : runS M p per f t = runS M p per (f - 1) (stepS M p per t) := by
  cases f with
  | zero => unfold mu muV at hf; omega
  | succ f => show (if _ then _ else _) = _; rw [if_pos h]; rfl
/-- The run ends with all packets sent, and the invariant. -/
theorem run_all {σ : Type} {M : Pol σ} {p : List Pk} {per : Int} (hM : PolOk M p.length) (hp : ∀ x ∈ p, okPk x) (h0 : 1 ≤ per) (h1 : per ≤ 1000) (f : Nat) (t : St σ) (h : Inv M p t) (hf : mu p t ≤ f) (hl : t.out.length ≤ p.length) :
    Inv M p (runS M p per f t) ∧ (runS M p per f t).out.length = p.length := by
  induction f generalizing t with
  | zero =>
    unfold mu muV at hf
    refine ⟨h, ?_⟩
    show t.out.length = _
    omega
  | succ f ih =>
    by_cases hlt : t.out.length < p.length
    · obtain ⟨h2, h3⟩ := step_inv hM hp h0 h1 h hlt
      unfold runS
      rw [if_pos hlt]
      refine ih _ h2 (by omega) ?_
      have hc := h2.toC.cnt
      have := h2.next_le
      omega
    · unfold runS
      rw [if_neg hlt]
      exact ⟨h, by omega⟩
/-- What each step keeps holds at the end. -/
theorem run_ind {σ : Type} {M : Pol σ} {p : List Pk} {per : Int} (hM : PolOk M p.length) (hp : ∀ x ∈ p, okPk x) (h0 : 1 ≤ per) (h1 : per ≤ 1000) (J : St σ → Prop) (hJ : ∀ t, Inv M p t → t.out.length < p.length → J t → J (stepS M p per t)) (f : Nat) (t : St σ) (h : Inv M p t) (hj : J t) : J (runS M p per f t) := by
  induction f generalizing t with
  | zero => exact hj
  | succ f ih =>
    unfold runS
    by_cases hlt : t.out.length < p.length
    · rw [if_pos hlt]
      exact ih _ (step_inv hM hp h0 h1 h hlt).1 (hJ t h hlt hj)
    · rw [if_neg hlt]
      exact hj
end Go.Proofs.YtoomffajodheaaaGreatDoor
