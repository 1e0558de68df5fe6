/- Package fifo's Busy, floodgateref1.BusyTicks: busy ticks of whatever was sent. Condition: the list fits memory. KLEINROCK, plainly: whatever the picker, a link is busy at the same ticks. No program in sight. -/
import Derived.Test.YtoomffajodheaaaGreatDoorQMiscM
import Derived.Laws.OwnMore
import Derived.StillTailTactics
import Derived.Lib.MinMax
import Derived.Deep.RegionLaw
import Derived.Test.YtoomffajodheaaaGreatDoorQFifoM2
set_option linter.all false
namespace Go.Proofs.YtoomffajodheaaaGreatDoor
open Go.RowKit
set_option maxRecDepth 100000
def bStep (acc : List Ln) (x : Sn) : List Ln := match acc.getLast? with
  | some y => if x.f ≤ y.r then acc.dropLast ++ [⟨y.b, max y.r x.t⟩] else acc ++ [⟨x.f, x.t⟩]
  | none => [⟨x.f, x.t⟩]
def busyL (l : List Sn) : List Ln := l.foldl bStep []
theorem bStep_in (a : List Ln) (y : Ln) (x : Sn) (h : x.f ≤ y.r) : bStep (a ++ [y]) x = a ++ [⟨y.b, max y.r x.t⟩] := by
  unfold bStep
  simp [h]
theorem bStep_out (a : List Ln) (y : Ln) (x : Sn) (h : y.r < x.f) : bStep (a ++ [y]) x = a ++ [y] ++ [⟨x.f, x.t⟩] := by
  unfold bStep
  have : ¬ x.f ≤ y.r := by omega
  simp [this]
end Go.Proofs.YtoomffajodheaaaGreatDoor
namespace Go.Proofs.YtoomffajodheaaaGreatDoor
/-- Busy ticks by what comes. -/
def kStep (per : Int) (acc : List Ln) (x : Pk) : List Ln := match acc.getLast? with
  | some y => if x.a ≤ y.r then acc.dropLast ++ [⟨y.b, y.r + per * x.s⟩] else acc ++ [⟨x.a, x.a + per * x.s⟩]
  | none => [⟨x.a, x.a + per * x.s⟩]
def kL (per : Int) (p : List Pk) : List Ln := p.foldl (kStep per) []
theorem kStep_in {per : Int} (C : List Ln) (b e : Int) (x : Pk) (h : x.a ≤ e) : kStep per (C ++ [⟨b, e⟩]) x = C ++ [⟨b, e + per * x.s⟩] := by
  unfold kStep
  simp [h]
theorem kStep_out {per : Int} (K : List Ln) (x : Pk) (h : K = [] ∨ ∃ C y, K = C ++ [y] ∧ y.r < x.a) : kStep per K x = K ++ [⟨x.a, x.a + per * x.s⟩] := by
  rcases h with rfl | ⟨C, y, rfl, h⟩
  · rfl
  · unfold kStep
    have : ¬ x.a ≤ y.r := by omega
    simp [this]
theorem kL_succ {per : Int} {p : List Pk} {k : Nat} (h : k < p.length) : kL per (p.take (k + 1)) = kStep per (kL per (p.take k)) p[k] := by
  unfold kL
  rw [List.take_succ_eq_append_getElem h, List.foldl_append]
  rfl
/-- The time of those that wait. -/
def sumW (per : Int) (p : List Pk) : List Nat → Int
  | [] => 0
  | k :: r => per * sOf p k + sumW per p r
theorem sumW_perm {per : Int} {p : List Pk} {l l' : List Nat} (h : l.Perm l') : sumW per p l = sumW per p l' := by
  induction h with
  | nil => rfl
  | cons x _ ih => unfold sumW; rw [ih]
  | swap x y l => unfold sumW; unfold sumW; omega
  | trans _ _ i1 i2 => exact i1.trans i2
theorem sumW_nn {per : Int} {p : List Pk} (h0 : 1 ≤ per) (hp : ∀ x ∈ p, okPk x) : ∀ l : List Nat, 0 ≤ sumW per p l
  | [] => Int.le_refl _
  | k :: r => by
    have ih := sumW_nn h0 hp r
    have hs : 0 ≤ sOf p k := by
      by_cases hk : k < p.length
      · rw [sOf_of hk]; have := (hp _ (List.getElem_mem hk)).2.2.1; omega
      · unfold sOf; simp [List.getD, List.getElem?_eq_none (show p.length ≤ k by omega)]
    have := Int.mul_nonneg (show 0 ≤ per by omega) hs
    unfold sumW
    omega
theorem comeL_busy {σ : Type} {M : Pol σ} {p : List Pk} {per : Int} (hM : PolOk M p.length) (hp : ∀ x ∈ p, okPk x) (h0 : 1 ≤ per) {out : List Sn} (now b : Int) (C : List Ln) (r : List Pk) (k : Nat) (s : σ) (hr : p.drop k = r) (h : InvC M p out k s)
    (hk : kL per (p.take k) = C ++ [⟨b, now + sumW per p (M.wait s)⟩]) : kL per (p.take (comeL M now r k s).1) = C ++ [⟨b, now + sumW per p (M.wait (comeL M now r k s).2)⟩] := by
  induction r generalizing k s with
  | nil => exact hk
  | cons x r ih =>
    have hkl : k < p.length := by
      have := congrArg List.length hr
      simp at this
      omega
    have hd := List.drop_eq_getElem_cons hkl
    rw [hr] at hd
    injection hd with hx hr'
    unfold comeL
    by_cases hc : x.a ≤ now
    · rw [if_pos hc]
      refine ih (k + 1) (M.come s k) hr'.symm (h.come hM hkl) ?_
      have hn := sumW_nn h0 hp (M.wait s)
      rw [kL_succ hkl, hk, ← hx, kStep_in C b _ x (by omega), sumW_perm (hM.w_come s k h.ok hkl), show sumW per p (k :: M.wait s) = per * sOf p k + sumW per p (M.wait s) from rfl, sOf_of hkl, ← hx]
      congr 3
      omega
    · rw [if_neg hc]
      exact hk
theorem comeL_idle {σ : Type} {M : Pol σ} {p : List Pk} {per : Int} (hM : PolOk M p.length) (hp : ∀ x ∈ p, okPk x) (h0 : 1 ≤ per) {out : List Sn} (now : Int) (k : Nat) (s : σ) (h : InvC M p out k s) (hw : M.wait s = []) (hK : kL per (p.take k) = [] ∨ ∃ C y, kL per (p.take k) = C ++ [y] ∧ y.r < now) (ha : ∀ j, k ≤ j → j < p.length → now ≤ aOf p j) :
    ((comeL M now (p.drop k) k s).1 = k ∧ (comeL M now (p.drop k) k s).2 = s) ∨ k < (comeL M now (p.drop k) k s).1 ∧ kL per (p.take (comeL M now (p.drop k) k s).1) = kL per (p.take k) ++ [⟨now, now + sumW per p (M.wait (comeL M now (p.drop k) k s).2)⟩] := by
  by_cases hkl : k < p.length
  · rw [List.drop_eq_getElem_cons hkl]
    unfold comeL
    by_cases hc : p[k].a ≤ now
    · right
      rw [if_pos hc]
      have hge := ha k (Nat.le_refl _) hkl
      rw [aOf_of hkl] at hge
      have he : p[k].a = now := by omega
      refine ⟨comeL_ge M now _ (k + 1) _, comeL_busy hM hp h0 now now (kL per (p.take k)) _ (k + 1) (M.come s k) rfl (h.come hM hkl) ?_⟩
      rw [kL_succ hkl, kStep_out _ _ (by rw [he]; exact hK), sumW_perm (hM.w_come s k h.ok hkl), hw, he, show sumW per p [k] = per * sOf p k + 0 from rfl, sOf_of hkl]
      congr 3
      omega
    · left
      rw [if_neg hc]
      exact ⟨rfl, rfl⟩
  · left
    rw [List.drop_eq_nil_of_le (by omega)]
    exact ⟨rfl, rfl⟩
/-- What holds at each round's head. -/
def KJ {σ : Type} (M : Pol σ) (p : List Pk) (per : Int) (t : St σ) : Prop :=
  (M.wait t.s = [] ∧ busyL t.out = kL per (p.take t.next) ∧ (kL per (p.take t.next) = [] ∨ ∃ C y, kL per (p.take t.next) = C ++ [y] ∧ y.r < t.now) ∧ ∀ j, t.next ≤ j → j < p.length → t.now ≤ aOf p j) ∨
  ∃ C b, busyL t.out = C ++ [⟨b, t.now⟩] ∧ kL per (p.take t.next) = C ++ [⟨b, t.now + sumW per p (M.wait t.s)⟩]
theorem busyL_snoc (l : List Sn) (x : Sn) : busyL (l ++ [x]) = bStep (busyL l) x := by
  unfold busyL
  rw [List.foldl_append]
  rfl
theorem kj_step {σ : Type} {M : Pol σ} {p : List Pk} {per : Int} (hM : PolOk M p.length) (hp : ∀ x ∈ p, okPk x) (hs : ∀ i j, i ≤ j → j < p.length → aOf p i ≤ aOf p j) (h0 : 1 ≤ per) (t : St σ) (h : Inv M p t) (hlt : t.out.length < p.length) (hj : KJ M p per t) : KJ M p per (stepS M p per t) := by
  obtain ⟨hc, hlt2⟩ := comeL_inv hM t.now (p.drop t.next) t.next t.s rfl h.toC
  have hcome : ((comeL M t.now (p.drop t.next) t.next t.s).1 = t.next ∧ (comeL M t.now (p.drop t.next) t.next t.s).2 = t.s ∧ M.wait t.s = [] ∧ busyL t.out = kL per (p.take t.next) ∧ (kL per (p.take t.next) = [] ∨ ∃ C y, kL per (p.take t.next) = C ++ [y] ∧ y.r < t.now)) ∨
      (∃ K, busyL t.out = K ∧ (K = [] ∨ ∃ C y, K = C ++ [y] ∧ y.r < t.now) ∧ M.wait t.s = [] ∧ t.next < (comeL M t.now (p.drop t.next) t.next t.s).1 ∧ kL per (p.take (comeL M t.now (p.drop t.next) t.next t.s).1) = K ++ [⟨t.now, t.now + sumW per p (M.wait (comeL M t.now (p.drop t.next) t.next t.s).2)⟩]) ∨
      ∃ C b, busyL t.out = C ++ [⟨b, t.now⟩] ∧ kL per (p.take (comeL M t.now (p.drop t.next) t.next t.s).1) = C ++ [⟨b, t.now + sumW per p (M.wait (comeL M t.now (p.drop t.next) t.next t.s).2)⟩] := by
    rcases hj with ⟨j1, j2, j3, j4⟩ | ⟨C, b, j1, j2⟩
    · rcases comeL_idle hM hp h0 t.now t.next t.s h.toC j1 j3 j4 with ⟨e1, e2⟩ | ⟨e0, e⟩
      · exact .inl ⟨e1, e2, j1, j2, j3⟩
      · exact .inr (.inl ⟨_, j2, j3, j1, e0, e⟩)
    · exact .inr (.inr ⟨C, b, j1, comeL_busy hM hp h0 t.now b C _ t.next t.s rfl h.toC j2⟩)
  have hcn := h.toC.cnt
  unfold stepS
  generalize comeL M t.now (p.drop t.next) t.next t.s = q at hc hlt2 hcome
  cases hpk : M.pick q.2 with
  | none =>
    have hid := hc.idle hM hpk
    have hq : q.1 < p.length := by omega
    have hw := hM.w_none _ _ hc.ok hpk
    have ha := hlt2 hq
    have hwr := hM.w_rest _ _ hc.ok hw
    refine .inl ⟨hwr, ?_, ?_, fun j h1 h2 => hs _ _ h1 h2⟩
    · rcases hcome with ⟨e1, e2, e3, e4, e5⟩ | ⟨K, e1, e2, e3, e4, e5⟩ | ⟨C, b, e1, e2⟩
      · show busyL t.out = kL per (p.take q.1)
        rw [e1]; exact e4
      · rw [e3] at hcn
        simp at hcn
        omega
      · show busyL t.out = kL per (p.take q.1)
        rw [e1, e2, hw]
        show _ = C ++ [⟨b, t.now + 0⟩]
        rw [Int.add_zero]
    · show kL per (p.take q.1) = [] ∨ ∃ C y, kL per (p.take q.1) = C ++ [y] ∧ y.r < aOf p q.1
      rcases hcome with ⟨e1, e2, e3, e4, e5⟩ | ⟨K, e1, e2, e3, e4, e5⟩ | ⟨C, b, e1, e2⟩
      · rw [e1] at ha ⊢
        rcases e5 with e5 | ⟨C, y, e5, e6⟩
        · exact .inl e5
        · exact .inr ⟨C, y, e5, by omega⟩
      · rw [e3] at hcn
        simp at hcn
        omega
      · rw [hw] at e2
        exact .inr ⟨C, _, e2, by show t.now + 0 < _; omega⟩
  | some ks =>
    obtain ⟨k, s'⟩ := ks
    have hk : k < q.1 := hc.pick_lt hM hpk
    have hkl : k < p.length := Nat.lt_of_lt_of_le hk hc.k_le
    have hok := hp _ (List.getElem_mem hkl)
    have hsz : 0 ≤ per * sOf p k := Int.mul_nonneg (by omega) (by rw [sOf_of hkl]; have := hok.2.2.1; omega)
    have hw := sumW_perm (per := per) (p := p) (hM.w_some _ _ _ _ hc.ok hpk)
    rw [show sumW per p (k :: M.wait s') = per * sOf p k + sumW per p (M.wait s') from rfl] at hw
    have fin : ∀ C b, kL per (p.take q.1) = C ++ [⟨b, t.now + sumW per p (M.wait q.2)⟩] → kL per (p.take q.1) = C ++ [⟨b, t.now + per * sOf p k + sumW per p (M.wait s')⟩] := fun C b e => by
      rw [e, hw]
      congr 3
      omega
    right
    rcases hcome with ⟨e1, e2, e3, e4, e5⟩ | ⟨K, e1, e2, e3, e4, e5⟩ | ⟨C, b, e1, e2⟩
    · exfalso
      have h9 := hM.w_some _ _ _ _ hc.ok hpk
      rw [e2, e3] at h9
      simpa using h9.length_eq
    · refine ⟨K, t.now, ?_, fin K t.now e5⟩
      show busyL (t.out ++ [_]) = _
      rw [busyL_snoc, e1]
      rcases e2 with rfl | ⟨C, y, rfl, e6⟩
      · rfl
      · rw [bStep_out C y _ e6]
    · refine ⟨C, b, ?_, fin C b e2⟩
      show busyL (t.out ++ [_]) = _
      rw [busyL_snoc, e1, bStep_in C ⟨b, t.now⟩ _ (Int.le_refl _)]
      congr 3
      show max t.now (t.now + per * sOf p k) = t.now + per * sOf p k
      omega
theorem kleinrock {σ : Type} {M : Pol σ} {p : List Pk} {per : Int} {s0 : σ} (hM : PolOk M p.length) (hp : ∀ x ∈ p, okPk x) (hs : ∀ i j, i ≤ j → j < p.length → aOf p i ≤ aOf p j) (h0 : 1 ≤ per) (h1 : per ≤ 1000) (hw0 : M.wait s0 = []) (ho : M.ok 0 s0) : busyL (serveS M p per s0).out = kL per p := by
  have hJ := run_ind hM hp h0 h1 (KJ M p per) (fun t hi hl hj => kj_step hM hp hs h0 t hi hl hj) (2 * p.length + 1) _ (inv_start p hw0 ho) (.inl ⟨hw0, rfl, .inl rfl, fun j _ h2 => by
    show 0 ≤ _
    rw [aOf_of h2]
    exact (hp _ (List.getElem_mem h2)).2.2.2.2.1⟩)
  obtain ⟨hi, hl⟩ := run_all hM hp h0 h1 (2 * p.length + 1) _ (inv_start p hw0 ho) (mu_start p s0) (by simp)
  have hcn := hi.toC.cnt
  have hle := hi.next_le
  unfold serveS
  generalize runS M p per (2 * p.length + 1) ⟨[], 0, 0, s0⟩ = t at hJ hi hl hcn hle
  have hw : M.wait t.s = [] := List.length_eq_zero_iff.1 (by omega)
  have hn : t.next = p.length := by rw [hw] at hcn; simp at hcn; omega
  rcases hJ with ⟨j1, j2, -, -⟩ | ⟨C, b, j1, j2⟩
  · rw [j2, hn, List.take_length]
  · rw [hw, hn, List.take_length] at j2
    rw [j1, j2]
    show _ = C ++ [⟨b, t.now + 0⟩]
    rw [Int.add_zero]
end Go.Proofs.YtoomffajodheaaaGreatDoor
