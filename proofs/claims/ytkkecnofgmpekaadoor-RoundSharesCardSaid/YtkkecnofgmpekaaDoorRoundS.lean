/- SHREEDHAR and VARGHESE, plainly: while two flows wait, what they get by rounds is by their quanta, but for three quanta of both, and a packet of each. No program. No condition. -/
import Derived.Test.YtkkecnofgmpekaaDoorSprP
import Derived.Test.YtkkecnofgmpekaaDoorRoundP
namespace Go.Proofs.YtkkecnofgmpekaaDoor
def ahd (a b : Nat) : List Nat → Int
  | [] => 0
  | x :: r => if x = a then 1 else if x = b then 0 else ahd a b r
theorem ahd_app {a b : Nat} {l : List Nat} (r : List Nat) (h : a ∈ l ∨ b ∈ l) : ahd a b (l ++ r) = ahd a b l := by
  induction l with
  | nil => simp at h
  | cons x l ih =>
    rw [List.cons_append]
    unfold ahd
    by_cases h1 : x = a
    · rw [if_pos h1, if_pos h1]
    · rw [if_neg h1, if_neg h1]
      by_cases h2 : x = b
      · rw [if_pos h2, if_pos h2]
      · rw [if_neg h2, if_neg h2]
        refine ih ?_
        rcases h with h | h
        · rcases List.mem_cons.1 h with h | h
          · exact absurd h.symm h1
          · exact .inl h
        · rcases List.mem_cons.1 h with h | h
          · exact absurd h.symm h2
          · exact .inr h
theorem ahd_notA {a b : Nat} {l : List Nat} (h : a ∉ l) : ahd a b l = 0 := by
  induction l with
  | nil => rfl
  | cons x l ih =>
    unfold ahd
    rw [if_neg (fun e => h (by rw [e]; exact List.mem_cons_self))]
    split
    · rfl
    · exact ih fun e => h (List.mem_cons_of_mem _ e)
theorem ahd_notB {a b : Nat} {l : List Nat} (ha : a ∈ l) (h : b ∉ l) : ahd a b l = 1 := by
  induction l with
  | nil => simp at ha
  | cons x l ih =>
    unfold ahd
    by_cases h1 : x = a
    · rw [if_pos h1]
    · rw [if_neg h1, if_neg (fun e => h (by rw [e]; exact List.mem_cons_self))]
      refine ih ?_ fun e => h (List.mem_cons_of_mem _ e)
      rcases List.mem_cons.1 ha with e | e
      · exact absurd e.symm h1
      · exact e
theorem ahd_01 (a b : Nat) (l : List Nat) : ahd a b l = 0 ∨ ahd a b l = 1 := by
  induction l with
  | nil => exact .inl rfl
  | cons x l ih =>
    unfold ahd
    split
    · exact .inr rfl
    · split
      · exact .inl rfl
      · exact ih
/-- A flow's credit, less its quantum while it is its turn. -/
def rD (qs : List Int) (s : RS) (f : Nat) : Int := s.c f - if s.sv = some f then qu qs f else 0
def rPot (qs : List Int) (a b : Nat) (s : RS) : Int := rD qs s a * qu qs b - rD qs s b * qu qs a + ahd a b (lst s) * (qu qs a * qu qs b)
section
variable {p : List Pk} {qs : List Int} {m : Nat} {s s1 s' : RS} {g a b : Nat}
theorem rD_bd (h : RI p qs m s) {S : Int} (hS : ∀ j, j < p.length → sOf p j ≤ S) (hS1 : 1 ≤ S) (hq : ∀ g, 0 ≤ qu qs g) (f : Nat) : - qu qs f ≤ rD qs s f ∧ rD qs s f ≤ S - 1 := by
  have h0 := h.pos f
  have hf := hq f
  unfold rD
  by_cases hs : s.sv = some f
  · rw [if_pos hs]
    rcases h.in_ f hs with h1 | ⟨j, h1, h2⟩
    · omega
    · have := hS j h1; omega
  · rw [if_neg hs]
    rcases h.out f hs with h1 | ⟨k, r, h1, h2⟩
    · omega
    · have h3 := (h.fl f k (by rw [h1]; exact List.mem_cons_self)).1
      have := hS k (by have := h.le; omega)
      omega
theorem rPot_bd (h : RI p qs m s) {S : Int} (hS : ∀ j, j < p.length → sOf p j ≤ S) (hS1 : 1 ≤ S) (hq : ∀ g, 0 ≤ qu qs g) :
    -(qu qs a * qu qs b) - (S - 1) * qu qs a ≤ rPot qs a b s ∧ rPot qs a b s ≤ (S - 1) * qu qs b + qu qs b * qu qs a + qu qs a * qu qs b := by
  obtain ⟨a1, a2⟩ := rD_bd h hS hS1 hq a
  obtain ⟨b1, b2⟩ := rD_bd h hS hS1 hq b
  have ha := hq a
  have hb := hq b
  have m1 := Int.mul_le_mul_of_nonneg_right a1 hb
  have m2 := Int.mul_le_mul_of_nonneg_right a2 hb
  have m3 := Int.mul_le_mul_of_nonneg_right b1 ha
  have m4 := Int.mul_le_mul_of_nonneg_right b2 ha
  have m5 := Int.mul_nonneg ha hb
  rw [Int.neg_mul] at m1 m3
  unfold rPot
  rcases ahd_01 a b (lst s) with e | e <;> rw [e] <;> omega
theorem rPot_turn (hne : a ≠ b) (ht : rTurn qs s = some (g, s1)) (hl : lst s1 = lst s) (h1 : s1.sv = some g) (ho : (s.sv = some g ∧ s1 = s) ∨ (s.sv = none ∧ s1.c = upd s.c g (s.c g + qu qs g))) : rPot qs a b s1 = rPot qs a b s := by
  rcases ho with ⟨_, rfl⟩ | ⟨h2, h3⟩
  · rfl
  · have e : ∀ f, rD qs s1 f = rD qs s f := fun f => by
      unfold rD
      rw [h1, h2, h3]
      by_cases hf : f = g
      · subst hf; rw [upd_same]; simp
      · rw [upd_other _ _ hf, if_neg (by intro e; injection e with e; exact hf e.symm), if_neg (by simp)]
    unfold rPot
    rw [e, e, hl]
theorem rPot_end (hne : a ≠ b) (h : RI p qs m s) (hs : s.sv = some g) (ha : a ∈ lst s) (hb : b ∈ lst s) : rPot qs a b (rEnd s g) = rPot qs a b s := by
  have hl : lst s = g :: s.row := by unfold lst; rw [hs]
  have hl2 : lst (rEnd s g) = s.row ++ [g] := rfl
  have hnd := h.nd
  rw [hl] at hnd ha hb
  obtain ⟨hn1, hn2⟩ := List.nodup_cons.1 hnd
  have e : ∀ f, rD qs (rEnd s g) f = rD qs s f + if f = g then qu qs f else 0 := fun f => by
    unfold rD
    rw [hs]
    show s.c f - (if none = some f then _ else _) = _
    rw [if_neg (by simp)]
    by_cases hf : f = g
    · subst hf; simp
    · rw [if_neg (by intro e; injection e with e; exact hf e.symm), if_neg hf]; omega
  unfold rPot
  rw [e, e, hl, hl2]
  by_cases h1 : a = g
  · subst h1
    have hb' : b ∈ s.row := by
      rcases List.mem_cons.1 hb with e | e
      · exact absurd e.symm hne
      · exact e
    rw [if_pos rfl, if_neg (fun e => hne e.symm), ahd_app _ (.inr hb'), ahd_notA hn1, show ahd a b (a :: s.row) = 1 by rw [ahd, if_pos rfl], Int.add_mul]
    simp only [Int.add_zero]
    omega
  · have ha' : a ∈ s.row := by
      rcases List.mem_cons.1 ha with e | e
      · exact absurd e h1
      · exact e
    by_cases h2 : b = g
    · subst h2
      rw [if_neg h1, if_pos rfl, ahd_app _ (.inl ha'), ahd_notB ha' hn1, show ahd a b (b :: s.row) = 0 by rw [ahd, if_neg (fun e => hne e.symm), if_pos rfl]]
      have e9 := Int.mul_comm (qu qs b) (qu qs a)
      have e8 := Int.add_mul (rD qs s b) (qu qs b) (qu qs a)
      simp only [Int.add_zero]
      omega
    · rw [if_neg h1, if_neg h2, ahd_app _ (.inl ha'), show ahd a b (g :: s.row) = ahd a b s.row by rw [ahd, if_neg (fun e => h1 e.symm), if_neg (fun e => h2 e.symm)]]
      simp only [Int.add_zero]
theorem rSend_lst (h : s.q g ≠ []) (ht : (s.q g).tail ≠ []) : lst (rSend p s g) = lst s ∧ (rSend p s g).sv = s.sv ∧ (rSend p s g).c = upd s.c g (s.c g - sOf p (rHead s g)) := by
  unfold rSend
  rw [if_neg ht]
  exact ⟨rfl, rfl, rfl⟩
/-- What a packet counts. -/
def cntK (p : List Pk) (qa qb : Int) (a b k : Nat) : Int := (if flN p k = a then sOf p k * qb else 0) - (if flN p k = b then sOf p k * qa else 0)
theorem rPot_send (hne : a ≠ b) (h : RI p qs m s) (hs : s.sv = some g) (ha : (rSend p s g).q a ≠ []) (hb : (rSend p s g).q b ≠ []) :
    rPot qs a b (rSend p s g) = rPot qs a b s - cntK p (qu qs a) (qu qs b) a b (rHead s g) := by
  have hl : lst s = g :: s.row := by unfold lst; rw [hs]
  have hqg : s.q g ≠ [] := (h.mem _).1 (by rw [hl]; exact List.mem_cons_self)
  have hfl := (h.head hqg).2
  have hnd := h.nd
  rw [hl] at hnd
  obtain ⟨hn1, hn2⟩ := List.nodup_cons.1 hnd
  rw [rSend_q] at ha hb
  unfold cntK
  rw [hfl]
  by_cases ht : (s.q g).tail = []
  · have h1 : g ≠ a := fun e => ha (by rw [← e, upd_same]; exact ht)
    have h2 : g ≠ b := fun e => hb (by rw [← e, upd_same]; exact ht)
    rw [if_neg h1, if_neg h2]
    have e1 : (rSend p s g).sv = none := by unfold rSend; rw [if_pos ht]
    have e2 : (rSend p s g).c = upd s.c g 0 := by unfold rSend; rw [if_pos ht]
    have e3 : lst (rSend p s g) = s.row := by unfold lst; rw [e1]; unfold rSend; rw [if_pos ht]
    have e : ∀ f, g ≠ f → rD qs (rSend p s g) f = rD qs s f := fun f hf => by
      unfold rD
      rw [e1, e2, hs, upd_other _ _ (fun e => hf e.symm), if_neg (by simp), if_neg (by intro e; injection e with e; exact hf e)]
    unfold rPot
    rw [e a h1, e b h2, e3, hl, show ahd a b (g :: s.row) = ahd a b s.row by rw [ahd, if_neg h1, if_neg h2]]
    omega
  · obtain ⟨e3, e1, e2⟩ := rSend_lst (p := p) hqg ht
    have e : ∀ f, rD qs (rSend p s g) f = rD qs s f - if g = f then sOf p (rHead s g) else 0 := fun f => by
      unfold rD
      rw [e1, e2]
      by_cases hf : g = f
      · subst hf; rw [upd_same, if_pos rfl]; omega
      · rw [upd_other _ _ (fun e => hf e.symm), if_neg hf]; omega
    unfold rPot
    rw [e a, e b, e3]
    by_cases h1 : g = a
    · subst h1
      rw [if_pos rfl, if_neg hne, if_pos rfl, if_neg hne, Int.sub_mul]
      simp only [Int.sub_zero]
      omega
    · rw [if_neg h1, if_neg h1]
      by_cases h2 : g = b
      · subst h2
        have e9 := Int.sub_mul (rD qs s g) (sOf p (rHead s g)) (qu qs a)
        rw [if_pos rfl, if_pos rfl]
        simp only [Int.sub_zero]
        omega
      · rw [if_neg h2, if_neg h2]
        simp only [Int.sub_zero]
theorem rPot_pick (hp : ∀ x ∈ p, okPk x) (hq : ∀ g, 0 ≤ qu qs g) (hne : a ≠ b) (f : Nat) (s : RS) (k : Nat) (h : RI p qs m s) (hk : rPick p qs f s = some (k, s')) (ha : s'.q a ≠ []) (hb : s'.q b ≠ []) (ha0 : a ∈ lst s) (hb0 : b ∈ lst s) :
    rPot qs a b s' = rPot qs a b s - cntK p (qu qs a) (qu qs b) a b k := by
  induction f generalizing s with
  | zero => cases hk
  | succ f ih =>
    unfold rPick at hk
    split at hk
    · cases hk
    · rename_i g s1 ht
      obtain ⟨h1, h2, h3, h4, h5, h6⟩ := h.turn hq ht
      have e0 := rPot_turn (a := a) (b := b) hne ht h4 h2 h6
      split at hk
      · simp only [Option.some.injEq, Prod.mk.injEq] at hk
        obtain ⟨rfl, rfl⟩ := hk
        rw [rPot_send hne h1 h2 ha hb, e0]
      · rename_i hc
        obtain ⟨h7, h8, _⟩ := h1.end_ h2 hc
        rw [← h4] at ha0 hb0
        rw [ih _ h7 hk (h8.mem_iff.2 ha0) (h8.mem_iff.2 hb0), rPot_end hne h1 h2 ha0 hb0, e0]
theorem rPot_come (hne : a ≠ b) (k : Nat) (ha : a ∈ lst s) (hb : b ∈ lst s) : rPot qs a b (rCome p s k) = rPot qs a b s ∧ a ∈ lst (rCome p s k) ∧ b ∈ lst (rCome p s k) := by
  have e : ∀ f, rD qs (rCome p s k) f = rD qs s f := fun f => rfl
  have el := lst_come p s k
  unfold rPot
  rw [e, e, el]
  split
  · exact ⟨rfl, ha, hb⟩
  · rw [ahd_app _ (.inl ha)]
    exact ⟨rfl, List.mem_append_left _ ha, List.mem_append_left _ hb⟩
theorem rPot_comes (hne : a ≠ b) (now : Int) (r : List Pk) (k : Nat) (s : RS) (ha : a ∈ lst s) (hb : b ∈ lst s) : rPot qs a b (comeL (roundM p qs) now r k s).2 = rPot qs a b s ∧ a ∈ lst (comeL (roundM p qs) now r k s).2 ∧ b ∈ lst (comeL (roundM p qs) now r k s).2 := by
  induction r generalizing k s with
  | nil => exact ⟨rfl, ha, hb⟩
  | cons x r ih =>
    unfold comeL
    split
    · obtain ⟨e1, e2, e3⟩ := rPot_come (qs := qs) (p := p) hne k ha hb
      obtain ⟨e4, e5, e6⟩ := ih (k + 1) (rCome p s k) e2 e3
      exact ⟨e4.trans e1, e5, e6⟩
    · exact ⟨rfl, ha, hb⟩
end
theorem mem_wait {s : RS} {p : List Pk} {qs : List Int} {m : Nat} (h : RI p qs m s) {j : Nat} (hj : j ∈ rWait s) : s.q (flN p j) ≠ [] := by
  obtain ⟨g, _, hg⟩ := List.mem_flatMap.1 hj
  have := (h.fl g j hg).2
  rw [this]
  intro e
  rw [e] at hg
  simp at hg
structure RoundJ (p : List Pk) (qs : List Int) (a b : Nat) (lo hi : Int) (t : St RS) : Prop where
  came : ∀ j, j < t.next → aOf p j ≤ t.now
  fr : ∀ i (h : i < t.out.length), t.out[i].f ≤ t.now
  tr : ∃ P Q : Nat → Int, ∀ i (h : i < t.out.length), WtP p a (t.out.take i) t.out[i] → WtP p b (t.out.take i) t.out[i] →
    (lo ≤ P i ∧ P i ≤ hi ∧ lo ≤ Q i ∧ Q i ≤ hi ∧ Q i = P i - cnt p (qu qs a) (qu qs b) a b t.out[i]) ∧ (i + 1 < t.out.length → P (i + 1) = Q i) ∧ (i + 1 = t.out.length → Q i = rPot qs a b t.s ∧ a ∈ lst t.s ∧ b ∈ lst t.s)
theorem round_step {p : List Pk} {per : Int} {qs : List Int} {a b : Nat} {lo hi : Int} (hp : ∀ x ∈ p, okPk x) (hs : p.Pairwise (fun x y => x.a ≤ y.a)) (h0 : 1 ≤ per) (hq : ∀ g, 0 ≤ qu qs g) (hq1 : ∀ g, g < 8 → 1 ≤ qu qs g) (hne : a ≠ b)
    (hbd : ∀ m s, RI p qs m s → lo ≤ rPot qs a b s ∧ rPot qs a b s ≤ hi) (t : St RS) (h : Inv (roundM p qs) p t) (hlt : t.out.length < p.length) (hj : RoundJ p qs a b lo hi t) : RoundJ p qs a b lo hi (stepS (roundM p qs) p per t) := by
  have hM := roundOk (p := p) (qs := qs) hp hq hq1
  obtain ⟨hc, hlt2⟩ := comeL_inv hM t.now (p.drop t.next) t.next t.s rfl h.toC
  have hall := comeL_all hM hs h hj.came
  have hpc := fun ha hb => rPot_comes (p := p) (qs := qs) hne t.now (p.drop t.next) t.next t.s (a := a) (b := b) ha hb
  obtain ⟨P, Q, htr⟩ := hj.tr
  unfold stepS
  generalize comeL (roundM p qs) t.now (p.drop t.next) t.next t.s = q at hc hlt2 hall hpc
  -- one of a flow that had come, and is not sent, is among those that wait
  have hin : ∀ j, j < p.length → aOf p j ≤ t.now → (∀ y ∈ t.out, y.p ≠ j) → j ∈ rWait q.2 := fun j hj1 hj2 hj3 => by
    have hjq := (hall j hj1).2 hj2
    rcases List.mem_append.1 (hc.perm.mem_iff.2 (List.mem_range.2 hjq)) with h1 | h1
    · obtain ⟨y, hy, e⟩ := List.mem_map.1 h1
      have := h.pos y hy
      exact absurd (show y.p = (j : Int) by omega) (hj3 y hy)
    · exact h1
  cases hpk : (roundM p qs).pick q.2 with
  | none =>
    have hw : rWait q.2 = [] := hM.w_none _ _ hc.ok hpk
    have hid := hc.idle hM hpk
    have hq1 : q.1 < p.length := by omega
    have hnow := hlt2 hq1
    refine ⟨fun j hjj => ?_, fun i hi => ?_, P, Q, fun i hi ha hb => ?_⟩
    · show aOf p j ≤ aOf p q.1
      exact aOf_mono hs (Nat.le_of_lt hjj) hq1
    · have := hj.fr i hi
      show _ ≤ aOf p q.1
      simp only; omega
    · obtain ⟨h1, h2, _⟩ := htr i hi ha hb
      refine ⟨h1, h2, fun h9 => ?_⟩
      obtain ⟨j, j1, j2, j3, j4, j5⟩ := ha
      have h9' : i + 1 = t.out.length := h9
      have hfr := hj.fr i hi
      have hsplit : t.out = t.out.take i ++ [t.out[i]'hi] := by
        rw [← List.take_succ_eq_append_getElem hi, h9', List.take_length]
      have := hin j j1 (Int.le_trans j3 hfr) (fun y hy => by
        rw [hsplit] at hy
        rcases List.mem_append.1 hy with hy | hy
        · exact j4 y hy
        · rw [List.mem_singleton.1 hy]; exact j5)
      rw [hw] at this
      simp at this
  | some ks =>
    obtain ⟨k, s'⟩ := ks
    have hk : k < q.1 := hc.pick_lt hM hpk
    have hkl : k < p.length := Nat.lt_of_lt_of_le hk hc.k_le
    have hok := hp _ (List.getElem_mem hkl)
    have m1 : 0 ≤ per * sOf p k := Int.mul_nonneg (by omega) (by rw [sOf_of hkl]; have := hok.2.2.1; omega)
    obtain ⟨hri, hperm⟩ := rPick_some hp hq _ _ _ _ _ hc.ok hpk
    obtain ⟨x, hx⟩ : ∃ x : Sn, x = ⟨(k : Int), t.now, t.now + per * sOf p k⟩ := ⟨_, rfl⟩
    have hxp : x.p = (k : Int) := by rw [hx]
    have hxf : x.f = t.now := by rw [hx]
    show RoundJ p qs a b lo hi ⟨t.out ++ [⟨(k : Int), t.now, t.now + per * sOf p k⟩], t.now + per * sOf p k, q.1, s'⟩
    rw [← hx]
    -- one that waits behind this one
    have hin2 : ∀ f, WtP p f t.out x → s'.q f ≠ [] ∧ f ∈ lst s' ∧ f ∈ lst q.2 := fun f ⟨j, j1, j2, j3, j4, j5⟩ => by
      have hjw := hin j j1 (by rw [← hxf]; exact j3) j4
      have hjw' : j ∈ rWait s' := by
        rcases List.mem_cons.1 (hperm.mem_iff.1 hjw) with e | e
        · exact absurd (by rw [hxp, e]) j5
        · exact e
      have e1 : flN p j = f := j2
      have h1 := mem_wait hri hjw'
      have h2 := mem_wait hc.ok hjw
      rw [e1] at h1 h2
      exact ⟨h1, (hri.mem f).2 h1, (hc.ok.mem f).2 h2⟩
    refine ⟨fun j hjj => ?_, fun i hi => ?_, fun i => if i = t.out.length then rPot qs a b q.2 else P i, fun i => if i = t.out.length then rPot qs a b s' else Q i, fun i hi ha hb => ?_⟩
    · have hjj' : j < q.1 := hjj
      have := (hall j (Nat.lt_of_lt_of_le hjj' hc.k_le)).1 hjj'
      show aOf p j ≤ t.now + per * sOf p k
      omega
    · show _ ≤ t.now + per * sOf p k
      have hi' : i < t.out.length + 1 := by simpa using hi
      rcases Nat.lt_or_ge i t.out.length with h9 | h9
      · have := hj.fr i h9
        simp only [List.getElem_append_left h9]
        omega
      · obtain rfl : i = t.out.length := by omega
        rw [List.getElem_concat_length rfl, hxf]
        omega
    · have hi' : i < t.out.length + 1 := by simpa using hi
      simp only [List.length_append, List.length_cons, List.length_nil]
      rcases Nat.lt_or_ge i t.out.length with h9 | h9
      · simp only [List.take_append_of_le_length (Nat.le_of_lt h9), List.getElem_append_left h9] at ha hb ⊢
        obtain ⟨h1, h2, h3⟩ := htr i h9 ha hb
        have hn : ¬ i = t.out.length := by omega
        rw [if_neg hn, if_neg hn]
        refine ⟨h1, fun h8 => ?_, fun h8 => by omega⟩
        by_cases h7 : i + 1 = t.out.length
        · rw [if_pos h7]
          obtain ⟨g1, g2, g3⟩ := h3 h7
          rw [(hpc g2 g3).1, g1]
        · rw [if_neg h7]
          exact h2 (by omega)
      · obtain rfl : i = t.out.length := by omega
        have e1 : (t.out ++ [x]).take t.out.length = t.out := List.take_left' rfl
        have e2 : (t.out ++ [x])[t.out.length]'hi = x := List.getElem_concat_length rfl _
        rw [e1, e2] at ha hb
        rw [e2]
        obtain ⟨a1, a2, a3⟩ := hin2 a ha
        obtain ⟨b1, b2, b3⟩ := hin2 b hb
        rw [if_pos rfl, if_pos rfl]
        have hpot := rPot_pick hp hq hne _ q.2 k hc.ok hpk a1 b1 a3 b3
        have hcnt : cnt p (qu qs a) (qu qs b) a b x = cntK p (qu qs a) (qu qs b) a b k := by
          unfold cnt cntK flS flN
          rw [hxp, Int.toNat_natCast]
        refine ⟨⟨(hbd _ _ hc.ok).1, (hbd _ _ hc.ok).2, (hbd _ _ hri).1, (hbd _ _ hri).2, by rw [hcnt]; exact hpot⟩, fun h8 => by omega, fun _ => ⟨rfl, a2, b2⟩⟩
/-- All that are sent are the packets, each once. -/
theorem srv_perm {σ : Type} {M : Pol σ} {p : List Pk} {per : Int} {s0 : σ} (hM : PolOk M p.length) (hp : ∀ x ∈ p, okPk x) (h0 : 1 ≤ per) (h1 : per ≤ 1000) (hw : M.wait s0 = []) (ho : M.ok 0 s0) :
    (serveS M p per s0).out.length = p.length ∧ (∀ x ∈ (serveS M p per s0).out, 0 ≤ x.p) ∧ (∀ x ∈ (serveS M p per s0).out, x.p.toNat < p.length) ∧ ((serveS M p per s0).out.map fun x => x.p.toNat).Nodup := by
  obtain ⟨hi, hl⟩ := run_all hM hp h0 h1 (2 * p.length + 1) _ (inv_start p hw ho) (mu_start p _) (Nat.zero_le _)
  have hpm := hi.perm
  have hnd := hpm.nodup_iff.2 List.nodup_range
  refine ⟨hl, hi.pos, fun x hx => ?_, (List.nodup_append.1 hnd).1⟩
  have := List.mem_range.1 (hpm.mem_iff.1 (List.mem_append_left _ (List.mem_map.2 ⟨x, hx, rfl⟩)))
  have := hi.next_le
  exact Nat.lt_of_lt_of_le ‹_› this
theorem spr_same (p : List Pk) (qa : Int) (a : Nat) (l : List Sn) : sprL p qa qa a a l = 0 := by
  have h := spr_le (p := p) (qa := qa) (qb := qa) (a := a) (b := a) (lo := 0) (hi := 0) (l := l) (P := fun _ => 0) (Q := fun _ => 0) ⟨fun i hi _ _ => ⟨by omega, by omega, by omega, by omega, by unfold cnt; omega, fun _ => rfl⟩⟩ (by omega)
  have h2 : ∀ (r : List Sn) (most sum low high : Int), 0 ≤ most → 0 ≤ sprGo p qa qa a a most sum low high r := fun r => by
    induction r with
    | nil => exact fun _ _ _ _ h => h
    | cons s r ih =>
      intro most sum low high h
      unfold sprGo
      split
      · exact ih _ _ _ _ (by omega)
      · exact ih _ _ _ _ h
  have := h2 l 0 0 0 0 (by omega)
  unfold sprL at h ⊢
  omega
theorem round_shares {p : List Pk} {per : Int} {qs : List Int} {a b : Nat} {S : Int} (hp : ∀ x ∈ p, okPk x) (hs : p.Pairwise (fun x y => x.a ≤ y.a)) (h0 : 1 ≤ per) (h1 : per ≤ 1000) (hq : ∀ g, 0 ≤ qu qs g) (hq1 : ∀ g, g < 8 → 1 ≤ qu qs g)
    (hS : ∀ j, j < p.length → sOf p j ≤ S) (hS1 : 0 < p.length → 1 ≤ S) (hS0 : 0 ≤ S) : sprL p (qu qs a) (qu qs b) a b (roundL p per qs) ≤ 3 * (qu qs a * qu qs b) + S * (qu qs a + qu qs b) := by
  have hA := hq a
  have hB := hq b
  have m5 := Int.mul_nonneg hA hB
  have m6 := Int.mul_nonneg hS0 (show 0 ≤ qu qs a + qu qs b by omega)
  by_cases hne : a = b
  · subst hne
    rw [spr_same]
    omega
  · have hM := roundOk (p := p) (qs := qs) hp hq hq1
    obtain ⟨e1, e2, e3, e4⟩ := srv_perm hM hp h0 h1 (s0 := rs0) rs0_wait (rs0_ok p qs)
    rcases Nat.eq_zero_or_pos p.length with hz | hz
    · have : roundL p per qs = [] := List.eq_nil_of_length_eq_zero (by show (serveS _ p per rs0).out.length = 0; rw [e1, hz])
      rw [this]
      show (0 : Int) ≤ _
      omega
    · have hSS := hS1 hz
      have hbd : ∀ m s, RI p qs m s → _ := fun m s h => rPot_bd (a := a) (b := b) h hS hSS hq
      have hJ := run_ind hM hp h0 h1 (RoundJ p qs a b _ _) (fun t x y z => round_step hp hs h0 hq hq1 hne hbd t x y z) (2 * p.length + 1) _ (inv_start (M := roundM p qs) (s0 := rs0) p rs0_wait (rs0_ok p qs))
        ⟨fun j hj => by simp at hj, fun i hi => by simp at hi, fun _ => 0, fun _ => 0, fun i hi => by simp at hi⟩
      obtain ⟨P, Q, htr⟩ := hJ.tr
      have hT : Tr p (qu qs a) (qu qs b) a b _ _ (roundL p per qs) P Q := ⟨fun i hi ha hb => by
        obtain ⟨⟨g1, g2, g3, g4, g5⟩, g6, _⟩ := htr i hi (wt_of e2 e3 e4 hi ha) (wt_of e2 e3 e4 hi hb)
        exact ⟨g1, g2, g3, g4, g5, g6⟩⟩
      have m7 : 0 ≤ (S - 1) * qu qs a := Int.mul_nonneg (by omega) hA
      have m8 : 0 ≤ (S - 1) * qu qs b := Int.mul_nonneg (by omega) hB
      have e9 : qu qs b * qu qs a = qu qs a * qu qs b := Int.mul_comm _ _
      have := spr_le hT (by omega)
      rw [Int.mul_add]
      rw [Int.sub_mul, Int.sub_mul] at this
      omega
end Go.Proofs.YtkkecnofgmpekaaDoor
