/- Package fifo's Run: what it computes. Conditions: the sentinels that it names lie in their variables. -/
import Derived.Test.YtkkecnofgmpekaaDoorSrv
import Derived.Test.YtkkecnofgmpekaaDoorBlk
namespace Go.Proofs.YtkkecnofgmpekaaDoor
open Go.RowKit
set_option maxRecDepth 100000

/-- In order: how many have come, how many were sent. -/
def fifoM : Pol (Nat × Nat) where
  come s _ := (s.1 + 1, s.2)
  pick s := if s.2 = s.1 then none else some (s.2, (s.1, s.2 + 1))
  rest s := s
  wait s := List.range' s.2 (s.1 - s.2)
  ok k s := s.1 = k ∧ s.2 ≤ s.1
theorem fifoOk (n : Nat) : PolOk fifoM n where
  ok_come := fun s k ⟨h1, h2⟩ _ => ⟨by show s.1 + 1 = k + 1; omega, by show s.2 ≤ s.1 + 1; omega⟩
  ok_pick := fun s m k s' ⟨h1, h2⟩ hp => by
    simp only [fifoM] at hp
    split at hp
    · cases hp
    · simp only [Option.some.injEq, Prod.mk.injEq] at hp
      obtain ⟨_, rfl⟩ := hp
      exact ⟨h1, by show s.2 + 1 ≤ s.1; omega⟩
  ok_rest := fun s m h _ => h
  w_come := fun s k ⟨h1, h2⟩ _ => by
    show (List.range' s.2 (s.1 + 1 - s.2)).Perm (k :: List.range' s.2 (s.1 - s.2))
    rw [show s.1 + 1 - s.2 = (s.1 - s.2) + 1 by omega, List.range'_1_concat, show s.2 + (s.1 - s.2) = k by omega]
    exact List.perm_append_comm (l₂ := [k])
  w_none := fun s m ⟨h1, h2⟩ hp => by
    simp only [fifoM] at hp ⊢
    split at hp
    · rename_i h; rw [h, Nat.sub_self]; rfl
    · cases hp
  w_some := fun s m k s' ⟨h1, h2⟩ hp => by
    simp only [fifoM] at hp ⊢
    split at hp
    · cases hp
    · simp only [Option.some.injEq, Prod.mk.injEq] at hp
      obtain ⟨rfl, rfl⟩ := hp
      simp only
      rw [show s.1 - s.2 = (s.1 - (s.2 + 1)) + 1 by omega, List.range'_succ]
  w_rest := fun s m _ h => h

def fifoR (b1 b2 : Nat) : Value := .agg #[.func (.func 53) #[] #[.pointer (some ⟨b1, 0, none⟩)], .func (.func 54) #[] #[.pointer (some ⟨b2, 0, none⟩), .pointer (some ⟨b1, 0, none⟩)], .nilFunc]
structure FifoMem (B b1 b2 : Nat) (w : World) (own : Nat → Prop) (s : Nat × Nat) : Prop where
  c : Blk w b1 3 #[.int .i64 s.1]
  d : Blk w b2 3 #[.int .i64 s.2]
  h1 : B ≤ b1
  h2 : B ≤ b2
  ne : b1 ≠ b2
  le : s.1 ≤ 300
  o : ∀ b, own b ↔ b = b1 ∨ b = b2

theorem run1_any (b1 : Nat) (m k : Int) (w : World) (h : Blk w b1 3 #[.int .i64 m]) (h0 : 0 ≤ m) (h1 : m ≤ 300) :
    Calls Tryd.prog 53 #[.int .i64 k, .pointer (some ⟨b1, 0, none⟩)] w fun e w' => e = .returned (.tuple #[]) ∧ w' = w.setCell ⟨b1, 0, none⟩ (.int .i64 (m + 1)) := by
  have c0 : w.cell? ⟨b1, 0, none⟩ = some (.int .i64 m) := h.cell 0
  have c1 := h.frozen 0
  go_enter Tryd.func53, Tryd.ntmps53
  go_wp2
  go_end0
  exact ⟨rfl, rfl⟩
theorem run2_none (b1 b2 : Nat) (m : Int) (w : World) (h : Blk w b1 3 #[.int .i64 m]) (h' : Blk w b2 3 #[.int .i64 m]) :
    Calls Tryd.prog 54 #[.pointer (some ⟨b2, 0, none⟩), .pointer (some ⟨b1, 0, none⟩)] w fun e w' => e = .returned (.tuple #[.int .i64 0, .bool false]) ∧ w = w' := by
  have c0 : w.cell? ⟨b1, 0, none⟩ = some (.int .i64 m) := h.cell 0
  have c1 : w.cell? ⟨b2, 0, none⟩ = some (.int .i64 m) := h'.cell 0
  go_enter Tryd.func54, Tryd.ntmps54
  go_wp2_with fail
  go_ret2
  exact ⟨rfl, rfl⟩
theorem run2_some (b1 b2 : Nat) (m n : Int) (w : World) (_hne : b1 ≠ b2) (h : Blk w b1 3 #[.int .i64 m]) (h' : Blk w b2 3 #[.int .i64 n]) (h0 : 0 ≤ n) (h1 : n < m) (h2 : m ≤ 300) :
    Calls Tryd.prog 54 #[.pointer (some ⟨b2, 0, none⟩), .pointer (some ⟨b1, 0, none⟩)] w fun e w' => e = .returned (.tuple #[.int .i64 n, .bool true]) ∧ w.setCell ⟨b2, 0, none⟩ (.int .i64 (n + 1)) = w' := by
  have c0 : w.cell? ⟨b1, 0, none⟩ = some (.int .i64 m) := h.cell 0
  have c1 : w.cell? ⟨b2, 0, none⟩ = some (.int .i64 n) := h'.cell 0
  have c2 := h'.frozen 0
  have hb : (n == m) = false := by rw [beq_eq_false_iff_ne]; omega
  go_enter Tryd.func54, Tryd.ntmps54
  go_wp2_with fail
  go_ret2
  exact ⟨by first | rfl | (simp; omega), rfl⟩

theorem fifoMemAlloc {B b1 b2 : Nat} {own : Nat → Prop} {w : World} {s : Nat × Nat} (h : FifoMem B b1 b2 w own s) (o : Obj) : FifoMem B b1 b2 (w.alloc o) own s := ⟨h.c.alloc o, h.d.alloc o, h.h1, h.h2, h.ne, h.le, h.o⟩
theorem fifoSize {B b1 b2 : Nat} {own : Nat → Prop} {w : World} {s : Nat × Nat} (h : FifoMem B b1 b2 w own s) : B ≤ w.heap.size := Nat.le_trans h.h1 (Nat.le_of_lt h.c.lt)
theorem nilFunc_neq (w : World) : (binOp .neq 1 .nilFunc .nilFunc).run Tryd.prog w = .ok (.bool false) w := by kernel_rfl
theorem fifoPicker (B b1 b2 n : Nat) (hn : n ≤ 300) : Picker (fifoR b1 b2) fifoM n B (FifoMem B b1 b2) where
  own_ := fun {w own s} h b hb => by
    rcases (h.o b).1 hb with rfl | rfl
    · exact ⟨h.h1, h.c.lt⟩
    · exact ⟨h.h2, h.d.lt⟩
  stay := fun {w w' own s} h hs _ => ⟨h.c.same (hs b1 ((h.o b1).2 (.inl rfl))), h.d.same (hs b2 ((h.o b2).2 (.inr rfl))), h.h1, h.h2, h.ne, h.le, h.o⟩
  come := fun {w own s} k h ⟨hk1, hk2⟩ hk => by
    obtain ⟨c, d⟩ := s
    subst hk1
    simp only at hk hk2
    have hB := fifoSize h
    have hc : Blk w b1 3 #[.int .i64 c] := h.c
    unfold fifoR
    go_enter Tryd.func114, Tryd.ntmps114
    go_wp2_with fail
    refine (run1_any b1 c _ _ (hc.alloc _) (by omega) (by omega)).mono ?_
    rintro e w1 ⟨rfl, rfl⟩
    go_wp2_with fail
    go_end0
    refine ⟨rfl, own, ⟨(hc.alloc _).set_ 0 _, (h.d.alloc _).far (p := ⟨b1, 0, none⟩) h.ne.symm _, h.h1, h.h2, h.ne, by show c + 1 ≤ 300; omega, h.o⟩, ?_⟩
    exact keepsSet (a := ⟨b1, 0, none⟩) (keepsAlloc (keepsRefl _ _ _) hB _) ((h.o b1).2 (.inl rfl)) h.h1 _
  none_ := fun {w own s m} h ⟨hk1, hk2⟩ hp => by
    obtain ⟨c, d⟩ := s
    have hcd : d = c := by
      simp only [fifoM] at hp
      split at hp
      · assumption
      · cases hp
    subst hcd
    have hB := fifoSize h
    have hc : Blk w b1 3 #[.int .i64 d] := h.c
    have hd : Blk w b2 3 #[.int .i64 d] := h.d
    clear hp hk1 hk2
    unfold fifoR
    go_enter Tryd.func115, Tryd.ntmps115
    go_wp2_with fail
    refine (run2_none b1 b2 d _ (hc.alloc _) (hd.alloc _)).mono ?_
    rintro e w1 ⟨rfl, rfl⟩
    go_wp2_with fail
    go_ret2
    exact ⟨rfl, own, fifoMemAlloc h _, keepsAlloc (keepsRefl _ _ _) hB _⟩
  some_ := fun {w own s m} k s' h ⟨hk1, hk2⟩ hp => by
    obtain ⟨c, d⟩ := s
    have hcd : d ≠ c ∧ d = k ∧ s' = (c, d + 1) := by
      simp only [fifoM] at hp
      split at hp
      · cases hp
      · simp only [Option.some.injEq, Prod.mk.injEq] at hp
        exact ⟨by assumption, hp.1, hp.2.symm⟩
    obtain ⟨hne, rfl, rfl⟩ := hcd
    simp only at hk1 hk2
    have hB := fifoSize h
    have hc : Blk w b1 3 #[.int .i64 c] := h.c
    have hd : Blk w b2 3 #[.int .i64 d] := h.d
    have hlt : d < c := by omega
    have hcn : c ≤ 300 := h.le
    clear hp hk1 hk2 hne
    unfold fifoR
    go_enter Tryd.func115, Tryd.ntmps115
    go_wp2_with fail
    refine (run2_some b1 b2 c d _ h.ne (hc.alloc _) (hd.alloc _) (by omega) (by omega) (by omega)).mono ?_
    rintro e w1 ⟨rfl, rfl⟩
    go_wp2_with fail
    go_ret2
    refine ⟨rfl, own, ⟨(hc.alloc _).far (p := ⟨b2, 0, none⟩) h.ne _, (hd.alloc _).set_ 0 _, h.h1, h.h2, h.ne, h.le, h.o⟩, ?_⟩
    exact keepsSet (a := ⟨b2, 0, none⟩) (keepsAlloc (keepsRefl _ _ _) hB _) ((h.o b2).2 (.inr rfl)) h.h2 _
  rest := fun {w own s m} h hok hw => by
    have hB := fifoSize h
    have f1 := nilFunc_neq
    unfold fifoR
    go_enter Tryd.func116, Tryd.ntmps116
    go_wp2_with fail
    go_end0
    exact ⟨rfl, own, fifoMemAlloc h _, keepsAlloc (keepsRefl _ _ _) hB _⟩

def fifoL (p : List Pk) (per : Int) : List Sn := (serveS fifoM p per (0, 0)).out
/-- A call's end: a slice of the call's own, and an error. -/
def EndOwnEr {α : Type} (f : α → List Value) (sz e : Nat) (l : List α) (S : Nat → Addr) (k : Nat) (a : Int) (w : World) (en : Ending) (w' : World) : Prop :=
  ∃ A c v, en = .returned (.tuple #[.slice A l.length c, v]) ∧ w'.ownsRow w.heap.size e sz (.slice A l.length c) l.length (l.flatMap f) ∧ Er w' w'.heap.size S v k a ∧ Below w.heap.size w w'
theorem lookErr_ok {p : List Pk} {per : Int} (h : (lookErr p per).1 = 0) : lookErr p per = (0, -1) ∧ p.length ≤ 300 ∧ (∀ x ∈ p, okPk x) ∧ 1 ≤ per ∧ per ≤ 1000 := by
  unfold lookErr at h ⊢
  by_cases h1 : (pktErr p).1 ≠ 0
  · rw [if_pos h1] at h; exact absurd h h1
  · rw [if_neg h1] at h ⊢
    by_cases h2 : per < 1 ∨ 1000 < per
    · rw [if_pos h2] at h; simp at h
    · rw [if_neg h2]
      have h3 : (pktErr p).1 = 0 := by omega
      refine ⟨rfl, ?_, pktErr_okPk h3, by omega, by omega⟩
      unfold pktErr at h3
      by_cases h4 : 300 < p.length
      · rw [if_pos h4] at h3; simp at h3
      · omega

set_option maxHeartbeats 1000000 in
theorem fifoRun_ok (A : Option Addr) (c : Nat) (p : List Pk) (per : Int) (S : Nat → Addr) (w : World) (B : Nat) (hB : B ≤ w.heap.size) (h : RdP w B A p) (hS : Snt w B S [2, 5]) (hl : p.length ≤ 9223372036854775807) (hok : (lookErr p per).1 = 0) :
    Calls Tryd.prog 17 #[.slice A p.length c, .int .i64 per] w (EndOwnEr Sn.cs 3 34 (fifoL p per) S (lookErr p per).1 (lookErr p per).2 w) := by
  obtain ⟨hf, h300, hpk, h0, h1⟩ := lookErr_ok hok
  have Hf := Lib.hid hf
  clear hf hok
  go_enter Tryd.func17, Tryd.ntmps17
  go_wp2_with fail
  refine (look_any A c p per S _ B hB h hS hl).mono ?_
  rintro e w1 ⟨v, rfl, hv, hb1⟩
  obtain rfl := hv.nil_of (by rw [Hf.out])
  have z1 := hb1.size
  go_wp2_with fail
  have hbel : Below w1.heap.size w1 ((w1.alloc (.cells #[.int .i64 0] 3)).alloc (.cells #[.int .i64 0] 3)) := ((Below.refl _ _).alloc (Nat.le_refl _) _).alloc (by simp) _
  refine (srv_any (R := fifoR w1.heap.size (w1.heap.size + 1)) (M := fifoM) (Mem := FifoMem w1.heap.size w1.heap.size (w1.heap.size + 1)) A c p per w1.heap.size (0, 0) (fun b => b = w1.heap.size ∨ b = w1.heap.size + 1) _ hbel.size
    (((h.below (hb1.mono hB)).more (Nat.le_trans hB z1)).below hbel) hpk h300 h0 h1 (fifoOk _) (fifoPicker _ _ _ _ h300) ⟨(Blk.new _ _ _).alloc _, heap_alloc_new2 _ _ _, Nat.le_refl _, Nat.le_succ _, by simp, by simp, fun b => Iff.rfl⟩ rfl ⟨rfl, Nat.le_refl _⟩).mono ?_
  rintro e w2 ⟨A', c', own', rfl, row, hb2, _⟩
  go_wp2_with fail
  go_ret2
  rw [Hf.out]
  exact ⟨A', c', _, rfl, own_mono row (Nat.le_trans z1 hbel.size), .nil, hb1.trans ((hbel.trans hb2).mono z1)⟩

theorem fifoRun_bad (A : Option Addr) (c : Nat) (p : List Pk) (per : Int) (S : Nat → Addr) (w : World) (B : Nat) (hB : B ≤ w.heap.size) (h : RdP w B A p) (hS : Snt w B S [2, 5]) (hl : p.length ≤ 9223372036854775807) (hok : (lookErr p per).1 ≠ 0) :
    Calls Tryd.prog 17 #[.slice A p.length c, .int .i64 per] w (EndOwnEr Sn.cs 3 34 [] S (lookErr p per).1 (lookErr p per).2 w) := by
  have H1 := Lib.hid hok
  clear hok
  go_enter Tryd.func17, Tryd.ntmps17
  go_wp2_with fail
  refine (look_any A c p per S _ B hB h hS hl).mono ?_
  rintro e w1 ⟨v, rfl, hv, hb1⟩
  obtain ⟨T, a, rfl⟩ := hv.some_of H1.out
  go_wp2_with fail
  go_ret2
  exact ⟨none, 0, _, rfl, ⟨by simp, .inl ⟨rfl, rfl⟩⟩, hv, hb1⟩
end Go.Proofs.YtkkecnofgmpekaaDoor
