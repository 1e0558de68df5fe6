/- Package round: the next one is picked. Conditions written at each. -/
import Derived.Test.YthgpbdlmadjndaaDoorRdA
import Derived.Test.YthgpbdlmadjndaaDoorShelf
import Derived.Deep.LoopGhost
import Derived.StillTailTactics
namespace Go.Proofs.YthgpbdlmadjndaaDoor
open Go.RowKit
set_option maxRecDepth 100000
theorem map_nCs (l : List Nat) : (l.map Int.ofNat).map (Value.int .i64) = l.flatMap nCs := by
  induction l with
  | nil => rfl
  | cons x r ih => rw [List.map_cons, List.map_cons, ih, List.flatMap_cons]; rfl
theorem cloneN_any (B n : Nat) (A : Option Addr) (c : Nat) (l : List Nat) (w : World) (h : MRow w B 3 (.slice A n c) l) (hA : ∃ a, A = some a) (hn : n = l.length) (hl : l.length ≤ 1000) (hB : B ≤ w.heap.size) :
    Calls Tryd.prog 77 #[.slice A n c] w fun e w' => ∃ v', e = .returned v' ∧ MRow w' B 3 v' l ∧ w.grownBy w' none ∧ (∀ g, v'.ownBlock = some g → w.heap.size ≤ g) := by
  have key : ∀ (w' : World) (v' : Value), w'.ownsRow w.heap.size 3 1 v' l.length (l.flatMap nCs) → Below w.heap.size w w' → MRow w' B 3 v' l ∧ w.grownBy w' none ∧ (∀ g, v'.ownBlock = some g → w.heap.size ≤ g) := fun w' v' r1 r2 =>
    ⟨MRow.of_own (own_mono r1 hB), ⟨r2.os, r2.tape, r2.output, r2.size, fun x hx _ => r2.block x hx⟩, fun g hg => own_ge r1 g hg⟩
  obtain ⟨a, rfl⟩ := hA
  subst hn
  rcases Nat.eq_zero_or_pos l.length with h0 | h0
  · obtain rfl := List.eq_nil_of_length_eq_zero h0
    refine (Tryd.slices_Clone_int_zero a c w).mono ?_
    rintro e w' ⟨v', rfl, r1, _, r2⟩
    exact ⟨v', rfl, key w' v' r1 r2⟩
  · obtain ⟨b', o', c', hv, _, _, hc⟩ := h.at_ h0
    simp only [Value.slice.injEq, Option.some.injEq] at hv
    obtain ⟨rfl, _, rfl⟩ := hv
    refine (Tryd.slices_Clone_int b' o' l.length c (l.map Int.ofNat) w (by simp) (by omega) (fun j hj => ?_)).mono ?_
    · have hj' : j < l.length := by simpa using hj
      rw [hc j hj', map_getD l j hj']
    · rintro e w' ⟨v', rfl, r1, _, r2⟩
      have e1 : ((l.map Int.ofNat).take l.length).map (Value.int .i64) = l.flatMap nCs := by
        rw [List.take_of_length_le (by simp)]
        exact map_nCs l
      rw [e1] at r1
      exact ⟨v', rfl, key w' v' r1 r2⟩
/-- The head of a list, in memory. -/
theorem MRow.head_ {w : World} {B k : Nat} {e : TypeId} {v : Value} {t : List Nat} (h : MRow w B e v (k :: t)) : ∃ b o c, v = .slice (some ⟨b, o, none⟩) (t.length + 1) c ∧ t.length + 1 ≤ c ∧ w.cell? ⟨b, o, none⟩ = some (.int .i64 (k : Int)) := by
  obtain ⟨b, o, c, hv, hc, _, h1⟩ := h.at_ (by simp)
  have := h1 0 (by simp)
  exact ⟨b, o, c, by simpa using hv, by simpa using hc, by simpa using this⟩
theorem rTurn_row {qs : List Int} {s s1 : RS} {g : Nat} (hs : s.sv = none) (h : rTurn qs s = some (g, s1)) : ∃ r, s.row = g :: r ∧ s1 = { s with row := r, sv := some g, c := upd s.c g (s.c g + qu qs g) } := by
  unfold rTurn at h
  rw [hs] at h
  simp only at h
  split at h
  · cases h
  · rename_i g' r h2
    simp only [Option.some.injEq, Prod.mk.injEq] at h
    obtain ⟨rfl, rfl⟩ := h
    exact ⟨r, h2, rfl⟩
theorem grownRefl (w : World) (row : Option Nat) : w.grownBy w row := ⟨rfl, rfl, rfl, Nat.le_refl _, fun _ _ _ => rfl⟩
theorem rPick_step {p : List Pk} {qs : List Int} {n k : Nat} {s s' : RS} (h : rPick p qs (n + 1) s = some (k, s')) : ∃ g s1, rTurn qs s = some (g, s1) ∧ ((sOf p (rHead s1 g) ≤ s1.c g ∧ k = rHead s1 g ∧ s' = rSend p s1 g) ∨ (¬ sOf p (rHead s1 g) ≤ s1.c g ∧ rPick p qs n (rEnd s1 g) = some (k, s'))) := by
  unfold rPick at h
  split at h
  · cases h
  · rename_i g s1 ht
    refine ⟨g, s1, ht, ?_⟩
    split at h
    · rename_i hc
      simp only [Option.some.injEq, Prod.mk.injEq] at h
      exact .inl ⟨hc, h.1.symm, h.2.symm⟩
    · rename_i hc
      exact .inr ⟨hc, h⟩
/-- What a turn's packet is, in memory. -/
structure HeadF (p : List Pk) (m g : Nat) (W : World) (s : RS) (qv : Nat → Value) (f k : Nat) (tl : List Nat) (qb qo qc N b o : Nat) (c : Nat) : Prop where
  q : s.q f = k :: tl
  kp : k < p.length
  N_ : N = tl.length + 1
  Nc : N ≤ qc
  qv_ : qv f = .slice (some ⟨qb, qo, none⟩) N qc
  ck : W.cell? ⟨qb, qo, none⟩ = some (.int .i64 (k : Int))
  f8 : f < 8
  hd : rHead s f = k
theorem head_facts {B g m : Nat} {vp vq : Value} {p : List Pk} {qs : List Int} {w : World} {own : Nat → Prop} {s : RS} {cs : Array Value} {qv : Nat → Value} {rv : Value} (hpk : ∀ x ∈ p, okPk x) (h : TMem B g vp vq w own s cs qv rv) (hri : RI p qs m s) {f : Nat} (hf : s.q f ≠ []) :
    ∃ k tl qb qo qc N, HeadF p m g w s qv f k tl qb qo qc N 0 0 0 := by
  have f8 := hri.g8 hpk hf
  have hh := hri.head hf
  have e := rHead_mem hf
  have hq := h.q f f8
  rw [e] at hq
  obtain ⟨qb, qo, qc, hv, hc, hk⟩ := hq.head_
  exact ⟨_, _, qb, qo, qc, _, ⟨e, by have := hri.le; omega, rfl, hc, hv, hk, f8, rfl⟩⟩
theorem rq_len {p : List Pk} {qs : List Int} {m : Nat} {s : RS} (hri : RI p qs m s) (hp : p.length ≤ 300) (f : Nat) : (s.q f).length ≤ 300 := by
  rcases asc_len m (s.q f) 0 (fun _ _ => Nat.zero_le _) (fun j hj => (hri.fl f j hj).1) (hri.so f) with h9 | h9
  · rw [h9]; simp
  · have := hri.le; omega
theorem nodupN (n : Nat) (l : List Nat) (h : l.Nodup) (h8 : ∀ x ∈ l, x < n) : l.length ≤ n := by
  induction n generalizing l with
  | zero =>
    cases l with
    | nil => simp
    | cons x r => exact absurd (h8 x List.mem_cons_self) (Nat.not_lt_zero x)
  | succ n ih =>
    have h1 := ih (l.erase n) (h.erase n) fun x hx => by
      obtain ⟨h2, h3⟩ := (h.mem_erase_iff).1 hx
      have := h8 x h3; omega
    rw [List.length_erase] at h1
    split at h1 <;> omega
theorem rlst_len {p : List Pk} {qs : List Int} {m : Nat} {s : RS} (hpk : ∀ x ∈ p, okPk x) (hri : RI p qs m s) : (lst s).length ≤ 8 :=
  nodupN 8 _ hri.nd fun x hx => hri.g8 hpk ((hri.mem x).1 hx)
theorem rc_bd {p : List Pk} {qs : List Int} {m : Nat} {s : RS} (hpk : ∀ x ∈ p, okPk x) (hq1 : ∀ g, g < 8 → 1 ≤ qu qs g ∧ qu qs g ≤ 3000) (hri : RI p qs m s) {f : Nat} (f8 : f < 8) : 0 ≤ s.c f ∧ s.c f ≤ 4500 ∧ (s.sv ≠ some f → s.c f ≤ 1500) := by
  have hz : ∀ j, j < p.length → sOf p j ≤ 1500 := fun j hj => by rw [sOf_of hj]; exact (hpk _ (List.getElem_mem hj)).2.2.2.1
  have h0 := hri.pos f
  have h1 := (hq1 f f8).2
  by_cases hs : s.sv = some f
  · rcases hri.in_ f hs with h9 | ⟨j, h9, h8⟩
    · exact ⟨h0, by omega, fun e => absurd hs e⟩
    · have := hz j h9; exact ⟨h0, by omega, fun e => absurd hs e⟩
  · rcases hri.out f hs with h9 | ⟨k, r, h9, h8⟩
    · exact ⟨h0, by omega, fun _ => by omega⟩
    · have hk := (hri.fl f k (by rw [h9]; exact List.mem_cons_self)).1
      have := hz k (by have := hri.le; omega)
      exact ⟨h0, by omega, fun _ => by omega⟩
set_option maxHeartbeats 4000000 in
theorem rpick_some (B g m k0 : Nat) (A A' : Option Addr) (c c' : Nat) (p : List Pk) (qs : List Int) (w : World) (own : Nat → Prop) (s s' : RS) (cs : Array Value) (qv : Nat → Value) (rv : Value) (h : TMem B g (.slice A p.length c) (.slice A' qs.length c') w own s cs qv rv) (hp : RdP w B A p) (hq : RdI w B A' qs) (hpk : ∀ x ∈ p, okPk x) (hql : qs.length = 8) (hq1 : ∀ g, g < 8 → 1 ≤ qu qs g ∧ qu qs g ≤ 3000) (hpl : p.length ≤ 300) (hri : RI p qs m s) (hk : rPick p qs (rMu s) s = some (k0, s')) :
    Calls Tryd.prog 56 #[.pointer (some ⟨g, 0, none⟩)] w fun e w' => e = .returned (.tuple #[.int .i64 k0, .bool true]) ∧ ∃ own' cs' qv' rv', TMem B g (.slice A p.length c) (.slice A' qs.length c') w' own' s' cs' qv' rv' ∧ Keeps B own w own' w' := by
  obtain ⟨i0, hi0, hz0, hz1, hz2⟩ := info_parts infoInt
  have hq0 : ∀ g, 0 ≤ qu qs g := fun g => by
    by_cases h8 : g < 8
    · have := (hq1 g h8).1; omega
    · have : qu qs g = 0 := by unfold qu; simp [List.getD, show ¬ g < qs.length by omega]
      omega
  have Hql := Lib.hid hql
  clear hql
  go_enter Tryd.func56, Tryd.ntmps56
  go_wp2
  go_loopg [4] (rMu s) (fun n fv wr => ∃ (s1 : RS) (own1 : Nat → Prop) (cs1 : Array Value) (qv1 : Nat → Value) (rv1 : Value), TMem B g (.slice A p.length c) (.slice A' qs.length c') wr own1 s1 cs1 qv1 rv1 ∧ RI p qs m s1 ∧ rMu s1 ≤ n ∧ rPick p qs n s1 = some (k0, s') ∧ Keeps B own w own1 wr)
  case atStart => exact ⟨s, own, cs, qv, rv, h, hri, Nat.le_refl _, hk, keepsRefl _ _ _⟩
  case round =>
    obtain ⟨s1, own1, cs1, qv1, rv1, h1, hri1, hmu, hpk1, k1⟩ := hrel
    clear hk hri h
    cases gk with
    | zero => unfold rMu at hmu; omega
    | succ n =>
      obtain ⟨f, s2, ht, hcase⟩ := rPick_step hpk1
      obtain ⟨hri2, hsv2, hq2, hl2, hne1, ho⟩ := hri1.turn hq0 ht
      have hne2 : s2.q f ≠ [] := by rw [hq2]; exact hne1
      have hend : ¬ sOf p (rHead s2 f) ≤ s2.c f → RI p qs m (rEnd s2 f) ∧ rMu (rEnd s2 f) ≤ n := fun hc => by
        have hh := (hri2.head hne2).1
        have hk' : rHead s2 f < p.length := by have := hri2.le; omega
        have hz := (hpk _ (List.getElem_mem hk')).2.2.2.1
        have hc' := hc
        rw [sOf_of hk'] at hc'
        have hmu2 := mu_turn (hq1 f (hri2.g8 hpk hne2)).1 (hri2.g8 hpk hne2) ht hsv2 (by omega) ho
        exact ⟨(hri2.end_ hsv2 hc).1, by omega⟩
      clear hpk1
      have H1 := Lib.hid h1
      have K1 := Lib.hid k1
      have Hmu := Lib.hid hmu
      clear h1 k1 hmu
      rcases ho with ⟨hsv1, rfl⟩ | ⟨hsv1, hc2⟩
      · have HW := H1
        have KW := K1
        obtain ⟨W, rfl⟩ : ∃ W : World, W = wr := ⟨_, rfl⟩
        clear ht hri1 hl2 hne1 hsv1 hq2

        obtain ⟨k, tl, qb, qo, qc, N, hF⟩ := head_facts hpk HW.out hri2 hne2
        have hkp := hF.kp
        obtain ⟨b, o, rfl, hb, d0, d1, d2⟩ := RdP.get (hp.below KW.out.1) hkp
        have hok := hpk _ (List.getElem_mem hkp)
        obtain ⟨c20, c2m, _⟩ := rc_bd hpk hq1 hri2 hF.f8
        have e19 : W.cell? ⟨g, 19, none⟩ = some (.int .i64 (f : Int)) := ((HW.out.at_ 19).trans HW.out.cv).trans (by rw [hsv2]; rfl)
        have e0 : W.cell? ⟨g, 0, none⟩ = some (.slice (some ⟨b, o, none⟩) p.length c) := (HW.out.at_ 0).trans HW.out.c0
        have eq : W.cell? ⟨g, 2 + f, none⟩ = some (.slice (some ⟨qb, qo, none⟩) N qc) := ((HW.out.at_ _).trans (HW.out.cq f hF.f8)).trans (by rw [hF.qv_])
        have ec : W.cell? ⟨g, 10 + f, none⟩ = some (.int .i64 (s2.c f)) := (HW.out.at_ _).trans (HW.out.cc f hF.f8)
        have ek : W.cell? ⟨qb, qo, none⟩ = some (.int .i64 (k : Int)) := hF.ck
        have q1 : (0 : Int) ≤ (f : Int) := by omega
        have q2 : (f : Int) < 8 := by have := hF.f8; omega
        have q3 : (0 : Int) < (N : Int) := by have := hF.N_; omega
        have q4 : (0 : Int) ≤ (k : Int) := by omega
        have q5 : (k : Int) < (p.length : Int) := by have := hF.kp; omega
        have q6 : (1 : Int) ≤ (N : Int) := by omega
        have q7 : (N : Int) ≤ (qc : Int) := by have := hF.Nc; omega
        have q8 : ¬ (f : Int) < 0 := by omega
        obtain ⟨z, hz⟩ : ∃ z, z = p[k].s := ⟨_, rfl⟩
        rw [← hz] at d1
        have zb : 1 ≤ z ∧ z ≤ 1500 := by rw [hz]; exact ⟨hok.2.2.1, hok.2.2.2.1⟩
        obtain ⟨zb0, zb1⟩ := zb
        have hzk : sOf p (rHead s2 f) = z := by rw [hF.hd, sOf_of hF.kp, hz]
        rw [hzk] at hcase hend
        have d1w : W.cell? ⟨b, o + k * 3 + 1, none⟩ = some (.int .i64 z) := d1
        obtain ⟨cr, hcr⟩ : ∃ cr, cr = s2.c f := ⟨_, rfl⟩
        rw [← hcr] at ec c20 c2m hcase hend
        have HF := Lib.hid hF
        have Hz := Lib.hid hz
        have Hcr := Lib.hid hcr
        have Hzk := Lib.hid hzk
        have Hsv := Lib.hid hsv2
        have Hne := Lib.hid hne2
        have Hri := Lib.hid hri2
        clear hF hz hcr hok hzk hsv2 hne2 hri2
        rcases hcase with ⟨hc1, hk0, hs'⟩ | ⟨hc1, hrest⟩
        · obtain rfl : k0 = k := hk0.trans HF.out.hd
          have Hs' := Lib.hid hs'
          clear hk0 hs'
          go_wp2_with fail
          obtain ⟨V, hV⟩ : ∃ V : World, V = W := ⟨_, rfl⟩
          have TV : TMem B g (.slice (some ⟨b, o, none⟩) p.length c) (.slice A' qs.length c') V own1 s2 cs1 qv1 rv1 := by rw [hV]; exact HW.out
          have KV : Keeps B own w own1 V := by rw [hV]; exact KW.out
          have v0 : V.cell? ⟨g, 0, none⟩ = some (.slice (some ⟨b, o, none⟩) p.length c) := by rw [hV]; exact e0
          have vc : V.cell? ⟨g, 10 + f, none⟩ = some (.int .i64 cr) := by rw [hV]; exact ec
          have vd : V.cell? ⟨b, o + k0 * 3 + 1, none⟩ = some (.int .i64 z) := by rw [hV]; exact d1w
          have HTV := Lib.hid TV
          have HKV := Lib.hid KV
          rw [← hV]
          clear hV e19 e0 eq ec ek d0 d1 d1w d2 TV KV
          go_quiet (fail)
          rename Nat => nq1
          obtain ⟨W1, hW1⟩ : ∃ W1 : World, W1 = V.drewN nq1 := ⟨_, rfl⟩
          have T1 : TMem B g (.slice (some ⟨b, o, none⟩) p.length c) (.slice A' qs.length c') W1 own1 s2 cs1 qv1 rv1 := by rw [hW1]; exact HTV.out.drewN nq1
          have k1 : Keeps B own w own1 W1 := by rw [hW1]; exact keepsDrewN HKV.out nq1
          have y0 : W1.cell? ⟨g, 0, none⟩ = some (.slice (some ⟨b, o, none⟩) p.length c) := (T1.at_ 0).trans T1.c0
          have yc : W1.cell? ⟨g, 10 + f, none⟩ = some (.int .i64 cr) := by rw [Hcr.out]; exact (T1.at_ _).trans (T1.cc f HF.out.f8)
          have yz : W1.frozen? ⟨g, 10 + f, none⟩ = false := T1.blk.frozen _
          have yd : W1.cell? ⟨b, o + k0 * 3 + 1, none⟩ = some (.int .i64 z) := by rw [hW1]; exact vd
          have yb1 : -9223372036854775808 ≤ cr - z := by omega
          have yb2 : cr - z ≤ 9223372036854775807 := by omega
          have HT1 := Lib.hid T1
          have HK1 := Lib.hid k1
          rw [← hW1]
          clear hW1 v0 vc vd HTV HKV T1 k1 HW KW
          go_wp2_with fail
          go_still_tail 18, (by kernel_rfl)
          go_wp2_with fail
          obtain ⟨W2, hW2⟩ : ∃ W2 : World, W2 = (W1.setCell ⟨g, 10 + f, none⟩ (.int .i64 (cr - z))).drew := ⟨_, rfl⟩
          have T2 : TMem B g (.slice (some ⟨b, o, none⟩) p.length c) (.slice A' qs.length c') W2 own1 { s2 with c := upd s2.c f (cr - z) } (cs1.setIfInBounds (10 + f) (.int .i64 (cr - z))) qv1 rv1 := by rw [hW2]; exact (HT1.out.setC HF.out.f8 _).drew
          have k2 : Keeps B own w own1 W2 := by rw [hW2]; exact keepsDrew (keeps_trans HK1.out (keepsSet (a := ⟨g, 10 + f, none⟩) (keepsRefl B own1 W1) ((HT1.out.o g).2 (.inl rfl)) HT1.out.hB _))
          have y2 : W2.cell? ⟨g, 2 + f, none⟩ = some (.slice (some ⟨qb, qo, none⟩) N qc) := ((T2.at_ _).trans (T2.cq f HF.out.f8)).trans (by rw [HF.out.qv_])
          have y2f : W2.frozen? ⟨g, 2 + f, none⟩ = false := T2.blk.frozen _
          have y10c : W2.cell? ⟨g, 10 + f, none⟩ = some (.int .i64 (cr - z)) := (T2.at_ _).trans ((T2.cc f HF.out.f8).trans (by show some (Value.int .i64 (upd s2.c f (cr - z) f)) = _; rw [upd_same]))
          have y19c : W2.cell? ⟨g, 19, none⟩ = some (.int .i64 (f : Int)) := (T2.at_ 19).trans (T2.cv.trans (by show some (svV s2.sv) = _; rw [Hsv.out]; rfl))
          have y10 : W2.frozen? ⟨g, 10 + f, none⟩ = false := T2.blk.frozen _
          have y19 : W2.frozen? ⟨g, 19, none⟩ = false := T2.blk.frozen _
          have HT2 := Lib.hid T2
          have HK2 := Lib.hid k2
          rw [← hW2]
          clear hW2 T2 k2 HT1 HK1 y0 yc yz yd
          rcases tl with _ | ⟨k2, tl⟩
          · obtain rfl : N = 1 := HF.out.N_
            have hsd : rSend p s2 f = { s2 with q := upd s2.q f [], c := upd (upd s2.c f (cr - z)) f 0, sv := none } := by
              unfold rSend
              rw [HF.out.q, List.tail_cons, if_pos rfl, upd_upd]
            have hmr := HT2.out.q f HF.out.f8
            have hsq : s2.q f = [k0] := HF.out.q
            have hqvf := HF.out.qv_
            simp only [hsq, hqvf] at hmr
            have hmt := MRow.tail (s := []) hmr
            have Hmt := Lib.hid hmt
            have Hsd := Lib.hid hsd
            clear hsd hmr hsq hqvf hmt q3 q6
            by_cases hqc : qc = 1
            · subst hqc
              clear q7
              go_wp2_with fail
              go_still_tail 12, (by kernel_rfl)
              go_wp2_with fail
              go_ret2
              obtain ⟨t3, k3⟩ := HT2.out.putQ (w' := W2) HF.out.f8 (q' := []) (v' := .slice (some ⟨qb, qo, none⟩) 0 0) (by have := Hmt.out; simpa using this) (grownRefl _ _) (.inl (by rw [HF.out.qv_]; rfl))
              have k4 := keeps_trans HK2.out (keeps_trans k3 (keepsSet (a := ⟨g, 19, none⟩) (keepsSet (a := ⟨g, 10 + f, none⟩) (keepsRefl B _ _) ((t3.o g).2 (.inl rfl)) HT2.out.hB (.int .i64 0)) ((t3.o g).2 (.inl rfl)) HT2.out.hB (.int .i64 (-1))))
              exact ⟨rfl, _, _, _, _, by rw [Hs'.out, Hsd.out]; exact ((t3.setC HF.out.f8 0).setSv none).drew, keepsDrew k4⟩
            · go_wp2_with fail
              go_still_tail 12, (by kernel_rfl)
              go_wp2_with fail
              go_ret2
              obtain ⟨t3, k3⟩ := HT2.out.putQ (w' := W2) HF.out.f8 (q' := []) (v' := .slice (some ⟨qb, qo + 1, none⟩) 0 (qc - 1)) (by have := Hmt.out; rw [if_neg hqc] at this; exact this) (grownRefl _ _) (.inl (by rw [HF.out.qv_]; rfl))
              have k4 := keeps_trans HK2.out (keeps_trans k3 (keepsSet (a := ⟨g, 19, none⟩) (keepsSet (a := ⟨g, 10 + f, none⟩) (keepsRefl B _ _) ((t3.o g).2 (.inl rfl)) HT2.out.hB (.int .i64 0)) ((t3.o g).2 (.inl rfl)) HT2.out.hB (.int .i64 (-1))))
              exact ⟨rfl, _, _, _, _, by rw [Hs'.out, Hsd.out]; exact ((t3.setC HF.out.f8 0).setSv none).drew, keepsDrew k4⟩
          · have hN0 : ¬ ((N - 1 : Nat) : Int) = 0 := by have := HF.out.N_; rw [List.length_cons] at this; omega
            have hN1 : ¬ N - 1 = 0 := by omega
            have hqc : ¬ qc = 1 := by have := HF.out.N_; rw [List.length_cons] at this; omega
            have hsd : rSend p s2 f = { s2 with q := upd s2.q f (k2 :: tl), c := upd s2.c f (cr - z) } := by
              unfold rSend
              rw [HF.out.q, List.tail_cons, if_neg (by simp), Hzk.out, Hcr.out]
            have hmr := HT2.out.q f HF.out.f8
            have hsq : s2.q f = k0 :: k2 :: tl := HF.out.q
            have hqvf := HF.out.qv_
            have hNN := HF.out.N_
            rw [hNN] at hqvf
            simp only [hsq, hqvf] at hmr
            have hmt := MRow.tail (s := k2 :: tl) hmr
            rw [if_neg hqc, show (k2 :: tl).length = N - 1 by omega] at hmt
            have Hmt := Lib.hid hmt
            have Hsd := Lib.hid hsd
            clear hsd hmr hsq hqvf hmt hNN
            go_wp2_with fail
            go_still_tail 12, (by kernel_rfl)
            go_wp2_with fail
            go_ret2
            obtain ⟨t3, k3⟩ := HT2.out.putQ (w' := W2) HF.out.f8 (q' := k2 :: tl) (v' := .slice (some ⟨qb, qo + 1, none⟩) (N - 1) (qc - 1)) Hmt.out (grownRefl _ _) (.inl (by rw [HF.out.qv_]; rfl))
            exact ⟨rfl, _, _, _, _, by rw [Hs'.out, Hsd.out]; exact t3.drew, keepsDrew (keeps_trans HK2.out k3)⟩
        · obtain ⟨hri3, hmu3⟩ := hend hc1
          have Hrest := Lib.hid hrest
          clear hrest
          go_wp2_with fail
          obtain ⟨V, hV⟩ : ∃ V : World, V = W := ⟨_, rfl⟩
          have TV : TMem B g (.slice (some ⟨b, o, none⟩) p.length c) (.slice A' qs.length c') V own1 s2 cs1 qv1 rv1 := by rw [hV]; exact HW.out
          have KV : Keeps B own w own1 V := by rw [hV]; exact KW.out
          have v0 : V.cell? ⟨g, 0, none⟩ = some (.slice (some ⟨b, o, none⟩) p.length c) := by rw [hV]; exact e0
          have vc : V.cell? ⟨g, 10 + f, none⟩ = some (.int .i64 cr) := by rw [hV]; exact ec
          have vd : V.cell? ⟨b, o + k * 3 + 1, none⟩ = some (.int .i64 z) := by rw [hV]; exact d1w
          have HTV := Lib.hid TV
          have HKV := Lib.hid KV
          rw [← hV]
          clear hV e19 e0 eq ec ek d0 d1 d1w d2 TV KV
          go_quiet (fail)
          rename Nat => nq1
          obtain ⟨W1, hW1⟩ : ∃ W1 : World, W1 = V.drewN nq1 := ⟨_, rfl⟩
          have T1 : TMem B g (.slice (some ⟨b, o, none⟩) p.length c) (.slice A' qs.length c') W1 own1 s2 cs1 qv1 rv1 := by rw [hW1]; exact HTV.out.drewN nq1
          have k1 : Keeps B own w own1 W1 := by rw [hW1]; exact keepsDrewN HKV.out nq1
          have y18 : W1.cell? ⟨g, 18, none⟩ = some rv1 := (T1.at_ 18).trans T1.cr
          have hrl : s2.row.length ≤ 1000 := by
            have h8 := rlst_len hpk Hri.out
            unfold lst at h8
            rw [Hsv.out, List.length_cons] at h8
            omega
          have hR := Lib.hid (T1.r.alloc (.cells #[.int .i64 (f : Int)] 3))
          have xf : (W1.alloc (.cells #[.int .i64 (f : Int)] 3)).cell? ⟨W1.heap.size, 0, none⟩ = some (.int .i64 (f : Int)) := (Blk.new W1 3 #[.int .i64 (f : Int)]).cell 0
          have hbl : Hid (Blk (W1.alloc (.cells #[.int .i64 (f : Int)] 3)) g 110 cs1) := Lib.hid (T1.blk.alloc (.cells #[.int .i64 (f : Int)] 3))
          have hba : B ≤ (W1.alloc (.cells #[.int .i64 (f : Int)] 3)).heap.size := le_alloc T1.size_ _
          have hgr : some g ≠ (rv1).ownBlock := fun e => T1.gr e.symm
          have hcr18 := T1.cr
          have hcr19 : cs1[19]? = some (.int .i64 (f : Int)) := T1.cv.trans (by rw [Hsv.out]; rfl)
          have HT1 := Lib.hid T1
          have HK1 := Lib.hid k1
          rw [← hW1]
          clear hW1 v0 vc vd HTV HKV T1 k1 HW KW
          go_wp2_with (refine wpList_append_mid _ rfl (.tmp 137) (.tmp 139) 22 rfl B 3 i0 Tryd.underlying22 hi0 hz0 hz1 hz2 rv1 s2.row rfl hR.out ⟨W1.heap.size, 0, none⟩ f rfl xf hrl hba ?_; intro v4 w4 row4 g4 at4; have b4 := Blk.grown hbl.out g4 hgr; have y4 := (b4.cell 18).trans hcr18; have z4 := b4.frozen 18; have y5 := (b4.cell 19).trans hcr19; have z5 := b4.frozen 19; clear b4; obtain ⟨A4, n4, c4, e4⟩ := row4.slice_; subst e4)
          obtain ⟨t4, k4⟩ := TMem.putR (HT1.out.alloc (.cells #[.int .i64 (f : Int)] 3)) row4 g4 at4
          have k5 := keeps_trans (keeps_trans HK1.out (keepsAlloc (keepsRefl B own1 W1) HT1.out.size_ (.cells #[.int .i64 (f : Int)] 3))) (keeps_trans k4 (keepsSet (a := ⟨g, 19, none⟩) (keepsRefl B _ _) ((t4.o g).2 (.inl rfl)) HT1.out.hB (.int .i64 (-1))))
          go_roundg n
          case measure => omega
          case rel => exact ⟨rEnd s2 f, _, _, _, _, t4.setSv none, hri3, hmu3, Hrest.out, k5⟩
      · obtain ⟨r, hr, hs2⟩ := rTurn_row hsv1 ht
        have f8 := hri1.g8 hpk hne1
        have hrow := H1.out.r
        rw [hr] at hrow
        obtain ⟨rb, ro, rc, hrv, hrc, her⟩ := hrow.head_
        obtain ⟨RN, hRN⟩ : ∃ RN, RN = r.length + 1 := ⟨_, rfl⟩
        rw [← hRN] at hrv hrc
        obtain ⟨b2, o2, rfl, hb2, eq2⟩ := RdI.get (hq.below K1.out.1) (show f < qs.length by rw [Hql.out]; exact f8)
        have hquf : qu qs f = qs[f]'(by rw [Hql.out]; exact f8) := by unfold qu; simp [List.getD, show f < qs.length by rw [Hql.out]; exact f8]
        rw [← hquf] at eq2
        have hqb := hq1 f f8
        obtain ⟨x0, x1, x2⟩ := rc_bd hpk hq1 hri1 f8
        have x3 := x2 (by rw [hsv1]; simp)
        obtain ⟨cf, hcf⟩ : ∃ cf, cf = s1.c f := ⟨_, rfl⟩
        rw [← hcf] at x0 x3 x1
        obtain ⟨qf, hqf⟩ : ∃ qf, qf = qu qs f := ⟨_, rfl⟩
        rw [← hqf] at hqb eq2
        obtain ⟨hqb1, hqb2⟩ := hqb
        subst hrv
        have hrl : r.length ≤ 1000 := by
          have h8 := rlst_len hpk hri1
          unfold lst at h8
          rw [hsv1] at h8
          simp only [hr, List.length_cons] at h8
          omega
        have e19 : wr.cell? ⟨g, 19, none⟩ = some (.int .i64 (-1)) := ((H1.out.at_ 19).trans H1.out.cv).trans (by rw [hsv1]; rfl)
        have e18 : wr.cell? ⟨g, 18, none⟩ = some (.slice (some ⟨rb, ro, none⟩) RN rc) := (H1.out.at_ 18).trans H1.out.cr
        have z19 : wr.frozen? ⟨g, 19, none⟩ = false := H1.out.blk.frozen _
        have p1 : ¬ (RN : Int) = 0 := by omega
        have p2 : (0 : Int) < (RN : Int) := by omega
        have p3 : (1 : Int) ≤ (RN : Int) := by omega
        have p4 : (RN : Int) ≤ (rc : Int) := by omega
        have T4 := H1.out.setSv (some f)
        have hm4 := T4.r
        simp only [hr] at hm4
        rw [hRN] at hm4
        have hmt := MRow.tail (s := r) hm4
        rw [show r.length = RN - 1 by omega] at hmt
        have w18 : (wr.setCell ⟨g, 19, none⟩ (.int .i64 (f : Int))).cell? ⟨g, 18, none⟩ = some (.slice (some ⟨rb, ro, none⟩) RN rc) := (T4.at_ 18).trans T4.cr
        have hmt2 : MRow (wr.setCell ⟨g, 19, none⟩ (.int .i64 (f : Int))) B 3 (.slice (if rc = 1 then some ⟨rb, ro, none⟩ else some ⟨rb, ro + 1, none⟩) (RN - 1) (rc - 1)) r := by
          by_cases h9 : rc = 1
          · rw [if_pos h9] at hmt ⊢; exact hmt
          · rw [if_neg h9] at hmt ⊢; exact hmt
        have hA4 : ∃ a, (if rc = 1 then some (⟨rb, ro, none⟩ : Addr) else some ⟨rb, ro + 1, none⟩) = some a := by
          by_cases h9 : rc = 1
          · rw [if_pos h9]; exact ⟨_, rfl⟩
          · rw [if_neg h9]; exact ⟨_, rfl⟩
        have hn4 : RN - 1 = r.length := by omega
        have hB4 : B ≤ (wr.setCell ⟨g, 19, none⟩ (.int .i64 (f : Int))).heap.size := T4.size_
        have hbl4 : Hid (Blk (wr.setCell ⟨g, 19, none⟩ (.int .i64 (f : Int))) g 110 _) := Lib.hid T4.blk
        have hcr4 := T4.cr
        have Hn4 := Lib.hid hn4
        have HA4 := Lib.hid hA4
        have HT4 := Lib.hid T4
        have Hmt := Lib.hid hmt2
        have Hr := Lib.hid hr
        have Hs2 := Lib.hid hs2
        have HRN := Lib.hid hRN
        have Hcf := Lib.hid hcf
        have Hqf := Lib.hid hqf
        have Hsv1 := Lib.hid hsv1
        have Hcase := Lib.hid hcase
        have Hend := Lib.hid hend
        have Hne2 := Lib.hid hne2
        have Hri2 := Lib.hid hri2
        have Hsv2 := Lib.hid hsv2
        clear T4 hm4 hmt hmt2 hn4 hA4 hr hs2 hRN hcf hqf hquf hsv1 hc2 ht hq2 hl2 hne1 x2 hrow hcase hend hri1 hri2 hsv2 hne2
        go_wp2_with (go_at_call 77; refine (cloneN_any B _ _ _ r _ Hmt.out HA4.out Hn4.out hrl hB4).mono ?_; rintro e w4 ⟨v4, rfl, row4, g4, at4⟩; have b4 := Blk.grown hbl4.out g4 (by simp); have y4 := (b4.cell 18).trans hcr4; have z4 := b4.frozen 18; clear b4; obtain ⟨A4, n4, c4, e4⟩ := row4.slice_; subst e4)
        all_goals
          obtain ⟨t5, k5⟩ := TMem.putR2 HT4.out row4 (grownAny g4 _) (fun b e => .inr (at4 b e))
          have k6 := keeps_trans K1.out (keeps_trans (keepsSet (a := ⟨g, 19, none⟩) (keepsRefl B own1 wr) ((H1.out.o g).2 (.inl rfl)) H1.out.hB (.int .i64 (f : Int))) k5)
          have b4 := ((Below.refl B wr).setCell (p := ⟨g, 19, none⟩) H1.out.hB (.int .i64 (f : Int)))
          clear row4 g4 at4 k5 y4 z4 e18 e19 z19 w18 her
          generalize w4.setCell ⟨g, 18, none⟩ (.slice A4 n4 c4) = W5 at t5 k6 ⊢
          generalize Value.slice A4 n4 c4 = rv2 at t5 k6 ⊢
          have x19 : W5.cell? ⟨g, 19, none⟩ = some (.int .i64 (f : Int)) := (t5.at_ 19).trans t5.cv
          have x1 : W5.cell? ⟨g, 1, none⟩ = some (.slice (some ⟨b2, o2, none⟩) qs.length c') := (t5.at_ 1).trans t5.c1
          have xc : W5.cell? ⟨g, 10 + f, none⟩ = some (.int .i64 cf) := by rw [Hcf.out]; exact (t5.at_ _).trans (t5.cc f f8)
          have xz : W5.frozen? ⟨g, 10 + f, none⟩ = false := t5.blk.frozen _
          have xq : W5.cell? ⟨b2, o2 + f, none⟩ = some (.int .i64 qf) := by
            obtain ⟨b3, o3, e3, _, e5⟩ := RdI.get (hq.below k6.1) (show f < qs.length by rw [Hql.out]; exact f8)
            simp only [Option.some.injEq, Addr.mk.injEq, and_true] at e3
            obtain ⟨rfl, rfl⟩ := e3
            rw [e5, Hqf.out]
            unfold qu
            simp [List.getD, show f < qs.length by rw [Hql.out]; exact f8]
          have q1 : (0 : Int) ≤ (f : Int) := by omega
          have q2 : (f : Int) < 8 := by omega
          have q3 : (f : Int) < (qs.length : Int) := by rw [Hql.out]; omega
          have yb1 : -9223372036854775808 ≤ cf + qf := by omega
          have yb2 : cf + qf ≤ 9223372036854775807 := by omega
          have HT5 := Lib.hid t5
          have HK5 := Lib.hid k6
          clear t5 k6 eq2
          go_still_tail 23, (by kernel_rfl)
          obtain ⟨W, hW⟩ : ∃ W : World, W = W5.setCell ⟨g, 10 + f, none⟩ (.int .i64 (cf + qf)) := ⟨_, rfl⟩
          obtain ⟨cs2, t6⟩ : ∃ cs2, TMem B g (.slice A p.length c) (.slice (some ⟨b2, o2, none⟩) qs.length c') W (ownQ g qv1 rv2) s2 cs2 qv1 rv2 := ⟨_, by
            rw [hW, Hs2.out, ← Hqf.out, ← Hcf.out]
            exact HT5.out.setC f8 (cf + qf)⟩
          have k6 : Keeps B own w (ownQ g qv1 rv2) W := by
            rw [hW]
            exact keeps_trans HK5.out (keepsSet (a := ⟨g, 10 + f, none⟩) (keepsRefl B _ W5) ((HT5.out.o g).2 (.inl rfl)) HT5.out.hB _)
          have HW := Lib.hid t6
          have KW := Lib.hid k6
          have hcase := Hcase.out
          have hend := Hend.out
          have hne2 := Hne2.out
          have hri2 := Hri2.out
          have hsv2 := Hsv2.out
          subst hW
          clear t6 k6 x19 x1 xq q1 q2 q3 HT5 HK5 H1 K1 hbl4 hcr4 b4 HT4 Hmt HA4 Hn4

          obtain ⟨k, tl, qb, qo, qc, N, hF⟩ := head_facts hpk HW.out hri2 hne2
          have hkp := hF.kp
          obtain ⟨b, o, rfl, hb, d0, d1, d2⟩ := RdP.get (hp.below KW.out.1) hkp
          have hok := hpk _ (List.getElem_mem hkp)
          obtain ⟨c20, c2m, _⟩ := rc_bd hpk hq1 hri2 hF.f8
          have e19 : (W5.setCell ⟨g, 10 + f, none⟩ (.int .i64 (cf + qf))).cell? ⟨g, 19, none⟩ = some (.int .i64 (f : Int)) := ((HW.out.at_ 19).trans HW.out.cv).trans (by rw [hsv2]; rfl)
          have e0 : (W5.setCell ⟨g, 10 + f, none⟩ (.int .i64 (cf + qf))).cell? ⟨g, 0, none⟩ = some (.slice (some ⟨b, o, none⟩) p.length c) := (HW.out.at_ 0).trans HW.out.c0
          have eq : (W5.setCell ⟨g, 10 + f, none⟩ (.int .i64 (cf + qf))).cell? ⟨g, 2 + f, none⟩ = some (.slice (some ⟨qb, qo, none⟩) N qc) := ((HW.out.at_ _).trans (HW.out.cq f hF.f8)).trans (by rw [hF.qv_])
          have ec : (W5.setCell ⟨g, 10 + f, none⟩ (.int .i64 (cf + qf))).cell? ⟨g, 10 + f, none⟩ = some (.int .i64 (s2.c f)) := (HW.out.at_ _).trans (HW.out.cc f hF.f8)
          have ek : (W5.setCell ⟨g, 10 + f, none⟩ (.int .i64 (cf + qf))).cell? ⟨qb, qo, none⟩ = some (.int .i64 (k : Int)) := hF.ck
          have q1 : (0 : Int) ≤ (f : Int) := by omega
          have q2 : (f : Int) < 8 := by have := hF.f8; omega
          have q3 : (0 : Int) < (N : Int) := by have := hF.N_; omega
          have q4 : (0 : Int) ≤ (k : Int) := by omega
          have q5 : (k : Int) < (p.length : Int) := by have := hF.kp; omega
          have q6 : (1 : Int) ≤ (N : Int) := by omega
          have q7 : (N : Int) ≤ (qc : Int) := by have := hF.Nc; omega
          have q8 : ¬ (f : Int) < 0 := by omega
          obtain ⟨z, hz⟩ : ∃ z, z = p[k].s := ⟨_, rfl⟩
          rw [← hz] at d1
          have zb : 1 ≤ z ∧ z ≤ 1500 := by rw [hz]; exact ⟨hok.2.2.1, hok.2.2.2.1⟩
          obtain ⟨zb0, zb1⟩ := zb
          have hzk : sOf p (rHead s2 f) = z := by rw [hF.hd, sOf_of hF.kp, hz]
          rw [hzk] at hcase hend
          have d1w : (W5.setCell ⟨g, 10 + f, none⟩ (.int .i64 (cf + qf))).cell? ⟨b, o + k * 3 + 1, none⟩ = some (.int .i64 z) := d1
          obtain ⟨cr, hcr⟩ : ∃ cr, cr = s2.c f := ⟨_, rfl⟩
          rw [← hcr] at ec c20 c2m hcase hend
          have HF := Lib.hid hF
          have Hz := Lib.hid hz
          have Hcr := Lib.hid hcr
          have Hzk := Lib.hid hzk
          have Hsv := Lib.hid hsv2
          have Hne := Lib.hid hne2
          have Hri := Lib.hid hri2
          clear hF hz hcr hok hzk hsv2 hne2 hri2
          rcases hcase with ⟨hc1, hk0, hs'⟩ | ⟨hc1, hrest⟩
          · obtain rfl : k0 = k := hk0.trans HF.out.hd
            have Hs' := Lib.hid hs'
            clear hk0 hs'
            go_wp2_with fail
            obtain ⟨V, hV⟩ : ∃ V : World, V = (W5.setCell ⟨g, 10 + f, none⟩ (.int .i64 (cf + qf))).drew := ⟨_, rfl⟩
            have TV : TMem B g (.slice (some ⟨b, o, none⟩) p.length c) (.slice (some ⟨b2, o2, none⟩) qs.length c') V (ownQ g qv1 rv2) s2 cs2 qv1 rv2 := by rw [hV]; exact HW.out.drew
            have KV : Keeps B own w (ownQ g qv1 rv2) V := by rw [hV]; exact keepsDrew KW.out
            have v0 : V.cell? ⟨g, 0, none⟩ = some (.slice (some ⟨b, o, none⟩) p.length c) := by rw [hV]; exact e0
            have vc : V.cell? ⟨g, 10 + f, none⟩ = some (.int .i64 cr) := by rw [hV]; exact ec
            have vd : V.cell? ⟨b, o + k0 * 3 + 1, none⟩ = some (.int .i64 z) := by rw [hV]; exact d1w
            have HTV := Lib.hid TV
            have HKV := Lib.hid KV
            rw [← hV]
            clear hV e19 e0 eq ec ek d0 d1 d1w d2 TV KV
            go_quiet (fail)
            rename Nat => nq1
            obtain ⟨W1, hW1⟩ : ∃ W1 : World, W1 = V.drewN nq1 := ⟨_, rfl⟩
            have T1 : TMem B g (.slice (some ⟨b, o, none⟩) p.length c) (.slice (some ⟨b2, o2, none⟩) qs.length c') W1 (ownQ g qv1 rv2) s2 cs2 qv1 rv2 := by rw [hW1]; exact HTV.out.drewN nq1
            have k1 : Keeps B own w (ownQ g qv1 rv2) W1 := by rw [hW1]; exact keepsDrewN HKV.out nq1
            have y0 : W1.cell? ⟨g, 0, none⟩ = some (.slice (some ⟨b, o, none⟩) p.length c) := (T1.at_ 0).trans T1.c0
            have yc : W1.cell? ⟨g, 10 + f, none⟩ = some (.int .i64 cr) := by rw [Hcr.out]; exact (T1.at_ _).trans (T1.cc f HF.out.f8)
            have yz : W1.frozen? ⟨g, 10 + f, none⟩ = false := T1.blk.frozen _
            have yd : W1.cell? ⟨b, o + k0 * 3 + 1, none⟩ = some (.int .i64 z) := by rw [hW1]; exact vd
            have yb1 : -9223372036854775808 ≤ cr - z := by omega
            have yb2 : cr - z ≤ 9223372036854775807 := by omega
            have HT1 := Lib.hid T1
            have HK1 := Lib.hid k1
            rw [← hW1]
            clear hW1 v0 vc vd HTV HKV T1 k1 HW KW
            go_wp2_with fail
            go_still_tail 18, (by kernel_rfl)
            go_wp2_with fail
            obtain ⟨W2, hW2⟩ : ∃ W2 : World, W2 = (W1.setCell ⟨g, 10 + f, none⟩ (.int .i64 (cr - z))).drew := ⟨_, rfl⟩
            have T2 : TMem B g (.slice (some ⟨b, o, none⟩) p.length c) (.slice (some ⟨b2, o2, none⟩) qs.length c') W2 (ownQ g qv1 rv2) { s2 with c := upd s2.c f (cr - z) } (cs2.setIfInBounds (10 + f) (.int .i64 (cr - z))) qv1 rv2 := by rw [hW2]; exact (HT1.out.setC HF.out.f8 _).drew
            have k2 : Keeps B own w (ownQ g qv1 rv2) W2 := by rw [hW2]; exact keepsDrew (keeps_trans HK1.out (keepsSet (a := ⟨g, 10 + f, none⟩) (keepsRefl B (ownQ g qv1 rv2) W1) ((HT1.out.o g).2 (.inl rfl)) HT1.out.hB _))
            have y2 : W2.cell? ⟨g, 2 + f, none⟩ = some (.slice (some ⟨qb, qo, none⟩) N qc) := ((T2.at_ _).trans (T2.cq f HF.out.f8)).trans (by rw [HF.out.qv_])
            have y2f : W2.frozen? ⟨g, 2 + f, none⟩ = false := T2.blk.frozen _
            have y10c : W2.cell? ⟨g, 10 + f, none⟩ = some (.int .i64 (cr - z)) := (T2.at_ _).trans ((T2.cc f HF.out.f8).trans (by show some (Value.int .i64 (upd s2.c f (cr - z) f)) = _; rw [upd_same]))
            have y19c : W2.cell? ⟨g, 19, none⟩ = some (.int .i64 (f : Int)) := (T2.at_ 19).trans (T2.cv.trans (by show some (svV s2.sv) = _; rw [Hsv.out]; rfl))
            have y10 : W2.frozen? ⟨g, 10 + f, none⟩ = false := T2.blk.frozen _
            have y19 : W2.frozen? ⟨g, 19, none⟩ = false := T2.blk.frozen _
            have HT2 := Lib.hid T2
            have HK2 := Lib.hid k2
            rw [← hW2]
            clear hW2 T2 k2 HT1 HK1 y0 yc yz yd
            rcases tl with _ | ⟨k2, tl⟩
            · obtain rfl : N = 1 := HF.out.N_
              have hsd : rSend p s2 f = { s2 with q := upd s2.q f [], c := upd (upd s2.c f (cr - z)) f 0, sv := none } := by
                unfold rSend
                rw [HF.out.q, List.tail_cons, if_pos rfl, upd_upd]
              have hmr := HT2.out.q f HF.out.f8
              have hsq : s2.q f = [k0] := HF.out.q
              have hqvf := HF.out.qv_
              simp only [hsq, hqvf] at hmr
              have hmt := MRow.tail (s := []) hmr
              have Hmt := Lib.hid hmt
              have Hsd := Lib.hid hsd
              clear hsd hmr hsq hqvf hmt q3 q6
              by_cases hqc : qc = 1
              · subst hqc
                clear q7
                go_wp2_with fail
                go_still_tail 12, (by kernel_rfl)
                go_wp2_with fail
                go_ret2
                obtain ⟨t3, k3⟩ := HT2.out.putQ (w' := W2) HF.out.f8 (q' := []) (v' := .slice (some ⟨qb, qo, none⟩) 0 0) (by have := Hmt.out; simpa using this) (grownRefl _ _) (.inl (by rw [HF.out.qv_]; rfl))
                have k4 := keeps_trans HK2.out (keeps_trans k3 (keepsSet (a := ⟨g, 19, none⟩) (keepsSet (a := ⟨g, 10 + f, none⟩) (keepsRefl B _ _) ((t3.o g).2 (.inl rfl)) HT2.out.hB (.int .i64 0)) ((t3.o g).2 (.inl rfl)) HT2.out.hB (.int .i64 (-1))))
                exact ⟨rfl, _, _, _, _, by rw [Hs'.out, Hsd.out]; exact ((t3.setC HF.out.f8 0).setSv none).drew, keepsDrew k4⟩
              · go_wp2_with fail
                go_still_tail 12, (by kernel_rfl)
                go_wp2_with fail
                go_ret2
                obtain ⟨t3, k3⟩ := HT2.out.putQ (w' := W2) HF.out.f8 (q' := []) (v' := .slice (some ⟨qb, qo + 1, none⟩) 0 (qc - 1)) (by have := Hmt.out; rw [if_neg hqc] at this; exact this) (grownRefl _ _) (.inl (by rw [HF.out.qv_]; rfl))
                have k4 := keeps_trans HK2.out (keeps_trans k3 (keepsSet (a := ⟨g, 19, none⟩) (keepsSet (a := ⟨g, 10 + f, none⟩) (keepsRefl B _ _) ((t3.o g).2 (.inl rfl)) HT2.out.hB (.int .i64 0)) ((t3.o g).2 (.inl rfl)) HT2.out.hB (.int .i64 (-1))))
                exact ⟨rfl, _, _, _, _, by rw [Hs'.out, Hsd.out]; exact ((t3.setC HF.out.f8 0).setSv none).drew, keepsDrew k4⟩
            · have hN0 : ¬ ((N - 1 : Nat) : Int) = 0 := by have := HF.out.N_; rw [List.length_cons] at this; omega
              have hN1 : ¬ N - 1 = 0 := by omega
              have hqc : ¬ qc = 1 := by have := HF.out.N_; rw [List.length_cons] at this; omega
              have hsd : rSend p s2 f = { s2 with q := upd s2.q f (k2 :: tl), c := upd s2.c f (cr - z) } := by
                unfold rSend
                rw [HF.out.q, List.tail_cons, if_neg (by simp), Hzk.out, Hcr.out]
              have hmr := HT2.out.q f HF.out.f8
              have hsq : s2.q f = k0 :: k2 :: tl := HF.out.q
              have hqvf := HF.out.qv_
              have hNN := HF.out.N_
              rw [hNN] at hqvf
              simp only [hsq, hqvf] at hmr
              have hmt := MRow.tail (s := k2 :: tl) hmr
              rw [if_neg hqc, show (k2 :: tl).length = N - 1 by omega] at hmt
              have Hmt := Lib.hid hmt
              have Hsd := Lib.hid hsd
              clear hsd hmr hsq hqvf hmt hNN
              go_wp2_with fail
              go_still_tail 12, (by kernel_rfl)
              go_wp2_with fail
              go_ret2
              obtain ⟨t3, k3⟩ := HT2.out.putQ (w' := W2) HF.out.f8 (q' := k2 :: tl) (v' := .slice (some ⟨qb, qo + 1, none⟩) (N - 1) (qc - 1)) Hmt.out (grownRefl _ _) (.inl (by rw [HF.out.qv_]; rfl))
              exact ⟨rfl, _, _, _, _, by rw [Hs'.out, Hsd.out]; exact t3.drew, keepsDrew (keeps_trans HK2.out k3)⟩
          · obtain ⟨hri3, hmu3⟩ := hend hc1
            have Hrest := Lib.hid hrest
            clear hrest
            go_wp2_with fail
            obtain ⟨V, hV⟩ : ∃ V : World, V = (W5.setCell ⟨g, 10 + f, none⟩ (.int .i64 (cf + qf))).drew := ⟨_, rfl⟩
            have TV : TMem B g (.slice (some ⟨b, o, none⟩) p.length c) (.slice (some ⟨b2, o2, none⟩) qs.length c') V (ownQ g qv1 rv2) s2 cs2 qv1 rv2 := by rw [hV]; exact HW.out.drew
            have KV : Keeps B own w (ownQ g qv1 rv2) V := by rw [hV]; exact keepsDrew KW.out
            have v0 : V.cell? ⟨g, 0, none⟩ = some (.slice (some ⟨b, o, none⟩) p.length c) := by rw [hV]; exact e0
            have vc : V.cell? ⟨g, 10 + f, none⟩ = some (.int .i64 cr) := by rw [hV]; exact ec
            have vd : V.cell? ⟨b, o + k * 3 + 1, none⟩ = some (.int .i64 z) := by rw [hV]; exact d1w
            have HTV := Lib.hid TV
            have HKV := Lib.hid KV
            rw [← hV]
            clear hV e19 e0 eq ec ek d0 d1 d1w d2 TV KV
            go_quiet (fail)
            rename Nat => nq1
            obtain ⟨W1, hW1⟩ : ∃ W1 : World, W1 = V.drewN nq1 := ⟨_, rfl⟩
            have T1 : TMem B g (.slice (some ⟨b, o, none⟩) p.length c) (.slice (some ⟨b2, o2, none⟩) qs.length c') W1 (ownQ g qv1 rv2) s2 cs2 qv1 rv2 := by rw [hW1]; exact HTV.out.drewN nq1
            have k1 : Keeps B own w (ownQ g qv1 rv2) W1 := by rw [hW1]; exact keepsDrewN HKV.out nq1
            have y18 : W1.cell? ⟨g, 18, none⟩ = some rv2 := (T1.at_ 18).trans T1.cr
            have hrl : s2.row.length ≤ 1000 := by
              have h8 := rlst_len hpk Hri.out
              unfold lst at h8
              rw [Hsv.out, List.length_cons] at h8
              omega
            have hR := Lib.hid (T1.r.alloc (.cells #[.int .i64 (f : Int)] 3))
            have xf : (W1.alloc (.cells #[.int .i64 (f : Int)] 3)).cell? ⟨W1.heap.size, 0, none⟩ = some (.int .i64 (f : Int)) := (Blk.new W1 3 #[.int .i64 (f : Int)]).cell 0
            have hbl : Hid (Blk (W1.alloc (.cells #[.int .i64 (f : Int)] 3)) g 110 cs2) := Lib.hid (T1.blk.alloc (.cells #[.int .i64 (f : Int)] 3))
            have hba : B ≤ (W1.alloc (.cells #[.int .i64 (f : Int)] 3)).heap.size := le_alloc T1.size_ _
            have hgr : some g ≠ (rv2).ownBlock := fun e => T1.gr e.symm
            have hcr18 := T1.cr
            have hcr19 : cs2[19]? = some (.int .i64 (f : Int)) := T1.cv.trans (by rw [Hsv.out]; rfl)
            have HT1 := Lib.hid T1
            have HK1 := Lib.hid k1
            rw [← hW1]
            clear hW1 v0 vc vd HTV HKV T1 k1 HW KW
            go_wp2_with (refine wpList_append_mid _ rfl (.tmp 137) (.tmp 139) 22 rfl B 3 i0 Tryd.underlying22 hi0 hz0 hz1 hz2 rv2 s2.row rfl hR.out ⟨W1.heap.size, 0, none⟩ f rfl xf hrl hba ?_; intro v4 w4 row4 g4 at4; have b4 := Blk.grown hbl.out g4 hgr; have y4 := (b4.cell 18).trans hcr18; have z4 := b4.frozen 18; have y5 := (b4.cell 19).trans hcr19; have z5 := b4.frozen 19; clear b4; obtain ⟨A4, n4, c4, e4⟩ := row4.slice_; subst e4)
            obtain ⟨t4, k4⟩ := TMem.putR (HT1.out.alloc (.cells #[.int .i64 (f : Int)] 3)) row4 g4 at4
            have k5 := keeps_trans (keeps_trans HK1.out (keepsAlloc (keepsRefl B (ownQ g qv1 rv2) W1) HT1.out.size_ (.cells #[.int .i64 (f : Int)] 3))) (keeps_trans k4 (keepsSet (a := ⟨g, 19, none⟩) (keepsRefl B _ _) ((t4.o g).2 (.inl rfl)) HT1.out.hB (.int .i64 (-1))))
            go_roundg n
            case measure => omega
            case rel => exact ⟨rEnd s2 f, _, _, _, _, t4.setSv none, hri3, hmu3, Hrest.out, k5⟩
end Go.Proofs.YthgpbdlmadjndaaDoor
