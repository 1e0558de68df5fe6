/- Package round: its picker, and Run. Conditions: the sentinels that it names lie in their variables. -/
import Derived.Test.YtkkecnofgmpekaaDoorRPick
import Derived.Test.YtkkecnofgmpekaaDoorRoundN
import Derived.Test.YtkkecnofgmpekaaDoorRank5
import Derived.Test.YtkkecnofgmpekaaDoorSprPlain
namespace Go.Proofs.YtkkecnofgmpekaaDoor
open Go.RowKit
set_option maxRecDepth 100000
def roundR (g : Nat) : Value := .agg #[.func (.func 59) #[.pointer (some ⟨g, 0, none⟩)] #[], .func (.func 60) #[.pointer (some ⟨g, 0, none⟩)] #[], .nilFunc]
structure RoundMem (p : List Pk) (qs : List Int) (A A' : Option Addr) (c c' B g : Nat) (w0 w : World) (own : Nat → Prop) (s : RS) : Prop where
  bel : Below B w0 w
  tm : ∃ cs qv rv, TMem B g (.slice A p.length c) (.slice A' qs.length c') w own s cs qv rv
set_option maxHeartbeats 1000000 in
theorem rpick_none (B g m : Nat) (vp vq : Value) (p : List Pk) (qs : List Int) (w : World) (own : Nat → Prop) (s : RS) (cs : Array Value) (qv : Nat → Value) (rv : Value) (h : TMem B g vp vq w own s cs qv rv) (hs : lst s = []) :
    Calls Tryd.prog 60 #[.pointer (some ⟨g, 0, none⟩)] w fun e w' => e = .returned (.tuple #[.int .i64 0, .bool false]) ∧ w = w' := by
  obtain ⟨hsv, hrow⟩ : s.sv = none ∧ s.row = [] := by
    unfold lst at hs
    cases hv : s.sv with
    | none => rw [hv] at hs; exact ⟨rfl, hs⟩
    | some g => rw [hv] at hs; cases hs
  have hr := h.r
  rw [hrow] at hr
  obtain ⟨A, c, hv⟩ := hr.slice
  have hv : rv = .slice A 0 c := hv
  have e19 : w.cell? ⟨g, 19, none⟩ = some (.int .i64 (-1)) := ((h.at_ 19).trans h.cv).trans (by rw [hsv]; rfl)
  have e18 : w.cell? ⟨g, 18, none⟩ = some (.slice A 0 c) := ((h.at_ 18).trans h.cr).trans (by rw [hv])
  clear h hs hsv hrow hr hv
  go_enter Tryd.func60, Tryd.ntmps60
  go_wp2
  go_loopg [4] 1 (fun n fv wr => w = wr)
  case atStart => trivial
  case round =>
    subst hrel
    go_wp2_with fail
    go_ret2
    exact ⟨rfl, rfl⟩
def ruleB (g : Nat) : Obj := .cells #[.func (.func 59) #[.pointer (some ⟨g, 0, none⟩)] #[], .func (.func 60) #[.pointer (some ⟨g, 0, none⟩)] #[], .nilFunc] 79
theorem roundPicker (w0 : World) (B g : Nat) (A A' : Option Addr) (c c' : Nat) (p : List Pk) (qs : List Int) (hp : RdP w0 B A p) (hq : RdI w0 B A' qs) (hpk : ∀ x ∈ p, okPk x) (hql : qs.length = 8) (hq1 : ∀ g, g < 8 → 1 ≤ qu qs g ∧ qu qs g ≤ 3000) (hpl : p.length ≤ 300) :
    Picker (roundR g) (roundM p qs) p.length B (RoundMem p qs A A' c c' B g w0) where
  own_ := fun {w own s} h b hb => by
    obtain ⟨cs, qv, rv, h⟩ := h.tm
    exact h.own_lt hb
  stay := fun {w w' own s} h hs hb => by
    obtain ⟨hb0, cs, qv, rv, h⟩ := h
    exact ⟨hb0.trans hb, cs, qv, rv, h.same hs⟩
  come := fun {w own s} k h hok hkn => by
    obtain ⟨hb0, cs, qv, rv, h⟩ := h
    have hB := h.size_
    have kk := keepsAlloc (keepsRefl B own w) hB (ruleB g)
    have hl := rlst_len hpk hok
    have hrl : s.row.length ≤ 900 := by
      unfold lst at hl
      cases hv : s.sv with
      | none => rw [hv] at hl; simp only at hl; omega
      | some g => rw [hv] at hl; simp only [List.length_cons] at hl; omega
    unfold roundR
    go_enter Tryd.func114, Tryd.ntmps114
    go_wp2_with fail
    refine (rcome_any B g k A A' c c' p qs _ own s cs qv rv (h.alloc (ruleB g)) (hp.below (hb0.trans kk.1)) hpk hkn (fun f _ => by have := rq_len hok hpl f; omega) hrl).mono ?_
    rintro e w1 ⟨rfl, own', cs', qv', rv', h', k'⟩
    go_wp2_with fail
    go_end0
    have kk := keeps_trans kk k'
    exact ⟨rfl, own', ⟨hb0.trans kk.1, cs', qv', rv', h'⟩, kk⟩
  none_ := fun {w own s m} h hok hk => by
    obtain ⟨hb0, cs, qv, rv, h⟩ := h
    have hB := h.size_
    have hq0 : ∀ g, 0 ≤ qu qs g := fun g => by
      by_cases h8 : g < 8
      · have := (hq1 g h8).1; omega
      · have : qu qs g = 0 := by unfold qu; simp [List.getD, show ¬ g < qs.length by omega]
        omega
    have hl := rPick_none hpk hq0 (fun g hg => (hq1 g hg).1) _ s m hok (Nat.le_refl _) hk
    clear hk hok
    have kk := keepsAlloc (keepsRefl B own w) hB (ruleB g)
    unfold roundR
    go_enter Tryd.func115, Tryd.ntmps115
    go_wp2_with fail
    refine (rpick_none B g m _ _ p qs _ own s cs qv rv (h.alloc (ruleB g)) hl).mono ?_
    rintro e w1 ⟨rfl, rfl⟩
    go_wp2_with fail
    go_ret2
    exact ⟨rfl, own, ⟨hb0.trans kk.1, cs, qv, rv, h.alloc _⟩, kk⟩
  some_ := fun {w own s m} k s' h hok hk => by
    obtain ⟨hb0, cs, qv, rv, h⟩ := h
    have hB := h.size_
    have kk := keepsAlloc (keepsRefl B own w) hB (ruleB g)
    have Hk := Lib.hid (show rPick p qs (rMu s) s = some (k, s') from hk)
    clear hk
    unfold roundR
    go_enter Tryd.func115, Tryd.ntmps115
    go_wp2_with fail
    refine (rpick_some B g m k A A' c c' p qs _ own s s' cs qv rv (h.alloc (ruleB g)) (hp.below (hb0.trans kk.1)) (hq.below (hb0.trans kk.1)) hpk hql hq1 hpl hok Hk.out).mono ?_
    rintro e w1 ⟨rfl, own', cs', qv', rv', h', k'⟩
    go_wp2_with fail
    go_ret2
    have kk := keeps_trans kk k'
    exact ⟨rfl, own', ⟨hb0.trans kk.1, cs', qv', rv', h'⟩, kk⟩
  rest := fun {w own s m} h hok hw => by
    obtain ⟨hb0, cs, qv, rv, h⟩ := h
    have hB := h.size_
    have f1 := nilFunc_neq
    have kk := keepsAlloc (keepsRefl B own w) hB (ruleB g)
    unfold roundR
    go_enter Tryd.func116, Tryd.ntmps116
    go_wp2_with fail
    go_end0
    exact ⟨rfl, own, ⟨hb0.trans kk.1, cs, qv, rv, h.alloc _⟩, kk⟩
/-- The error of a link by rounds. -/
def roundErr (p : List Pk) (per : Int) (l : List Int) : Nat × Int := if (lookErr p per).1 = 0 then (quErr l, -1) else lookErr p per
theorem roundErr_ok {p : List Pk} {per : Int} {l : List Int} (h : (roundErr p per l).1 = 0) : (lookErr p per).1 = 0 ∧ quErr l = 0 ∧ l.length = 8 ∧ (∀ n ∈ l, 1 ≤ n ∧ n ≤ 3000) ∧ roundErr p per l = (0, -1) := by
  unfold roundErr at h ⊢
  by_cases h1 : (lookErr p per).1 = 0
  · rw [if_pos h1] at h ⊢
    have h' := h
    unfold quErr at h
    by_cases h8 : l.length = 8
    · rw [if_pos h8] at h
      by_cases ho : 0 ≤ qIdx l 0
      · rw [if_pos ho] at h; simp at h
      · exact ⟨h1, h', h8, qIdx_none ho, by rw [show quErr l = 0 from h']⟩
    · rw [if_neg h8] at h; simp at h
  · rw [if_neg h1] at h; exact absurd h h1
theorem qu_bd {l : List Int} (h8 : l.length = 8) (h : ∀ n ∈ l, 1 ≤ n ∧ n ≤ 3000) : ∀ g, g < 8 → 1 ≤ qu l g ∧ qu l g ≤ 3000 := fun g hg => by
  unfold qu
  have hgl : g < l.length := by omega
  simp only [List.getD, List.getElem?_eq_getElem hgl, Option.getD_some]
  exact h _ (List.getElem_mem hgl)
def turnsB (vp vq : Value) : Array Value := #[vp, vq, .slice none 0 0, .slice none 0 0, .slice none 0 0, .slice none 0 0, .slice none 0 0, .slice none 0 0, .slice none 0 0, .slice none 0 0, .int .i64 0, .int .i64 0, .int .i64 0, .int .i64 0, .int .i64 0, .int .i64 0, .int .i64 0, .int .i64 0, .slice none 0 0, .int .i64 (-1)]
theorem lt8 {P : Nat → Prop} (h0 : P 0) (h1 : P 1) (h2 : P 2) (h3 : P 3) (h4 : P 4) (h5 : P 5) (h6 : P 6) (h7 : P 7) (f : Nat) (hf : f < 8) : P f := by
  have h : f = 0 ∨ f = 1 ∨ f = 2 ∨ f = 3 ∨ f = 4 ∨ f = 5 ∨ f = 6 ∨ f = 7 := by omega
  rcases h with rfl | rfl | rfl | rfl | rfl | rfl | rfl | rfl <;> assumption
theorem turns_new (B : Nat) (vp vq : Value) (w : World) (hB : B ≤ w.heap.size) : TMem B w.heap.size vp vq (w.alloc (.cells (turnsB vp vq) 88)) (fun b => b = w.heap.size) rs0 (turnsB vp vq) (fun _ => .slice none 0 0) (.slice none 0 0) where
  blk := Blk.new _ _ _
  size := rfl
  c0 := rfl
  c1 := rfl
  cq := lt8 rfl rfl rfl rfl rfl rfl rfl rfl
  cc := lt8 rfl rfl rfl rfl rfl rfl rfl rfl
  cr := rfl
  cv := rfl
  q := fun _ _ => MRow.nil_ _ _ _
  r := MRow.nil_ _ _ _
  hB := hB
  gq := fun _ _ => by simp [Value.ownBlock]
  gr := by simp [Value.ownBlock]
  qr := fun _ _ _ h => by simp [Value.ownBlock] at h
  qq := fun _ _ _ _ _ _ h => by simp [Value.ownBlock] at h
  o := fun b => ⟨fun h => .inl h, fun h => by
    rcases h with h | h | ⟨f, _, h⟩
    · exact h
    · simp [Value.ownBlock] at h
    · simp [Value.ownBlock] at h⟩
set_option maxHeartbeats 1000000 in
theorem roundRun_ok (A A' : Option Addr) (c c' : Nat) (p : List Pk) (per : Int) (qs : List Int) (S : Nat → Addr) (w : World) (B : Nat) (hB : B ≤ w.heap.size) (h : RdP w B A p) (h' : RdI w B A' qs) (hS : Snt w B S [2, 3, 5]) (hl : p.length ≤ 9223372036854775807) (hl' : qs.length ≤ 9223372036854775807) (hok : (roundErr p per qs).1 = 0) :
    Calls Tryd.prog 21 #[.slice A p.length c, .int .i64 per, .slice A' qs.length c'] w (EndOwnEr Sn.cs 3 34 (roundL p per qs) S (roundErr p per qs).1 (roundErr p per qs).2 w) := by
  obtain ⟨e1, e2, h8, hn, e3⟩ := roundErr_ok hok
  obtain ⟨hf, h300, hpk, h0, h1⟩ := lookErr_ok e1
  have hq1 := qu_bd h8 hn
  have hq0 : ∀ g, 0 ≤ qu qs g := fun g => by
    by_cases h9 : g < 8
    · have := (hq1 g h9).1; omega
    · have : qu qs g = 0 := by unfold qu; simp [List.getD, show ¬ g < qs.length by omega]
      omega
  have Hf := Lib.hid hf
  have Hn := Lib.hid e2
  have He := Lib.hid e3
  have H8 := Lib.hid h8
  clear hf hok e1 e2 e3 h8
  go_enter Tryd.func21, Tryd.ntmps21
  go_wp2_with fail
  refine (look_any A c p per S w B hB h (hS.sub (by simp)) hl).mono ?_
  rintro e w1 ⟨v, rfl, hv, hb1⟩
  obtain rfl := hv.nil_of (by rw [Hf.out])
  go_wp2_with fail
  refine (qnumbers_any A' c' qs S w1 B (Nat.le_trans hB hb1.size) (h'.below (hb1.mono hB)) ((hS.below (hb1.mono hB)).sub (by simp)) hl').mono ?_
  rintro e w2 ⟨v, rfl, hv, hb2⟩
  obtain rfl := hv.nil_of Hn.out
  have k2 : Below w.heap.size w w2 := hb1.trans (hb2.mono hb1.size)
  have z2 := k2.size
  go_wp2_with fail
  have tn := turns_new (w2.heap.size) (.slice A p.length c) (.slice A' qs.length c') w2 (Nat.le_refl _)
  have bn : Below w2.heap.size w2 (w2.alloc (.cells (turnsB (.slice A p.length c) (.slice A' qs.length c')) 88)) := (Below.refl _ _).alloc (Nat.le_refl _) _
  refine (srv_any (R := roundR w2.heap.size) (M := roundM p qs) (Mem := RoundMem p qs A A' c c' w2.heap.size w2.heap.size (w2.alloc (.cells (turnsB (.slice A p.length c) (.slice A' qs.length c')) 88))) A c p per w2.heap.size rs0 _ _ (by simp)
    (((h.below (k2.mono hB)).more (Nat.le_trans hB z2)).below bn) hpk h300 h0 h1 (roundOk hpk hq0 (fun g hg => (hq1 g hg).1)) (roundPicker _ _ _ A A' c c' p qs (((h.below (k2.mono hB)).more (Nat.le_trans hB z2)).below bn) (((h'.below (k2.mono hB)).more (Nat.le_trans hB z2)).below bn) hpk H8.out hq1 h300) ⟨Below.refl _ _, _, _, _, tn⟩ rs0_wait (rs0_ok p qs)).mono ?_
  rintro e w3 ⟨A3, c3, own', rfl, row, hb3, _⟩
  go_wp2_with fail
  go_ret2
  rw [He.out]
  exact ⟨A3, c3, _, rfl, own_mono row (Nat.le_trans k2.size bn.size), .nil, (k2.trans (bn.mono k2.size)).trans (hb3.mono k2.size)⟩
set_option maxHeartbeats 1000000 in
theorem roundRun_bad (A A' : Option Addr) (c c' : Nat) (p : List Pk) (per : Int) (qs : List Int) (S : Nat → Addr) (w : World) (B : Nat) (hB : B ≤ w.heap.size) (h : RdP w B A p) (h' : RdI w B A' qs) (hS : Snt w B S [2, 3, 5]) (hl : p.length ≤ 9223372036854775807) (hl' : qs.length ≤ 9223372036854775807) (hok : (roundErr p per qs).1 ≠ 0) :
    Calls Tryd.prog 21 #[.slice A p.length c, .int .i64 per, .slice A' qs.length c'] w (EndOwnEr Sn.cs 3 34 [] S (roundErr p per qs).1 (roundErr p per qs).2 w) := by
  by_cases h1 : (lookErr p per).1 = 0
  · obtain ⟨hf, _, _, _, _⟩ := lookErr_ok h1
    have He := Lib.hid (show roundErr p per qs = (quErr qs, -1) from if_pos h1)
    have Hn := Lib.hid (show quErr qs ≠ 0 from by rw [He.out] at hok; exact hok)
    have Hf := Lib.hid hf
    clear hok hf h1
    go_enter Tryd.func21, Tryd.ntmps21
    go_wp2_with fail
    refine (look_any A c p per S w B hB h (hS.sub (by simp)) hl).mono ?_
    rintro e w1 ⟨v, rfl, hv, hb1⟩
    obtain rfl := hv.nil_of (by rw [Hf.out])
    go_wp2_with fail
    refine (qnumbers_any A' c' qs S w1 B (Nat.le_trans hB hb1.size) (h'.below (hb1.mono hB)) ((hS.below (hb1.mono hB)).sub (by simp)) hl').mono ?_
    rintro e w2 ⟨v, rfl, hv, hb2⟩
    obtain ⟨T, a, rfl⟩ := hv.some_of Hn.out
    go_wp2_with fail
    go_ret2
    rw [He.out]
    exact ⟨none, 0, _, rfl, ⟨by simp, .inl ⟨rfl, rfl⟩⟩, hv, hb1.trans (hb2.mono hb1.size)⟩
  · have He := Lib.hid (show roundErr p per qs = lookErr p per from if_neg h1)
    have Hn := Lib.hid h1
    clear hok h1
    go_enter Tryd.func21, Tryd.ntmps21
    go_wp2_with fail
    refine (look_any A c p per S w B hB h (hS.sub (by simp)) hl).mono ?_
    rintro e w1 ⟨v, rfl, hv, hb1⟩
    obtain ⟨T, a, rfl⟩ := hv.some_of Hn.out
    go_wp2_with fail
    go_ret2
    rw [He.out]
    exact ⟨none, 0, _, rfl, ⟨by simp, .inl ⟨rfl, rfl⟩⟩, hv, hb1⟩
end Go.Proofs.YtkkecnofgmpekaaDoor
