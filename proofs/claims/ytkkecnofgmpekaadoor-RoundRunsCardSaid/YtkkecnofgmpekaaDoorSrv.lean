/- Package fifo's Serve by any picker: what it computes. Conditions: packets and link in bounds; the picker's three methods compute what its model says, and touch their own memory only. -/
import Derived.Test.YtkkecnofgmpekaaDoorProg
import Derived.Test.YtkkecnofgmpekaaDoorSrvP
import Derived.Test.YtkkecnofgmpekaaDoorMem
import Derived.WalkKit
import Derived.WalkLawsBesides
import Derived.WalkSpells
import Derived.BigQuiet
import Derived.Deep.QuietTactic
import Derived.Deep.RegionWith
namespace Go.Proofs.YtkkecnofgmpekaaDoor
open Go.RowKit
set_option maxRecDepth 100000

/-- From w to w' only the blocks own, and new ones, have changed; own' is then the picker's. -/
def Keeps (B : Nat) (own : Nat → Prop) (w : World) (own' : Nat → Prop) (w' : World) : Prop :=
  Below B w w' ∧ (∀ b, b < w.heap.size → ¬ own b → w'.heap[b]? = w.heap[b]?) ∧ ∀ b, own' b → own b ∨ w.heap.size ≤ b
/-- A picker in memory: its value R, its memory, what its methods do. -/
structure Picker {σ : Type} (R : Value) (M : Pol σ) (n B : Nat) (Mem : World → (Nat → Prop) → σ → Prop) : Prop where
  own_ : ∀ {w own s}, Mem w own s → ∀ b, own b → B ≤ b ∧ b < w.heap.size
  stay : ∀ {w w' own s}, Mem w own s → (∀ b, own b → w'.heap[b]? = w.heap[b]?) → Below B w w' → Mem w' own s
  come : ∀ {w own s} (k : Nat), Mem w own s → M.ok k s → k < n → Calls Tryd.prog 114 #[R, .int .i64 k] w fun e w' => e = .returned (.tuple #[]) ∧ ∃ own', Mem w' own' (M.come s k) ∧ Keeps B own w own' w'
  none_ : ∀ {w own s m}, Mem w own s → M.ok m s → M.pick s = none → Calls Tryd.prog 115 #[R] w fun e w' => e = .returned (.tuple #[.int .i64 0, .bool false]) ∧ ∃ own', Mem w' own' s ∧ Keeps B own w own' w'
  some_ : ∀ {w own s m} (k : Nat) (s' : σ), Mem w own s → M.ok m s → M.pick s = some (k, s') → Calls Tryd.prog 115 #[R] w fun e w' => e = .returned (.tuple #[.int .i64 k, .bool true]) ∧ ∃ own', Mem w' own' s' ∧ Keeps B own w own' w'
  rest : ∀ {w own s m}, Mem w own s → M.ok m s → M.wait s = [] → Calls Tryd.prog 116 #[R] w fun e w' => e = .returned (.tuple #[]) ∧ ∃ own', Mem w' own' (M.rest s) ∧ Keeps B own w own' w'

def lenOf : Value → Nat | .slice _ n _ => n | _ => 0
/-- What holds at each round's head of Serve's loop. -/
structure SrvRel {σ : Type} (M : Pol σ) (p : List Pk) (per : Int) (B : Nat) (s0 : σ) (w : World) (Mem : World → (Nat → Prop) → σ → Prop) (f : Nat) (t : St σ) (A' : Option Addr) (c' : Nat) (own : Nat → Prop) (wr : World) : Prop where
  run : serveS M p per s0 = runS M p per f t
  fuel : mu p t ≤ f
  inv : Inv M p t
  row : wr.ownsRow w.heap.size 34 3 (.slice A' t.out.length c') t.out.length (t.out.flatMap Sn.cs)
  bel : Below B w wr
  mem : Mem wr own t.s
  far : ∀ g, (Value.slice A' t.out.length c').ownBlock = some g → ¬ own g
structure ComeRel {σ : Type} (M : Pol σ) (p : List Pk) (B : Nat) (w : World) (Mem : World → (Nat → Prop) → σ → Prop) (t : St σ) (A' : Option Addr) (c' : Nat) (k : Nat) (s : σ) (own : Nat → Prop) (wr : World) : Prop where
  run : comeL M t.now (p.drop t.next) t.next t.s = comeL M t.now (p.drop k) k s
  inv : InvC M p t.out k s
  row : wr.ownsRow w.heap.size 34 3 (.slice A' t.out.length c') t.out.length (t.out.flatMap Sn.cs)
  bel : Below B w wr
  mem : Mem wr own s
  far : ∀ g, (Value.slice A' t.out.length c').ownBlock = some g → ¬ own g

theorem own_kept {B : Nat} {own own' : Nat → Prop} {w w' : World} {base : Nat} {e : TypeId} {size : Nat} {v : Value} {n : Nat} {xs : List Value} (h : w.ownsRow base e size v n xs) (hk : Keeps B own w own' w') (hf : ∀ g, v.ownBlock = some g → ¬ own g) : w'.ownsRow base e size v n xs := by
  obtain ⟨h1, h2⟩ := h
  refine ⟨h1, ?_⟩
  rcases h2 with h2 | ⟨g, cap, cur, hv, hg, hh, r⟩
  · exact .inl h2
  · refine .inr ⟨g, cap, cur, hv, hg, ?_, r⟩
    have hlt : g < w.heap.size := by
      rcases Nat.lt_or_ge g w.heap.size with h | h
      · exact h
      · rw [Array.getElem?_eq_none h] at hh; cases hh
    rw [hk.2.1 g hlt (hf g (by rw [hv]; rfl))]
    exact hh
theorem own_lt {w : World} {base : Nat} {e : TypeId} {size : Nat} {v : Value} {n : Nat} {xs : List Value} (h : w.ownsRow base e size v n xs) : ∀ g, v.ownBlock = some g → g < w.heap.size := by
  intro g hg
  rcases h.2 with ⟨rfl, _⟩ | ⟨g', cap, cur, rfl, _, hh, _⟩
  · simp [Value.ownBlock] at hg
  · have : g' = g := by simpa [Value.ownBlock] using hg
    subst this
    rcases Nat.lt_or_ge g' w.heap.size with h | h
    · exact h
    · rw [Array.getElem?_eq_none h] at hh; cases hh
theorem far_kept {B : Nat} {own own' : Nat → Prop} {w w' : World} {base : Nat} {e : TypeId} {size : Nat} {v : Value} {n : Nat} {xs : List Value} (hf : ∀ g, v.ownBlock = some g → ¬ own g) (h : w.ownsRow base e size v n xs) (hk : Keeps B own w own' w') : ∀ g, v.ownBlock = some g → ¬ own' g := fun g hg ho => by
  rcases hk.2.2 g ho with h1 | h1
  · exact hf g hg h1
  · have := own_lt h g hg; omega
theorem infoSn : (Tryd.prog.info? 34).map (fun i => (i.zero, i.size, i.bytes)) = some (some (.agg #[.int .i64 0, .int .i64 0, .int .i64 0]), 3, 24) := by kernel_rfl
theorem stay_grown {own : Nat → Prop} {w w3 : World} {o o2 : Obj} {row : Option Nat} (hown : ∀ b, own b → b < w.heap.size) (g : ((w.alloc o).alloc o2).grownBy w3 row) (hf : ∀ g, row = some g → ¬ own g) : ∀ b, own b → w3.heap[b]? = w.heap[b]? := fun b hb => by
  have hlt := hown b hb
  rw [g.block b (by simp; omega) (fun e => hf b e.symm hb), Below.heap_alloc (w.alloc o) o2 _ (by simp; omega), Below.heap_alloc w o _ hlt]
theorem far_grown {own : Nat → Prop} {w : World} {o o2 : Obj} {v v' : Value} (hown : ∀ b, own b → b < w.heap.size) (h : v'.ownBlock = v.ownBlock ∨ v'.ownBlock = some ((w.alloc o).alloc o2).heap.size) (hf : ∀ g, v.ownBlock = some g → ¬ own g) : ∀ g, v'.ownBlock = some g → ¬ own g := fun g hg ho => by
  rcases h with h | h
  · exact hf g (h ▸ hg) ho
  · rw [h] at hg
    injection hg with hg
    have := hown g ho
    simp at hg
    omega
theorem keeps_trans {B : Nat} {own own1 own2 : Nat → Prop} {w w1 w2 : World} (h : Keeps B own w own1 w1) (k : Keeps B own1 w1 own2 w2) : Keeps B own w own2 w2 :=
  ⟨h.1.trans k.1, fun b hb ho => (k.2.1 b (Nat.lt_of_lt_of_le hb h.1.size) (fun h1 => by
    rcases h.2.2 b h1 with h2 | h2
    · exact ho h2
    · omega)).trans (h.2.1 b hb ho), fun b hb => by
    rcases k.2.2 b hb with h1 | h1
    · exact h.2.2 b h1
    · exact .inr (Nat.le_trans h.1.size h1)⟩
theorem keepsRefl (B : Nat) (own : Nat → Prop) (w : World) : Keeps B own w own w := ⟨Below.refl _ _, fun _ _ _ => rfl, fun _ hb => .inl hb⟩
theorem keepsSet {B : Nat} {own : Nat → Prop} {w w1 : World} (h : Keeps B own w own w1) {a : Addr} (ha : own a.block) (hB : B ≤ a.block) (u : Value) : Keeps B own w own (w1.setCell a u) :=
  ⟨h.1.setCell hB u, fun b hb ho => (Below.heap_setCell w1 a u b (fun e => ho (e ▸ ha))).trans (h.2.1 b hb ho), fun _ hb => .inl hb⟩
theorem keepsAlloc {B : Nat} {own : Nat → Prop} {w w1 : World} (h : Keeps B own w own w1) (hB : B ≤ w1.heap.size) (o : Obj) : Keeps B own w own (w1.alloc o) :=
  ⟨h.1.alloc hB o, fun b hb ho => (Below.heap_alloc w1 o b (Nat.lt_of_lt_of_le hb h.1.size)).trans (h.2.1 b hb ho), fun _ hb => .inl hb⟩
theorem meth_come (R : Value) (w : World) : (method 288 79 R "floodgate/fifo.come").run Tryd.prog w = .ok (114, R) w := by kernel_rfl
theorem meth_pick (R : Value) (w : World) : (method 288 79 R "floodgate/fifo.pick").run Tryd.prog w = .ok (115, R) w := by kernel_rfl
theorem meth_rest (R : Value) (w : World) : (method 288 79 R "floodgate/fifo.rest").run Tryd.prog w = .ok (116, R) w := by kernel_rfl
set_option maxHeartbeats 2000000 in
theorem srv_any {σ : Type} {M : Pol σ} {R : Value} {Mem : World → (Nat → Prop) → σ → Prop} (A : Option Addr) (c : Nat) (p : List Pk) (per : Int) (B : Nat) (s0 : σ) (own0 : Nat → Prop) (w : World) (hB : B ≤ w.heap.size) (h : RdP w B A p)
    (hp : ∀ x ∈ p, okPk x) (hl : p.length ≤ 300) (h0 : 1 ≤ per) (h1 : per ≤ 1000) (hM : PolOk M p.length) (hR : Picker R M p.length B Mem) (hm : Mem w own0 s0) (hw0 : M.wait s0 = []) (hok : M.ok 0 s0) :
    Calls Tryd.prog 52 #[.slice A p.length c, .int .i64 per, .iface 79 R] w fun e w' => ∃ A' c' own', e = .returned (.slice A' (serveS M p per s0).out.length c') ∧
      w'.ownsRow w.heap.size 34 3 (.slice A' (serveS M p per s0).out.length c') (serveS M p per s0).out.length ((serveS M p per s0).out.flatMap Sn.cs) ∧ Below B w w' ∧ Mem w' own' (serveS M p per s0).s := by
  have m1 := fun wx => meth_come R wx
  have m2 := fun wx => meth_pick R wx
  have m3 := fun wx => meth_rest R wx
  go_enter Tryd.func52, Tryd.ntmps52
  go_wp2
  go_loopw [7, 8, 9] (fun v nw nx wr => ∃ (f : Nat) (t : St σ) (A' : Option Addr) (c' : Nat) (own : Nat → Prop), v = .slice A' t.out.length c' ∧ nw = .int .i64 t.now ∧ nx = .int .i64 t.next ∧ SrvRel M p per B s0 w Mem f t A' c' own wr)
    (fun v nw _ _ => muV p (lenOf v) (intOf nw))
  case atStart => exact ⟨_, ⟨[], 0, 0, s0⟩, none, 0, own0, rfl, rfl, rfl, ⟨rfl, mu_start p s0, inv_start p hw0 hok, ⟨by simp, .inl ⟨rfl, rfl⟩⟩, Below.refl _ _, hm, by simp [Value.ownBlock]⟩⟩
  case round =>
    obtain ⟨f, t, A', c', own, rfl, rfl, rfl, hout⟩ := hrel
    have n0 := hout.inv.now0
    have n1 := hout.inv.now1
    have hcnt := hout.inv.toC.cnt
    have hnl := hout.inv.next_le
    by_cases hlt : t.out.length < p.length
    · obtain ⟨wo, rfl⟩ : ∃ wo : World, wo = wr := ⟨_, rfl⟩
      go_wp2_with fail
      go_loopw [9] (fun nx wr => ∃ (k : Nat) (s : σ) (own : Nat → Prop), nx = .int .i64 k ∧ ComeRel M p B w Mem t A' c' k s own wr) (fun nx _ => p.length - (intOf nx).toNat)
      case atStart => exact ⟨t.next, t.s, own, rfl, ⟨rfl, hout.inv.toC, hout.row, hout.bel, hout.mem, hout.far⟩⟩
      case round =>
        obtain ⟨k, s, own1, rfl, hc⟩ := hrel
        by_cases hk : k < p.length ∧ aOf p k ≤ t.now
        · obtain ⟨hk1, hk2⟩ := hk
          rw [aOf_of hk1] at hk2
          obtain ⟨b, o, rfl, hb, d0, d1, d2⟩ := RdP.get (h.below hc.bel) hk1
          have hd : p.drop k = p[k] :: p.drop (k + 1) := List.drop_eq_getElem_cons hk1
          have Hrun := Lib.hid (show comeL M t.now (p.drop t.next) t.next t.s = comeL M t.now (p.drop (k + 1)) (k + 1) (M.come s k) by rw [hc.run, hd]; exact if_pos hk2)
          clear hd
          go_wp2_with fail
          refine (hR.come k hc.mem hc.inv.ok hk1).mono ?_
          rintro e w1 ⟨rfl, own2, hm2, hk2⟩
          go_wp2_with fail
          go_roundw
          case rel => exact ⟨k + 1, _, own2, by go_num, ⟨Hrun.out, hc.inv.come hM hk1, own_kept hc.row hk2 (fun b hb => hc.far b hb), hc.bel.trans hk2.1, hm2, far_kept hc.far hc.row hk2⟩⟩
          case measure => simp [intOf]; omega
        · have hk' : k < p.length → t.now < aOf p k := fun h1 => by
            have := fun h2 => hk ⟨h1, h2⟩
            omega
          have hq := hc.run.trans (comeL_out M p t.now k s hk')
          have hstep := step_inv hM hp h0 h1 hout.inv hlt
          have hrun := runS_step M p per f t hlt hout.fuel
          cases hpk : M.pick s with
          | none =>
            have hid := hc.inv.idle hM hpk
            have hkl : k < p.length := by omega
            have hnow := hk' hkl
            rw [aOf_of hkl] at hnow
            have hw := hM.w_none _ _ hc.inv.ok hpk
            rw [step_none hq hpk] at hstep hrun
            obtain ⟨b, o, rfl, hb, d0, d1, d2⟩ := RdP.get (h.below hc.bel) hkl
            have Hw := Lib.hid hw
            have Hpk := Lib.hid hpk
            have Hid_ := Lib.hid hid
            have Hstep := Lib.hid hstep
            have Hrun := Lib.hid hrun
            clear hw hpk hid hstep hrun hq hk' hk
            go_wp2_with fail
            refine (hR.none_ hc.mem hc.inv.ok Hpk.out).mono ?_
            rintro e w1 ⟨rfl, own2, hm2, hk2⟩
            go_wp2_with fail
            refine (hR.rest hm2 hc.inv.ok Hw.out).mono ?_
            rintro e w2 ⟨rfl, own3, hm3, hk3⟩
            have kk := keeps_trans hk2 hk3
            have d2' : w2.cell? ⟨b, o + k * 3 + 2, none⟩ = some (.int .i64 p[k].a) := (kk.1.cell (p := ⟨b, o + k * 3 + 2, none⟩) hb).trans d2
            go_wp2_with fail
            have far3 := far_kept hc.far hc.row kk
            have row3 := own_kept hc.row kk (fun b hb => hc.far b hb)
            go_roundw
            case rel => exact ⟨f - 1, ⟨t.out, aOf p k, k, M.rest s⟩, A', c', own3, rfl, by rw [aOf_of hkl], rfl, ⟨hout.run.trans Hrun.out, by have := Hstep.out.2; have := hout.fuel; omega, Hstep.out.1, row3, hc.bel.trans kk.1, hm3, far3⟩⟩
            case measure =>
              have h9 := Hstep.out.2
              unfold mu at h9
              simp only [aOf_of hkl] at h9
              exact h9
          | some js =>
            obtain ⟨j, s'⟩ := js
            have hjl : j < p.length := Nat.lt_of_lt_of_le (hc.inv.pick_lt hM hpk) hc.inv.k_le
            rw [step_some hq hpk, sOf_of hjl] at hstep hrun
            obtain ⟨b, o, rfl, hb, d0, d1, d2⟩ := RdP.get (h.below hc.bel) hjl
            have hokj := hp _ (List.getElem_mem hjl)
            have q1 : 0 ≤ per * p[j].s := Int.mul_nonneg (by omega) (by have := hokj.2.2.1; omega)
            have q2 : per * p[j].s ≤ 1500000 := by
              have := Int.mul_le_mul h1 hokj.2.2.2.1 (by have := hokj.2.2.1; omega) (by omega : (0:Int) ≤ 1000)
              omega
            obtain ⟨x, hx⟩ : ∃ x : Sn, x = ⟨j, t.now, t.now + per * p[j].s⟩ := ⟨_, rfl⟩
            rw [← hx] at hstep hrun
            obtain ⟨out', hout'⟩ : ∃ out', out' = t.out ++ [x] := ⟨_, rfl⟩
            rw [← hout'] at hstep hrun
            have Hx := Lib.hid hx
            have Ho := Lib.hid hout'
            have Hpk := Lib.hid hpk
            have Hstep := Lib.hid hstep
            have Hrun := Lib.hid hrun
            have Hk := Lib.hid hk'
            clear hpk hstep hrun hq hk' hk hokj hx hout'
            have hgo : (k < p.length ∧ t.now < aOf p k) ∨ p.length ≤ k := by
              rcases Nat.lt_or_ge k p.length with h9 | h9
              · exact .inl ⟨h9, Hk.out h9⟩
              · exact .inr h9
            obtain ⟨i0, hi0, hz0, hz1, hz2⟩ := info_parts infoSn
            rcases hgo with ⟨hg1, hg2⟩ | hg1
            · rw [aOf_of hg1] at hg2
              obtain ⟨b', o', he, hb', f0, f1, f2⟩ := RdP.get (h.below hc.bel) hg1
              simp only [Option.some.injEq, Addr.mk.injEq, and_true] at he
              obtain ⟨rfl, rfl⟩ := he
              go_wp2_with fail
              refine (hR.some_ j s' hc.mem hc.inv.ok Hpk.out).mono ?_
              rintro e w1 ⟨rfl, own2, hm2, hk2⟩
              have e1 : w1.cell? ⟨b, o + j * 3 + 1, none⟩ = some (.int .i64 p[j].s) := (hk2.1.cell (p := ⟨b, o + j * 3 + 1, none⟩) hb).trans d1
              have row2 := own_kept hc.row hk2 (fun b hb => hc.far b hb)
              have far2 := far_kept hc.far hc.row hk2
              have bel2 := hc.bel.trans hk2.1
              have sz2 := bel2.size
              have HF := Lib.hid far2
              clear far2
              go_wp2_with (at_builtin; refine wpList_append_rd _ Sn.cs rfl (.tmp 62) (.tmp 64) 25 rfl w.heap.size 34 i0 (.agg #[.int .i64 0, .int .i64 0, .int .i64 0]) 3 24 Tryd.underlying25 hi0 hz0 hz1 hz2 rfl (by omega) Sn.cs_len Sn.cs_one (.slice A' t.out.length c') t.out.length (t.out.flatMap Sn.cs) rfl ((row2.alloc _).alloc _) (w1.heap.size + 2) (some ⟨w1.heap.size + 1, 0, none⟩) 1 [x] rfl (Rd.of_block (heap_alloc_new2 _ _ _) ((congrArg (fun y => [y].flatMap Sn.cs) Hx.out).symm) (Nat.lt_succ_self _) (by omega) Sn.cs_len) (by simp only [maxLen, List.length_cons, List.length_nil]; omega) (by simp only [List.length_cons, List.length_nil]; omega) (by simp; omega) ?_; intro v3 w3 row3 g3 at3; obtain ⟨A5, c5, hv5, row3⟩ := own_app row3 (by omega); rw [← Ho.out] at hv5 row3; have b3 := new_grown g3 (own_lt row2); have x2 : w3.cell? ⟨w1.heap.size, 2, none⟩ = some (.int .i64 (t.now + per * p[j].s)) := cell_blk b3 2; clear b3; rw [hv5] at at3 ⊢; clear hv5)
              have own_lt2 : ∀ b, own2 b → b < w1.heap.size := fun b hb => (hR.own_ hm2 b hb).2
              have bel3 : Below B w w3 := below_app ((bel2.alloc (by omega) _).alloc (by simp; omega) _) ((row2.alloc _).alloc _) g3 hB (by simp; omega)
              have bel3' : Below B w1 w3 := below_app (((Below.refl B w1).alloc (by omega) _).alloc (by simp; omega) _) ((row2.alloc _).alloc _) g3 hB (by simp; omega)
              have mem3 := hR.stay hm2 (stay_grown own_lt2 g3 HF.out) bel3'
              have far3 := far_grown own_lt2 at3 HF.out
              go_roundw
              case rel => exact ⟨f - 1, ⟨out', t.now + per * p[j].s, k, s'⟩, A5, c5, own2, rfl, rfl, rfl, ⟨hout.run.trans Hrun.out, by have := Hstep.out.2; have := hout.fuel; omega, Hstep.out.1, row3, bel3, mem3, far3⟩⟩
              case measure => exact Hstep.out.2
            · go_wp2_with fail
              refine (hR.some_ j s' hc.mem hc.inv.ok Hpk.out).mono ?_
              rintro e w1 ⟨rfl, own2, hm2, hk2⟩
              have e1 : w1.cell? ⟨b, o + j * 3 + 1, none⟩ = some (.int .i64 p[j].s) := (hk2.1.cell (p := ⟨b, o + j * 3 + 1, none⟩) hb).trans d1
              have row2 := own_kept hc.row hk2 (fun b hb => hc.far b hb)
              have far2 := far_kept hc.far hc.row hk2
              have bel2 := hc.bel.trans hk2.1
              have sz2 := bel2.size
              have HF := Lib.hid far2
              clear far2
              go_wp2_with (at_builtin; refine wpList_append_rd _ Sn.cs rfl (.tmp 62) (.tmp 64) 25 rfl w.heap.size 34 i0 (.agg #[.int .i64 0, .int .i64 0, .int .i64 0]) 3 24 Tryd.underlying25 hi0 hz0 hz1 hz2 rfl (by omega) Sn.cs_len Sn.cs_one (.slice A' t.out.length c') t.out.length (t.out.flatMap Sn.cs) rfl ((row2.alloc _).alloc _) (w1.heap.size + 2) (some ⟨w1.heap.size + 1, 0, none⟩) 1 [x] rfl (Rd.of_block (heap_alloc_new2 _ _ _) ((congrArg (fun y => [y].flatMap Sn.cs) Hx.out).symm) (Nat.lt_succ_self _) (by omega) Sn.cs_len) (by simp only [maxLen, List.length_cons, List.length_nil]; omega) (by simp only [List.length_cons, List.length_nil]; omega) (by simp; omega) ?_; intro v3 w3 row3 g3 at3; obtain ⟨A5, c5, hv5, row3⟩ := own_app row3 (by omega); rw [← Ho.out] at hv5 row3; have b3 := new_grown g3 (own_lt row2); have x2 : w3.cell? ⟨w1.heap.size, 2, none⟩ = some (.int .i64 (t.now + per * p[j].s)) := cell_blk b3 2; clear b3; rw [hv5] at at3 ⊢; clear hv5)
              have own_lt2 : ∀ b, own2 b → b < w1.heap.size := fun b hb => (hR.own_ hm2 b hb).2
              have bel3 : Below B w w3 := below_app ((bel2.alloc (by omega) _).alloc (by simp; omega) _) ((row2.alloc _).alloc _) g3 hB (by simp; omega)
              have bel3' : Below B w1 w3 := below_app (((Below.refl B w1).alloc (by omega) _).alloc (by simp; omega) _) ((row2.alloc _).alloc _) g3 hB (by simp; omega)
              have mem3 := hR.stay hm2 (stay_grown own_lt2 g3 HF.out) bel3'
              have far3 := far_grown own_lt2 at3 HF.out
              go_roundw
              case rel => exact ⟨f - 1, ⟨out', t.now + per * p[j].s, k, s'⟩, A5, c5, own2, rfl, rfl, rfl, ⟨hout.run.trans Hrun.out, by have := Hstep.out.2; have := hout.fuel; omega, Hstep.out.1, row3, bel3, mem3, far3⟩⟩
              case measure => exact Hstep.out.2
    · have e := Lib.hid (hout.run.trans (runS_done M p per f t hlt))
      go_wp2
      go_ret
      rw [e.out]
      exact ⟨A', c', own, rfl, hout.row, hout.bel, hout.mem⟩
end Go.Proofs.YtkkecnofgmpekaaDoor
