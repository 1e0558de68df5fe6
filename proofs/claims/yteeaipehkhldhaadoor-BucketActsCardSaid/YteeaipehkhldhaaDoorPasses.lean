/- The law BucketPasses returns true, whatever its arguments, and changes nothing that was there. Condition: the sentinels lie in their variables. -/
import Derived.Test.YteeaipehkhldhaaDoorPassP
import Derived.Test.YteeaipehkhldhaaDoorOwnP
import Derived.Deep.RegionHeld3
import Derived.Deep.RegionLaw
namespace Go.Proofs.YteeaipehkhldhaaDoor
open Go.RowKit
set_option maxRecDepth 100000
theorem pktBad_of {l : List Pk} {m : Int} {k : Nat} (h1 : ∀ x ∈ l, okPk x) (h2 : l.Pairwise (fun x y => x.a ≤ y.a)) (h3 : ∀ x ∈ l, m ≤ x.a) : (pktBad l m k).1 = 0 := by
  induction l generalizing m k with
  | nil => rfl
  | cons x r ih =>
    obtain ⟨p1, p2⟩ := List.pairwise_cons.1 h2
    unfold pktBad
    have := h3 x List.mem_cons_self
    rw [if_pos (h1 x List.mem_cons_self), if_neg (by omega)]
    exact ih (fun y hy => h1 y (List.mem_cons_of_mem _ hy)) p2 p1
theorem pktErr_of {l : List Pk} (h0 : l.length ≤ 300) (h1 : ∀ x ∈ l, okPk x) (h2 : l.Pairwise (fun x y => x.a ≤ y.a)) : (pktErr l).1 = 0 := by
  unfold pktErr
  rw [if_neg (by omega)]
  exact pktBad_of h1 h2 fun x hx => (h1 x hx).2.2.2.2.1
theorem pktErr_len {p : List Pk} (h : (pktErr p).1 = 0) : p.length ≤ 300 := by
  unfold pktErr at h
  by_cases h4 : 300 < p.length
  · rw [if_pos h4] at h; simp at h
  · omega
theorem pktErr_sub {p q : List Pk} (h : (pktErr p).1 = 0) (hs : q.Sublist p) : (pktErr q).1 = 0 :=
  pktErr_of (Nat.le_trans hs.length_le (pktErr_len h)) (fun x hx => pktErr_okPk h x (hs.subset hx)) ((pktErr_sorted' h).sublist hs)
theorem sub_snoc {p q : List Pk} {k : Nat} (h : q.Sublist (p.take k)) (hk : k < p.length) : (q ++ [p[k]]).Sublist (p.take (k + 1)) := by
  rw [List.take_succ_eq_append_getElem hk]
  exact h.append (List.Sublist.refl _)
theorem sub_step {p q : List Pk} {k : Nat} (h : q.Sublist (p.take k)) : q.Sublist (p.take (k + 1)) := h.trans (List.take_sublist_take_left (Nat.le_succ k))
theorem infoPkA : (Tryd.prog.info? 59).map (fun i => (i.zero, i.size, i.bytes)) = some (some (.agg #[.int .i64 0, .int .i64 0, .int .i64 0]), 3, 24) := by kernel_rfl
theorem own_only {g : Nat} {w w' : World} (h : OnlyG g w w') {base : Nat} {e : TypeId} {size n : Nat} {v : Value} {xs : List Value} (hr : w.ownsRow base e size v n xs) (hg : g < base) : w'.ownsRow base e size v n xs := by
  obtain ⟨h1, h2⟩ := hr
  refine ⟨h1, ?_⟩
  rcases h2 with h2 | ⟨g', cap, cur, hv, hg', hh, r⟩
  · exact .inl h2
  · exact .inr ⟨g', cap, cur, hv, hg', (h.blk g' (by omega)).trans hh, r⟩
theorem own_below {w w' : World} {B base : Nat} {e : TypeId} {size n : Nat} {v : Value} {xs : List Value} (hr : w.ownsRow base e size v n xs) (hb : Below B w w') (hB : w.heap.size ≤ B) : w'.ownsRow base e size v n xs := by
  obtain ⟨h1, h2⟩ := hr
  refine ⟨h1, ?_⟩
  rcases h2 with h2 | ⟨g', cap, cur, hv, hg', hh, r⟩
  · exact .inl h2
  · refine .inr ⟨g', cap, cur, hv, hg', (hb.block g' ?_).trans hh, r⟩
    have := lt_of_block hh
    omega
/-- What holds ahead of each packet. -/
structure PassR (line : Ln) (p : List Pk) (k : Nat) (s : Bu) (m : Int) (q : List Pk) : Prop where
  j : TakeJ line p k s m
  pj : PassJ line q s
  ft : fitsL [line] q = true
  sub : q.Sublist (p.take k)
theorem passR_step {line : Ln} {p : List Pk} {k : Nat} {s : Bu} {m : Int} {q : List Pk} (hp : ∀ x ∈ p, okPk x) (hs : p.Pairwise (fun x y => x.a ≤ y.a)) (h : PassR line p k s m q) (hk : k < p.length) :
    lookB s p[k].a p[k].s = 0 ∧ fitsL [line] (q ++ [p[k]]) = takeB s p[k].a p[k].s ∧ (takeB s p[k].a p[k].s = true → PassR line p (k + 1) (tookB s p[k].a p[k].s) p[k].a (q ++ [p[k]])) ∧ (takeB s p[k].a p[k].s = false → PassR line p (k + 1) (tookB s p[k].a p[k].s) p[k].a q) := by
  obtain ⟨e1, e2⟩ := takeJ_step hp hs h.j hk
  have ha : s.at_ ≤ p[k].a := by
    have := h.j.ok.a2
    have := h.j.last
    have := h.j.le k (Nat.le_refl _) hk
    omega
  have e3 := pass_tells h.j.ok h.pj h.ft ha e1
  have e4 := pass_step h.j.ok h.pj ha e1
  refine ⟨e1, e3, fun ht => ?_, fun ht => ?_⟩
  · rw [ht, if_pos rfl] at e4
    exact ⟨e2, e4, by rw [e3]; exact ht, sub_snoc h.sub hk⟩
  · rw [ht] at e4
    exact ⟨e2, e4, h.ft, sub_step h.sub⟩
def fitB (n most : Nat) : Bool := decide (n ≤ most ∨ n = 301)
theorem fit1_any (A : Option Addr) (c : Nat) (n most : Nat) (w : World) (hn : n ≤ 9223372036854775807) :
    Calls Tryd.prog 34 #[.slice A n c, .int .i64 most] w fun e w' => e = .returned (.bool (fitB n most)) ∧ w = w' := by
  by_cases h : n ≤ most
  · go_enter Tryd.func34, Tryd.ntmps34
    go_wp2
    go_ret
    exact ⟨ret_bool (by symm; exact decide_eq_true (.inl h)), rfl⟩
  · have h1 : most < n := by omega
    by_cases h2 : n = 301
    · subst h2
      go_enter Tryd.func34, Tryd.ntmps34
      go_wp2
      go_ret
      exact ⟨ret_bool (by symm; exact decide_eq_true (.inr rfl)), rfl⟩
    · have h3 : ((n : Int) == 301) = false := by rw [beq_eq_false_iff_ne]; omega
      have Hf := Lib.hid (show fitB n most = false from decide_eq_false (by omega))
      clear h2 h
      go_enter Tryd.func34, Tryd.ntmps34
      go_wp2
      go_ret
      exact ⟨ret_bool (by rw [Hf.out]; first | rfl | (simp; omega)), rfl⟩
theorem below_size0 {w w1 : World} (h : Below w.drew.heap.size w.drew w1) : Below w.heap.size w w1 := ((Below.refl _ _).drew).trans h
theorem below_size1 {w w1 : World} {o : Obj} (h : Below (w.alloc o).drew.heap.size (w.alloc o).drew w1) : Below (w.heap.size + 1) (w.alloc o) w1 := by
  have e1 : (w.alloc o).drew.heap.size = w.heap.size + 1 := by simp [World.drew]
  rw [e1] at h
  exact ((Below.refl _ _).drew).trans h
theorem below_size2 {w w1 : World} {o o2 : Obj} (h : Below ((w.alloc o).alloc o2).drew.heap.size ((w.alloc o).alloc o2).drew w1) : Below (w.heap.size + 2) ((w.alloc o).alloc o2) w1 := by
  have e1 : ((w.alloc o).alloc o2).drew.heap.size = w.heap.size + 2 := by simp [World.drew]
  rw [e1] at h
  exact ((Below.refl _ _).drew).trans h
theorem bel0 {w w1 : World} (h : Below w.drew.heap.size w.drew w1) : Below w.heap.size w w1 := below_size0 h
theorem bel1 {w w1 : World} {o : Obj} (h : Below (w.alloc o).drew.heap.size (w.alloc o).drew w1) : Below w.heap.size w w1 := ((Below.refl _ _).alloc (Nat.le_refl _) o).trans ((below_size1 h).mono (Nat.le_succ _))
theorem bel2 {w w1 : World} {o o2 : Obj} (h : Below ((w.alloc o).alloc o2).drew.heap.size ((w.alloc o).alloc o2).drew w1) : Below w.heap.size w w1 := (((Below.refl _ _).alloc (Nat.le_refl _) o).alloc (le_alloc (Nat.le_refl _) o) o2).trans ((below_size2 h).mono (by omega))
theorem RdP.new2_ {w : World} {o : Obj} {T : TypeId} (x : Pk) : RdP ((w.alloc o).alloc (.cells #[.int .i64 x.f, .int .i64 x.s, .int .i64 x.a] T)) (w.heap.size + 2) (some ⟨w.heap.size + 1, 0, none⟩) [x] :=
  Rd.of_block (heap_alloc_new2 _ _ _) rfl (by omega) (by omega) Pk.cs_len
theorem RdL.new2_ {w : World} {o : Obj} {T : TypeId} (x : Ln) : RdL ((w.alloc o).alloc (.cells #[.int .i64 x.b, .int .i64 x.r] T)) (w.heap.size + 2) (some ⟨w.heap.size + 1, 0, none⟩) [x] :=
  Rd.of_block (heap_alloc_new2 _ _ _) rfl (by omega) (by omega) Ln.cs_len
theorem OnlyG.bel_size {g : Nat} {w w' : World} (h : OnlyG g w w') : w.heap.size ≤ w'.heap.size := h.bel.size
theorem bel_a {w : World} (o : Obj) : Below w.heap.size w (w.alloc o) := (Below.refl _ _).alloc (Nat.le_refl _) o
theorem bel_a1 {w : World} (o o2 : Obj) : Below (w.heap.size + 1) (w.alloc o) ((w.alloc o).alloc o2) := (Below.refl _ _).alloc (by simp) o2
theorem own_lt' {w : World} {base : Nat} {e : TypeId} {size : Nat} {v : Value} {n : Nat} {xs : List Value} (h : w.ownsRow base e size v n xs) : ∀ g, v.ownBlock = some g → g < w.heap.size := by
  intro g hg
  rcases h.2 with ⟨rfl, _⟩ | ⟨g', cap, cur, rfl, _, hh, _⟩
  · simp [Value.ownBlock] at hg
  · have : g' = g := by simpa [Value.ownBlock] using hg
    subst this
    exact lt_of_block hh
theorem below_le1 {w w1 : World} {o : Obj} (h : Below (w.alloc o).drew.heap.size (w.alloc o).drew w1) : w.heap.size + 1 ≤ w1.heap.size := by
  have := (below_size1 h).size
  simpa using this
theorem rdl_of {w : World} {n : Nat} {T : TypeId} {b r : Int} (h : Blk w n T #[.int .i64 b, .int .i64 r]) : RdL w w.heap.size (some ⟨n, 0, none⟩) [⟨b, r⟩] := Rd.of_block h rfl h.lt (by omega) Ln.cs_len
theorem rdl_after {w9 cur w10 : World} {base n m size : Nat} {e T : TypeId} {v : Value} {xs : List Value} {b r : Int} (o9 : w9.ownsRow base e size v m xs) (h : Blk cur n T #[.int .i64 b, .int .i64 r]) (g : cur.grownBy w10 v.ownBlock) (hn : w9.heap.size ≤ n) : RdL w10 w10.heap.size (some ⟨n, 0, none⟩) [⟨b, r⟩] :=
  rdl_of (h.grown g fun e => Nat.lt_irrefl _ (Nat.lt_of_lt_of_le (own_lt' o9 n e.symm) hn))
theorem rdl_before {w9 cur w10 : World} {base n m size : Nat} {e T : TypeId} {v : Value} {xs : List Value} {b r : Int} (o9 : w9.ownsRow base e size v m xs) (h : Blk cur n T #[.int .i64 b, .int .i64 r]) (g : cur.grownBy w10 v.ownBlock) (hn : n < base) : RdL w10 w10.heap.size (some ⟨n, 0, none⟩) [⟨b, r⟩] :=
  rdl_of (h.grown g fun e => Nat.lt_irrefl _ (Nat.lt_of_lt_of_le hn (own_ge o9 n e.symm)))
theorem lt_size1 (w : World) (o : Obj) : w.heap.size < (w.alloc o).drew.heap.size := by simp [World.drew]
theorem lt_size2 (w : World) (o o2 : Obj) : w.heap.size < ((w.alloc o).alloc o2).drew.heap.size := by simp [World.drew]; omega
theorem lt_size2' (w : World) (o o2 : Obj) : w.heap.size + 1 < ((w.alloc o).alloc o2).drew.heap.size := by simp [World.drew]
set_option maxHeartbeats 8000000 in
theorem pass_main (line : Ln) (A : Option Addr) (c : Nat) (p : List Pk) (S : Nat → Addr) (w : World) (h : RdP w w.heap.size A p) (hS : Snt w w.heap.size S [2, 3, 4, 5]) (hline : lineErr line = 0) (hfit : fitB p.length 60 = true) (hok : (pktErr p).1 = 0) :
    Calls Tryd.prog 7 #[.agg #[.int .i64 line.b, .int .i64 line.r], .slice A p.length c] w fun e w' => e = .returned (.bool true) ∧ Below w.heap.size w w' := by
  have hlo := lineErr_ok hline
  have hpk := pktErr_okPk hok
  have hs := pktErr_sorted' hok
  have h300 := pktErr_len hok
  obtain ⟨lb, lr⟩ := line
  obtain ⟨q1, q2, q3, q4⟩ := hlo
  simp only at q1 q2 q3 q4
  have Hline := Lib.hid hline
  have Hlo := Lib.hid (show okLn ⟨lb, lr⟩ from ⟨q1, q2, q3, q4⟩)
  have Hcrv := Lib.hid (show (crvErr [(⟨lb, lr⟩ : Ln)]).1 = 0 by rw [crvErr_of (by simp) (by simp) (fun y hy => by rw [List.mem_singleton.1 hy]; exact ⟨q1, q2, q3, q4⟩)])
  have Hok := Lib.hid hok
  have Hfit := Lib.hid hfit
  clear hline hok hfit
  obtain ⟨i0, hi0, hz0, hz1, hz2⟩ := info_parts infoPkA
  have ba : Below w.heap.size w (w.alloc (.cells #[.int .i64 lb, .int .i64 lr] 24)) := (Below.refl _ _).alloc (Nat.le_refl _) _
  obtain ⟨w0, hw0⟩ : ∃ w0, w0 = w.alloc (.cells #[.int .i64 lb, .int .i64 lr] 24) := ⟨_, rfl⟩
  have b0 : Blk w0 w.heap.size 24 #[.int .i64 lb, .int .i64 lr] := by rw [hw0]; exact Blk.new _ _ _
  have s0 : w0.heap.size = w.heap.size + 1 := by rw [hw0]; simp
  rw [← hw0] at ba
  have x0 : w0.cell? ⟨w.heap.size, 0, none⟩ = some (.int .i64 lb) := b0.cell 0
  have x1 : w0.cell? ⟨w.heap.size, 1, none⟩ = some (.int .i64 lr) := b0.cell 1
  have hl : p.length ≤ 9223372036854775807 := by omega
  have xc : ∀ w', Below w0.heap.size w0 w' → w'.cell? ⟨w.heap.size, 0, none⟩ = some (.int .i64 lb) ∧ w'.cell? ⟨w.heap.size, 1, none⟩ = some (.int .i64 lr) := fun w' hb => ⟨(hb.cell (p := ⟨w.heap.size, 0, none⟩) (by simp only; omega)).trans x0, (hb.cell (p := ⟨w.heap.size, 1, none⟩) (by simp only; omega)).trans x1⟩
  have Xc := Lib.hid xc
  clear xc
  have hS0 := (hS.below ba).more (Nat.le_of_lt (show w.heap.size < w0.heap.size by omega))
  have fl := fld0
  go_enter Tryd.func7, Tryd.ntmps7
  go_wp2_with fail
  rw [← hw0]
  refine (filled_any S w0 hS0).mono ?_
  rintro e w1 ⟨rfl, k1⟩
  obtain ⟨y0, y1⟩ := Xc.out w1 k1
  go_wp2_with fail
  refine (lineErr_any ⟨lb, lr⟩ w1).mono ?_
  rintro e w2 ⟨rfl, k2⟩
  rw [Hline.out]
  have k2' := k1.trans (k2.mono k1.size)
  have k2w := ba.trans (k2'.mono (by omega))
  go_wp2_with fail
  refine (fit1_any A c p.length 60 _ hl).mono ?_
  rintro e wx ⟨rfl, rfl⟩
  rw [Hfit.out]
  go_wp2_with fail
  refine (packetsFault_any A c p w2 _ k2w.size (h.below k2w) hl).mono ?_
  rintro e w3 ⟨rfl, k3⟩
  rw [Hok.out]
  have k3' := k2'.trans (k3.mono k2'.size)
  have k3w := ba.trans (k3'.mono (by omega))
  obtain ⟨z0, z1⟩ := Xc.out w3 k3'
  unfold fv
  go_wp2_with fail
  refine (new_ok ⟨lb, lr⟩ S w3 _ k3'.size ((hS0.below k3').sub (by simp)) Hlo.out).mono ?_
  rintro e w4 ⟨g, rfl, b4, hg, k4⟩
  have k4' := k3'.trans (k4.mono k3'.size)
  have z3 := k3'.size
  have z4 := b4.lt
  go_wp2_with fail
  have Hp := Lib.hid hpk
  have Hs := Lib.hid hs
  clear hpk hs
  go_loopw [8, 9] (fun pv iv wr => ∃ (k : Nat) (s : Bu) (m : Int) (q : List Pk) (A5 : Option Addr) (c5 : Nat), k ≤ p.length ∧ iv = .int .i64 k ∧ pv = .slice A5 q.length c5 ∧ PassR ⟨lb, lr⟩ p k s m q ∧ Blk wr g 106 s.cells ∧ wr.ownsRow w4.heap.size 59 3 (.slice A5 q.length c5) q.length (q.flatMap Pk.cs) ∧ Below w3.heap.size w3 wr ∧ w4.heap.size ≤ wr.heap.size) (fun _ iv _ => p.length - (intOf iv).toNat)
  case atStart => exact ⟨0, newB ⟨lb, lr⟩, 0, [], none, 0, Nat.zero_le _, rfl, rfl, ⟨⟨newB_ok Hlo.out, rfl, rfl, rfl, fun j _ hj => (Hp.out _ (List.getElem_mem hj)).2.2.2.2.1, Int.le_refl _, by decide⟩, pass_new _, rfl, List.Sublist.refl _⟩, b4, ⟨by simp, .inl ⟨rfl, rfl⟩⟩, k4, Nat.le_refl _⟩
  case round =>
    obtain ⟨k, s, m, q, A5, c5, hk, rfl, rfl, hj, hb, row, hbw, hw4⟩ := hrel
    have kb := k3w.trans (hbw.mono k3w.size)
    have kb0 := k3'.trans (hbw.mono z3)
    have zb := hbw.size
    have zb0 := kb0.size
    have hqk : q.length ≤ k := by have := hj.sub.length_le; rw [List.length_take] at this; omega
    have Hj := Lib.hid hj
    have Hb := Lib.hid hb
    have Row := Lib.hid row
    clear hj hb b4 row
    by_cases hlt : k < p.length
    · obtain ⟨bp, o, rfl, hbp, d0, d1, d2⟩ := RdP.get (h.below kb) hlt
      obtain ⟨hlk, hfts, hyes, hno⟩ := passR_step Hp.out Hs.out Hj.out hlt
      have hpe := pktErr_sub Hok.out (show (q ++ [p[k]]).Sublist p from (sub_snoc Hj.out.sub hlt).trans (List.take_sublist _ _))
      obtain ⟨x, hx⟩ : ∃ x, x = p[k] := ⟨_, rfl⟩
      rw [← hx] at d0 d1 d2 hlk hfts hyes hno hpe
      obtain ⟨tk, htk⟩ : ∃ tk, tk = takeB s x.a x.s := ⟨_, rfl⟩
      rw [← htk] at hfts hyes hno
      obtain ⟨q', hq'⟩ : ∃ q', q' = q ++ [x] := ⟨_, rfl⟩
      rw [← hq'] at hfts hyes hpe
      have Hx := Lib.hid hx
      have Htk := Lib.hid htk
      have Hq := Lib.hid hq'
      have Hlk := Lib.hid hlk
      have Hfts := Lib.hid hfts
      have Hyes := Lib.hid hyes
      have Hno := Lib.hid hno
      have Hpe := Lib.hid hpe
      have hql : q'.length = q.length + 1 := by rw [hq']; simp
      have Hql := Lib.hid hql
      have r1 : (k : Int) < (p.length : Int) := by omega
      have r2 : (0 : Int) ≤ (k : Int) := by omega
      have hgp : bp ≠ g := by omega
      have hgw : w.heap.size ≠ g := by omega
      have Sd := Lib.hid (show Snt wr.drew w0.heap.size S [2, 5] from (hS0.below kb0.drew).sub (by simp))
      clear hlk hfts hyes hno hpe hx htk hq' hql
      go_wp2_with fail
      go_region_held3 (fun w' => w'.cell? ⟨bp, o + k * 3 + 1, none⟩ = some (.int .i64 x.s) ∧ w'.cell? ⟨bp, o + k * 3 + 2, none⟩ = some (.int .i64 x.a))
        (first
          | go_keep
          | exact ⟨(World.cell?_of_block (a := ⟨bp, o + k * 3 + 1, none⟩) (on5.blk bp hgp)).trans d1, (World.cell?_of_block (a := ⟨bp, o + k * 3 + 2, none⟩) (on5.blk bp hgp)).trans d2⟩)
        (first
         | (go_at_call 31; refine (take_any g s x.a x.s S wr.drew w0.heap.size (Nat.le_trans z3 hg) Sd.out Hb.out Hj.out.j.ok).mono ?_; rintro e w5 ⟨v5, rfl, e5, b5, on5⟩; obtain rfl := e5.nil_of Hlk.out))
      rw [← Htk.out]
      have kb5 := kb0.drew.trans (on5.bel.mono (Nat.le_trans z3 hg))
      have z05 := kb5.size
      obtain ⟨l0, l1⟩ := Xc.out w5 kb5
      have row5 := own_only on5 (show wr.drew.ownsRow w4.heap.size 59 3 (.slice A5 q.length c5) q.length (q.flatMap Pk.cs) from Row.out) z4
      have p0 : w5.cell? ⟨bp, o + k * 3, none⟩ = some (.int .i64 x.f) := (World.cell?_of_block (a := ⟨bp, o + k * 3, none⟩) (on5.blk bp hgp)).trans d0
      have p1 : w5.cell? ⟨bp, o + k * 3 + 1, none⟩ = some (.int .i64 x.s) := (World.cell?_of_block (a := ⟨bp, o + k * 3 + 1, none⟩) (on5.blk bp hgp)).trans d1
      have p2 : w5.cell? ⟨bp, o + k * 3 + 2, none⟩ = some (.int .i64 x.a) := (World.cell?_of_block (a := ⟨bp, o + k * 3 + 2, none⟩) (on5.blk bp hgp)).trans d2
      have zbp : bp < w5.heap.size := by omega
      have Rq := RdP.of_own row5
      have Hq5 := Lib.hid (show ∀ w', Below w5.heap.size w5 w' → RdP w' w5.heap.size A5 q from fun w' hb => Rq.below hb)
      have Hs5 := Lib.hid (show ∀ w', Below w5.heap.size w5 w' → Snt w' w'.heap.size S [2, 3, 5] from fun w' hb => ((hS0.below (kb5.trans (hb.mono z05))).more (Nat.le_trans z05 hb.size)).sub (by simp))
      have Hkeep := Lib.hid (show ∀ w', Below w5.heap.size w5 w' → w'.cell? ⟨w.heap.size, 0, none⟩ = some (.int .i64 lb) ∧ w'.cell? ⟨w.heap.size, 1, none⟩ = some (.int .i64 lr) ∧ w'.cell? ⟨bp, o + k * 3, none⟩ = some (.int .i64 x.f) ∧ w'.cell? ⟨bp, o + k * 3 + 1, none⟩ = some (.int .i64 x.s) ∧ w'.cell? ⟨bp, o + k * 3 + 2, none⟩ = some (.int .i64 x.a) from
        fun w' hb => ⟨(hb.cell (p := ⟨w.heap.size, 0, none⟩) (by simp only; omega)).trans l0, (hb.cell (p := ⟨w.heap.size, 1, none⟩) (by simp only; omega)).trans l1, (hb.cell (p := ⟨bp, o + k * 3, none⟩) zbp).trans p0, (hb.cell (p := ⟨bp, o + k * 3 + 1, none⟩) zbp).trans p1, (hb.cell (p := ⟨bp, o + k * 3 + 2, none⟩) zbp).trans p2⟩)
      have Row5 := Lib.hid row5
      have B5 := Lib.hid b5
      have q4 : q.length ≤ 4294967296 := by omega
      have q5 : q.length + 1 ≤ maxLen := by simp only [maxLen]; omega
      have q6 : (q.length + 1) * 24 ≤ 140737488355328 := by omega
      have q7 : q'.length ≤ 9223372036854775807 := by rw [Hql.out]; omega
      have one_le : [(⟨lb, lr⟩ : Ln)].length ≤ 9223372036854775807 := by simp
      have three_pos : 0 < 3 := by omega
      clear row5 b5 Rq e5
      go_wp2_with fail
      go_region_held3 (fun w' => w'.cell? ⟨w.heap.size, 0, none⟩ = some (.int .i64 lb) ∧ w'.cell? ⟨w.heap.size, 1, none⟩ = some (.int .i64 lr) ∧ w'.cell? ⟨bp, o + k * 3, none⟩ = some (.int .i64 x.f) ∧ w'.cell? ⟨bp, o + k * 3 + 1, none⟩ = some (.int .i64 x.s) ∧ w'.cell? ⟨bp, o + k * 3 + 2, none⟩ = some (.int .i64 x.a))
        (first
          | go_keep
          | exact Hkeep.out _ K9
          | exact Hkeep.out _ K10
          | exact Hkeep.out _ K11)
        (first
         | (go_at_call 36; (with_reducible show Calls _ _ _ w5.drew _); refine (ownPackets_any A5 c5 q _ w5.heap.size (Hq5.out _ ((Below.refl _ _).drew)) q4).mono ?_; rintro e w9 ⟨A9, c9, rfl, o9, k9⟩; have K9 := bel0 k9)
         | (go_at_call 36; (with_reducible show Calls _ _ _ (w5.alloc _).drew _); refine (ownPackets_any A5 c5 q _ w5.heap.size (Hq5.out _ ((bel_a _).drew)) q4).mono ?_; rintro e w9 ⟨A9, c9, rfl, o9, k9⟩; have K9 := bel1 k9)
         | (go_at_call 36; (with_reducible show Calls _ _ _ ((w5.alloc _).alloc _).drew _); refine (ownPackets_any A5 c5 q _ w5.heap.size (Hq5.out _ (((bel_a _).trans ((bel_a1 _ _).mono (Nat.le_succ _))).drew)) q4).mono ?_; rintro e w9 ⟨A9, c9, rfl, o9, k9⟩; have K9 := bel2 k9)
         | ((with_reducible show (if _ then Oper.wp _ _ _ (w9.alloc (.cells #[.int .i64 x.f, .int .i64 x.s, .int .i64 x.a] 59)) _ _ else _)); have _t := bel0 k9; refine step_append_rd (w9.alloc (.cells #[.int .i64 x.f, .int .i64 x.s, .int .i64 x.a] 59)) Pk.cs (by rfl) (.tmp 71) (.tmp 76) 51 (by rfl) _ 59 i0 (.agg #[.int .i64 0, .int .i64 0, .int .i64 0]) 3 24 Tryd.underlying51 hi0 hz0 hz1 hz2 (by rfl) three_pos Pk.cs_len Pk.cs_one (.slice A9 q.length c9) q.length (q.flatMap Pk.cs) (by rfl) (o9.alloc _) _ (some ⟨w9.heap.size, 0, none⟩) 1 [x] (by rfl) (RdP.new_ x) q5 q6 (le_alloc k9.size _) ?_; intro v10 w10 o10 g10 h10; have K10 : Below w5.heap.size w5 w10 := below_app (K9.alloc K9.size _) (o9.alloc _) g10 (Nat.le_refl _) (le_alloc K9.size _); obtain ⟨A10, c10, hv10, o10⟩ := own_app o10 three_pos; rw [← Hq.out] at hv10 o10; rw [hv10]; clear hv10)
         | ((with_reducible show (if _ then Oper.wp _ _ _ w9 _ _ else _)); have _t : Below (w5.heap.size + 1) (w5.alloc (.cells #[.int .i64 x.f, .int .i64 x.s, .int .i64 x.a] 59)) w9 := below_size1 k9; refine step_append_rd w9 Pk.cs (by rfl) (.tmp 71) (.tmp 76) 51 (by rfl) _ 59 i0 (.agg #[.int .i64 0, .int .i64 0, .int .i64 0]) 3 24 Tryd.underlying51 hi0 hz0 hz1 hz2 (by rfl) three_pos Pk.cs_len Pk.cs_one (.slice A9 q.length c9) q.length (q.flatMap Pk.cs) (by rfl) o9 _ (some ⟨w5.heap.size, 0, none⟩) 1 [x] (by rfl) ((RdP.new_ x).below _t) q5 q6 k9.size ?_; intro v10 w10 o10 g10 h10; have K10 : Below w5.heap.size w5 w10 := below_app K9 o9 g10 (Nat.le_of_lt (lt_size1 _ _)) K9.size; obtain ⟨A10, c10, hv10, o10⟩ := own_app o10 three_pos; rw [← Hq.out] at hv10 o10; rw [hv10]; clear hv10)
         | ((with_reducible show (if _ then Oper.wp _ _ _ ((w9.alloc (.cells #[.int .i64 x.f, .int .i64 x.s, .int .i64 x.a] 59)).alloc (.cells #[.int .i64 lb, .int .i64 lr] 24)) _ _ else _)); have _t := bel0 k9; refine step_append_rd ((w9.alloc (.cells #[.int .i64 x.f, .int .i64 x.s, .int .i64 x.a] 59)).alloc (.cells #[.int .i64 lb, .int .i64 lr] 24)) Pk.cs (by rfl) (.tmp 71) (.tmp 76) 51 (by rfl) _ 59 i0 (.agg #[.int .i64 0, .int .i64 0, .int .i64 0]) 3 24 Tryd.underlying51 hi0 hz0 hz1 hz2 (by rfl) three_pos Pk.cs_len Pk.cs_one (.slice A9 q.length c9) q.length (q.flatMap Pk.cs) (by rfl) ((o9.alloc _).alloc _) _ (some ⟨w9.heap.size, 0, none⟩) 1 [x] (by rfl) ((RdP.new_ x).below (bel_a1 _ _)) q5 q6 (le_alloc (le_alloc k9.size _) _) ?_; intro v10 w10 o10 g10 h10; have K10 : Below w5.heap.size w5 w10 := below_app ((K9.alloc K9.size _).alloc (le_alloc K9.size _) _) ((o9.alloc _).alloc _) g10 (Nat.le_refl _) (le_alloc (le_alloc K9.size _) _); have HL := rdl_after o9 (n := w9.heap.size + 1) (heap_alloc_new2 _ _ _) g10 (Nat.le_succ _); obtain ⟨A10, c10, hv10, o10⟩ := own_app o10 three_pos; rw [← Hq.out] at hv10 o10; rw [hv10]; clear hv10)
         | ((with_reducible show (if _ then Oper.wp _ _ _ ((w9.alloc (.cells #[.int .i64 lb, .int .i64 lr] 24)).alloc (.cells #[.int .i64 x.f, .int .i64 x.s, .int .i64 x.a] 59)) _ _ else _)); have _t := bel0 k9; refine step_append_rd ((w9.alloc (.cells #[.int .i64 lb, .int .i64 lr] 24)).alloc (.cells #[.int .i64 x.f, .int .i64 x.s, .int .i64 x.a] 59)) Pk.cs (by rfl) (.tmp 71) (.tmp 76) 51 (by rfl) _ 59 i0 (.agg #[.int .i64 0, .int .i64 0, .int .i64 0]) 3 24 Tryd.underlying51 hi0 hz0 hz1 hz2 (by rfl) three_pos Pk.cs_len Pk.cs_one (.slice A9 q.length c9) q.length (q.flatMap Pk.cs) (by rfl) ((o9.alloc _).alloc _) _ (some ⟨w9.heap.size + 1, 0, none⟩) 1 [x] (by rfl) (RdP.new2_ x) q5 q6 (le_alloc (le_alloc k9.size _) _) ?_; intro v10 w10 o10 g10 h10; have K10 : Below w5.heap.size w5 w10 := below_app ((K9.alloc K9.size _).alloc (le_alloc K9.size _) _) ((o9.alloc _).alloc _) g10 (Nat.le_refl _) (le_alloc (le_alloc K9.size _) _); have HL := rdl_after o9 (n := w9.heap.size) ((Blk.new _ _ _).alloc _) g10 (Nat.le_refl _); obtain ⟨A10, c10, hv10, o10⟩ := own_app o10 three_pos; rw [← Hq.out] at hv10 o10; rw [hv10]; clear hv10)
         | ((with_reducible show (if _ then Oper.wp _ _ _ (w9.alloc (.cells #[.int .i64 lb, .int .i64 lr] 24)) _ _ else _)); have _t : Below (w5.heap.size + 1) (w5.alloc (.cells #[.int .i64 x.f, .int .i64 x.s, .int .i64 x.a] 59)) w9 := below_size1 k9; refine step_append_rd (w9.alloc (.cells #[.int .i64 lb, .int .i64 lr] 24)) Pk.cs (by rfl) (.tmp 71) (.tmp 76) 51 (by rfl) _ 59 i0 (.agg #[.int .i64 0, .int .i64 0, .int .i64 0]) 3 24 Tryd.underlying51 hi0 hz0 hz1 hz2 (by rfl) three_pos Pk.cs_len Pk.cs_one (.slice A9 q.length c9) q.length (q.flatMap Pk.cs) (by rfl) (o9.alloc _) _ (some ⟨w5.heap.size, 0, none⟩) 1 [x] (by rfl) ((RdP.new_ x).below (_t.alloc (below_le1 k9) _)) q5 q6 (le_alloc k9.size _) ?_; intro v10 w10 o10 g10 h10; have K10 : Below w5.heap.size w5 w10 := below_app (K9.alloc K9.size _) (o9.alloc _) g10 (Nat.le_of_lt (lt_size1 _ _)) (le_alloc K9.size _); have HL := rdl_after o9 (n := w9.heap.size) (Blk.new _ _ _) g10 (Nat.le_refl _); obtain ⟨A10, c10, hv10, o10⟩ := own_app o10 three_pos; rw [← Hq.out] at hv10 o10; rw [hv10]; clear hv10)
         | ((with_reducible show (if _ then Oper.wp _ _ _ (w9.alloc (.cells #[.int .i64 x.f, .int .i64 x.s, .int .i64 x.a] 59)) _ _ else _)); have _t : Below (w5.heap.size + 1) (w5.alloc (.cells #[.int .i64 lb, .int .i64 lr] 24)) w9 := below_size1 k9; refine step_append_rd (w9.alloc (.cells #[.int .i64 x.f, .int .i64 x.s, .int .i64 x.a] 59)) Pk.cs (by rfl) (.tmp 71) (.tmp 76) 51 (by rfl) _ 59 i0 (.agg #[.int .i64 0, .int .i64 0, .int .i64 0]) 3 24 Tryd.underlying51 hi0 hz0 hz1 hz2 (by rfl) three_pos Pk.cs_len Pk.cs_one (.slice A9 q.length c9) q.length (q.flatMap Pk.cs) (by rfl) (o9.alloc _) _ (some ⟨w9.heap.size, 0, none⟩) 1 [x] (by rfl) (RdP.new_ x) q5 q6 (le_alloc k9.size _) ?_; intro v10 w10 o10 g10 h10; have K10 : Below w5.heap.size w5 w10 := below_app (K9.alloc K9.size _) (o9.alloc _) g10 (Nat.le_of_lt (lt_size1 _ _)) (le_alloc K9.size _); have HL := rdl_before o9 (n := w5.heap.size) (((Blk.new _ _ _).below _t (Nat.lt_succ_self _)).alloc _) g10 (lt_size1 _ _); obtain ⟨A10, c10, hv10, o10⟩ := own_app o10 three_pos; rw [← Hq.out] at hv10 o10; rw [hv10]; clear hv10)
         | ((with_reducible show (if _ then Oper.wp _ _ _ w9 _ _ else _)); have _t : Below (w5.heap.size + 2) ((w5.alloc (.cells #[.int .i64 x.f, .int .i64 x.s, .int .i64 x.a] 59)).alloc (.cells #[.int .i64 lb, .int .i64 lr] 24)) w9 := below_size2 k9; refine step_append_rd w9 Pk.cs (by rfl) (.tmp 71) (.tmp 76) 51 (by rfl) _ 59 i0 (.agg #[.int .i64 0, .int .i64 0, .int .i64 0]) 3 24 Tryd.underlying51 hi0 hz0 hz1 hz2 (by rfl) three_pos Pk.cs_len Pk.cs_one (.slice A9 q.length c9) q.length (q.flatMap Pk.cs) (by rfl) o9 _ (some ⟨w5.heap.size, 0, none⟩) 1 [x] (by rfl) (((RdP.new_ x).below (bel_a1 _ _)).below (_t.mono (Nat.le_succ _))) q5 q6 k9.size ?_; intro v10 w10 o10 g10 h10; have K10 : Below w5.heap.size w5 w10 := below_app K9 o9 g10 (Nat.le_of_lt (lt_size2 _ _ _)) K9.size; have HL := rdl_before o9 (n := w5.heap.size + 1) (Blk.below (heap_alloc_new2 _ _ _) _t (Nat.lt_succ_self _)) g10 (lt_size2' _ _ _); obtain ⟨A10, c10, hv10, o10⟩ := own_app o10 three_pos; rw [← Hq.out] at hv10 o10; rw [hv10]; clear hv10)
         | ((with_reducible show (if _ then Oper.wp _ _ _ w9 _ _ else _)); have _t : Below (w5.heap.size + 2) ((w5.alloc (.cells #[.int .i64 lb, .int .i64 lr] 24)).alloc (.cells #[.int .i64 x.f, .int .i64 x.s, .int .i64 x.a] 59)) w9 := below_size2 k9; refine step_append_rd w9 Pk.cs (by rfl) (.tmp 71) (.tmp 76) 51 (by rfl) _ 59 i0 (.agg #[.int .i64 0, .int .i64 0, .int .i64 0]) 3 24 Tryd.underlying51 hi0 hz0 hz1 hz2 (by rfl) three_pos Pk.cs_len Pk.cs_one (.slice A9 q.length c9) q.length (q.flatMap Pk.cs) (by rfl) o9 _ (some ⟨w5.heap.size + 1, 0, none⟩) 1 [x] (by rfl) ((RdP.new2_ x).below _t) q5 q6 k9.size ?_; intro v10 w10 o10 g10 h10; have K10 : Below w5.heap.size w5 w10 := below_app K9 o9 g10 (Nat.le_of_lt (lt_size2 _ _ _)) K9.size; have HL := rdl_before o9 (n := w5.heap.size) (((Blk.new _ _ _).alloc _).below _t (Nat.lt_succ_of_lt (Nat.lt_succ_self _))) g10 (lt_size2 _ _ _); obtain ⟨A10, c10, hv10, o10⟩ := own_app o10 three_pos; rw [← Hq.out] at hv10 o10; rw [hv10]; clear hv10)
         | (go_at_call 35; (with_reducible show Calls _ _ _ (w10.alloc _) _); refine (fits_ok (some ⟨w10.heap.size, 0, none⟩) A10 1 c10 [⟨lb, lr⟩] q' S (w10.alloc (.cells #[.int .i64 lb, .int .i64 lr] 24)) _ (Nat.le_refl _) (rdl_of (Blk.new _ _ _)) (((RdP.of_own o10).below (bel_a _)).more (le_alloc (Nat.le_refl _) _)) (Hs5.out _ (K10.alloc K10.size _)) one_le q7 Hpe.out Hcrv.out).mono ?_; rintro e w11 ⟨rfl, k11⟩; have K11 : Below w5.heap.size w5 w11 := (K10.alloc K10.size _).trans (k11.mono (le_alloc K10.size _)))
         | (go_at_call 35; (with_reducible show Calls _ _ _ w10 _); refine (fits_ok (some ⟨_, 0, none⟩) A10 1 c10 [⟨lb, lr⟩] q' S w10 _ (Nat.le_refl _) HL (RdP.of_own o10) (Hs5.out _ K10) one_le q7 Hpe.out Hcrv.out).mono ?_; rintro e w11 ⟨rfl, k11⟩; have K11 : Below w5.heap.size w5 w11 := K10.trans (k11.mono K10.size)))
      all_goals
        rw [Hfts.out]
        have kb11 := kb5.trans (K11.mono z05)
        have b11 : Blk w11 g 106 (tookB s x.a x.s).cells := B5.out.below K11 B5.out.lt
        have row11 := own_below Row5.out K11 (Nat.le_refl _)
        have kw11 : Below w3.heap.size w3 w11 := (hbw.drew.trans (on5.bel.mono hg)).trans (K11.mono (Nat.le_trans (Nat.le_trans hg (Nat.le_of_lt z4)) (Nat.le_trans hw4 on5.bel_size)))
        have hw11 : w4.heap.size ≤ w11.heap.size := Nat.le_trans hw4 (Nat.le_trans on5.bel_size K11.size)
        obtain ⟨_, _, e0, e1, e2⟩ := Hkeep.out _ K11
        have B11 := Lib.hid b11
        have Row11 := Lib.hid row11
        clear b11 row11
        cases tk with
        | false =>
          have Hj2 := Lib.hid (Hno.out rfl)
          go_wp2_with fail
          go_roundw
          case rel => exact ⟨k + 1, tookB s x.a x.s, x.a, q, A5, c5, hlt, by go_num, rfl, Hj2.out, B11.out, Row11.out, kw11, hw11⟩
          case measure => simp [intOf]; omega
        | true =>
          have Hj2 := Lib.hid (Hyes.out rfl)
          go_wp2_with (at_builtin; refine wpList_append_rd _ Pk.cs rfl (.tmp 89) (.tmp 94) 51 rfl w4.heap.size 59 i0 (.agg #[.int .i64 0, .int .i64 0, .int .i64 0]) 3 24 Tryd.underlying51 hi0 hz0 hz1 hz2 rfl (by omega) Pk.cs_len Pk.cs_one (.slice A5 q.length c5) q.length (q.flatMap Pk.cs) rfl (Row11.out.alloc _) (w11.heap.size + 1) (some ⟨w11.heap.size, 0, none⟩) 1 [x] rfl (RdP.new_ x) q5 q6 (le_alloc hw11 _) ?_; intro v12 w12 row12 g12 at12; obtain ⟨A12, c12, hv12, row12⟩ := own_app row12 (by omega); rw [← Hq.out] at hv12 row12; rw [hv12]; clear hv12)
          have g12' : Below w3.heap.size w3 w12 := below_app (kw11.alloc (Nat.le_trans k4.size hw11) _) (Row11.out.alloc _) g12 k4.size (le_alloc (Nat.le_trans k4.size hw11) _)
          have b12 : Blk w12 g 106 (tookB s x.a x.s).cells := (B11.out.alloc _).grown g12 (fun e => Nat.lt_irrefl _ (Nat.lt_of_lt_of_le z4 (own_ge Row11.out g e.symm)))
          have hw12 : w4.heap.size ≤ w12.heap.size := Nat.le_trans (le_alloc hw11 _) g12.size
          go_roundw
          case rel => exact ⟨k + 1, tookB s x.a x.s, x.a, q', A12, c12, hlt, by go_num, rfl, Hj2.out, b12, row12, g12', hw12⟩
          case measure => simp [intOf]; omega
    · go_wp2_with fail
      go_ret
      exact ⟨rfl, kb⟩
end Go.Proofs.YteeaipehkhldhaaDoor
