/- floodgateref1's RankOf, DuesOf: they compute what rank's links do. Conditions: packets in bounds and in order; eight numbers in bounds. -/
import Derived.Test.YtkkecnofgmpekaaDoorSameS
import Derived.Test.YtkkecnofgmpekaaDoorDue
import Derived.Deep.RegionLaw
namespace Go.Proofs.YtkkecnofgmpekaaDoor
open Go.RowKit
set_option maxRecDepth 100000
theorem keyOf_map (f : Nat → Int) (n k : Nat) (h : k < n) : keyOf ((List.range n).map f) k = f k := by simp [keyOf, List.getD, h]
/-- Keys that are the same at each packet's number give the same link. -/
theorem bestI_congr {key key' : Nat → Int} (s : List Nat) (h : ∀ k ∈ s, key k = key' k) : bestI key s = bestI key' s := by
  unfold bestI
  cases s with
  | nil => rfl
  | cons x r =>
    show bestGo key 0 (key x) 0 (x :: r) = bestGo key' 0 (key' x) 0 (x :: r)
    rw [bestGo_congr (x :: r) (x :: r) h, h x List.mem_cons_self]
theorem comeL_least (key key' : Nat → Int) (now : Int) (r : List Pk) (k : Nat) (s : List Nat) : comeL (leastM key) now r k s = comeL (leastM key') now r k s := by
  induction r generalizing k s with
  | nil => rfl
  | cons x r ih =>
    unfold comeL
    split
    · exact ih (k + 1) _
    · rfl
theorem step_congr {p : List Pk} {per : Int} {key key' : Nat → Int} (h : ∀ k, k < p.length → key k = key' k) (t : St (List Nat)) (hi : Inv (leastM key) p t) : stepS (leastM key) p per t = stepS (leastM key') p per t := by
  obtain ⟨hc, _⟩ := comeL_inv (leastOk key _) t.now (p.drop t.next) t.next t.s rfl hi.toC
  have e := comeL_least key key' t.now (p.drop t.next) t.next t.s
  unfold stepS
  rw [← e]
  generalize comeL (leastM key) t.now (p.drop t.next) t.next t.s = q at hc
  have hb : bestI key q.2 = bestI key' q.2 := bestI_congr q.2 fun k hk => h k (Nat.lt_of_lt_of_le (hc.wait_lt hk) hc.k_le)
  have hp : (leastM key).pick q.2 = (leastM key').pick q.2 := by
    show (if q.2.length = 0 then none else some (q.2.getD (bestI key q.2) 0, q.2.eraseIdx (bestI key q.2))) = (if q.2.length = 0 then none else some (q.2.getD (bestI key' q.2) 0, q.2.eraseIdx (bestI key' q.2)))
    rw [hb]
  rw [hp]
  rfl
theorem leastL_congr {p : List Pk} {per : Int} {key key' : Nat → Int} (hp : ∀ x ∈ p, okPk x) (h0 : 1 ≤ per) (h1 : per ≤ 1000) (h : ∀ k, k < p.length → key k = key' k) : leastL p per key = leastL p per key' := by
  have main : ∀ (f : Nat) (t : St (List Nat)), Inv (leastM key) p t → runS (leastM key) p per f t = runS (leastM key') p per f t := fun f => by
    induction f with
    | zero => exact fun _ _ => rfl
    | succ f ih =>
      intro t hi
      unfold runS
      by_cases hlt : t.out.length < p.length
      · rw [if_pos hlt, if_pos hlt, ← step_congr h t hi]
        exact ih _ (step_inv (leastOk key _) hp h0 h1 hi hlt).1
      · rw [if_neg hlt, if_neg hlt]
  unfold leastL serveS
  rw [main _ _ (least_start p key)]
def rankKeys (p : List Pk) (ranks : List Int) : List Int := (List.range p.length).map (rankKey p ranks)
def dueKeys (p : List Pk) (dues : List Int) : List Int := (List.range p.length).map (dueKey p dues)
theorem range_flat (f : Nat → Int) (k : Nat) : ((List.range k).map f).flatMap iCs ++ [f k].flatMap iCs = ((List.range (k + 1)).map f).flatMap iCs := by
  rw [List.range_succ, List.map_append, List.flatMap_append]
  rfl
set_option maxHeartbeats 2000000 in
theorem rankOf_any (A A' : Option Addr) (c c' : Nat) (p : List Pk) (per : Int) (ranks : List Int) (w : World) (B : Nat) (hB : B ≤ w.heap.size) (h : RdP w B A p) (h' : RdI w B A' ranks) (hp : ∀ x ∈ p, okPk x) (hs : p.Pairwise (fun x y => x.a ≤ y.a)) (hl : p.length ≤ 300) (h0 : 1 ≤ per) (h1 : per ≤ 1000) (h8 : ranks.length = 8) :
    Calls Tryd.prog 49 #[.slice A p.length c, .int .i64 per, .slice A' ranks.length c'] w (EndOwn Sn.cs 3 34 (leastL p per (rankKey p ranks)) w) := by
  obtain ⟨i0, hi0, hz0, hz1, hz2⟩ := info_parts infoInt
  have H8 := Lib.hid h8
  have He := Lib.hid (leastL_congr (key := keyOf (rankKeys p ranks)) (key' := rankKey p ranks) hp h0 h1 fun k hk => keyOf_map _ _ _ hk)
  clear h8
  go_enter Tryd.func49, Tryd.ntmps49
  go_wp2_with fail
  go_loopw [7, 8] (fun v iv wr => ∃ (k : Nat) (A5 : Option Addr) (c5 : Nat), k ≤ p.length ∧ v = .slice A5 k c5 ∧ iv = .int .i64 k ∧ wr.ownsRow w.heap.size 3 1 (.slice A5 k c5) k (((List.range k).map (rankKey p ranks)).flatMap iCs) ∧ Below w.heap.size w wr) (fun _ iv _ => p.length - (intOf iv).toNat)
  case atStart => exact ⟨0, none, 0, Nat.zero_le _, rfl, rfl, ⟨by simp, .inl ⟨rfl, by simp⟩⟩, Below.refl _ _⟩
  case round =>
    obtain ⟨k, A5, c5, hk, rfl, rfl, row, hbw⟩ := hrel
    have zw := hbw.size
    have Row := Lib.hid row
    clear row
    by_cases hlt : k < p.length
    · obtain ⟨b, o, rfl, hb, d0, d1, d2⟩ := RdP.get (h.below (hbw.mono hB)) hlt
      have hok := hp _ (List.getElem_mem hlt)
      obtain ⟨f, hf⟩ : ∃ f : Nat, p[k].f = f := ⟨p[k].f.toNat, by have := hok.1; omega⟩
      have hfl : f < ranks.length := by rw [H8.out]; have := hok.2.1; omega
      obtain ⟨b', o', rfl, hb', e0⟩ := RdI.get (h'.below (hbw.mono hB)) hfl
      rw [hf] at d0
      obtain ⟨x, hx⟩ : ∃ x, x = ranks[f] := ⟨_, rfl⟩
      have Hx := Lib.hid (show rankKey p ranks k = x by rw [hx]; unfold rankKey; rw [fOf_of hlt, hf, Int.toNat_natCast]; simp [List.getD, hfl])
      rw [← hx] at e0
      have q1 : (0 : Int) ≤ (f : Int) := by omega
      have q2 : (f : Int) < (ranks.length : Int) := by omega
      have q3 : (0 : Int) ≤ (k : Int) := by omega
      have q4 : (k : Int) < (p.length : Int) := by omega
      have hq5 : k + [x].length ≤ maxLen := by simp only [maxLen, List.length_cons, List.length_nil]; omega
      have hq6 : (k + [x].length) * 8 ≤ 140737488355328 := by simp only [List.length_cons, List.length_nil]; omega
      have hq7 : w.heap.size ≤ (wr.alloc (.cells #[.int .i64 x] 3)).heap.size := by simp; omega
      clear hok hf hx
      go_wp2_with (at_builtin; refine wpList_append_rd _ iCs rfl (.tmp 15) (.tmp 24) 35 rfl w.heap.size 3 i0 (.int .i64 0) 1 8 Tryd.underlying35 hi0 hz0 hz1 hz2 rfl (by omega) iCs_len iCs_one (.slice A5 k c5) k (((List.range k).map (rankKey p ranks)).flatMap iCs) rfl (Row.out.alloc _) (wr.heap.size + 1) (some ⟨wr.heap.size, 0, none⟩) 1 [x] rfl (Rd.new_ rfl (by omega) iCs_len) hq5 hq6 hq7 ?_; intro v3 w3 row3 g3 at3; obtain ⟨A6, c6, hv6, row6⟩ := own_slice' (m := k + 1) (ys := ((List.range (k + 1)).map (rankKey p ranks)).flatMap iCs) row3 rfl (by rw [← Hx.out]; exact range_flat _ k); rw [hv6]; clear hv6)
      have k3 : Below w.heap.size w w3 := below_app (hbw.alloc zw _) (Row.out.alloc _) g3 (Nat.le_refl _) hq7
      go_roundw
      case rel => exact ⟨k + 1, A6, c6, hlt, rfl, by go_num, row6, k3⟩
      case measure => simp [intOf]; omega
    · have hk2 : k = p.length := by omega
      subst hk2
      have ek : (rankKeys p ranks).length = p.length := by simp [rankKeys]
      have hr : RdI wr wr.heap.size A5 (rankKeys p ranks) := Rd.of_own (base := w.heap.size) (e := 3) (c := c5) (by rw [ek]; exact Row.out) (by omega) iCs_len
      have HC := leastOf_any A A5 c c5 p per (rankKeys p ranks) wr _ (Nat.le_refl _) ((h.below (hbw.mono hB)).more (Nat.le_trans hB zw)) hr hp hs hl h0 h1 ek
      rw [ek] at HC
      go_wp2_with fail
      refine HC.mono ?_
      rintro e w2 ⟨A2, c2, rfl, row2, k2⟩
      rw [He.out] at row2 ⊢
      go_wp2_with fail
      go_ret
      exact ⟨A2, c2, rfl, own_mono row2 zw, hbw.trans (k2.mono zw)⟩
set_option maxHeartbeats 2000000 in
theorem duesOf_any (A A' : Option Addr) (c c' : Nat) (p : List Pk) (per : Int) (dues : List Int) (w : World) (B : Nat) (hB : B ≤ w.heap.size) (h : RdP w B A p) (h' : RdI w B A' dues) (hp : ∀ x ∈ p, okPk x) (hs : p.Pairwise (fun x y => x.a ≤ y.a)) (hl : p.length ≤ 300) (h0 : 1 ≤ per) (h1 : per ≤ 1000) (h8 : dues.length = 8) (hdu : ∀ n ∈ dues, 0 ≤ n ∧ n ≤ 1099511627776) :
    Calls Tryd.prog 50 #[.slice A p.length c, .int .i64 per, .slice A' dues.length c'] w (EndOwn Sn.cs 3 34 (leastL p per (dueKey p dues)) w) := by
  obtain ⟨i0, hi0, hz0, hz1, hz2⟩ := info_parts infoInt
  have H8 := Lib.hid h8
  have He := Lib.hid (leastL_congr (key := keyOf (dueKeys p dues)) (key' := dueKey p dues) hp h0 h1 fun k hk => keyOf_map _ _ _ hk)
  clear h8
  go_enter Tryd.func50, Tryd.ntmps50
  go_wp2_with fail
  go_loopw [7, 8] (fun v iv wr => ∃ (k : Nat) (A5 : Option Addr) (c5 : Nat), k ≤ p.length ∧ v = .slice A5 k c5 ∧ iv = .int .i64 k ∧ wr.ownsRow w.heap.size 3 1 (.slice A5 k c5) k (((List.range k).map (dueKey p dues)).flatMap iCs) ∧ Below w.heap.size w wr) (fun _ iv _ => p.length - (intOf iv).toNat)
  case atStart => exact ⟨0, none, 0, Nat.zero_le _, rfl, rfl, ⟨by simp, .inl ⟨rfl, by simp⟩⟩, Below.refl _ _⟩
  case round =>
    obtain ⟨k, A5, c5, hk, rfl, rfl, row, hbw⟩ := hrel
    have zw := hbw.size
    have Row := Lib.hid row
    clear row
    by_cases hlt : k < p.length
    · obtain ⟨b, o, rfl, hb, d0, d1, d2⟩ := RdP.get (h.below (hbw.mono hB)) hlt
      have hok := hp _ (List.getElem_mem hlt)
      obtain ⟨f, hf⟩ : ∃ f : Nat, p[k].f = f := ⟨p[k].f.toNat, by have := hok.1; omega⟩
      have hfl : f < dues.length := by rw [H8.out]; have := hok.2.1; omega
      obtain ⟨b', o', rfl, hb', e0⟩ := RdI.get (h'.below (hbw.mono hB)) hfl
      rw [hf] at d0
      obtain ⟨t31, t32⟩ := hdu _ (List.getElem_mem hfl)
      obtain ⟨_, _, _, _, t1, t2⟩ := hok
      have hwr : IntKind.i64.wrap (p[k].a + dues[f]) = p[k].a + dues[f] := by rw [IntKind.wrap_i64]; omega
      have Hx := Lib.hid (show dueKey p dues k = IntKind.i64.wrap (p[k].a + dues[f]) by rw [hwr]; unfold dueKey; rw [aOf_of hlt, fOf_of hlt, hf, Int.toNat_natCast]; simp [List.getD, hfl])
      have q1 : (0 : Int) ≤ (f : Int) := by omega
      have q2 : (f : Int) < (dues.length : Int) := by omega
      have q3 : (0 : Int) ≤ (k : Int) := by omega
      have q4 : (k : Int) < (p.length : Int) := by omega
      have hq5 : k + 1 ≤ maxLen := by simp only [maxLen]; omega
      have hq6 : (k + 1) * 8 ≤ 140737488355328 := by omega
      have hq7 : w.heap.size ≤ (wr.alloc (.cells #[.int .i64 (IntKind.i64.wrap (p[k].a + dues[f]))] 3)).heap.size := by simp; omega
      have hnew : Rd (wr.alloc (.cells #[.int .i64 (IntKind.i64.wrap (p[k].a + dues[f]))] 3)) (wr.heap.size + 1) 1 iCs (some ⟨wr.heap.size, 0, none⟩) [IntKind.i64.wrap (p[k].a + dues[f])] := Rd.new_ rfl Nat.one_pos iCs_len
      have Hrow2 := Row.out.alloc (.cells #[.int .i64 (IntKind.i64.wrap (p[k].a + dues[f]))] 3)
      clear hf hwr
      go_wp2_with fail
      go_region_law (refine step_append_rd _ iCs rfl (.tmp 15) (.tmp 30) 35 rfl w.heap.size 3 i0 (.int .i64 0) 1 8 Tryd.underlying35 hi0 hz0 hz1 hz2 rfl Nat.one_pos iCs_len iCs_one (.slice A5 k c5) k (((List.range k).map (dueKey p dues)).flatMap iCs) rfl Hrow2 (wr.heap.size + 1) (some ⟨wr.heap.size, 0, none⟩) 1 [IntKind.i64.wrap (p[k].a + dues[f])] rfl hnew hq5 hq6 hq7 ?_; intro v3 w3 row3 g3 at3)
      all_goals
        obtain ⟨A6, c6, hv6, row6⟩ := own_slice' (m := k + 1) (ys := ((List.range (k + 1)).map (dueKey p dues)).flatMap iCs) row3 rfl (by rw [← Hx.out]; exact range_flat _ k)
        rw [hv6]
        clear hv6 row3
        have k3 := below_app (((hbw.alloc zw (.cells #[.int .i64 (IntKind.i64.wrap (p[k].a + dues[f]))] 3))).drew) Hrow2.drew g3 (Nat.le_refl _) hq7
        go_wp2_with fail
        go_roundw
        case rel => exact ⟨k + 1, A6, c6, hlt, by go_num, by go_num, row6, k3⟩
        case measure => simp [intOf]; omega
    · have hk2 : k = p.length := by omega
      subst hk2
      have ek : (dueKeys p dues).length = p.length := by simp [dueKeys]
      have hr : RdI wr wr.heap.size A5 (dueKeys p dues) := Rd.of_own (base := w.heap.size) (e := 3) (c := c5) (by rw [ek]; exact Row.out) (by omega) iCs_len
      have HC := leastOf_any A A5 c c5 p per (dueKeys p dues) wr _ (Nat.le_refl _) ((h.below (hbw.mono hB)).more (Nat.le_trans hB zw)) hr hp hs hl h0 h1 ek
      rw [ek] at HC
      go_wp2_with fail
      refine HC.mono ?_
      rintro e w2 ⟨A2, c2, rfl, row2, k2⟩
      rw [He.out] at row2 ⊢
      go_wp2_with fail
      go_ret
      exact ⟨A2, c2, rfl, own_mono row2 zw, hbw.trans (k2.mono zw)⟩
end Go.Proofs.YtkkecnofgmpekaaDoor
