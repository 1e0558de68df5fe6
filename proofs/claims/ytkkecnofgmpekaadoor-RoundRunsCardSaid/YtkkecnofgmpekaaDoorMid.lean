/- Lists of numbers in memory of the call's own, which may begin in the middle of their row: append, the head, what is left without the head. No condition. -/
import Derived.Test.YtkkecnofgmpekaaDoorRankA
import Derived.ArgAppend
namespace Go.Proofs.YtkkecnofgmpekaaDoor
open Go.RowKit
set_option maxRecDepth 100000
def MRow (w : World) (base : Nat) (e : TypeId) (v : Value) (s : List Nat) : Prop :=
  (v = .slice none 0 0 ∧ s = []) ∨ ∃ b o cap cur, v = .slice (some ⟨b, o, none⟩) s.length cap ∧ base ≤ b ∧ w.heap[b]? = some (.cells cur e (0, 0)) ∧ s.length ≤ cap ∧ cap ≤ maxLen ∧ o + cap ≤ cur.size ∧ ∀ (j : Nat) (h : j < s.length), cur[o + j]? = some (.int .i64 (s[j] : Int))
section
variable {w w' : World} {base : Nat} {e : TypeId} {v : Value} {s : List Nat}
theorem MRow.nil_ (w : World) (base : Nat) (e : TypeId) : MRow w base e (.slice none 0 0) [] := .inl ⟨rfl, rfl⟩
theorem MRow.same (h : MRow w base e v s) (hb : ∀ g, v.ownBlock = some g → w'.heap[g]? = w.heap[g]?) : MRow w' base e v s := by
  rcases h with h | ⟨b, o, cap, cur, hv, h1, h2, h3⟩
  · exact .inl h
  · exact .inr ⟨b, o, cap, cur, hv, h1, (hb b (by rw [hv]; rfl)).trans h2, h3⟩
theorem MRow.lt (h : MRow w base e v s) : ∀ g, v.ownBlock = some g → base ≤ g ∧ g < w.heap.size := by
  intro g hg
  rcases h with ⟨rfl, _⟩ | ⟨b, o, cap, cur, rfl, h1, h2, _⟩
  · simp [Value.ownBlock] at hg
  · obtain rfl : b = g := by simpa [Value.ownBlock] using hg
    exact ⟨h1, lt_of_block h2⟩
theorem MRow.slice (h : MRow w base e v s) : ∃ A c, v = .slice A s.length c := by
  rcases h with ⟨rfl, rfl⟩ | ⟨b, o, cap, cur, rfl, _⟩
  · exact ⟨none, 0, rfl⟩
  · exact ⟨_, _, rfl⟩
theorem MRow.slice_ (h : MRow w base e v s) : ∃ A n c, v = .slice A n c := by
  obtain ⟨A, c, hv⟩ := h.slice
  exact ⟨A, _, c, hv⟩
theorem MRow.alloc (h : MRow w base e v s) (o : Obj) : MRow (w.alloc o) base e v s := h.same fun g hg => Below.heap_alloc w o g (h.lt g hg).2
theorem MRow.drewN (h : MRow w base e v s) (m : Nat) : MRow (w.drewN m) base e v s := h
theorem MRow.set_ (h : MRow w base e v s) {a : Addr} (ha : v.ownBlock ≠ some a.block) (u : Value) : MRow (w.setCell a u) base e v s := h.same fun g hg => Below.heap_setCell w a u g (fun e => ha (by rw [hg, e]))
theorem MRow.of_own (h : w.ownsRow base e 1 v s.length (s.flatMap nCs)) : MRow w base e v s := by
  obtain ⟨h0, h⟩ := h
  rcases h with ⟨rfl, hx⟩ | ⟨g, cap, cur, hv, hg, hh, hn, hc, hsz, ht⟩
  · refine .inl ⟨rfl, ?_⟩
    cases s with
    | nil => rfl
    | cons x r => simp [nCs] at hx
  · refine .inr ⟨g, 0, cap, cur, hv, hg, hh, hn, hc, by omega, fun j hj => ?_⟩
    have e1 : (s.flatMap nCs)[j]? = some (.int .i64 (s[j] : Int)) := by
      rw [flat_get nCs 1 Nat.one_pos nCs_len]
      simp [Nat.div_one, Nat.mod_one, hj, nCs]
    rw [← ht, List.getElem?_take] at e1
    split at e1
    · rw [Nat.zero_add]; simpa using e1
    · cases e1
theorem MRow.at_ (h : MRow w base e v s) (h0 : 0 < s.length) : ∃ b o c, v = .slice (some ⟨b, o, none⟩) s.length c ∧ s.length ≤ c ∧ b < w.heap.size ∧ ∀ (j : Nat) (h : j < s.length), w.cell? ⟨b, o + j, none⟩ = some (.int .i64 (s[j] : Int)) := by
  rcases h with ⟨_, rfl⟩ | ⟨b, o, cap, cur, rfl, h1, h2, h3, h4, h5, h6⟩
  · simp at h0
  · exact ⟨b, o, cap, rfl, h3, lt_of_block h2, fun j hj => (cell_blk h2 (o + j)).trans (h6 j hj)⟩
/-- Without its head. -/
theorem MRow.tail {k : Nat} {b o c : Nat} (h : MRow w base e (.slice (some ⟨b, o, none⟩) (s.length + 1) c) (k :: s)) : MRow w base e (.slice (some (if c = 1 then ⟨b, o, none⟩ else ⟨b, o + 1, none⟩)) s.length (c - 1)) s := by
  rcases h with ⟨h, _⟩ | ⟨b', o', cap, cur, hv, h1, h2, h3, h4, h5, h6⟩
  · cases h
  · simp only [List.length_cons, Value.slice.injEq, Option.some.injEq, Addr.mk.injEq, and_true] at hv h3
    obtain ⟨⟨rfl, rfl⟩, _, rfl⟩ := hv
    by_cases hc : c = 1
    · subst hc
      rw [if_pos rfl]
      refine .inr ⟨b, o, 0, cur, rfl, h1, h2, by omega, Nat.zero_le _, by omega, fun j hj => by omega⟩
    · rw [if_neg hc]
      refine .inr ⟨b, o + 1, c - 1, cur, rfl, h1, h2, by omega, by omega, by omega, fun j hj => ?_⟩
      have := h6 (j + 1) (by simp only [List.length_cons]; omega)
      rw [show o + 1 + j = o + (j + 1) by omega]
      simpa using this
end
theorem mrow_append {P : Program} (w : World) (base : Nat) (t ty e : TypeId) (i : TypeInfo) (ht : P.underlying t = some (.slice e)) (hi : P.info? e = some i) (hz : i.zero = some (.int .i64 0)) (hsize : i.size = 1) (hby : i.bytes = 8)
    (v : Value) (s : List Nat) (h : MRow w base e v s) (a : Addr) (k : Nat) (ha : w.cell? a = some (.int .i64 (k : Int))) (hl : s.length ≤ 1000) (hbase : base ≤ w.heap.size) :
    ∃ v' w', (Builtin.append_ #[t, t] ty #[v, .slice (some a) 1 1]).run P w = .ok v' w' ∧ MRow w' base e v' (s ++ [k]) ∧ w.grownBy w' v.ownBlock ∧ (v'.ownBlock = v.ownBlock ∨ ∃ g, v'.ownBlock = some g ∧ w.heap.size ≤ g) := by
  have hnews : ∀ j u, [Value.int .i64 (k : Int)][j]? = some u → w.cell? (a.add j) = some u := fun j u hj => by
    cases j with
    | zero =>
      simp only [List.getElem?_cons_zero, Option.some.injEq] at hj
      subst hj
      unfold Addr.add
      simpa using ha
    | succ j => simp at hj
  have hone : ∀ u ∈ [Value.int .i64 (k : Int)], u.oneCell' = true := by simp [Value.oneCell']
  have hfl : ∀ s : List Nat, s.map (fun n : Nat => Value.int .i64 (n : Int)) ++ [Value.int .i64 (k : Int)] = (s ++ [k]).flatMap nCs := fun s => by
    induction s with
    | nil => rfl
    | cons x r ih => rw [List.cons_append, List.flatMap_cons, ← ih]; rfl
  have hfl2 : ∀ s : List Nat, s.map (fun n : Nat => Value.int .i64 (n : Int)) = s.flatMap nCs := fun s => by
    induction s with
    | nil => rfl
    | cons x r ih => rw [List.flatMap_cons, ← ih]; rfl
  rcases h with ⟨rfl, rfl⟩ | ⟨b, o, cap, cur, rfl, h1, h2, h3, h4, h5, h6⟩
  · obtain ⟨v', w', hrun, r1, r2, r3⟩ := run_append_own_at (P := P) w base t ty e i (.int .i64 0) 1 8 ht hi hz hsize hby rfl (by omega) (.slice none 0 0) 0 [] (World.ownsRow_nil w base e 1) a 1 1 [.int .i64 (k : Int)] rfl hnews hone (by simp [maxLen]) (by omega) hbase
    have r4 : w'.ownsRow base e 1 v' ([k] : List Nat).length (([k] : List Nat).flatMap nCs) := r1
    exact ⟨v', w', hrun, MRow.of_own r4, r2, r3.2.imp id fun e => ⟨_, e, Nat.le_refl _⟩⟩
  · by_cases hr : s.length + 1 ≤ cap
    · have hrun := run_append_room_cells (P := P) w t ty e i ht hi b o s.length cap a 1 1 [.int .i64 (k : Int)] (by rw [hsize]; rfl) hnews hone hr (fun j hj => by
          rw [hsize, cell_blk h2]
          have : j = 0 := by simpa using hj
          subst this
          rw [Array.getElem?_eq_getElem (by omega)]; rfl) (fun j hj => by simp [World.frozen?, h2])
      rw [hsize, Nat.mul_one] at hrun
      refine ⟨_, _, hrun, .inr ⟨b, o, cap, cur.setIfInBounds (o + s.length) (.int .i64 (k : Int)), by simp, h1, ?_, by simpa using hr, h4, by simpa using h5, fun j hj => ?_⟩, ?_, .inl rfl⟩
      · show (w.setCell ⟨b, o + s.length, none⟩ (.int .i64 (k : Int))).heap[b]? = _
        simp [World.setCell, Array.getElem?_modify, h2]
      · rw [List.length_append, List.length_cons, List.length_nil] at hj
        rw [Array.getElem?_setIfInBounds]
        by_cases hjs : j = s.length
        · subst hjs
          rw [if_pos rfl, if_pos (by omega)]
          simp
        · rw [if_neg (by omega), h6 j (by omega), List.getElem_append_left (by omega)]
      · exact ⟨rfl, rfl, rfl, by simp [World.setCells, World.setCell], fun x hx hne => Below.heap_setCell w ⟨b, o + s.length, none⟩ _ x (fun e => hne (by rw [e]; rfl))⟩
    · obtain ⟨v', w', hrun, r1, r2⟩ := run_append_arg_grows (P := P) w t ty e i (.int .i64 0) 1 8 ht hi hz hsize hby rfl (by omega) ⟨b, o, none⟩ s.length cap (s.map fun n : Nat => Value.int .i64 (n : Int)) (by simp) (fun j u hj => by
          rw [add_mk, cell_blk h2]
          have hjl : j < s.length := by
            have := (List.getElem?_eq_some_iff.1 hj).1
            simpa using this
          rw [h6 j hjl]
          simpa [hjl] using hj) a 1 1 [.int .i64 (k : Int)] rfl hnews (by omega) (by simp only [maxLen]; omega) (by omega)
      rw [hfl] at r1
      have r4 : w'.ownsRow w.heap.size e 1 v' (s ++ [k]).length ((s ++ [k]).flatMap nCs) := by simpa using r1
      have r5 := own_mono r4 hbase
      refine ⟨v', w', hrun, MRow.of_own r5, ⟨r2.os, r2.tape, r2.output, r2.size, fun x hx _ => r2.block x hx (by simp)⟩, .inr ?_⟩
      rcases r4.2 with ⟨_, hx⟩ | ⟨g', cap', cur', hv', hg', hh', _⟩
      · cases s <;> simp [nCs] at hx
      · exact ⟨g', by rw [hv']; rfl, hg'⟩
section
variable {P : Program} (w : World)
theorem wp_append_mid {o : Oper} {a : Act} {K : Act → World → Prop} {Q : Exit → Act → World → Prop} (s x : Operand) (t : TypeId)
    (ho : o.op = .call { callee := .builtin .append, args := #[s, x], argTypes := #[t, t] })
    (base : Nat) (e : TypeId) (i : TypeInfo) (ht : P.underlying t = some (.slice e)) (hi : P.info? e = some i) (hz : i.zero = some (.int .i64 0)) (hsize : i.size = 1) (hby : i.bytes = 8)
    (v : Value) (l : List Nat) (hs : a.eval s = v) (hown : MRow w base e v l) (ad : Addr) (k : Nat) (hx : a.eval x = .slice (some ad) 1 1) (ha : w.cell? ad = some (.int .i64 (k : Int))) (hl : l.length ≤ 1000) (hbase : base ≤ w.heap.size)
    (h : ∀ v' w', MRow w' base e v' (l ++ [k]) → w.grownBy w' v.ownBlock → (v'.ownBlock = v.ownBlock ∨ ∃ g, v'.ownBlock = some g ∧ w.heap.size ≤ g) → K (a.put o.dst v') w') : o.wp P a w K Q := by
  obtain ⟨v', w', hrun, h2, h3, h4⟩ := mrow_append (P := P) w base t o.type e i ht hi hz hsize hby v l hown ad k ha hl hbase
  unfold Oper.wp
  simp [execOp, ho, resolve, invoke, builtin, hs, hx, hrun, Result.andThen]
  exact h v' w' h2 h3 h4
theorem wpList_append_mid {ops : Array Oper} {rest : List Oper} {o : Oper} {a : Act} {Q : Exit → Act → World → Prop} (hgd : o.guard = none) (s x : Operand) (t : TypeId)
    (ho : o.op = .call { callee := .builtin .append, args := #[s, x], argTypes := #[t, t] })
    (base : Nat) (e : TypeId) (i : TypeInfo) (ht : P.underlying t = some (.slice e)) (hi : P.info? e = some i) (hz : i.zero = some (.int .i64 0)) (hsize : i.size = 1) (hby : i.bytes = 8)
    (v : Value) (l : List Nat) (hs : a.eval s = v) (hown : MRow w base e v l) (ad : Addr) (k : Nat) (hx : a.eval x = .slice (some ad) 1 1) (ha : w.cell? ad = some (.int .i64 (k : Int))) (hl : l.length ≤ 1000) (hbase : base ≤ w.heap.size)
    (h : ∀ v' w', MRow w' base e v' (l ++ [k]) → w.grownBy w' v.ownBlock → (v'.ownBlock = v.ownBlock ∨ ∃ g, v'.ownBlock = some g ∧ w.heap.size ≤ g) → wpList P ops Q rest (a.put o.dst v') w') : wpList P ops Q (o :: rest) a w :=
  wpList_plain hgd fun _ hK => wp_append_mid w s x t ho base e i ht hi hz hsize hby v l hs hown ad k hx ha hl hbase fun v' w' h2 h3 h4 => hK _ _ (h v' w' h2 h3 h4)
theorem step_append_mid {ops : Array Oper} {o : Oper} {a : Act} {K : Act → World → Prop} {Q : Exit → Act → World → Prop} {E : Prop} (hgd : o.guard = none) (s x : Operand) (t : TypeId)
    (ho : o.op = .call { callee := .builtin .append, args := #[s, x], argTypes := #[t, t] })
    (base : Nat) (e : TypeId) (i : TypeInfo) (ht : P.underlying t = some (.slice e)) (hi : P.info? e = some i) (hz : i.zero = some (.int .i64 0)) (hsize : i.size = 1) (hby : i.bytes = 8)
    (v : Value) (l : List Nat) (hs : a.eval s = v) (hown : MRow w base e v l) (ad : Addr) (k : Nat) (hx : a.eval x = .slice (some ad) 1 1) (ha : w.cell? ad = some (.int .i64 (k : Int))) (hl : l.length ≤ 1000) (hbase : base ≤ w.heap.size)
    (h : ∀ v' w', MRow w' base e v' (l ++ [k]) → w.grownBy w' v.ownBlock → (v'.ownBlock = v.ownBlock ∨ ∃ g, v'.ownBlock = some g ∧ w.heap.size ≤ g) → K (a.put o.dst v') w') :
    if Region.wanted o (yielded ops a.tmps) = true then Oper.wp P o a w K Q else E := by
  have hw : Region.wanted o (yielded ops a.tmps) = true := by simp [Region.wanted, hgd]
  rw [if_pos hw]
  exact wp_append_mid w s x t ho base e i ht hi hz hsize hby v l hs hown ad k hx ha hl hbase h
end
end Go.Proofs.YtkkecnofgmpekaaDoor
