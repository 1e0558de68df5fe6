/- What a shaper makes of packets, plainly. No program. No condition. -/
import Derived.Test.YteeaipehkhldhaaDoorLeave
namespace Go.Proofs.YteeaipehkhldhaaDoor
def leaveL (ss : List Bu) (from_ n t : Int) : Option Int := match ss with
  | [] => some t
  | s :: r => if (whenB s from_ n).1 = 0 then leaveL r from_ n (if t < (whenB s from_ n).2 then (whenB s from_ n).2 else t) else none
theorem leaveT_eq (bs : List (Nat × Bu)) (from_ n t : Int) : leaveT bs from_ n t = leaveL (bs.map (·.2)) from_ n t := by
  induction bs generalizing t with
  | nil => rfl
  | cons x r ih => unfold leaveT; rw [List.map_cons]; unfold leaveL; rw [ih]
def fr (last a : Int) : Int := if last < a then a else last
theorem fr_ge (last a : Int) : last ≤ fr last a ∧ a ≤ fr last a ∧ (fr last a = a ∨ fr last a = last) := by unfold fr; split <;> omega
def shapeGo : List Pk → List Bu → Int → Nat → List Pk × Int
  | [], _, _, _ => ([], -1)
  | x :: r, ss, last, i => match leaveL ss (fr last x.a) x.s (fr last x.a) with
    | none => ([], (i : Int))
    | some T => if (shapeGo r (ss.map fun s => tookB s T x.s) T (i + 1)).2 = -1 then (⟨x.f, x.s, T⟩ :: (shapeGo r (ss.map fun s => tookB s T x.s) T (i + 1)).1, -1) else ([], (shapeGo r (ss.map fun s => tookB s T x.s) T (i + 1)).2)
def glue (acc : List Pk) (y : List Pk × Int) : List Pk × Int := if y.2 = -1 then (acc ++ y.1, -1) else ([], y.2)
theorem glue_none {acc : List Pk} {x : Pk} {r : List Pk} {ss : List Bu} {last : Int} {i : Nat} (h : leaveL ss (fr last x.a) x.s (fr last x.a) = none) : glue acc (shapeGo (x :: r) ss last i) = ([], (i : Int)) := by
  unfold shapeGo
  rw [h]
  unfold glue
  rw [if_neg (by show ¬ (i : Int) = -1; omega)]
theorem glue_some {acc : List Pk} {x : Pk} {r : List Pk} {ss : List Bu} {last T : Int} {i : Nat} (h : leaveL ss (fr last x.a) x.s (fr last x.a) = some T) : glue acc (shapeGo (x :: r) ss last i) = glue (acc ++ [⟨x.f, x.s, T⟩]) (shapeGo r (ss.map fun s => tookB s T x.s) T (i + 1)) := by
  rw [shapeGo, h]
  simp only
  generalize shapeGo r (ss.map fun s => tookB s T x.s) T (i + 1) = y
  unfold glue
  by_cases hy : y.2 = -1
  · rw [if_pos hy, if_pos hy, if_pos rfl]; simp
  · rw [if_neg hy, if_neg hy, if_neg hy]
def shapeR (l : List Ln) (p : List Pk) : List Pk × Int := shapeGo p (l.map newB) 0 0
def shapeErr (l : List Ln) (p : List Pk) : Nat × Int := if (pktErr p).1 ≠ 0 then pktErr p else if (crvErr l).1 ≠ 0 then crvErr l else if (shapeR l p).2 = -1 then (0, -1) else (4, (shapeR l p).2)
def shapeV (l : List Ln) (p : List Pk) : List Pk := if (shapeErr l p).1 = 0 then (shapeR l p).1 else []
theorem pk_set (acc : List Pk) (x : Pk) (r : List Pk) (T : Int) : ((acc ++ x :: r).flatMap Pk.cs).set (acc.length * 3 + 2) (.int .i64 T) = ((acc ++ [(⟨x.f, x.s, T⟩ : Pk)]) ++ r).flatMap Pk.cs := by
  have e : (acc.flatMap Pk.cs).length = acc.length * 3 := flat_len Pk.cs 3 Pk.cs_len acc
  rw [List.append_assoc, List.flatMap_append, List.flatMap_append, List.set_append_right _ _ (by omega), e, show acc.length * 3 + 2 - acc.length * 3 = 2 by omega]
  rfl
/-- What holds of buckets ahead of each packet. -/
def BsOk (bs : List (Nat × Bu)) (last : Int) : Prop := ∀ x ∈ bs, BuOk x.2 ∧ x.2.last ≤ last
theorem took_last {s : Bu} {t n : Int} (h : lookB s t n = 0) : (tookB s t n).last = t := by
  unfold tookB
  rw [if_neg (by omega)]
  split <;> rfl
theorem bsOk_step {bs : List (Nat × Bu)} {last a n T : Int} (h : BsOk bs last) (ha : 0 ≤ a ∧ a ≤ 1099511627776) (hl : last ≤ 1099511627776) (ht : leaveT bs (fr last a) n (fr last a) = some T) :
    BsOk (bs.map (tookP T n)) T ∧ a ≤ T ∧ last ≤ T ∧ T ≤ 1099511627776 := by
  have hf := fr_ge last a
  obtain ⟨h1, h2, h3, _⟩ := leaveT_ok (fun x hx => (h x hx).1) ht
  have hT := h3 (by omega)
  refine ⟨fun y hy => ?_, by omega, by omega, hT⟩
  obtain ⟨x, hx, rfl⟩ := List.mem_map.1 hy
  have hk := look_after (h x hx).1 (whenB_le (h x hx).1 (h2 x hx).1).1 h1 hT
  exact ⟨tookB_ok (h x hx).1 T n, by show (tookB x.2 T n).last ≤ T; rw [took_last hk]; exact Int.le_refl _⟩
theorem map_took (bs : List (Nat × Bu)) (T n : Int) : (bs.map (tookP T n)).map (·.2) = (bs.map (·.2)).map fun s => tookB s T n := by
  rw [List.map_map, List.map_map]; rfl
end Go.Proofs.YteeaipehkhldhaaDoor
