/- Words between spaces, and numerals, plainly. No program in sight. A script of commands, plainly: its state, and what each line answers. No program in sight. Commands as texts, plainly: a command's line answers as the command. No program in sight. A bound of a gate is no great number. No program in sight. Which errors a script's line can have. No program in sight. What a script of some commands answers: a closed fact. No program in sight. -/
import Derived.Lib.SplitLaws
import Derived.Lib.ItoaNum
import Derived.Lib.AtoiAll
import Derived.Test.YtoomffajodheaaaGreatDoorQKpM
import Derived.Test.YtoomffajodheaaaGreatDoorQMiscM
import Derived.Lib.Join
import Derived.Test.YtoomffajodheaaaGreatDoorQDlB
set_option linter.all false
namespace Go.Proofs.YtoomffajodheaaaGreatDoor
set_option maxRecDepth 100000
/-- Words between single spaces. -/
def sp : List UInt8 → List (List UInt8)
  | [] => [[]]
  | c :: r => if c = 32 then [] :: sp r else match sp r with
    | [] => [[c]]
    | w :: ws => (c :: w) :: ws
theorem sp_cons (c : UInt8) (r : List UInt8) : sp (c :: r) = if c = 32 then [] :: sp r else match sp r with
    | [] => [[c]]
    | w :: ws => (c :: w) :: ws := rfl
theorem sp_ne (s : List UInt8) : sp s ≠ [] := by
  cases s with
  | nil => simp [sp]
  | cons c r =>
    unfold sp
    split
    · simp
    · split <;> simp
theorem sp_word {a : List UInt8} (h : (32 : UInt8) ∉ a) : sp a = [a] := by
  induction a with
  | nil => rfl
  | cons c r ih =>
    have h1 : c ≠ 32 := fun e => h (by rw [e]; exact List.mem_cons_self)
    unfold sp
    rw [if_neg h1, ih (fun e => h (List.mem_cons_of_mem _ e))]
theorem sp_app {a : List UInt8} (b : List UInt8) (h : (32 : UInt8) ∉ a) : sp (a ++ 32 :: b) = a :: sp b := by
  induction a with
  | nil => rw [List.nil_append, sp_cons, if_pos rfl]
  | cons c r ih =>
    have h1 : c ≠ 32 := fun e => h (by rw [e]; exact List.mem_cons_self)
    rw [List.cons_append, sp_cons, if_neg h1, ih (fun e => h (List.mem_cons_of_mem _ e))]
theorem sp_cases (s : List UInt8) : (32 : UInt8) ∉ s ∨ ∃ a b, s = a ++ 32 :: b ∧ (32 : UInt8) ∉ a := by
  induction s with
  | nil => left; simp
  | cons c r ih =>
    by_cases hc : c = 32
    · right; exact ⟨[], r, by rw [hc]; rfl, by simp⟩
    · rcases ih with h | ⟨a, b, e, h⟩
      · left
        intro h9
        rcases List.mem_cons.1 h9 with h9 | h9
        · exact hc h9.symm
        · exact h h9
      · right
        refine ⟨c :: a, b, by rw [e]; rfl, fun h9 => ?_⟩
        rcases List.mem_cons.1 h9 with h9 | h9
        · exact hc h9.symm
        · exact h h9
theorem occ_one (s : List UInt8) (c : UInt8) (i : Nat) : Lib.occAt s [c] i = true ↔ s[i]? = some c := by
  unfold Lib.occAt
  have e : s[i]? = (s.drop i).head? := by rw [List.head?_drop]
  rw [e]
  cases s.drop i with
  | nil => simp [List.isPrefixOf]
  | cons x r =>
    have e2 : [c].isPrefixOf (x :: r) = (c == x && true) := rfl
    rw [e2, Bool.and_true, List.head?_cons]
    constructor
    · intro h; rw [beq_iff_eq.1 h]
    · intro h
      injection h with h
      rw [h]
      exact beq_self_eq_true _
theorem index_sp_none {s : List UInt8} (h : (32 : UInt8) ∉ s) : Lib.index s [32] = -1 := by
  refine Lib.index_none fun j _ => ?_
  rw [Bool.eq_false_iff]
  intro h9
  rw [occ_one] at h9
  exact h (List.mem_of_getElem? h9)
theorem index_sp {a : List UInt8} (b : List UInt8) (h : (32 : UInt8) ∉ a) : Lib.index (a ++ 32 :: b) [32] = a.length := by
  refine Lib.index_first (by simp) ?_ fun j hj => ?_
  · rw [occ_one]; simp
  · rw [Bool.eq_false_iff]
    intro h9
    rw [occ_one, List.getElem?_append_left hj] at h9
    exact h (List.mem_of_getElem? h9)
theorem split_len : ∀ (n : Nat) (s : List UInt8), s.length ≤ n → Lib.splitK [32] 0 (Lib.count s [32]) s = sp s := by
  intro n
  induction n with
  | zero =>
    intro s hs
    obtain rfl : s = [] := List.length_eq_zero_iff.1 (by omega)
    rfl
  | succ n ih =>
    intro s hs
    rcases sp_cases s with h | ⟨a, b, rfl, h⟩
    · rw [Lib.count_miss (index_sp_none h), sp_word h]
      rfl
    · have hi := index_sp b h
      have hd : (a ++ 32 :: b).drop (a.length + [(32 : UInt8)].length) = b := by
        rw [List.drop_append]
        simp
      rw [Lib.count_hit (by simp) hi, hd, Nat.add_comm, sp_app b h]
      unfold Lib.splitK
      rw [if_neg (by rw [hi, beq_iff_eq]; omega), hi, Int.toNat_natCast, hd, ih b (by simp at hs; omega)]
      simp
theorem sp_head (s : List UInt8) : (sp s).head? = some (s.takeWhile (fun c => decide (c ≠ 32))) := by
  induction s with
  | nil => rfl
  | cons c r ih =>
    unfold sp
    by_cases hc : c = 32
    · rw [if_pos hc, List.takeWhile_cons_of_neg (by simp [hc])]
      rfl
    · rw [if_neg hc, List.takeWhile_cons_of_pos (by simp [hc])]
      split
      · rename_i e; exact absurd e (sp_ne r)
      · rename_i w ws e
        rw [e] at ih
        simp only [List.head?_cons, Option.some.injEq] at ih ⊢
        rw [ih]
/-- A word, and words behind it, each behind a space. -/
def spJ (w : List UInt8) (ws : List (List UInt8)) : List UInt8 := w ++ ws.flatMap (fun x => 32 :: x)
theorem sp_join {w : List UInt8} {ws : List (List UInt8)} (hw : (32 : UInt8) ∉ w) (hws : ∀ x ∈ ws, (32 : UInt8) ∉ x) : sp (spJ w ws) = w :: ws := by
  induction ws generalizing w with
  | nil => unfold spJ; rw [List.flatMap_nil, List.append_nil]; exact sp_word hw
  | cons y ys ih =>
    have e : spJ w (y :: ys) = w ++ 32 :: spJ y ys := by unfold spJ; simp
    rw [e, sp_app _ hw, ih (hws y List.mem_cons_self) fun x hx => hws x (List.mem_cons_of_mem _ hx)]
theorem spJ_snoc (w : List UInt8) (ws : List (List UInt8)) (x : List UInt8) : spJ w (ws ++ [x]) = spJ w ws ++ 32 :: x := by
  unfold spJ
  simp
/-- A word's number, where it is a numeral as numbers are written. -/
def numW (s : List UInt8) : Option Int := match Lib.atoiAll s with
  | .ok n => if s.length ≤ 7 ∧ 0 ≤ n ∧ Lib.itoa n = s then some n else none
  | _ => none
theorem numW_some {s : List UInt8} {n : Int} (h : numW s = some n) : Lib.atoiAll s = .ok n ∧ s.length ≤ 7 ∧ 0 ≤ n ∧ Lib.itoa n = s := by
  unfold numW at h
  split at h
  · rename_i v hv
    split at h
    · rename_i h2
      injection h with h
      subst h
      exact ⟨hv, h2⟩
    · cases h
  · cases h
theorem parse_app {acc v : Nat} {l : List UInt8} (r : List UInt8) (h : Lib.parseUint10 acc l = .ok v) : Lib.parseUint10 acc (l ++ r) = Lib.parseUint10 v r := by
  induction l generalizing acc with
  | nil =>
    simp only [Lib.parseUint10] at h
    injection h with h
    rw [h]; rfl
  | cons c l ih =>
    simp only [Lib.parseUint10, List.cons_append] at h ⊢
    split at h
    · rename_i h1
      rw [if_pos h1]
      split at h
      · cases h
      · rename_i h2
        rw [if_neg h2]
        split at h
        · cases h
        · rename_i h3
          rw [if_neg h3]
          exact ih h
    · cases h
theorem dig_nat (d : Nat) (h : d < 10) : (UInt8.ofNat (48 + d)).toNat = 48 + d := by
  rw [UInt8.toNat_ofNat']
  omega
theorem parse_dec (u : Nat) (h : u < 1844674407370955162) : Lib.parseUint10 0 (Lib.decDigits u) = .ok u := by
  induction u using Nat.strongRecOn with
  | _ u ih =>
    rw [Lib.decDigits]
    by_cases hu : u < 10
    · rw [dif_pos hu]
      simp only [Lib.parseUint10, dig_nat u hu]
      rw [if_pos (by omega), if_neg (by omega), if_neg (by omega)]
      congr 1
      omega
    · rw [dif_neg hu, parse_app _ (ih (u / 10) (by omega) (by omega))]
      simp only [Lib.parseUint10, dig_nat (u % 10) (by omega)]
      rw [if_pos (by omega), if_neg (by omega), if_neg (by omega)]
      congr 1
      omega
theorem dec_digit (u : Nat) : ∀ c ∈ Lib.decDigits u, 48 ≤ c.toNat ∧ c.toNat ≤ 57 := by
  induction u using Nat.strongRecOn with
  | _ u ih =>
    intro c hc
    rw [Lib.decDigits] at hc
    by_cases hu : u < 10
    · rw [dif_pos hu] at hc
      rw [List.mem_singleton.1 hc, dig_nat u hu]
      omega
    · rw [dif_neg hu] at hc
      rcases List.mem_append.1 hc with hc | hc
      · exact ih (u / 10) (by omega) c hc
      · rw [List.mem_singleton.1 hc, dig_nat (u % 10) (by omega)]
        omega
theorem dec_ne (u : Nat) : Lib.decDigits u ≠ [] := by
  rw [Lib.decDigits]
  split <;> simp
theorem dec_nosp (u : Nat) : (32 : UInt8) ∉ Lib.decDigits u := fun h => by
  have := dec_digit u _ h
  simp at this
theorem dec_len (k u : Nat) (h : u < 10 ^ (k + 1)) : (Lib.decDigits u).length ≤ k + 1 := by
  induction k generalizing u with
  | zero =>
    rw [Lib.decDigits, dif_pos (by simpa using h)]
    simp
  | succ k ih =>
    rw [Lib.decDigits]
    by_cases hu : u < 10
    · rw [dif_pos hu]; simp
    · rw [dif_neg hu, List.length_append]
      have := ih (u / 10) (by rw [Nat.pow_succ] at h; omega)
      simp only [List.length_cons, List.length_nil]
      omega
theorem numW_dec (u : Nat) (h : u ≤ 9999999) : numW (Lib.decDigits u) = some (u : Int) := by
  have hp := parse_dec u (by omega)
  have hne := dec_ne u
  have hl := dec_len 6 u (by simp; omega)
  have hit : Lib.itoa (u : Int) = Lib.decDigits u := by unfold Lib.itoa; rw [if_neg (by omega), Int.toNat_natCast]
  have ha : Lib.atoiAll (Lib.decDigits u) = .ok (u : Int) := by
    have hd := dec_digit u
    cases hx : Lib.decDigits u with
    | nil => exact absurd hx hne
    | cons c r =>
      rw [hx] at hp hd
      have hc := hd c List.mem_cons_self
      unfold Lib.atoiAll
      simp only
      rw [if_neg (by omega)]
      unfold Lib.parseMag
      rw [if_neg (by simp), hp]
      simp only
      rw [if_neg (by omega), if_neg (by omega), if_neg (by omega)]
  unfold numW
  rw [ha]
  simp only
  rw [if_pos ⟨hl, by omega, hit⟩]
end Go.Proofs.YtoomffajodheaaaGreatDoor
namespace Go.Proofs.YtoomffajodheaaaGreatDoor
set_option maxRecDepth 100000
/-- A player of commands: a gate, and packets. -/
structure Sc where
  cs : List (List Ln)
  K : ByteArray
  per : Int
  ns : List Int
  p : List Pk
def Sc.ok (s : Sc) : Prop := (gateErr s.cs (kindN s.K) s.per s.ns).1 = 0 ∧ (pktErr s.p).1 = 0
def okT : ByteArray := ⟨#[111, 107]⟩
def noT : ByteArray := ⟨#[110, 111, 116, 104, 105, 110, 103]⟩
def wCurve : ByteArray := ⟨#[99, 117, 114, 118, 101]⟩
def wNumbers : ByteArray := ⟨#[110, 117, 109, 98, 101, 114, 115]⟩
def wPacket : ByteArray := ⟨#[112, 97, 99, 107, 101, 116]⟩
def wAt : ByteArray := ⟨#[97, 116]⟩
def wClear : ByteArray := ⟨#[99, 108, 101, 97, 114]⟩
def wRun : ByteArray := ⟨#[114, 117, 110]⟩
def wWorst : ByteArray := ⟨#[119, 111, 114, 115, 116]⟩
def wBound : ByteArray := ⟨#[98, 111, 117, 110, 100]⟩
def wLink : ByteArray := ⟨#[108, 105, 110, 107]⟩
/-- The texts of errors: floodgate: text, bound, shape, none, old, over, idle, turn, kind. -/
def errW : Nat → List UInt8
  | 1 => [116, 101, 120, 116]
  | 2 => [98, 111, 117, 110, 100]
  | 3 => [115, 104, 97, 112, 101]
  | 4 => [110, 111, 110, 101]
  | 5 => [111, 108, 100]
  | 6 => [111, 118, 101, 114]
  | 7 => [105, 100, 108, 101]
  | 8 => [116, 117, 114, 110]
  | _ => [107, 105, 110, 100]
def errT (k : Nat) : ByteArray := ⟨([102, 108, 111, 111, 100, 103, 97, 116, 101, 58, 32] ++ errW k).toArray⟩
/-- What a line answers, of an error's number and a text. -/
def outT (r : Nat × ByteArray) : ByteArray := if r.1 = 0 then r.2 else errT r.1
def itT (n : Int) : ByteArray := ⟨(Lib.itoa n).toArray⟩
abbrev Rs := (Nat × ByteArray) × Sc
def becomeS (s g : Sc) : Rs := if (gateErr g.cs (kindN g.K) g.per g.ns).1 = 0 then ((0, okT), { g with p := s.p }) else (((gateErr g.cs (kindN g.K) g.per g.ns).1, okT), s)
def linkS (s : Sc) (K : ByteArray) (per : Int) : Rs := becomeS s ⟨s.cs, K, per, if kindN K = 0 then [] else List.replicate 8 1, s.p⟩
def pairsL : List Int → List Ln
  | b :: r :: t => ⟨b, r⟩ :: pairsL t
  | _ => []
def curveS (s : Sc) (n : List Int) : Rs :=
  if n.length % 2 = 0 ∨ 8 ≤ n.getD 0 0 then ((1, okT), s)
  else if pairsL (n.drop 1) ≠ [] ∧ (crvErr (pairsL (n.drop 1))).1 ≠ 0 then (((crvErr (pairsL (n.drop 1))).1, okT), s)
  else ((0, okT), { s with cs := s.cs.set (n.getD 0 0).toNat (pairsL (n.drop 1)) })
def packetS (s : Sc) (n : List Int) : Rs :=
  if (pktErr (s.p ++ [⟨n.getD 0 0, n.getD 1 0, n.getD 2 0⟩])).1 = 0 then ((0, okT), { s with p := s.p ++ [⟨n.getD 0 0, n.getD 1 0, n.getD 2 0⟩] }) else (((pktErr (s.p ++ [⟨n.getD 0 0, n.getD 1 0, n.getD 2 0⟩])).1, okT), s)
def atTS (s : Sc) (n : List Int) : Rs :=
  if 8 ≤ n.getD 0 0 then ((1, okT), s) else (((atErr (s.cs.getD (n.getD 0 0).toNat []) (n.getD 1 0)).1, itT (atVal (s.cs.getD (n.getD 0 0).toNat []) (n.getD 1 0))), s)
def scQ (s : Sc) : List Pk := runQ s.cs (kindN s.K) s.per s.ns s.p
def scL (s : Sc) : List Sn := runL s.cs (kindN s.K) s.per s.ns s.p
def scE (s : Sc) : Nat × Int := runErr s.cs (kindN s.K) s.per s.ns s.p
def sentT (x : Sn) : List UInt8 := Lib.itoa x.p ++ 58 :: (Lib.itoa x.f ++ 45 :: Lib.itoa x.t)
def runT (l : List Sn) : ByteArray := if l = [] then noT else ⟨(Lib.join (l.map sentT) [32]).toArray⟩
def maxZ : List Int → Int → Int
  | [], m => m
  | x :: r, m => maxZ r (if m < x then x else m)
def worstT (s : Sc) : ByteArray := itT (maxZ (delL (scQ s) (scL s)) 0)
def runCm (s : Sc) : Rs := (((scE s).1, runT (scL s)), s)
def worstS (s : Sc) : Rs := (((scE s).1, worstT s), s)
def boundS (s : Sc) : Rs := (((bndErr s.cs (kindN s.K) s.per s.ns).1, itT (bndV s.cs (kindN s.K) s.per s.ns)), s)
def noS (s : Sc) : Rs := ((1, okT), s)
/-- A command without numbers. -/
def bareS (s : Sc) (w : ByteArray) : Rs :=
  if w = wClear then ((0, okT), { s with p := [] }) else if w = wRun then runCm s else if w = wWorst then worstS s else if w = wBound then boundS s else noS s
def playS (s : Sc) (w : ByteArray) (n : List Int) : Rs :=
  if w = wCurve ∧ 0 < n.length ∧ n.getD 0 0 < 10 then curveS s n
  else if w = wNumbers ∧ n.length = 8 then becomeS s { s with ns := n }
  else if w = wPacket ∧ n.length = 3 ∧ n.getD 0 0 < 10 then packetS s n
  else if w = wAt ∧ n.length = 2 ∧ n.getD 0 0 < 10 then atTS s n
  else if 0 < n.length then noS s
  else bareS s w
/-- Numbers of words; none: one is none. -/
def numsW : List ByteArray → Option (List Int)
  | [] => some []
  | w :: r => match numW w.data.toList with
    | none => none
    | some n => match numsW r with
      | none => none
      | some l => some (n :: l)
def spW : ByteArray := ⟨#[32]⟩
def wordsL (t : ByteArray) : List ByteArray := Lib.splitB spW 0 (Lib.countB t spW) t
def ofWords (s : Sc) (ws : List ByteArray) : Rs :=
  if ws.getD 0 spW = wLink ∧ ws.length = 3 then
    match numW (ws.getD 2 spW).data.toList with
    | none => noS s
    | some per => if kindN (ws.getD 1 spW) < 5 then linkS s (ws.getD 1 spW) per else noS s
  else match numsW (ws.drop 1) with
    | none => noS s
    | some n => playS s (ws.getD 0 spW) n
def lineS (s : Sc) (t : ByteArray) : Rs := ofWords s (wordsL t)
def goS : Sc → List ByteArray → List ByteArray
  | _, [] => []
  | s, t :: r => outT (lineS s t).1 :: goS (lineS s t).2 r
def endS : Sc → List ByteArray → Sc
  | s, [] => s
  | s, t :: r => endS (lineS s t).2 r
def newS : Sc := ⟨List.replicate 8 [], bFifo, 1, [], []⟩
theorem goS_app (s : Sc) (a b : List ByteArray) : goS s (a ++ b) = goS s a ++ goS (endS s a) b := by
  induction a generalizing s with
  | nil => rfl
  | cons t r ih =>
    show outT _ :: goS _ (r ++ b) = _
    rw [ih]
    rfl
theorem goS_len (s : Sc) (a : List ByteArray) : (goS s a).length = a.length := by
  induction a generalizing s with
  | nil => rfl
  | cons t r ih => show (goS _ r).length + 1 = _; rw [ih]; rfl
/-- A gate that is right. -/
theorem csBad_of {cs : List (List Ln)} (h : CsOk cs) (i : Nat) : (csBad cs i).1 = 0 := by
  induction cs generalizing i with
  | nil => rfl
  | cons l r ih =>
    have hr := ih (fun x hx => h x (List.mem_cons_of_mem _ hx)) (i + 1)
    unfold csBad
    by_cases h0 : l.length = 0
    · rw [if_pos h0]; exact hr
    · rw [if_neg h0, if_neg (fun h9 => h9 ((h l List.mem_cons_self).resolve_left (fun e => h0 (by rw [e]; rfl))))]
      exact hr
theorem gateErr_of {cs : List (List Ln)} {n : Nat} {per : Int} {ns : List Int} (h8 : cs.length = 8) (hc : CsOk cs) (hl : (linkErr n [] per ns).1 = 0) : (gateErr cs n per ns).1 = 0 := by
  unfold gateErr
  rw [if_pos h8, if_neg (fun h9 => h9 (csBad_of hc 0))]
  exact hl
theorem CsOk.set_ {cs : List (List Ln)} (h : CsOk cs) (k : Nat) {l : List Ln} (hl : l = [] ∨ (crvErr l).1 = 0) : CsOk (cs.set k l) := fun x hx => by
  rcases List.mem_or_eq_of_mem_set hx with h9 | h9
  · exact h x h9
  · rw [h9]; exact hl
theorem newS_ok : newS.ok := by
  refine ⟨gateErr_of rfl (fun l hl => .inl (List.eq_of_mem_replicate hl)) ?_, rfl⟩
  decide
theorem become_ok {s g : Sc} (h : s.ok) : (becomeS s g).2.ok := by
  unfold becomeS
  by_cases h1 : (gateErr g.cs (kindN g.K) g.per g.ns).1 = 0
  · rw [if_pos h1]; exact ⟨h1, h.2⟩
  · rw [if_neg h1]; exact h
theorem curveS_ok {s : Sc} (h : s.ok) (n : List Int) : (curveS s n).2.ok := by
  unfold curveS
  split
  · exact h
  · split
    · exact h
    · rename_i h2
      obtain ⟨h8, hc, hl, -⟩ := gateErr_ok h.1
      refine ⟨gateErr_of (by simpa using h8) (hc.set_ _ ?_) hl, h.2⟩
      by_cases h3 : pairsL (n.drop 1) = []
      · exact .inl h3
      · right
        exact Classical.byContradiction fun h4 => h2 ⟨h3, h4⟩
theorem packetS_ok {s : Sc} (h : s.ok) (n : List Int) : (packetS s n).2.ok := by
  unfold packetS
  split
  · rename_i h1; exact ⟨h.1, h1⟩
  · exact h
theorem playS_ok {s : Sc} (h : s.ok) (w : ByteArray) (n : List Int) : (playS s w n).2.ok := by
  unfold playS
  split
  · exact curveS_ok h n
  · split
    · exact become_ok h
    · split
      · exact packetS_ok h n
      · split
        · unfold atTS; split <;> exact h
        · split
          · exact h
          · unfold bareS
            split
            · exact ⟨h.1, rfl⟩
            · split
              · exact h
              · split
                · exact h
                · split <;> exact h
theorem lineS_ok {s : Sc} (h : s.ok) (t : ByteArray) : (lineS s t).2.ok := by
  unfold lineS ofWords
  split
  · split
    · exact h
    · split
      · exact become_ok h
      · exact h
  · split
    · exact h
    · exact playS_ok h _ _
/-- All numbers of words are no less than 0, and small. -/
theorem numsW_nn {ws : List ByteArray} {n : List Int} (h : numsW ws = some n) : n.length = ws.length ∧ ∀ x ∈ n, 0 ≤ x := by
  induction ws generalizing n with
  | nil =>
    simp only [numsW, Option.some.injEq] at h
    subst h
    exact ⟨rfl, by simp⟩
  | cons w r ih =>
    unfold numsW at h
    split at h
    · cases h
    · rename_i x hx
      split at h
      · cases h
      · rename_i l hl
        injection h with h
        subst h
        obtain ⟨i1, i2⟩ := ih hl
        refine ⟨by simp [i1], fun y hy => ?_⟩
        rcases List.mem_cons.1 hy with rfl | hy
        · exact (numW_some hx).2.2.1
        · exact i2 y hy
end Go.Proofs.YtoomffajodheaaaGreatDoor
namespace Go.Proofs.YtoomffajodheaaaGreatDoor
set_option maxRecDepth 100000
theorem toList_inj {a b : ByteArray} (h : a.data.toList = b.data.toList) : a = b := by
  obtain ⟨⟨a⟩⟩ := a
  obtain ⟨⟨b⟩⟩ := b
  simp only at h
  rw [h]
theorem wordsL_data (t : ByteArray) : (wordsL t).map (·.data.toList) = sp t.data.toList := by
  unfold wordsL
  rw [Lib.splitB_data]
  exact split_len _ _ (Nat.le_refl _)
theorem map_inj_ {l l' : List ByteArray} (h : l.map (·.data.toList) = l'.map (·.data.toList)) : l = l' := by
  induction l generalizing l' with
  | nil => cases l' with
    | nil => rfl
    | cons _ _ => simp at h
  | cons x r ih => cases l' with
    | nil => simp at h
    | cons y r' =>
      simp only [List.map_cons, List.cons.injEq] at h
      rw [toList_inj h.1, ih h.2]
theorem wordsL_join {w : ByteArray} {ws : List ByteArray} {t : ByteArray} (hw : (32 : UInt8) ∉ w.data.toList) (hws : ∀ x ∈ ws, (32 : UInt8) ∉ x.data.toList) (ht : t.data.toList = spJ w.data.toList (ws.map (·.data.toList))) : wordsL t = w :: ws := by
  apply map_inj_
  rw [wordsL_data, ht, sp_join hw (fun x hx => by obtain ⟨y, hy, rfl⟩ := List.mem_map.1 hx; exact hws y hy)]
  rfl
/-- A command: its word, a kind, numbers. -/
structure Cm where
  w : ByteArray
  k : ByteArray
  n : List Int
def cmIs (c : Cm) : Bool :=
  if c.w = wCurve then c.n.length % 2 == 1
  else if c.w = wLink then c.n.length == 1 && decide (kindN c.k < 5)
  else if c.w = wNumbers then c.n.length == 8
  else if c.w = wPacket then c.n.length == 3
  else if c.w = wAt then c.n.length == 2
  else if c.w = wClear ∨ c.w = wRun ∨ c.w = wWorst ∨ c.w = wBound then c.n.length == 0
  else false
def mostOf (w : ByteArray) : Int := if w = wPacket ∨ w = wAt ∨ w = wCurve then 9 else 9999999
def inB (m : Int) : List Int → Prop
  | [] => True
  | x :: r => (0 ≤ x ∧ x ≤ m) ∧ ∀ y ∈ r, 0 ≤ y ∧ y ≤ 9999999
def cmOk (c : Cm) : Prop := cmIs c = true ∧ inB (mostOf c.w) c.n
def cmWs (c : Cm) : List ByteArray := (if c.w = wLink then [c.k] else []) ++ c.n.map itT
def cmT (c : Cm) : List UInt8 := spJ c.w.data.toList ((cmWs c).map (·.data.toList))
def cmdS (s : Sc) (c : Cm) : Rs := if c.w = wLink then linkS s c.k (c.n.getD 0 0) else playS s c.w c.n
theorem inB_all {m : Int} (hm : m ≤ 9999999) {l : List Int} (h : inB m l) : ∀ x ∈ l, 0 ≤ x ∧ x ≤ 9999999 := by
  cases l with
  | nil => simp
  | cons y r =>
    intro x hx
    rcases List.mem_cons.1 hx with rfl | hx
    · exact ⟨h.1.1, by have := h.1.2; omega⟩
    · exact h.2 x hx
theorem mostOf_le (w : ByteArray) : mostOf w ≤ 9999999 := by unfold mostOf; split <;> omega
theorem itoa_dec {x : Int} (h : 0 ≤ x) : Lib.itoa x = Lib.decDigits x.toNat := by unfold Lib.itoa; rw [if_neg (by omega)]
theorem numW_it {x : Int} (h : 0 ≤ x ∧ x ≤ 9999999) : numW (itT x).data.toList = some x := by
  show numW (Lib.itoa x) = _
  rw [itoa_dec h.1, numW_dec _ (by omega)]
  congr 1
  omega
theorem it_nosp {x : Int} (h : 0 ≤ x) : (32 : UInt8) ∉ (itT x).data.toList := by
  show (32 : UInt8) ∉ Lib.itoa x
  rw [itoa_dec h]
  exact dec_nosp _
theorem numsW_it {l : List Int} (h : ∀ x ∈ l, 0 ≤ x ∧ x ≤ 9999999) : numsW (l.map itT) = some l := by
  induction l with
  | nil => rfl
  | cons x r ih =>
    rw [List.map_cons]
    unfold numsW
    rw [numW_it (h x List.mem_cons_self), ih (fun y hy => h y (List.mem_cons_of_mem _ hy))]
theorem kind_nosp {k : ByteArray} (h : kindN k < 5) : (32 : UInt8) ∉ k.data.toList := by
  unfold kindN at h
  split at h
  · rename_i e; rw [e]; decide
  · split at h
    · rename_i e; rw [e]; decide
    · split at h
      · rename_i e; rw [e]; decide
      · split at h
        · rename_i e; rw [e]; decide
        · split at h
          · rename_i e; rw [e]; decide
          · omega
theorem word_nosp {c : Cm} (h : cmIs c = true) : (32 : UInt8) ∉ c.w.data.toList := by
  unfold cmIs at h
  split at h
  · rename_i e; rw [e]; decide
  · split at h
    · rename_i e; rw [e]; decide
    · split at h
      · rename_i e; rw [e]; decide
      · split at h
        · rename_i e; rw [e]; decide
        · split at h
          · rename_i e; rw [e]; decide
          · split at h
            · rename_i e
              rcases e with e | e | e | e <;> (rw [e]; decide)
            · cases h
theorem cmLink_is {c : Cm} (h : cmIs c = true) (hl : c.w = wLink) : c.n.length = 1 ∧ kindN c.k < 5 := by
  unfold cmIs at h
  rw [if_neg (by rw [hl]; decide), if_pos hl] at h
  simpa using h
/-- A command's line answers as the command. -/
theorem lineS_cm {c : Cm} (h : cmOk c) (s : Sc) {t : ByteArray} (ht : t.data.toList = cmT c) : lineS s t = cmdS s c := by
  obtain ⟨h1, h2⟩ := h
  have hall := inB_all (mostOf_le _) h2
  have hw := wordsL_join (w := c.w) (ws := cmWs c) (t := t) (word_nosp h1) (fun x hx => by
    unfold cmWs at hx
    rcases List.mem_append.1 hx with hx | hx
    · by_cases hl : c.w = wLink
      · rw [if_pos hl] at hx
        rw [List.mem_singleton.1 hx]
        exact kind_nosp (cmLink_is h1 hl).2
      · rw [if_neg hl] at hx; simp at hx
    · obtain ⟨y, hy, rfl⟩ := List.mem_map.1 hx
      exact it_nosp (hall y hy).1) ht
  unfold lineS
  rw [hw]
  unfold ofWords cmdS cmWs
  by_cases hl : c.w = wLink
  · obtain ⟨hn, hk⟩ := cmLink_is h1 hl
    obtain ⟨x, hx⟩ : ∃ x, c.n = [x] := by
      match hc : c.n with
      | [] => rw [hc] at hn; simp at hn
      | [x] => exact ⟨x, rfl⟩
      | _ :: _ :: _ => rw [hc] at hn; simp at hn
    rw [if_pos hl, if_pos hl, hx]
    rw [hx] at hall
    simp only [List.map_cons, List.map_nil, List.cons_append, List.nil_append, List.getD_cons_zero, List.getD_cons_succ, List.length_cons, List.length_nil]
    rw [if_pos ⟨hl, trivial⟩, numW_it (hall x (by simp))]
    simp only
    rw [if_pos hk]
  · rw [if_neg hl, if_neg hl, if_neg (fun h9 => hl (by simpa using h9.1))]
    simp only [List.nil_append, List.drop_succ_cons, List.drop_zero, List.getD_cons_zero]
    rw [numsW_it hall]
def cmB (c : Cm) : ByteArray := ⟨(cmT c).toArray⟩
theorem endS_ok {s : Sc} (h : s.ok) (l : List ByteArray) : (endS s l).ok := by
  induction l generalizing s with
  | nil => exact h
  | cons t r ih => exact ih (lineS_ok h t)
theorem endS_app (s : Sc) (a b : List ByteArray) : endS s (a ++ b) = endS (endS s a) b := by
  induction a generalizing s with
  | nil => rfl
  | cons c r ih => exact ih _
/-- What is no command's word is told so. -/
def wordIs (w : ByteArray) : Prop := w = wCurve ∨ w = wLink ∨ w = wNumbers ∨ w = wPacket ∨ w = wAt ∨ w = wClear ∨ w = wRun ∨ w = wWorst ∨ w = wBound
theorem play_no {s : Sc} {w : ByteArray} (h : ¬ wordIs w) (n : List Int) : playS s w n = noS s := by
  unfold wordIs at h
  simp only [not_or] at h
  obtain ⟨h1, h2, h3, h4, h5, h6, h7, h8, h9⟩ := h
  unfold playS bareS
  rw [if_neg (fun e => h1 e.1), if_neg (fun e => h3 e.1), if_neg (fun e => h4 e.1), if_neg (fun e => h5 e.1), if_neg h6, if_neg h7, if_neg h8, if_neg h9]
  split <;> rfl
theorem line_no {s : Sc} {t w : ByteArray} (hw : w.data.toList = t.data.toList.takeWhile (fun c => decide (c ≠ 32))) (h : ¬ wordIs w) : outT (lineS s t).1 = errT 1 := by
  have h0 : (wordsL t).getD 0 spW = w := by
    have h1 := sp_head t.data.toList
    rw [← wordsL_data, ← hw] at h1
    cases hx : wordsL t with
    | nil => rw [hx] at h1; simp at h1
    | cons a r =>
      rw [hx] at h1
      simp only [List.map_cons, List.head?_cons, Option.some.injEq] at h1
      exact toList_inj h1
  unfold lineS ofWords
  rw [h0, if_neg (fun e => h (.inr (.inl e.1)))]
  split
  · rfl
  · rw [play_no h]; rfl
theorem outT_of_ne {r : Nat × ByteArray} (h : r.1 = 0 → r.2.data.toList ≠ []) : (outT r).data.toList ≠ [] := by
  unfold outT
  split
  · rename_i e; exact h e
  · unfold errT; simp
theorem itoa_ne (n : Int) : Lib.itoa n ≠ [] := by
  unfold Lib.itoa
  split
  · simp
  · exact dec_ne _
theorem runT_ne (l : List Sn) : (runT l).data.toList ≠ [] := by
  unfold runT
  split
  · decide
  · rename_i h
    cases l with
    | nil => exact absurd rfl h
    | cons x r =>
      show Lib.join ((x :: r).map sentT) [32] ≠ []
      intro h9
      have h8 : (Lib.join ((x :: r).map sentT) [32]).length = 0 := by rw [h9]; rfl
      rw [List.map_cons, Lib.join_length] at h8
      simp only [Lib.lens, List.map_cons, List.sum_cons] at h8
      unfold sentT at h8
      simp at h8
theorem okT_ne : okT.data.toList ≠ [] := by decide
theorem bare_ne (s : Sc) (w : ByteArray) : (bareS s w).1.2.data.toList ≠ [] := by
  unfold bareS
  split
  · exact okT_ne
  · split
    · exact runT_ne _
    · split
      · exact itoa_ne _
      · split
        · exact itoa_ne _
        · exact okT_ne
theorem become_ne (s g : Sc) : (becomeS s g).1.2.data.toList ≠ [] := by unfold becomeS; split <;> (exact okT_ne)
theorem play_ne (s : Sc) (w : ByteArray) (n : List Int) : (playS s w n).1.2.data.toList ≠ [] := by
  unfold playS
  split
  · unfold curveS
    split
    · exact okT_ne
    · split <;> (exact okT_ne)
  · split
    · exact become_ne _ _
    · split
      · unfold packetS; split <;> (exact okT_ne)
      · split
        · unfold atTS
          split
          · exact okT_ne
          · exact itoa_ne _
        · split
          · exact okT_ne
          · exact bare_ne _ _
theorem line_ne (s : Sc) (t : ByteArray) : (lineS s t).1.2.data.toList ≠ [] := by
  unfold lineS ofWords
  split
  · split
    · exact okT_ne
    · split
      · exact become_ne _ _
      · exact okT_ne
  · split
    · exact okT_ne
    · exact play_ne _ _ _
theorem line_out_ne (s : Sc) (t : ByteArray) : (outT (lineS s t).1).data.toList ≠ [] := outT_of_ne (fun _ => line_ne s t)
end Go.Proofs.YtoomffajodheaaaGreatDoor
namespace Go.Proofs.YtoomffajodheaaaGreatDoor
set_option maxRecDepth 100000
theorem delayV_i64 (l : List Ln) (per : Int) (hl : 0 < l.length) : 0 ≤ delayV l per ∧ delayV l per ≤ 35184372088832000 := by
  by_cases h : (delayErr l per).1 = 0
  · obtain ⟨hc, p0, p1, ht, e, -⟩ := delay_ok h
    obtain ⟨c1, c2, hok, -⟩ := crvErr_ok hc
    rw [e]
    have h1 := delay_top p0 hok hl ht (T := 0) (by omega) (by omega)
    have h2 := valueL_pos hl hok (t := 0) (by omega)
    have h3 := Int.mul_nonneg (show 0 ≤ per by omega) (show 0 ≤ valueL l 0 by omega)
    obtain ⟨s1, s2, s3, s4, s5, s6, s7, s8, s9⟩ := dTop_spec (per := per) hok
    obtain ⟨⟨q1, q2⟩, q3⟩ := delay_peak p0 hok ht
    obtain ⟨y, hy, e2⟩ := dBest_hit (per := per) (l := l)
    have hyr : y ≤ dReach l := by omega
    have hr : dReach l ≤ 35184372088832 := by
      rcases s8 with h9 | ⟨x, hx, -, h9⟩
      · omega
      · have := hok x hx; unfold okLn at this; omega
    have h5 := mostT_ge0 y (steepL per l ++ flatL per l)
    have h6 : per * y ≤ 1000 * 35184372088832 := by
      by_cases hy0 : 0 ≤ y
      · exact Int.mul_le_mul p1 (by omega) hy0 (by omega)
      · have := Int.mul_nonneg (show 0 ≤ per by omega) (show 0 ≤ -y by omega)
        rw [Int.mul_neg] at this
        omega
    refine ⟨by omega, ?_⟩
    rw [e2]
    unfold dAll mostL
    omega
  · unfold delayV
    rw [if_neg h]
    omega
theorem busyV_i64 (l : List Ln) (per : Int) : 0 ≤ busyV l per ∧ busyV l per ≤ 1099511627776 := by
  by_cases h : (busyErr l per).1 = 0
  · by_cases hk : (dlkErr l per).1 = 0
    · obtain ⟨h1, h2, h3⟩ := busy_ok hk h
      omega
    · unfold busyErr at h
      rw [if_pos hk] at h
      exact absurd h hk
  · unfold busyV
    rw [if_neg h]
    omega
theorem bndV_rng (cs : List (List Ln)) (n : Nat) (per : Int) (ns : List Int) : 0 ≤ bndV cs n per ns ∧ bndV cs n per ns ≤ 35184372088832000 := by
  by_cases h : (bndErr cs n per ns).1 = 0
  · obtain ⟨hg, all, ha, hl, he, e, -⟩ := bnd_ok h
    rw [e]
    unfold howV
    split
    · exact delayV_i64 all per hl
    · have := busyV_i64 all per; omega
  · unfold bndV
    by_cases hg : (gateErr cs n per ns).1 ≠ 0
    · rw [if_pos hg]; omega
    · rw [if_neg hg]
      unfold bndErr at h
      rw [if_neg hg] at h
      cases ha : bndAll cs with
      | none => rw [ha] at h; unfold allV; simp
      | some al =>
        rw [ha] at h
        show 0 ≤ (if (allErr n per (some al)).1 = 0 then howV n al per else 0) ∧ (if (allErr n per (some al)).1 = 0 then howV n al per else 0) ≤ _
        rw [if_neg h]
        omega
theorem bndV_i64 (cs : List (List Ln)) (n : Nat) (per : Int) (ns : List Int) : -9223372036854775808 ≤ bndV cs n per ns ∧ bndV cs n per ns ≤ 9223372036854775807 := by
  have := bndV_rng cs n per ns
  omega
end Go.Proofs.YtoomffajodheaaaGreatDoor
namespace Go.Proofs.YtoomffajodheaaaGreatDoor
set_option maxRecDepth 100000
def okC (k : Nat) : Prop := k = 0 ∨ k = 1 ∨ k = 2 ∨ k = 3 ∨ k = 4 ∨ k = 5 ∨ k = 9
theorem crv_c (l : List Ln) : okC (crvErr l).1 := by
  unfold crvErr okC
  split
  · simp
  · split <;> simp
theorem lk_c (p : List Pk) (per : Int) (h : okC (pktErr p).1) : okC (lookErr p per).1 := by
  unfold lookErr
  repeat' split
  all_goals (first | exact h | (simp [okC]))
theorem pkBad_c (l : List Pk) (last : Int) (k : Nat) : okC (pktBad l last k).1 := by
  induction l generalizing k last with
  | nil => simp [pktBad, okC]
  | cons x r ih =>
    unfold pktBad
    repeat' split
    all_goals (first | exact ih _ _ | simp [okC])
theorem pk_c (l : List Pk) : okC (pktErr l).1 := by
  unfold pktErr
  split
  · simp [okC]
  · exact pkBad_c _ _ _
theorem link_c (n : Nat) (p : List Pk) (per : Int) (ns : List Int) : okC (linkErr n p per ns).1 := by
  have h := lk_c p per (pk_c p)
  match n with
  | 0 =>
    show okC (if (lookErr p per).1 ≠ 0 then lookErr p per else if 0 < ns.length then (3, -1) else (0, -1)).1
    repeat' split
    all_goals (first | exact h | simp [okC])
  | 1 =>
    show okC (rankErr p per ns 100).1
    unfold rankErr numErr
    repeat' split
    all_goals (first | exact h | simp [okC])
  | 2 =>
    show okC (rankErr p per ns 1099511627776).1
    unfold rankErr numErr
    repeat' split
    all_goals (first | exact h | simp [okC])
  | 3 =>
    show okC (roundErr p per ns).1
    unfold roundErr quErr
    repeat' split
    all_goals (first | exact h | simp [okC])
  | 4 =>
    show okC (fairErr p per ns).1
    unfold fairErr weErr
    repeat' split
    all_goals (first | exact h | simp [okC])
  | n + 5 => show okC 9; simp [okC]
theorem csBad_c (cs : List (List Ln)) (i : Nat) : okC (csBad cs i).1 := by
  induction cs generalizing i with
  | nil => simp [csBad, okC]
  | cons l r ih =>
    unfold csBad
    repeat' split
    all_goals (first | exact ih _ | exact crv_c l | simp [okC])
theorem gate_c (cs : List (List Ln)) (n : Nat) (per : Int) (ns : List Int) : okC (gateErr cs n per ns).1 := by
  unfold gateErr
  repeat' split
  all_goals (first | exact csBad_c _ _ | exact link_c _ _ _ _ | simp [okC])
theorem run_c (cs : List (List Ln)) (n : Nat) (per : Int) (ns : List Int) (p : List Pk) : okC (runErr cs n per ns p).1 := by
  unfold runErr
  repeat' split
  all_goals (first | exact gate_c _ _ _ _ | exact pk_c _ | simp [okC])
theorem bnd_c (cs : List (List Ln)) (n : Nat) (per : Int) (ns : List Int) : okC (bndErr cs n per ns).1 := by
  unfold bndErr
  split
  · exact gate_c _ _ _ _
  · cases bndAll cs with
    | none => simp [allErr, okC]
    | some al =>
      show okC (if al.length = 0 then (4, -1) else if (howErr n al per).1 ≠ 0 then (4, -1) else (0, -1) : Nat × Int).1
      repeat' split
      all_goals simp [okC]
theorem become_c (s g : Sc) : okC (becomeS s g).1.1 := by
  unfold becomeS
  split
  · simp [okC]
  · exact gate_c _ _ _ _
theorem play_c (s : Sc) (w : ByteArray) (n : List Int) : okC (playS s w n).1.1 := by
  unfold playS
  split
  · unfold curveS
    repeat' split
    all_goals (first | exact crv_c _ | simp [okC])
  · split
    · exact become_c _ _
    · split
      · unfold packetS
        split
        · simp [okC]
        · exact pk_c _
      · split
        · unfold atTS
          split
          · simp [okC]
          · show okC (atErr _ _).1
            unfold atErr
            repeat' split
            all_goals (first | exact crv_c _ | simp [okC])
        · split
          · simp [noS, okC]
          · unfold bareS
            split
            · simp [okC]
            · split
              · exact run_c _ _ _ _ _
              · split
                · exact run_c _ _ _ _ _
                · split
                  · exact bnd_c _ _ _ _
                  · simp [noS, okC]
theorem line_c (s : Sc) (t : ByteArray) : okC (lineS s t).1.1 := by
  unfold lineS ofWords
  repeat' split
  all_goals (first | exact become_c _ _ | exact play_c _ _ _ | simp [noS, okC])
end Go.Proofs.YtoomffajodheaaaGreatDoor
namespace Go.Proofs.YtoomffajodheaaaGreatDoor
set_option maxRecDepth 100000
def hT1 : ByteArray := ⟨#[108, 105, 110, 107, 32, 102, 105, 102, 111, 32, 50]⟩
def hT2 : ByteArray := ⟨#[112, 97, 99, 107, 101, 116, 32, 48, 32, 51, 32, 53]⟩
def hA3 : ByteArray := ⟨#[48, 58, 53, 45, 49, 49]⟩
def hA4 : ByteArray := ⟨#[54]⟩
def hIn : List ByteArray := [hT1, hT2, wRun, wWorst, wBound]
def hOut : List ByteArray := [okT, okT, hA3, hA4, errT 4]
def hS1 : Sc := ⟨List.replicate 8 [], bFifo, 2, [], []⟩
def hS2 : Sc := ⟨List.replicate 8 [], bFifo, 2, [], [⟨0, 3, 5⟩]⟩
theorem hel1 : linkS newS bFifo 2 = ((0, okT), hS1) := by
  unfold linkS becomeS newS
  rw [if_pos (by decide)]
  rfl
theorem hel2 : packetS hS1 [0, 3, 5] = ((0, okT), hS2) := by
  unfold packetS
  rw [if_pos (by decide)]
  rfl
theorem hel3 : (scE hS2).1 = 0 ∧ scL hS2 = [⟨0, 5, 11⟩] ∧ scQ hS2 = [⟨0, 3, 5⟩] := ⟨rfl, rfl, rfl⟩
theorem hel_it : Lib.itoa 0 = [48] ∧ Lib.itoa 5 = [53] ∧ Lib.itoa 11 = [49, 49] ∧ Lib.itoa 6 = [54] ∧ Lib.itoa 3 = [51] ∧ Lib.itoa 2 = [50] := by
  have h1 : ∀ n, n < 10 → Lib.decDigits n = [UInt8.ofNat (48 + n)] := fun n h => by rw [Lib.decDigits, dif_pos h]
  have h2 : Lib.decDigits 11 = [49, 49] := by rw [Lib.decDigits, dif_neg (by omega), h1 _ (by omega)]; rfl
  refine ⟨?_, ?_, ?_, ?_, ?_, ?_⟩
  · rw [itoa_dec (by omega), show (0 : Int).toNat = 0 from rfl, h1 _ (by omega)]; rfl
  · rw [itoa_dec (by omega), show (5 : Int).toNat = 5 from rfl, h1 _ (by omega)]; rfl
  · rw [itoa_dec (by omega), show (11 : Int).toNat = 11 from rfl, h2]
  · rw [itoa_dec (by omega), show (6 : Int).toNat = 6 from rfl, h1 _ (by omega)]; rfl
  · rw [itoa_dec (by omega), show (3 : Int).toNat = 3 from rfl, h1 _ (by omega)]; rfl
  · rw [itoa_dec (by omega), show (2 : Int).toNat = 2 from rfl, h1 _ (by omega)]; rfl
theorem helR : runCm hS2 = ((0, hA3), hS2) := by
  obtain ⟨h1, h2, h3⟩ := hel3
  obtain ⟨i0, i5, i11, -⟩ := hel_it
  unfold runCm
  rw [h1, h2]
  unfold runT
  rw [if_neg (by simp)]
  show ((0, (⟨(Lib.join [sentT ⟨0, 5, 11⟩] [32]).toArray⟩ : ByteArray)), hS2) = _
  unfold sentT
  simp only [i0, i5, i11]
  rfl
theorem helW : worstS hS2 = ((0, hA4), hS2) := by
  obtain ⟨h1, h2, h3⟩ := hel3
  obtain ⟨-, -, -, i6, -⟩ := hel_it
  unfold worstS worstT
  rw [h1, h2, h3]
  show ((0, itT 6), hS2) = _
  unfold itT
  rw [i6]
  rfl
theorem helB : (boundS hS2).1.1 = 4 := rfl
theorem hel_line {c : Cm} {t : ByteArray} (h1 : cmIs c = true) (h2 : inB (mostOf c.w) c.n) (ht : t.data.toList = cmT c) (s : Sc) : lineS s t = cmdS s c := lineS_cm ⟨h1, h2⟩ s ht
theorem hel_go : goS newS hIn = hOut := by
  obtain ⟨i0, i5, i11, i6, i3, i2⟩ := hel_it
  have l1 : lineS newS hT1 = ((0, okT), hS1) := by
    rw [hel_line (c := ⟨wLink, bFifo, [2]⟩) (by decide) (by unfold inB mostOf; decide) (by
      show hT1.data.toList = wLink.data.toList ++ ([bFifo.data.toList, Lib.itoa 2].flatMap (fun x => 32 :: x))
      rw [i2]; rfl)]
    exact hel1
  have l2 : lineS hS1 hT2 = ((0, okT), hS2) := by
    rw [hel_line (c := ⟨wPacket, bFifo, [0, 3, 5]⟩) (by decide) (by unfold inB mostOf; decide) (by
      show hT2.data.toList = wPacket.data.toList ++ ([Lib.itoa 0, Lib.itoa 3, Lib.itoa 5].flatMap (fun x => 32 :: x))
      rw [i0, i3, i5]; rfl)]
    show playS hS1 wPacket [0, 3, 5] = _
    rw [← hel2]
    rfl
  have l3 : lineS hS2 wRun = ((0, hA3), hS2) := by
    rw [hel_line (c := ⟨wRun, bFifo, []⟩) (by decide) trivial rfl]
    rw [← helR]
    rfl
  have l4 : lineS hS2 wWorst = ((0, hA4), hS2) := by
    rw [hel_line (c := ⟨wWorst, bFifo, []⟩) (by decide) trivial rfl]
    rw [← helW]
    rfl
  have l5 : (lineS hS2 wBound).1.1 = 4 := by
    rw [hel_line (c := ⟨wBound, bFifo, []⟩) (by decide) trivial rfl]
    rw [← helB]
    rfl
  show [outT (lineS newS hT1).1, outT (lineS (lineS newS hT1).2 hT2).1, outT (lineS (lineS (lineS newS hT1).2 hT2).2 wRun).1, outT (lineS (lineS (lineS (lineS newS hT1).2 hT2).2 wRun).2 wWorst).1, outT (lineS (lineS (lineS (lineS (lineS newS hT1).2 hT2).2 wRun).2 wWorst).2 wBound).1] = _
  rw [l1]
  simp only
  rw [l2]
  simp only
  rw [l3]
  simp only
  rw [l4]
  simp only
  have e5 : outT (lineS hS2 wBound).1 = errT 4 := by unfold outT; rw [l5]; rfl
  rw [e5]
  rfl
end Go.Proofs.YtoomffajodheaaaGreatDoor
