/- errors.As at a *api.Fault target, errors.Is at package api's sentinels: Go's own text walked (after the kit's worked texts on the two). Conditions written at each. errors.As at a sentinel, errors.Is at sentinels and faults: Go's own text walked. Conditions written at each. package plain's Code: the number and the place of an error. Conditions: the nine sentinels lie in their variables, apart from each other; errors.errorType holds the type error. -/
import Derived.Test.YtoomffajodheaaaGreatDoorChecked
import Derived.Test.YtoomffajodheaaaGreatDoorQBaseM
import Derived.WalkKit
import Derived.LaidEql
import Derived.Stop.Asserts
import Derived.RowKitTokens
set_option linter.all false
namespace Go.Proofs.YtoomffajodheaaaGreatDoor
open Go.RowKit Go.Extern.Stop Go.Stop Go.Extern
set_option maxRecDepth 100000
namespace Rf
theorem valueOfPP (t : Addr) (w : World) : (ReflectliteValue.unpack (.iface 97 (.pointer (some t)))).run Tryz.prog w
    = .ok (.agg #[.pointer (some ⟨23, 97, none⟩), .pointer (some ⟨w.heap.size, 0, none⟩), .int .u64 150]) (w.alloc (.cells #[.pointer (some t)] 97)) := by kernel_rfl
theorem typePP (a : Addr) (w : World) : (ReflectliteValue.methodAny (ReflectliteValue.valueError "reflectlite.Value.Type" 0) (fun t _ _ _ => ReflectliteType.toType t) #[.agg #[.pointer (some ⟨23, 97, none⟩), .pointer (some a), .int .u64 150]]).run Tryz.prog w
    = .ok (.iface 170 (.agg #[.pointer (some ⟨23, 97, none⟩)])) w := by kernel_rfl
theorem methodKind (h : Value) (w : World) : (Go.method 451 170 (.agg #[h]) "Kind").run Tryz.prog w = .ok (242, h) w := by kernel_rfl
theorem kindPP (w : World) : ((ReflectliteType.abiMethod fun t => (fun a : Nat => Value.int IntKind.u8 (a : Int)) <$> Rtype.kind t) #[.pointer (some ⟨23, 97, none⟩)]).run Tryz.prog w = .ok (.int .u8 22) w := by kernel_rfl
theorem kindP (w : World) : ((ReflectliteType.abiMethod fun t => (fun a : Nat => Value.int IntKind.u8 (a : Int)) <$> Rtype.kind t) #[.pointer (some ⟨23, 95, none⟩)]).run Tryz.prog w = .ok (.int .u8 22) w := by kernel_rfl
theorem rlm (z : Sem Value) (f : TypeId → Addr → Nat → Nat → Sem Value) (v : Value) :
    ReflectliteValue.method z f #[v] = (do match ← ReflectliteValue.parts v with | none => z | some (t, a, fl) => f t a fl (fl % 32)) := rfl
theorem partsPP (a : Addr) (w : World) : (ReflectliteValue.parts (.agg #[.pointer (some ⟨23, 97, none⟩), .pointer (some a), .int .u64 150])).run Tryz.prog w = .ok (some (97, a, 150)) w := by kernel_rfl
theorem isNilPP (a p : Addr) (W : World) (ha : W.cell? a = some (.pointer (some p))) :
    (ReflectliteValue.method (ReflectliteValue.valueError "reflectlite.Value.IsNil" 0) ReflectliteValue.isNil #[.agg #[.pointer (some ⟨23, 97, none⟩), .pointer (some a), .int .u64 150]]).run Tryz.prog W = .ok (.bool false) W := by
  rw [rlm]
  simp only [Sem.run_bind, partsPP, Result.andThen]
  simp [ReflectliteValue.isNil, loadVar, isAgg, underlying, Tryz.underlying97, ha, Result.andThen]
theorem methodElem (h : Value) (w : World) : (Go.method 451 170 (.agg #[h]) "Elem").run Tryz.prog w = .ok (254, .agg #[h]) w := by kernel_rfl
theorem methodImplements (h : Value) (w : World) : (Go.method 451 170 (.agg #[h]) "Implements").run Tryz.prog w = .ok (255, .agg #[h]) w := by kernel_rfl
theorem methodAssignableTo (h : Value) (w : World) : (Go.method 451 170 (.agg #[h]) "AssignableTo").run Tryz.prog w = .ok (252, .agg #[h]) w := by kernel_rfl
theorem elemPP (w : World) : (ReflectliteType.method ReflectliteType.elem #[.agg #[.pointer (some ⟨23, 97, none⟩)]]).run Tryz.prog w = .ok (.iface 170 (.agg #[.pointer (some ⟨23, 95, none⟩)])) w := by kernel_rfl
theorem implementsP (w : World) : (ReflectliteType.relation "Implements" ReflectliteType.implements_ #[.agg #[.pointer (some ⟨23, 95, none⟩)], .iface 170 (.agg #[.pointer (some ⟨23, 34, none⟩)])]).run Tryz.prog w = .ok (.bool true) w := by kernel_rfl
theorem typeOfP (v : Value) (w : World) : (ReflectliteType.typeOf #[.iface 95 v]).run Tryz.prog w = .ok (.iface 170 (.agg #[.pointer (some ⟨23, 95, none⟩)])) w := by kernel_rfl
theorem typeOfE (v : Value) (w : World) : (ReflectliteType.typeOf #[.iface 242 v]).run Tryz.prog w = .ok (.iface 170 (.agg #[.pointer (some ⟨23, 242, none⟩)])) w := by kernel_rfl
theorem assignableP (w : World) : (ReflectliteType.relation "AssignableTo" ReflectliteType.assignableTo #[.agg #[.pointer (some ⟨23, 95, none⟩)], .iface 170 (.agg #[.pointer (some ⟨23, 95, none⟩)])]).run Tryz.prog w = .ok (.bool true) w := by kernel_rfl
theorem assignableE (w : World) : (ReflectliteType.relation "AssignableTo" ReflectliteType.assignableTo #[.agg #[.pointer (some ⟨23, 242, none⟩)], .iface 170 (.agg #[.pointer (some ⟨23, 95, none⟩)])]).run Tryz.prog w = .ok (.bool false) w := by kernel_rfl
theorem valueOfP (e : Addr) (w : World) : (ReflectliteValue.unpack (.iface 95 (.pointer (some e)))).run Tryz.prog w
    = .ok (.agg #[.pointer (some ⟨23, 95, none⟩), .pointer (some ⟨w.heap.size, 0, none⟩), .int .u64 150]) (w.alloc (.cells #[.pointer (some e)] 95)) := by kernel_rfl
theorem elemOfPP (w : World) : (Rtype.elem? 97).run Tryz.prog w = .ok (some 95) w := by kernel_rfl
theorem mkP (p : Addr) (w : World) : (ReflectliteValue.mk 95 p ReflectliteValue.flagAddr).run Tryz.prog w = .ok (.agg #[.pointer (some ⟨23, 95, none⟩), .pointer (some p), .int .u64 406]) w := by kernel_rfl
theorem elemVPP (a p : Addr) (W : World) (ha : W.cell? a = some (.pointer (some p))) :
    (ReflectliteValue.method (ReflectliteValue.valueError "reflectlite.Value.Elem" 0) ReflectliteValue.elem #[.agg #[.pointer (some ⟨23, 97, none⟩), .pointer (some a), .int .u64 150]]).run Tryz.prog W
      = .ok (.agg #[.pointer (some ⟨23, 95, none⟩), .pointer (some p), .int .u64 406]) W := by
  rw [rlm]
  simp only [Sem.run_bind, partsPP, Result.andThen]
  simp [ReflectliteValue.elem, loadVar, isAgg, underlying, Tryz.underlying97, ha, Result.andThen, elemOfPP, mkP]
theorem rls (v x : Value) : ReflectliteValue.set #[v, x] = (do
    let (some (dst, a, fl), some (src, b, _)) := (← ReflectliteValue.parts v, ← ReflectliteValue.parts x)
      | unsupported (.noEntry "extern/(internal/reflectlite.Value).Set.zeroValue")
    if fl / ReflectliteValue.flagAddr % 2 == 0 then unsupported (.noEntry "extern/(internal/reflectlite.Value).Set.unaddressable")
    let val ← loadVar src b
    if ← Rtype.directlyAssignable dst src then storeVar dst a val
    else if ← Rtype.implements dst src then
      if (← Rtype.kind src) == 20 then
        match val with
        | .nilIface => unsupported (.noEntry "extern/reflectlite: a nil value of one interface type handed on as a value of another")
        | _ => storeVar dst a val
      else storeVar dst a (.iface src val)
    else panicString ("reflectlite.Set: value of type " ++ (← Rtype.spelt src) ++ " is not assignable to type " ++ (← Rtype.spelt dst))
    pure (.tuple #[])) := rfl
theorem partsPa (a : Addr) (w : World) : (ReflectliteValue.parts (.agg #[.pointer (some ⟨23, 95, none⟩), .pointer (some a), .int .u64 406])).run Tryz.prog w = .ok (some (95, a, 406)) w := by kernel_rfl
theorem partsP (a : Addr) (w : World) : (ReflectliteValue.parts (.agg #[.pointer (some ⟨23, 95, none⟩), .pointer (some a), .int .u64 150])).run Tryz.prog w = .ok (some (95, a, 150)) w := by kernel_rfl
theorem directP (w : World) : (Rtype.directlyAssignable 95 95).run Tryz.prog w = .ok true w := by kernel_rfl
theorem setP (ta b e : Addr) (old : Value) (W : World) (hb : W.cell? b = some (.pointer (some e))) (ht : W.cell? ta = some old) (hf : W.frozen? ta = false) :
    (ReflectliteValue.set #[.agg #[.pointer (some ⟨23, 95, none⟩), .pointer (some ta), .int .u64 406], .agg #[.pointer (some ⟨23, 95, none⟩), .pointer (some b), .int .u64 150]]).run Tryz.prog W
      = .ok (.tuple #[]) (W.setCell ta (.pointer (some e))) := by
  rw [rls]
  simp only [Sem.run_bind, partsPa, partsP, Result.andThen]
  simp [ReflectliteValue.flagAddr, loadVar, isAgg, underlying, Tryz.underlying95, hb, Result.andThen, directP, storeVar, Value.cells, storeCells, Addr.add]
  rw [run_store Tryz.prog W ta _ _ (by rfl)]
  simp [ht, hf]
theorem noAsE (v : Value) (xT : TypeId) (w : World) : (Instr.typeAssert (.iface 242 v) xT 174 true).run Tryz.prog w = .ok (.tuple #[.nilIface, .bool false]) w := run_typeAssert_lacksB Tryz.underlying174 (by kernel_rfl) (by kernel_rfl) v xT w
theorem noUnwrapE (v : Value) (xT : TypeId) (w : World) : (Instr.typeAssert (.iface 242 v) xT 177 true).run Tryz.prog w = .ok (.tuple #[.nilIface, .bool false]) w := run_typeAssert_lacksB Tryz.underlying177 (by kernel_rfl) (by kernel_rfl) v xT w
theorem noUnwrapsE (v : Value) (xT : TypeId) (w : World) : (Instr.typeAssert (.iface 242 v) xT 179 true).run Tryz.prog w = .ok (.tuple #[.nilIface, .bool false]) w := run_typeAssert_lacksB Tryz.underlying179 (by kernel_rfl) (by kernel_rfl) v xT w
theorem noIsE (v : Value) (xT : TypeId) (w : World) : (Instr.typeAssert (.iface 242 v) xT 181 true).run Tryz.prog w = .ok (.tuple #[.nilIface, .bool false]) w := run_typeAssert_lacksB Tryz.underlying181 (by kernel_rfl) (by kernel_rfl) v xT w
theorem noIsP (v : Value) (xT : TypeId) (w : World) : (Instr.typeAssert (.iface 95 v) xT 181 true).run Tryz.prog w = .ok (.tuple #[.nilIface, .bool false]) w := run_typeAssert_lacksB Tryz.underlying181 (by kernel_rfl) (by kernel_rfl) v xT w
theorem hasUnwrapP (v : Value) (xT : TypeId) (w : World) : (Instr.typeAssert (.iface 95 v) xT 177 true).run Tryz.prog w = .ok (.tuple #[.iface 95 v, .bool true]) w := run_typeAssert_hasB Tryz.underlying177 (by kernel_rfl) v xT w
theorem methodUnwrap (v : Value) (w : World) : (Go.method 451 95 v "Unwrap").run Tryz.prog w = .ok (246, v) w := by kernel_rfl
def cmpF : TypeId → Sem Value := fun t => do Go.Extern.Rtype.noPackHeld "Comparable" t; pure (.bool (← typeInfo t).comparable)
theorem isComparable (w : World) : (ReflectliteType.method cmpF #[.agg #[.pointer (some ⟨23, 242, none⟩)]]).run Tryz.prog w = .ok (.bool true) w := by kernel_rfl
theorem methodComparable (v : Value) (w : World) : (Go.method 451 170 v "Comparable").run Tryz.prog w = .ok (253, v) w := by kernel_rfl
theorem isComp : (Tryz.prog.info? 242).map (·.comparable) = some true := by kernel_rfl
theorem isSize : (Tryz.prog.info? 244).map (·.size) = some 1 := by kernel_rfl
end Rf
open Rf

set_option maxHeartbeats 4000000 in
/-- errors.As at the fault itself. -/
theorem as_hit (e : Addr) (t : Nat) (old : Value) (w : World) (hg : w.cell? ⟨9, 0, none⟩ = some (.iface 170 (.agg #[.pointer (some ⟨23, 34, none⟩)]))) (ht : Blk w t 95 #[old]) :
    Calls Tryz.prog 42 #[.iface 95 (.pointer (some e)), .iface 97 (.pointer (some ⟨t, 0, none⟩))] w fun ev w' => ev = .returned (.bool true) ∧ Blk w' t 95 #[.pointer (some e)] ∧ ∀ B, B ≤ t → Below B w w' := by
  have ht0 : w.cell? ⟨t, 0, none⟩ = some old := ht.cell 0
  have hf0 := ht.frozen 0
  have h6 := @run_callFunc_extern Tryz.prog 74 _ (fun args => ReflectliteValue.unpack (args.getD 0 (.tuple #[]))) Tryz.func74 (by kernel_rfl) (by kernel_rfl) (by kernel_rfl) (by kernel_rfl)
  have h7 := @run_callFunc_extern Tryz.prog 75 _ (ReflectliteValue.methodAny (ReflectliteValue.valueError "reflectlite.Value.Type" 0) (fun t _ _ _ => ReflectliteType.toType t)) Tryz.func75 (by kernel_rfl) (by kernel_rfl) (by kernel_rfl) (by kernel_rfl)
  have h8 := @run_callFunc_extern Tryz.prog 76 _ (ReflectliteValue.method (ReflectliteValue.valueError "reflectlite.Value.IsNil" 0) ReflectliteValue.isNil) Tryz.func76 (by kernel_rfl) (by kernel_rfl) (by kernel_rfl) (by kernel_rfl)
  have h27 := @run_callFunc_extern Tryz.prog 242 _ (ReflectliteType.abiMethod fun t => do pure (.int .u8 (← Rtype.kind t))) Tryz.func242 (by kernel_rfl) (by kernel_rfl) (by kernel_rfl) (by kernel_rfl)
  have h37 := @run_callFunc_extern Tryz.prog 254 _ (ReflectliteType.method ReflectliteType.elem) Tryz.func254 (by kernel_rfl) (by kernel_rfl) (by kernel_rfl) (by kernel_rfl)
  have h38 := @run_callFunc_extern Tryz.prog 255 _ (ReflectliteType.relation "Implements" ReflectliteType.implements_) Tryz.func255 (by kernel_rfl) (by kernel_rfl) (by kernel_rfl) (by kernel_rfl)
  have h10 := @run_callFunc_extern Tryz.prog 78 _ ReflectliteType.typeOf Tryz.func78 (by kernel_rfl) (by kernel_rfl) (by kernel_rfl) (by kernel_rfl)
  have h35 := @run_callFunc_extern Tryz.prog 252 _ (ReflectliteType.relation "AssignableTo" ReflectliteType.assignableTo) Tryz.func252 (by kernel_rfl) (by kernel_rfl) (by kernel_rfl) (by kernel_rfl)
  have h11 := @run_callFunc_extern Tryz.prog 104 _ (ReflectliteValue.method (ReflectliteValue.valueError "reflectlite.Value.Elem" 0) ReflectliteValue.elem) Tryz.func104 (by kernel_rfl) (by kernel_rfl) (by kernel_rfl) (by kernel_rfl)
  have h12 := @run_callFunc_extern Tryz.prog 105 _ ReflectliteValue.set Tryz.func105 (by kernel_rfl) (by kernel_rfl) (by kernel_rfl) (by kernel_rfl)
  have tO := typeOfP
  have mA := methodAssignableTo
  have a25 := assignableP
  have v25 := valueOfP
  have f6 := valueOfPP
  have f7 := typePP
  have mK := methodKind
  have mE := methodElem
  have mI := methodImplements
  have k27 := kindPP
  have k25 := kindP
  have e27 := elemPP
  have i25 := implementsP
  have n8 := isNilPP ⟨w.heap.size, 0, none⟩ ⟨t, 0, none⟩ ((w.alloc (.cells #[.pointer (some ⟨t, 0, none⟩)] 97)).alloc (.cells #[.pointer (some ⟨23, 97, none⟩), .pointer (some ⟨w.heap.size, 0, none⟩), .int .u64 150] 133)) (by simp)
  have hlt : 9 < w.heap.size := World.block_lt_of_cell? w _ hg
  have hg2 : ((w.alloc (.cells #[.pointer (some ⟨t, 0, none⟩)] 97)).alloc (.cells #[.pointer (some ⟨23, 97, none⟩), .pointer (some ⟨w.heap.size, 0, none⟩), .int .u64 150] 133)).cell? ⟨9, 0, none⟩ = some (.iface 170 (.agg #[.pointer (some ⟨23, 34, none⟩)])) := by
    rw [World.cell?_alloc_lt _ _ ⟨9, 0, none⟩ (by simp; omega), World.cell?_alloc_lt _ _ ⟨9, 0, none⟩ hlt]; exact hg
  have htl : t < w.heap.size := ht.lt
  have el := elemVPP ⟨w.heap.size, 0, none⟩ ⟨t, 0, none⟩ (((w.alloc (.cells #[.pointer (some ⟨t, 0, none⟩)] 97)).alloc (.cells #[.pointer (some ⟨23, 97, none⟩), .pointer (some ⟨w.heap.size, 0, none⟩), .int .u64 150] 133)).alloc (.cells #[.pointer (some ⟨23, 97, none⟩), .pointer (some ⟨w.heap.size, 0, none⟩), .int .u64 150] 133)) (by rw [World.cell?_alloc_lt _ _ ⟨w.heap.size, 0, none⟩ (by simp; omega)]; simp)
  have st := setP ⟨t, 0, none⟩ ⟨w.heap.size + 1 + 1 + 1, 0, none⟩ e old ((((w.alloc (.cells #[.pointer (some ⟨t, 0, none⟩)] 97)).alloc (.cells #[.pointer (some ⟨23, 97, none⟩), .pointer (some ⟨w.heap.size, 0, none⟩), .int .u64 150] 133)).alloc (.cells #[.pointer (some ⟨23, 97, none⟩), .pointer (some ⟨w.heap.size, 0, none⟩), .int .u64 150] 133)).alloc (.cells #[.pointer (some e)] 95))
    (by rw [World.cell?_alloc_at _ _ _ _ (by simp)]; rfl)
    ((((ht.alloc _).alloc _).alloc _).alloc _ |>.cell 0)
    ((((ht.alloc _).alloc _).alloc _).alloc _ |>.frozen 0)
  have HB := Lib.hid (show ∀ (o1 o2 o3 o4 : Obj) (u : Value), Blk (((((w.alloc o1).alloc o2).alloc o3).alloc o4).setCell ⟨t, 0, none⟩ u) t 95 #[u] from fun o1 o2 o3 o4 u => (((((ht.alloc o1).alloc o2).alloc o3).alloc o4).set_ 0 u))
  have HL := Lib.hid (show ∀ (o1 o2 o3 o4 : Obj) (u : Value) B, B ≤ t → Below B w (((((w.alloc o1).alloc o2).alloc o3).alloc o4).setCell ⟨t, 0, none⟩ u) from fun o1 o2 o3 o4 u B hB => (((((Below.refl B w).alloc (by omega) o1).alloc (by simp; omega) o2).alloc (by simp; omega) o3).alloc (by simp; omega) o4).setCell (p := ⟨t, 0, none⟩) hB u)
  clear ht
  go_enter Tryz.func42, Tryz.ntmps42
  go_wp2
  refine wp_loop_rounds 1 ?_
  rw [rounds_succ]
  go_wp2
  go_ret
  exact ⟨rfl, HB.out _ _ _ _ _, HL.out _ _ _ _ _⟩
end Go.Proofs.YtoomffajodheaaaGreatDoor
namespace Go.Proofs.YtoomffajodheaaaGreatDoor
open Go.RowKit Go.Extern.Stop Go.Stop Go.Extern
open Rf
set_option maxRecDepth 100000

set_option maxHeartbeats 4000000 in
/-- errors.As at a sentinel: no fault. -/
theorem as_miss (e : Addr) (t : Nat) (w : World) (hg : w.cell? ⟨9, 0, none⟩ = some (.iface 170 (.agg #[.pointer (some ⟨23, 34, none⟩)]))) :
    Calls Tryz.prog 42 #[.iface 242 (.pointer (some e)), .iface 97 (.pointer (some ⟨t, 0, none⟩))] w fun ev w' => ev = .returned (.bool false) ∧ Below w.heap.size w w' := by
  have h6 := @run_callFunc_extern Tryz.prog 74 _ (fun args => ReflectliteValue.unpack (args.getD 0 (.tuple #[]))) Tryz.func74 (by kernel_rfl) (by kernel_rfl) (by kernel_rfl) (by kernel_rfl)
  have h7 := @run_callFunc_extern Tryz.prog 75 _ (ReflectliteValue.methodAny (ReflectliteValue.valueError "reflectlite.Value.Type" 0) (fun t _ _ _ => ReflectliteType.toType t)) Tryz.func75 (by kernel_rfl) (by kernel_rfl) (by kernel_rfl) (by kernel_rfl)
  have h8 := @run_callFunc_extern Tryz.prog 76 _ (ReflectliteValue.method (ReflectliteValue.valueError "reflectlite.Value.IsNil" 0) ReflectliteValue.isNil) Tryz.func76 (by kernel_rfl) (by kernel_rfl) (by kernel_rfl) (by kernel_rfl)
  have h27 := @run_callFunc_extern Tryz.prog 242 _ (ReflectliteType.abiMethod fun t => do pure (.int .u8 (← Rtype.kind t))) Tryz.func242 (by kernel_rfl) (by kernel_rfl) (by kernel_rfl) (by kernel_rfl)
  have h37 := @run_callFunc_extern Tryz.prog 254 _ (ReflectliteType.method ReflectliteType.elem) Tryz.func254 (by kernel_rfl) (by kernel_rfl) (by kernel_rfl) (by kernel_rfl)
  have h38 := @run_callFunc_extern Tryz.prog 255 _ (ReflectliteType.relation "Implements" ReflectliteType.implements_) Tryz.func255 (by kernel_rfl) (by kernel_rfl) (by kernel_rfl) (by kernel_rfl)
  have h10 := @run_callFunc_extern Tryz.prog 78 _ ReflectliteType.typeOf Tryz.func78 (by kernel_rfl) (by kernel_rfl) (by kernel_rfl) (by kernel_rfl)
  have h35 := @run_callFunc_extern Tryz.prog 252 _ (ReflectliteType.relation "AssignableTo" ReflectliteType.assignableTo) Tryz.func252 (by kernel_rfl) (by kernel_rfl) (by kernel_rfl) (by kernel_rfl)
  have tO := typeOfE
  have mA := methodAssignableTo
  have a25 := assignableE
  have f6 := valueOfPP
  have f7 := typePP
  have mK := methodKind
  have mE := methodElem
  have mI := methodImplements
  have k27 := kindPP
  have k25 := kindP
  have e27 := elemPP
  have i25 := implementsP
  have nA := noAsE
  have nU := noUnwrapE
  have nV := noUnwrapsE
  have n8 := isNilPP ⟨w.heap.size, 0, none⟩ ⟨t, 0, none⟩ ((w.alloc (.cells #[.pointer (some ⟨t, 0, none⟩)] 97)).alloc (.cells #[.pointer (some ⟨23, 97, none⟩), .pointer (some ⟨w.heap.size, 0, none⟩), .int .u64 150] 133)) (by simp)
  have hlt : 9 < w.heap.size := World.block_lt_of_cell? w _ hg
  have hg2 : ((w.alloc (.cells #[.pointer (some ⟨t, 0, none⟩)] 97)).alloc (.cells #[.pointer (some ⟨23, 97, none⟩), .pointer (some ⟨w.heap.size, 0, none⟩), .int .u64 150] 133)).cell? ⟨9, 0, none⟩ = some (.iface 170 (.agg #[.pointer (some ⟨23, 34, none⟩)])) := by
    rw [World.cell?_alloc_lt _ _ ⟨9, 0, none⟩ (by simp; omega), World.cell?_alloc_lt _ _ ⟨9, 0, none⟩ hlt]; exact hg
  have HL := Lib.hid (show ∀ (o1 o2 o3 : Obj), Below w.heap.size w (((w.alloc o1).alloc o2).alloc o3) from fun o1 o2 o3 => (((Below.refl _ w).alloc (by omega) o1).alloc (by simp) o2).alloc (by simp; omega) o3)
  go_enter Tryz.func42, Tryz.ntmps42
  go_wp2
  refine wp_loop_rounds 1 ?_
  rw [rounds_succ]
  go_wp2
  go_ret
  exact ⟨rfl, HL.out _ _ _⟩

set_option maxHeartbeats 1000000 in
/-- errors.Is at a sentinel itself. -/
theorem is_same (a : Addr) (w : World) :
    Calls Tryz.prog 43 #[.iface 242 (.pointer (some a)), .iface 242 (.pointer (some a))] w fun e w' => e = .returned (.bool true) ∧ w = w' := by
  obtain ⟨i, hi, hcmp⟩ := Option.map_eq_some_iff.1 isComp
  obtain ⟨j, hj, hjs⟩ := Option.map_eq_some_iff.1 isSize
  have h10 := @run_callFunc_extern Tryz.prog 78 _ ReflectliteType.typeOf Tryz.func78 (by kernel_rfl) (by kernel_rfl) (by kernel_rfl) (by kernel_rfl)
  have h32 := @run_callFunc_extern Tryz.prog 253 _ (ReflectliteType.method cmpF) Tryz.func253 (by kernel_rfl) (by kernel_rfl) (by kernel_rfl) (by kernel_rfl)
  have tT := typeOfE
  have cT := isComparable
  have mR := methodComparable
  have nE := noIsE
  have uE := noUnwrapE
  have vE := noUnwrapsE
  have nW := noIsP
  have uW := hasUnwrapP
  have mU := methodUnwrap
  have heq := run_eql_iface_ptr_same (P := Tryz.prog) w a Tryz.underlying34 Tryz.underlying242 hi hcmp hj
  go_enter Tryz.func43, Tryz.ntmps43
  go_wp2
  refine wp_loop_rounds 1 ?_
  rw [rounds_succ]
  go_wp2
  go_ret
  exact ⟨rfl, rfl⟩

set_option maxHeartbeats 1000000 in
/-- errors.Is at two sentinels. -/
theorem is_other (a b : Addr) (ca cb : Array Value) (ta tb : TypeId) (w : World) (hne : a ≠ b) (ha : w.heap[a.block]? = some (.cells ca ta (0, 0))) (hb : w.heap[b.block]? = some (.cells cb tb (0, 0))) :
    Calls Tryz.prog 43 #[.iface 242 (.pointer (some a)), .iface 242 (.pointer (some b))] w fun e w' => e = .returned (.bool false) ∧ w = w' := by
  obtain ⟨i, hi, hcmp⟩ := Option.map_eq_some_iff.1 isComp
  obtain ⟨j, hj, hjs⟩ := Option.map_eq_some_iff.1 isSize
  have h10 := @run_callFunc_extern Tryz.prog 78 _ ReflectliteType.typeOf Tryz.func78 (by kernel_rfl) (by kernel_rfl) (by kernel_rfl) (by kernel_rfl)
  have h32 := @run_callFunc_extern Tryz.prog 253 _ (ReflectliteType.method cmpF) Tryz.func253 (by kernel_rfl) (by kernel_rfl) (by kernel_rfl) (by kernel_rfl)
  have tT := typeOfE
  have cT := isComparable
  have mR := methodComparable
  have nE := noIsE
  have uE := noUnwrapE
  have vE := noUnwrapsE
  have nW := noIsP
  have uW := hasUnwrapP
  have mU := methodUnwrap
  have heq := run_eql_iface_ptr_other (P := Tryz.prog) w Tryz.underlying34 Tryz.underlying242 hi hcmp hj (by rw [hjs]; decide) hne ha hb
  go_enter Tryz.func43, Tryz.ntmps43
  go_wp2
  refine wp_loop_rounds 1 ?_
  rw [rounds_succ]
  go_wp2
  go_ret
  exact ⟨rfl, rfl⟩

theorem unwrap_any (f : Nat) (x : Value) (t : Value) (w : World) (h : Blk w f 99 #[x, t]) :
    Calls Tryz.prog 246 #[.pointer (some ⟨f, 0, none⟩)] w fun e w' => e = .returned t ∧ w = w' := by
  have c1 : w.cell? ⟨f, 1, none⟩ = some t := h.cell 1
  go_enter Tryz.func246, Tryz.ntmps246
  go_wp2
  go_ret
  exact ⟨rfl, rfl⟩

set_option maxHeartbeats 1000000 in
/-- errors.Is at a fault of a sentinel. -/
theorem is_fault_same (f : Nat) (x : Value) (b : Addr) (w : World) (h1 : Blk w f 99 #[x, .iface 242 (.pointer (some b))]) :
    Calls Tryz.prog 43 #[.iface 95 (.pointer (some ⟨f, 0, none⟩)), .iface 242 (.pointer (some b))] w fun e w' => e = .returned (.bool true) ∧ w = w' := by
  obtain ⟨i, hi, hcmp⟩ := Option.map_eq_some_iff.1 isComp
  obtain ⟨j, hj, hjs⟩ := Option.map_eq_some_iff.1 isSize
  have h10 := @run_callFunc_extern Tryz.prog 78 _ ReflectliteType.typeOf Tryz.func78 (by kernel_rfl) (by kernel_rfl) (by kernel_rfl) (by kernel_rfl)
  have h32 := @run_callFunc_extern Tryz.prog 253 _ (ReflectliteType.method cmpF) Tryz.func253 (by kernel_rfl) (by kernel_rfl) (by kernel_rfl) (by kernel_rfl)
  have tT := typeOfE
  have cT := isComparable
  have mR := methodComparable
  have nE := noIsE
  have uE := noUnwrapE
  have vE := noUnwrapsE
  have nW := noIsP
  have uW := hasUnwrapP
  have mU := methodUnwrap
  have heq := run_eql_iface_ptr_same (P := Tryz.prog) w b Tryz.underlying34 Tryz.underlying242 hi hcmp hj
  have hty := run_eql_iface_types (P := Tryz.prog) 95 242 (.pointer (some ⟨f, 0, none⟩)) (.pointer (some b)) Tryz.underlying34 (by decide) w
  have H1 := Lib.hid h1
  clear h1
  go_enter Tryz.func43, Tryz.ntmps43
  go_wp2
  refine wp_loop_rounds 2 ?_
  rw [rounds_succ]
  go_wp2_with (go_at_call 246; refine (unwrap_any f _ _ _ H1.out).mono ?_; rintro e w1 ⟨rfl, rfl⟩)
  rw [rounds_succ]
  go_wp2
  go_ret
  exact ⟨rfl, rfl⟩

set_option maxHeartbeats 1000000 in
/-- errors.Is at a fault of another sentinel. -/
theorem is_fault_other (f : Nat) (x : Value) (a b : Addr) (ca cb : Array Value) (ta tb : TypeId) (w : World) (h1 : Blk w f 99 #[x, .iface 242 (.pointer (some a))]) (hne : a ≠ b) (ha : w.heap[a.block]? = some (.cells ca ta (0, 0))) (hb : w.heap[b.block]? = some (.cells cb tb (0, 0))) :
    Calls Tryz.prog 43 #[.iface 95 (.pointer (some ⟨f, 0, none⟩)), .iface 242 (.pointer (some b))] w fun e w' => e = .returned (.bool false) ∧ w = w' := by
  obtain ⟨i, hi, hcmp⟩ := Option.map_eq_some_iff.1 isComp
  obtain ⟨j, hj, hjs⟩ := Option.map_eq_some_iff.1 isSize
  have h10 := @run_callFunc_extern Tryz.prog 78 _ ReflectliteType.typeOf Tryz.func78 (by kernel_rfl) (by kernel_rfl) (by kernel_rfl) (by kernel_rfl)
  have h32 := @run_callFunc_extern Tryz.prog 253 _ (ReflectliteType.method cmpF) Tryz.func253 (by kernel_rfl) (by kernel_rfl) (by kernel_rfl) (by kernel_rfl)
  have tT := typeOfE
  have cT := isComparable
  have mR := methodComparable
  have nE := noIsE
  have uE := noUnwrapE
  have vE := noUnwrapsE
  have nW := noIsP
  have uW := hasUnwrapP
  have mU := methodUnwrap
  have heq := run_eql_iface_ptr_other (P := Tryz.prog) w Tryz.underlying34 Tryz.underlying242 hi hcmp hj (by rw [hjs]; decide) hne ha hb
  have hty := run_eql_iface_types (P := Tryz.prog) 95 242 (.pointer (some ⟨f, 0, none⟩)) (.pointer (some b)) Tryz.underlying34 (by decide) w
  have H1 := Lib.hid h1
  clear h1
  go_enter Tryz.func43, Tryz.ntmps43
  go_wp2
  refine wp_loop_rounds 2 ?_
  rw [rounds_succ]
  go_wp2_with (go_at_call 246; refine (unwrap_any f _ _ _ H1.out).mono ?_; rintro e w1 ⟨rfl, rfl⟩)
  rw [rounds_succ]
  go_wp2
  go_ret
  exact ⟨rfl, rfl⟩
end Go.Proofs.YtoomffajodheaaaGreatDoor
namespace Go.Proofs.YtoomffajodheaaaGreatDoor
open Go.RowKit
set_option maxRecDepth 100000
/-- All nine sentinels, apart; the variable errors.errorType. -/
structure All9 (w : World) (B : Nat) (S : Nat → Addr) : Prop where
  s : Snt w B S [1, 2, 3, 4, 5, 6, 7, 8, 9]
  blk : ∀ k, 1 ≤ k → k ≤ 9 → ∃ cs t, w.heap[(S k).block]? = some (.cells cs t (0, 0))
  ne : ∀ j k, 1 ≤ j → j ≤ 9 → 1 ≤ k → k ≤ 9 → j ≠ k → S j ≠ S k
  gB : 9 < B
  g : w.cell? ⟨9, 0, none⟩ = some (.iface 170 (.agg #[.pointer (some ⟨23, 34, none⟩)]))
theorem All9.below {w w' : World} {B : Nat} {S : Nat → Addr} (h : All9 w B S) (hb : Below B w w') : All9 w' B S where
  s := h.s.below hb
  blk := fun k h1 h9 => by
    obtain ⟨cs, t, e⟩ := h.blk k h1 h9
    exact ⟨cs, t, (hb.block _ (h.s k (by simp; omega)).2.1).trans e⟩
  ne := h.ne
  gB := h.gB
  g := (hb.cell h.gB).trans h.g
theorem All9.more {w : World} {B B' : Nat} {S : Nat → Addr} (h : All9 w B S) (hB : B ≤ B') : All9 w B' S := ⟨h.s.more hB, h.blk, h.ne, Nat.lt_of_lt_of_le h.gB hB, h.g⟩

/-- What errors.Is says of an error and each sentinel. -/
def IsAll (w : World) (S : Nat → Addr) (v : Value) (k : Nat) : Prop := ∀ j, 1 ≤ j → j ≤ 9 → ∀ w', Below w.heap.size w w' → Calls Tryz.prog 43 #[v, sv S j] w' fun e w'' => e = .returned (.bool (j == k)) ∧ w' = w''
theorem isAll_bare {w : World} {B : Nat} {S : Nat → Addr} (h : All9 w B S) (hB : B ≤ w.heap.size) {k : Nat} (h1 : 1 ≤ k) (h9 : k ≤ 9) : IsAll w S (sv S k) k := fun j j1 j9 w' hb => by
  have h' := h.below (hb.mono hB)
  by_cases e : j = k
  · subst e
    rw [beq_self_eq_true]
    exact is_same (S j) w'
  · obtain ⟨c1, t1, b1⟩ := h'.blk k h1 h9
    obtain ⟨c2, t2, b2⟩ := h'.blk j j1 j9
    rw [beq_eq_false_iff_ne.2 e]
    exact is_other (S k) (S j) c1 c2 t1 t2 w' (h.ne k j h1 h9 j1 j9 (fun h => e h.symm)) b1 b2
theorem isAll_fault {w : World} {B : Nat} {S : Nat → Addr} (h : All9 w B S) (hB : B ≤ w.heap.size) {k : Nat} (h1 : 1 ≤ k) (h9 : k ≤ 9) {f : Nat} {x : Value} (hf : Blk w f 99 #[x, sv S k]) : IsAll w S (.iface 95 (.pointer (some ⟨f, 0, none⟩))) k := fun j j1 j9 w' hb => by
  have h' := h.below (hb.mono hB)
  have hf' := hf.below hb hf.lt
  by_cases e : j = k
  · subst e
    rw [beq_self_eq_true]
    exact is_fault_same f x (S j) w' hf'
  · obtain ⟨c1, t1, b1⟩ := h'.blk k h1 h9
    obtain ⟨c2, t2, b2⟩ := h'.blk j j1 j9
    rw [beq_eq_false_iff_ne.2 e]
    exact is_fault_other f x (S k) (S j) c1 c2 t1 t2 w' hf' (h.ne k j h1 h9 j1 j9 (fun h => e h.symm)) b1 b2
/-- Ten: another error. -/
def codeNum (k : Nat) : Int := if k = 10 then -1 else k
theorem ret_pair {a b : Int} {x y : Int} (h : a = b) (h2 : x = y) : Ending.returned (.tuple #[.int .i64 a, .int .i64 x]) = .returned (.tuple #[.int .i64 b, .int .i64 y]) := by rw [h, h2]
theorem codeNum_of {n k : Nat} (h : n + 1 = k) (h9 : k ≤ 9) : ((n : Int) + 1) = codeNum k := by unfold codeNum; rw [if_neg (by omega)]; omega
theorem code_nil (w : World) : Calls Tryz.prog 25 #[.nilIface] w fun e w' => e = .returned (.tuple #[.int .i64 0, .int .i64 (-1)]) ∧ w = w' := by
  go_enter Tryz.func25, Tryz.ntmps25
  go_wp2
  go_ret2
  exact ⟨rfl, rfl⟩

set_option maxHeartbeats 2000000 in
theorem code_miss (e0 : Addr) (k : Nat) (S : Nat → Addr) (w : World) (B : Nat) (hB : B ≤ w.heap.size) (h : All9 w B S) (hk1 : 1 ≤ k) (hk2 : k ≤ 10) (hIs : IsAll w S (.iface 242 (.pointer (some e0))) k) :
    Calls Tryz.prog 25 #[.iface 242 (.pointer (some e0))] w fun e w' => e = .returned (.tuple #[.int .i64 (codeNum k), .int .i64 (-1)]) ∧ Below w.heap.size w w' := by
  have hcells : ∀ (b9 : Nat) (w9 : World), Blk w9 b9 34 #[sv S 1, sv S 2, sv S 3, sv S 4, sv S 5, sv S 6, sv S 7, sv S 8, sv S 9] → ∀ i, i < 9 → w9.cell? ⟨b9, i, none⟩ = some (sv S (i + 1)) := fun b9 w9 h9 i hi => by
    have := h9.cell i
    rw [this]
    have : i = 0 ∨ i = 1 ∨ i = 2 ∨ i = 3 ∨ i = 4 ∨ i = 5 ∨ i = 6 ∨ i = 7 ∨ i = 8 := by omega
    rcases this with rfl | rfl | rfl | rfl | rfl | rfl | rfl | rfl | rfl <;> rfl
  have HC := Lib.hid hcells
  have HI := Lib.hid hIs
  have HK := Lib.hid hk1
  clear hcells hIs
  go_enter Tryz.func25, Tryz.ntmps25
  go_wp2_with fail
  refine (as_miss e0 w.heap.size _ ((h.below ((Below.refl _ _).alloc hB _)).g)).mono ?_
  rintro e w1 ⟨rfl, k1⟩
  have kk : Below w.heap.size w w1 := ((Below.refl _ _).alloc (Nat.le_refl _) _).trans (k1.mono (by simp))
  have h1 := h.below (kk.mono hB)
  have g1 : w1.cell? ⟨G 1, 0, none⟩ = some (sv S 1) := (h1.s 1 (by simp)).2.2
  have g2 : w1.cell? ⟨G 2, 0, none⟩ = some (sv S 2) := (h1.s 2 (by simp)).2.2
  have g3 : w1.cell? ⟨G 3, 0, none⟩ = some (sv S 3) := (h1.s 3 (by simp)).2.2
  have g4 : w1.cell? ⟨G 4, 0, none⟩ = some (sv S 4) := (h1.s 4 (by simp)).2.2
  have g5 : w1.cell? ⟨G 5, 0, none⟩ = some (sv S 5) := (h1.s 5 (by simp)).2.2
  have g6 : w1.cell? ⟨G 6, 0, none⟩ = some (sv S 6) := (h1.s 6 (by simp)).2.2
  have g7 : w1.cell? ⟨G 7, 0, none⟩ = some (sv S 7) := (h1.s 7 (by simp)).2.2
  have g8 : w1.cell? ⟨G 8, 0, none⟩ = some (sv S 8) := (h1.s 8 (by simp)).2.2
  have g9 : w1.cell? ⟨G 9, 0, none⟩ = some (sv S 9) := (h1.s 9 (by simp)).2.2
  simp only [G, sv] at g1 g2 g3 g4 g5 g6 g7 g8 g9
  go_wp2_with fail
  go_loopw [3, 27] (fun at_ ix wr => ∃ n : Nat, ix = .int .i64 n ∧ at_ = .int .i64 (-1) ∧ n ≤ 9 ∧ n < k ∧ Blk wr w1.heap.size 34 #[sv S 1, sv S 2, sv S 3, sv S 4, sv S 5, sv S 6, sv S 7, sv S 8, sv S 9] ∧ Below w.heap.size w wr) (fun _ ix _ => 9 - (intOf ix).toNat)
  case atStart => exact ⟨0, rfl, rfl, by omega, by omega, Blk.new _ _ _, kk.alloc kk.size _⟩
  case round =>
    obtain ⟨n, rfl, rfl, hn9, hnk, b9, bw⟩ := hrel
    have B9 := Lib.hid b9
    have BW := Lib.hid bw
    clear b9 bw
    by_cases hlt : n < 9
    · have cn := HC.out _ _ B9.out n hlt
      by_cases hnk2 : n + 1 = k
      · have Hn := Lib.hid hnk2
        clear hnk2
        simp only [sv] at cn
        go_wp2_with fail
        refine (HI.out (n + 1) (by omega) (by omega) _ BW.out).mono ?_
        rintro e w9 ⟨rfl, rfl⟩
        rw [show ((n + 1 == k) = true) from beq_iff_eq.2 Hn.out]
        go_wp2_with fail
        go_ret2
        exact ⟨ret_pair (codeNum_of Hn.out (by have := Hn.out; omega)) rfl, BW.out⟩
      · have Hn := Lib.hid hnk2
        have hn3 : n + 1 < k := by omega
        clear hnk2
        simp only [sv] at cn
        go_wp2_with fail
        refine (HI.out (n + 1) (by omega) (by omega) _ BW.out).mono ?_
        rintro e w9 ⟨rfl, rfl⟩
        rw [show ((n + 1 == k) = false) from beq_eq_false_iff_ne.2 Hn.out]
        go_wp2_with fail
        go_roundw
        case rel => exact ⟨n + 1, by go_num, rfl, by omega, by omega, B9.out, BW.out⟩
        case measure => simp [intOf]; omega
    · have h10 : k = 10 := by omega
      have H10 := Lib.hid h10
      clear h10
      go_wp2_with fail
      go_ret2
      exact ⟨ret_pair (by rw [H10.out]; rfl) rfl, BW.out⟩

set_option maxHeartbeats 2000000 in
theorem code_hit (f : Nat) (a : Int) (t : Value) (k : Nat) (S : Nat → Addr) (w : World) (B : Nat) (hB : B ≤ w.heap.size) (h : All9 w B S) (hk1 : 1 ≤ k) (hk2 : k ≤ 9) (hf : Blk w f 99 #[.int .i64 a, t]) (hIs : IsAll w S (.iface 95 (.pointer (some ⟨f, 0, none⟩))) k) :
    Calls Tryz.prog 25 #[.iface 95 (.pointer (some ⟨f, 0, none⟩))] w fun e w' => e = .returned (.tuple #[.int .i64 k, .int .i64 a]) ∧ Below w.heap.size w w' := by
  have hcells : ∀ (b9 : Nat) (w9 : World), Blk w9 b9 34 #[sv S 1, sv S 2, sv S 3, sv S 4, sv S 5, sv S 6, sv S 7, sv S 8, sv S 9] → ∀ i, i < 9 → w9.cell? ⟨b9, i, none⟩ = some (sv S (i + 1)) := fun b9 w9 h9 i hi => by
    have := h9.cell i
    rw [this]
    have : i = 0 ∨ i = 1 ∨ i = 2 ∨ i = 3 ∨ i = 4 ∨ i = 5 ∨ i = 6 ∨ i = 7 ∨ i = 8 := by omega
    rcases this with rfl | rfl | rfl | rfl | rfl | rfl | rfl | rfl | rfl <;> rfl
  have HC := Lib.hid hcells
  have HI := Lib.hid hIs
  have HK := Lib.hid hk1
  clear hcells hIs
  go_enter Tryz.func25, Tryz.ntmps25
  go_wp2_with fail
  refine (as_hit ⟨f, 0, none⟩ w.heap.size (.pointer none) _ ((h.below ((Below.refl _ _).alloc hB _)).g) (Blk.new _ _ _)).mono ?_
  rintro e w1 ⟨rfl, hb4, k1⟩
  have k1' := k1 w.heap.size (Nat.le_refl _)
  have kk : Below w.heap.size w w1 := ((Below.refl _ _).alloc (Nat.le_refl _) _).trans k1'
  have p1 : w1.cell? ⟨w.heap.size, 0, none⟩ = some (.pointer (some ⟨f, 0, none⟩)) := hb4.cell 0
  have p2 : w1.cell? ⟨f, 0, none⟩ = some (.int .i64 a) := (hf.below kk hf.lt).cell 0
  have h1 := h.below (kk.mono hB)
  have g1 : w1.cell? ⟨G 1, 0, none⟩ = some (sv S 1) := (h1.s 1 (by simp)).2.2
  have g2 : w1.cell? ⟨G 2, 0, none⟩ = some (sv S 2) := (h1.s 2 (by simp)).2.2
  have g3 : w1.cell? ⟨G 3, 0, none⟩ = some (sv S 3) := (h1.s 3 (by simp)).2.2
  have g4 : w1.cell? ⟨G 4, 0, none⟩ = some (sv S 4) := (h1.s 4 (by simp)).2.2
  have g5 : w1.cell? ⟨G 5, 0, none⟩ = some (sv S 5) := (h1.s 5 (by simp)).2.2
  have g6 : w1.cell? ⟨G 6, 0, none⟩ = some (sv S 6) := (h1.s 6 (by simp)).2.2
  have g7 : w1.cell? ⟨G 7, 0, none⟩ = some (sv S 7) := (h1.s 7 (by simp)).2.2
  have g8 : w1.cell? ⟨G 8, 0, none⟩ = some (sv S 8) := (h1.s 8 (by simp)).2.2
  have g9 : w1.cell? ⟨G 9, 0, none⟩ = some (sv S 9) := (h1.s 9 (by simp)).2.2
  simp only [G, sv] at g1 g2 g3 g4 g5 g6 g7 g8 g9
  clear h1 hb4 k1 k1'
  go_wp2_with fail
  go_loopw [3, 27] (fun at_ ix wr => ∃ n : Nat, ix = .int .i64 n ∧ at_ = .int .i64 (a) ∧ n ≤ 9 ∧ n < k ∧ Blk wr w1.heap.size 34 #[sv S 1, sv S 2, sv S 3, sv S 4, sv S 5, sv S 6, sv S 7, sv S 8, sv S 9] ∧ Below w.heap.size w wr) (fun _ ix _ => 9 - (intOf ix).toNat)
  case atStart => exact ⟨0, rfl, rfl, by omega, by omega, Blk.new _ _ _, kk.alloc kk.size _⟩
  case round =>
    obtain ⟨n, rfl, rfl, hn9, hnk, b9, bw⟩ := hrel
    have B9 := Lib.hid b9
    have BW := Lib.hid bw
    clear b9 bw
    by_cases hlt : n < 9
    · have cn := HC.out _ _ B9.out n hlt
      by_cases hnk2 : n + 1 = k
      · have Hn := Lib.hid hnk2
        clear hnk2
        simp only [sv] at cn
        go_wp2_with fail
        refine (HI.out (n + 1) (by omega) (by omega) _ BW.out).mono ?_
        rintro e w9 ⟨rfl, rfl⟩
        rw [show ((n + 1 == k) = true) from beq_iff_eq.2 Hn.out]
        go_wp2_with fail
        go_ret2
        exact ⟨ret_pair (by have := Hn.out; omega) rfl, BW.out⟩
      · have Hn := Lib.hid hnk2
        have hn3 : n + 1 < k := by omega
        clear hnk2
        simp only [sv] at cn
        go_wp2_with fail
        refine (HI.out (n + 1) (by omega) (by omega) _ BW.out).mono ?_
        rintro e w9 ⟨rfl, rfl⟩
        rw [show ((n + 1 == k) = false) from beq_eq_false_iff_ne.2 Hn.out]
        go_wp2_with fail
        go_roundw
        case rel => exact ⟨n + 1, by go_num, rfl, by omega, by omega, B9.out, BW.out⟩
        case measure => simp [intOf]; omega
    · omega

/-- plain.Code tells an error's number and place. -/
theorem code_any (v : Value) (k : Nat) (a : Int) (S : Nat → Addr) (w : World) (B : Nat) (hB : B ≤ w.heap.size) (h : All9 w B S) (hv : Er w B S v k a) :
    Calls Tryz.prog 25 #[v] w fun e w' => e = .returned (.tuple #[.int .i64 k, .int .i64 a]) ∧ Below w.heap.size w w' := by
  cases hv with
  | nil => exact (code_nil w).mono fun e w' ⟨h1, h2⟩ => ⟨h1, h2 ▸ Below.refl _ _⟩
  | bare k h1 h9 =>
    have := code_miss (S k) k S w B hB h h1 (by omega) (isAll_bare h hB h1 h9)
    rw [show codeNum k = k from if_neg (by omega)] at this
    exact this
  | fault k h1 h9 b a hb hk => exact code_hit b a (sv S k) k S w B hB h h1 h9 hk (isAll_fault h hB h1 h9 hk)
end Go.Proofs.YtoomffajodheaaaGreatDoor
