/- errors.As at the target *api.Errno, where the error is nil or an api.Errno itself. api.Tell and plain.Place at nil and at an *api.At. api.Tell, plain.Place and is, at nil and at an *api.At. -/
import Derived.Test.YtnjjajanfedjiaaGreatDoorProg
import Derived.Test.YtnjjajanfedjiaaGreatDoorPtuM1
import Derived.LaidEql
import Derived.Stop.Asserts
import Derived.RowKitTokens
import Derived.Test.YtnjjajanfedjiaaGreatDoorPtuM3
import Derived.Deep.CutBlock
set_option linter.unusedSimpArgs false
set_option linter.unusedVariables false
namespace Go.Proofs.YtnjjajanfedjiaaGreatDoor
theorem World.heap_size_alloc' (w : World) (o : Obj) : (w.alloc o).heap.size = w.heap.size + 1 := Array.size_push _
open Go.RowKit Go.Extern.Stop Go.Stop Go.Extern
abbrev hdl (t : Nat) : Value := .pointer (some ⟨13, t, none⟩)
theorem ty_valueOfP (t : Addr) (w : World) : (ReflectliteValue.unpack (.iface 151 (.pointer (some t)))).run Tryz.prog w
  = .ok (.agg #[.pointer (some ⟨13, 151, none⟩), .pointer (some ⟨w.heap.size, 0, none⟩), .int .u64 150]) (w.alloc (.cells #[.pointer (some t)] 151)) := by kernel_rfl
theorem ty_typeP (a : Addr) (w : World) : (ReflectliteValue.methodAny (ReflectliteValue.valueError "reflectlite.Value.Type" 0) (fun t _ _ _ => ReflectliteType.toType t) #[.agg #[.pointer (some ⟨13, 151, none⟩), .pointer (some a), .int .u64 150]]).run Tryz.prog w
  = .ok (.iface 216 (.agg #[.pointer (some ⟨13, 151, none⟩)])) w := by kernel_rfl
theorem ty_methodKind (h : Value) (w : World) : (Go.method 392 216 (.agg #[h]) "Kind").run Tryz.prog w = .ok (211, h) w := by kernel_rfl
theorem ty_kindP (w : World) : ((ReflectliteType.abiMethod fun t => (fun a : Nat => Value.int IntKind.u8 (a : Int)) <$> Rtype.kind t) #[.pointer (some ⟨13, 151, none⟩)]).run Tryz.prog w = .ok (.int .u8 22) w := by kernel_rfl
theorem ty_kindE (w : World) : ((ReflectliteType.abiMethod fun t => (fun a : Nat => Value.int IntKind.u8 (a : Int)) <$> Rtype.kind t) #[.pointer (some ⟨13, 27, none⟩)]).run Tryz.prog w = .ok (.int .u8 2) w := by kernel_rfl
theorem rlm (z : Sem Value) (f : TypeId → Addr → Nat → Nat → Sem Value) (v : Value) :
  ReflectliteValue.method z f #[v] = (do match ← ReflectliteValue.parts v with | none => z | some (t, a, fl) => f t a fl (fl % 32)) := rfl
theorem ty_partsP (a : Addr) (w : World) : (ReflectliteValue.parts (.agg #[.pointer (some ⟨13, 151, none⟩), .pointer (some a), .int .u64 150])).run Tryz.prog w = .ok (some (151, a, 150)) w := by kernel_rfl
theorem ty_isNilP (a p : Addr) (W : World) (ha : W.cell? a = some (.pointer (some p))) :
  (ReflectliteValue.method (ReflectliteValue.valueError "reflectlite.Value.IsNil" 0) ReflectliteValue.isNil #[.agg #[.pointer (some ⟨13, 151, none⟩), .pointer (some a), .int .u64 150]]).run Tryz.prog W = .ok (.bool false) W := by
 rw [rlm]
 simp only [Sem.run_bind, ty_partsP, Result.andThen]
 simp [ReflectliteValue.isNil, loadVar, isAgg, underlying, Tryz.underlying151, ha, Result.andThen]
theorem ty_methodElem (h : Value) (w : World) : (Go.method 392 216 (.agg #[h]) "Elem").run Tryz.prog w = .ok (227, .agg #[h]) w := by kernel_rfl
theorem ty_methodImplements (h : Value) (w : World) : (Go.method 392 216 (.agg #[h]) "Implements").run Tryz.prog w = .ok (228, .agg #[h]) w := by kernel_rfl
theorem ty_methodAssignableTo (h : Value) (w : World) : (Go.method 392 216 (.agg #[h]) "AssignableTo").run Tryz.prog w = .ok (225, .agg #[h]) w := by kernel_rfl
theorem ty_elemP (w : World) : (ReflectliteType.method ReflectliteType.elem #[.agg #[.pointer (some ⟨13, 151, none⟩)]]).run Tryz.prog w = .ok (.iface 216 (.agg #[.pointer (some ⟨13, 27, none⟩)])) w := by kernel_rfl
theorem ty_implementsE (w : World) : (ReflectliteType.relation "Implements" ReflectliteType.implements_ #[.agg #[.pointer (some ⟨13, 27, none⟩)], .iface 216 (.agg #[.pointer (some ⟨13, 33, none⟩)])]).run Tryz.prog w = .ok (.bool true) w := by kernel_rfl
theorem ty_typeOfE (v : Value) (w : World) : (ReflectliteType.typeOf #[.iface 27 v]).run Tryz.prog w = .ok (.iface 216 (.agg #[.pointer (some ⟨13, 27, none⟩)])) w := by kernel_rfl
theorem ty_assignableE (w : World) : (ReflectliteType.relation "AssignableTo" ReflectliteType.assignableTo #[.agg #[.pointer (some ⟨13, 27, none⟩)], .iface 216 (.agg #[.pointer (some ⟨13, 27, none⟩)])]).run Tryz.prog w = .ok (.bool true) w := by kernel_rfl
theorem ty_valueOfE (e : Int) (w : World) : (ReflectliteValue.unpack (.iface 27 (.int .i64 e))).run Tryz.prog w
  = .ok (.agg #[.pointer (some ⟨13, 27, none⟩), .pointer (some ⟨w.heap.size, 0, none⟩), .int .u64 130]) (w.alloc (.cells #[.int .i64 e] 27)) := by kernel_rfl
theorem ty_elemOfP (w : World) : (Rtype.elem? 151).run Tryz.prog w = .ok (some 27) w := by kernel_rfl
theorem ty_mkE (p : Addr) (w : World) : (ReflectliteValue.mk 27 p ReflectliteValue.flagAddr).run Tryz.prog w = .ok (.agg #[.pointer (some ⟨13, 27, none⟩), .pointer (some p), .int .u64 386]) w := by kernel_rfl
theorem ty_elemVP (a p : Addr) (W : World) (ha : W.cell? a = some (.pointer (some p))) :
  (ReflectliteValue.method (ReflectliteValue.valueError "reflectlite.Value.Elem" 0) ReflectliteValue.elem #[.agg #[.pointer (some ⟨13, 151, none⟩), .pointer (some a), .int .u64 150]]).run Tryz.prog W
   = .ok (.agg #[.pointer (some ⟨13, 27, none⟩), .pointer (some p), .int .u64 386]) W := by
 rw [rlm]
 simp only [Sem.run_bind, ty_partsP, Result.andThen]
 simp [ReflectliteValue.elem, loadVar, isAgg, underlying, Tryz.underlying151, ha, Result.andThen, ty_elemOfP, ty_mkE]
theorem rls (v x : Value) : ReflectliteValue.set #[v, x] = (do
  let (some (dst, a, fl), some (src, b, _)) := (← ReflectliteValue.parts v, ← ReflectliteValue.parts x)
   | unsupported (.noEntry "extern/(internal/reflectlite.Value).Set.zeroValue")
  if fl / ReflectliteValue.flagAddr % 2 == 0 then unsupported (.noEntry "extern/(internal/reflectlite.Value).Set.unaddressable")
  let val ← loadVar src b
  if ← Rtype.directlyAssignable dst src then storeVar dst a val
  else if ← Rtype.implements dst src then
   if (← Rtype.kind src) == 20 then
    match val with
    | .nilIface => unsupported (.noEntry "extern/reflectlite: a nil value of one interface type handed on as a value of another")
    | _ => storeVar dst a val
   else storeVar dst a (.iface src val)
  else panicString ("reflectlite.Set: value of type " ++ (← Rtype.spelt src) ++ " is not assignable to type " ++ (← Rtype.spelt dst))
  pure (.tuple #[])) := rfl
theorem ty_partsEa (a : Addr) (w : World) : (ReflectliteValue.parts (.agg #[.pointer (some ⟨13, 27, none⟩), .pointer (some a), .int .u64 386])).run Tryz.prog w = .ok (some (27, a, 386)) w := by kernel_rfl
theorem ty_partsE (a : Addr) (w : World) : (ReflectliteValue.parts (.agg #[.pointer (some ⟨13, 27, none⟩), .pointer (some a), .int .u64 130])).run Tryz.prog w = .ok (some (27, a, 130)) w := by kernel_rfl
theorem ty_directE (w : World) : (Rtype.directlyAssignable 27 27).run Tryz.prog w = .ok true w := by kernel_rfl
theorem ty_setE (ta b : Addr) (e : Int) (old : Value) (W : World) (hb : W.cell? b = some (.int .i64 e)) (ht : W.cell? ta = some old) (hf : W.frozen? ta = false) :
  (ReflectliteValue.set #[.agg #[.pointer (some ⟨13, 27, none⟩), .pointer (some ta), .int .u64 386], .agg #[.pointer (some ⟨13, 27, none⟩), .pointer (some b), .int .u64 130]]).run Tryz.prog W
   = .ok (.tuple #[]) (W.setCell ta (.int .i64 e)) := by
 rw [rls]
 simp only [Sem.run_bind, ty_partsEa, ty_partsE, Result.andThen]
 simp [ReflectliteValue.flagAddr, loadVar, isAgg, underlying, Tryz.underlying27, hb, Result.andThen, ty_directE, storeVar, Value.cells, storeCells, Addr.add]
 rw [run_store Tryz.prog W ta _ _ (by rfl)]
 simp [ht, hf]
def ErrTy (w : World) : Prop := w.cell? ⟨3, 0, none⟩ = some (.iface 216 (.agg #[.pointer (some ⟨13, 33, none⟩)]))
theorem ErrTy.keep {L : List Nat} {w w' : World} (h : ErrTy w) (hk : Keeps L w w') (hL : 3 ∉ L) : ErrTy w' := hk.cell_of (p := ⟨3, 0, none⟩) h hL
set_option maxRecDepth 100000 in
set_option maxHeartbeats 4000000 in
theorem as_hit (e : Int) (t : Addr) (old : Value) (w : World) (hg : w.cell? ⟨3, 0, none⟩ = some (.iface 216 (.agg #[.pointer (some ⟨13, 33, none⟩)]))) (ht0 : w.cell? t = some old) (hf0 : w.frozen? t = false) :
  Calls Tryz.prog 85 #[.iface 27 (.int .i64 e), .iface 151 (.pointer (some t))] w fun ev w' => ev = .returned (.bool true) ∧ ((((w.alloc (.cells #[.pointer (some t)] 151)).alloc (.cells #[hdl 151, .pointer (some ⟨w.heap.size, 0, none⟩), .int .u64 150] 176)).alloc (.cells #[hdl 151, .pointer (some ⟨w.heap.size, 0, none⟩), .int .u64 150] 176)).alloc (.cells #[.int .i64 e] 27)).setCell t (.int .i64 e) = w' := by
 have h6 := @run_callFunc_extern Tryz.prog 123 _ (fun args => ReflectliteValue.unpack (args.getD 0 (.tuple #[]))) Tryz.func123 (by kernel_rfl) (by kernel_rfl) (by kernel_rfl) (by kernel_rfl)
 have h7 := @run_callFunc_extern Tryz.prog 124 _ (ReflectliteValue.methodAny (ReflectliteValue.valueError "reflectlite.Value.Type" 0) (fun t _ _ _ => ReflectliteType.toType t)) Tryz.func124 (by kernel_rfl) (by kernel_rfl) (by kernel_rfl) (by kernel_rfl)
 have h8 := @run_callFunc_extern Tryz.prog 125 _ (ReflectliteValue.method (ReflectliteValue.valueError "reflectlite.Value.IsNil" 0) ReflectliteValue.isNil) Tryz.func125 (by kernel_rfl) (by kernel_rfl) (by kernel_rfl) (by kernel_rfl)
 have h27 := @run_callFunc_extern Tryz.prog 211 _ (ReflectliteType.abiMethod fun t => do pure (.int .u8 (← Rtype.kind t))) Tryz.func211 (by kernel_rfl) (by kernel_rfl) (by kernel_rfl) (by kernel_rfl)
 have h37 := @run_callFunc_extern Tryz.prog 227 _ (ReflectliteType.method ReflectliteType.elem) Tryz.func227 (by kernel_rfl) (by kernel_rfl) (by kernel_rfl) (by kernel_rfl)
 have h38 := @run_callFunc_extern Tryz.prog 228 _ (ReflectliteType.relation "Implements" ReflectliteType.implements_) Tryz.func228 (by kernel_rfl) (by kernel_rfl) (by kernel_rfl) (by kernel_rfl)
 have h10 := @run_callFunc_extern Tryz.prog 161 _ ReflectliteType.typeOf Tryz.func161 (by kernel_rfl) (by kernel_rfl) (by kernel_rfl) (by kernel_rfl)
 have h35 := @run_callFunc_extern Tryz.prog 225 _ (ReflectliteType.relation "AssignableTo" ReflectliteType.assignableTo) Tryz.func225 (by kernel_rfl) (by kernel_rfl) (by kernel_rfl) (by kernel_rfl)
 have h11 := @run_callFunc_extern Tryz.prog 162 _ (ReflectliteValue.method (ReflectliteValue.valueError "reflectlite.Value.Elem" 0) ReflectliteValue.elem) Tryz.func162 (by kernel_rfl) (by kernel_rfl) (by kernel_rfl) (by kernel_rfl)
 have h12 := @run_callFunc_extern Tryz.prog 163 _ ReflectliteValue.set Tryz.func163 (by kernel_rfl) (by kernel_rfl) (by kernel_rfl) (by kernel_rfl)
 have tO := ty_typeOfE
 have mA := ty_methodAssignableTo
 have a25 := ty_assignableE
 have v25 := ty_valueOfE
 have f6 := ty_valueOfP
 have f7 := ty_typeP
 have mK := ty_methodKind
 have mE := ty_methodElem
 have mI := ty_methodImplements
 have k27 := ty_kindP
 have k25 := ty_kindE
 have e27 := ty_elemP
 have i25 := ty_implementsE
 have n8 := ty_isNilP ⟨w.heap.size, 0, none⟩ t ((w.alloc (.cells #[.pointer (some t)] 151)).alloc (.cells #[hdl 151, .pointer (some ⟨w.heap.size, 0, none⟩), .int .u64 150] 176)) (by simp)
 have hlt : 3 < w.heap.size := World.block_lt_of_cell? w ⟨3, 0, none⟩ hg
 have hg2 : ((w.alloc (.cells #[.pointer (some t)] 151)).alloc (.cells #[hdl 151, .pointer (some ⟨w.heap.size, 0, none⟩), .int .u64 150] 176)).cell? ⟨3, 0, none⟩ = some (.iface 216 (.agg #[.pointer (some ⟨13, 33, none⟩)])) := by
  rw [World.cell?_alloc_lt _ _ ⟨3, 0, none⟩ (show 3 < _ by rw [World.heap_size_alloc']; omega), World.cell?_alloc_lt _ _ ⟨3, 0, none⟩ hlt]; exact hg
 have htl : t.block < w.heap.size := World.block_lt_of_cell? w t ht0
 have el := ty_elemVP ⟨w.heap.size, 0, none⟩ t (((w.alloc (.cells #[.pointer (some t)] 151)).alloc (.cells #[hdl 151, .pointer (some ⟨w.heap.size, 0, none⟩), .int .u64 150] 176)).alloc (.cells #[hdl 151, .pointer (some ⟨w.heap.size, 0, none⟩), .int .u64 150] 176)) (by rw [World.cell?_alloc_lt _ _ ⟨w.heap.size, 0, none⟩ (by simp; omega)]; simp)
 have st := ty_setE t ⟨w.heap.size + 1 + 1 + 1, 0, none⟩ e old ((((w.alloc (.cells #[.pointer (some t)] 151)).alloc (.cells #[hdl 151, .pointer (some ⟨w.heap.size, 0, none⟩), .int .u64 150] 176)).alloc (.cells #[hdl 151, .pointer (some ⟨w.heap.size, 0, none⟩), .int .u64 150] 176)).alloc (.cells #[.int .i64 e] 27))
  (by rw [World.cell?_alloc_at _ _ _ _ (by simp)]; rfl)
  (by rw [World.cell?_alloc_lt _ _ t (by simp; omega), World.cell?_alloc_lt _ _ t (by simp; omega), World.cell?_alloc_lt _ _ t (by simp; omega), World.cell?_alloc_lt _ _ t htl]; exact ht0)
  (by rw [World.frozen?_alloc_old _ _ t (by simp; omega), World.frozen?_alloc_old _ _ t (by simp; omega), World.frozen?_alloc_old _ _ t (by simp; omega), World.frozen?_alloc_old _ _ t (Nat.ne_of_lt htl)]; exact hf0)
 go_enter Tryz.func85, Tryz.ntmps85
 go_wp2
 refine wp_loop_rounds 1 ?_
 rw [rounds_succ]
 go_wp2
 go_ret
 exact ⟨rfl, rfl⟩
end Go.Proofs.YtnjjajanfedjiaaGreatDoor
namespace Go.Proofs.YtnjjajanfedjiaaGreatDoor
open Go.RowKit Go.Extern.Stop Go.Stop Go.Extern
theorem ty_typeOfA (v : Value) (w : World) : (ReflectliteType.typeOf #[.iface 122 v]).run Tryz.prog w = .ok (.iface 216 (.agg #[.pointer (some ⟨13, 122, none⟩)])) w := by kernel_rfl
theorem ty_assignableA (w : World) : (ReflectliteType.relation "AssignableTo" ReflectliteType.assignableTo #[.agg #[.pointer (some ⟨13, 122, none⟩)], .iface 216 (.agg #[.pointer (some ⟨13, 27, none⟩)])]).run Tryz.prog w = .ok (.bool false) w := by kernel_rfl
theorem ty_asA (v : Value) (w : World) : (Instr.typeAssert (.iface 122 v) 33 221 true).run Tryz.prog w = .ok (.tuple #[.nilIface, .bool false]) w := run_typeAssert_lacksB Tryz.underlying221 (by kernel_rfl) (by kernel_rfl) v _ w
theorem ty_unA (v : Value) (w : World) : (Instr.typeAssert (.iface 122 v) 33 144 true).run Tryz.prog w = .ok (.tuple #[.iface 122 v, .bool true]) w := run_typeAssert_hasB Tryz.underlying144 (by kernel_rfl) v _ w
theorem ty_methodUn (a : Addr) (w : World) : (Go.method 392 122 (.pointer (some a)) "Unwrap").run Tryz.prog w = .ok (217, .pointer (some a)) w := by kernel_rfl
theorem unwrap_at (g : Nat) (e : Int) (w : World) (h : w.cell? ⟨g, 0, none⟩ = some (.int .i64 e)) : Calls Tryz.prog 217 #[.pointer (some ⟨g, 0, none⟩)] w fun ev w' => ev = .returned (.iface 27 (.int .i64 e)) ∧ w = w' := by
 have hl := World.block_lt_of_cell? _ _ h
 go_enter Tryz.func217, Tryz.ntmps217
 go_wp2
 go_ret
 exact ⟨rfl, rfl⟩
set_option maxRecDepth 100000 in
set_option maxHeartbeats 8000000 in
theorem as_at (g : Nat) (e : Int) (t : Addr) (old : Value) (w : World) (hg : w.cell? ⟨3, 0, none⟩ = some (.iface 216 (.agg #[.pointer (some ⟨13, 33, none⟩)]))) (hgc : w.cell? ⟨g, 0, none⟩ = some (.int .i64 e)) (ht0 : w.cell? t = some old) (hf0 : w.frozen? t = false) :
  Calls Tryz.prog 85 #[.iface 122 (.pointer (some ⟨g, 0, none⟩)), .iface 151 (.pointer (some t))] w fun ev w' => ev = .returned (.bool true) ∧ ((((w.alloc (.cells #[.pointer (some t)] 151)).alloc (.cells #[hdl 151, .pointer (some ⟨w.heap.size, 0, none⟩), .int .u64 150] 176)).alloc (.cells #[hdl 151, .pointer (some ⟨w.heap.size, 0, none⟩), .int .u64 150] 176)).alloc (.cells #[.int .i64 e] 27)).setCell t (.int .i64 e) = w' := by
 have h6 := @run_callFunc_extern Tryz.prog 123 _ (fun args => ReflectliteValue.unpack (args.getD 0 (.tuple #[]))) Tryz.func123 (by kernel_rfl) (by kernel_rfl) (by kernel_rfl) (by kernel_rfl)
 have h7 := @run_callFunc_extern Tryz.prog 124 _ (ReflectliteValue.methodAny (ReflectliteValue.valueError "reflectlite.Value.Type" 0) (fun t _ _ _ => ReflectliteType.toType t)) Tryz.func124 (by kernel_rfl) (by kernel_rfl) (by kernel_rfl) (by kernel_rfl)
 have h8 := @run_callFunc_extern Tryz.prog 125 _ (ReflectliteValue.method (ReflectliteValue.valueError "reflectlite.Value.IsNil" 0) ReflectliteValue.isNil) Tryz.func125 (by kernel_rfl) (by kernel_rfl) (by kernel_rfl) (by kernel_rfl)
 have h27 := @run_callFunc_extern Tryz.prog 211 _ (ReflectliteType.abiMethod fun t => do pure (.int .u8 (← Rtype.kind t))) Tryz.func211 (by kernel_rfl) (by kernel_rfl) (by kernel_rfl) (by kernel_rfl)
 have h37 := @run_callFunc_extern Tryz.prog 227 _ (ReflectliteType.method ReflectliteType.elem) Tryz.func227 (by kernel_rfl) (by kernel_rfl) (by kernel_rfl) (by kernel_rfl)
 have h38 := @run_callFunc_extern Tryz.prog 228 _ (ReflectliteType.relation "Implements" ReflectliteType.implements_) Tryz.func228 (by kernel_rfl) (by kernel_rfl) (by kernel_rfl) (by kernel_rfl)
 have h10 := @run_callFunc_extern Tryz.prog 161 _ ReflectliteType.typeOf Tryz.func161 (by kernel_rfl) (by kernel_rfl) (by kernel_rfl) (by kernel_rfl)
 have h35 := @run_callFunc_extern Tryz.prog 225 _ (ReflectliteType.relation "AssignableTo" ReflectliteType.assignableTo) Tryz.func225 (by kernel_rfl) (by kernel_rfl) (by kernel_rfl) (by kernel_rfl)
 have h11 := @run_callFunc_extern Tryz.prog 162 _ (ReflectliteValue.method (ReflectliteValue.valueError "reflectlite.Value.Elem" 0) ReflectliteValue.elem) Tryz.func162 (by kernel_rfl) (by kernel_rfl) (by kernel_rfl) (by kernel_rfl)
 have h12 := @run_callFunc_extern Tryz.prog 163 _ ReflectliteValue.set Tryz.func163 (by kernel_rfl) (by kernel_rfl) (by kernel_rfl) (by kernel_rfl)
 have tO := ty_typeOfE
 have mA := ty_methodAssignableTo
 have a25 := ty_assignableE
 have v25 := ty_valueOfE
 have f6 := ty_valueOfP
 have f7 := ty_typeP
 have mK := ty_methodKind
 have mE := ty_methodElem
 have mI := ty_methodImplements
 have k27 := ty_kindP
 have k25 := ty_kindE
 have e27 := ty_elemP
 have i25 := ty_implementsE
 have n8 := ty_isNilP ⟨w.heap.size, 0, none⟩ t ((w.alloc (.cells #[.pointer (some t)] 151)).alloc (.cells #[hdl 151, .pointer (some ⟨w.heap.size, 0, none⟩), .int .u64 150] 176)) (by simp)
 have hlt : 3 < w.heap.size := World.block_lt_of_cell? w ⟨3, 0, none⟩ hg
 have hg2 : ((w.alloc (.cells #[.pointer (some t)] 151)).alloc (.cells #[hdl 151, .pointer (some ⟨w.heap.size, 0, none⟩), .int .u64 150] 176)).cell? ⟨3, 0, none⟩ = some (.iface 216 (.agg #[.pointer (some ⟨13, 33, none⟩)])) := by
  rw [World.cell?_alloc_lt _ _ ⟨3, 0, none⟩ (show 3 < _ by rw [World.heap_size_alloc']; omega), World.cell?_alloc_lt _ _ ⟨3, 0, none⟩ hlt]; exact hg
 have htl : t.block < w.heap.size := World.block_lt_of_cell? w t ht0
 have el := ty_elemVP ⟨w.heap.size, 0, none⟩ t (((w.alloc (.cells #[.pointer (some t)] 151)).alloc (.cells #[hdl 151, .pointer (some ⟨w.heap.size, 0, none⟩), .int .u64 150] 176)).alloc (.cells #[hdl 151, .pointer (some ⟨w.heap.size, 0, none⟩), .int .u64 150] 176)) (by rw [World.cell?_alloc_lt _ _ ⟨w.heap.size, 0, none⟩ (by simp; omega)]; simp)
 have st := ty_setE t ⟨w.heap.size + 1 + 1 + 1, 0, none⟩ e old ((((w.alloc (.cells #[.pointer (some t)] 151)).alloc (.cells #[hdl 151, .pointer (some ⟨w.heap.size, 0, none⟩), .int .u64 150] 176)).alloc (.cells #[hdl 151, .pointer (some ⟨w.heap.size, 0, none⟩), .int .u64 150] 176)).alloc (.cells #[.int .i64 e] 27))
  (by rw [World.cell?_alloc_at _ _ _ _ (by simp)]; rfl)
  (by rw [World.cell?_alloc_lt _ _ t (by simp; omega), World.cell?_alloc_lt _ _ t (by simp; omega), World.cell?_alloc_lt _ _ t (by simp; omega), World.cell?_alloc_lt _ _ t htl]; exact ht0)
  (by rw [World.frozen?_alloc_old _ _ t (by simp; omega), World.frozen?_alloc_old _ _ t (by simp; omega), World.frozen?_alloc_old _ _ t (by simp; omega), World.frozen?_alloc_old _ _ t (Nat.ne_of_lt htl)]; exact hf0)
 have tA := ty_typeOfA
 have aA := ty_assignableA
 have sA := ty_asA
 have uA := ty_unA
 have mU := ty_methodUn ⟨g, 0, none⟩
 have hgl : g < w.heap.size := World.block_lt_of_cell? w ⟨g, 0, none⟩ hgc
 have hgc3 : (((w.alloc (.cells #[.pointer (some t)] 151)).alloc (.cells #[hdl 151, .pointer (some ⟨w.heap.size, 0, none⟩), .int .u64 150] 176)).alloc (.cells #[hdl 151, .pointer (some ⟨w.heap.size, 0, none⟩), .int .u64 150] 176)).cell? ⟨g, 0, none⟩ = some (.int .i64 e) := by
  rw [World.cell?_alloc_lt _ _ ⟨g, 0, none⟩ (show g < _ by rw [World.heap_size_alloc', World.heap_size_alloc']; omega), World.cell?_alloc_lt _ _ ⟨g, 0, none⟩ (show g < _ by rw [World.heap_size_alloc']; omega), World.cell?_alloc_lt _ _ ⟨g, 0, none⟩ hgl]; exact hgc
 go_enter Tryz.func85, Tryz.ntmps85
 go_wp2
 refine wp_loop_rounds 2 ?_
 rw [rounds_succ]
 go_wp2_with fail
 refine (unwrap_at g e _ hgc3).mono ?_
 rintro ev W2 ⟨rfl, rfl⟩
 go_wp2
 rw [rounds_succ]
 go_wp2
 go_ret
 exact ⟨rfl, rfl⟩
end Go.Proofs.YtnjjajanfedjiaaGreatDoor
namespace Go.Proofs.YtnjjajanfedjiaaGreatDoor
open Go.RowKit Go.BigFrame
theorem tell_at (g : Nat) (e p : Int) (w : World) (hE : ErrTy w) (hb : Blk w g 123 #[.int .i64 e, .int .i64 p]) :
  Calls Tryz.prog 49 #[.iface 122 (.pointer (some ⟨g, 0, none⟩))] w fun ev w' => ev = .returned (.int .i64 e) ∧ Keeps [] w w' := by
 have hc : w.cell? ⟨g, 0, none⟩ = some (.int .i64 e) := hb.cell 0
 have hE' : ∀ o, (w.alloc o).cell? ⟨3, 0, none⟩ = some (.iface 216 (.agg #[.pointer (some ⟨13, 33, none⟩)])) := fun o => (World.cell?_alloc_lt w o ⟨3, 0, none⟩ (World.block_lt_of_cell? w ⟨3, 0, none⟩ hE)).trans hE
 have hC' : ∀ o, (w.alloc o).cell? ⟨g, 0, none⟩ = some (.int .i64 e) := fun o => (World.cell?_alloc_lt w o ⟨g, 0, none⟩ (World.block_lt_of_cell? w ⟨g, 0, none⟩ hc)).trans hc
 have HE := Lib.hid hE'
 have HC := Lib.hid hC'
 clear hE hE' hb hc hC'
 go_enter Tryz.func49, Tryz.ntmps49
 go_wp2_with (go_at_call 85; refine (as_at g e _ (.int .i64 0) _ (HE.out _) (HC.out _) (by simp) (by simp)).mono ?_; rintro ev w' ⟨rfl, rfl⟩)
 go_ret
 refine ⟨by simp, ?_⟩
 repeat first | exact Keeps.refl _ _ | refine Keeps.alloc ?_ _ | refine Keeps.setCell ?_ (.inr (Nat.le_refl _)) _
end Go.Proofs.YtnjjajanfedjiaaGreatDoor
