/- Columns and values compared as wholes. The law's sameCols, sameRow, sameTable, of two that are the same and are read only. errors.As at the target *api.Errno, where the error is nil or an api.Errno itself. -/
import Derived.Test.YtpagiajlefejcaaGreatDoorTbrM1
import Derived.Test.YtpagiajlefejcaaGreatDoorTbrM15
import Derived.Test.YtpagiajlefejcaaGreatDoorTbrM5
import Derived.Test.YtpagiajlefejcaaGreatDoorTbrM3
import Derived.Deep.CutBlock
import Derived.Deep.DeepCutAuto
import Derived.Test.YtpagiajlefejcaaGreatDoorProg
import Derived.LaidEql
import Derived.Stop.Asserts
import Derived.RowKitTokens
set_option linter.unusedSimpArgs false
set_option linter.unusedVariables false
namespace Go.Proofs.YtpagiajlefejcaaGreatDoor
open Go.RowKit
attribute [local go_sem] bs_size bs_extract bs_append bs_toList
theorem cNeq (a b : Cl) (W : World) : (binOp .neq 109 (.agg #[.string (bs a.name), .int .i64 a.kind]) (.agg #[.string (bs b.name), .int .i64 b.kind])).run Tryz.prog W = .ok (.bool (!decide (a = b))) W := by
 have hd : decide (a = b) = (decide (a.name = b.name) && decide (a.kind = b.kind)) := by
  obtain ⟨n, k⟩ := a
  obtain ⟨n2, k2⟩ := b
  rw [Bool.eq_iff_iff]
  simp
 rw [hd]
 simp [go_sem]
 by_cases h1 : a.name = b.name <;> by_cases h2 : a.kind = b.kind <;> simp [h1, h2, go_sem]
theorem vNeq (a b : Vl) (W : World) : (binOp .neq 27 (.agg #[.int .i64 a.kind, .int .i64 a.num, .string (bs a.word)]) (.agg #[.int .i64 b.kind, .int .i64 b.num, .string (bs b.word)])).run Tryz.prog W = .ok (.bool (!decide (a = b))) W := by
 have hd : decide (a = b) = (decide (a.kind = b.kind) && decide (a.num = b.num) && decide (a.word = b.word)) := by
  obtain ⟨k, n, s⟩ := a
  obtain ⟨k2, n2, s2⟩ := b
  rw [Bool.eq_iff_iff]
  simp [and_assoc]
 rw [hd]
 simp [go_sem]
 by_cases h1 : a.kind = b.kind <;> by_cases h2 : a.num = b.num <;> by_cases h3 : a.word = b.word <;> simp [h1, h2, h3, go_sem]
end Go.Proofs.YtpagiajlefejcaaGreatDoor
namespace Go.Proofs.YtpagiajlefejcaaGreatDoor
open Go.RowKit Go.BigFrame
attribute [local go_sem] bs_size bs_extract bs_append bs_toList KW.cell
set_option maxRecDepth 100000 in
set_option maxHeartbeats 4000000 in
theorem sameColsR_any (l : List Cl) (A B : Option Addr) (c d : Nat) (w : World) (h1 : Rd w [] 2 A l.length (csCells l)) (h2 : Rd w [] 2 B l.length (csCells l)) (hl : l.length ≤ 4294967296) :
  Calls Tryz.prog 34 #[.slice A l.length c, .slice B l.length d] w fun e w' => e = .returned (.bool true) ∧ Keeps [] w w' := by
 have H1 := Lib.hid h1
 have H2 := Lib.hid h2
 clear h1 h2
 go_enter Tryz.func34, Tryz.ntmps34
 go_wp2
 go_loopw [5] (fun i wr => ∃ m : Nat, m ≤ l.length ∧ i = .int .i64 m ∧ Hid (Keeps [] w wr)) (fun i _ => l.length - (intOf i).toNat)
 case atStart => exact ⟨0, Nat.zero_le _, rfl, Lib.hid (Keeps.refl _ _)⟩
 case round =>
  obtain ⟨m, hm, rfl, HK⟩ := hrel
  obtain ⟨z, rfl⟩ : ∃ z : World, z = wr := ⟨_, rfl⟩
  by_cases hlt : m < l.length
  ·have hi : (m : Int) < (l.length : Int) := by omega
   obtain ⟨g1, o1, rfl, _, l1, q1⟩ := (H1.out.keep HK.out).open' (by omega) (by omega)
   obtain ⟨g2, o2, rfl, _, l2, q2⟩ := (H2.out.keep HK.out).open' (by omega) (by omega)
   have e0 := q1 _ _ (csCells_at l m hlt).1
   have e1 := q1 _ _ (csCells_at l m hlt).2
   have d0 := q2 _ _ (csCells_at l m hlt).1
   have d1 := q2 _ _ (csCells_at l m hlt).2
   rw [← Nat.add_assoc] at e1 d1
   obtain ⟨x, hx⟩ : ∃ x, l[m] = x := ⟨_, rfl⟩
   rw [hx] at e0 e1 d0 d1
   have hcm : ∀ W, (binOp .neq 109 (.agg #[.string (bs x.name), .int .i64 x.kind]) (.agg #[.string (bs x.name), .int .i64 x.kind])).run Tryz.prog W = .ok (.bool false) W := fun W => by have := cNeq x x W; simpa using this
   clear q1 q2 hx
   go_upto_region 6 with (fail)
   refine wp_region_keeps (by kernel_rfl) (by kernel_rfl) ?_
   repeat (go_big_quiet_step (fail))
   refine wpQuiet_nil ?_
   intro wx kx
   have HX := Lib.hid (HK.out.trans kx)
   go_wp2
   go_roundw
   case rel => exact ⟨m + 1, by omega, by go_num, HX⟩
   case measure => simp [intOf]; omega
  ·have hi : ¬ (m : Int) < (l.length : Int) := by omega
   go_wp2
   go_ret
   exact ⟨rfl, HK.out⟩
set_option maxRecDepth 100000 in
set_option maxHeartbeats 4000000 in
theorem sameRowR_any (l : List Vl) (A B : Option Addr) (c d : Nat) (w : World) (h1 : Rd w [] 3 A l.length (vsCells l)) (h2 : Rd w [] 3 B l.length (vsCells l)) (hl : l.length ≤ 4294967296) :
  Calls Tryz.prog 73 #[.slice A l.length c, .slice B l.length d] w fun e w' => e = .returned (.bool true) ∧ Keeps [] w w' := by
 have H1 := Lib.hid h1
 have H2 := Lib.hid h2
 clear h1 h2
 go_enter Tryz.func73, Tryz.ntmps73
 go_wp2
 go_loopw [5] (fun i wr => ∃ m : Nat, m ≤ l.length ∧ i = .int .i64 m ∧ Hid (Keeps [] w wr)) (fun i _ => l.length - (intOf i).toNat)
 case atStart => exact ⟨0, Nat.zero_le _, rfl, Lib.hid (Keeps.refl _ _)⟩
 case round =>
  obtain ⟨m, hm, rfl, HK⟩ := hrel
  obtain ⟨z, rfl⟩ : ∃ z : World, z = wr := ⟨_, rfl⟩
  by_cases hlt : m < l.length
  ·have hi : (m : Int) < (l.length : Int) := by omega
   obtain ⟨g1, o1, rfl, _, l1, q1⟩ := (H1.out.keep HK.out).open' (by omega) (by omega)
   obtain ⟨g2, o2, rfl, _, l2, q2⟩ := (H2.out.keep HK.out).open' (by omega) (by omega)
   obtain ⟨a0, a1, a2⟩ := vsCells_at l m hlt
   have e0 := q1 _ _ a0
   have e1 := q1 _ _ a1
   have e2 := q1 _ _ a2
   have d0 := q2 _ _ a0
   have d1 := q2 _ _ a1
   have d2 := q2 _ _ a2
   rw [← Nat.add_assoc] at e1 d1 e2 d2
   obtain ⟨x, hx⟩ : ∃ x, l[m] = x := ⟨_, rfl⟩
   rw [hx] at e0 e1 e2 d0 d1 d2
   have hcm : ∀ W, (binOp .neq 27 (.agg #[.int .i64 x.kind, .int .i64 x.num, .string (bs x.word)]) (.agg #[.int .i64 x.kind, .int .i64 x.num, .string (bs x.word)])).run Tryz.prog W = .ok (.bool false) W := fun W => by have := vNeq x x W; simpa using this
   clear q1 q2 hx a0 a1 a2
   go_upto_region 6 with (fail)
   refine wp_region_keeps (by kernel_rfl) (by kernel_rfl) ?_
   repeat (go_big_quiet_step (fail))
   refine wpQuiet_nil ?_
   intro wx kx
   have HX := Lib.hid (HK.out.trans kx)
   go_wp2
   go_roundw
   case rel => exact ⟨m + 1, by omega, by go_num, HX⟩
   case measure => simp [intOf]; omega
  ·have hi : ¬ (m : Int) < (l.length : Int) := by omega
   go_wp2
   go_ret
   exact ⟨rfl, HK.out⟩
set_option maxRecDepth 100000 in
set_option maxHeartbeats 8000000 in
theorem sameTable_any (t : Tb) (A B A2 B2 : Option Addr) (c d c2 d2 : Nat) (w : World) (hT : TabRd w t A B) (hU : TabRd w t A2 B2) :
  Calls Tryz.prog 28 #[.agg #[.slice A t.cols.length c, .slice B t.rows.length d], .agg #[.slice A2 t.cols.length c2, .slice B2 t.rows.length d2]] w fun e w' => e = .returned (.bool true) ∧ Keeps [] w w' := by
 have hx := Blk.new w 25 #[.slice A t.cols.length c, .slice B t.rows.length d]
 have hy := Blk.new (w.alloc (.cells #[.slice A t.cols.length c, .slice B t.rows.length d] 25)) 25 #[.slice A2 t.cols.length c2, .slice B2 t.rows.length d2]
 have hk1 := (Keeps.refl [] w).alloc (.cells #[.slice A t.cols.length c, .slice B t.rows.length d] 25)
 have hk := hk1.alloc (.cells #[.slice A2 t.cols.length c2, .slice B2 t.rows.length d2] 25)
 have hx2 := hx.alloc (.cells #[.slice A2 t.cols.length c2, .slice B2 t.rows.length d2] 25)
 have HT := Lib.hid (hT.quiet hk)
 have HU := Lib.hid (hU.quiet hk)
 have HC := Lib.hid (sameColsR_any t.cols A A2 c c2 _ (hT.quiet hk).cols (hU.quiet hk).cols hT.ln)
 have HK := Lib.hid hk
 have hlm := hT.lm
 have HLR := Lib.hid hT.lr
 clear hT hU hk hk1 hx
 have HX := Lib.hid hx2
 have HY := Lib.hid hy
 clear hx2 hy
 go_enter Tryz.func28, Tryz.ntmps28
 go_wp2_with fail
 refine HC.out.mono ?_
 rintro e w2 ⟨rfl, k2⟩
 have hx3 := HX.out.keep k2 (by simp)
 have hy3 := HY.out.keep k2 (by simp)
 rw [show (w.alloc (.cells #[.slice A t.cols.length c, .slice B t.rows.length d] 25)).heap.size = w.heap.size + 1 from Array.size_push _] at hy3
 have HK2 := Lib.hid (HK.out.trans k2)
 have HT2 := Lib.hid (HT.out.quiet k2)
 have HU2 := Lib.hid (HU.out.quiet k2)
 obtain ⟨X, hX⟩ : ∃ X, w.heap.size = X := ⟨_, rfl⟩
 obtain ⟨Y, hY⟩ : ∃ Y, w.heap.size + 1 = Y := ⟨_, rfl⟩
 rw [hY] at hy3
 rw [hX] at hx3
 try rw [hY]
 try rw [hX]
 have x1 : w2.cell? ⟨X, 1, none⟩ = some (.slice B t.rows.length d) := hx3.cell 1
 have y1 : w2.cell? ⟨Y, 1, none⟩ = some (.slice B2 t.rows.length d2) := hy3.cell 1
 have HX2 := Lib.hid hx3
 have HY2 := Lib.hid hy3
 clear k2 hx3 hy3 hX hY HX HY HT HU HC HK
 go_wp2_with fail
 go_loopw [5] (fun i wr => ∃ m : Nat, m ≤ t.rows.length ∧ i = .int .i64 m ∧ Hid (Keeps [] w2 wr)) (fun i _ => t.rows.length - (intOf i).toNat)
 case atStart => exact ⟨0, Nat.zero_le _, rfl, Lib.hid (Keeps.refl _ _)⟩
 case round =>
  clear x1 y1
  obtain ⟨m, hm, rfl, HKR⟩ := hrel
  obtain ⟨z, rfl⟩ : ∃ z : World, z = wr := ⟨_, rfl⟩
  have x1 : z.cell? ⟨X, 1, none⟩ = some (.slice B t.rows.length d) := (HX2.out.keep HKR.out (by simp)).cell 1
  have y1 : z.cell? ⟨Y, 1, none⟩ = some (.slice B2 t.rows.length d2) := (HY2.out.keep HKR.out (by simp)).cell 1
  by_cases hlt : m < t.rows.length
  ·have hi : (m : Int) < (t.rows.length : Int) := by omega
   obtain ⟨us, hul, hu1, hu2⟩ := (HT2.out.quiet HKR.out).rows
   obtain ⟨vs, hvl, hv1, hv2⟩ := (HU2.out.quiet HKR.out).rows
   obtain ⟨g1, o1, rfl, _, l1, q1⟩ := hu1.open' (by omega) (by omega)
   obtain ⟨g2, o2, rfl, _, l2, q2⟩ := hv1.open' (by omega) (by omega)
   have e0 := q1 m _ (List.getElem?_eq_getElem (by omega))
   have d0 := q2 m _ (List.getElem?_eq_getElem (by omega))
   obtain ⟨Ar, cr, hue, _, hRr⟩ := hu2 m (by omega) hlt
   obtain ⟨Br, dr, hve, _, hSr⟩ := hv2 m (by omega) hlt
   rw [hue] at e0
   rw [hve] at d0
   have hlr := HLR.out _ (List.getElem_mem hlt)
   obtain ⟨r, hr⟩ : ∃ r, t.rows[m] = r := ⟨_, rfl⟩
   rw [hr] at e0 d0 hRr hSr hlr
   have HS : Hid (∀ W, Keeps [] z W → Calls Tryz.prog 73 #[.slice Ar r.length cr, .slice Br r.length dr] W fun e w' => e = .returned (.bool true) ∧ Keeps [] W w') := Lib.hid (fun W q => sameRowR_any r Ar Br cr dr W (hRr.keep q) (hSr.keep q) hlr)
   have lx : X < z.heap.size := World.block_lt_of_cell? _ _ x1
   have ly : Y < z.heap.size := World.block_lt_of_cell? _ _ y1
   clear q1 q2 hu1 hu2 hv1 hv2 hul hvl hue hve hr hRr hSr
   go_upto_region 6 with (fail)
   refine wp_region_keeps (by kernel_rfl) (by kernel_rfl) ?_
   repeat (go_big_quiet_step (first | with_reducible exact KW.of HS.out _))
   refine wpQuiet_nil ?_
   intro wx kx
   have HKX := Lib.hid (HKR.out.trans kx)
   go_wp2
   go_roundw
   case rel => exact ⟨m + 1, by omega, by go_num, HKX⟩
   case measure => simp [intOf]; omega
  ·have hi : ¬ (m : Int) < (t.rows.length : Int) := by omega
   go_wp2
   go_ret
   exact ⟨rfl, HK2.out.trans HKR.out⟩
end Go.Proofs.YtpagiajlefejcaaGreatDoor
namespace Go.Proofs.YtpagiajlefejcaaGreatDoor
theorem World.heap_size_alloc' (w : World) (o : Obj) : (w.alloc o).heap.size = w.heap.size + 1 := Array.size_push _
open Go.RowKit Go.Extern.Stop Go.Stop Go.Extern
abbrev hdl (t : Nat) : Value := .pointer (some ⟨14, t, none⟩)
theorem ty_valueOfP (t : Addr) (w : World) : (ReflectliteValue.unpack (.iface 237 (.pointer (some t)))).run Tryz.prog w
  = .ok (.agg #[.pointer (some ⟨14, 237, none⟩), .pointer (some ⟨w.heap.size, 0, none⟩), .int .u64 150]) (w.alloc (.cells #[.pointer (some t)] 237)) := by kernel_rfl
theorem ty_typeP (a : Addr) (w : World) : (ReflectliteValue.methodAny (ReflectliteValue.valueError "reflectlite.Value.Type" 0) (fun t _ _ _ => ReflectliteType.toType t) #[.agg #[.pointer (some ⟨14, 237, none⟩), .pointer (some a), .int .u64 150]]).run Tryz.prog w
  = .ok (.iface 307 (.agg #[.pointer (some ⟨14, 237, none⟩)])) w := by kernel_rfl
theorem ty_methodKind (h : Value) (w : World) : (Go.method 471 307 (.agg #[h]) "Kind").run Tryz.prog w = .ok (283, h) w := by kernel_rfl
theorem ty_kindP (w : World) : ((ReflectliteType.abiMethod fun t => (fun a : Nat => Value.int IntKind.u8 (a : Int)) <$> Rtype.kind t) #[.pointer (some ⟨14, 237, none⟩)]).run Tryz.prog w = .ok (.int .u8 22) w := by kernel_rfl
theorem ty_kindE (w : World) : ((ReflectliteType.abiMethod fun t => (fun a : Nat => Value.int IntKind.u8 (a : Int)) <$> Rtype.kind t) #[.pointer (some ⟨14, 34, none⟩)]).run Tryz.prog w = .ok (.int .u8 2) w := by kernel_rfl
theorem rlm (z : Sem Value) (f : TypeId → Addr → Nat → Nat → Sem Value) (v : Value) :
  ReflectliteValue.method z f #[v] = (do match ← ReflectliteValue.parts v with | none => z | some (t, a, fl) => f t a fl (fl % 32)) := rfl
theorem ty_partsP (a : Addr) (w : World) : (ReflectliteValue.parts (.agg #[.pointer (some ⟨14, 237, none⟩), .pointer (some a), .int .u64 150])).run Tryz.prog w = .ok (some (237, a, 150)) w := by kernel_rfl
theorem ty_isNilP (a p : Addr) (W : World) (ha : W.cell? a = some (.pointer (some p))) :
  (ReflectliteValue.method (ReflectliteValue.valueError "reflectlite.Value.IsNil" 0) ReflectliteValue.isNil #[.agg #[.pointer (some ⟨14, 237, none⟩), .pointer (some a), .int .u64 150]]).run Tryz.prog W = .ok (.bool false) W := by
 rw [rlm]
 simp only [Sem.run_bind, ty_partsP, Result.andThen]
 simp [ReflectliteValue.isNil, loadVar, isAgg, underlying, Tryz.underlying237, ha, Result.andThen]
theorem ty_methodElem (h : Value) (w : World) : (Go.method 471 307 (.agg #[h]) "Elem").run Tryz.prog w = .ok (299, .agg #[h]) w := by kernel_rfl
theorem ty_methodImplements (h : Value) (w : World) : (Go.method 471 307 (.agg #[h]) "Implements").run Tryz.prog w = .ok (300, .agg #[h]) w := by kernel_rfl
theorem ty_methodAssignableTo (h : Value) (w : World) : (Go.method 471 307 (.agg #[h]) "AssignableTo").run Tryz.prog w = .ok (297, .agg #[h]) w := by kernel_rfl
theorem ty_elemP (w : World) : (ReflectliteType.method ReflectliteType.elem #[.agg #[.pointer (some ⟨14, 237, none⟩)]]).run Tryz.prog w = .ok (.iface 307 (.agg #[.pointer (some ⟨14, 34, none⟩)])) w := by kernel_rfl
theorem ty_implementsE (w : World) : (ReflectliteType.relation "Implements" ReflectliteType.implements_ #[.agg #[.pointer (some ⟨14, 34, none⟩)], .iface 307 (.agg #[.pointer (some ⟨14, 38, none⟩)])]).run Tryz.prog w = .ok (.bool true) w := by kernel_rfl
theorem ty_typeOfE (v : Value) (w : World) : (ReflectliteType.typeOf #[.iface 34 v]).run Tryz.prog w = .ok (.iface 307 (.agg #[.pointer (some ⟨14, 34, none⟩)])) w := by kernel_rfl
theorem ty_assignableE (w : World) : (ReflectliteType.relation "AssignableTo" ReflectliteType.assignableTo #[.agg #[.pointer (some ⟨14, 34, none⟩)], .iface 307 (.agg #[.pointer (some ⟨14, 34, none⟩)])]).run Tryz.prog w = .ok (.bool true) w := by kernel_rfl
theorem ty_valueOfE (e : Int) (w : World) : (ReflectliteValue.unpack (.iface 34 (.int .i64 e))).run Tryz.prog w
  = .ok (.agg #[.pointer (some ⟨14, 34, none⟩), .pointer (some ⟨w.heap.size, 0, none⟩), .int .u64 130]) (w.alloc (.cells #[.int .i64 e] 34)) := by kernel_rfl
theorem ty_elemOfP (w : World) : (Rtype.elem? 237).run Tryz.prog w = .ok (some 34) w := by kernel_rfl
theorem ty_mkE (p : Addr) (w : World) : (ReflectliteValue.mk 34 p ReflectliteValue.flagAddr).run Tryz.prog w = .ok (.agg #[.pointer (some ⟨14, 34, none⟩), .pointer (some p), .int .u64 386]) w := by kernel_rfl
theorem ty_elemVP (a p : Addr) (W : World) (ha : W.cell? a = some (.pointer (some p))) :
  (ReflectliteValue.method (ReflectliteValue.valueError "reflectlite.Value.Elem" 0) ReflectliteValue.elem #[.agg #[.pointer (some ⟨14, 237, none⟩), .pointer (some a), .int .u64 150]]).run Tryz.prog W
   = .ok (.agg #[.pointer (some ⟨14, 34, none⟩), .pointer (some p), .int .u64 386]) W := by
 rw [rlm]
 simp only [Sem.run_bind, ty_partsP, Result.andThen]
 simp [ReflectliteValue.elem, loadVar, isAgg, underlying, Tryz.underlying237, ha, Result.andThen, ty_elemOfP, ty_mkE]
theorem rls (v x : Value) : ReflectliteValue.set #[v, x] = (do
  let (some (dst, a, fl), some (src, b, _)) := (← ReflectliteValue.parts v, ← ReflectliteValue.parts x)
   | unsupported (.noEntry "extern/(internal/reflectlite.Value).Set.zeroValue")
  if fl / ReflectliteValue.flagAddr % 2 == 0 then unsupported (.noEntry "extern/(internal/reflectlite.Value).Set.unaddressable")
  let val ← loadVar src b
  if ← Rtype.directlyAssignable dst src then storeVar dst a val
  else if ← Rtype.implements dst src then
   if (← Rtype.kind src) == 20 then
    match val with
    | .nilIface => unsupported (.noEntry "extern/reflectlite: a nil value of one interface type handed on as a value of another")
    | _ => storeVar dst a val
   else storeVar dst a (.iface src val)
  else panicString ("reflectlite.Set: value of type " ++ (← Rtype.spelt src) ++ " is not assignable to type " ++ (← Rtype.spelt dst))
  pure (.tuple #[])) := rfl
theorem ty_partsEa (a : Addr) (w : World) : (ReflectliteValue.parts (.agg #[.pointer (some ⟨14, 34, none⟩), .pointer (some a), .int .u64 386])).run Tryz.prog w = .ok (some (34, a, 386)) w := by kernel_rfl
theorem ty_partsE (a : Addr) (w : World) : (ReflectliteValue.parts (.agg #[.pointer (some ⟨14, 34, none⟩), .pointer (some a), .int .u64 130])).run Tryz.prog w = .ok (some (34, a, 130)) w := by kernel_rfl
theorem ty_directE (w : World) : (Rtype.directlyAssignable 34 34).run Tryz.prog w = .ok true w := by kernel_rfl
theorem ty_setE (ta b : Addr) (e : Int) (old : Value) (W : World) (hb : W.cell? b = some (.int .i64 e)) (ht : W.cell? ta = some old) (hf : W.frozen? ta = false) :
  (ReflectliteValue.set #[.agg #[.pointer (some ⟨14, 34, none⟩), .pointer (some ta), .int .u64 386], .agg #[.pointer (some ⟨14, 34, none⟩), .pointer (some b), .int .u64 130]]).run Tryz.prog W
   = .ok (.tuple #[]) (W.setCell ta (.int .i64 e)) := by
 rw [rls]
 simp only [Sem.run_bind, ty_partsEa, ty_partsE, Result.andThen]
 simp [ReflectliteValue.flagAddr, loadVar, isAgg, underlying, Tryz.underlying34, hb, Result.andThen, ty_directE, storeVar, Value.cells, storeCells, Addr.add]
 rw [run_store Tryz.prog W ta _ _ (by rfl)]
 simp [ht, hf]
def ErrTy (w : World) : Prop := w.cell? ⟨4, 0, none⟩ = some (.iface 307 (.agg #[.pointer (some ⟨14, 38, none⟩)]))
theorem ErrTy.keep {L : List Nat} {w w' : World} (h : ErrTy w) (hk : Keeps L w w') (hL : 4 ∉ L) : ErrTy w' := hk.cell_of (p := ⟨4, 0, none⟩) h hL
set_option maxRecDepth 100000 in
set_option maxHeartbeats 4000000 in
theorem as_hit (e : Int) (t : Addr) (old : Value) (w : World) (hg : w.cell? ⟨4, 0, none⟩ = some (.iface 307 (.agg #[.pointer (some ⟨14, 38, none⟩)]))) (ht0 : w.cell? t = some old) (hf0 : w.frozen? t = false) :
  Calls Tryz.prog 160 #[.iface 34 (.int .i64 e), .iface 237 (.pointer (some t))] w fun ev w' => ev = .returned (.bool true) ∧ ((((w.alloc (.cells #[.pointer (some t)] 237)).alloc (.cells #[hdl 237, .pointer (some ⟨w.heap.size, 0, none⟩), .int .u64 150] 263)).alloc (.cells #[hdl 237, .pointer (some ⟨w.heap.size, 0, none⟩), .int .u64 150] 263)).alloc (.cells #[.int .i64 e] 34)).setCell t (.int .i64 e) = w' := by
 have h6 := @run_callFunc_extern Tryz.prog 186 _ (fun args => ReflectliteValue.unpack (args.getD 0 (.tuple #[]))) Tryz.func186 (by kernel_rfl) (by kernel_rfl) (by kernel_rfl) (by kernel_rfl)
 have h7 := @run_callFunc_extern Tryz.prog 207 _ (ReflectliteValue.methodAny (ReflectliteValue.valueError "reflectlite.Value.Type" 0) (fun t _ _ _ => ReflectliteType.toType t)) Tryz.func207 (by kernel_rfl) (by kernel_rfl) (by kernel_rfl) (by kernel_rfl)
 have h8 := @run_callFunc_extern Tryz.prog 208 _ (ReflectliteValue.method (ReflectliteValue.valueError "reflectlite.Value.IsNil" 0) ReflectliteValue.isNil) Tryz.func208 (by kernel_rfl) (by kernel_rfl) (by kernel_rfl) (by kernel_rfl)
 have h27 := @run_callFunc_extern Tryz.prog 283 _ (ReflectliteType.abiMethod fun t => do pure (.int .u8 (← Rtype.kind t))) Tryz.func283 (by kernel_rfl) (by kernel_rfl) (by kernel_rfl) (by kernel_rfl)
 have h37 := @run_callFunc_extern Tryz.prog 299 _ (ReflectliteType.method ReflectliteType.elem) Tryz.func299 (by kernel_rfl) (by kernel_rfl) (by kernel_rfl) (by kernel_rfl)
 have h38 := @run_callFunc_extern Tryz.prog 300 _ (ReflectliteType.relation "Implements" ReflectliteType.implements_) Tryz.func300 (by kernel_rfl) (by kernel_rfl) (by kernel_rfl) (by kernel_rfl)
 have h10 := @run_callFunc_extern Tryz.prog 245 _ ReflectliteType.typeOf Tryz.func245 (by kernel_rfl) (by kernel_rfl) (by kernel_rfl) (by kernel_rfl)
 have h35 := @run_callFunc_extern Tryz.prog 297 _ (ReflectliteType.relation "AssignableTo" ReflectliteType.assignableTo) Tryz.func297 (by kernel_rfl) (by kernel_rfl) (by kernel_rfl) (by kernel_rfl)
 have h11 := @run_callFunc_extern Tryz.prog 246 _ (ReflectliteValue.method (ReflectliteValue.valueError "reflectlite.Value.Elem" 0) ReflectliteValue.elem) Tryz.func246 (by kernel_rfl) (by kernel_rfl) (by kernel_rfl) (by kernel_rfl)
 have h12 := @run_callFunc_extern Tryz.prog 247 _ ReflectliteValue.set Tryz.func247 (by kernel_rfl) (by kernel_rfl) (by kernel_rfl) (by kernel_rfl)
 have tO := ty_typeOfE
 have mA := ty_methodAssignableTo
 have a25 := ty_assignableE
 have v25 := ty_valueOfE
 have f6 := ty_valueOfP
 have f7 := ty_typeP
 have mK := ty_methodKind
 have mE := ty_methodElem
 have mI := ty_methodImplements
 have k27 := ty_kindP
 have k25 := ty_kindE
 have e27 := ty_elemP
 have i25 := ty_implementsE
 have n8 := ty_isNilP ⟨w.heap.size, 0, none⟩ t ((w.alloc (.cells #[.pointer (some t)] 237)).alloc (.cells #[hdl 237, .pointer (some ⟨w.heap.size, 0, none⟩), .int .u64 150] 263)) (by simp)
 have hlt : 4 < w.heap.size := World.block_lt_of_cell? w ⟨4, 0, none⟩ hg
 have hg2 : ((w.alloc (.cells #[.pointer (some t)] 237)).alloc (.cells #[hdl 237, .pointer (some ⟨w.heap.size, 0, none⟩), .int .u64 150] 263)).cell? ⟨4, 0, none⟩ = some (.iface 307 (.agg #[.pointer (some ⟨14, 38, none⟩)])) := by
  rw [World.cell?_alloc_lt _ _ ⟨4, 0, none⟩ (show 4 < _ by rw [World.heap_size_alloc']; omega), World.cell?_alloc_lt _ _ ⟨4, 0, none⟩ hlt]; exact hg
 have htl : t.block < w.heap.size := World.block_lt_of_cell? w t ht0
 have el := ty_elemVP ⟨w.heap.size, 0, none⟩ t (((w.alloc (.cells #[.pointer (some t)] 237)).alloc (.cells #[hdl 237, .pointer (some ⟨w.heap.size, 0, none⟩), .int .u64 150] 263)).alloc (.cells #[hdl 237, .pointer (some ⟨w.heap.size, 0, none⟩), .int .u64 150] 263)) (by rw [World.cell?_alloc_lt _ _ ⟨w.heap.size, 0, none⟩ (by simp; omega)]; simp)
 have st := ty_setE t ⟨w.heap.size + 1 + 1 + 1, 0, none⟩ e old ((((w.alloc (.cells #[.pointer (some t)] 237)).alloc (.cells #[hdl 237, .pointer (some ⟨w.heap.size, 0, none⟩), .int .u64 150] 263)).alloc (.cells #[hdl 237, .pointer (some ⟨w.heap.size, 0, none⟩), .int .u64 150] 263)).alloc (.cells #[.int .i64 e] 34))
  (by rw [World.cell?_alloc_at _ _ _ _ (by simp)]; rfl)
  (by rw [World.cell?_alloc_lt _ _ t (by simp; omega), World.cell?_alloc_lt _ _ t (by simp; omega), World.cell?_alloc_lt _ _ t (by simp; omega), World.cell?_alloc_lt _ _ t htl]; exact ht0)
  (by rw [World.frozen?_alloc_old _ _ t (by simp; omega), World.frozen?_alloc_old _ _ t (by simp; omega), World.frozen?_alloc_old _ _ t (by simp; omega), World.frozen?_alloc_old _ _ t (Nat.ne_of_lt htl)]; exact hf0)
 go_enter Tryz.func160, Tryz.ntmps160
 go_wp2
 refine wp_loop_rounds 1 ?_
 rw [rounds_succ]
 go_wp2
 go_ret
 exact ⟨rfl, rfl⟩
end Go.Proofs.YtpagiajlefejcaaGreatDoor
