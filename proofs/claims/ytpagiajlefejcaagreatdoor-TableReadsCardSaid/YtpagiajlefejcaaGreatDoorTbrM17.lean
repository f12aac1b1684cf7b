/- api.Tell and plain.Place at nil and at an *api.At. api.Tell, plain.Place and is, at nil and at an *api.At. Place, is. -/
import Derived.Test.YtpagiajlefejcaaGreatDoorTbrM16
import Derived.Test.YtpagiajlefejcaaGreatDoorTbrM5
import Derived.Deep.CutBlock
set_option linter.unusedSimpArgs false
set_option linter.unusedVariables false
namespace Go.Proofs.YtpagiajlefejcaaGreatDoor
open Go.RowKit Go.Extern.Stop Go.Stop Go.Extern
theorem ty_typeOfA (v : Value) (w : World) : (ReflectliteType.typeOf #[.iface 136 v]).run Tryz.prog w = .ok (.iface 307 (.agg #[.pointer (some ⟨14, 136, none⟩)])) w := by kernel_rfl
theorem ty_assignableA (w : World) : (ReflectliteType.relation "AssignableTo" ReflectliteType.assignableTo #[.agg #[.pointer (some ⟨14, 136, none⟩)], .iface 307 (.agg #[.pointer (some ⟨14, 34, none⟩)])]).run Tryz.prog w = .ok (.bool false) w := by kernel_rfl
theorem ty_asA (v : Value) (w : World) : (Instr.typeAssert (.iface 136 v) 38 318 true).run Tryz.prog w = .ok (.tuple #[.nilIface, .bool false]) w := run_typeAssert_lacksB Tryz.underlying318 (by kernel_rfl) (by kernel_rfl) v _ w
theorem ty_unA (v : Value) (w : World) : (Instr.typeAssert (.iface 136 v) 38 215 true).run Tryz.prog w = .ok (.tuple #[.iface 136 v, .bool true]) w := run_typeAssert_hasB Tryz.underlying215 (by kernel_rfl) v _ w
theorem ty_methodUn (a : Addr) (w : World) : (Go.method 471 136 (.pointer (some a)) "Unwrap").run Tryz.prog w = .ok (289, .pointer (some a)) w := by kernel_rfl
theorem ty_atA (a : Addr) (w : World) : (Instr.typeAssert (.iface 136 (.pointer (some a))) 38 136 true).run Tryz.prog w = .ok (.tuple #[.pointer (some a), .bool true]) w := by kernel_rfl
theorem unwrap_at (g : Nat) (e : Int) (w : World) (h : w.cell? ⟨g, 0, none⟩ = some (.int .i64 e)) : Calls Tryz.prog 289 #[.pointer (some ⟨g, 0, none⟩)] w fun ev w' => ev = .returned (.iface 34 (.int .i64 e)) ∧ w = w' := by
 have hl := World.block_lt_of_cell? _ _ h
 go_enter Tryz.func289, Tryz.ntmps289
 go_wp2
 go_ret
 exact ⟨rfl, rfl⟩
set_option maxRecDepth 100000 in
set_option maxHeartbeats 8000000 in
theorem as_at (g : Nat) (e : Int) (t : Addr) (old : Value) (w : World) (hg : w.cell? ⟨4, 0, none⟩ = some (.iface 307 (.agg #[.pointer (some ⟨14, 38, none⟩)]))) (hgc : w.cell? ⟨g, 0, none⟩ = some (.int .i64 e)) (ht0 : w.cell? t = some old) (hf0 : w.frozen? t = false) :
  Calls Tryz.prog 160 #[.iface 136 (.pointer (some ⟨g, 0, none⟩)), .iface 237 (.pointer (some t))] w fun ev w' => ev = .returned (.bool true) ∧ ((((w.alloc (.cells #[.pointer (some t)] 237)).alloc (.cells #[hdl 237, .pointer (some ⟨w.heap.size, 0, none⟩), .int .u64 150] 263)).alloc (.cells #[hdl 237, .pointer (some ⟨w.heap.size, 0, none⟩), .int .u64 150] 263)).alloc (.cells #[.int .i64 e] 34)).setCell t (.int .i64 e) = w' := by
 have h6 := @run_callFunc_extern Tryz.prog 186 _ (fun args => ReflectliteValue.unpack (args.getD 0 (.tuple #[]))) Tryz.func186 (by kernel_rfl) (by kernel_rfl) (by kernel_rfl) (by kernel_rfl)
 have h7 := @run_callFunc_extern Tryz.prog 207 _ (ReflectliteValue.methodAny (ReflectliteValue.valueError "reflectlite.Value.Type" 0) (fun t _ _ _ => ReflectliteType.toType t)) Tryz.func207 (by kernel_rfl) (by kernel_rfl) (by kernel_rfl) (by kernel_rfl)
 have h8 := @run_callFunc_extern Tryz.prog 208 _ (ReflectliteValue.method (ReflectliteValue.valueError "reflectlite.Value.IsNil" 0) ReflectliteValue.isNil) Tryz.func208 (by kernel_rfl) (by kernel_rfl) (by kernel_rfl) (by kernel_rfl)
 have h27 := @run_callFunc_extern Tryz.prog 283 _ (ReflectliteType.abiMethod fun t => do pure (.int .u8 (← Rtype.kind t))) Tryz.func283 (by kernel_rfl) (by kernel_rfl) (by kernel_rfl) (by kernel_rfl)
 have h37 := @run_callFunc_extern Tryz.prog 299 _ (ReflectliteType.method ReflectliteType.elem) Tryz.func299 (by kernel_rfl) (by kernel_rfl) (by kernel_rfl) (by kernel_rfl)
 have h38 := @run_callFunc_extern Tryz.prog 300 _ (ReflectliteType.relation "Implements" ReflectliteType.implements_) Tryz.func300 (by kernel_rfl) (by kernel_rfl) (by kernel_rfl) (by kernel_rfl)
 have h10 := @run_callFunc_extern Tryz.prog 245 _ ReflectliteType.typeOf Tryz.func245 (by kernel_rfl) (by kernel_rfl) (by kernel_rfl) (by kernel_rfl)
 have h35 := @run_callFunc_extern Tryz.prog 297 _ (ReflectliteType.relation "AssignableTo" ReflectliteType.assignableTo) Tryz.func297 (by kernel_rfl) (by kernel_rfl) (by kernel_rfl) (by kernel_rfl)
 have h11 := @run_callFunc_extern Tryz.prog 246 _ (ReflectliteValue.method (ReflectliteValue.valueError "reflectlite.Value.Elem" 0) ReflectliteValue.elem) Tryz.func246 (by kernel_rfl) (by kernel_rfl) (by kernel_rfl) (by kernel_rfl)
 have h12 := @run_callFunc_extern Tryz.prog 247 _ ReflectliteValue.set Tryz.func247 (by kernel_rfl) (by kernel_rfl) (by kernel_rfl) (by kernel_rfl)
 have tO := ty_typeOfE
 have mA := ty_methodAssignableTo
 have a25 := ty_assignableE
 have v25 := ty_valueOfE
 have f6 := ty_valueOfP
 have f7 := ty_typeP
 have mK := ty_methodKind
 have mE := ty_methodElem
 have mI := ty_methodImplements
 have k27 := ty_kindP
 have k25 := ty_kindE
 have e27 := ty_elemP
 have i25 := ty_implementsE
 have n8 := ty_isNilP ⟨w.heap.size, 0, none⟩ t ((w.alloc (.cells #[.pointer (some t)] 237)).alloc (.cells #[hdl 237, .pointer (some ⟨w.heap.size, 0, none⟩), .int .u64 150] 263)) (by simp)
 have hlt : 4 < w.heap.size := World.block_lt_of_cell? w ⟨4, 0, none⟩ hg
 have hg2 : ((w.alloc (.cells #[.pointer (some t)] 237)).alloc (.cells #[hdl 237, .pointer (some ⟨w.heap.size, 0, none⟩), .int .u64 150] 263)).cell? ⟨4, 0, none⟩ = some (.iface 307 (.agg #[.pointer (some ⟨14, 38, none⟩)])) := by
  rw [World.cell?_alloc_lt _ _ ⟨4, 0, none⟩ (show 4 < _ by rw [World.heap_size_alloc']; omega), World.cell?_alloc_lt _ _ ⟨4, 0, none⟩ hlt]; exact hg
 have htl : t.block < w.heap.size := World.block_lt_of_cell? w t ht0
 have el := ty_elemVP ⟨w.heap.size, 0, none⟩ t (((w.alloc (.cells #[.pointer (some t)] 237)).alloc (.cells #[hdl 237, .pointer (some ⟨w.heap.size, 0, none⟩), .int .u64 150] 263)).alloc (.cells #[hdl 237, .pointer (some ⟨w.heap.size, 0, none⟩), .int .u64 150] 263)) (by rw [World.cell?_alloc_lt _ _ ⟨w.heap.size, 0, none⟩ (by simp; omega)]; simp)
 have st := ty_setE t ⟨w.heap.size + 1 + 1 + 1, 0, none⟩ e old ((((w.alloc (.cells #[.pointer (some t)] 237)).alloc (.cells #[hdl 237, .pointer (some ⟨w.heap.size, 0, none⟩), .int .u64 150] 263)).alloc (.cells #[hdl 237, .pointer (some ⟨w.heap.size, 0, none⟩), .int .u64 150] 263)).alloc (.cells #[.int .i64 e] 34))
  (by rw [World.cell?_alloc_at _ _ _ _ (by simp)]; rfl)
  (by rw [World.cell?_alloc_lt _ _ t (by simp; omega), World.cell?_alloc_lt _ _ t (by simp; omega), World.cell?_alloc_lt _ _ t (by simp; omega), World.cell?_alloc_lt _ _ t htl]; exact ht0)
  (by rw [World.frozen?_alloc_old _ _ t (by simp; omega), World.frozen?_alloc_old _ _ t (by simp; omega), World.frozen?_alloc_old _ _ t (by simp; omega), World.frozen?_alloc_old _ _ t (Nat.ne_of_lt htl)]; exact hf0)
 have tA := ty_typeOfA
 have aA := ty_assignableA
 have sA := ty_asA
 have uA := ty_unA
 have mU := ty_methodUn ⟨g, 0, none⟩
 have hgl : g < w.heap.size := World.block_lt_of_cell? w ⟨g, 0, none⟩ hgc
 have hgc3 : (((w.alloc (.cells #[.pointer (some t)] 237)).alloc (.cells #[hdl 237, .pointer (some ⟨w.heap.size, 0, none⟩), .int .u64 150] 263)).alloc (.cells #[hdl 237, .pointer (some ⟨w.heap.size, 0, none⟩), .int .u64 150] 263)).cell? ⟨g, 0, none⟩ = some (.int .i64 e) := by
  rw [World.cell?_alloc_lt _ _ ⟨g, 0, none⟩ (show g < _ by rw [World.heap_size_alloc', World.heap_size_alloc']; omega), World.cell?_alloc_lt _ _ ⟨g, 0, none⟩ (show g < _ by rw [World.heap_size_alloc']; omega), World.cell?_alloc_lt _ _ ⟨g, 0, none⟩ hgl]; exact hgc
 go_enter Tryz.func160, Tryz.ntmps160
 go_wp2
 refine wp_loop_rounds 2 ?_
 rw [rounds_succ]
 go_wp2_with fail
 refine (unwrap_at g e _ hgc3).mono ?_
 rintro ev W2 ⟨rfl, rfl⟩
 go_wp2
 rw [rounds_succ]
 go_wp2
 go_ret
 exact ⟨rfl, rfl⟩
end Go.Proofs.YtpagiajlefejcaaGreatDoor
namespace Go.Proofs.YtpagiajlefejcaaGreatDoor
open Go.RowKit Go.BigFrame
theorem tell_nil (w : World) : Calls Tryz.prog 108 #[.nilIface] w fun ev w' => ev = .returned (.int .i64 0) ∧ Keeps [] w w' := by
 go_enter Tryz.func108, Tryz.ntmps108
 go_wp2
 go_ret
 exact ⟨rfl, Keeps.refl _ _⟩
theorem tell_at (g : Nat) (e p : Int) (w : World) (hE : ErrTy w) (hb : Blk w g 137 #[.int .i64 e, .int .i64 p]) :
  Calls Tryz.prog 108 #[.iface 136 (.pointer (some ⟨g, 0, none⟩))] w fun ev w' => ev = .returned (.int .i64 e) ∧ Keeps [] w w' := by
 have hc : w.cell? ⟨g, 0, none⟩ = some (.int .i64 e) := hb.cell 0
 have hE' : ∀ o, (w.alloc o).cell? ⟨4, 0, none⟩ = some (.iface 307 (.agg #[.pointer (some ⟨14, 38, none⟩)])) := fun o => (World.cell?_alloc_lt w o ⟨4, 0, none⟩ (World.block_lt_of_cell? w ⟨4, 0, none⟩ hE)).trans hE
 have hC' : ∀ o, (w.alloc o).cell? ⟨g, 0, none⟩ = some (.int .i64 e) := fun o => (World.cell?_alloc_lt w o ⟨g, 0, none⟩ (World.block_lt_of_cell? w ⟨g, 0, none⟩ hc)).trans hc
 have HE := Lib.hid hE'
 have HC := Lib.hid hC'
 clear hE hE' hb hc hC'
 go_enter Tryz.func108, Tryz.ntmps108
 go_wp2_with (go_at_call 160; refine (as_at g e _ (.int .i64 0) _ (HE.out _) (HC.out _) (by simp) (by simp)).mono ?_; rintro ev w' ⟨rfl, rfl⟩)
 go_ret
 refine ⟨by simp, ?_⟩
 repeat first | exact Keeps.refl _ _ | refine Keeps.alloc ?_ _ | refine Keeps.setCell ?_ (.inr (Nat.le_refl _)) _
end Go.Proofs.YtpagiajlefejcaaGreatDoor
namespace Go.Proofs.YtpagiajlefejcaaGreatDoor
open Go.RowKit Go.BigFrame
theorem place_nil (w : World) : Calls Tryz.prog 72 #[.nilIface] w fun ev w' => ev = .returned (.tuple #[.int .i64 0, .int .i64 (-1)]) ∧ Keeps [] w w' := by
 have HT := Lib.hid (tell_nil w)
 go_enter Tryz.func72, Tryz.ntmps72
 go_wp2_with fail
 refine HT.out.mono ?_
 rintro ev W1 ⟨rfl, k1⟩
 go_wp2
 refine wp_loop_rounds 1 ?_
 rw [rounds_succ]
 go_wp2
 go_ret2
 exact ⟨rfl, k1⟩
set_option maxRecDepth 100000 in
set_option maxHeartbeats 4000000 in
theorem place_at (g : Nat) (e p : Int) (w : World) (hE : ErrTy w) (hb : Blk w g 137 #[.int .i64 e, .int .i64 p]) :
  Calls Tryz.prog 72 #[.iface 136 (.pointer (some ⟨g, 0, none⟩))] w fun ev w' => ev = .returned (.tuple #[.int .i64 e, .int .i64 p]) ∧ Keeps [] w w' := by
 have HT := Lib.hid (tell_at g e p w hE hb)
 have ha := ty_atA ⟨g, 0, none⟩
 have HB := Lib.hid hb
 clear hE hb
 go_enter Tryz.func72, Tryz.ntmps72
 go_wp2_with fail
 refine HT.out.mono ?_
 rintro ev W1 ⟨rfl, k1⟩
 have hb := HB.out.keep k1 (by simp)
 have c1 : W1.cell? ⟨g, 1, none⟩ = some (.int .i64 p) := hb.cell 1
 have lg := hb.lt
 have K1 := Lib.hid k1
 clear hb k1
 go_wp2
 refine wp_loop_rounds 1 ?_
 rw [rounds_succ]
 go_upto_region 5 with (fail)
 go_region_law (fail)
 all_goals
  go_wp2
  go_ret2
  exact ⟨rfl, K1.out.trans (Keeps.refl [] W1).drew⟩
set_option maxRecDepth 100000 in
theorem is_nil (w : World) : Calls Tryz.prog 27 #[.nilIface, .agg #[.int .i64 0, .int .i64 (-1)]] w fun ev w' => ev = .returned (.bool true) ∧ Keeps [] w w' := by
 have k0 : Keeps [] w (w.alloc (.cells #[.int .i64 0, .int .i64 (-1)] 47)) := (Keeps.refl _ _).alloc _
 have hb := Blk.new w 47 #[.int .i64 0, .int .i64 (-1)]
 have HP := Lib.hid (place_nil (w.alloc (.cells #[.int .i64 0, .int .i64 (-1)] 47)))
 have K0 := Lib.hid k0
 have HB := Lib.hid hb
 clear k0 hb
 go_enter Tryz.func27, Tryz.ntmps27
 go_wp2_with fail
 refine HP.out.mono ?_
 rintro ev w2 ⟨rfl, k2⟩
 have hb2 := HB.out.keep k2 (by simp)
 have c0 : w2.cell? ⟨w.heap.size, 0, none⟩ = some (.int .i64 0) := hb2.cell 0
 have c1 : w2.cell? ⟨w.heap.size, 1, none⟩ = some (.int .i64 (-1)) := hb2.cell 1
 have lb := hb2.lt
 have K2 := Lib.hid (K0.out.trans k2)
 clear hb2 k2
 go_wp2
 go_ret
 exact ⟨rfl, K2.out⟩
set_option maxRecDepth 100000 in
theorem is_at (g : Nat) (e p : Int) (w : World) (hE : ErrTy w) (hb : Blk w g 137 #[.int .i64 e, .int .i64 p]) : Calls Tryz.prog 27 #[.iface 136 (.pointer (some ⟨g, 0, none⟩)), .agg #[.int .i64 e, .int .i64 p]] w fun ev w' => ev = .returned (.bool true) ∧ Keeps [] w w' := by
 have k0 : Keeps [] w (w.alloc (.cells #[.int .i64 e, .int .i64 p] 47)) := (Keeps.refl _ _).alloc _
 have hf := Blk.new w 47 #[.int .i64 e, .int .i64 p]
 have HP := Lib.hid (place_at g e p (w.alloc (.cells #[.int .i64 e, .int .i64 p] 47)) (hE.keep k0 (by simp)) (hb.keep k0 (by simp)))
 have K0 := Lib.hid k0
 have HB := Lib.hid hf
 have e1 : (e == e) = true := beq_self_eq_true e
 have e2 : (p == p) = true := beq_self_eq_true p
 clear k0 hf hb hE
 go_enter Tryz.func27, Tryz.ntmps27
 go_wp2_with fail
 refine HP.out.mono ?_
 rintro ev w2 ⟨rfl, k2⟩
 have hb2 := HB.out.keep k2 (by simp)
 have c0 : w2.cell? ⟨w.heap.size, 0, none⟩ = some (.int .i64 e) := hb2.cell 0
 have c1 : w2.cell? ⟨w.heap.size, 1, none⟩ = some (.int .i64 p) := hb2.cell 1
 have lb := hb2.lt
 have K2 := Lib.hid (K0.out.trans k2)
 clear hb2 k2
 go_wp2
 go_ret
 exact ⟨rfl, K2.out⟩
end Go.Proofs.YtpagiajlefejcaaGreatDoor
