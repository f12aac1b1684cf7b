/- What flows lean on, out of a row's laid list; a world in which it is laid. A row's condition parted from its handles; a world in which all is laid. -/
import Derived.Test.YtpagiajlefejcaaGreatDoorPfiM4
import Derived.Test.YtpagiajlefejcaaGreatDoorPfiM5
import Derived.Test.YtpagiajlefejcaaGreatDoorPfiM3
import Derived.ChangeSame
set_option linter.unusedSimpArgs false
set_option linter.unusedVariables false
set_option maxRecDepth 100000
set_option maxHeartbeats 16000000
namespace Go.Proofs.YtpagiajlefejcaaGreatDoor
open Go.Proofs.Tryz renaming prog → zy
open _root_.List renaming getElem?_eq_getElem → zI
section
open Go.RowKit Go.Shelf Go.ChangeShapes Go.WideShapes
theorem Fn.p10g:Tryz.prog.globalNamed "internal/strconv.uint64pow10" = some 11:=by kernel_rfl
theorem Fn.p10t:(Tryz.prog.globals[11]?).map (·.type)=some 329:=by kernel_rfl
theorem Fn.sg:Tryz.prog.globalNamed "strconv.ErrSyntax" = some 6:=by kernel_rfl
theorem Fn.st:(Tryz.prog.globals[6]?).map (·.type)=some 38:=by kernel_rfl
theorem Fn.rg:Tryz.prog.globalNamed "strconv.ErrRange" = some 7:=by kernel_rfl
theorem Fn.rt:(Tryz.prog.globals[7]?).map (·.type)=some 38:=by kernel_rfl
theorem Fn.mg:Tryz.prog.globalNamed "foreman/flow.marks" = some 3:=by kernel_rfl
theorem Fn.mt:(Tryz.prog.globals[3]?).map (·.type)=some 278:=by kernel_rfl
theorem Fn.wg:Tryz.prog.globalNamed "foreman/flow.words" = some 8:=by kernel_rfl
theorem Fn.wt:(Tryz.prog.globals[8]?).map (·.type)=some 314:=by kernel_rfl
theorem pJ {W:World} {nm:String} {g:Nat} {t:TypeId} {n:Nat} {zs:List Bs} {d:DataW Unit} (M:Tryz.prog.globalNamed nm=some g) (J:(Tryz.prog.globals[g]?).map (·.type)=some t) (U:Tryz.prog.underlying t=some (.array n 9)) (D:Tryz.prog.cellsOf t=n)
  (e:d= .agg (zs.map fun z=> .lit (.string z))) (h:laidMet zy [(nm,d)] W):∀ j (O:j<zs.length),W.cell? ⟨g,j,none⟩=some (.string (bs zs[j])):=by
 rw[e] at h;obtain ⟨ps,⟨g',t',cs,fuel,p,q,B,I,A,hd,_,_⟩,_⟩:=h;obtain rfl:=Option.some.inj (M.symm.trans B);obtain rfl:=Option.some.inj (J.symm.trans I);have Z:=mH U Tryz.underlying9 (by kernel_rfl) D hd;intro j O;rw[World.var?_cell M A j,←Array.getElem?_toList,Z,List.getElem?_map,zI O];rfl
theorem wC {A:List (String×DataW Unit)} {W:World}
  (B:A.filter (fun x=>x.1 == "internal/strconv.uint64pow10")=[("internal/strconv.uint64pow10",Rows.laid_internal_strconv_uint64pow10)])
  (D:A.filter (fun x=>x.1 == "foreman/flow.marks")=[("foreman/flow.marks",Rows.laid_foreman_flow_marks)])
  (M:A.filter (fun x=>x.1 == "strconv.ErrSyntax")=[("strconv.ErrSyntax",Rows.laid_strconv_ErrSyntax)])
  (I:A.filter (fun x=>x.1 == "strconv.ErrRange")=[("strconv.ErrRange",Rows.laid_strconv_ErrRange)])
  (J:A.filter (fun x=>x.1 == "foreman/flow.words")=[("foreman/flow.words",Rows.laid_foreman_flow_words)])
  (h:laidMet zy A W) (O:W.ShapedOpen zy):iv W:=by
 refine ⟨?_,pI Fn.sg Fn.st Tryz.underlying38 (iS _ _ M h),pI Fn.rg Fn.rt Tryz.underlying38 (iS _ _ I h),
  pJ (zs:=an) Fn.mg Fn.mt Tryz.underlying278 (by kernel_rfl) (by kernel_rfl) (iS _ _ D h),pJ (zs:=dK) Fn.wg Fn.wt Tryz.underlying314 (by kernel_rfl) (by kernel_rfl) (iS _ _ J h),?_⟩
 ·have e:(Rows.laid_internal_strconv_uint64pow10:DataW Unit)=Lib.tabData .u64 Lib.pow10Tab:=by kernel_rfl
  have h':=iS _ _ B h;rw[e] at h';exact Lib.tabIs_of_head Fn.p10g Fn.p10t Tryz.underlying329 Tryz.underlying290 (by kernel_rfl) (by kernel_rfl) h'
 obtain ⟨cs,B,_⟩:=O.1 8 #[.string ⟨#[]⟩,.string ⟨#[]⟩,.string ⟨#[]⟩,.string ⟨#[]⟩,.string ⟨#[]⟩,.string ⟨#[]⟩,.string ⟨#[]⟩,.string ⟨#[]⟩,.string ⟨#[]⟩,.string ⟨#[]⟩] 314 (of_decide_eq_true (by kernel_rfl)) (by kernel_rfl);exact ⟨cs,_,B⟩
end
section
open Go.RowKit Go.Shelf Go.ChangeShapes Go.WideShapes Go.ChangeShapes
noncomputable def pK (os:Os):World:=wD (tc (World.doorLaid zy 400 os))
theorem qP {P:Program} {A:List (String×DataW Unit)} {hd:String×DataW Unit} {W:World} (B:(A.filter fun x=>x.2.handleName?.isSome)=[hd]) (h:laidMetH P A W) :
  laidMet P (A.filter fun x=>x.2.handleName?.isNone) W∧handlesMet P [hd] W:=by
 unfold laidMetH at h;rw[B] at h;exact h
end
end Go.Proofs.YtpagiajlefejcaaGreatDoor
