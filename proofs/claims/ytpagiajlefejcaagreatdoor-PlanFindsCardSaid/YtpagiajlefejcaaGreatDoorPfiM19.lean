/- PlanFinds: its walk. -/
import Derived.Test.YtpagiajlefejcaaGreatDoorPfiM17
import Derived.Test.YtpagiajlefejcaaGreatDoorPfiM18
import Derived.Test.YtpagiajlefejcaaGreatDoorPfiM4
import Derived.Deep.CutRange
set_option linter.unusedSimpArgs false
set_option linter.unusedVariables false
set_option maxRecDepth 100000
set_option maxHeartbeats 16000000
namespace Go.Proofs.YtpagiajlefejcaaGreatDoor
open Go.Lib renaming hid → zx
open Go.Proofs.Tryz renaming prog → zy
open Go.World renaming block_lt_of_cell? → zB
open _root_.List renaming mem_singleton → zD, getElem_mem → zH
open _root_.Nat renaming zero_le → zE
open aa renaming refl → zN
open ap renaming new → zO
open KW renaming of → zP
open Go.Value renaming string → zQ, slice → zR, pointer → zS, int → zW
open Go.Ending renaming returned → zT
open Go.IntKind renaming i64 → zX
section
open Go.RowKit Go.BigFrame Go.Maps
attribute [local go_sem] ag ab ae af KW.cell
structure eq (w:World) (na nb nc b1 b2:Nat) (V0 V1 V2 U0 U1 U2:Value) (f:Fl) (q:Int×Int) (W:World):Prop where
 k:aa [] w W
 va:ap W na 79 #[V0,V1,V2]
 ub:ap W nc 79 #[U0,U1,U2]
 qb:ap W nb 47 #[zW zX q.1,zW zX q.2]
 fv:fq W b1 V0 V1 V2 f
 fu:fq W b2 U0 U1 U2 f
 nw:w.heap.size≤nb
section
variable {w W W':World} {na nb nc b1 b2:Nat} {V0 V1 V2 U0 U1 U2:Value} {f:Fl} {q:Int×Int}
theorem eq.keep (h:eq w na nb nc b1 b2 V0 V1 V2 U0 U1 U2 f q W) (A:aa [] W W'):eq w na nb nc b1 b2 V0 V1 V2 U0 U1 U2 f q W' :=
 ⟨h.k.trans A,h.va.keep A (by simp),h.ub.keep A (by simp),h.qb.keep A (by simp),h.fv.keep A,h.fu.keep A,h.nw⟩
theorem eq.v (h:eq w na nb nc b1 b2 V0 V1 V2 U0 U1 U2 f q W):W.cell? ⟨na,0,none⟩=some V0∧W.cell? ⟨na,1,none⟩=some V1∧W.cell? ⟨na,2,none⟩=some V2∧na<W.heap.size:=⟨h.va.cell 0,h.va.cell 1,h.va.cell 2,h.va.lt⟩
theorem eq.u (h:eq w na nb nc b1 b2 V0 V1 V2 U0 U1 U2 f q W):W.cell? ⟨nc,0,none⟩=some U0∧W.cell? ⟨nc,1,none⟩=some U1∧W.cell? ⟨nc,2,none⟩=some U2∧nc<W.heap.size:=⟨h.ub.cell 0,h.ub.cell 1,h.ub.cell 2,h.ub.lt⟩
theorem eq.p {x y:Int} (h:eq w na nb nc b1 b2 V0 V1 V2 U0 U1 U2 f (x,y) W):W.cell? ⟨nb,0,none⟩=some (zW zX x)∧W.cell? ⟨nb,1,none⟩=some (zW zX y)∧nb<W.heap.size:=⟨h.qb.cell 0,h.qb.cell 1,h.qb.lt⟩
theorem eq.z (h:eq w na nb nc b1 b2 V0 V1 V2 U0 U1 U2 f q W):W.frozen? ⟨nb,0,none⟩=false∧W.frozen? ⟨nb,1,none⟩=false:=⟨h.qb.frozen 0,h.qb.frozen 1⟩
theorem jQ (W:World) (nb:Nat) (x y:Value):aa [nb] W ((W.setCell ⟨nb,0,none⟩ x).setCell ⟨nb,1,none⟩ y):=((zN [nb] W).setCell (.inl (by simp)) _).setCell (.inl (by simp)) _
theorem eq.flt (h:eq w na nb nc b1 b2 V0 V1 V2 U0 U1 U2 f q W) (x y:Int):eq w na nb nc b1 b2 V0 V1 V2 U0 U1 U2 f (x,y) ((W.setCell ⟨nb,0,none⟩ (zW zX x)).setCell ⟨nb,1,none⟩ (zW zX y)):=by
 have A:=jQ W nb (zW zX x) (zW zX y);have D:na≠nb:=h.va.ne h.qb (by decide);have I:nc≠nb:=h.ub.ne h.qb (by decide);have M:=h.nw;exact ⟨h.k.trans' A (fun x J B=>by rw[zD.1 J] at B;omega),h.va.keep A (by simpa using D),h.ub.keep A (by simpa using I),((h.qb.set 0 _).set 1 _).congr rfl,h.fv.flt h.qb A,h.fu.flt h.qb A,M⟩
end
theorem Rd.nilL {W:World} {L:List Nat} {size n:Nat} {A:Option Addr} {xs:List Value} (h:Rd W L size A n xs):Rd W [] size A n xs :=
 ⟨h.1,fun I=>by
  obtain ⟨J,e,M,B,D⟩:=h.2 I;exact ⟨J,e,by simp,B,D⟩⟩
theorem s8 (A:Option Addr) (m d n:Nat) (h:n≤d) (W:World):(Instr.slice 90 (zR A m d) none (some (zW zX (n:Int))) none).run zy W= .ok (zR A n d) W:=by
 have I:=Tryz.underlying90;have D:(0:Int)≤(n:Int):=by omega
 have B:(n:Int)≤(d:Int):=by omega
 cases A with
 | none=>go_simp
 | some a=>go_simp
theorem uN {w:World} {A:Option Addr} {l:List Nat} {n:Nat} (h:Rd w [] 1 A l.length (cO l)) (U:n≤l.length):Rd w [] 1 A (cn (l.take n)).length ((cn (l.take n)).map (Value.int .i64)):=by
 have e:(cn (l.take n)).map (Value.int .i64)=cO (l.take n):=rfl;rw[e,dw];refine ⟨by rw[rO,Nat.mul_one],fun I=>?_⟩;obtain ⟨O,e1,J,D,M⟩:=h.2 (by rw[List.length_take] at I;omega);refine ⟨O,e1,J,D,fun j u B=>M j u ?_⟩;unfold cO cn at B ⊢;rw[List.map_take,List.map_take,List.getElem?_take] at B;split at B
 ·exact B
 cases B
theorem uO (s:Bs) (w:World) (hE:iv w) (hR:gH w) (hT:gY w) (hO:nY w) :
  Calls zy 5 #[zQ (bs s)] w fun ev w'=>ev=zT (.bool true)∧aa [] w w':=by
 have HE:=zx hE;have HR:=zx hR;have HT:=zx hT;have HO:=zx hO;clear hE hR hT hO;by_cases it:1500<s.length
 ·have hi:(1500:Int)<(s.length:Int):=by omega
  go_enter Tryz.func5,Tryz.ntmps5
  go_wp2;go_ret;exact ⟨rfl,zN _ _⟩
 have hi:¬(1500:Int)<(s.length:Int):=by omega
 obtain ⟨R,hR⟩:∃ R,fE s=R:=⟨_,rfl⟩
 have fg:Hid (∀ f,R= .ok f→pS f):=zx (fun f hf=>(tY (by omega) (hR.trans hf)).1);have Z:Hid (∀ x,R= .error x→0<x.1):=zx (fun x hx=>s7 s x (hR.trans hx));have H1:Hid (Calls zy 37 #[zQ (bs s)] w fun e w'=>yg R w.heap.size e w'∧aa [] w w'):=zx (by
  rw[←hR];exact qB s (by omega) w HE.out HR.out)
 have H2:Hid (∀ W,aa [] w W→Calls zy 38 #[zQ (bs s)] W fun e w'=>jH R W.heap.size e w'∧aa [] W w'):=zx (fun W z=>by
  rw[←hR];exact sq s (by omega) W (HE.out.quiet z))
 clear hR;go_enter Tryz.func5,Tryz.ntmps5
 go_upto_region 3 with (fail)
 go_cut [3,4] from 19 to 27 (fun a b A=>∃ na nb hB V0 V1 V2,a=zS (some ⟨na,0,none⟩)∧b=zS (some ⟨nb,0,none⟩)∧Hid (w.heap.size≤nb)∧Hid (ap A na 79 #[V0,V1,V2])∧Hid (ap A nb 47 #[zW zX (pd R).2.1,zW zX (pd R).2.2])∧Hid (fq A hB V0 V1 V2 (pd R).1)∧Hid (aa [] w A))
 case first =>
  go_wp2_with ((with_reducible refine H1.out.mono ?_);rintro e w1 ⟨hp,I⟩;obtain ⟨A0,n0,c0',A1,n1,c1',A2,n2,c2',rfl,hf⟩:=sF hp;clear hp;have hf:=zx hf)
  go_meet;exact ⟨_,_,_,_,_,_,rfl,rfl,zx (by have:=I.size;omega),zx ((zO _ _ _).alloc _),zx (ap.new' _ _ _ _ (by simp)),zx (hf.out.keep (((zN _ _).alloc _).alloc _)),zx ((I.alloc _).alloc _)⟩
 obtain ⟨na,nb,b1,V0,V1,V2,rfl,rfl,ff,HA,g7,ep,a5⟩:=hcut;obtain ⟨wa,rfl⟩:∃ z:World,z=wc:=⟨_,rfl⟩
 clear H1;go_upto_region 4 with (fail)
 go_cut [5,6] from 27 to 32 (fun a b A=>∃ nc d4 U0 U1 U2,a=zS (some ⟨nc,0,none⟩)∧Hid (ap A nc 79 #[U0,U1,U2])∧Hid (fq A d4 U0 U1 U2 (pd R).1)∧Hid (qn A b R)∧Hid (aa [] wa A))
 case first =>
  go_wp2_with ((with_reducible refine (H2.out _ a5.out).mono ?_);rintro e w1 ⟨hp,I⟩;obtain ⟨A0,n0,c0',A1,n1,c1',A2,n2,c2',er,rfl,hf,d8⟩:=mz hp;clear hp;have hf:=zx hf;have d8:=zx d8)
  go_meet;exact ⟨_,_,_,_,_,rfl,zx (zO _ _ _),zx (hf.out.keep ((zN _ _).alloc _)),zx (d8.out.keep ((zN _ _).alloc _)),zx (I.alloc _)⟩
 case rest =>
 obtain ⟨nc,b2,U0,U1,U2,rfl,HC,d6,bo,O⟩:=hcut;obtain ⟨wb,rfl⟩:∃ z:World,z=wc:=⟨_,rfl⟩
 clear H2;have b0:=zx (a5.out.trans O.out);have U:=zx (g7.out.keep O.out (by simp));have g0:=b0.out.cell_of HR.out.fine.1 (by simp);have g1:=b0.out.cell_of HR.out.fine.2 (by simp);have gl:0<wb.heap.size:=zB _ _ g0;rcases hr:R with x|f
 ·-- BEGIN p1
  rw[hr] at U bo;have hp:=Z.out x hr;have ch:x.1≠0:=by omega
  have i4:(x.1==0)=false:=by rw[beq_eq_false_iff_ne];exact ch
  have q0:wb.cell? ⟨nb,0,none⟩=some (zW zX x.1):=U.out.cell 0;have q1:wb.cell? ⟨nb,1,none⟩=some (zW zX x.2):=U.out.cell 1;have ql:=U.out.lt;obtain ⟨gi,rfl,gs⟩:∃ gi,u6= .iface 136 (zS (some ⟨gi,0,none⟩))∧ap wb gi 137 #[zW zX x.1,zW zX x.2]:=bo.out
  have HI:=zx (uy gi x.1 x.2 wb (HT.out.keep b0.out (by simp)) gs);clear hp gs hr;go_wp2_with ((with_reducible refine HI.out.mono ?_);rintro e w5 ⟨rfl,k5⟩)
  go_ret;exact ⟨rfl,b0.out.trans k5⟩
 rw[hr] at U bo ep d6;obtain rfl:u6= .nilIface:=bo.out;have HW:=zx (fg.out f hr);have aA:Hid (eq w na nb nc b1 b2 V0 V1 V2 U0 U1 U2 f (0,-1) wb):=zx ⟨b0.out,HA.out.keep O.out (by simp),HC.out,U.out,ep.out.keep O.out,d6.out,ff.out⟩;have q0:wb.cell? ⟨nb,0,none⟩=some (zW zX 0):=U.out.cell 0;have q1:wb.cell? ⟨nb,1,none⟩=some (zW zX (-1)):=U.out.cell 1;have ql:=U.out.lt;clear hr ep d6 HA HC U g7 bo fg Z a5 O ff;go_upto_region 7 with (fail)
 clear q0 q1 ql g0 g1 gl;have bb:=zx (fun W (H:eq w na nb nc b1 b2 V0 V1 V2 U0 U1 U2 f (0,-1) W)=>qN f V0 V1 V2 W (H.fv.flIn HW.out) HW.out.short HW.out.shortJ (HR.out.quiet H.k) HW.out.inCols);have bk:=zx (fun (q:Int×Int) W (H:eq w na nb nc b1 b2 V0 V1 V2 U0 U1 U2 f q W)=>sc f U0 U1 U2 W (H.fu.flIn HW.out) HW.out.short (HO.out.quiet H.k) (HT.out.keep H.k (by simp)) HW.out.colNames)
 cases hc:eg f with
 | error x =>
  obtain ⟨ch,c8⟩:=qC hc;rw[hc] at bb bk;have c5:=zx c8;obtain ⟨x1,x2⟩:=x;simp only at ch;clear hc c8;go_cut [7] from 42 to 47 (fun u A=>u= .map none∧Hid (eq w na nb nc b1 b2 V0 V1 V2 U0 U1 U2 f (x1,x2) A))
  case first =>
   obtain ⟨a0,a1,a2,la⟩:=aA.out.v;go_wp2_with fail
   refine (bb.out _ aA.out).mono ?_;rintro e w1 ⟨he,I⟩;obtain rfl:e=zT (.tuple #[.map none,.agg #[zW zX x1,zW zX x2]]):=he;have D:=zx (aA.out.keep I);have a7:=zx (D.out.flt x1 x2);obtain ⟨q0,q1,lq⟩:=D.out.p;obtain ⟨f0,f1⟩:=D.out.z;clear I a0 a1 a2 la;go_wp2;go_meet;exact ⟨rfl,a7⟩
  case rest =>
  obtain ⟨rfl,HS⟩:=hcut;obtain ⟨y1,rfl⟩:∃ z:World,z=wc:=⟨_,rfl⟩
  clear aA bb;go_upto_region 8 with (fail)
  go_cut [6,8] from 47 to 52 (fun e u A=>u= .map none∧∃ gi,e= .iface 136 (zS (some ⟨gi,0,none⟩))∧Hid (ap A gi 137 #[zW zX x1,zW zX x2])∧Hid (eq w na nb nc b1 b2 V0 V1 V2 U0 U1 U2 f (x1,x2) A))
  case first =>
   obtain ⟨u0,u1,u2,lu⟩:=HS.out.u;go_wp2_with fail
   refine (bk.out _ _ HS.out).mono ?_;rintro e w1 ⟨⟨u,rfl,gi,rfl,hb⟩,I⟩;have HB:=zx hb;have D:=zx (HS.out.keep I);clear hb I u0 u1 u2 lu;go_wp2;go_meet;exact ⟨rfl,gi,rfl,HB,D⟩
  case rest =>
  obtain ⟨rfl,gi,rfl,HB,D⟩:=hcut;obtain ⟨y2,rfl⟩:∃ z:World,z=wc:=⟨_,rfl⟩
  clear HS bk;have HI:=zx (uy gi x1 x2 y2 (HT.out.keep D.out.k (by simp)) HB.out);have hZ:∀ ty (W:World),(Builtin.len_ #[84] ty #[.map none]).run zy W= .ok (zW zX 0) W:=fun ty W=>Maps.len_nil Tryz.underlying84 ty
  obtain ⟨q0,q1,lq⟩:=D.out.p;go_upto_region 11 with ((with_reducible refine HI.out.mono ?_);rintro e w5 ⟨rfl,k5⟩)
  have bj:=zx (D.out.keep k5);have b5:=run_range_nilMap (P:=zy) w5 84 9 22 Tryz.underlying84;have h5:∀ ty,(Instr.next (zS (some ⟨w5.heap.size,0,none⟩)) false ty).run zy (w5.alloc (.mapIter none 0 #[] 0))=_:=fun ty=>run_next_nilMap w5 ty 0 0 #[]
  clear k5 q0 q1 lq HI hZ HB;go_wp2_with fail
  go_loopw [9,10] (fun _ _ wr=>wr=w5.alloc (.mapIter none 0 #[] 0)) (fun _ _ _=>0)
  case atStart=>rfl
  subst hrel;have M:=zx (bj.out.keep ((zN [] w5).alloc (.mapIter none 0 #[] 0)));obtain ⟨q0,q1,lq⟩:=bj.out.p;by_cases d5:x1=11
  ·subst d5
   obtain ⟨a4,hU⟩:=c5.out rfl;have a8:=zx (fun W (H:eq w na nb nc b1 b2 V0 V1 V2 U0 U1 U2 f (11,x2) W)=>l9 f V0 V1 V2 W (H.fv.flIn HW.out) HW.out.short hU (HR.out.quiet H.k).fine);have Z:=zx (fun W (H:eq w na nb nc b1 b2 V0 V1 V2 U0 U1 U2 f (11,x2) W)=>jA f U0 U1 U2 W (H.fu.flIn HW.out));rw[a4] at a8 Z;clear a4 hU ch c5;go_upto_region 19 with (fail)
   clear q0 q1 lq b5 h5;generalize w5.alloc (.mapIter none 0 #[] 0)=y6 at *;go_cut [13] from 92 to 97 (fun u A=>u=zR none 0 0∧Hid (eq w na nb nc b1 b2 V0 V1 V2 U0 U1 U2 f (11,x2) A))
   case first =>
    obtain ⟨a0,a1,a2,la⟩:=M.out.v;go_wp2_with fail
    refine (a8.out _ M.out).mono ?_;rintro e w1 ⟨he,I⟩;obtain rfl:e=zT (.tuple #[zR none 0 0,.agg #[zW zX 11,zW zX x2]]):=he;have B:=zx (M.out.keep I);have J:=zx (B.out.flt 11 x2);obtain ⟨q0,q1,lq⟩:=B.out.p;obtain ⟨f0,f1⟩:=B.out.z;clear I a0 a1 a2 la;go_wp2;go_meet;exact ⟨rfl,J⟩
   case rest =>
   obtain ⟨rfl,B⟩:=hcut;obtain ⟨y7,rfl⟩:∃ z:World,z=wc:=⟨_,rfl⟩
   clear M bj a8;go_upto_region 20 with (fail)
   go_cut [6,14] from 97 to 102 (fun e u A=>u=zR none 0 0∧∃ gi,e= .iface 136 (zS (some ⟨gi,0,none⟩))∧Hid (ap A gi 137 #[zW zX 11,zW zX x2])∧Hid (eq w na nb nc b1 b2 V0 V1 V2 U0 U1 U2 f (11,x2) A))
   case first =>
    obtain ⟨u0,u1,u2,lu⟩:=B.out.u;go_wp2_with fail
    refine (Z.out _ B.out).mono ?_;rintro e w1 ⟨⟨gj,rfl,hb⟩,I⟩;have HB:=zx hb;have J:=zx (B.out.keep I);clear hb I u0 u1 u2 lu;go_wp2;go_meet;exact ⟨rfl,gj,rfl,HB,J⟩
   case rest =>
   obtain ⟨rfl,gj,rfl,HB,J⟩:=hcut;obtain ⟨y8,rfl⟩:∃ z:World,z=wc:=⟨_,rfl⟩
   clear B Z;have HI:=zx (uy gj 11 x2 y8 (HT.out.keep J.out.k (by simp)) HB.out);have bm:=zx (fun W=>jm [] none none 0 0 W Rd.nil Rd.nil (by simp));have fn:Hid (∀ W,Calls zy 43 #[zR none 0 0,zR none 0 0] W fun e w'=>e=zT (.bool true)∧aa [] W w'):=bm;obtain ⟨q0,q1,lq⟩:=J.out.p;clear bm;go_wp2_with (first|((with_reducible refine HI.out.mono ?_);rintro e w9 ⟨rfl,k9⟩)|((with_reducible refine (fn.out _).mono ?_);rintro e f3 ⟨rfl,bl⟩))
   have ek:=zx (J.out.k.trans (k9.trans bl));clear k9 bl q0 q1 lq;go_loopw [15] (fun i wr=>i=zW zX 0∧Hid (aa [] w wr)) (fun _ _=>0)
   case atStart=>exact ⟨rfl,ek⟩
   obtain ⟨rfl,a9⟩:=hrel;go_wp2;go_ret;exact ⟨rfl,a9.out⟩
  have h11':(x1==11)=false:=by rw[beq_eq_false_iff_ne];exact d5
  have js:(x1 != 11)=true:=by rw[bne_iff_ne];exact d5
  have h13:(x1 != 0)=true:=by rw[bne_iff_ne];exact ch
  go_wp2;go_ret;exact ⟨rfl,M.out.k⟩
 | ok m =>
  obtain ⟨⟨l,a4⟩,hU⟩:=qD hc;have h7:=zx hc;have cf:=zx a4;have gm:=zx hU;rw[hc] at bb bk;clear hc a4 hU;go_cut [7] from 42 to 47 (fun u A=>∃ (bA:Nat) (mA:List (Bs×Value)),u= .map (some bA)∧Hid (cz zy 9 A bA mA)∧Hid (jo A mA m)∧Hid (eq w na nb nc b1 b2 V0 V1 V2 U0 U1 U2 f (0,-1) A))
  case first =>
   obtain ⟨a0,a1,a2,la⟩:=aA.out.v;have cg:=aA.out.qb.lt;go_wp2_with fail
   refine (bb.out _ aA.out).mono ?_;rintro e w1 ⟨⟨bA,mA,he,f7,f2,h6⟩,I⟩;obtain rfl:e=zT (.tuple #[.map (some bA),.agg #[zW zX 0,zW zX (-1)]]):=he;have D:=zx (aA.out.keep I);have a7:=zx (D.out.flt 0 (-1));have dB:=jQ w1 nb (zW zX 0) (zW zX (-1));have co:=zx (f7.keep dB (by simp;omega));have cp:=zx (f2.keepF D.out.qb dB);obtain ⟨q0,q1,lq⟩:=D.out.p;obtain ⟨f0,f1⟩:=D.out.z;clear I a0 a1 a2 la f7 f2 h6 dB cg;go_wp2;go_meet;exact ⟨bA,mA,rfl,co,cp,a7⟩
  case rest =>
  obtain ⟨bA,mA,rfl,co,cp,HS⟩:=hcut;obtain ⟨y1,rfl⟩:∃ z:World,z=wc:=⟨_,rfl⟩
  clear aA bb;go_upto_region 8 with (fail)
  go_cut [6,8] from 47 to 52 (fun e u A=>∃ (bB:Nat) (mB:List (Bs×Value)),e= .nilIface∧u= .map (some bB)∧Hid (cz zy 9 A bB mB)∧Hid (jo A mB m)∧Hid (aa [] y1 A))
  case first =>
   obtain ⟨u0,u1,u2,lu⟩:=HS.out.u;go_wp2_with fail
   refine (bk.out _ _ HS.out).mono ?_;rintro e w1 ⟨⟨bB,mB,rfl,hF,hD,-⟩,I⟩;have b6:=zx hF;have b4:=zx hD;have a5:=zx I;clear I u0 u1 u2 lu hF hD;go_wp2;go_meet;exact ⟨bB,mB,rfl,rfl,b6,b4,a5⟩
  case rest =>
  obtain ⟨bB,mB,rfl,rfl,b6,b4,O⟩:=hcut;obtain ⟨y2,rfl⟩:∃ z:World,z=wc:=⟨_,rfl⟩
  have a7:=zx (HS.out.keep O.out);have bq:=zx (co.out.keep O.out (by simp));have ci:=zx (cp.out.keep O.out);clear HS bk co cp O;have HI:=zx (ux y2);obtain ⟨et,e3⟩:∃ c,mi mA=c:=⟨_,rfl⟩
  have hA:mi mB=et:=by rw[←e3];exact lN (b4.out.fst.trans ci.out.fst.symm)
  obtain ⟨q0,q1,lq⟩:=a7.out.p;go_upto_region 11 with ((with_reducible refine HI.out.mono ?_);rintro e w5 ⟨rfl,k5⟩;have gw:=fun ty=>(bq.out.keep k5 (by simp)).len Tryz.underlying84 ty;have hq:=fun ty=>(b6.out.keep k5 (by simp)).len Tryz.underlying84 ty;rw[e3] at gw;rw[hA] at hq)
  have bj:=zx (a7.out.keep k5);have c9:=zx (bq.out.keep k5 (by simp));have b3:=zx (b6.out.keep k5 (by simp));have c4:=zx (ci.out.keep k5);have cu:=zx (b4.out.keep k5);clear k5 q0 q1 lq HI gw hq e3 hA a7 bq b6 ci b4;go_wp2_with (refine kI rfl _ rfl Tryz.underlying84 Tryz.underlying9 rfl c9.out ?_)
  intro y6 b5 k6 e4;obtain ⟨r,hr⟩:∃ r,w5.heap.size=r:=⟨_,rfl⟩
  rw[hr] at b5 ⊢;have hC:=zx b5;have el:=zx k6;have es:Hid (w5.heap.size≤r):=zx (by omega);have g3:bB≠r:=by have:=b3.out.lt;omega
  have hV:=zx g3;clear b5 k6 e4 hr g3;go_wp2_with fail
  go_loopw [9] (fun _ wr=>∃ L et,Hid (eW zy 9 wr bA r mA L et)∧Hid (aa [r] y6 wr)) (fun _ wr=>wr.rangeLeft bA r)
  case atStart=>exact ⟨_,_,hC,zx (zN _ _)⟩
  clear hC;obtain ⟨L,ft,cq,a9⟩:=hrel;obtain ⟨z,rfl⟩:∃ z:World,z=wr:=⟨_,rfl⟩
  go_wp2_with (refine mj rfl _ rfl Tryz.underlying9 rfl cq.out ?hDone ?hMore)
  case hMore =>
   intro k v z2 ha hQ ds cx hs e0 e4 ih;have ad:Hid (aa [] w5 z2):=zx (((el.out.of_nil.trans a9.out).trans e0).weaken fun x hx hl=>by rw[zD] at hx;have:=es.out;omega);obtain ⟨cc,bn,ic⟩:∃ cc,m.lookup k=some cc∧e8 w5 v cc:=by
    rcases c4.out.look k with ⟨h,_⟩|⟨v',cc,h1,h2,h3⟩
    ·rw[ds] at h;cases h
    rw[ds] at h1;cases h1
    exact ⟨cc,h2,h3⟩
   obtain ⟨v2,fz,hm⟩:∃ v2,mB.lookup k=some v2∧e8 w5 v2 cc:=by
    rcases cu.out.look k with ⟨_,h⟩|⟨v',i5,h1,h2,h3⟩
    ·rw[bn] at h;cases h
    rw[bn] at h2;cases h2
    exact ⟨v',h1,h3⟩
   have i3:k.length≤1000:=by
    obtain ⟨_,_,_,hS,_⟩:=tj h7.out;by_cases hh:k∈cG f
    ·exact HW.out.short.names k hh
    rw[hS.none k hh] at bn;cases bn
   obtain ⟨hW,Av,cv,rfl,hX,hk⟩:=ic;obtain ⟨_,hw,ho,rfl,f5,c6⟩:=hm;have q3:(Instr.lookup 84 (.map (some bB)) (zQ (bs k)) true).run zy z2= .ok (.tuple #[zR hw cc.length ho,.bool true]) z2:=by
    have h:=(b3.out.keep ad.out (by simp)).look (P:=zy) Tryz.underlying84 Tryz.underlying9 (z:=zR none 0 0) (by kernel_rfl) k (by unfold maxLen;omega);rw[fz] at h;exact h
   have h4:=zx (mG cc hw Av ho cv z2 (c6.keep ad.out) (hk.keep ad.out) hW);have fS:=zx cx;have a6:=zx (a9.out.trans e0);have hG:z.rangeLeft bA r=ft:=cq.out.left_eq;have h8:Hid (ha<z.rangeLeft bA r):=zx (by rw[hG];exact hs);clear hQ ds cx hs e0 e4 bn fz hk c6 hX f5 hG a9 cq;go_wp2_with fail
   refine h4.out.mono ?_;rintro e z3 ⟨rfl,k3⟩;have c3:=zx (fS.out.kept k3 (by simp) (by simp));have ga:=zx (a6.out.trans k3.of_nil);have c7:z3.rangeLeft bA r<z.rangeLeft bA r:=by rw[c3.out.left_eq];exact h8.out
   have gk:=zx c7;clear k3 c7;go_wp2;go_roundw
   case rel=>exact ⟨_,_,c3,ga⟩
   case measure=>exact gk.out
  case hDone =>
   intro _ _;have ad:Hid (aa [] w5 z):=zx ((el.out.of_nil.trans a9.out).weaken fun x hx hl=>by rw[zD] at hx;have:=es.out;omega);have M:=zx (bj.out.keep ad.out);have a8:=zx (fun W (H:eq w na nb nc b1 b2 V0 V1 V2 U0 U1 U2 f (0,-1) W)=>ki f V0 V1 V2 W (H.fv.flIn HW.out) HW.out.short gm.out (HR.out.quiet H.k).fine);have Z:=zx (fun W (H:eq w na nb nc b1 b2 V0 V1 V2 U0 U1 U2 f (0,-1) W)=>jA f U0 U1 U2 W (H.fu.flIn HW.out));rw[cf.out] at a8 Z;have ie:l.length≤16:=by
    have h:=(fO cf.out).2;have:=HW.out.njobs;omega
   have hN:=zx (fO cf.out).1.lt;obtain ⟨q0,q1,lq⟩:=M.out.p;clear cq a9 ad el c9 b3 c4 cu bj hV es;go_upto_region 19 with (fail)
   clear q0 q1 lq;go_cut [13] from 92 to 97 (fun u A=>∃ (L1:Option Addr) (c1:Nat),u=zR L1 l.length c1∧l.length≤c1∧Hid (Rd A [nb] 1 L1 l.length (cO l))∧Hid (eq w na nb nc b1 b2 V0 V1 V2 U0 U1 U2 f (0,-1) A))
   case first =>
    obtain ⟨a0,a1,a2,la⟩:=M.out.v;have cg:=M.out.qb.lt;go_wp2_with fail
    refine (a8.out _ M.out).mono ?_;rintro e w1 ⟨⟨L1,c1,he,hz,cj⟩,I⟩;obtain rfl:e=zT (.tuple #[zR L1 l.length c1,.agg #[zW zX 0,zW zX (-1)]]):=he;have B:=zx (M.out.keep I);have J:=zx (B.out.flt 0 (-1));have ct:=zx ((cj [nb] (by simpa using cg)).keep (jQ w1 nb (zW zX 0) (zW zX (-1))));obtain ⟨q0,q1,lq⟩:=B.out.p;obtain ⟨f0,f1⟩:=B.out.z;clear I a0 a1 a2 la cj cg;go_wp2;go_meet;exact ⟨L1,c1,rfl,hz,ct,J⟩
   case rest =>
   obtain ⟨L1,c1,rfl,hz,ct,B⟩:=hcut;obtain ⟨y7,rfl⟩:∃ z:World,z=wc:=⟨_,rfl⟩
   clear M a8;go_upto_region 20 with (fail)
   go_cut [6,14] from 97 to 102 (fun e u A=>∃ (L2:Option Addr) (c2:Nat),e= .nilIface∧u=zR L2 l.length c2∧Hid (Rd A [] 1 L2 l.length (cO l))∧Hid (aa [] y7 A))
   case first =>
    obtain ⟨u0,u1,u2,lu⟩:=B.out.u;go_wp2_with fail
    refine (Z.out _ B.out).mono ?_;rintro e w1 ⟨⟨L2,c2,rfl,-,cj⟩,I⟩;have ba:=zx cj;have a5:=zx I;clear cj I u0 u1 u2 lu;go_wp2;go_meet;exact ⟨L2,c2,rfl,rfl,ba,a5⟩
   case rest =>
   obtain ⟨L2,c2,rfl,rfl,ba,d7⟩:=hcut;obtain ⟨y8,rfl⟩:∃ z:World,z=wc:=⟨_,rfl⟩
   have J:=zx (B.out.keep d7.out);have b7:=zx (ct.out.nilL.keep d7.out);clear B Z ct d7;have HI:=zx (ux y8);have bm:=zx (fun W (q:aa [] y8 W)=>jm l L2 L1 c2 c1 W (ba.out.keep q) (b7.out.keep q) (by omega));obtain ⟨q0,q1,lq⟩:=J.out.p;go_upto_region 23 with (first|((with_reducible refine HI.out.mono ?_);rintro e w9 ⟨rfl,k9⟩)|((with_reducible refine (bm.out _ k9).mono ?_);rintro e f3 ⟨rfl,bl⟩))
   have em:=zx (J.out.keep (k9.trans bl));have c0:=zx (b7.out.keep (k9.trans bl));clear k9 bl q0 q1 lq HI bm J b7 ba;obtain ⟨B0,d0,B1,d1,B2,d2,rfl,rfl,rfl⟩:=em.out.fv.forms;have h9:= @run_makeMap zy;go_wp2_with fail
   go_loopw [15] (fun i wr=>∃ n:Nat,n≤l.length∧i=zW zX n∧Hid (aa [] f3 wr)) (fun i _=>l.length-(intOf i).toNat)
   case atStart=>exact ⟨0,zE _,rfl,zx (zN _ _)⟩
   obtain ⟨n,hn,rfl,a6⟩:=hrel;obtain ⟨z0,rfl⟩:∃ z:World,z=wr:=⟨_,rfl⟩
   by_cases cg:n<l.length
   ·have hK:(n:Int)<(l.length:Int):=by omega
    have dv:=ew.made (P:=zy) (K:=3) z0;have hy:aa [] z0 (z0.alloc (.map #[] 0)):=(zN _ _).alloc _;go_upto_region 27 with (fail)
    obtain ⟨bd,g2⟩:∃ z,z0.heap.size=z:=⟨_,rfl⟩
    rw[g2] at dv ⊢;have h0:Hid (z0.heap.size≤bd):=zx (by omega);have eb:=zx dv;have fb:=zx hy;clear dv hy g2 h9;generalize z0.alloc (.map #[] 0)=z1 at *;go_upto_block 4 with (fail)
    go_cut [17] from 119 to 129 (fun _ A=>Hid (gD A bd (l.take n) f.jobs.length)∧Hid (aa [] z0 A))
    case first =>
     go_wp2_with fail
     go_loopw [17] (fun i wr=>∃ j:Nat,j≤n∧i=zW zX j∧Hid (ew zy 3 wr bd j (kh (l.take j)))∧Hid (aa [] z0 wr)) (fun i _=>n-(intOf i).toNat)
     case atStart=>exact ⟨0,zE _,rfl,eb,fb⟩
     clear eb fb;obtain ⟨j,hj,rfl,HM,a3⟩:=hrel;obtain ⟨z2,rfl⟩:∃ z:World,z=wr:=⟨_,rfl⟩
     by_cases e5:j<n
     ·have d9:(j:Int)<(n:Int):=by omega
      have i9:(0:Int)≤(j:Int):=by omega
      have en:j<l.length:=by omega
      have il:(j:Int)<(l.length:Int):=by omega
      obtain ⟨gb,ob,rfl,-,-,g6⟩:=(c0.out.keep (a6.out.trans a3.out)).open' (by omega) (by decide);have q0:=g6 j _ (gZ l j en);have hx:=hN.out _ (zH en);have hv:=HW.out.njobs;have d3:l.take (j+1)=l.take j++[l[j]]:=List.take_succ_eq_append_getElem en;obtain ⟨x,ht⟩:∃ x,l[j]=x:=⟨_,rfl⟩
      rw[ht] at q0 hx d3;obtain ⟨W3,ir,fc,hu⟩:=HM.out.store (T:=96) Tryz.underlying96 Tryz.underlying3 (x:Int) (.bool true) (qK (by omega)) (by simp only[maxLen];omega);rw[l8,←d3] at fc;have hP:=zx fc;have hL:=zx (a3.out.grown hu (fun g hg=> .inr (by
       have:bd=g:=Option.some.inj hg;rw[←this];exact h0.out)))
      clear g6 fc hu d3 ht hx hv;go_wp2_with fail
      go_roundw
      case rel=>exact ⟨j+1,by omega,by go_num,hP,hL⟩
      case measure=>simp[intOf];omega
     have d9:¬(j:Int)<(n:Int):=by omega
     obtain rfl:j=n:=by omega
     have dq:=zx (ow HM.out (N:=f.jobs.length) (by have:=HW.out.njobs;omega));go_wp2;go_meet
     case rel=>exact ⟨dq,a3⟩
    case rest =>
    obtain ⟨dq,ad⟩:=hcut;obtain ⟨z3,rfl⟩:∃ z:World,z=wc:=⟨_,rfl⟩
    clear eb fb;have ez:=zx (em.out.keep (a6.out.trans ad.out));have hM:=zx (c0.out.keep (a6.out.trans ad.out));have hv:=HW.out.njobs;have jc:=s8 L1 l.length c1 n (by omega);have ix:(n:Int)≤(c1:Int):=by omega
    have jf:(0:Int)≤(n:Int):=by omega
    have hH:=zx (fun (j:Nat) (hj:j<f.jobs.length) W (q:aa [] z3 W)=>l7 f (zR B0 f.ins.length d0) (zR B1 f.jobs.length d1) (zR B2 f.outs.length d2) j hj (l.take n) bd W ((ez.out.keep q).fv.flIn HW.out) HW.out.short gm.out (dq.out.keep q));have g5:=zx (fun (j:Nat) (hj:j<f.jobs.length) W (q:aa [] z3 W)=>mS f U0 U1 U2 j hj (l.take n) L1 c1 W ((ez.out.keep q).fu.flIn HW.out) (uN (hM.out.keep q) (by omega)) (by rw[dw,List.length_take];omega));have f6:(cn (l.take n)).length=n:=by rw[dw,List.length_take];omega
    rw[f6] at g5;clear f6;go_wp2_with fail
    go_loopw [18] (fun i wr=>∃ j:Nat,j≤f.jobs.length∧i=zW zX j∧Hid (aa [] z3 wr)) (fun i _=>f.jobs.length-(intOf i).toNat)
    case atStart=>exact ⟨0,zE _,rfl,zx (zN _ _)⟩
    obtain ⟨j,hj,rfl,a3⟩:=hrel;obtain ⟨z4,rfl⟩:∃ z:World,z=wr:=⟨_,rfl⟩
    have g4:=zx (ez.out.keep a3.out);obtain ⟨a0,a1,a2,la⟩:=g4.out.v;obtain ⟨u0,u1,u2,lu⟩:=g4.out.u;by_cases e5:j<f.jobs.length
    ·have d9:(j:Int)<(f.jobs.length:Int):=by omega
     have hJ:=zx (fun W (q:aa [] z4 W)=>hH.out j e5 W (a3.out.trans q));have hY:=zx (fun W (q:aa [] z4 W)=>g5.out j e5 W (a3.out.trans q));generalize br f (l.take n) j=RB at *;go_upto_region 34 with (fail)
     refine aB (by kernel_rfl) (by kernel_rfl) ?_;repeat (go_big_quiet_step (first|with_reducible exact zP hJ.out _|with_reducible exact zP hY.out _))
     refine wpQuiet_nil ?_;intro A kx;have e9:=zx (a3.out.trans kx);go_wp2;go_roundw
     case rel=>exact ⟨j+1,by omega,by go_num,e9⟩
     case measure=>simp[intOf];omega
    have d9:¬(j:Int)<(f.jobs.length:Int):=by omega
    have e9:=zx (a6.out.trans (ad.out.trans a3.out));go_wp2;go_roundw
    case rel=>exact ⟨n+1,by omega,by go_num,e9⟩
    case measure=>simp[intOf];omega
   have hK:¬(n:Int)<(l.length:Int):=by omega
   have ek:=zx (em.out.keep a6.out).k;go_wp2;go_ret;exact ⟨rfl,ek.out⟩
end
end Go.Proofs.YtpagiajlefejcaaGreatDoor
