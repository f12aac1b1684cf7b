/- Parse's deferred closure. Parse. What the program's Parse hands back, in one form, whether the text is a flow or none. -/
import Derived.Test.YtpagiajlefejcaaGreatDoorPfiM8
import Derived.Test.YtpagiajlefejcaaGreatDoorPfiM9
import Derived.Defers
import Derived.Recover
import Derived.Test.YtpagiajlefejcaaGreatDoorPfiM2
import Derived.Test.YtpagiajlefejcaaGreatDoorPfiM1
import Derived.Test.YtpagiajlefejcaaGreatDoorPfiM4
import Derived.Test.YtpagiajlefejcaaGreatDoorPfiM6
import Derived.Deep.CutRange
set_option linter.unusedSimpArgs false
set_option linter.unusedVariables false
set_option maxRecDepth 100000
set_option maxHeartbeats 16000000
namespace Go.Proofs.YtpagiajlefejcaaGreatDoor
open Go.Lib renaming hid → zx
open Go.Proofs.Tryz renaming prog → zy
open _root_.Nat renaming le_refl → zz, le_trans → zA, zero_le → zE
open Go.World renaming block_lt_of_cell? → zB, news_of_block → zJ
open _root_.List renaming mem_singleton → zD, length_append → zF, length_cons → zG, getElem_mem → zH
open aa renaming refl → zN
open ap renaming new → zO
open Go.Value renaming string → zQ, slice → zR, pointer → zS, int → zW
open Go.Ending renaming returned → zT
open Go.Obj renaming cells → zU
open Go.IntKind renaming i64 → zX
section
open Go.RowKit Go.BigFrame
attribute [local go_sem] ag ab ae af
theorem vk {P:Program} {c:Code} {Q:Exit→Act→World→Prop} {t t':Array Value} {d:List Deferred} {w:World} (h:t=t') (k:c.wp P Q ⟨t',d⟩ w):c.wp P Q ⟨t,d⟩ w:=h ▸ k
theorem tT {P:Program} {c:Code} {Q:Exit→Act→World→Prop} {a:Act} {w:World} (h:∀ A:Exit→Act→World→Prop,(∀ e a w,Q e a w→A e a w)→c.wp P A a w):c.wp P Q a w:=h Q (fun _ _ _ h=>h)
theorem lF (p q:Addr) (w:World) :
  CallsD zy 103 #[zS (some p),zS (some q)] .returning w fun e B w'=>e=zT (.tuple #[])∧B= .returning∧w'=w:=by
 refine callsD_of_wpS Tryz.func103 rfl fun h cs A=>?_
 apply wpS_seq;apply wpS_region;simp[wpOpsS,go_sem,recoverD,A,Tryz.ntmps103,Exit.thenS];refine wpS_of_wp ?_;go_wp2;cases h
 simp_all [bodyPostS,results,Tryz.results103]
theorem gE (h D M:Nat) (v0 U Z:Value) (A:List PanicEntry) (w:World) (B:ap w h 79 #[v0,U,Z]) (J:ap w D 38 #[.nilIface]) (I:h≠D) :
  CallsD zy 103 #[zS (some ⟨h,0,none⟩),zS (some ⟨D,0,none⟩)] (.panicking ({ v:= .iface 183 (.agg #[.iface 136 (zS (some ⟨M,0,none⟩))]),recovered:=false }::A)) w fun e u' w' =>
   e=zT (.tuple #[])∧u'= .panicking ({ v:= .iface 183 (.agg #[.iface 136 (zS (some ⟨M,0,none⟩))]),recovered:=true }::A)∧ap w' h 79 #[zR none 0 0,zR none 0 0,zR none 0 0]∧ap w' D 38 #[.iface 136 (zS (some ⟨M,0,none⟩))]∧aa [h,D] w w':=by
 refine callsD_of_wpS Tryz.func103 rfl fun c₀ cs hu=>?_
 apply wpS_seq;apply wpS_region;simp[wpOpsS,go_sem,recoverD,hu,Tryz.ntmps103,Exit.thenS];refine wpS_of_wp (tT fun QQ O=>?_);have HQ:=zx O;have ad:∀ (v:Value) (w:World),(Instr.typeAssert (.iface 183 v) 20 183 true).run zy w= .ok (.tuple #[v,.bool true]) w:=fun v w=>by first|kernel_rfl|rfl
 clear O hu;refine vk (t':= #[zS (some ⟨h,0,none⟩),zS (some ⟨D,0,none⟩),.iface 183 (.agg #[.iface 136 (zS (some ⟨M,0,none⟩))]),undef,undef,.iface 183 (.agg #[.iface 136 (zS (some ⟨M,0,none⟩))]),undef,undef,undef,undef,undef,undef,undef,undef,undef,undef,undef,undef,undef]) (by first|rfl|simp[Array.replicate,List.replicate]|trace_state) ?_;have f0:w.cell? ⟨h,0,none⟩=some v0:=B.cell 0;have f1:w.cell? ⟨h,1,none⟩=some U:=B.cell 1;have f2:w.cell? ⟨h,2,none⟩=some Z:=B.cell 2;have z0:=B.frozen 0;have z1:=B.frozen 1;have z2:=B.frozen 2;have e0:w.cell? ⟨D,0,none⟩=some .nilIface:=J.cell 0;have ez:=J.frozen 0;have lf:=B.lt;have le:=J.lt;have HF:=zx B;have HE:=zx J;clear B J;go_wp2;go_region
 refine HQ.out _ _ _ ⟨rfl,_,rfl,_,results_none rfl _ _ _,rfl,rfl,?_,?_,?_⟩
 ·exact ((((ei (eh (e6 HF.out))).keep ((zN [D] _).setCell (.inl (by simp)) _) (by simpa using I)).keep ((zN [] _).alloc _) (by simp)).keep ((zN [] _).drew) (by simp))
 ·have h1:aa [h] w (((w.setCell ⟨h,0,none⟩ (zR none 0 0)).setCell ⟨h,1,none⟩ (zR none 0 0)).setCell ⟨h,2,none⟩ (zR none 0 0)):=(((zN _ _).setCell (.inl (by simp)) _).setCell (.inl (by simp)) _).setCell (.inl (by simp)) _
  exact ((((HE.out.keep h1 (by simpa using I.symm)).set 0 _).congr rfl).keep ((zN [] _).alloc _) (by simp)).keep ((zN [] _).drew) (by simp)
 exact (((((((zN _ _).setCell (.inl (by simp)) _).setCell (.inl (by simp)) _).setCell (.inl (by simp)) _).setCell (.inl (by simp)) _).alloc _).drew)
theorem fo.low {W:World} {A h:Nat} (I:A≤h):∀ cs x,fo W h cs x→fo W A cs x:=fun _ _ ⟨v,D,B⟩=>⟨v,D,bg B I⟩
theorem fp.low {W:World} {A h:Nat} (D:A≤h):∀ cs x,fp W h cs x→fp W A cs x:=fun _ _ ⟨J,I,O,M,B⟩=>⟨J,I,O,M,⟨bg B.o2 D,bg B.o3 D,bg B.o4 D⟩⟩
theorem bX.low {α:Type} {D:World→Nat→List Value→α→Prop} {e:TypeId} {size B A:Nat} {W:World} {v:Value} {l:List α} (J:B≤A) (O:∀ cs x,D W A cs x→D W B cs x) (h:bX D e size W A v l):bX D e size W B v l:=by
 obtain ⟨Z,M,I,U⟩:=h;exact ⟨Z,M,bg I J,fun j h h'=>O _ _ (U j h h')⟩
def jH (R:Except (Int×Int) Fl) (h:Nat) (e:Ending) (w':World):Prop:=match R with
 | .ok f=>∃ D B A,e=zT (.tuple #[.agg #[D,B,A],.nilIface])∧iB w' h D f.ins∧fH w' h B f.jobs∧fI w' h A f.outs
 | .error x=>∃ I,e=zT (.tuple #[.agg #[zR none 0 0,zR none 0 0,zR none 0 0],.iface 136 (zS (some ⟨I,0,none⟩))])∧ap w' I 137 #[zW zX x.1,zW zX x.2]
theorem xP {y:World} {B:Nat} {v:Value} {l:List Tk} (h:y.ownsRow B 193 3 v l.length (bY l)) (M:fP l) (hw:∀ t∈l,uS t):Ps (y.alloc (zU #[v] 190)) y.heap.size l:=by
 rcases h.2 with ⟨_,h0⟩|⟨g,D,ad,rfl,hb,U,h1,Z,h3,h4⟩
 ·have:=M.pos;omega
 have hg:g<y.heap.size:=(Array.getElem?_eq_some_iff.1 U).1;have O:=(zN [] y).alloc (zU #[zR (some ⟨g,0,none⟩) l.length D] 190);obtain ⟨A,c,e,J⟩:=ao h;injection e with e1 e2 e3;subst e1 e3;obtain ⟨g',I,_,J⟩:=J M.pos;injection I with I;injection I with I;subst I;exact ⟨g,0,D,zO _ _ _,⟨cD.keep ⟨_,_,U⟩ O (by simp),hg⟩,h1,Z,M,hw,fun j u hu=>by rw[Nat.zero_add];exact O.cell_of (J j u hu) (by simp)⟩
theorem dj {W:World} {g b k:Nat} {e:TypeId} {cs:Array Value} {u:Value} (h:ap W g e cs) (A:g≠b):ap (W.setCell ⟨b,k,none⟩ u) g e cs:=h.keep ((zN [b] _).setCell (.inl (by simp)) _) (by simpa using A)
theorem oi {W:World} {g:Nat} {e:TypeId} {a u:Value} (h:ap W g e #[a]):ap (W.setCell ⟨g,0,none⟩ u) g e #[u]:=(h.set 0 u).congr rfl
theorem ea {W:World} {g:Nat} {e:TypeId} {cs:Array Value} (h:ap W g e cs):ap W.drew g e cs:=h
theorem gu {P:Program} {A:Func} {h:Array Value} {R:Ending→World→Prop} {w:World} {v:Value} (D:(results A h).run P w= .ok v w) (B:R (zT v) w):Leaves P A h R [] .returning w:=⟨v,D,B⟩
theorem sq (s:Bs) (hs:s.length≤1000000) (w:World) (hE:iv w) :
  Calls zy 38 #[zQ (bs s)] w fun e w'=>jH (fE s) w.heap.size e w'∧aa [] w w':=by
 have e9:∀ (fn:Fn) (first d6:Array Value) (w:World),(Instr.makeFunc fn first d6).run zy w= .ok (.func fn first d6) w:=fun _ _ _ _=>rfl
 obtain ⟨R,hR⟩:∃ R,fE s=R:=⟨_,rfl⟩
 rw[hR];unfold fE at hR;have HR:=zx hR;have HE:=zx hE;have d4:=zx hs;clear hR hE hs;go_enter_defers Tryz.func38,Tryz.ntmps38
 go_upto_region 2 with (fail)
 obtain ⟨W1,ba⟩:∃ x,w.alloc (zU #[zR none 0 0,zR none 0 0,zR none 0 0] 79)=x:=⟨_,rfl⟩
 have z1:W1.heap.size=w.heap.size+1:=by rw[←ba];exact gh _ _
 obtain ⟨y0,bn⟩:∃ x,W1.alloc (zU #[.nilIface] 38)=x:=⟨_,rfl⟩
 have k1:aa [] w W1:=by rw[←ba];exact (zN _ _).alloc _
 have k2:aa [] W1 y0:=by rw[←bn];exact (zN _ _).alloc _
 have b1:ap W1 w.heap.size 79 #[zR none 0 0,zR none 0 0,zR none 0 0]:=by rw[←ba];exact zO _ _ _
 have b2:ap y0 (w.heap.size+1) 38 #[.nilIface]:=by rw[←bn,←z1];exact zO _ _ _
 have b1':=b1.keep k2 (by simp);rw[ba,bn];obtain ⟨eb,ci⟩:∃ x,w.heap.size+1=x:=⟨_,rfl⟩
 rw[ci] at b2 ⊢;obtain ⟨D,cv⟩:∃ x,w.heap.size=x:=⟨_,rfl⟩
 have c3:=zx cv;rw[cv] at b1' ci ⊢;have c5:=zx b1';have ch:=zx b2;have HK:=zx (k1.trans k2);have Z:Hid (D≠eb):=zx (by omega);have aA:Hid (w.heap.size≤D):=zx (by have:=c3.out;omega);have a5:Hid (w.heap.size≤eb):=zx (by have:=c3.out;omega);have e4:¬D=eb:=by omega
 have e0:¬eb=D:=by omega
 have et:Hid (D<eb):=zx (by omega);clear b1 b1' b2 k1 k2 z1 ba bn ci cv;have f0:y0.cell? ⟨eb,0,none⟩=some .nilIface:=ch.out.cell 0;have hT:=qm s d4.out y0 (HE.out.quiet HK.out);rcases hL:kn s with x|l
 ·have HX:Hid (R= .error x):=zx (by rw[←HR.out,hL];rfl)
  rw[hL] at hT;have HT:=zx hT;clear hT hL f0;go_wp2_with fail
  refine HT.out.mono ?_;rintro ev y1 ⟨⟨gi,rfl,hb⟩,U⟩;have I:=zx (c5.out.keep U (by simp));have J:=zx (ch.out.keep U (by simp));have bl:=zx (HK.out.trans U);have cj:=zx hb;clear hb U HT;have f0:y1.cell? ⟨eb,0,none⟩=some .nilIface:=J.out.cell 0;have ez:=J.out.frozen 0;have le:=J.out.lt;have r0:y1.cell? ⟨D,0,none⟩=some (zR none 0 0):=I.out.cell 0;have r1:y1.cell? ⟨D,1,none⟩=some (zR none 0 0):=I.out.cell 1;have r2:y1.cell? ⟨D,2,none⟩=some (zR none 0 0):=I.out.cell 2;have z0:=I.out.frozen 0;have z1:=I.out.frozen 1;have z2:=I.out.frozen 2;have lr:=I.out.lt;go_upto_region 4 with (fail)
  go_region
  go_wp2;refine leaves_cons (f:=103) (args:= #[zS (some ⟨D,0,none⟩),zS (some ⟨eb,0,none⟩)]) (by simp) (by simp[go_sem]) ?_;refine (lF ⟨D,0,none⟩ ⟨eb,0,none⟩ _).mono ?_;rintro e u' em ⟨rfl,rfl,rfl⟩;have O:=ea (dj (k:=0) (u:= .iface 136 (zS (some ⟨gi,0,none⟩))) (ei (u:=zR none 0 0) (eh (u:=zR none 0 0) (e6 (u:=zR none 0 0) (dj (k:=0) (u:= .iface 136 (zS (some ⟨gi,0,none⟩))) I.out Z.out)))) Z.out);have a4:=ea (oi (u:= .iface 136 (zS (some ⟨gi,0,none⟩))) (dj (k:=2) (u:=zR none 0 0) (dj (k:=1) (u:=zR none 0 0) (dj (k:=0) (u:=zR none 0 0) (oi (u:= .iface 136 (zS (some ⟨gi,0,none⟩))) J.out) Z.out.symm) Z.out.symm) Z.out.symm));have q0:=O.cell 0;have q1:=O.cell 1;have q2:=O.cell 2;have q3:=a4.cell 0;refine gu (v:= .tuple #[.agg #[zR none 0 0,zR none 0 0,zR none 0 0],.iface 136 (zS (some ⟨gi,0,none⟩))]) (by simp[results,Tryz.results38,go_sem,q0,q1,q2,q3]) ?_;have g1:=cj.out.ty.ne I.out.ty (by decide);have g2:=cj.out.ty.ne J.out.ty (by decide);refine ⟨?_,((((((bl.out.setCell (.inr a5.out) _).setCell (.inr aA.out) _).setCell (.inr aA.out) _).setCell (.inr aA.out) _).setCell (.inr a5.out) _).drew)⟩;rw[HX.out];exact ⟨gi,rfl,ea (dj (dj (dj (dj (dj cj.out g2) g1) g1) g1) g2)⟩
 rw[hL] at hT;obtain ⟨a7,d2,el⟩:=i7 d4.out hL;have dB:Hid (dX l=R):=zx (by rw[←HR.out,hL];rfl);have HT:=zx hT;have d8:=zx a7;have c9:=zx d2;have ep:Hid (l.length≤1000000):=zx (by omega);have ds:=a7.pos;clear hT hL f0 HR a7 d2 el;go_wp2_with fail
 refine HT.out.mono ?_;rintro ev y1 ⟨⟨A,c,rfl,cf⟩,U⟩;obtain ⟨b0,d9⟩:∃ g,A=some ⟨g,0,none⟩:=by
  obtain ⟨A',c',e,hx⟩:=ao cf;injection e with e1 e2 e3;subst e1;obtain ⟨g,h1,_⟩:=hx ds;exact ⟨g,h1⟩
 subst d9;have I:=zx (c5.out.keep U (by simp));have J:=zx (ch.out.keep U (by simp));have bl:=zx (HK.out.trans U);have c7:=zx cf;clear cf U HT;have f0:y1.cell? ⟨eb,0,none⟩=some .nilIface:=J.out.cell 0;have ez:=J.out.frozen 0;have le:=J.out.lt;have cx:aa [eb] y1 (y1.setCell ⟨eb,0,none⟩ .nilIface):=(zN _ _).setCell (.inl (by simp)) _;have bj:=zx (I.out.keep cx (by simpa using Z.out));have a9:=zx (oi (u:= .nilIface) J.out);have bo:=zx (bl.out.setCell (p:=⟨eb,0,none⟩) (.inr a5.out) .nilIface);have a8:Hid ((y1.setCell ⟨eb,0,none⟩ .nilIface).ownsRow y0.heap.size 193 3 (zR (some ⟨b0,0,none⟩) l.length c) l.length (bY l)):=zx (bw c7.out cx (fun x hx=>by rw[zD.1 hx];exact ⟨_,J.out.ty,by decide⟩));clear cx;go_upto_region 5 with (fail)
 obtain ⟨y2,dq⟩:∃ x,y1.setCell ⟨eb,0,none⟩ .nilIface=x:=⟨_,rfl⟩
 rw[dq] at bj a9 bo a8 ⊢;clear dq f0 ez le I J bl c7;go_upto_region 6 with (fail)
 have bm:=xP a8.out d8.out c9.out;have bd:=(zN [] y2).alloc (zU #[zR (some ⟨b0,0,none⟩) l.length c] 190);obtain ⟨y3,d5⟩:∃ x,y2.alloc (zU #[zR (some ⟨b0,0,none⟩) l.length c] 190)=x:=⟨_,rfl⟩
 rw[d5] at bm bd ⊢;have cu:w.heap.size≤y2.heap.size:=bo.out.size;obtain ⟨b,hb⟩:∃ x,y2.heap.size=x:=⟨_,rfl⟩
 rw[hb] at bm cu ⊢;have HP:=zx bm;have bb:=zx (bj.out.keep bd (by simp));have bk:=zx (a9.out.keep bd (by simp));have bq:=zx (bo.out.trans bd);have cg:=zx cu;have en:Hid (FB y3 w.heap.size):=zx ⟨w,HE.out,bq.out,zz _⟩;have c4:=HP.out.ty.ne bb.out.ty (by decide);have b3:=HP.out.ty.ne bk.out.ty (by decide);have d1:Hid (D∉[b]):=zx (by simpa using c4.symm);have d3:Hid (eb∉[b]):=zx (by simpa using b3.symm);clear bm bd d5 cu hb bj a9 bo a8 c4 b3;have hF:=tR y3 en.out cg.out HP.out ep.out;rcases a6:cY l with x|⟨f,r⟩
 ·have HX:Hid (R= .error x):=zx (by rw[←dB.out];unfold dX;rw[a6];rfl)
  rw[a6] at hF;have HF:=zx hF;clear hF a6;go_wp2_with fail
  refine HF.out.mono ?_;rintro ev y4 ⟨⟨gi,rfl,hb⟩,U⟩;have B:=zx (bb.out.keep U d1.out);have a1:=zx (bk.out.keep U d3.out);have bA:Hid (aa [] w y4):=zx (bq.out.trans' U (fun x hx hl=>by have:=cg.out;rw[zD.1 hx] at hl;omega));have cp:=zx hb;clear hb U;refine leaves_cons (f:=103) (args:= #[zS (some ⟨D,0,none⟩),zS (some ⟨eb,0,none⟩)]) (by simp) (by simp[go_sem]) ?_;have g1:=cp.out.ty.ne B.out.ty (by decide);have g2:=cp.out.ty.ne a1.out.ty (by decide);refine (gE D eb gi (zR none 0 0) (zR none 0 0) (zR none 0 0) [] y4 B.out a1.out Z.out).mono ?_;rintro e u' w9 ⟨rfl,rfl,O,a4,U⟩;have q0:=O.cell 0;have q1:=O.cell 1;have q2:=O.cell 2;have q3:=a4.cell 0;refine gu (v:= .tuple #[.agg #[zR none 0 0,zR none 0 0,zR none 0 0],.iface 136 (zS (some ⟨gi,0,none⟩))]) (by simp[results,Tryz.results38,go_sem,q0,q1,q2,q3]) ?_;refine ⟨?_,(bA.out).trans' U (fun x hx hl=>by have:=a5.out;have:=aA.out;simp at hx;omega)⟩;rw[HX.out];exact ⟨gi,rfl,cp.out.keep U (by simp[g1,g2])⟩
 rw[a6] at hF;have dv:Hid ((if (ax r).kind≠5 then dD 3 r else .ok f)=R):=zx (by rw[←dB.out];unfold dX;rw[a6];rfl);have HF:=zx hF;clear hF a6;go_wp2_with fail
 refine HF.out.mono ?_;rintro ev y4 ⟨⟨v0,v1,v2,rfl,ct,b6,b5,hp⟩,U⟩;obtain ⟨A0,c0,rfl⟩:∃ A c,v0=zR A f.ins.length c:=by obtain ⟨_,_,h,_⟩:=ct;obtain ⟨A,c,h,_⟩:=ao h;exact ⟨A,c,h⟩
 obtain ⟨A1,c1,rfl⟩:∃ A c,v1=zR A f.jobs.length c:=by obtain ⟨_,_,h,_⟩:=b6;obtain ⟨A,c,h,_⟩:=ao h;exact ⟨A,c,h⟩
 obtain ⟨A2,c2,rfl⟩:∃ A c,v2=zR A f.outs.length c:=by obtain ⟨_,_,h,_⟩:=b5;obtain ⟨A,c,h,_⟩:=ao h;exact ⟨A,c,h⟩
 have B:=zx (bb.out.keep U d1.out);have a1:=zx (bk.out.keep U d3.out);have bA:Hid (aa [] w y4):=zx (bq.out.trans' U (fun x hx hl=>by have:=cg.out;rw[zD.1 hx] at hl;omega));have ek:=zx bq.out.size;have a3:aa [D] y4 (((y4.setCell ⟨D,0,none⟩ (zR A0 f.ins.length c0)).setCell ⟨D,1,none⟩ (zR A1 f.jobs.length c1)).setCell ⟨D,2,none⟩ (zR A2 f.outs.length c2)):=(((zN _ _).setCell (.inl (by simp)) _).setCell (.inl (by simp)) _).setCell (.inl (by simp)) _;have a2:cT [9,109,173,59,179,188] [D] y4 _:=⟨a3,fun z hz=>⟨79,by rw[zD.1 hz];exact B.out.ty,by decide⟩⟩;have d7:=zx (ct.far a2 (by decide) (by decide));have c8:=zx (b6.far a2 (by decide) (by decide));have d0:=zx (b5.far a2 (by decide));have cq:=zx (hp.far a3 (fun z hz=>⟨79,by rw[zD.1 hz];exact B.out.ty,by decide,by decide⟩));have ad:=zx (a1.out.keep a3 (by simpa using Z.out.symm));have M:=zx (ei (u:=zR A2 f.outs.length c2) (eh (u:=zR A1 f.jobs.length c1) (e6 (u:=zR A0 f.ins.length c0) B.out)));have co:Hid (aa [] w _):=zx (((bA.out.setCell (p:=⟨D,0,none⟩) (.inr aA.out) (zR A0 f.ins.length c0)).setCell (p:=⟨D,1,none⟩) (.inr aA.out) (zR A1 f.jobs.length c1)).setCell (p:=⟨D,2,none⟩) (.inr aA.out) (zR A2 f.outs.length c2));have r0:y4.cell? ⟨D,0,none⟩=some (zR none 0 0):=B.out.cell 0;have r1:y4.cell? ⟨D,1,none⟩=some (zR none 0 0):=B.out.cell 1;have r2:y4.cell? ⟨D,2,none⟩=some (zR none 0 0):=B.out.cell 2;have z0:=B.out.frozen 0;have z1:=B.out.frozen 1;have z2:=B.out.frozen 2;have lr:=B.out.lt;clear ct b6 b5 hp U a3 a2;go_upto_region 7 with (fail)
 obtain ⟨y5,c6⟩:∃ x,((y4.setCell ⟨D,0,none⟩ (zR A0 f.ins.length c0)).setCell ⟨D,1,none⟩ (zR A1 f.jobs.length c1)).setCell ⟨D,2,none⟩ (zR A2 f.outs.length c2)=x:=⟨_,rfl⟩
 rw[c6] at d7 c8 d0 cq ad M co ⊢;clear c6 r0 r1 r2 z0 z1 z2 lr B a1 bA;obtain ⟨g,o,c',c0',z0,lb,lg,-,hn,hc,es,k0,k1,k2,-⟩:=cq.out.open';have fb:(0:Int)<(r.length:Int):=by omega
 by_cases h5:(ax r).kind=5
 ·have HX:Hid (R= .ok f):=zx (by rw[←dv.out,if_neg (by rw[h5];decide)])
  rw[h5] at k0;have f0:y5.cell? ⟨eb,0,none⟩=some .nilIface:=ad.out.cell 0;have ez:=ad.out.frozen 0;have le:=ad.out.lt;have r0:y5.cell? ⟨D,0,none⟩=some (zR A0 f.ins.length c0):=M.out.cell 0;have r1:y5.cell? ⟨D,1,none⟩=some (zR A1 f.jobs.length c1):=M.out.cell 1;have r2:y5.cell? ⟨D,2,none⟩=some (zR A2 f.outs.length c2):=M.out.cell 2;have z0':=M.out.frozen 0;have z1':=M.out.frozen 1;have z2':=M.out.frozen 2;have lr:=M.out.lt;clear h5;go_wp2;refine leaves_cons (f:=103) (args:= #[zS (some ⟨D,0,none⟩),zS (some ⟨eb,0,none⟩)]) (by simp) (by simp[go_sem]) ?_;refine (lF ⟨D,0,none⟩ ⟨eb,0,none⟩ _).mono ?_;rintro e u' em ⟨rfl,rfl,rfl⟩;have a3:aa [D,eb] y5 ((((y5.setCell ⟨D,0,none⟩ (zR A0 f.ins.length c0)).setCell ⟨D,1,none⟩ (zR A1 f.jobs.length c1)).setCell ⟨D,2,none⟩ (zR A2 f.outs.length c2)).setCell ⟨eb,0,none⟩ .nilIface):=((((zN _ _).setCell (.inl (by simp)) _).setCell (.inl (by simp)) _).setCell (.inl (by simp)) _).setCell (.inl (by simp)) _;have a2:cT [9,109,173,59,179,188] [D,eb] y5 _:=⟨a3,fun z hz=>by
   rcases List.mem_cons.1 hz with h|h
   ·exact ⟨79,by rw[h];exact M.out.ty,by decide⟩
   exact ⟨38,by rw[zD.1 h];exact ad.out.ty,by decide⟩⟩
  have O:=dj (b:=eb) (k:=0) (u:= .nilIface) (ei (u:=(zR A2 f.outs.length c2)) (eh (u:=(zR A1 f.jobs.length c1)) (e6 (u:=(zR A0 f.ins.length c0)) M.out))) Z.out;have a4:=oi (u:= .nilIface) (dj (b:=D) (k:=2) (u:=(zR A2 f.outs.length c2)) (dj (b:=D) (k:=1) (u:=(zR A1 f.jobs.length c1)) (dj (b:=D) (k:=0) (u:=(zR A0 f.ins.length c0)) ad.out Z.out.symm) Z.out.symm) Z.out.symm);have q0:=O.cell 0;have q1:=O.cell 1;have q2:=O.cell 2;have q3:=a4.cell 0;refine gu (v:= .tuple #[.agg #[zR A0 f.ins.length c0,zR A1 f.jobs.length c1,zR A2 f.outs.length c2],.nilIface]) (by simp[results,Tryz.results38,go_sem,q0,q1,q2,q3]) ?_;refine ⟨?_,co.out.trans' a3 (fun x hx hl=>by have:=a5.out;have:=aA.out;simp at hx;omega)⟩;rw[HX.out];have a0:w.heap.size≤y3.heap.size:=ek.out;exact ⟨_,_,_,rfl,bX.low a0 (fo.low a0) (d7.out.far a2 (by decide) (by decide)),bX.low a0 (fp.low a0) (c8.out.far a2 (by decide) (by decide)),bX.low a0 (fun _ _ h=>h) (d0.out.far a2 (by decide))⟩
 have e5:((ax r).kind != 5)=true:=by rw[bne_iff_ne];exact h5
 have HX:Hid (R= .error (3,(ax r).at_)):=zx (by rw[←dv.out,if_pos h5];rfl);clear h5;go_wp2_with fail
 refine (bD 3 y5 cq.out).mono ?_;rintro ev y6 ⟨⟨gi,rfl,hb⟩,U⟩;have bB:=zx (M.out.keep U (by simp));have b4:=zx (ad.out.keep U (by simp));have er:=zx (co.out.trans U);have b7:=zx hb;clear hb U;refine leaves_cons (f:=103) (args:= #[zS (some ⟨D,0,none⟩),zS (some ⟨eb,0,none⟩)]) (by simp) (by simp[go_sem]) ?_;have g1:=b7.out.ty.ne bB.out.ty (by decide);have g2:=b7.out.ty.ne b4.out.ty (by decide);refine (gE D eb gi (zR A0 f.ins.length c0) (zR A1 f.jobs.length c1) (zR A2 f.outs.length c2) [] y6 bB.out b4.out Z.out).mono ?_;rintro e u' w9 ⟨rfl,rfl,O,a4,U⟩;have q0:=O.cell 0;have q1:=O.cell 1;have q2:=O.cell 2;have q3:=a4.cell 0;refine gu (v:= .tuple #[.agg #[zR none 0 0,zR none 0 0,zR none 0 0],.iface 136 (zS (some ⟨gi,0,none⟩))]) (by simp[results,Tryz.results38,go_sem,q0,q1,q2,q3]) ?_;refine ⟨?_,(er.out).trans' U (fun x hx hl=>by have:=a5.out;have:=aA.out;simp at hx;omega)⟩;rw[HX.out];exact ⟨gi,rfl,b7.out.keep U (by simp[g1,g2])⟩
end
section
open Go.RowKit Go.BigFrame
def pd:Except (Int×Int) Fl→Fl×Int×Int
 | .ok f=>(f,0,-1)
 | .error x=>(⟨[],[],[]⟩,x.1,x.2)
structure fq (W:World) (base:Nat) (v0 v1 v2:Value) (f:Fl):Prop where
 i0:iB W base v0 f.ins
 i1:fH W base v1 f.jobs
 i2:fI W base v2 f.outs
theorem cT.nil (S:List TypeId) {W h:World} (A:aa [] W h):cT S [] W h:=⟨A,fun x B=>by cases B⟩
theorem fq.keep {W M:World} {A:Nat} {J I D:Value} {f:Fl} (h:fq W A J I D f) (B:aa [] W M):fq M A J I D f :=
 ⟨h.i0.far (cT.nil kQ B) (by decide) (by decide),h.i1.far (cT.nil kQ B) (by decide) (by decide),h.i2.far (cT.nil kQ B) (by decide)⟩
theorem fq.forms {W:World} {A:Nat} {v0 U Z:Value} {f:Fl} (h:fq W A v0 U Z f):∃ I O B D M J,v0=zR I f.ins.length O∧U=zR B f.jobs.length D∧Z=zR M f.outs.length J:=by
 obtain ⟨⟨_,_,h0,_⟩,⟨_,_,h1,_⟩,⟨_,_,h2,_⟩⟩:=h;obtain ⟨I,O,e0,_⟩:=ao h0;obtain ⟨B,D,e1,_⟩:=ao h1;obtain ⟨M,J,e2,_⟩:=ao h2;exact ⟨I,O,B,D,M,J,e0,e1,e2⟩
theorem fq.nil (W:World) (h:Nat):fq W h (zR none 0 0) (zR none 0 0) (zR none 0 0) ⟨[],[],[]⟩:=⟨bX.nil,bX.nil,bX.nil⟩
def qn (W:World) (h:Value) (R:Except (Int×Int) Fl):Prop:=match R with
 | .ok _=>h= .nilIface
 | .error x=>∃ A,h= .iface 136 (zS (some ⟨A,0,none⟩))∧ap W A 137 #[zW zX x.1,zW zX x.2]
theorem qn.keep {W B:World} {A:Value} {R:Except (Int×Int) Fl} (h:qn W A R) (D:aa [] W B):qn B A R:=by
 cases R with
 | ok f=>exact h
 | error x=>obtain ⟨M,J,I⟩:=h;exact ⟨M,J,I.keep D (by simp)⟩
theorem qn.form {W:World} {A:Value} {R:Except (Int×Int) Fl} (h:qn W A R):A= .nilIface∨∃ B,A= .iface 136 (zS (some ⟨B,0,none⟩)):=by
 cases R with
 | ok f=>exact .inl h
 | error x=>obtain ⟨B,rfl,_⟩:=h;exact .inr ⟨B,rfl⟩
theorem mz {R:Except (Int×Int) Fl} {A:Nat} {e:Ending} {w':World} (h:jH R A e w') :
  ∃ M n0 Z D n1 J U n2 O er,e=zT (.tuple #[.agg #[zR M n0 Z,zR D n1 J,zR U n2 O],er])∧fq w' A (zR M n0 Z) (zR D n1 J) (zR U n2 O) (pd R).1∧qn w' er R:=by
 cases R with
 | ok f =>
  obtain ⟨v0,v1,v2,rfl,h0,I,B⟩:=h;have hf:fq w' A v0 v1 v2 f:=⟨h0,I,B⟩;obtain ⟨M,Z,D,J,U,O,rfl,rfl,rfl⟩:=hf.forms;exact ⟨_,_,_,_,_,_,_,_,_,_,rfl,hf,rfl⟩
 | error x =>
  obtain ⟨gi,I,B⟩:=h;exact ⟨_,_,_,_,_,_,_,_,_,_,I,fq.nil _ _,gi,rfl,B⟩
theorem nV.nins {j:Jb} (h:nV j):j.ins.length≤2:=by
 rcases h.body with ⟨_,a,b,c,d,_,_,_,_,e,_⟩|⟨_,a,b,_,_,e,_⟩|⟨_,a,_,e,_⟩|⟨_,a,s,_,_,e,_⟩|⟨_,a,c,_,_,e,_⟩|⟨_,a,_,e,_⟩|⟨_,a,c,d,_,_,_,e,_⟩<;>rw[e]<;>simp
theorem nV.ncols {j:Jb} (h:nV j):j.cols.length≤1000:=by
 rcases h.body with ⟨_,a,b,c,d,_,_,_,_,_,e⟩|⟨_,a,b,_,_,_,e⟩|⟨_,a,_,_,e⟩|⟨_,a,s,_,_,_,e,_⟩|⟨_,a,c,_,_,_,e,_⟩|⟨_,a,_,_,e⟩|⟨_,a,c,d,_,_,_,_,e,_⟩
 ·rw[e];simp
 ·rw[e];simp
 ·rw[e];simp
 ·rw[e];simp
 ·rw[e];simp
 ·exact e.2.1
 rw[e];simp
theorem nV.insW {j:Jb} (h:nV j):∀ n∈j.ins,n.length≤1000:=by
 have D:∀ n∈j.ins,bP n:=by
  rcases h.body with ⟨_,a,b,c,d,A,I,_,_,e,_⟩|⟨_,a,b,A,I,e,_⟩|⟨_,a,A,e,_⟩|⟨_,a,s,A,_,e,_⟩|⟨_,a,c,A,_,e,_⟩|⟨_,a,A,e,_⟩|⟨_,a,c,d,A,_,_,e,_⟩<;>rw[e]<;>intro n B
  ·simp only[List.mem_cons,List.not_mem_nil,or_false] at B
   rcases B with rfl|rfl
   ·exact A
   exact I
  ·simp only[List.mem_cons,List.not_mem_nil,or_false] at B
   rcases B with rfl|rfl
   ·exact A
   exact I
  all_goals
   simp only[List.mem_cons,List.not_mem_nil,or_false] at B;rw[B];exact A
 exact fun n B=>zA (D n B).len (by decide)
theorem iE:∀ (l:List Jb),(∀ x∈l,x.outs.length≤1000)→(l.flatMap (·.outs)).length≤l.length*1000
 | [],_=>by simp
 | x::l,h=>by
  have D:=h x (by simp);have B:=iE l fun y A=>h y (by simp[A])
  rw[List.flatMap_cons,zF,zG];omega
theorem pS.names {f:Fl} (h:pS f):∀ n∈cG f,bP n:=by
 intro n A;rcases List.mem_append.1 A with A|A
 ·obtain ⟨x,B,rfl⟩:=List.mem_map.1 A
  exact (h.ins x B).name
 obtain ⟨x,B,A⟩:=List.mem_flatMap.1 A;exact (h.jobs x B).outs.2.2 n A
theorem pS.short {f:Fl} (h:pS f):gS f where
 outs:=zA h.nouts (by decide)
 all:=by
  have J:=iE f.jobs fun x A=>(h.jobs x A).outs.2.1
  have I:=h.nins;have M:=h.njobs;unfold cG;rw[zF,List.length_map];omega
 names:=fun n B=>zA (h.names n B).len (by decide)
 ins:=fun j D n B=>(h.jobs j D).insW n B
 told:=fun x A=>⟨zA (h.outs x A).name.len (by decide),zA (h.outs x A).src.len (by decide)⟩
theorem pS.colNames {f:Fl} (h:pS f):∀ x∈f.ins,∀ c∈x.cols,c.name.length≤1000000000:=fun x B c A=>zA ((h.ins x B).cols c A).1.len (by decide)
theorem vl {W:World} {h:Nat} {Z U J:Value} {f:Fl} (q0:iB W h Z f.ins) (q1:fH W h U f.jobs) (q2:fI W h J f.outs) (B:pS f):iw W Z U J f where
 i0:=by
  have I:f.ins.length≤4294967296:=zA B.nins (by decide);refine iI.of q0 fo.len I fun cs x D=>?_
  rintro ⟨v,e,ho⟩;obtain ⟨A,c,h1,h2,h3⟩:=dH ho;exact ⟨v,e,zA (B.ins x D).len (by decide),A,c,h1,h2,h3⟩
 i1:=by
  have I:f.jobs.length≤4294967296:=zA B.njobs (by decide);refine iI.of q1 fp.len I fun cs x D=>?_
  rintro ⟨J,v3,v4,e,M⟩;have O:=B.jobs x D;obtain ⟨A2,c2,a1,a2,a3⟩:=dH M.o2;obtain ⟨A3,c3,b1,b2,b3⟩:=dH M.o3;obtain ⟨A4,c4,d1,d2,d3⟩:=dH M.o4;exact ⟨J,v3,v4,e,⟨zA O.outs.2.1 (by decide),A2,c2,a1,a2,a3⟩,⟨zA O.nins (by decide),A3,c3,b1,b2,b3⟩,⟨zA O.ncols (by decide),A4,c4,d1,d2,d3⟩⟩
 i2:=by
  have I:f.outs.length≤4294967296:=zA B.nouts (by decide);exact iI.of q2 oI.len I fun cs x _ D=>D
theorem fq.flIn {W:World} {A:Nat} {I D B:Value} {f:Fl} (h:fq W A I D B f) (J:pS f):iw W I D B f:=vl h.i0 h.i1 h.i2 J
end
section
open Go.RowKit Go.BigFrame
attribute [local go_sem] ag ab ae af
theorem yU {W:World} {g o:Nat} {c0 Z c2 c3 c4 c5 c6 U M O I D A J B:Value} (h:∀ (k:Nat) (u:Value),[c0,Z,c2,c3,c4,c5,c6,U,M,O,I,D,A,J,B][k]? = some u→W.cell? ⟨g,o+k,none⟩=some u):W.cell? ⟨g,o,none⟩=some c0∧W.cell? ⟨g,o+1,none⟩=some Z∧W.cell? ⟨g,o+2,none⟩=some c2∧W.cell? ⟨g,o+3,none⟩=some c3∧W.cell? ⟨g,o+4,none⟩=some c4∧W.cell? ⟨g,o+5,none⟩=some c5∧W.cell? ⟨g,o+6,none⟩=some c6∧W.cell? ⟨g,o+7,none⟩=some U∧W.cell? ⟨g,o+8,none⟩=some M∧W.cell? ⟨g,o+9,none⟩=some O∧W.cell? ⟨g,o+10,none⟩=some I∧W.cell? ⟨g,o+11,none⟩=some D∧W.cell? ⟨g,o+12,none⟩=some A∧W.cell? ⟨g,o+13,none⟩=some J∧W.cell? ⟨g,o+14,none⟩=some B :=
 ⟨by simpa using h 0 _ rfl,h 1 _ rfl,h 2 _ rfl,h 3 _ rfl,h 4 _ rfl,h 5 _ rfl,h 6 _ rfl,h 7 _ rfl,h 8 _ rfl,h 9 _ rfl,h 10 _ rfl,h 11 _ rfl,h 12 _ rfl,h 13 _ rfl,h 14 _ rfl⟩
abbrev jC (x:Jb) (I:Option Addr) (e2:Nat) (B:Option Addr) (h:Nat) (D:Option Addr) (A:Nat):Array Value:= #[zW zX x.at_,zW zX x.code,zR I x.outs.length e2,zR B x.ins.length h,zR D x.cols.length A,zQ (bs x.op),zQ (bs x.left.col),zW zX x.left.val.kind,zW zX x.left.val.num,zQ (bs x.left.val.word),zQ (bs x.right.col),zW zX x.right.val.kind,zW zX x.right.val.num,zQ (bs x.right.val.word),zW zX x.retry]
structure lZ (w:World) (X b:Nat) (fl:Array Value) (m:List (Bs×Int)) (W:World):Prop where
 k:aa [] w W
 fb:ap W X 79 fl
 mp:cz zy 9 W b (lW m)
 hb:w.heap.size≤b
 xb:X≠b
theorem lZ.keep {w W B:World} {X b:Nat} {fl:Array Value} {m:List (Bs×Int)} (h:lZ w X b fl m W) (A:aa [] W B):lZ w X b fl m B :=
 ⟨h.k.trans A,h.fb.keep A (by simp),h.mp.keep A (by simp),h.hb,h.xb⟩
theorem lZ.put {w W:World} {X b:Nat} {fl:Array Value} {m:List (Bs×Int)} (h:lZ w X b fl m W) (n:Bs) (i:Int) (U:n.length≤1000) (Z:m.length≤1000000) :
  ∃ A,(Instr.mapUpdate 116 (.map (some b)) (zQ (bs n)) (zW zX i)).run zy W= .ok () A∧lZ w X b fl ((n,i)::m) A∧aa [b] W A:=by
 obtain ⟨A,J,M,B⟩:=h.mp.store (T:=116) Tryz.underlying116 Tryz.underlying9 n (zW zX i) (by simp only[maxLen];omega) (by rw[sP];simp only[maxLen];omega);have D:aa [b] W A:=(zN [b] W).grown B (fun g B=> .inl (by injection B with B;simp[B]));exact ⟨A,J,⟨h.k.trans' D (fun x O I=>by rw[zD.1 O] at I;exact absurd h.hb (by omega)),h.fb.keep D (by simpa using h.xb),M,h.hb,h.xb⟩,D⟩
theorem sQ (f:Fl) (v0 v1 v2:Value) (w:World) (hF:iw w v0 v1 v2 f) (hS:gS f) :
  Calls zy 113 #[.agg #[v0,v1,v2]] w fun e w'=>(∃ b,e=zT (.map (some b))∧cz zy 9 w' b (lW (nG f)))∧aa [] w w':=by
 have cf:= @run_makeMap zy;have b0:=hF.i0;have b5:=hF.i1;have ci:=hF.i2;obtain ⟨cq,A0,c0,rfl,ct,a2⟩:=b0;obtain ⟨cj,A1,c1,rfl,cu,a1⟩:=b5;obtain ⟨U,A2,c2,rfl,cp,bm⟩:=ci;have H0:=zx a2;have H1:=zx a1;have HS:=zx hS;have aA:=HS.out.all;unfold cG at aA;rw[zF,List.length_map] at aA;have bl:lZ w w.heap.size (w.heap.size+1) #[zR A0 f.ins.length c0,zR A1 f.jobs.length c1,zR A2 f.outs.length c2] [] ((w.alloc (zU #[zR A0 f.ins.length c0,zR A1 f.jobs.length c1,zR A2 f.outs.length c2] 79)).alloc (.map #[] 0)):=by
  have hm:=cz.made (P:=zy) (S:=9) (w.alloc (zU #[zR A0 f.ins.length c0,zR A1 f.jobs.length c1,zR A2 f.outs.length c2] 79));rw[gh] at hm;exact ⟨((zN _ _).alloc _).alloc _,(zO _ _ _).alloc _,hm,by omega,by omega⟩
 have B:=zx bl;clear hF hS a2 a1 bm bl;obtain ⟨X,hX⟩:∃ X,w.heap.size=X:=⟨_,rfl⟩
 go_enter Tryz.func113,Tryz.ntmps113
 go_upto_block 0 with (fail)
 rw[hX] at B;generalize (w.alloc (zU #[zR A0 f.ins.length c0,zR A1 f.jobs.length c1,zR A2 f.outs.length c2] 79)).alloc (.map #[] 0)=y0 at B ⊢;generalize X+1=b at B ⊢;clear hX cf;go_cut [] (fun wx=>Hid (lZ w X b #[zR A0 f.ins.length c0,zR A1 f.jobs.length c1,zR A2 f.outs.length c2] (cV f.jobs 0 []) wx))
 case first =>
  have xf:y0.cell? ⟨X,1,none⟩=some (zR A1 f.jobs.length c1):=B.out.fb.cell 1;have lX:=B.out.fb.lt;go_wp2_with fail
  clear xf lX;go_loopw [14] (fun i wr=>∃ (j:Nat) (m:List (Bs×Int)),j≤f.jobs.length∧i=zW zX j∧m.length+((f.jobs.drop j).flatMap (·.outs)).length≤100000∧Hid (lZ w X b #[zR A0 f.ins.length c0,zR A1 f.jobs.length c1,zR A2 f.outs.length c2] m wr)∧Hid (cV (f.jobs.drop j) j m=cV f.jobs 0 [])) (fun i _=>f.jobs.length-(intOf i).toNat)
  case atStart=>exact ⟨0,[],zE _,rfl,by rw[List.drop_zero];show 0+_≤_;omega,B,zx rfl⟩
  clear B;obtain ⟨j,m,hj,rfl,J,I,HG⟩:=hrel;obtain ⟨wj,rfl⟩:∃ z:World,z=wr:=⟨_,rfl⟩
  by_cases D:j<f.jobs.length
  ·have a8:(j:Int)<(f.jobs.length:Int):=by omega
   obtain ⟨g,cs,rfl,hg,-,⟨_,_,_,rfl,⟨b6,B2,e2,rfl,b4,a9⟩,⟨-,B3,e3,rfl,-,-⟩,⟨-,B4,e4,rfl,-,-⟩⟩,hc⟩:=H1.out j D;obtain ⟨d0,d1,d2,d3,d4,d5,d6,d7,d8,d9,bB,bj,bA,bb,bn⟩:=yU (fun k u h=>I.out.k.cell_of (hc k u h) (by simp));have a6:∀ n∈f.jobs[j].outs,n.length≤1000:=fun n hn=>HS.out.names n (by unfold cG;exact List.mem_append_right _ (List.mem_flatMap.2 ⟨_,zH D,hn⟩))
   have A:=HG.out;rw[List.drop_eq_getElem_cons D] at A J;rw[pF] at A;rw[List.flatMap_cons,zF] at J;obtain ⟨x,hx⟩:∃ x,f.jobs[j]=x:=⟨_,rfl⟩
   rw[hx] at d0 d1 d2 d3 d4 d5 d6 d7 d8 d9 bB bj bA bb bn a6 A J b6 b4 a9;have O:=zx A;have ch:=zx a9;have b3:=zx a6;have Z:=zx (I.out.keep ((zN _ _).alloc (zU (jC x B2 e2 B3 e3 B4 e4) 59)));have ba:=zx (zO wj 59 (jC x B2 e2 B3 e3 B4 e4));clear A hx hc a9 a6;go_upto_block 4 with (fail)
   generalize cg:wj.alloc (zU (jC x B2 e2 B3 e3 B4 e4) 59)=y1 at *;generalize b7:wj.heap.size=xb at *;have p2:y1.cell? ⟨xb,2,none⟩=some (zR B2 x.outs.length e2):=ba.out.cell 2;have pl:=ba.out.lt;clear cg b7 d0 d1 d2 d3 d4 d5 d6 d7 d8 d9 bB bj bA bb bn I HG ba;go_wp2_with fail
   clear p2 pl;go_loopw [22] (fun i wr=>∃ (k:Nat) (m:List (Bs×Int)),k≤x.outs.length∧i=zW zX k∧m.length+(x.outs.length-k)+((f.jobs.drop (j+1)).flatMap (·.outs)).length≤100000∧Hid (lZ w X b #[zR A0 f.ins.length c0,zR (some ⟨g,0,none⟩) f.jobs.length c1,zR A2 f.outs.length c2] m wr)∧Hid (cV (f.jobs.drop (j+1)) (j+1) (dI j (x.outs.drop k) m)=cV f.jobs 0 [])) (fun i _=>x.outs.length-(intOf i).toNat)
   case atStart=>exact ⟨0,m,zE _,rfl,by omega,Z,zx (by rw[List.drop_zero];exact O.out)⟩
   clear Z O J;obtain ⟨k,m,hk,rfl,J,I,HG⟩:=hrel;obtain ⟨wm,rfl⟩:∃ z:World,z=wr:=⟨_,rfl⟩
   by_cases a4:k<x.outs.length
   ·have b1:(k:Int)<(x.outs.length:Int):=by omega
    obtain ⟨bo,oo,rfl,-,co,bd⟩:=(ch.out.keep I.out.k).open' (by omega) (by omega);have q0:=bd k _ (b9 x.outs k a4);have bk:=b3.out _ (zH a4);have A:=HG.out;rw[List.drop_eq_getElem_cons a4] at A;rw[ov] at A;obtain ⟨n,hn⟩:∃ n,x.outs[k]=n:=⟨_,rfl⟩
    rw[hn] at q0 bk A;have O:=zx A;obtain ⟨W2,bq,U,-⟩:=I.out.put n j bk (by omega);have a7:=zx U;clear bd A hn U;go_wp2_with fail
    go_roundw
    case rel=>exact ⟨k+1,(n,(j:Int))::m,by omega,by go_num,by simp only[zG];omega,a7,O⟩
    case measure=>simp[intOf];omega
   have b1:¬(k:Int)<(x.outs.length:Int):=by omega
   have a0:Hid (cV (f.jobs.drop (j+1)) (j+1) m=cV f.jobs 0 []):=zx (by
    have:=HG.out;rw[List.drop_of_length_le (l:=x.outs) (by omega)] at this;exact this)
   go_wp2;go_roundw
   case rel=>exact ⟨j+1,m,by omega,by go_num,by omega,I,a0⟩
   case measure=>simp[intOf];omega
  have a8:¬(j:Int)<(f.jobs.length:Int):=by omega
  have a0:Hid (m=cV f.jobs 0 []):=zx (by
   have:=HG.out;rw[List.drop_of_length_le (by omega)] at this;exact this)
  go_wp2;go_meet
  case rel=>exact zx (by rw[←a0.out];exact I.out)
 clear B;obtain ⟨y2,rfl⟩:∃ z:World,z=wc:=⟨_,rfl⟩
 have B:=hcut;clear hcut;have ad:Hid ((cV f.jobs 0 []).length+f.ins.length≤100000):=zx (by rw[lY];show _+0+_≤_;omega);have xf:y2.cell? ⟨X,0,none⟩=some (zR A0 f.ins.length c0):=B.out.fb.cell 0;have lX:=B.out.fb.lt;obtain ⟨M1,a5⟩:∃ M,cV f.jobs 0 []=M:=⟨_,rfl⟩
 have a3:Hid (gB f.ins M1=nG f):=zx (by rw[←a5];rfl);rw[a5] at B ad;clear a5 aA;go_wp2_with fail
 clear xf lX;go_loopw [34] (fun i wr=>∃ (j:Nat) (m:List (Bs×Int)),j≤f.ins.length∧i=zW zX j∧m.length+(f.ins.length-j)≤100000∧Hid (lZ w X b #[zR A0 f.ins.length c0,zR A1 f.jobs.length c1,zR A2 f.outs.length c2] m wr)∧Hid (gB (f.ins.drop j) m=nG f)) (fun i _=>f.ins.length-(intOf i).toNat)
 case atStart=>exact ⟨0,M1,zE _,rfl,by have:=ad.out;omega,B,a3⟩
 clear B a3 ad;obtain ⟨j,m,hj,rfl,J,I,HG⟩:=hrel;obtain ⟨wj,rfl⟩:∃ z:World,z=wr:=⟨_,rfl⟩
 by_cases D:j<f.ins.length
 ·have a8:(j:Int)<(f.ins.length:Int):=by omega
  obtain ⟨g,cs,rfl,hg,-,⟨vc,rfl,⟨-,Ac,cc,rfl,-,-⟩⟩,hc⟩:=H0.out j D;have d0:=I.out.k.cell_of (hc 0 _ rfl) (by simp);have d1:=I.out.k.cell_of (hc 1 _ rfl) (by simp);have d2:=I.out.k.cell_of (hc 2 _ rfl) (by simp);rw[Nat.add_zero] at d0;have hl:(f.ins[j]).name.length≤1000:=HS.out.names _ (by unfold cG;exact List.mem_append_left _ (List.mem_map.2 ⟨_,zH D,rfl⟩));have A:=HG.out;rw[List.drop_eq_getElem_cons D] at A;rw[pG] at A;obtain ⟨x,hx⟩:∃ x,f.ins[j]=x:=⟨_,rfl⟩
  rw[hx] at d0 d1 d2 hl A;have O:=zx A;have Z:=I.out.keep ((zN _ _).alloc (zU #[zW zX x.at_,zQ (bs x.name),zR Ac x.cols.length cc] 173));obtain ⟨W2,bq,U,-⟩:=Z.put x.name (-1) hl (by omega);have a7:=zx U;clear A hx hc hl U Z;go_wp2_with fail
  go_roundw
  case rel=>exact ⟨j+1,(x.name,-1)::m,by omega,by go_num,by simp only[zG];omega,a7,O⟩
  case measure=>simp[intOf];omega
 have a8:¬(j:Int)<(f.ins.length:Int):=by omega
 have a0:Hid (m=nG f):=zx (by
  have:=HG.out;rw[List.drop_of_length_le (by omega)] at this;exact this)
 go_wp2;go_ret;exact ⟨⟨b,rfl,by rw[←a0.out];exact I.out.mp⟩,I.out.k⟩
def gD (w:World) (h:Nat) (done:List Nat) (N:Nat):Prop:=∀ (i:Nat) (W:World),i<N→aa [] w W→(Instr.lookup 96 (.map (some h)) (zW zX i) false).run zy W= .ok (.bool (done.contains i)) W
theorem gD.keep {w w':World} {A N:Nat} {done:List Nat} (h:gD w A done N) (B:aa [] w w'):gD w' A done N:=fun i W D q=>h i W D (B.trans q)
theorem qJ {f:Fl} {done:List Nat} {k:Nat} (h:∀ j (A:j<(jb f k).ins.length),cM f done (jb f k).ins[j]=true):br f done k=true:=by
 unfold br;rw[List.all_eq_true];intro n B;obtain ⟨j,A,rfl⟩:=List.mem_iff_getElem.1 B;exact h j A
theorem l6 {f:Fl} {done:List Nat} {k:Nat} {n:Bs} (A:n∈(jb f k).ins) (h:cM f done n=false):br f done k=false:=by
 unfold br;rw[List.all_eq_false];exact ⟨n,A,by rw[h];simp⟩
theorem l7 (f:Fl) (v0 v1 v2:Value) (k:Nat) (hk:k<f.jobs.length) (done:List Nat) (bd:Nat) (w:World) (hF:iw w v0 v1 v2 f) (hS:gS f) (hU:(f.jobs.flatMap (·.outs)).Nodup) (hD:gD w bd done f.jobs.length) :
  Calls zy 45 #[.agg #[v0,v1,v2],zW zX k,.map (some bd)] w fun e w'=>e=zT (.bool (br f done k))∧aa [] w w':=by
 obtain ⟨R,hR⟩:∃ R,br f done k=R:=⟨_,rfl⟩
 rw[hR];have HR:=zx hR;have b4:=zx (fun W (q:aa [] w W)=>sQ f v0 v1 v2 W (hF.keep q) hS);obtain ⟨b6,A1,c1,rfl,co,a2⟩:=hF.i1;obtain ⟨g,cs,rfl,hg,-,⟨_,_,_,rfl,⟨cj,B2,e2,rfl,ci,b1⟩,⟨bl,B3,e3,rfl,bb,a7⟩,⟨-,B4,e4,rfl,-,-⟩⟩,hc⟩:=a2 k hk;have d3:=hc 3 _ rfl;have a5:=eI (f:=f) hk;have M:∀ n∈f.jobs[k].ins,n.length≤1000:=fun n hn=>hS.ins _ (zH hk) n hn
 have HU:=zx hU;have bk:=zx hD;have bA:=zx (fun n m (h:mh f n=some m)=>(jq h).1);obtain ⟨x,hx⟩:∃ x,f.jobs[k]=x:=⟨_,rfl⟩
 rw[hx] at d3 a5 M bl bb a7;have U:=zx a5;have bn:=zx M;have bB:=zx a7;have bm:=zx d3;have a4:aa [] w (w.alloc (zU #[v0,zR (some ⟨g,0,none⟩) f.jobs.length c1,v2] 79)):=(zN [] w).alloc _;have Z:=zO w 79 #[v0,zR (some ⟨g,0,none⟩) f.jobs.length c1,v2];have b7:(k:Int)<(f.jobs.length:Int):=by omega
 have b5:(0:Int)≤(k:Int):=by omega
 clear hF hS hU hD hR a2 hc a5 M a7 b1 d3 hx;go_enter Tryz.func45,Tryz.ntmps45
 go_wp2_with fail
 obtain ⟨X,hX⟩:∃ X,w.heap.size=X:=⟨_,rfl⟩
 refine (b4.out _ a4).mono ?_;rintro e w5 ⟨⟨b,rfl,a9⟩,aA⟩;rw[hX] at Z ⊢;have xf:=(Z.keep aA (by simp)).cell 1;have b3:w5.cell? ⟨X,1,none⟩=some (zR (some ⟨g,0,none⟩) f.jobs.length c1):=xf;have lX:=(Z.keep aA (by simp)).lt;have O:=zx (a4.trans aA);have d3:=O.out.cell_of bm.out (by simp);have ba:=zx a9;clear a4 Z xf aA a9 hX;go_wp2_with fail
 clear b3 lX d3;go_loopw [21] (fun i wr=>∃ n:Nat,n≤x.ins.length∧i=zW zX n∧Hid (∀ j (hj:j<x.ins.length),j<n→cM f done x.ins[j]=true)∧Hid (aa [] w5 wr)) (fun i _=>x.ins.length-(intOf i).toNat)
 case atStart=>exact ⟨0,zE _,rfl,zx (fun j _ h=>absurd h (by omega)),zx (zN _ _)⟩
 obtain ⟨n,hn,rfl,HN,B⟩:=hrel;obtain ⟨wj,rfl⟩:∃ z:World,z=wr:=⟨_,rfl⟩
 by_cases a3:n<x.ins.length
 ·have b0:(n:Int)<(x.ins.length:Int):=by omega
  obtain ⟨bo,oo,rfl,-,cg,a8⟩:=(bB.out.keep (O.out.trans B.out)).open' (by omega) (by omega);have q0:=a8 n _ (b9 x.ins n a3);have bj:=bn.out _ (zH a3);have a6:=zx (zH a3);have J:Hid (cM f done x.ins[n]=true→∀ j (hj:j<x.ins.length),j<n+1→cM f done x.ins[j]=true):=zx (fun h j hj cf=>by
   by_cases e:j<n
   ·exact HN.out j hj e
   obtain rfl:j=n:=by omega
   exact h)
  obtain ⟨nm,M⟩:∃ nm,x.ins[n]=nm:=⟨_,rfl⟩
  rw[M] at q0 bj J a6;have A:=(ba.out.keep B.out (by simp)).look (T:=116) Tryz.underlying116 Tryz.underlying9 (z:=zW zX 0) (by kernel_rfl) nm (by simp only[maxLen];omega);rw[qH,qI HU.out] at A;clear a8 M
  cases D:iV f nm with
  | true =>
   rw[D] at A;have HT:Hid (∀ j (hj:j<x.ins.length),j<n+1→cM f done x.ins[j]=true):=zx (J.out (by unfold cM;rw[D];rfl));have a1:(Instr.lookup 116 (.map (some b)) (zQ (bs nm)) true).run zy wj= .ok (.tuple #[zW zX (-1),.bool true]) wj:=A;clear D A J;go_wp2;go_roundw
   case rel=>exact ⟨n+1,by omega,by go_num,HT,B⟩
   case measure=>simp[intOf];omega
  | false =>
   rw[D] at A
   cases I:mh f nm with
   | none =>
    rw[I] at A;have HF:Hid (R=false):=zx (by
     rw[←HR.out];exact l6 (n:=nm) (by rw[U.out];exact a6.out) (by unfold cM;rw[D,I];rfl))
    have a1:(Instr.lookup 116 (.map (some b)) (zQ (bs nm)) true).run zy wj= .ok (.tuple #[zW zX 0,.bool false]) wj:=A;clear D I A J;go_wp2;go_ret;exact ⟨by rw[HF.out];rfl,O.out.trans B.out⟩
   | some m =>
    rw[I] at A;have bq:=bA.out nm m I;have jB:=bk.out m wj bq (O.out.trans B.out);have a1:(Instr.lookup 116 (.map (some b)) (zQ (bs nm)) true).run zy wj= .ok (.tuple #[zW zX m,.bool true]) wj:=A;have ch:(0:Int)≤(m:Int):=by omega
    have ad:Hid (cM f done nm=done.contains m):=zx (by unfold cM;rw[D,I];rfl);clear D I A
    cases a0:done.contains m with
    | true =>
     rw[a0] at jB ad;have HT:Hid (∀ j (hj:j<x.ins.length),j<n+1→cM f done x.ins[j]=true):=zx (J.out ad.out);clear a0 J;go_wp2;go_roundw
     case rel=>exact ⟨n+1,by omega,by go_num,HT,B⟩
     case measure=>simp[intOf];omega
    | false =>
     rw[a0] at jB ad;have HF:Hid (R=false):=zx (by
      rw[←HR.out];exact l6 (n:=nm) (by rw[U.out];exact a6.out) ad.out)
     clear a0 J;go_wp2;go_ret;exact ⟨by rw[HF.out];rfl,O.out.trans B.out⟩
 have b0:¬(n:Int)<(x.ins.length:Int):=by omega
 have HF:Hid (R=true):=zx (by
  rw[←HR.out];refine qJ fun j hj=>?_
  have hj':j<x.ins.length:=by rw[U.out] at hj;exact hj
  have:=HN.out j hj' (by omega);rw[←this];congr 1
  simp only[U.out])
 go_wp2;go_ret;exact ⟨by rw[HF.out];rfl,O.out.trans B.out⟩
def sR (x:Int×Int):Value:= .agg #[.int .i64 x.1,.int .i64 x.2]
theorem bH {P:Program} {D:Func} {p u:Tmp} {B:TypeId} (h:D.results= #[.tmp u,.cell p B]) (A:Array Value) (w:World) (g:Nat) (t:TypeId) (cs:Array Value) (d:TypeDesc)
  (M:A.getD p undef= .pointer (some ⟨g,0,none⟩)) (J:ap w g t cs)
  (O:P.underlying B=some d) (hd:(match d with | .struct _ | .array _ _=>true|_=>false)=true) (U:(P.info? B).map (·.size)=some cs.size) :
  (results D A).run P w= .ok (.tuple #[A.getD u undef,.agg cs]) w:=by
 have e:(results D A).run P w=((asAddr (A.getD p undef)).run P w).andThen fun a I=>((loadVar B a).run P I).andThen fun v Z=> .ok (.tuple #[A.getD u undef,v]) Z:=by
  simp only[results,h];simp[Sem.run_bind,Result.andThen]
 rw[e,M];simp[asAddr,run_loadVar_row w g t B cs (0,0) d J O hd U,Result.andThen]
theorem qK {k:Nat} (h:k≤4294967296):(Lit.int .i64 (k:Int)).wf=true:=by
 unfold Lit.wf;rw[Bool.and_eq_true,decide_eq_true_iff,decide_eq_true_iff];constructor
 ·exact Int.le_trans (by decide) (Int.natCast_nonneg k)
 exact Int.le_trans (Int.ofNat_le.2 h) (by decide)
def kh (out:List Nat) (i:Int):Option Value:=if (out.any fun k=>(k:Int)==i) then some (.bool true) else none
theorem sS (out:List Nat) (k:Nat):(kh out (k:Int)).getD (.bool false)= .bool (out.contains k):=by
 unfold kh;have e:(out.any fun t=>(t:Int)==(k:Int))=out.contains k:=by
  rw[List.contains_eq_any_beq];congr 1
  funext t
  rw[Bool.eq_iff_iff];simp;omega
 rw[e];cases out.contains k<;>rfl
theorem l8 (out:List Nat) (k:Nat):(fun x:Int=>if x=(k:Int) then some (Value.bool true) else kh out x)=kh (out++[k]):=by
 funext x
 unfold kh;rw[List.any_append,List.any_cons,List.any_nil,Bool.or_false];by_cases h:x=(k:Int)
 ·rw[if_pos h,h,beq_self_eq_true,Bool.or_true,if_pos rfl]
 have:((k:Int)==x)=false:=by rw[beq_eq_false_iff_ne];exact fun e=>h e.symm
 rw[if_neg h,this,Bool.or_false]
theorem ow {w:World} {A n N:Nat} {out:List Nat} (h:ew zy 3 w A n (kh out)) (D:N≤4294967296):gD w A out N:=fun i W B q=>by
 have:=(h.keep q (by simp)).look (T:=96) Tryz.underlying96 Tryz.underlying3 (z:= .bool false) (by kernel_rfl) (i:Int) (qK (by omega));rw[sS] at this;exact this
def wn (R:Except (Int×Int) (List Nat)) (e:Ending) (w':World):Prop:=match R with
 | .ok l=>∃ A c,e= .returned (.tuple #[.slice A l.length c,sR (0,-1)])∧l.length≤c∧Rd w' [] 1 A l.length (cO l)
 | .error x=>e= .returned (.tuple #[.slice none 0 0,sR x])
def uG (R:Except (Int×Int) (List Nat)) (h:Nat) (e:Ending) (w':World):Prop:=match R with
 | .ok l=>∃ A c,e= .returned (.tuple #[.slice A l.length c,sR (0,-1)])∧l.length≤c∧∀ L:List Nat,(∀ x∈L,x<h)→Rd w' L 1 A l.length (cO l)
 | .error x=>e= .returned (.tuple #[.slice none 0 0,sR x])
structure ku (w:World) (X b:Nat) (fl:Array Value) (out:List Nat) (W:World):Prop where
 k:aa [] w W
 fb:ap W X 79 fl
 qb:ap W (X+1) 47 #[.int .i64 0,.int .i64 0]
 mp:∃ n,n≤out.length∧ew zy 3 W b n (kh out)
 hx:w.heap.size≤X
 hb:b=X+2
theorem ku.keep {w W B:World} {X b:Nat} {fl:Array Value} {out:List Nat} (h:ku w X b fl out W) (A:aa [] W B):ku w X b fl out B:=by
 obtain ⟨n,I,D⟩:=h.mp;exact ⟨h.k.trans A,h.fb.keep A (by simp),h.qb.keep A (by simp),⟨n,I,D.keep A (by simp)⟩,h.hx,h.hb⟩
theorem ku.grow {w W I B:World} {X b:Nat} {fl:Array Value} {out:List Nat} {r:Option Nat} (h:ku w X b fl out W) (O:aa [] W I) (D:I.grownBy B r) (hr:∀ g,r=some g→b<g):ku w X b fl out B:=by
 have Z:=h.hb;have hx:=h.hx
 cases r with
 | none =>
  exact (h.keep O).keep ((zN [] I).grown D (fun g D=>by cases D))
 | some g =>
  have ad:=hr g rfl;have A:aa [g] W B:=((aa.of_nil O:aa [g] W I)).grown D (fun g' M=> .inl (by injection M with e;simp[e]));obtain ⟨n,h1,U⟩:=h.mp;exact ⟨h.k.trans' A (fun x J hl=>by rw[zD.1 J] at hl;omega),h.fb.keep A (by simp;omega),h.qb.keep A (by simp;omega),⟨n,h1,U.keep A (by simp;omega)⟩,hx,Z⟩
theorem ku.put {w W:World} {X b:Nat} {fl:Array Value} {out:List Nat} (h:ku w X b fl out W) (k:Nat) (O:k≤4294967296) (hn:out.length≤4294967296) :
  ∃ B,(Instr.mapUpdate 96 (.map (some b)) (.int .i64 k) (.bool true)).run zy W= .ok () B∧ku w X b fl (out++[k]) B∧aa [b] W B:=by
 obtain ⟨n,h1,M⟩:=h.mp;obtain ⟨B,Z,J,D⟩:=M.store (T:=96) Tryz.underlying96 Tryz.underlying3 (k:Int) (.bool true) (qK O) (by simp only[maxLen];omega);rw[l8] at J;have A:aa [b] W B:=(zN [b] W).grown D (fun g D=> .inl (by injection D with D;simp[D]));have hb:=h.hb;have hx:=h.hx;exact ⟨B,Z,⟨h.k.trans' A (fun x I U=>by rw[zD.1 I] at U;omega),h.fb.keep A (by simp;omega),h.qb.keep A (by simp;omega),⟨n+1,by simp;omega,J⟩,h.hx,h.hb⟩,A⟩
def iR (f:Fl) (out:List Nat) (p:Nat):Option Nat→Prop
 | none=>∀ t,p≤t→t<f.jobs.length→t∉out→br f out t=false
 | some k=>p≤k∧k<f.jobs.length∧k∉out∧br f out k=true∧∀ t,p≤t→t<k→t∉out→br f out t=false
theorem iR.start (f:Fl) (out:List Nat):iR f out f.jobs.length none:=fun t A h=>absurd h (by omega)
theorem iR.hit {f:Fl} {out:List Nat} {p:Nat} (h:p<f.jobs.length) (B:p∉out) (A:br f out p=true):iR f out p (some p):=⟨zz _,h,B,A,fun t a b=>absurd b (by omega)⟩
theorem iR.miss {f:Fl} {out:List Nat} {p:Nat} {D:Option Nat} (h:iR f out (p+1) D) (I:p∉out→br f out p=false):iR f out p D:=by
 cases D with
 | none =>
  intro t J B A;by_cases e:t=p
  ·subst e;exact I A
  exact h t (by omega) B A
 | some k =>
  obtain ⟨a,b,c,d,e⟩:=h;refine ⟨by omega,b,c,d,fun t J B A=>?_⟩;by_cases e':t=p
  ·subst e';exact I A
  exact e t (by omega) B A
theorem iR.fin {f:Fl} {out:List Nat} {D:Option Nat} (h:iR f out 0 D):dO f out=D:=by
 cases D with
 | none=>exact ld fun t B A=>h t (zE _) B A
 | some k =>
  obtain ⟨-,b,c,d,e⟩:=h;exact mT b c d fun t B A=>e t (zE _) B A
def kw (f:Fl) (out:List Nat) (p:Nat):Option Nat→Prop
 | none=>∀ t,p≤t→t<f.jobs.length→t∈out
 | some k=>p≤k∧k<f.jobs.length∧k∉out∧∀ t,p≤t→t<k→t∈out
theorem kw.start (f:Fl) (out:List Nat):kw f out f.jobs.length none:=fun t A h=>absurd h (by omega)
theorem kw.hit {f:Fl} {out:List Nat} {p:Nat} (h:p<f.jobs.length) (A:p∉out):kw f out p (some p):=⟨zz _,h,A,fun t a b=>absurd b (by omega)⟩
theorem kw.miss {f:Fl} {out:List Nat} {p:Nat} {B:Option Nat} (h:kw f out (p+1) B) (D:p∈out):kw f out p B:=by
 cases B with
 | none =>
  intro t I A;by_cases e:t=p
  ·subst e;exact D
  exact h t (by omega) A
 | some k =>
  obtain ⟨a,b,c,e⟩:=h;refine ⟨by omega,b,c,fun t I A=>?_⟩;by_cases e':t=p
  ·subst e';exact D
  exact e t (by omega) A
theorem ox {w W:World} {Y:Nat} {a b:Value} (I:ap W Y 47 #[a,b]) (D:aa [] w W) (B:w.heap.size≤Y) (h A:Value):ap ((W.setCell ⟨Y,0,none⟩ h).setCell ⟨Y,1,none⟩ A) Y 47 #[h,A]∧aa [] w ((W.setCell ⟨Y,0,none⟩ h).setCell ⟨Y,1,none⟩ A) :=
 ⟨((I.set 0 h).set 1 A).congr rfl,(D.setCell (.inr B) _).setCell (.inr B) _⟩
theorem ki (f:Fl) (v0 v1 v2:Value) (w:World) (hF:iw w v0 v1 v2 f) (hS:gS f) (hU:(f.jobs.flatMap (·.outs)).Nodup) (hQ:dM w) :
  Calls zy 41 #[.agg #[v0,v1,v2]] w fun e w'=>uG (bO f) w.heap.size e w'∧aa [] w w':=by
 have d4:= @run_makeMap zy;obtain ⟨i0,d2,c5,d5,ds⟩:=info_parts wM;obtain ⟨R,hR⟩:∃ R,bO f=R:=⟨_,rfl⟩
 rw[hR];unfold bO at hR;have dq:=hF.i1;obtain ⟨c0,Aj,cj,rfl,ek,bj⟩:=dq;have HF:=zx hF;have HA:=zx bj;have HR:=zx hR;have cp:=zx (fun (k:Nat) (hk:k<f.jobs.length) (out:List Nat) (bd:Nat) W (q:aa [] w W) (hD:gD W bd out f.jobs.length)=>l7 f v0 _ v2 k hk out bd W (hF.keep q) hS hU hD);have HQ:=zx hQ;have b7:ku w w.heap.size (w.heap.size+2) #[v0,.slice Aj f.jobs.length cj,v2] [] (((w.alloc (.cells #[v0,.slice Aj f.jobs.length cj,v2] 79)).alloc (.cells #[.int .i64 0,.int .i64 0] 47)).alloc (.map #[] 0)):=by
  have O:=ew.made (P:=zy) (K:=3) ((w.alloc (.cells #[v0,.slice Aj f.jobs.length cj,v2] 79)).alloc (.cells #[.int .i64 0,.int .i64 0] 47));rw[gh,gh] at O;have hq:=zO (w.alloc (.cells #[v0,.slice Aj f.jobs.length cj,v2] 79)) 47 #[.int .i64 0,.int .i64 0];rw[gh] at hq;exact ⟨(((zN _ _).alloc _).alloc _).alloc _,((zO _ _ _).alloc _).alloc _,hq.alloc _,⟨0,zz _,O⟩,zz _,rfl⟩
 have aA:=zx b7;clear hF hS hU hQ bj hR b7;obtain ⟨X,hX⟩:∃ X,w.heap.size=X:=⟨_,rfl⟩
 go_enter Tryz.func41,Tryz.ntmps41
 go_upto_block 0 with (fail)
 rw[hX] at aA;generalize ((w.alloc (.cells #[v0,.slice Aj f.jobs.length cj,v2] 79)).alloc (.cells #[.int .i64 0,.int .i64 0] 47)).alloc (.map #[] 0)=y0 at aA ⊢;generalize b1:X+2=b at aA ⊢;have bm:Hid (w.heap.size≤X):=zx (Nat.le_of_eq hX);have ch:b<y0.heap.size:=by obtain ⟨n,_,O⟩:=aA.out.mp;exact O.lt
 have a9:=zx ch;have cu:=zx b1;clear hX d4 ch b1;have q1:y0.cell? ⟨X,1,none⟩=some (.slice Aj f.jobs.length cj):=aA.out.fb.cell 1;have ql:=aA.out.fb.lt;go_wp2_with fail
 clear q1 ql;go_loopw [5] (fun u wr=>∃ out:List Nat,out.length≤f.jobs.length∧rP u=out.length∧Hid (wr.ownsRow y0.heap.size 3 1 u out.length (cO out))∧Hid (cW f (f.jobs.length-out.length) out=R)∧Hid (ku w X b #[v0,.slice Aj f.jobs.length cj,v2] out wr)∧y0.heap.size≤wr.heap.size) (fun u _=>f.jobs.length-rP u)
 case atStart=>exact ⟨[],zE _,rfl,zx (World.ownsRow_nil _ _ _ _),HR,aA,zz _⟩
 clear aA;obtain ⟨out,ep,ev,HO,HG,HN,b0⟩:=hrel;have dB:=zx b0;clear b0;obtain ⟨y1,rfl⟩:∃ z:World,z=wr:=⟨_,rfl⟩
 obtain ⟨Ao,co,rfl,bA,b6⟩:=dH HO.out;have cq:=zx b6;have c8:=zx bA;have q0:y1.cell? ⟨X,0,none⟩=some v0:=HN.out.fb.cell 0;have q1:y1.cell? ⟨X,1,none⟩=some (.slice Aj f.jobs.length cj):=HN.out.fb.cell 1;have q2:y1.cell? ⟨X,2,none⟩=some v2:=HN.out.fb.cell 2;have ql:=HN.out.fb.lt;have bk:Hid (gD y1 b out f.jobs.length):=zx (by
  obtain ⟨n,_,O⟩:=HN.out.mp;exact ow O c0)
 clear b6 bA;by_cases c1:out.length<f.jobs.length
 ·have d8:(out.length:Int)<(f.jobs.length:Int):=by omega
  go_upto_block 2 with (fail)
  go_cut [6] from 16 to 34 (fun u wx=>u= .int .i64 (aI (dO f out))∧Hid (aa [] y1 wx))
  case first =>
   go_wp2_with fail
   clear q0 q1 q2 ql;go_loopw [6,7] (fun u i wx=>∃ (p:Nat) (M:Option Nat) (q:Int),i= .int .i64 q∧u= .int .i64 (aI M)∧q=(p:Int)-1∧p≤f.jobs.length∧Hid (iR f out p M)∧Hid (aa [] y1 wx)) (fun _ i _=>(intOf i+1).toNat)
   case atStart=>exact ⟨f.jobs.length,none,_,rfl,rfl,by omega,zz _,zx (iR.start f out),zx (zN _ _)⟩
   obtain ⟨p,M,q,rfl,rfl,hq,hp,I,D⟩:=hrel;obtain ⟨wj,rfl⟩:∃ z:World,z=wr:=⟨_,rfl⟩
   cases p with
   | zero =>
    obtain rfl:q= -1:=by omega
    clear hq;have A:Hid (aI M=aI (dO f out)):=zx (by rw[I.out.fin]);generalize aI M=onx at *;go_wp2;go_meet
    case rel=>exact ⟨by rw[A.out],D⟩
   | succ B =>
    obtain rfl:q=(B:Int):=by omega
    clear hq;have d6:(0:Int)≤(B:Int):=by omega
    have a2:B<f.jobs.length:=by omega
    have jB:=bk.out B wj a2 D.out;have a5:=zx (HN.out.keep D.out);have a7:=zx (fun O=>iR.miss I.out O);by_cases Z:B∈out
    ·rw[show out.contains B=true by simpa using Z] at jB
     have A:Hid (iR f out B M):=zx (a7.out fun h=>absurd Z h);generalize U:aI M=onx at *;have a3:=zx U;clear Z a7 I U;go_wp2;go_roundw
     case rel=>exact ⟨B,M,_,rfl,by rw[a3.out],rfl,by omega,A,D⟩
     case measure=>simp[intOf]
    rw[show out.contains B=false by simpa using Z] at jB;have es:wj.cell? ⟨X,0,none⟩=some v0:=a5.out.fb.cell 0;have d3:wj.cell? ⟨X,1,none⟩=some (.slice Aj f.jobs.length cj):=a5.out.fb.cell 1;have et:wj.cell? ⟨X,2,none⟩=some v2:=a5.out.fb.cell 2;have d1:=a5.out.fb.lt;have ba:=zx (cp.out B a2 out b wj a5.out.k (bk.out.keep D.out))
    cases hr:br f out B with
    | true =>
     rw[hr] at ba;have A:=zx (iR.hit a2 Z hr);generalize aI M=onx at *;clear Z hr a7 I;go_wp2_with ((with_reducible refine ba.out.mono ?_);rintro e w6 ⟨rfl,k6⟩)
     have bn:=zx (D.out.trans k6);go_roundw
     case rel=>exact ⟨B,some B,_,rfl,rfl,rfl,by omega,A,bn⟩
     case measure=>simp[intOf]
    | false =>
     rw[hr] at ba;have A:Hid (iR f out B M):=zx (a7.out fun _=>hr);generalize U:aI M=onx at *;have a3:=zx U;clear Z hr a7 I U;go_wp2_with ((with_reducible refine ba.out.mono ?_);rintro e w6 ⟨rfl,k6⟩)
     have bn:=zx (D.out.trans k6);go_roundw
     case rel=>exact ⟨B,M,_,rfl,by rw[a3.out],rfl,by omega,A,bn⟩
     case measure=>simp[intOf]
  obtain ⟨rfl,a6⟩:=hcut;obtain ⟨y2,rfl⟩:∃ z:World,z=wc:=⟨_,rfl⟩
  clear q0 q1 q2 ql bk;have a4:=zx (HN.out.keep a6.out);have cf:=zx (bh HO.out a6.out (fun g hg O=>by cases O));have eb:=zx (cq.out.keep a6.out);have cx:=zx (zA dB.out a6.out.size);clear HN HO cq a6
  cases a1:dO f out with
  | some k =>
   have I:=zx a1;have bb:k<f.jobs.length:=(gd a1).1;have en:¬(k:Int)<0:=by omega
   have HG':Hid (cW f (f.jobs.length-(out++[k]).length) (out++[k])=R):=zx (by
    rw[←HG.out,zF,List.length_singleton];rw[show f.jobs.length-out.length=(f.jobs.length-(out.length+1))+1 by omega,jV a1])
   obtain ⟨W3,d9,cg,bl⟩:=a4.out.put k (by omega) (by omega);have J:=zx cg;have cv:Hid (W3.ownsRow y0.heap.size 3 1 (.slice Ao out.length co) out.length (cO out)):=zx (bh cf.out bl (fun g hg O=>by
    have h1:=cf.out.lt g hg;have h2:=a9.out;rw[zD.1 O] at h1;omega))
   have HS:=zx (show y0.heap.size≤(W3.alloc (.cells #[.int .i64 (k:Int)] 3)).heap.size by
    have h1:=cx.out;have h2:=bl.size;rw[gh];omega)
   have HM:=zx (show out.length+1≤maxLen∧(out.length+1)*8≤140737488355328 by simp only[maxLen];omega);clear a1 cg bl HG;simp only[aI];go_wp2_with (at_builtin;refine wpList_append_own _ rfl _ _ 90 rfl y0.heap.size 3 i0 (.int .i64 0) 1 8 Tryz.underlying90 d2 c5 d5 ds rfl (by decide) _ _ _ rfl (cv.out.alloc _) ⟨W3.heap.size,0,none⟩ 1 1 [.int .i64 k] rfl rfl (zJ (heap_alloc_new _ _)) (by simp[Value.oneCell']) HM.out.1 HM.out.2 HS.out ?_)
   intro vv w4 hown' a0 d7;obtain ⟨g,a8,rfl⟩:∃ g a8,vv= .slice (some ⟨g,0,none⟩) (out.length+1) a8:=by
    rcases hown'.2 with ⟨_,h0⟩|⟨g,a8,el,hv,_⟩
    ·omega
    exact ⟨g,a8,hv⟩
   have c9:Hid (w4.ownsRow y0.heap.size 3 1 (.slice (some ⟨g,0,none⟩) (out.length+1) a8) (out++[k]).length (cO (out++[k]))):=zx (by rw[k4,zF,List.length_singleton];exact hown');have c6:Hid (ku w X b #[v0,.slice Aj f.jobs.length cj,v2] (out++[k]) w4):=zx (J.out.grow ((zN [] W3).alloc (.cells #[.int .i64 (k:Int)] 3)) a0 (fun g hg=>Nat.lt_of_lt_of_le a9.out (cv.out.lt g hg).1));have b4:Hid (y0.heap.size≤w4.heap.size):=zx (zA HS.out a0.size);clear hown' a0 d7;go_wp2;go_roundw
   case rel=>exact ⟨out++[k],by rw[zF,List.length_singleton];omega,by rw[zF,List.length_singleton];rfl,c9,HG',c6,b4.out⟩
   case measure=>simp[rP];omega
  | none =>
   have b3:Hid (∀ k,oz f out=some k→R= .error (11,(jb f k).at_)):=zx fun k hk=>by
    rw[←HG.out,show f.jobs.length-out.length=(f.jobs.length-(out.length+1))+1 by omega,jg a1,hk];rfl
   have dv:=zx (kF c1);have bB:Hid (gD y2 b out f.jobs.length):=zx (by
    obtain ⟨n,_,O⟩:=a4.out.mp;exact ow O c0)
   have q1:y2.cell? ⟨X,1,none⟩=some (.slice Aj f.jobs.length cj):=a4.out.fb.cell 1;have ql:=a4.out.fb.lt;clear a1 HG;simp only[aI];go_wp2_with fail
   clear q1 ql;go_loopw [6,8] (fun u i wx=>∃ (p:Nat) (M:Option Nat) (q:Int),i= .int .i64 q∧u= .int .i64 (aI M)∧q=(p:Int)-1∧p≤f.jobs.length∧Hid (kw f out p M)∧Hid (aa [] y2 wx)) (fun _ i _=>(intOf i+1).toNat)
   case atStart=>exact ⟨f.jobs.length,none,_,rfl,rfl,by omega,zz _,zx (kw.start f out),zx (zN _ _)⟩
   obtain ⟨p,M,q,rfl,rfl,hq,hp,I,D⟩:=hrel;obtain ⟨wj,rfl⟩:∃ z:World,z=wr:=⟨_,rfl⟩
   have J:=zx (a4.out.keep D.out)
   cases p with
   | zero =>
    obtain rfl:q= -1:=by omega
    clear hq;obtain ⟨k,rfl⟩:∃ k,M=some k:=by
     cases M with
     | some k=>exact ⟨k,rfl⟩
     | none =>
      obtain ⟨k,hk,hn⟩:=dv.out;exact absurd (I.out k (zE _) hk) hn
    obtain ⟨-,bb,bq,b5⟩:=I.out;have bo:=zx (b3.out k (mV bb bq fun t ht=>b5 t (zE _) ht));obtain ⟨g,cs,rfl,hg,-,⟨_,_,_,rfl,⟨-,A2,c2,rfl,-,-⟩,⟨-,A3,c3,rfl,-,-⟩,⟨-,A4,c4,rfl,-,-⟩⟩,Z⟩:=HA.out k bb;have d0:=J.out.k.cell_of (Z 0 _ rfl) (by simp);rw[Nat.add_zero] at d0;have ci:=eI (f:=f) bb;rw[←ci] at d0;have er:(0:Int)≤(k:Int):=by omega
    have ez:(k:Int)<(f.jobs.length:Int):=by omega
    have d3:wj.cell? ⟨X,1,none⟩=some (.slice (some ⟨g,0,none⟩) f.jobs.length cj):=J.out.fb.cell 1;have d1:=J.out.fb.lt;have z0:wj.cell? ⟨X+1,0,none⟩=some (.int .i64 0):=J.out.qb.cell 0;have z1:wj.cell? ⟨X+1,1,none⟩=some (.int .i64 0):=J.out.qb.cell 1;have f0:wj.frozen? ⟨X+1,0,none⟩=false:=J.out.qb.frozen 0;have f1:wj.frozen? ⟨X+1,1,none⟩=false:=J.out.qb.frozen 1;have ad:=zx (fun V0 V1=>ox (J.out.qb.drew) J.out.k.drew (Nat.le_succ_of_le bm.out) V0 V1);have em:=(jb f k).at_;generalize (jb f k).at_=at_ at *;clear Z b5 bq ci bB;simp only[aI];go_wp2_with fail
    go_region
    all_goals
     go_wp2
     (try simp only[Exit.inBlock,Exit.then])
     refine bodyPost_ret (bH rfl _ _ (X+1) _ _ _ rfl (ad.out _ _).1 Tryz.underlying47 rfl (by kernel_rfl)) rfl ?_;exact ⟨by rw[bo.out];rfl,(ad.out _ _).2⟩
   | succ B =>
    obtain rfl:q=(B:Int):=by omega
    clear hq;have d6:(0:Int)≤(B:Int):=by omega
    have a2:B<f.jobs.length:=by omega
    have jB:=bB.out B wj a2 D.out;by_cases Z:B∈out
    ·rw[show out.contains B=true by simpa using Z] at jB
     have A:Hid (kw f out B M):=zx (kw.miss I.out Z);generalize U:aI M=onx at *;have a3:=zx U;clear Z I U;go_wp2;go_roundw
     case rel=>exact ⟨B,M,_,rfl,by rw[a3.out],rfl,by omega,A,D⟩
     case measure=>simp[intOf]
    rw[show out.contains B=false by simpa using Z] at jB;have A:=zx (kw.hit a2 Z);generalize aI M=onx at *;clear Z I;go_wp2;go_roundw
    case rel=>exact ⟨B,some B,_,rfl,rfl,rfl,by omega,A,D⟩
    case measure=>simp[intOf]
 have ct:out.length=f.jobs.length:=by omega
 have bo:Hid (R= .ok out):=zx (by
  have:=HG.out;rw[ct,Nat.sub_self] at this;exact this.symm)
 have z0:y1.cell? ⟨X+1,0,none⟩=some (.int .i64 0):=HN.out.qb.cell 0;have z1:y1.cell? ⟨X+1,1,none⟩=some (.int .i64 0):=HN.out.qb.cell 1;have f0:y1.frozen? ⟨X+1,0,none⟩=false:=HN.out.qb.frozen 0;have f1:y1.frozen? ⟨X+1,1,none⟩=false:=HN.out.qb.frozen 1;have p0:=HN.out.k.cell_of HQ.out.1 (by simp);have p1:=HN.out.k.cell_of HQ.out.2 (by simp);have pl:0<y1.heap.size:=zB _ _ p0;have ad:=zx (fun V0 V1=>ox (HN.out.qb.drew) HN.out.k.drew (Nat.le_succ_of_le bm.out) V0 V1);have c7:Hid (∀ V0 V1 (L:List Nat),(∀ x∈L,x<w.heap.size)→Rd ((y1.drew.setCell ⟨X+1,0,none⟩ V0).setCell ⟨X+1,1,none⟩ V1) L 1 Ao out.length (cO out)):=zx (fun V0 V1 L hL=>by
  have hk:aa [X+1] y1 ((y1.drew.setCell ⟨X+1,0,none⟩ V0).setCell ⟨X+1,1,none⟩ V1):=(((zN [X+1] y1).drew).setCell (.inl (by simp)) _).setCell (.inl (by simp)) _;have ho:=bh HO.out hk (fun g hg O=>by
   have h1:=HO.out.lt g hg;have h2:=a9.out;have h3:=cu.out;rw[zD.1 O] at h1;omega)
  have hr:=Rd.of_own (L:=L) ho (fun g hg O=>by
   have h1:=HO.out.lt g hg;have h2:=a9.out;have h3:=cu.out;have h4:=bm.out;have h5:=hL g O;omega)
  exact hr)
 clear ct HG;go_wp2_with fail
 go_region
 all_goals
  go_wp2
  (try simp only[Exit.inBlock,Exit.then])
  refine bodyPost_ret (bH rfl _ _ (X+1) _ _ _ rfl (ad.out _ _).1 Tryz.underlying47 rfl (by kernel_rfl)) rfl ?_;exact ⟨by rw[bo.out];exact ⟨_,_,rfl,c8.out,c7.out _ _⟩,(ad.out _ _).2⟩
theorem l9 (f:Fl) (I B D:Value) (w:World) (hF:iw w I B D f) (hS:gS f) (hU:(f.jobs.flatMap (·.outs)).Nodup) (O:dM w) :
  Calls zy 41 #[.agg #[I,B,D]] w fun e w'=>wn (bO f) e w'∧aa [] w w' :=
 (ki f I B D w hF hS hU O).mono fun e w' ⟨h,U⟩=>⟨by
  cases J:bO f with
  | error x=>rw[J] at h;exact h
  | ok l =>
   rw[J] at h;obtain ⟨A,c,Z,M,h3⟩:=h;exact ⟨A,c,Z,M,h3 [] (by simp)⟩,U⟩
end
end Go.Proofs.YtpagiajlefejcaaGreatDoor
