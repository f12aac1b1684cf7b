/- The parser's body at its codes. The cutter's letter, digit, run and next. -/
import Derived.Test.YtecpeogejjibaaaGreatDoorEmoM7
import Derived.Lib.IndexLaws
set_option linter.unusedSimpArgs false
set_option linter.unusedVariables false
set_option maxRecDepth 100000
set_option maxHeartbeats 16000000
namespace Go.Proofs.YtecpeogejjibaaaGreatDoor
open Go.Lib renaming hid → Fx
open _root_.Nat renaming le_refl → Fy, le_trans → FD, zero_le → FF
open _root_.List renaming length_append → Fz, length_cons → FG
open Go.World renaming block_lt_of_cell? → FC, news_of_block → FI
open aa renaming refl → FK
open Go.Value renaming string → FM, slice → FN, pointer → FO, int → FR
open Go.Ending renaming returned → FP
open Go.IntKind renaming i64 → FS
section
open Go.RowKit Go.BigFrame
attribute [local go_sem] ag ab ae af
theorem Ds {l:List Tk} {b jb lo:Nat} {v2 v3 v4:Value} (O code:Int) (outs ins cols:List Bs) (op:Bs) (left right:Ar) (D:Int) (w0 w:World) (hE:FB w0 lo) (bb:lo≤b) (h:Ps w b l) (hk:aa [b] w0 w) (b0:w0.heap.size≤jb) (hj:aV w w0.heap.size jb ⟨O,code,outs,ins,cols,op,left,right,D⟩ v2 v3 v4) (cn:ins.length≤1000) (cj:cols.length≤1000) (bv:l.length≤1000000) (a3:bV (aS l).text=1) (a6:(aS l).kind=1) :
  Calls Tryz.prog 122 #[FO (some ⟨b,0,none⟩),FO (some ⟨jb,0,none⟩)] w fun e w'=>gb (bH ⟨O,code,outs,ins,cols,op,left,right,D⟩ l) b w0.heap.size jb e w'∧aa [b] w0 w':=by
 obtain ⟨i0,hi,bo,bX,bm⟩:=info_parts kX;obtain ⟨R,hR⟩:∃ R,bH ⟨O,code,outs,ins,cols,op,left,right,D⟩ l=R:=⟨_,rfl⟩
 rw[hR];have HE:=Fx hE;have N:=Fx h;have Z:=Fx hk;have J:=Fx hj;have be:=Fx b0;have ad:Hid (ins.length≤999000):=Fx (by omega);have ci:Hid (cols.length≤999000):=Fx (by omega);have b9:=Fx bv;have a8:Hid (∀ W,aa [] w W→Calls Tryz.prog 48 #[FN (some ⟨4,0,none⟩) 10 10,FM (bs (aS l).text)] W fun e W'=>e=FP (FR FS (dm (aS l).text))∧W=W'):=Fx (fun W q=>cE (aS l).text W ((hE.one bb hk).quiet q).env);obtain ⟨q,hq⟩:∃ q,dm (aS l).text=q:=⟨_,rfl⟩
 rw[hq] at a8;have HQ:=Fx hq;obtain ⟨g,o,c,c0,z0,lb,lg,-,hn,hc,bk,k0,k1,k2,-⟩:=h.open';have a9:(0:Int)<(l.length:Int):=by omega
 have f1:w.cell? ⟨jb,1,none⟩=some (FR FS code):=hj.blk.cell 1;have f2:=hj.blk.frozen 1;have lj:=hj.blk.lt;have b1:=Fx a3;have bz:Hid ((aQ l.tail >>= fun p=>j6 ⟨O,1,outs,ins++[p.1],cols,op,left,right,D⟩ p.2)=R):=Fx (by
  rw[←hR];unfold bH;rw[a3,if_neg (by rw[a6];decide)];rfl)
 have bZ:bC [102,105,108,116,101,114] l=true:=by
  unfold bC;rw[a6,cU a3 (by decide)];rfl
 have b3:=Fx bZ;have bq:=Fx a6;clear hR hE h hk hj cn cj bv b0 hq a3 bZ a6;go_enter Tryz.func122,Tryz.ntmps122
 go_upto_region 0 with (fail)
 go_cut [] (fun wx=>wx=(w.setCell ⟨jb,1,none⟩ (FR FS (max q 0))).drew)
 case first =>
  go_region_law (first|(go_simp;go_at_call 48;refine (a8.out _ (FK [] w).drew).mono ?_;rintro e w6 ⟨rfl,rfl⟩))
  all_goals
   go_wp2;go_meet;exact rfl
 subst hcut;clear c0 z0 lb lg hn hc bk k0 k1 k2 a9 lj f1 f2 a8;have a5:aa [jb] w ((w.setCell ⟨jb,1,none⟩ (FR FS (max q 0))).drew):=((FK _ _).setCell (.inl (by simp)) _).drew;have hj':aV ((w.setCell ⟨jb,1,none⟩ (FR FS (max q 0))).drew) w0.heap.size jb ⟨O,max q 0,outs,ins,cols,op,left,right,D⟩ v2 v3 v4:=J.out.box a5 ((J.out.blk.set 1 (FR FS (max q 0))).congr (by rfl)) rfl rfl rfl;have hp':=N.out.box J.out a5;have hk':=Z.out.box be.out a5;have hm:max q 0=1:=by rw[←HQ.out,db,b1.out];rfl
 rw[hm] at hj' hp' hk' ⊢;clear hm a5 J N Z;obtain ⟨y0,hy⟩:∃ x,(w.setCell ⟨jb,1,none⟩ (FR FS 1)).drew=x:=⟨_,rfl⟩
 rw[hy] at hj' hp' hk' ⊢;have J:=Fx hj';have N:=Fx hp';have Z:=Fx hk';have a4:y0.cell? ⟨jb,1,none⟩=some (FR FS 1):=hj'.blk.cell 1;have lj:=hj'.blk.lt;obtain ⟨g,o,c,c0,z0,lb,lg,-,hn,hc,bk,k0,k1,k2,-⟩:=hp'.open';have a9:(0:Int)<(l.length:Int):=by omega
 clear hy hj' hp' hk' hn hc bk HQ;rw[bq.out] at k0;have wd:=(HE.out.one bb Z.out).env.words 1 (by decide);have b6:y0.cell? ⟨4,1,none⟩=some (FM (bs [102,105,108,116,101,114])):=wd;have ch:=FC _ _ b6;clear wd;go_wp2_with fail
 refine (aT (s:=[102,105,108,116,101,114]) (r:=l.tail) (by unfold aR;rw[if_pos b3.out]) y0 N.out).mono ?_;rintro ev y1 ⟨rfl,hp,hk⟩;have HJ':=Fx (J.out.ps N.out hk);have HK':=Fx (Z.out.trans hk);clear N J Z c0 z0 lb lg k0 k1 k2 a9 a4 lj b6 ch;have N:=Fx hp;have J:=HJ';have Z:=HK';clear hp hk HJ' HK';have HR:=bz;clear bz;have a1:Hid (l.tail.length≤l.length):=Fx (by rw[List.length_tail];omega);obtain ⟨r0,bl⟩:∃ r0,l.tail=r0:=⟨_,rfl⟩
 rw[bl] at N HR a1;clear bl b3 bq b1;have a4:y1.cell? ⟨jb,1,none⟩=some (FR FS 1):=J.out.blk.cell 1;have b4:=J.out.blk.lt;go_upto_region 13 with (fail)
 obtain ⟨A2,c2,hv,-⟩:=ar J.out.o3;subst hv;have fS:y1.cell? ⟨jb,3,none⟩=some (FN A2 (ins).length c2)∧y1.frozen? ⟨jb,3,none⟩=false:=⟨J.out.blk.cell 3,J.out.blk.frozen 3⟩;have lj:=J.out.blk.lt;have aA:=Fx (show (ins).length+1≤maxLen∧((ins).length+1)*16≤140737488355328 by have:=ad.out;simp only[maxLen];first|omega|(simp only[Fz,FG,List.length_nil];omega));have ba:Hid (jb∉[b]):=Fx (by have:=J.out.blk.ty.ne N.out.ty (by decide);simpa using this);rcases hS:aQ r0 with x|⟨a2,r2⟩
 ·have U:=HR.out
  rw[hS,aw] at U;have HX:=Fx U.symm;have HC:Hid (∀ W,aa [] y1 W→Calls Tryz.prog 80 #[FO (some ⟨b,0,none⟩)] W fun e w'=>bW x e w'∧aa [b] W w'):=Fx (fun W z=>bR hS W (N.out.keep z));clear U hS;go_wp2_with fail
  go_region_law (first|(refine step_append_lies _ (by rfl) _ _ _ (by rfl) w0.heap.size 9 i0 _ 1 16 Tryz.underlying44 hi bo bX bm rfl (by decide) (FN A2 (ins).length c2) (ins).length (strs (ins)) (by rfl) ((J.out.ps N.out I.undrew).o3.alloc _) ⟨w6.heap.size,0,none⟩ 1 1 [FM (bs [])] (by rfl) rfl (FI (heap_alloc_new _ _)) (by simp[Value.oneCell']) (by decide) aA.out.1 aA.out.2 (by have:=Z.out.size;have:=I.size;have h9:y1.drew.heap.size=y1.heap.size:=rfl;simp;omega) _ rfl ?_;intro gw cap w7 av M a7 br;obtain ⟨ce,cg⟩:=aE M (aD ⟨a0,bj⟩ _) (fun e=>(aK (J.out.ps N.out I.undrew).o3 jb e).ne (J.out.ps N.out I.undrew).blk.ty (by decide) rfl))|(go_simp;go_at_call 80;refine (HC.out _ (FK [] y1).drew).mono ?_;rintro e w6 ⟨⟨gi,rfl,hb⟩,I⟩;obtain ⟨a0,bj⟩:=aI I fS ba.out;have ca:jb<w6.heap.size:=FC w6 ⟨jb,3,none⟩ a0;dsimp only;(go_loud (refine cT ‹∀ (a:Act) (w:World),wpAny _ _ _ _ _ _ a w→_› (some 88) (FM (bs [])) ⟨rfl,by rw[HX.out];exact ⟨gi,rfl,hb⟩,Z.out.trans I.undrew⟩ (fun hF=>?_)))))
  all_goals exact hF.out.elim
 have U:=HR.out;rw[hS,aq] at U;try dsimp only at U
 clear HR;have HR:=Fx U;clear U;have HC:Hid (∀ W,aa [] y1 W→Calls Tryz.prog 80 #[FO (some ⟨b,0,none⟩)] W fun e w'=>e=FP (FM (bs a2))∧Ps w' b r2∧aa [b] W w'):=Fx (fun W z=>bi hS W (N.out.keep z));have b7:Hid (r2.length≤l.length):=Fx (by have:=a1.out;have:=az hS;omega);clear a1;have a1:=b7;clear b7;clear hS;go_cut [] (fun wx=>∃ b5,aV wx w0.heap.size jb (⟨O,1,outs,ins++[a2],cols,op,left,right,D⟩:Jb) v2 b5 v4∧Ps wx b r2∧aa [b] w0 wx)
 case first =>
  go_region_law (first|(refine step_append_lies _ (by rfl) _ _ _ (by rfl) w0.heap.size 9 i0 _ 1 16 Tryz.underlying44 hi bo bX bm rfl (by decide) (FN A2 (ins).length c2) (ins).length (strs (ins)) (by rfl) ((J.out.ps N.out I.undrew).o3.alloc _) ⟨w6.heap.size,0,none⟩ 1 1 [FM (bs a2)] (by rfl) rfl (FI (heap_alloc_new _ _)) (by simp[Value.oneCell']) (by decide) aA.out.1 aA.out.2 (by have:=Z.out.size;have:=I.size;have h9:y1.drew.heap.size=y1.heap.size:=rfl;simp;omega) _ rfl ?_;intro gw cap w7 av M a7 br;obtain ⟨ce,cg⟩:=aE M (aD ⟨a0,bj⟩ _) (fun e=>(aK (J.out.ps N.out I.undrew).o3 jb e).ne (J.out.ps N.out I.undrew).blk.ty (by decide) rfl))|(go_simp;go_at_call 80;refine (HC.out _ (FK [] y1).drew).mono ?_;rintro e w6 ⟨rfl,cm,I⟩;obtain ⟨a0,bj⟩:=aI I fS ba.out;have ca:jb<w6.heap.size:=FC w6 ⟨jb,3,none⟩ a0))
  all_goals
   go_wp2;go_meet;have hh:=aV.app3 (J.out.ps N.out I.undrew) cm (Z.out.trans I.undrew) rfl be.out M rfl av a7 (by simp);exact ⟨_,hh.1,hh.2.1,hh.2.2⟩
 obtain ⟨b5,hj,hp,hk⟩:=hcut;obtain ⟨y2,rfl⟩:∃ y:World,y=wc:=⟨_,rfl⟩
 clear N J Z HC fS lj aA ba;have N:=Fx hp;have J:=Fx hj;have Z:=Fx hk;have bc:Hid ((ins++[a2]).length≤999000+2):=Fx (by have:=ad.out;simp only[Fz,FG,List.length_nil];omega);clear hp hj hk ad;generalize ins++[a2]=il2 at J HR bc;have ad:=bc;clear bc;clear a4 b4;have a4:y2.cell? ⟨jb,1,none⟩=some (FR FS 1):=J.out.blk.cell 1;have b4:=J.out.blk.lt;have U:=HR.out;clear HR;have HR:Hid (em (⟨O,1,outs,il2,cols,op,left,right,D⟩:Jb) r2=R):=Fx U;clear U;have hc:=qf O 1 outs (il2) (cols) op left right D w0 y2 HE.out bb N.out Z.out be.out J.out (by have:=ad.out;first|omega|(simp only[Fz,FG,List.length_nil];omega)) (by have:=ci.out;first|omega|(simp only[Fz,FG,List.length_nil];omega)) (FD a1.out b9.out);have U:=HR.out;rcases hS:em (⟨O,1,outs,il2,cols,op,left,right,D⟩:Jb) r2 with x|⟨j3,r3⟩
 ·rw[hS] at U hc
  have HX:=Fx U.symm;have cd:=Fx hc;clear U hS hc;go_wp2_with fail
  refine cd.out.mono ?_;rintro ev w9 ⟨⟨gi,rfl,hb⟩,b8⟩;exact ⟨rfl,by rw[HX.out];exact ⟨gi,rfl,hb⟩,b8⟩
 rw[hS] at U hc;have HX:=Fx U.symm;have HC:=Fx hc;clear U hS hc;go_wp2_with fail
 refine HC.out.mono ?_;rintro ev y3 ⟨⟨rfl,⟨va,vb,vc,hj⟩,hp⟩,hk⟩;go_wp2;first|go_end0|refine bodyPost_ret (results_none rfl _ _ _) rfl ?_
 exact ⟨by rw[HX.out];exact ⟨rfl,⟨_,_,_,hj⟩,hp⟩,hk⟩
theorem Dt {l:List Tk} {b jb lo:Nat} {v2 v3 v4:Value} (O code:Int) (outs ins cols:List Bs) (op:Bs) (left right:Ar) (D:Int) (w0 w:World) (hE:FB w0 lo) (bb:lo≤b) (h:Ps w b l) (hk:aa [b] w0 w) (b0:w0.heap.size≤jb) (hj:aV w w0.heap.size jb ⟨O,code,outs,ins,cols,op,left,right,D⟩ v2 v3 v4) (cn:ins.length≤1000) (cj:cols.length≤1000) (bv:l.length≤1000000) (a3:bV (aS l).text=9) (a6:(aS l).kind=1) :
  Calls Tryz.prog 122 #[FO (some ⟨b,0,none⟩),FO (some ⟨jb,0,none⟩)] w fun e w'=>gb (bH ⟨O,code,outs,ins,cols,op,left,right,D⟩ l) b w0.heap.size jb e w'∧aa [b] w0 w':=by
 obtain ⟨i0,hi,bo,bX,bm⟩:=info_parts kX;obtain ⟨R,hR⟩:∃ R,bH ⟨O,code,outs,ins,cols,op,left,right,D⟩ l=R:=⟨_,rfl⟩
 rw[hR];have HE:=Fx hE;have N:=Fx h;have Z:=Fx hk;have J:=Fx hj;have be:=Fx b0;have ad:Hid (ins.length≤999000):=Fx (by omega);have ci:Hid (cols.length≤999000):=Fx (by omega);have b9:=Fx bv;have a8:Hid (∀ W,aa [] w W→Calls Tryz.prog 48 #[FN (some ⟨4,0,none⟩) 10 10,FM (bs (aS l).text)] W fun e W'=>e=FP (FR FS (dm (aS l).text))∧W=W'):=Fx (fun W q=>cE (aS l).text W ((hE.one bb hk).quiet q).env);obtain ⟨q,hq⟩:∃ q,dm (aS l).text=q:=⟨_,rfl⟩
 rw[hq] at a8;have HQ:=Fx hq;obtain ⟨g,o,c,c0,z0,lb,lg,-,hn,hc,bk,k0,k1,k2,-⟩:=h.open';have a9:(0:Int)<(l.length:Int):=by omega
 have f1:w.cell? ⟨jb,1,none⟩=some (FR FS code):=hj.blk.cell 1;have f2:=hj.blk.frozen 1;have lj:=hj.blk.lt;have b1:=Fx a3;have bz:Hid ((aQ l.tail >>= fun p=>j6 ⟨O,9,outs,ins++[p.1],cols,op,left,right,D⟩ p.2)=R):=Fx (by
  rw[←hR];unfold bH;rw[a3,if_neg (by rw[a6];decide)];rfl)
 have bZ:bC [115,112,108,105,116] l=true:=by
  unfold bC;rw[a6,cU a3 (by decide)];rfl
 have b3:=Fx bZ;have bq:=Fx a6;clear hR hE h hk hj cn cj bv b0 hq a3 bZ a6;go_enter Tryz.func122,Tryz.ntmps122
 go_upto_region 0 with (fail)
 go_cut [] (fun wx=>wx=(w.setCell ⟨jb,1,none⟩ (FR FS (max q 0))).drew)
 case first =>
  go_region_law (first|(go_simp;go_at_call 48;refine (a8.out _ (FK [] w).drew).mono ?_;rintro e w6 ⟨rfl,rfl⟩))
  all_goals
   go_wp2;go_meet;exact rfl
 subst hcut;clear c0 z0 lb lg hn hc bk k0 k1 k2 a9 lj f1 f2 a8;have a5:aa [jb] w ((w.setCell ⟨jb,1,none⟩ (FR FS (max q 0))).drew):=((FK _ _).setCell (.inl (by simp)) _).drew;have hj':aV ((w.setCell ⟨jb,1,none⟩ (FR FS (max q 0))).drew) w0.heap.size jb ⟨O,max q 0,outs,ins,cols,op,left,right,D⟩ v2 v3 v4:=J.out.box a5 ((J.out.blk.set 1 (FR FS (max q 0))).congr (by rfl)) rfl rfl rfl;have hp':=N.out.box J.out a5;have hk':=Z.out.box be.out a5;have hm:max q 0=9:=by rw[←HQ.out,db,b1.out];rfl
 rw[hm] at hj' hp' hk' ⊢;clear hm a5 J N Z;obtain ⟨y0,hy⟩:∃ x,(w.setCell ⟨jb,1,none⟩ (FR FS 9)).drew=x:=⟨_,rfl⟩
 rw[hy] at hj' hp' hk' ⊢;have J:=Fx hj';have N:=Fx hp';have Z:=Fx hk';have a4:y0.cell? ⟨jb,1,none⟩=some (FR FS 9):=hj'.blk.cell 1;have lj:=hj'.blk.lt;obtain ⟨g,o,c,c0,z0,lb,lg,-,hn,hc,bk,k0,k1,k2,-⟩:=hp'.open';have a9:(0:Int)<(l.length:Int):=by omega
 clear hy hj' hp' hk' hn hc bk HQ;rw[bq.out] at k0;have wd:=(HE.out.one bb Z.out).env.words 9 (by decide);have b6:y0.cell? ⟨4,9,none⟩=some (FM (bs [115,112,108,105,116])):=wd;have ch:=FC _ _ b6;clear wd;go_wp2_with fail
 refine (aT (s:=[115,112,108,105,116]) (r:=l.tail) (by unfold aR;rw[if_pos b3.out]) y0 N.out).mono ?_;rintro ev y1 ⟨rfl,hp,hk⟩;have HJ':=Fx (J.out.ps N.out hk);have HK':=Fx (Z.out.trans hk);clear N J Z c0 z0 lb lg k0 k1 k2 a9 a4 lj b6 ch;have N:=Fx hp;have J:=HJ';have Z:=HK';clear hp hk HJ' HK';have HR:=bz;clear bz;have a1:Hid (l.tail.length≤l.length):=Fx (by rw[List.length_tail];omega);obtain ⟨r0,bl⟩:∃ r0,l.tail=r0:=⟨_,rfl⟩
 rw[bl] at N HR a1;clear bl b3 bq b1;have a4:y1.cell? ⟨jb,1,none⟩=some (FR FS 9):=J.out.blk.cell 1;have b4:=J.out.blk.lt;go_upto_region 13 with (fail)
 obtain ⟨A2,c2,hv,-⟩:=ar J.out.o3;subst hv;have fS:y1.cell? ⟨jb,3,none⟩=some (FN A2 (ins).length c2)∧y1.frozen? ⟨jb,3,none⟩=false:=⟨J.out.blk.cell 3,J.out.blk.frozen 3⟩;have lj:=J.out.blk.lt;have aA:=Fx (show (ins).length+1≤maxLen∧((ins).length+1)*16≤140737488355328 by have:=ad.out;simp only[maxLen];first|omega|(simp only[Fz,FG,List.length_nil];omega));have ba:Hid (jb∉[b]):=Fx (by have:=J.out.blk.ty.ne N.out.ty (by decide);simpa using this);rcases hS:aQ r0 with x|⟨a2,r2⟩
 ·have U:=HR.out
  rw[hS,aw] at U;have HX:=Fx U.symm;have HC:Hid (∀ W,aa [] y1 W→Calls Tryz.prog 80 #[FO (some ⟨b,0,none⟩)] W fun e w'=>bW x e w'∧aa [b] W w'):=Fx (fun W z=>bR hS W (N.out.keep z));clear U hS;go_wp2_with fail
  go_region_law (first|(refine step_append_lies _ (by rfl) _ _ _ (by rfl) w0.heap.size 9 i0 _ 1 16 Tryz.underlying44 hi bo bX bm rfl (by decide) (FN A2 (ins).length c2) (ins).length (strs (ins)) (by rfl) ((J.out.ps N.out I.undrew).o3.alloc _) ⟨w6.heap.size,0,none⟩ 1 1 [FM (bs [])] (by rfl) rfl (FI (heap_alloc_new _ _)) (by simp[Value.oneCell']) (by decide) aA.out.1 aA.out.2 (by have:=Z.out.size;have:=I.size;have h9:y1.drew.heap.size=y1.heap.size:=rfl;simp;omega) _ rfl ?_;intro gw cap w7 av M a7 br;obtain ⟨ce,cg⟩:=aE M (aD ⟨a0,bj⟩ _) (fun e=>(aK (J.out.ps N.out I.undrew).o3 jb e).ne (J.out.ps N.out I.undrew).blk.ty (by decide) rfl))|(go_simp;go_at_call 80;refine (HC.out _ (FK [] y1).drew).mono ?_;rintro e w6 ⟨⟨gi,rfl,hb⟩,I⟩;obtain ⟨a0,bj⟩:=aI I fS ba.out;have ca:jb<w6.heap.size:=FC w6 ⟨jb,3,none⟩ a0;dsimp only;(go_loud (refine cT ‹∀ (a:Act) (w:World),wpAny _ _ _ _ _ _ a w→_› (some 88) (FM (bs [])) ⟨rfl,by rw[HX.out];exact ⟨gi,rfl,hb⟩,Z.out.trans I.undrew⟩ (fun hF=>?_)))))
  all_goals exact hF.out.elim
 have U:=HR.out;rw[hS,aq] at U;try dsimp only at U
 clear HR;have HR:=Fx U;clear U;have HC:Hid (∀ W,aa [] y1 W→Calls Tryz.prog 80 #[FO (some ⟨b,0,none⟩)] W fun e w'=>e=FP (FM (bs a2))∧Ps w' b r2∧aa [b] W w'):=Fx (fun W z=>bi hS W (N.out.keep z));have b7:Hid (r2.length≤l.length):=Fx (by have:=a1.out;have:=az hS;omega);clear a1;have a1:=b7;clear b7;clear hS;go_cut [] (fun wx=>∃ b5,aV wx w0.heap.size jb (⟨O,9,outs,ins++[a2],cols,op,left,right,D⟩:Jb) v2 b5 v4∧Ps wx b r2∧aa [b] w0 wx)
 case first =>
  go_region_law (first|(refine step_append_lies _ (by rfl) _ _ _ (by rfl) w0.heap.size 9 i0 _ 1 16 Tryz.underlying44 hi bo bX bm rfl (by decide) (FN A2 (ins).length c2) (ins).length (strs (ins)) (by rfl) ((J.out.ps N.out I.undrew).o3.alloc _) ⟨w6.heap.size,0,none⟩ 1 1 [FM (bs a2)] (by rfl) rfl (FI (heap_alloc_new _ _)) (by simp[Value.oneCell']) (by decide) aA.out.1 aA.out.2 (by have:=Z.out.size;have:=I.size;have h9:y1.drew.heap.size=y1.heap.size:=rfl;simp;omega) _ rfl ?_;intro gw cap w7 av M a7 br;obtain ⟨ce,cg⟩:=aE M (aD ⟨a0,bj⟩ _) (fun e=>(aK (J.out.ps N.out I.undrew).o3 jb e).ne (J.out.ps N.out I.undrew).blk.ty (by decide) rfl))|(go_simp;go_at_call 80;refine (HC.out _ (FK [] y1).drew).mono ?_;rintro e w6 ⟨rfl,cm,I⟩;obtain ⟨a0,bj⟩:=aI I fS ba.out;have ca:jb<w6.heap.size:=FC w6 ⟨jb,3,none⟩ a0))
  all_goals
   go_wp2;go_meet;have hh:=aV.app3 (J.out.ps N.out I.undrew) cm (Z.out.trans I.undrew) rfl be.out M rfl av a7 (by simp);exact ⟨_,hh.1,hh.2.1,hh.2.2⟩
 obtain ⟨b5,hj,hp,hk⟩:=hcut;obtain ⟨y2,rfl⟩:∃ y:World,y=wc:=⟨_,rfl⟩
 clear N J Z HC fS lj aA ba;have N:=Fx hp;have J:=Fx hj;have Z:=Fx hk;have bc:Hid ((ins++[a2]).length≤999000+2):=Fx (by have:=ad.out;simp only[Fz,FG,List.length_nil];omega);clear hp hj hk ad;generalize ins++[a2]=il2 at J HR bc;have ad:=bc;clear bc;clear a4 b4;have a4:y2.cell? ⟨jb,1,none⟩=some (FR FS 9):=J.out.blk.cell 1;have b4:=J.out.blk.lt;have U:=HR.out;clear HR;have HR:Hid (em (⟨O,9,outs,il2,cols,op,left,right,D⟩:Jb) r2=R):=Fx U;clear U;have hc:=qf O 9 outs (il2) (cols) op left right D w0 y2 HE.out bb N.out Z.out be.out J.out (by have:=ad.out;first|omega|(simp only[Fz,FG,List.length_nil];omega)) (by have:=ci.out;first|omega|(simp only[Fz,FG,List.length_nil];omega)) (FD a1.out b9.out);have U:=HR.out;rcases hS:em (⟨O,9,outs,il2,cols,op,left,right,D⟩:Jb) r2 with x|⟨j3,r3⟩
 ·rw[hS] at U hc
  have HX:=Fx U.symm;have cd:=Fx hc;clear U hS hc;go_wp2_with fail
  refine cd.out.mono ?_;rintro ev w9 ⟨⟨gi,rfl,hb⟩,b8⟩;exact ⟨rfl,by rw[HX.out];exact ⟨gi,rfl,hb⟩,b8⟩
 rw[hS] at U hc;have HX:=Fx U.symm;have HC:=Fx hc;clear U hS hc;go_wp2_with fail
 refine HC.out.mono ?_;rintro ev y3 ⟨⟨rfl,⟨va,vb,vc,hj⟩,hp⟩,hk⟩;go_wp2;first|go_end0|refine bodyPost_ret (results_none rfl _ _ _) rfl ?_
 exact ⟨by rw[HX.out];exact ⟨rfl,⟨_,_,_,hj⟩,hp⟩,hk⟩
theorem Du {l:List Tk} {b jb lo:Nat} {v2 v3 v4:Value} (O code:Int) (outs ins cols:List Bs) (op:Bs) (left right:Ar) (D:Int) (w0 w:World) (hE:FB w0 lo) (br:lo≤b) (h:Ps w b l) (hk:aa [b] w0 w) (bZ:w0.heap.size≤jb) (hj:aV w w0.heap.size jb ⟨O,code,outs,ins,cols,op,left,right,D⟩ v2 v3 v4) (cg:ins.length≤1000) (cd:cols.length≤1000) (bo:l.length≤1000000) (aA:bV (aS l).text=6) (a5:(aS l).kind=1) :
  Calls Tryz.prog 122 #[FO (some ⟨b,0,none⟩),FO (some ⟨jb,0,none⟩)] w fun e w'=>gb (bH ⟨O,code,outs,ins,cols,op,left,right,D⟩ l) b w0.heap.size jb e w'∧aa [b] w0 w':=by
 obtain ⟨i0,hi,bk,bz,bj⟩:=info_parts kX;obtain ⟨R,hR⟩:∃ R,bH ⟨O,code,outs,ins,cols,op,left,right,D⟩ l=R:=⟨_,rfl⟩
 rw[hR];have HE:=Fx hE;have N:=Fx h;have U:=Fx hk;have J:=Fx hj;have bv:=Fx bZ;have a0:Hid (ins.length≤999000):=Fx (by omega);have ci:Hid (cols.length≤999000):=Fx (by omega);have ch:=Fx bo;have a7:Hid (∀ W,aa [] w W→Calls Tryz.prog 48 #[FN (some ⟨4,0,none⟩) 10 10,FM (bs (aS l).text)] W fun e W'=>e=FP (FR FS (dm (aS l).text))∧W=W'):=Fx (fun W q=>cE (aS l).text W ((hE.one br hk).quiet q).env);obtain ⟨q,hq⟩:∃ q,dm (aS l).text=q:=⟨_,rfl⟩
 rw[hq] at a7;have HQ:=Fx hq;obtain ⟨g,o,c,c0,z0,lb,lg,-,hn,hc,bc,k0,k1,k2,-⟩:=h.open';have a8:(0:Int)<(l.length:Int):=by omega
 have f1:w.cell? ⟨jb,1,none⟩=some (FR FS code):=hj.blk.cell 1;have f2:=hj.blk.frozen 1;have lj:=hj.blk.lt;have b0:=Fx aA;have bq:Hid ((aQ l.tail >>= fun p=>j6 ⟨O,6,outs,ins++[p.1],cols,op,left,right,D⟩ p.2)=R):=Fx (by
  rw[←hR];unfold bH;rw[aA,if_neg (by rw[a5];decide)];rfl)
 have bX:bC [100,105,115,116,105,110,99,116] l=true:=by
  unfold bC;rw[a5,cU aA (by decide)];rfl
 have b1:=Fx bX;have bl:=Fx a5;clear hR hE h hk hj cg cd bo bZ hq aA bX a5;go_enter Tryz.func122,Tryz.ntmps122
 go_upto_region 0 with (fail)
 go_cut [] (fun wx=>wx=(w.setCell ⟨jb,1,none⟩ (FR FS (max q 0))).drew)
 case first =>
  go_region_law (first|(go_simp;go_at_call 48;refine (a7.out _ (FK [] w).drew).mono ?_;rintro e w6 ⟨rfl,rfl⟩))
  all_goals
   go_wp2;go_meet;exact rfl
 subst hcut;clear c0 z0 lb lg hn hc bc k0 k1 k2 a8 lj f1 f2 a7;have a3:aa [jb] w ((w.setCell ⟨jb,1,none⟩ (FR FS (max q 0))).drew):=((FK _ _).setCell (.inl (by simp)) _).drew;have hj':aV ((w.setCell ⟨jb,1,none⟩ (FR FS (max q 0))).drew) w0.heap.size jb ⟨O,max q 0,outs,ins,cols,op,left,right,D⟩ v2 v3 v4:=J.out.box a3 ((J.out.blk.set 1 (FR FS (max q 0))).congr (by rfl)) rfl rfl rfl;have hp':=N.out.box J.out a3;have hk':=U.out.box bv.out a3;have hm:max q 0=6:=by rw[←HQ.out,db,b0.out];rfl
 rw[hm] at hj' hp' hk' ⊢;clear hm a3 J N U;obtain ⟨y0,hy⟩:∃ x,(w.setCell ⟨jb,1,none⟩ (FR FS 6)).drew=x:=⟨_,rfl⟩
 rw[hy] at hj' hp' hk' ⊢;have J:=Fx hj';have N:=Fx hp';have U:=Fx hk';have a1:y0.cell? ⟨jb,1,none⟩=some (FR FS 6):=hj'.blk.cell 1;have lj:=hj'.blk.lt;obtain ⟨g,o,c,c0,z0,lb,lg,-,hn,hc,bc,k0,k1,k2,-⟩:=hp'.open';have a8:(0:Int)<(l.length:Int):=by omega
 clear hy hj' hp' hk' hn hc bc HQ;rw[bl.out] at k0;have wd:=(HE.out.one br U.out).env.words 6 (by decide);have b5:y0.cell? ⟨4,6,none⟩=some (FM (bs [100,105,115,116,105,110,99,116])):=wd;have ca:=FC _ _ b5;clear wd;go_wp2_with fail
 refine (aT (s:=[100,105,115,116,105,110,99,116]) (r:=l.tail) (by unfold aR;rw[if_pos b1.out]) y0 N.out).mono ?_;rintro ev y1 ⟨rfl,hp,hk⟩;have HJ':=Fx (J.out.ps N.out hk);have HK':=Fx (U.out.trans hk);clear N J U c0 z0 lb lg k0 k1 k2 a8 a1 lj b5 ca;have N:=Fx hp;have J:=HJ';have U:=HK';clear hp hk HJ' HK';have HR:=bq;clear bq;have a4:Hid (l.tail.length≤l.length):=Fx (by rw[List.length_tail];omega);obtain ⟨r0,be⟩:∃ r0,l.tail=r0:=⟨_,rfl⟩
 rw[be] at N HR a4;clear be b1 bl b0;have a1:y1.cell? ⟨jb,1,none⟩=some (FR FS 6):=J.out.blk.cell 1;have b3:=J.out.blk.lt;go_upto_region 13 with (fail)
 obtain ⟨A2,c2,hv,-⟩:=ar J.out.o3;subst hv;have fS:y1.cell? ⟨jb,3,none⟩=some (FN A2 (ins).length c2)∧y1.frozen? ⟨jb,3,none⟩=false:=⟨J.out.blk.cell 3,J.out.blk.frozen 3⟩;have lj:=J.out.blk.lt;have ad:=Fx (show (ins).length+1≤maxLen∧((ins).length+1)*16≤140737488355328 by have:=a0.out;simp only[maxLen];first|omega|(simp only[Fz,FG,List.length_nil];omega));have a9:Hid (jb∉[b]):=Fx (by have:=J.out.blk.ty.ne N.out.ty (by decide);simpa using this);rcases hS:aQ r0 with x|⟨a2,r2⟩
 ·have hr:=HR.out
  rw[hS,aw] at hr;have HX:=Fx hr.symm;have HC:Hid (∀ W,aa [] y1 W→Calls Tryz.prog 80 #[FO (some ⟨b,0,none⟩)] W fun e w'=>bW x e w'∧aa [b] W w'):=Fx (fun W z=>bR hS W (N.out.keep z));clear hr hS;go_wp2_with fail
  go_region_law (first|(refine step_append_lies _ (by rfl) _ _ _ (by rfl) w0.heap.size 9 i0 _ 1 16 Tryz.underlying44 hi bk bz bj rfl (by decide) (FN A2 (ins).length c2) (ins).length (strs (ins)) (by rfl) ((J.out.ps N.out I.undrew).o3.alloc _) ⟨w6.heap.size,0,none⟩ 1 1 [FM (bs [])] (by rfl) rfl (FI (heap_alloc_new _ _)) (by simp[Value.oneCell']) (by decide) ad.out.1 ad.out.2 (by have:=U.out.size;have:=I.size;have h9:y1.drew.heap.size=y1.heap.size:=rfl;simp;omega) _ rfl ?_;intro gw cap w7 Z M a6 bm;obtain ⟨b8,b9⟩:=aE M (aD ⟨av,bb⟩ _) (fun e=>(aK (J.out.ps N.out I.undrew).o3 jb e).ne (J.out.ps N.out I.undrew).blk.ty (by decide) rfl))|(go_simp;go_at_call 80;refine (HC.out _ (FK [] y1).drew).mono ?_;rintro e w6 ⟨⟨gi,rfl,hb⟩,I⟩;obtain ⟨av,bb⟩:=aI I fS a9.out;have b7:jb<w6.heap.size:=FC w6 ⟨jb,3,none⟩ av;dsimp only;(go_loud (refine cT ‹∀ (a:Act) (w:World),wpAny _ _ _ _ _ _ a w→_› (some 88) (FM (bs [])) ⟨rfl,by rw[HX.out];exact ⟨gi,rfl,hb⟩,U.out.trans I.undrew⟩ (fun hF=>?_)))))
  all_goals exact hF.out.elim
 have hr:=HR.out;rw[hS,aq] at hr;try dsimp only at hr
 clear HR;have HR:=Fx hr;clear hr;have HC:Hid (∀ W,aa [] y1 W→Calls Tryz.prog 80 #[FO (some ⟨b,0,none⟩)] W fun e w'=>e=FP (FM (bs a2))∧Ps w' b r2∧aa [b] W w'):=Fx (fun W z=>bi hS W (N.out.keep z));have b6:Hid (r2.length≤l.length):=Fx (by have:=a4.out;have:=az hS;omega);clear a4;have a4:=b6;clear b6;clear hS;go_cut [] (fun wx=>∃ b4,aV wx w0.heap.size jb (⟨O,6,outs,ins++[a2],cols,op,left,right,D⟩:Jb) v2 b4 v4∧Ps wx b r2∧aa [b] w0 wx)
 case first =>
  go_region_law (first|(refine step_append_lies _ (by rfl) _ _ _ (by rfl) w0.heap.size 9 i0 _ 1 16 Tryz.underlying44 hi bk bz bj rfl (by decide) (FN A2 (ins).length c2) (ins).length (strs (ins)) (by rfl) ((J.out.ps N.out I.undrew).o3.alloc _) ⟨w6.heap.size,0,none⟩ 1 1 [FM (bs a2)] (by rfl) rfl (FI (heap_alloc_new _ _)) (by simp[Value.oneCell']) (by decide) ad.out.1 ad.out.2 (by have:=U.out.size;have:=I.size;have h9:y1.drew.heap.size=y1.heap.size:=rfl;simp;omega) _ rfl ?_;intro gw cap w7 Z M a6 bm;obtain ⟨b8,b9⟩:=aE M (aD ⟨av,bb⟩ _) (fun e=>(aK (J.out.ps N.out I.undrew).o3 jb e).ne (J.out.ps N.out I.undrew).blk.ty (by decide) rfl))|(go_simp;go_at_call 80;refine (HC.out _ (FK [] y1).drew).mono ?_;rintro e w6 ⟨rfl,ce,I⟩;obtain ⟨av,bb⟩:=aI I fS a9.out;have b7:jb<w6.heap.size:=FC w6 ⟨jb,3,none⟩ av))
  all_goals
   go_wp2;go_meet;have hh:=aV.app3 (J.out.ps N.out I.undrew) ce (U.out.trans I.undrew) rfl bv.out M rfl Z a6 (by simp);exact ⟨_,hh.1,hh.2.1,hh.2.2⟩
 obtain ⟨b4,hj,hp,hk⟩:=hcut;obtain ⟨y2,rfl⟩:∃ y:World,y=wc:=⟨_,rfl⟩
 clear N J U HC fS lj ad a9;have N:=Fx hp;have J:=Fx hj;have U:=Fx hk;have ba:Hid ((ins++[a2]).length≤999000+2):=Fx (by have:=a0.out;simp only[Fz,FG,List.length_nil];omega);clear hp hj hk a0;generalize ins++[a2]=il2 at J HR ba;have a0:=ba;clear ba;clear a1 b3;have a1:y2.cell? ⟨jb,1,none⟩=some (FR FS 6):=J.out.blk.cell 1;have b3:=J.out.blk.lt;have hr:=HR.out;clear HR;have HR:Hid ((.ok ((⟨O,6,outs,il2,cols,op,left,right,D⟩:Jb),r2):Except (Int×Int) (Jb×List Tk))=R):=Fx hr;clear hr;have HX:=Fx HR.out.symm;clear HR;go_wp2;first|go_end0|refine bodyPost_ret (results_none rfl _ _ _) rfl ?_
 exact ⟨by rw[HX.out];exact ⟨rfl,⟨_,_,_,J.out⟩,N.out⟩,U.out⟩
theorem px (b:UInt8) (w:World):Calls Tryz.prog 114 #[.int .u8 (b.toNat:Int)] w fun e w'=>e=FP (.bool (jS b))∧w=w':=by
 obtain ⟨R,h⟩:∃ R,jS b=R:=⟨_,rfl⟩
 rw[h];have I:Hid (R=(decide (97≤b.toNat)&&decide (b.toNat≤122))):=Fx h.symm;clear h;by_cases D:97≤b.toNat
 ·have M:(97:Int)≤(b.toNat:Int):=by omega
  by_cases J:b.toNat≤122
  ·have N:(b.toNat:Int)≤(122:Int):=by omega
   go_enter Tryz.func114,Tryz.ntmps114
   go_wp2;go_ret;exact ⟨by rw[I.out,decide_eq_true D,decide_eq_true J];rfl,rfl⟩
  have N:¬(b.toNat:Int)≤(122:Int):=by omega
  go_enter Tryz.func114,Tryz.ntmps114
  go_wp2;go_ret;exact ⟨by rw[I.out,decide_eq_true D,decide_eq_false J];rfl,rfl⟩
 have M:¬(97:Int)≤(b.toNat:Int):=by omega
 go_enter Tryz.func114,Tryz.ntmps114
 go_wp2;go_ret;exact ⟨by rw[I.out,decide_eq_false D];rfl,rfl⟩
theorem mj (b:UInt8) (w:World):Calls Tryz.prog 117 #[.int .u8 (b.toNat:Int)] w fun e w'=>e=FP (.bool (iY b))∧w=w':=by
 obtain ⟨R,h⟩:∃ R,iY b=R:=⟨_,rfl⟩
 rw[h];have I:Hid (R=(decide (48≤b.toNat)&&decide (b.toNat≤57))):=Fx h.symm;clear h;by_cases D:48≤b.toNat
 ·have M:(48:Int)≤(b.toNat:Int):=by omega
  by_cases J:b.toNat≤57
  ·have N:(b.toNat:Int)≤(57:Int):=by omega
   go_enter Tryz.func117,Tryz.ntmps117
   go_wp2;go_ret;exact ⟨by rw[I.out,decide_eq_true D,decide_eq_true J];rfl,rfl⟩
  have N:¬(b.toNat:Int)≤(57:Int):=by omega
  go_enter Tryz.func117,Tryz.ntmps117
  go_wp2;go_ret;exact ⟨by rw[I.out,decide_eq_true D,decide_eq_false J];rfl,rfl⟩
 have M:¬(48:Int)≤(b.toNat:Int):=by omega
 go_enter Tryz.func117,Tryz.ntmps117
 go_wp2;go_ret;exact ⟨by rw[I.out,decide_eq_false D];rfl,rfl⟩
theorem Ew (b:UInt8) (w:World):Calls Tryz.prog 116 #[.int .u8 (b.toNat:Int)] w fun e w'=>e=FP (.bool (sB b))∧w=w':=by
 obtain ⟨R,I⟩:∃ R,sB b=R:=⟨_,rfl⟩
 rw[I];have O:Hid (R=(jS b||iY b)):=Fx I.symm;have D:=Fx (px b w);have M:=Fx (mj b w);clear I
 cases h:jS b with
 | true =>
  rw[h] at D;have J:=Fx h;clear h M;go_enter Tryz.func116,Tryz.ntmps116
  go_wp2_with fail
  refine D.out.mono ?_;rintro e N ⟨rfl,rfl⟩;go_wp2;go_ret;exact ⟨by rw[O.out,J.out];rfl,rfl⟩
 | false =>
  rw[h] at D;have J:=Fx h;clear h;go_enter Tryz.func116,Tryz.ntmps116
  go_wp2_with fail
  refine D.out.mono ?_;rintro e N ⟨rfl,rfl⟩;go_wp2_with fail
  refine M.out.mono ?_;rintro e N ⟨rfl,rfl⟩;go_wp2;go_ret;exact ⟨by rw[O.out,J.out];rfl,rfl⟩
theorem rW (p:UInt8→Bool):∀ (s:Bs) (n:Nat),n≤s.length→(∀ j (_:j<n) (D:j<s.length),p s[j]=true)→(∀ (D:n<s.length),p s[n]=false)→gu p s=n
 | [],n,h,_,_=>by simp at h;rw[h];rfl
 | c::s,0,_,_,I=>by
  unfold gu;have:=I (by simp);rw[if_neg (by simpa using this)]
 | c::s,n+1,h,J,I=>by
  unfold gu;have N:=J 0 (by omega) (by simp);rw[if_pos (by simpa using N),rW p s n (by simpa using h) (fun j M D=>J (j+1) (Nat.succ_lt_succ M) (Nat.succ_lt_succ D)) (fun D=>I (Nat.succ_lt_succ D))]
theorem wO (k:Nat) (he:∀ args w,(callFunc k args).run Tryz.prog w= .ok (.enter k args) w) (p:UInt8→Bool) (s:Bs) (ad:s.length≤2000000) (w:World) (hf:∀ c:UInt8,Calls Tryz.prog k #[.int .u8 (c.toNat:Int)] w fun e W'=>e=FP (.bool (p c))∧w=W') :
  Calls Tryz.prog 115 #[FM (bs s),.func (.func k) #[] #[]] w fun e w'=>e=FP (FR FS (gu p s:Nat))∧w=w':=by
 have HF:=Fx hf;obtain ⟨R,U⟩:∃ R,gu p s=R:=⟨_,rfl⟩
 rw[U];have HR:=Fx U;clear hf U;go_enter Tryz.func115,Tryz.ntmps115
 go_wp2;go_loop [5] (fun i=>∃ n:Nat,n≤s.length∧i=FR FS n∧Hid (∀ j (_:j<n) (M:j<s.length),p s[j]=true)) (fun i=>s.length-(intOf i).toNat)
 case atStart=>exact ⟨0,FF _,rfl,Fx fun j hj=>absurd hj (by omega)⟩
 obtain ⟨n,hn,rfl,D⟩:=hrel;by_cases J:n<s.length
 ·have hi:(n:Int)<(s.length:Int):=by omega
  have N:=Fx (HF.out s[n]);have O:((bs s)[n]'(by rw[ag];exact J))=s[n]:=iQ s n _;generalize hx:s[n]=x at *;have HX:=Fx hx;clear hx
  cases I:p x with
  | true =>
   rw[I] at N;have Z:=Fx I;clear I;go_wp2_with fail
   refine N.out.mono ?_;rintro e W2 ⟨rfl,rfl⟩;go_wp2;go_round
   case rel=>exact ⟨n+1,by omega,by go_num,Fx fun j hj M=>by
    by_cases h:j<n
    ·exact D.out j h M
    obtain rfl:j=n:=by omega
    rw[HX.out];exact Z.out⟩
   case measure=>simp[intOf];omega
  | false =>
   rw[I] at N;have Z:=Fx I;clear I;go_wp2_with fail
   refine N.out.mono ?_;rintro e W2 ⟨rfl,rfl⟩;go_wp2;go_ret;exact ⟨by rw[←HR.out,rW p s n hn D.out (fun M=>by rw[HX.out];exact Z.out)];rfl,rfl⟩
 have hi:¬(n:Int)<(s.length:Int):=by omega
 go_wp2;go_ret;exact ⟨by rw[←HR.out,rW p s n hn D.out (fun M=>absurd M J)];rfl,rfl⟩
theorem Bp (c:UInt8) (t:Bs) (hs:t.length≤1000000) (w:World) (hE:jU w) :
  Calls Tryz.prog 74 #[FM (bs (c::t))] w fun e w'=>e=FP (.tuple #[FR FS (bM (c::t)).1,FR FS (bM (c::t)).2])∧w=w':=by
 obtain ⟨s,ad⟩:∃ s,c::t=s:=⟨_,rfl⟩
 have a5:0<s.length:=by rw[←ad];simp
 have a7:s.length≤1000001:=by rw[←ad];simp;omega
 have bc:(0:Int)<(s.length:Int):=by omega
 have ba:((bs s)[0]'(by rw[ag];exact a5))=c:=by rw[iQ];subst ad;rfl
 have aA:s.headD 0=c:=by rw[←ad];rfl
 have a1:s.tail=t:=by rw[←ad];rfl
 obtain ⟨R,hR⟩:∃ R,bM s=R:=⟨_,rfl⟩
 rw[ad,hR];unfold bM at hR;rw[aA,a1] at hR;have HR:=Fx hR;have HL:=Fx (px c w);have HD:=Fx (mj c w);clear hR
 cases hl:jS c with
 | true =>
  rw[hl] at HL;have HX:Hid (R=(1,(gu sB s:Nat))):=Fx (by rw[←HR.out,hl];rfl);have a0:=Fx (wO 116 (fun _ _=>rfl) sB s (by omega) w (fun c=>Ew c w));clear hl HD HR ad aA a1;go_enter Tryz.func74,Tryz.ntmps74
  go_wp2_with fail
  refine HL.out.mono ?_;rintro e Z ⟨rfl,rfl⟩;go_wp2_with fail
  refine a0.out.mono ?_;rintro e Z ⟨rfl,rfl⟩;go_wp2;go_ret2;exact ⟨by rw[HX.out];rfl,rfl⟩
 | false =>
  rw[hl] at HL
  cases hd:iY c with
  | true =>
   rw[hd] at HD;have HX:Hid (R=(2,(gu iY s:Nat))):=Fx (by rw[←HR.out,hl,hd];rfl);have a0:=Fx (wO 117 (fun _ _=>rfl) iY s (by omega) w (fun c=>mj c w));clear hl hd HR ad aA a1;go_enter Tryz.func74,Tryz.ntmps74
   go_wp2_with fail
   refine HL.out.mono ?_;rintro e Z ⟨rfl,rfl⟩;go_wp2_with fail
   refine HD.out.mono ?_;rintro e Z ⟨rfl,rfl⟩;go_wp2_with fail
   refine a0.out.mono ?_;rintro e Z ⟨rfl,rfl⟩;go_wp2;go_ret2;exact ⟨by rw[HX.out];rfl,rfl⟩
  | false =>
   rw[hd] at HD;have a3:Hid ((if c=39 then ((3:Int),if Lib.indexByte t 39<0 then 0 else (Lib.indexByte t 39).toNat+2) else (4,bT s aJ))=R):=Fx (by rw[←HR.out,hl,hd];rfl);have a2:c=39↔(c.toNat:Int)=39:=⟨fun h=>by rw[h];rfl,fun h=>UInt8.toNat_inj.1 (by have:(39:UInt8).toNat=39:=rfl;omega)⟩;by_cases av:c=39
   ·have t1:((c.toNat:Int)==39)=true:=by rw[beq_iff_eq];exact a2.1 av
    obtain ⟨k,hk⟩:∃ k,Lib.indexByte t 39=k:=⟨_,rfl⟩
    have HX:Hid (R=(3,if k<0 then 0 else k.toNat+2)):=Fx (by rw[←a3.out,if_pos av,hk]);have bj:(bs s).extract 1 s.length=bs t:=by rw[ab,List.take_of_length_le (Fy _),←ad];rfl
    have HI:Hid (Calls Tryz.prog 67 #[FM (bs t),.int .u8 39] w fun e W'=>e=FP (FR FS k)∧w=W'):=Fx ((Tryz.strings_IndexByte (bs t) 39 w).mono fun e W' ⟨h1,h2⟩=>⟨by rw[h1];exact congrArg (fun x=>Ending.returned (FR FS x)) hk,h2.symm⟩);have be:k≤1000000:=by
     by_cases hn:k<0
     ·omega
     have h1:=(Lib.indexByte_some (l:=t) (c:=39) (o:=k.toNat) (by rw[hk];omega)).1;have:=(List.getElem?_eq_some_iff.1 h1).1;omega
    clear hl hd HR ad aA a1 a3 a2 av;by_cases a4:k<0
    ·have a8:¬(0:Int)≤k:=by omega
     go_enter Tryz.func74,Tryz.ntmps74
     go_wp2_with fail
     refine HL.out.mono ?_;rintro e Z ⟨rfl,rfl⟩;go_wp2_with fail
     refine HD.out.mono ?_;rintro e Z ⟨rfl,rfl⟩;go_wp2_with fail
     refine HI.out.mono ?_;rintro e Z ⟨rfl,rfl⟩;go_wp2;go_ret2;exact ⟨by rw[HX.out,if_pos a4];rfl,rfl⟩
    have a8:(0:Int)≤k:=by omega
    go_enter Tryz.func74,Tryz.ntmps74
    go_wp2_with fail
    refine HL.out.mono ?_;rintro e Z ⟨rfl,rfl⟩;go_wp2_with fail
    refine HD.out.mono ?_;rintro e Z ⟨rfl,rfl⟩;go_wp2_with fail
    refine HI.out.mono ?_;rintro e Z ⟨rfl,rfl⟩;go_wp2;go_ret2;exact ⟨by rw[HX.out,if_neg (by omega:¬k<0)];exact congrArg (fun x=>Ending.returned (.tuple #[FR FS 3,FR FS x])) (by show k+2=((k.toNat+2:Nat):Int);omega),rfl⟩
   have t1:((c.toNat:Int)==39)=false:=by rw[beq_eq_false_iff_ne];exact fun h=>av (a2.2 h)
   have HX:Hid (R=(4,bT s aJ)):=Fx (by rw[←a3.out,if_neg av]);have HP:Hid (∀ m:Bs,Calls Tryz.prog 118 #[FM (bs s),FM (bs m)] w fun e W'=>e=FP (.bool (Lib.hasPrefix s m))∧w=W'):=Fx fun m=>(Tryz.strings_HasPrefix (bs s) (bs m) w).mono fun e W' ⟨h1,h2⟩=>⟨h1,h2.symm⟩
   have m0:w.cell? ⟨3,0,none⟩=some (FM (bs [60,62])):=hE.marks 0 (by decide);have m1:w.cell? ⟨3,1,none⟩=some (FM (bs [60,61])):=hE.marks 1 (by decide);have m2:w.cell? ⟨3,2,none⟩=some (FM (bs [62,61])):=hE.marks 2 (by decide);have m3:w.cell? ⟨3,3,none⟩=some (FM (bs [60])):=hE.marks 3 (by decide);have m4:w.cell? ⟨3,4,none⟩=some (FM (bs [62])):=hE.marks 4 (by decide);have m5:w.cell? ⟨3,5,none⟩=some (FM (bs [61])):=hE.marks 5 (by decide);have m6:w.cell? ⟨3,6,none⟩=some (FM (bs [43])):=hE.marks 6 (by decide);have m7:w.cell? ⟨3,7,none⟩=some (FM (bs [45])):=hE.marks 7 (by decide);have m8:w.cell? ⟨3,8,none⟩=some (FM (bs [42])):=hE.marks 8 (by decide);have m9:w.cell? ⟨3,9,none⟩=some (FM (bs [44])):=hE.marks 9 (by decide);have bb:w.cell? ⟨3,10,none⟩=some (FM (bs [59])):=hE.marks 10 (by decide);have a6:w.cell? ⟨3,11,none⟩=some (FM (bs [58])):=hE.marks 11 (by decide);have a9:w.cell? ⟨3,12,none⟩=some (FM (bs [46])):=hE.marks 12 (by decide);have lm:=FC _ _ m0;clear hl hd HR ad aA a1 a3 a2 av hE;go_enter Tryz.func74,Tryz.ntmps74
   go_wp2_with fail
   refine HL.out.mono ?_;rintro e Z ⟨rfl,rfl⟩;go_wp2_with fail
   refine HD.out.mono ?_;rintro e Z ⟨rfl,rfl⟩;go_wp2;go_loop [31] (fun i=>∃ n:Nat,n≤13∧i=FR FS n∧Hid (bT s aJ=bT s (aJ.drop n))) (fun i=>13-(intOf i).toNat)
   case atStart=>exact ⟨0,FF _,rfl,Fx rfl⟩
   clear m0 m1 m2 m3 m4 m5 m6 m7 m8 m9 bb a6 a9 lm;obtain ⟨n,hn,rfl,M⟩:=hrel;obtain h13|h13:n=13∨n<13:=by omega
   ·subst h13
    go_wp2;go_ret2;exact ⟨by rw[HX.out,M.out];rfl,rfl⟩
   have N:∀ j (h:j<aJ.length),bT s (aJ.drop j)=if Lib.hasPrefix s aJ[j] then aJ[j].length else bT s (aJ.drop (j+1)):=fun j h=>by
    rw[List.drop_eq_getElem_cons h];rfl
   obtain rfl|rfl|rfl|rfl|rfl|rfl|rfl|rfl|rfl|rfl|rfl|rfl|rfl:n=0∨n=1∨n=2∨n=3∨n=4∨n=5∨n=6∨n=7∨n=8∨n=9∨n=10∨n=11∨n=12:=by omega
   ·have J:=Fx (HP.out [60,62])
    have ix:∀ w,(Instr.index 195 (.agg #[FM (bs [60,62]),FM (bs [60,61]),FM (bs [62,61]),FM (bs [60]),FM (bs [62]),FM (bs [61]),FM (bs [43]),FM (bs [45]),FM (bs [42]),FM (bs [44]),FM (bs [59]),FM (bs [58]),FM (bs [46])]) (FR FS 0)).run Tryz.prog w= .ok (FM (bs [60,62])) w:=fun _=>by kernel_rfl
    have D:=N 0 (by decide);rw[←M.out] at D;have U:=Fx D;clear N D M
    cases I:Lib.hasPrefix s [60,62] with
    | true =>
     rw[I] at J;have O:Hid (R=(4,2)):=Fx (by rw[HX.out,U.out];exact congrArg (Prod.mk 4) (if_pos I));clear I;go_wp2_with fail
     refine J.out.mono ?_;rintro e Z ⟨rfl,rfl⟩;go_wp2;go_ret2;exact ⟨by rw[O.out];rfl,rfl⟩
    | false =>
     rw[I] at J;have O:Hid (bT s aJ=bT s (aJ.drop 1)):=Fx (U.out.trans (if_neg (by rw[show aJ[0]=[60,62] from rfl,I];decide)));clear I;go_wp2_with fail
     refine J.out.mono ?_;rintro e Z ⟨rfl,rfl⟩;go_wp2;go_round
     case rel=>exact ⟨1,by omega,by go_num,O⟩
     case measure=>simp[intOf]
   ·have J:=Fx (HP.out [60,61])
    have ix:∀ w,(Instr.index 195 (.agg #[FM (bs [60,62]),FM (bs [60,61]),FM (bs [62,61]),FM (bs [60]),FM (bs [62]),FM (bs [61]),FM (bs [43]),FM (bs [45]),FM (bs [42]),FM (bs [44]),FM (bs [59]),FM (bs [58]),FM (bs [46])]) (FR FS 1)).run Tryz.prog w= .ok (FM (bs [60,61])) w:=fun _=>by kernel_rfl
    have D:=N 1 (by decide);rw[←M.out] at D;have U:=Fx D;clear N D M
    cases I:Lib.hasPrefix s [60,61] with
    | true =>
     rw[I] at J;have O:Hid (R=(4,2)):=Fx (by rw[HX.out,U.out];exact congrArg (Prod.mk 4) (if_pos I));clear I;go_wp2_with fail
     refine J.out.mono ?_;rintro e Z ⟨rfl,rfl⟩;go_wp2;go_ret2;exact ⟨by rw[O.out];rfl,rfl⟩
    | false =>
     rw[I] at J;have O:Hid (bT s aJ=bT s (aJ.drop 2)):=Fx (U.out.trans (if_neg (by rw[show aJ[1]=[60,61] from rfl,I];decide)));clear I;go_wp2_with fail
     refine J.out.mono ?_;rintro e Z ⟨rfl,rfl⟩;go_wp2;go_round
     case rel=>exact ⟨2,by omega,by go_num,O⟩
     case measure=>simp[intOf]
   ·have J:=Fx (HP.out [62,61])
    have ix:∀ w,(Instr.index 195 (.agg #[FM (bs [60,62]),FM (bs [60,61]),FM (bs [62,61]),FM (bs [60]),FM (bs [62]),FM (bs [61]),FM (bs [43]),FM (bs [45]),FM (bs [42]),FM (bs [44]),FM (bs [59]),FM (bs [58]),FM (bs [46])]) (FR FS 2)).run Tryz.prog w= .ok (FM (bs [62,61])) w:=fun _=>by kernel_rfl
    have D:=N 2 (by decide);rw[←M.out] at D;have U:=Fx D;clear N D M
    cases I:Lib.hasPrefix s [62,61] with
    | true =>
     rw[I] at J;have O:Hid (R=(4,2)):=Fx (by rw[HX.out,U.out];exact congrArg (Prod.mk 4) (if_pos I));clear I;go_wp2_with fail
     refine J.out.mono ?_;rintro e Z ⟨rfl,rfl⟩;go_wp2;go_ret2;exact ⟨by rw[O.out];rfl,rfl⟩
    | false =>
     rw[I] at J;have O:Hid (bT s aJ=bT s (aJ.drop 3)):=Fx (U.out.trans (if_neg (by rw[show aJ[2]=[62,61] from rfl,I];decide)));clear I;go_wp2_with fail
     refine J.out.mono ?_;rintro e Z ⟨rfl,rfl⟩;go_wp2;go_round
     case rel=>exact ⟨3,by omega,by go_num,O⟩
     case measure=>simp[intOf]
   ·have J:=Fx (HP.out [60])
    have ix:∀ w,(Instr.index 195 (.agg #[FM (bs [60,62]),FM (bs [60,61]),FM (bs [62,61]),FM (bs [60]),FM (bs [62]),FM (bs [61]),FM (bs [43]),FM (bs [45]),FM (bs [42]),FM (bs [44]),FM (bs [59]),FM (bs [58]),FM (bs [46])]) (FR FS 3)).run Tryz.prog w= .ok (FM (bs [60])) w:=fun _=>by kernel_rfl
    have D:=N 3 (by decide);rw[←M.out] at D;have U:=Fx D;clear N D M
    cases I:Lib.hasPrefix s [60] with
    | true =>
     rw[I] at J;have O:Hid (R=(4,1)):=Fx (by rw[HX.out,U.out];exact congrArg (Prod.mk 4) (if_pos I));clear I;go_wp2_with fail
     refine J.out.mono ?_;rintro e Z ⟨rfl,rfl⟩;go_wp2;go_ret2;exact ⟨by rw[O.out];rfl,rfl⟩
    | false =>
     rw[I] at J;have O:Hid (bT s aJ=bT s (aJ.drop 4)):=Fx (U.out.trans (if_neg (by rw[show aJ[3]=[60] from rfl,I];decide)));clear I;go_wp2_with fail
     refine J.out.mono ?_;rintro e Z ⟨rfl,rfl⟩;go_wp2;go_round
     case rel=>exact ⟨4,by omega,by go_num,O⟩
     case measure=>simp[intOf]
   ·have J:=Fx (HP.out [62])
    have ix:∀ w,(Instr.index 195 (.agg #[FM (bs [60,62]),FM (bs [60,61]),FM (bs [62,61]),FM (bs [60]),FM (bs [62]),FM (bs [61]),FM (bs [43]),FM (bs [45]),FM (bs [42]),FM (bs [44]),FM (bs [59]),FM (bs [58]),FM (bs [46])]) (FR FS 4)).run Tryz.prog w= .ok (FM (bs [62])) w:=fun _=>by kernel_rfl
    have D:=N 4 (by decide);rw[←M.out] at D;have U:=Fx D;clear N D M
    cases I:Lib.hasPrefix s [62] with
    | true =>
     rw[I] at J;have O:Hid (R=(4,1)):=Fx (by rw[HX.out,U.out];exact congrArg (Prod.mk 4) (if_pos I));clear I;go_wp2_with fail
     refine J.out.mono ?_;rintro e Z ⟨rfl,rfl⟩;go_wp2;go_ret2;exact ⟨by rw[O.out];rfl,rfl⟩
    | false =>
     rw[I] at J;have O:Hid (bT s aJ=bT s (aJ.drop 5)):=Fx (U.out.trans (if_neg (by rw[show aJ[4]=[62] from rfl,I];decide)));clear I;go_wp2_with fail
     refine J.out.mono ?_;rintro e Z ⟨rfl,rfl⟩;go_wp2;go_round
     case rel=>exact ⟨5,by omega,by go_num,O⟩
     case measure=>simp[intOf]
   ·have J:=Fx (HP.out [61])
    have ix:∀ w,(Instr.index 195 (.agg #[FM (bs [60,62]),FM (bs [60,61]),FM (bs [62,61]),FM (bs [60]),FM (bs [62]),FM (bs [61]),FM (bs [43]),FM (bs [45]),FM (bs [42]),FM (bs [44]),FM (bs [59]),FM (bs [58]),FM (bs [46])]) (FR FS 5)).run Tryz.prog w= .ok (FM (bs [61])) w:=fun _=>by kernel_rfl
    have D:=N 5 (by decide);rw[←M.out] at D;have U:=Fx D;clear N D M
    cases I:Lib.hasPrefix s [61] with
    | true =>
     rw[I] at J;have O:Hid (R=(4,1)):=Fx (by rw[HX.out,U.out];exact congrArg (Prod.mk 4) (if_pos I));clear I;go_wp2_with fail
     refine J.out.mono ?_;rintro e Z ⟨rfl,rfl⟩;go_wp2;go_ret2;exact ⟨by rw[O.out];rfl,rfl⟩
    | false =>
     rw[I] at J;have O:Hid (bT s aJ=bT s (aJ.drop 6)):=Fx (U.out.trans (if_neg (by rw[show aJ[5]=[61] from rfl,I];decide)));clear I;go_wp2_with fail
     refine J.out.mono ?_;rintro e Z ⟨rfl,rfl⟩;go_wp2;go_round
     case rel=>exact ⟨6,by omega,by go_num,O⟩
     case measure=>simp[intOf]
   ·have J:=Fx (HP.out [43])
    have ix:∀ w,(Instr.index 195 (.agg #[FM (bs [60,62]),FM (bs [60,61]),FM (bs [62,61]),FM (bs [60]),FM (bs [62]),FM (bs [61]),FM (bs [43]),FM (bs [45]),FM (bs [42]),FM (bs [44]),FM (bs [59]),FM (bs [58]),FM (bs [46])]) (FR FS 6)).run Tryz.prog w= .ok (FM (bs [43])) w:=fun _=>by kernel_rfl
    have D:=N 6 (by decide);rw[←M.out] at D;have U:=Fx D;clear N D M
    cases I:Lib.hasPrefix s [43] with
    | true =>
     rw[I] at J;have O:Hid (R=(4,1)):=Fx (by rw[HX.out,U.out];exact congrArg (Prod.mk 4) (if_pos I));clear I;go_wp2_with fail
     refine J.out.mono ?_;rintro e Z ⟨rfl,rfl⟩;go_wp2;go_ret2;exact ⟨by rw[O.out];rfl,rfl⟩
    | false =>
     rw[I] at J;have O:Hid (bT s aJ=bT s (aJ.drop 7)):=Fx (U.out.trans (if_neg (by rw[show aJ[6]=[43] from rfl,I];decide)));clear I;go_wp2_with fail
     refine J.out.mono ?_;rintro e Z ⟨rfl,rfl⟩;go_wp2;go_round
     case rel=>exact ⟨7,by omega,by go_num,O⟩
     case measure=>simp[intOf]
   ·have J:=Fx (HP.out [45])
    have ix:∀ w,(Instr.index 195 (.agg #[FM (bs [60,62]),FM (bs [60,61]),FM (bs [62,61]),FM (bs [60]),FM (bs [62]),FM (bs [61]),FM (bs [43]),FM (bs [45]),FM (bs [42]),FM (bs [44]),FM (bs [59]),FM (bs [58]),FM (bs [46])]) (FR FS 7)).run Tryz.prog w= .ok (FM (bs [45])) w:=fun _=>by kernel_rfl
    have D:=N 7 (by decide);rw[←M.out] at D;have U:=Fx D;clear N D M
    cases I:Lib.hasPrefix s [45] with
    | true =>
     rw[I] at J;have O:Hid (R=(4,1)):=Fx (by rw[HX.out,U.out];exact congrArg (Prod.mk 4) (if_pos I));clear I;go_wp2_with fail
     refine J.out.mono ?_;rintro e Z ⟨rfl,rfl⟩;go_wp2;go_ret2;exact ⟨by rw[O.out];rfl,rfl⟩
    | false =>
     rw[I] at J;have O:Hid (bT s aJ=bT s (aJ.drop 8)):=Fx (U.out.trans (if_neg (by rw[show aJ[7]=[45] from rfl,I];decide)));clear I;go_wp2_with fail
     refine J.out.mono ?_;rintro e Z ⟨rfl,rfl⟩;go_wp2;go_round
     case rel=>exact ⟨8,by omega,by go_num,O⟩
     case measure=>simp[intOf]
   ·have J:=Fx (HP.out [42])
    have ix:∀ w,(Instr.index 195 (.agg #[FM (bs [60,62]),FM (bs [60,61]),FM (bs [62,61]),FM (bs [60]),FM (bs [62]),FM (bs [61]),FM (bs [43]),FM (bs [45]),FM (bs [42]),FM (bs [44]),FM (bs [59]),FM (bs [58]),FM (bs [46])]) (FR FS 8)).run Tryz.prog w= .ok (FM (bs [42])) w:=fun _=>by kernel_rfl
    have D:=N 8 (by decide);rw[←M.out] at D;have U:=Fx D;clear N D M
    cases I:Lib.hasPrefix s [42] with
    | true =>
     rw[I] at J;have O:Hid (R=(4,1)):=Fx (by rw[HX.out,U.out];exact congrArg (Prod.mk 4) (if_pos I));clear I;go_wp2_with fail
     refine J.out.mono ?_;rintro e Z ⟨rfl,rfl⟩;go_wp2;go_ret2;exact ⟨by rw[O.out];rfl,rfl⟩
    | false =>
     rw[I] at J;have O:Hid (bT s aJ=bT s (aJ.drop 9)):=Fx (U.out.trans (if_neg (by rw[show aJ[8]=[42] from rfl,I];decide)));clear I;go_wp2_with fail
     refine J.out.mono ?_;rintro e Z ⟨rfl,rfl⟩;go_wp2;go_round
     case rel=>exact ⟨9,by omega,by go_num,O⟩
     case measure=>simp[intOf]
   ·have J:=Fx (HP.out [44])
    have ix:∀ w,(Instr.index 195 (.agg #[FM (bs [60,62]),FM (bs [60,61]),FM (bs [62,61]),FM (bs [60]),FM (bs [62]),FM (bs [61]),FM (bs [43]),FM (bs [45]),FM (bs [42]),FM (bs [44]),FM (bs [59]),FM (bs [58]),FM (bs [46])]) (FR FS 9)).run Tryz.prog w= .ok (FM (bs [44])) w:=fun _=>by kernel_rfl
    have D:=N 9 (by decide);rw[←M.out] at D;have U:=Fx D;clear N D M
    cases I:Lib.hasPrefix s [44] with
    | true =>
     rw[I] at J;have O:Hid (R=(4,1)):=Fx (by rw[HX.out,U.out];exact congrArg (Prod.mk 4) (if_pos I));clear I;go_wp2_with fail
     refine J.out.mono ?_;rintro e Z ⟨rfl,rfl⟩;go_wp2;go_ret2;exact ⟨by rw[O.out];rfl,rfl⟩
    | false =>
     rw[I] at J;have O:Hid (bT s aJ=bT s (aJ.drop 10)):=Fx (U.out.trans (if_neg (by rw[show aJ[9]=[44] from rfl,I];decide)));clear I;go_wp2_with fail
     refine J.out.mono ?_;rintro e Z ⟨rfl,rfl⟩;go_wp2;go_round
     case rel=>exact ⟨10,by omega,by go_num,O⟩
     case measure=>simp[intOf]
   ·have J:=Fx (HP.out [59])
    have ix:∀ w,(Instr.index 195 (.agg #[FM (bs [60,62]),FM (bs [60,61]),FM (bs [62,61]),FM (bs [60]),FM (bs [62]),FM (bs [61]),FM (bs [43]),FM (bs [45]),FM (bs [42]),FM (bs [44]),FM (bs [59]),FM (bs [58]),FM (bs [46])]) (FR FS 10)).run Tryz.prog w= .ok (FM (bs [59])) w:=fun _=>by kernel_rfl
    have D:=N 10 (by decide);rw[←M.out] at D;have U:=Fx D;clear N D M
    cases I:Lib.hasPrefix s [59] with
    | true =>
     rw[I] at J;have O:Hid (R=(4,1)):=Fx (by rw[HX.out,U.out];exact congrArg (Prod.mk 4) (if_pos I));clear I;go_wp2_with fail
     refine J.out.mono ?_;rintro e Z ⟨rfl,rfl⟩;go_wp2;go_ret2;exact ⟨by rw[O.out];rfl,rfl⟩
    | false =>
     rw[I] at J;have O:Hid (bT s aJ=bT s (aJ.drop 11)):=Fx (U.out.trans (if_neg (by rw[show aJ[10]=[59] from rfl,I];decide)));clear I;go_wp2_with fail
     refine J.out.mono ?_;rintro e Z ⟨rfl,rfl⟩;go_wp2;go_round
     case rel=>exact ⟨11,by omega,by go_num,O⟩
     case measure=>simp[intOf]
   ·have J:=Fx (HP.out [58])
    have ix:∀ w,(Instr.index 195 (.agg #[FM (bs [60,62]),FM (bs [60,61]),FM (bs [62,61]),FM (bs [60]),FM (bs [62]),FM (bs [61]),FM (bs [43]),FM (bs [45]),FM (bs [42]),FM (bs [44]),FM (bs [59]),FM (bs [58]),FM (bs [46])]) (FR FS 11)).run Tryz.prog w= .ok (FM (bs [58])) w:=fun _=>by kernel_rfl
    have D:=N 11 (by decide);rw[←M.out] at D;have U:=Fx D;clear N D M
    cases I:Lib.hasPrefix s [58] with
    | true =>
     rw[I] at J;have O:Hid (R=(4,1)):=Fx (by rw[HX.out,U.out];exact congrArg (Prod.mk 4) (if_pos I));clear I;go_wp2_with fail
     refine J.out.mono ?_;rintro e Z ⟨rfl,rfl⟩;go_wp2;go_ret2;exact ⟨by rw[O.out];rfl,rfl⟩
    | false =>
     rw[I] at J;have O:Hid (bT s aJ=bT s (aJ.drop 12)):=Fx (U.out.trans (if_neg (by rw[show aJ[11]=[58] from rfl,I];decide)));clear I;go_wp2_with fail
     refine J.out.mono ?_;rintro e Z ⟨rfl,rfl⟩;go_wp2;go_round
     case rel=>exact ⟨12,by omega,by go_num,O⟩
     case measure=>simp[intOf]
   have J:=Fx (HP.out [46]);have ix:∀ w,(Instr.index 195 (.agg #[FM (bs [60,62]),FM (bs [60,61]),FM (bs [62,61]),FM (bs [60]),FM (bs [62]),FM (bs [61]),FM (bs [43]),FM (bs [45]),FM (bs [42]),FM (bs [44]),FM (bs [59]),FM (bs [58]),FM (bs [46])]) (FR FS 12)).run Tryz.prog w= .ok (FM (bs [46])) w:=fun _=>by kernel_rfl
   have D:=N 12 (by decide);rw[←M.out] at D;have U:=Fx D;clear N D M
   cases I:Lib.hasPrefix s [46] with
   | true =>
    rw[I] at J;have O:Hid (R=(4,1)):=Fx (by rw[HX.out,U.out];exact congrArg (Prod.mk 4) (if_pos I));clear I;go_wp2_with fail
    refine J.out.mono ?_;rintro e Z ⟨rfl,rfl⟩;go_wp2;go_ret2;exact ⟨by rw[O.out];rfl,rfl⟩
   | false =>
    rw[I] at J;have O:Hid (bT s aJ=bT s (aJ.drop 13)):=Fx (U.out.trans (if_neg (by rw[show aJ[12]=[46] from rfl,I];decide)));clear I;go_wp2_with fail
    refine J.out.mono ?_;rintro e Z ⟨rfl,rfl⟩;go_wp2;go_round
    case rel=>exact ⟨13,by omega,by go_num,O⟩
    case measure=>simp[intOf]
end
end Go.Proofs.YtecpeogejjibaaaGreatDoor
