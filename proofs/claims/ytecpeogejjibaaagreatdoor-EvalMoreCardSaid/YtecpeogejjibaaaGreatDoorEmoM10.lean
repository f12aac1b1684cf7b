/- The parser's body at its codes. What the cutter's tokens are like: plain. What a flow that was read is like: plain. Plans: the plain laws. With its jobs in another order a flow has the same columns, and an order; with one job more, too. No program in sight. Plans: names, and the columns that a flow's tables have: they are one, whatever order the jobs stand in. No program in sight. Plans: the columns of a flow's tables are one answer, whatever order the jobs stand in, and whatever jobs there are besides. No program in sight. Plans: with its jobs in another order, and with one job more: plain. No program in sight. (but holds) ops: find, holds, kind, Sizes, arg. ops: Sizes. ops: jobs in memory, what Cols hands back, Contains, set. slices.Repeat of one slice, once or twice. ops: compared. ops.grouped, whole. ops: picked. ops.Cols, of every code but Join's; Group's by a contract given. ops.Cols: Distinct, Union, what fails; all together. slices.Concat at 64. Slices of columns: [:n], [n:]. ops.joined, whole. -/
import Derived.Test.YtecpeogejjibaaaGreatDoorEmoM7
import Derived.Lib.IndexLaws
import Derived.Lib.ItoaLen
import Derived.Test.YtecpeogejjibaaaGreatDoorEmoM3
import Derived.Test.YtecpeogejjibaaaGreatDoorEmoM1
import Derived.Test.YtecpeogejjibaaaGreatDoorEmoM4
import Derived.Test.YtecpeogejjibaaaGreatDoorShOps
import Derived.Laws.CopyOwn
import Derived.Deep.DeepCutAuto
import Derived.StillTailTactics
import Derived.Deep.CutBlock
set_option linter.unusedSimpArgs false
set_option linter.unusedVariables false
set_option maxRecDepth 100000
set_option maxHeartbeats 16000000
namespace Go.Proofs.YtecpeogejjibaaaGreatDoor
open Go.Lib renaming hid → Fx
open _root_.Nat renaming le_refl → Fy, le_trans → FD, zero_le → FF
open _root_.List renaming length_append → Fz, getElem?_eq_getElem → FA, getElem_mem → FE, length_cons → FG, length_take → FH, getD_eq_getElem?_getD → FJ
open Go.World renaming block_lt_of_cell? → FC, news_of_block → FI
open aa renaming refl → FK
open ao renaming new → FL
open Go.Value renaming string → FM, slice → FN, pointer → FO, int → FR
open Go.Ending renaming returned → FP
open Go.Obj renaming cells → FQ
open Go.IntKind renaming i64 → FS
section
open Go.RowKit Go.BigFrame
attribute [local go_sem] ag ab ae af
theorem Dv {l:List Tk} {b jb lo:Nat} {v2 v3 v4:Value} (a3 code:Int) (outs ins cols:List Bs) (op:Bs) (left right:Ar) (Z:Int) (w0 w:World) (hE:FB w0 lo) (a8:lo≤b) (h:Ps w b l) (hk:aa [b] w0 w) (cq:w0.heap.size≤jb) (hj:aV w w0.heap.size jb ⟨a3,code,outs,ins,cols,op,left,right,Z⟩ v2 v3 v4) (d5:ins.length≤1000) (d3:cols.length≤1000) (ch:l.length≤1000000) (bm:bV (aS l).text=2) (bq:(aS l).kind=1) :
  Calls Tryz.prog 122 #[FO (some ⟨b,0,none⟩),FO (some ⟨jb,0,none⟩)] w fun e w'=>gb (bH ⟨a3,code,outs,ins,cols,op,left,right,Z⟩ l) b w0.heap.size jb e w'∧aa [b] w0 w':=by
 obtain ⟨i0,hi,ca,cn,b9⟩:=info_parts kX;obtain ⟨R,hR⟩:∃ R,bH ⟨a3,code,outs,ins,cols,op,left,right,Z⟩ l=R:=⟨_,rfl⟩
 rw[hR];have HE:=Fx hE;have J:=Fx h;have N:=Fx hk;have D:=Fx hj;have ba:=Fx cq;have bo:Hid (ins.length≤999000):=Fx (by omega);have cx:Hid (cols.length≤999000):=Fx (by omega);have es:=Fx ch;have bv:Hid (∀ W,aa [] w W→Calls Tryz.prog 48 #[FN (some ⟨4,0,none⟩) 10 10,FM (bs (aS l).text)] W fun e W'=>e=FP (FR FS (dm (aS l).text))∧W=W'):=Fx (fun W q=>cE (aS l).text W ((hE.one a8 hk).quiet q).env);obtain ⟨q,hq⟩:∃ q,dm (aS l).text=q:=⟨_,rfl⟩
 rw[hq] at bv;have HQ:=Fx hq;obtain ⟨g,o,c,c0,z0,lb,lg,-,hn,hc,b6,k0,k1,k2,-⟩:=h.open';have bz:(0:Int)<(l.length:Int):=by omega
 have f1:w.cell? ⟨jb,1,none⟩=some (FR FS code):=hj.blk.cell 1;have f2:=hj.blk.frozen 1;have lj:=hj.blk.lt;have ct:=Fx bm;have cj:Hid ((aQ l.tail >>= fun p=>j6 ⟨a3,2,outs,ins++[p.1],cols,op,left,right,Z⟩ p.2)=R):=Fx (by
  rw[←hR];unfold bH;rw[bm,if_neg (by rw[bq];decide)];rfl)
 have co:bC [115,101,116] l=true:=by
  unfold bC;rw[bq,cU bm (by decide)];rfl
 have cu:=Fx co;have cd:=Fx bq;clear hR hE h hk hj d5 d3 ch cq hq bm co bq;go_enter Tryz.func122,Tryz.ntmps122
 go_upto_region 0 with (fail)
 go_cut [] (fun wx=>wx=(w.setCell ⟨jb,1,none⟩ (FR FS (max q 0))).drew)
 case first =>
  go_region_law (first|(go_simp;go_at_call 48;refine (bv.out _ (FK [] w).drew).mono ?_;rintro e w6 ⟨rfl,rfl⟩))
  all_goals
   go_wp2;go_meet;exact rfl
 subst hcut;clear c0 z0 lb lg hn hc b6 k0 k1 k2 bz lj f1 f2 bv;have O:aa [jb] w ((w.setCell ⟨jb,1,none⟩ (FR FS (max q 0))).drew):=((FK _ _).setCell (.inl (by simp)) _).drew;have hj':aV ((w.setCell ⟨jb,1,none⟩ (FR FS (max q 0))).drew) w0.heap.size jb ⟨a3,max q 0,outs,ins,cols,op,left,right,Z⟩ v2 v3 v4:=D.out.box O ((D.out.blk.set 1 (FR FS (max q 0))).congr (by rfl)) rfl rfl rfl;have hp':=J.out.box D.out O;have hk':=N.out.box ba.out O;have hm:max q 0=2:=by rw[←HQ.out,db,ct.out];rfl
 rw[hm] at hj' hp' hk' ⊢;clear hm O D J N;obtain ⟨y0,hy⟩:∃ x,(w.setCell ⟨jb,1,none⟩ (FR FS 2)).drew=x:=⟨_,rfl⟩
 rw[hy] at hj' hp' hk' ⊢;have D:=Fx hj';have J:=Fx hp';have N:=Fx hk';have bk:y0.cell? ⟨jb,1,none⟩=some (FR FS 2):=hj'.blk.cell 1;have lj:=hj'.blk.lt;obtain ⟨g,o,c,c0,z0,lb,lg,-,hn,hc,b6,k0,k1,k2,-⟩:=hp'.open';have bz:(0:Int)<(l.length:Int):=by omega
 clear hy hj' hp' hk' hn hc b6 HQ;rw[cd.out] at k0;have wd:=(HE.out.one a8 N.out).env.words 2 (by decide);have cv:y0.cell? ⟨4,2,none⟩=some (FM (bs [115,101,116])):=wd;have dz:=FC _ _ cv;clear wd;go_wp2_with fail
 refine (aT (s:=[115,101,116]) (r:=l.tail) (by unfold aR;rw[if_pos cu.out]) y0 J.out).mono ?_;rintro ev y1 ⟨rfl,hp,hk⟩;have HJ':=Fx (D.out.ps J.out hk);have HK':=Fx (N.out.trans hk);clear J D N c0 z0 lb lg k0 k1 k2 bz bk lj cv dz;have J:=Fx hp;have D:=HJ';have N:=HK';clear hp hk HJ' HK';have HR:=cj;clear cj;have U:Hid (l.tail.length≤l.length):=Fx (by rw[List.length_tail];omega);obtain ⟨r0,b8⟩:∃ r0,l.tail=r0:=⟨_,rfl⟩
 rw[b8] at J HR U;clear b8 cu cd ct;have bk:y1.cell? ⟨jb,1,none⟩=some (FR FS 2):=D.out.blk.cell 1;have b4:=D.out.blk.lt;go_upto_region 13 with (fail)
 obtain ⟨A2,c2,hv,-⟩:=ar D.out.o3;subst hv;have fS:y1.cell? ⟨jb,3,none⟩=some (FN A2 (ins).length c2)∧y1.frozen? ⟨jb,3,none⟩=false:=⟨D.out.blk.cell 3,D.out.blk.frozen 3⟩;have lj:=D.out.blk.lt;have be:=Fx (show (ins).length+1≤maxLen∧((ins).length+1)*16≤140737488355328 by have:=bo.out;simp only[maxLen];first|omega|(simp only[Fz,FG,List.length_nil];omega));have bX:Hid (jb∉[b]):=Fx (by have:=D.out.blk.ty.ne J.out.ty (by decide);simpa using this);rcases M:aQ r0 with x|⟨a2,r2⟩
 ·have I:=HR.out
  rw[M,aw] at I;have HX:=Fx I.symm;have HC:Hid (∀ W,aa [] y1 W→Calls Tryz.prog 80 #[FO (some ⟨b,0,none⟩)] W fun e w'=>bW x e w'∧aa [b] W w'):=Fx (fun W z=>bR M W (J.out.keep z));clear I M;go_wp2_with fail
  go_region_law (first|(refine step_append_lies _ (by rfl) _ _ _ (by rfl) w0.heap.size 9 i0 _ 1 16 Tryz.underlying44 hi ca cn b9 rfl (by decide) (FN A2 (ins).length c2) (ins).length (strs (ins)) (by rfl) ((D.out.ps J.out aA.undrew).o3.alloc _) ⟨w6.heap.size,0,none⟩ 1 1 [FM (bs [])] (by rfl) rfl (FI (heap_alloc_new _ _)) (by simp[Value.oneCell']) (by decide) be.out.1 be.out.2 (by have:=N.out.size;have:=aA.size;have h9:y1.drew.heap.size=y1.heap.size:=rfl;simp;omega) _ rfl ?_;intro gw cap w7 bc a0 br cg;obtain ⟨ds,dt⟩:=aE a0 (aD ⟨bl,b1⟩ _) (fun e=>(aK (D.out.ps J.out aA.undrew).o3 jb e).ne (D.out.ps J.out aA.undrew).blk.ty (by decide) rfl))|(go_simp;go_at_call 80;refine (HC.out _ (FK [] y1).drew).mono ?_;rintro e w6 ⟨⟨gi,rfl,hb⟩,aA⟩;obtain ⟨bl,b1⟩:=aI aA fS bX.out;have c9:jb<w6.heap.size:=FC w6 ⟨jb,3,none⟩ bl;dsimp only;(go_loud (refine cT ‹∀ (a:Act) (w:World),wpAny _ _ _ _ _ _ a w→_› (some 88) (FM (bs [])) ⟨rfl,by rw[HX.out];exact ⟨gi,rfl,hb⟩,N.out.trans aA.undrew⟩ (fun hF=>?_)))))
  all_goals exact hF.out.elim
 have I:=HR.out;rw[M,aq] at I;try dsimp only at I
 clear HR;have HR:=Fx I;clear I;have HC:Hid (∀ W,aa [] y1 W→Calls Tryz.prog 80 #[FO (some ⟨b,0,none⟩)] W fun e w'=>e=FP (FM (bs a2))∧Ps w' b r2∧aa [b] W w'):=Fx (fun W z=>bi M W (J.out.keep z));have ad:Hid (r2.length≤l.length):=Fx (by have:=U.out;have:=az M;omega);clear U;have U:=ad;clear ad;clear M;go_cut [] (fun wx=>∃ bb,aV wx w0.heap.size jb (⟨a3,2,outs,ins++[a2],cols,op,left,right,Z⟩:Jb) v2 bb v4∧Ps wx b r2∧aa [b] w0 wx)
 case first =>
  go_region_law (first|(refine step_append_lies _ (by rfl) _ _ _ (by rfl) w0.heap.size 9 i0 _ 1 16 Tryz.underlying44 hi ca cn b9 rfl (by decide) (FN A2 (ins).length c2) (ins).length (strs (ins)) (by rfl) ((D.out.ps J.out aA.undrew).o3.alloc _) ⟨w6.heap.size,0,none⟩ 1 1 [FM (bs a2)] (by rfl) rfl (FI (heap_alloc_new _ _)) (by simp[Value.oneCell']) (by decide) be.out.1 be.out.2 (by have:=N.out.size;have:=aA.size;have h9:y1.drew.heap.size=y1.heap.size:=rfl;simp;omega) _ rfl ?_;intro gw cap w7 bc a0 br cg;obtain ⟨ds,dt⟩:=aE a0 (aD ⟨bl,b1⟩ _) (fun e=>(aK (D.out.ps J.out aA.undrew).o3 jb e).ne (D.out.ps J.out aA.undrew).blk.ty (by decide) rfl))|(go_simp;go_at_call 80;refine (HC.out _ (FK [] y1).drew).mono ?_;rintro e w6 ⟨rfl,d4,aA⟩;obtain ⟨bl,b1⟩:=aI aA fS bX.out;have c9:jb<w6.heap.size:=FC w6 ⟨jb,3,none⟩ bl))
  all_goals
   go_wp2;go_meet;have hh:=aV.app3 (D.out.ps J.out aA.undrew) d4 (N.out.trans aA.undrew) rfl ba.out a0 rfl bc br (by simp);exact ⟨_,hh.1,hh.2.1,hh.2.2⟩
 obtain ⟨bb,hj,hp,hk⟩:=hcut;obtain ⟨y2,rfl⟩:∃ y:World,y=wc:=⟨_,rfl⟩
 clear J D N HC fS lj be bX;have J:=Fx hp;have D:=Fx hj;have N:=Fx hk;have a5:Hid ((ins++[a2]).length≤999000+2):=Fx (by have:=bo.out;simp only[Fz,FG,List.length_nil];omega);clear hp hj hk bo;generalize ins++[a2]=il2 at D HR a5;have bo:=a5;clear a5;clear bk b4;have bk:y2.cell? ⟨jb,1,none⟩=some (FR FS 2):=D.out.blk.cell 1;have b4:=D.out.blk.lt;have I:=HR.out;clear HR;have HR:Hid (sC (⟨a3,2,outs,il2,cols,op,left,right,Z⟩:Jb) r2=R):=Fx I;clear I;have I:=HR.out;unfold sC at I;clear HR;have HR:=Fx I;clear I;rcases M:aR [58] r2 with x|r3
 ·have I:=HR.out
  rw[M,aw] at I;have HX:=Fx I.symm;have HC:=Fx (cO M y2 J.out);clear I M;go_wp2_with fail
  refine HC.out.mono ?_;rintro ev w9 ⟨⟨gi,rfl,hb⟩,a1⟩;exact ⟨rfl,by rw[HX.out];exact ⟨gi,rfl,hb⟩,N.out.trans a1⟩
 have I:=HR.out;rw[M,aq] at I;try dsimp only at I
 clear HR;have HR:=Fx I;clear I;have HC:=Fx (aT M y2 J.out);have ad:Hid (r3.length≤l.length):=Fx (by have:=U.out;have:=aF M;omega);clear M U;have U:=ad;clear ad;go_wp2_with fail
 refine HC.out.mono ?_;rintro ev y3 ⟨rfl,hp,hk⟩;have HJ':=Fx (D.out.ps J.out hk);have HK':=Fx (N.out.trans hk);clear J D N HC;have J:=Fx hp;have D:=HJ';have N:=HK';clear hp hk HJ' HK';clear bk b4;rcases M:aQ r3 with x|⟨a4,r4⟩
 ·have I:=HR.out
  rw[M,aw] at I;have HX:=Fx I.symm;have HC:=Fx (bR M y3 J.out);clear I M;go_wp2_with fail
  refine HC.out.mono ?_;rintro ev w9 ⟨⟨gi,rfl,hb⟩,a1⟩;exact ⟨rfl,by rw[HX.out];exact ⟨gi,rfl,hb⟩,N.out.trans a1⟩
 have I:=HR.out;rw[M,aq] at I;try dsimp only at I
 clear HR;have HR:=Fx I;clear I;have HC:=Fx (bi M y3 J.out);have ad:Hid (r4.length≤l.length):=Fx (by have:=U.out;have:=az M;omega);clear M U;have U:=ad;clear ad;go_wp2_with fail
 refine HC.out.mono ?_;rintro ev y4 ⟨rfl,hp,hk⟩;have HJ':=Fx (D.out.ps J.out hk);have HK':=Fx (N.out.trans hk);clear J D N HC;have J:=Fx hp;have D:=HJ';have N:=HK';clear hp hk HJ' HK';have c7:=D.out.blk.frozen 4;have c5:y4.cell? ⟨jb,4,none⟩=some (v4):=D.out.blk.cell 4;have lj:=D.out.blk.lt;have ci:(y4.alloc (FQ #[FM (bs a4)] 9)).ownsRow w0.heap.size 9 1 (FN (some ⟨y4.heap.size,0,none⟩) 1 1) [a4].length (strs [a4]):=ra (FL y4 9 #[FM (bs a4)]) N.out.size rfl (by decide);have cr:cD (v2) (FN (some ⟨y4.heap.size,0,none⟩) 1 1):=cD.new D.out.o2 (fun g hg=>by simp[Value.ownBlock] at hg;omega);have cm:cD (bb) (FN (some ⟨y4.heap.size,0,none⟩) 1 1):=cD.new D.out.o3 (fun g hg=>by simp[Value.ownBlock] at hg;omega);have bj:aa [] y4 (y4.alloc (FQ #[FM (bs a4)] 9)):=(FK _ _).alloc _;have O:aa [jb] (y4.alloc (FQ #[FM (bs a4)] 9)) ((y4.alloc (FQ #[FM (bs a4)] 9)).setCell ⟨jb,4,none⟩ (FN (some ⟨y4.heap.size,0,none⟩) 1 1)):=(FK _ _).setCell (.inl (by simp)) _;have hj':=(D.out.keep bj).put4 ci cr cm;have hp':=(J.out.keep bj).box (D.out.keep bj) O;have hk':=aa.box (N.out.trans bj.of_nil) ba.out O;rw[World.setCell_alloc_past (w:=y4) (FQ #[FM (bs a4)] 9) jb 4 (FN (some ⟨y4.heap.size,0,none⟩) 1 1) lj] at hj' hp' hk';have HJ':=Fx hj';have HP':=Fx hp';have HK':=Fx hk';clear ci cr cm bj O hj' hp' hk';go_upto_region 21 with (fail)
 obtain ⟨y5,hy⟩:∃ x,((y4.setCell ⟨jb,4,none⟩ (FN (some ⟨y4.heap.size,0,none⟩) 1 1)).alloc (FQ #[FM (bs a4)] 9))=x:=⟨_,rfl⟩
 rw[hy] at HJ' HP' HK' ⊢;obtain ⟨d0,b0⟩:∃ n,y4.heap.size=n:=⟨_,rfl⟩
 rw[b0] at HJ';try rw[b0]
 clear hy b0 c7 c5 lj D J N;have D:=HJ';have J:=HP';have N:=HK';clear HJ' HP' HK';obtain ⟨b7,cy⟩:∃ v,Value.slice (some ⟨d0,0,none⟩) 1 1=v:=⟨_,rfl⟩
 rw[cy] at D;clear cy;have a5:Hid ([a4].length≤999000):=Fx (by simp);clear cx;generalize ce:[a4]=cl5 at D HR a5;have HCL:=Fx ce;clear ce;have cx:=a5;clear a5;rcases M:aR [61] r4 with x|r6
 ·have I:=HR.out
  rw[M,aw] at I;have HX:=Fx I.symm;have HC:=Fx (cO M y5 J.out);clear I M;go_wp2_with fail
  refine HC.out.mono ?_;rintro ev w9 ⟨⟨gi,rfl,hb⟩,a1⟩;exact ⟨rfl,by rw[HX.out];exact ⟨gi,rfl,hb⟩,N.out.trans a1⟩
 have I:=HR.out;rw[M,aq] at I;try dsimp only at I
 clear HR;have HR:=Fx I;clear I;have HC:=Fx (aT M y5 J.out);have ad:Hid (r6.length≤l.length):=Fx (by have:=U.out;have:=aF M;omega);clear M U;have U:=ad;clear ad;go_wp2_with fail
 refine HC.out.mono ?_;rintro ev y6 ⟨rfl,hp,hk⟩;have HJ':=Fx (D.out.ps J.out hk);have HK':=Fx (N.out.trans hk);clear J D N HC;have J:=Fx hp;have D:=HJ';have N:=HK';clear hp hk HJ' HK';have HC:=Fx (nS y6 (HE.out.one a8 N.out) a8 J.out);rcases M:lN r6 with x|⟨a7,r7⟩
 ·have I:=HR.out
  rw[M,aw] at I;have HX:=Fx I.symm;have hc:=HC.out;rw[M] at hc;have b3:=Fx hc;clear I M hc HC;go_wp2_with fail
  refine b3.out.mono ?_;rintro ev w9 ⟨⟨gi,rfl,hb⟩,a1⟩;exact ⟨rfl,by rw[HX.out];exact ⟨gi,rfl,hb⟩,N.out.trans a1⟩
 have I:=HR.out;rw[M,aq] at I;try dsimp only at I
 clear HR;have HR:=Fx I;clear I;have hc:=HC.out;rw[M] at hc;clear HC;have HC:=Fx hc;have ad:Hid (r7.length≤l.length):=Fx (FD (jI M) U.out);clear M hc U;have U:=ad;clear ad;go_wp2_with fail
 refine HC.out.mono ?_;rintro ev y7 ⟨⟨he,hp⟩,hk⟩;have b5:ev=FP (.agg #[FM (bs a7.col),FR FS a7.val.kind,FR FS a7.val.num,FM (bs a7.val.word)]):=he;subst b5;clear he;have HJ':=Fx (D.out.ps J.out hk);have HK':=Fx (N.out.trans hk);clear J D N HC;have J:=Fx hp;have D:=HJ';have N:=HK';clear hp hk HJ' HK';have cz:=D.out.blk.frozen 6;have d1:y7.cell? ⟨jb,6,none⟩=some (FM (bs left.col)):=D.out.blk.cell 6;have dq:=D.out.blk.frozen 7;have c4:y7.cell? ⟨jb,7,none⟩=some (FR FS left.val.kind):=D.out.blk.cell 7;have c8:=D.out.blk.frozen 8;have dr:y7.cell? ⟨jb,8,none⟩=some (FR FS left.val.num):=D.out.blk.cell 8;have d2:=D.out.blk.frozen 9;have c6:y7.cell? ⟨jb,9,none⟩=some (FM (bs left.val.word)):=D.out.blk.cell 9;have lj:=D.out.blk.lt;have O:aa [jb] y7 ((((y7.setCell ⟨jb,6,none⟩ (FM (bs a7.col))).setCell ⟨jb,7,none⟩ (FR FS a7.val.kind)).setCell ⟨jb,8,none⟩ (FR FS a7.val.num)).setCell ⟨jb,9,none⟩ (FM (bs a7.val.word))):=((((FK _ _).setCell (.inl (by simp)) _).setCell (.inl (by simp)) _).setCell (.inl (by simp)) _).setCell (.inl (by simp)) _;have HJ':Hid (aV ((((y7.setCell ⟨jb,6,none⟩ (FM (bs a7.col))).setCell ⟨jb,7,none⟩ (FR FS a7.val.kind)).setCell ⟨jb,8,none⟩ (FR FS a7.val.num)).setCell ⟨jb,9,none⟩ (FM (bs a7.val.word))) w0.heap.size jb (⟨a3,2,outs,il2,cl5,op,a7,right,Z⟩:Jb) v2 bb b7):=Fx (D.out.box O (((((D.out.blk.set 6 (FM (bs a7.col))).set 7 (FR FS a7.val.kind)).set 8 (FR FS a7.val.num)).set 9 (FM (bs a7.val.word))).congr (by rfl)) rfl rfl rfl);have HP':=Fx (J.out.box D.out O);have HK':=Fx (N.out.box ba.out O);clear O;go_upto_region 23 with (fail)
 obtain ⟨y8,hy⟩:∃ x,((((y7.setCell ⟨jb,6,none⟩ (FM (bs a7.col))).setCell ⟨jb,7,none⟩ (FR FS a7.val.kind)).setCell ⟨jb,8,none⟩ (FR FS a7.val.num)).setCell ⟨jb,9,none⟩ (FM (bs a7.val.word)))=x:=⟨_,rfl⟩
 rw[hy] at HJ' HP' HK' ⊢;clear hy cz d1 dq c4 c8 dr d2 c6 lj D J N;have D:=HJ';have J:=HP';have N:=HK';clear HJ' HP' HK';have HJ':=Fx (D.out.keep ((FK _ _).alloc (FQ #[FM (bs [43]),FM (bs [45]),FM (bs [42])] 9)));have HP':=Fx (J.out.keep ((FK _ _).alloc (FQ #[FM (bs [43]),FM (bs [45]),FM (bs [42])] 9)));have HK':=Fx (N.out.alloc (FQ #[FM (bs [43]),FM (bs [45]),FM (bs [42])] 9));have bZ:Hid (Rd (y8.alloc (FQ #[FM (bs [43]),FM (bs [45]),FM (bs [42])] 9)) [b] 1 (some ⟨y8.heap.size,0,none⟩) 3 (strs [[43],[45],[42]])):=Fx (ri [[43],[45],[42]] (FL y8 9 #[FM (bs [43]),FM (bs [45]),FM (bs [42])]) (by have:=J.out.lt;omega));clear D J N;have D:=HJ';have J:=HP';have N:=HK';clear HJ' HP' HK';go_wp2_with fail
 rcases M:iu [[43],[45],[42]] r7 with x|⟨a9,r9⟩
 ·have I:=HR.out
  rw[M,aw] at I;have HX:=Fx I.symm;have HC:=Fx (re M (some ⟨y8.heap.size,0,none⟩) 3 _ J.out bZ.out (by decide));clear I M;skip
  refine HC.out.mono ?_;rintro ev w9 ⟨⟨gi,rfl,hb⟩,a1⟩;exact ⟨rfl,by rw[HX.out];exact ⟨gi,rfl,hb⟩,N.out.trans a1⟩
 have I:=HR.out;rw[M,aq] at I;try dsimp only at I
 clear HR;have HR:=Fx I;clear I;have HC:=Fx (nj M (some ⟨y8.heap.size,0,none⟩) 3 _ J.out bZ.out (by decide));have ad:Hid (r9.length≤l.length):=Fx (by have:=U.out;have:=fe M;omega);clear M bZ U;have U:=ad;clear ad;refine HC.out.mono ?_;rintro ev y9 ⟨rfl,hp,hk⟩;have HJ':=Fx (D.out.ps J.out hk);have HK':=Fx (N.out.trans hk);clear J D N HC;have J:=Fx hp;have D:=HJ';have N:=HK';clear hp hk HJ' HK';have c3:=D.out.blk.frozen 5;have dB:y9.cell? ⟨jb,5,none⟩=some (FM (bs op)):=D.out.blk.cell 5;have lj:=D.out.blk.lt;have O:aa [jb] y9 (y9.setCell ⟨jb,5,none⟩ (FM (bs a9))):=(FK _ _).setCell (.inl (by simp)) _;have HJ':Hid (aV (y9.setCell ⟨jb,5,none⟩ (FM (bs a9))) w0.heap.size jb (⟨a3,2,outs,il2,cl5,a9,a7,right,Z⟩:Jb) v2 bb b7):=Fx (D.out.box O ((D.out.blk.set 5 (FM (bs a9))).congr (by rfl)) rfl rfl rfl);have HP':=Fx (J.out.box D.out O);have HK':=Fx (N.out.box ba.out O);clear O;go_upto_region 24 with (fail)
 obtain ⟨dv,hy⟩:∃ x,(y9.setCell ⟨jb,5,none⟩ (FM (bs a9)))=x:=⟨_,rfl⟩
 rw[hy] at HJ' HP' HK' ⊢;clear hy c3 dB lj D J N;have D:=HJ';have J:=HP';have N:=HK';clear HJ' HP' HK';have HC:=Fx (nS dv (HE.out.one a8 N.out) a8 J.out);rcases M:lN r9 with x|⟨av,c1⟩
 ·have I:=HR.out
  rw[M,aw] at I;have HX:=Fx I.symm;have hc:=HC.out;rw[M] at hc;have b3:=Fx hc;clear I M hc HC;go_wp2_with fail
  refine b3.out.mono ?_;rintro ev w9 ⟨⟨gi,rfl,hb⟩,a1⟩;exact ⟨rfl,by rw[HX.out];exact ⟨gi,rfl,hb⟩,N.out.trans a1⟩
 have I:=HR.out;rw[M,aq] at I;try dsimp only at I
 clear HR;have HR:=Fx I;clear I;have hc:=HC.out;rw[M] at hc;clear HC;have HC:=Fx hc;have ad:Hid (c1.length≤l.length):=Fx (FD (jI M) U.out);clear M hc U;have U:=ad;clear ad;go_wp2_with fail
 refine HC.out.mono ?_;rintro ev a6 ⟨⟨he,hp⟩,hk⟩;have b5:ev=FP (.agg #[FM (bs av.col),FR FS av.val.kind,FR FS av.val.num,FM (bs av.val.word)]):=he;subst b5;clear he;have HJ':=Fx (D.out.ps J.out hk);have HK':=Fx (N.out.trans hk);clear J D N HC;have J:=Fx hp;have D:=HJ';have N:=HK';clear hp hk HJ' HK';have d6:=D.out.blk.frozen 10;have d8:a6.cell? ⟨jb,10,none⟩=some (FM (bs right.col)):=D.out.blk.cell 10;have eb:=D.out.blk.frozen 11;have er:a6.cell? ⟨jb,11,none⟩=some (FR FS right.val.kind):=D.out.blk.cell 11;have d9:=D.out.blk.frozen 12;have d7:a6.cell? ⟨jb,12,none⟩=some (FR FS right.val.num):=D.out.blk.cell 12;have el:=D.out.blk.frozen 13;have en:a6.cell? ⟨jb,13,none⟩=some (FM (bs right.val.word)):=D.out.blk.cell 13;have lj:=D.out.blk.lt;have O:aa [jb] a6 ((((a6.setCell ⟨jb,10,none⟩ (FM (bs av.col))).setCell ⟨jb,11,none⟩ (FR FS av.val.kind)).setCell ⟨jb,12,none⟩ (FR FS av.val.num)).setCell ⟨jb,13,none⟩ (FM (bs av.val.word))):=((((FK _ _).setCell (.inl (by simp)) _).setCell (.inl (by simp)) _).setCell (.inl (by simp)) _).setCell (.inl (by simp)) _;have HJ':Hid (aV ((((a6.setCell ⟨jb,10,none⟩ (FM (bs av.col))).setCell ⟨jb,11,none⟩ (FR FS av.val.kind)).setCell ⟨jb,12,none⟩ (FR FS av.val.num)).setCell ⟨jb,13,none⟩ (FM (bs av.val.word))) w0.heap.size jb (⟨a3,2,outs,il2,cl5,a9,a7,av,Z⟩:Jb) v2 bb b7):=Fx (D.out.box O (((((D.out.blk.set 10 (FM (bs av.col))).set 11 (FR FS av.val.kind)).set 12 (FR FS av.val.num)).set 13 (FM (bs av.val.word))).congr (by rfl)) rfl rfl rfl);have HP':=Fx (J.out.box D.out O);have HK':=Fx (N.out.box ba.out O);clear O;have HX:=Fx HR.out.symm;clear HR;go_wp2;first|go_end0|refine bodyPost_ret (results_none rfl _ _ _) rfl ?_
 exact ⟨by rw[HX.out];exact ⟨rfl,⟨_,_,_,HJ'.out⟩,HP'.out⟩,HK'.out⟩
end
section
theorem nY (p:UInt8→Bool):∀ (s:Bs),gu p s≤s.length
 | []=>Fy _
 | c::s=>by
  unfold gu;split
  ·simpa using nY p s
  exact FF _
theorem lU (p:UInt8→Bool):∀ (s:Bs),∀ c∈s.take (gu p s),p c=true
 | [],c,h=>by simp[gu] at h
 | d::s,c,h=>by
  unfold gu at h;by_cases hd:p d
  ·rw[if_pos hd,List.take_succ_cons] at h
   rcases List.mem_cons.1 h with rfl|h
   ·exact hd
   exact lU p s c h
  rw[if_neg hd] at h;simp at h
theorem rp {s m:Bs} (h:Lib.hasPrefix s m=true):m.length≤s.length:=by
 unfold Lib.hasPrefix at h;exact (List.isPrefixOf_iff_prefix.1 h).length_le
theorem sI (s:Bs):∀ ms:List Bs,bT s ms≤s.length
 | []=>FF _
 | m::ms=>by
  unfold bT;split
  ·rename_i h;exact rp h
  exact sI s ms
theorem sJ (c:UInt8) (t:Bs):(bM (c::t)).2≤(c::t).length:=by
 unfold bM;split
 ·exact nY _ _
 split
 ·exact nY _ _
 split
 ·show (if Lib.indexByte t 39<0 then 0 else (Lib.indexByte t 39).toNat+2)≤(c::t).length
  split
  ·exact FF _
  rename_i h;have D:=(Lib.indexByte_some (l:=t) (c:=39) (o:=(Lib.indexByte t 39).toNat) (by omega)).1;have:=(List.getElem?_eq_some_iff.1 D).1;simp only[FG];omega
 exact sI _ _
theorem DC (c:UInt8) (t:Bs) (i:Int) (J:(c::t).length≤1000000) (I:(bM (c::t)).2≠0):BK ⟨(bM (c::t)).1,(c::t).take (bM (c::t)).2,i⟩:=by
 have D:=sJ c t;refine ⟨?_,?_,?_⟩
 ·show (List.take _ _).length≤_
  rw[FH];omega
 ·intro h d hd
  revert h hd
  dsimp only
  unfold bM;split
  ·intro h;cases h
  split
  ·intro _ hd;exact lU _ _ d hd
  split
  ·intro h;cases h
  intro h;cases h
 intro h;show 2≤(List.take _ _).length;rw[FH];revert h I D
 dsimp only
 unfold bM;split
 ·intro _ _ h;cases h
 split
 ·intro _ _ h;cases h
 split
 ·dsimp only
  split
  ·intro h;exact absurd rfl h
  intro _ _ _;omega
 intro _ _ h;cases h
theorem zQ:∀ (f:Nat) (s:Bs) (i:Nat) (acc l:List Tk),s.length≤1000000→acc.length≤400→(∀ t∈acc,BK t)→fq f s i acc= .ok l→i7 l∧(∀ t∈l,BK t)∧l.length≤401:=by
 have D:∀ (acc:List Tk) (i:Nat) (l:List Tk),acc.length≤400→(∀ t∈acc,BK t)→(Except.ok (acc++[⟨5,[],(i:Int)⟩]):Except (Int×Int) (List Tk))= .ok l→i7 l∧(∀ t∈l,BK t)∧l.length≤401:=by
  intro acc i l N I h;injection h with h;subst h;refine ⟨⟨acc,_,rfl,rfl⟩,?_,by simp;omega⟩;intro t M;rcases List.mem_append.1 M with M|M
  ·exact I t M
  rw[List.mem_singleton.1 M];exact ⟨by simp,(fun h=>by cases h),(fun h=>by cases h)⟩
 intro f
 induction f with
 | zero=>intro s i acc l _ N I h;exact D acc i l N I h
 | succ f ih =>
  intro s i acc l O N I h
  cases s with
  | nil=>exact D acc i l N I h
  | cons c t =>
   unfold fq at h;split at h
   ·exact ih t (i+1) acc l (by simp at O;omega) N I h
   split at h
   ·cases h
   split at h
   ·cases h
   rename_i Z U h3;refine ih _ _ _ l ?_ ?_ ?_ h
   ·rw[List.length_drop];omega
   ·rw[Fz];simp;omega
   intro u J;rcases List.mem_append.1 J with J|J
   ·exact I u J
   rw[List.mem_singleton.1 J];exact DC c t i O U
theorem rq {s:Bs} {l:List Tk} (D:s.length≤1000000) (h:uC s= .ok l):i7 l∧(∀ t∈l,BK t)∧l.length≤401 :=
 zQ _ _ _ _ _ D (by simp) (fun t I=>by cases I) h
structure bN (s:Bs):Prop where
 ne:s≠[]
 len:s.length≤10
 head:jS (s.headD 0)=true
 all:∀ c∈s,sB c=true
def ru (l:List Bs):Prop:=l≠[]∧l.length≤1000∧∀ s∈l,bN s
def sK (a:Ar):Prop:=(bN a.col∧a.val=zV)∨(a.col=[]∧eS a.val=true)
def zR (a:Ar):Prop:=a=⟨[],zV⟩∨sK a
def C9 (j:Jb):Prop :=
 (j.code=7∧∃ a b c d,bN a∧bN b∧bN c∧bN d∧j.ins=[a,b]∧j.cols=[c,d])
 ∨ (j.code=5∧∃ a b,bN a∧bN b∧j.ins=[a,b]∧j.cols=[])
 ∨ (j.code=6∧∃ a,bN a∧j.ins=[a]∧j.cols=[])
 ∨ ((j.code=1∨j.code=9)∧∃ a s,bN a∧bN s∧j.ins=[a]∧j.cols=[]∧j.left=⟨s,zV⟩∧j.op∈xy∧sK j.right)
 ∨ (j.code=2∧∃ a c,bN a∧bN c∧j.ins=[a]∧j.cols=[c]∧sK j.left∧j.op∈[[43],[45],[42]]∧sK j.right)
 ∨ ((j.code=3∨j.code=4)∧∃ a,bN a∧j.ins=[a]∧ru j.cols)
 ∨ (j.code=8∧∃ a c d,bN a∧bN c∧bN d∧j.ins=[a]∧j.cols=[c,d]∧j.op∈[[115,117,109],[109,97,120]])
structure rx (j:Jb):Prop where
 outs:ru j.outs
 lo:0≤j.retry
 hi:j.retry≤5
 left:zR j.left
 right:zR j.right
 op:j.op.length≤10
 body:C9 j
structure Fb (x:In):Prop where
 name:bN x.name
 ne:x.cols≠[]
 len:x.cols.length≤1000
 cols:∀ c∈x.cols,bN c.name∧(c.kind=1∨c.kind=2)
structure DD (x:Pb):Prop where
 name:bN x.name
 src:bN x.src
structure zu (f:Fl):Prop where
 nins:f.ins.length≤16
 njobs:f.jobs.length≤16
 nouts:f.outs.length≤16
 ins:∀ x∈f.ins,Fb x
 jobs:∀ x∈f.jobs,rx x
 outs:∀ x∈f.outs,DD x
def bf (f:Fl):List Bs:=f.ins.map (·.name)++f.jobs.flatMap (·.outs)
theorem jl {f:Fl} {n:Bs}:kA f n=true↔n∈f.ins.map (·.name):=by
 unfold kA;simp only[List.any_eq_true,beq_iff_eq,List.mem_map]
theorem ee {f:Fl} {k:Nat} (h:k<f.jobs.length):jb f k=f.jobs[k]:=by
 unfold jb;rw[FJ,FA h];rfl
theorem lV {f:Fl} {n:Bs} {k:Nat} (h:kB f n=some k):k<f.jobs.length∧n∈(jb f k).outs:=by
 unfold kB at h;obtain ⟨D,I,_⟩:=List.findIdx?_eq_some_iff_getElem.1 h;refine ⟨D,?_⟩;rw[ee D];simpa using I
theorem xJ {f:Fl} {n:Bs} (h:kB f n=none):∀ j∈f.jobs,n∉j.outs:=by
 unfold kB at h;rw[List.findIdx?_eq_none_iff] at h;intro j D I;have:=h j D;rw[List.contains_iff_mem.2 I] at this;cases this
theorem wn {D:List Jb} (h:(D.flatMap (·.outs)).Nodup) {a b:Nat} (J:a<D.length) (N:b<D.length) {n:Bs} (I:n∈D[a].outs) (M:n∈D[b].outs):a=b:=by
 induction D generalizing a b with
 | nil=>simp at J
 | cons j D ih =>
  rw[List.flatMap_cons,List.nodup_append] at h;obtain ⟨_,U,O⟩:=h
  match a,b with
  | 0,0=>rfl
  | 0,b+1=>exact absurd rfl (O n I n (List.mem_flatMap.2 ⟨D[b]'(by simpa using N),FE _,by simpa using M⟩))
  | a+1,0=>exact absurd rfl (O n M n (List.mem_flatMap.2 ⟨D[a]'(by simpa using J),FE _,by simpa using I⟩))
  | a+1,b+1=>exact congrArg (· + 1) (ih U (a:=a) (b:=b) (by simpa using J) (by simpa using N) (by simpa using I) (by simpa using M))
theorem B5 {f:Fl} (h:(f.jobs.flatMap (·.outs)).Nodup) {k:Nat} (D:k<f.jobs.length) {n:Bs} (I:n∈f.jobs[k].outs):kB f n=some k:=by
 cases M:kB f n with
 | none=>exact absurd I (xJ M _ (FE D))
 | some O =>
  obtain ⟨J,N⟩:=lV M;rw[ee J] at N;rw[wn h J D N I]
theorem fO {f:Fl} {done:List Nat} {n:Bs}:eK f done n=true↔kA f n=true∨∃ k,kB f n=some k∧k∈done:=by
 unfold eK;rw[Bool.or_eq_true]
 cases h:kB f n with
 | none=>simp
 | some k=>simp
structure fg (f:Fl) (l:List Nat):Prop where
 nodup:l.Nodup
 lt:∀ k∈l,k<f.jobs.length
 ready:∀ i (h:i<l.length),bL f (l.take i) l[i]=true
theorem kD {f:Fl} {out:List Nat} {k:Nat} (h:dJ f out=some k):k<f.jobs.length∧k∉out∧bL f out k=true∧∀ j,j<k→j∉out→bL f out j=false:=by
 unfold dJ at h;rw[List.find?_eq_some_iff_getElem] at h;obtain ⟨D,i,O,I,N⟩:=h;rw[Bool.and_eq_true] at D;simp only[List.getElem_range] at I;subst I;refine ⟨by simpa using O,by simpa using D.1,D.2,fun j J M=>?_⟩;have:=N j J;simp only[List.getElem_range,Bool.not_and,Bool.not_not,Bool.or_eq_true] at this;rcases this with h|h
 ·exact absurd (List.contains_iff_mem.1 h) M
 simpa using h
theorem n9 {f:Fl} {out:List Nat} (h:dJ f out=none):∀ k,k<f.jobs.length→k∉out→bL f out k=false:=by
 unfold dJ at h;rw[List.find?_eq_none] at h;intro k D J;have:=h k (List.mem_range.2 D)
 cases I:bL f out k with
 | false=>rfl
 | true=>exact absurd (by rw[I];simpa using J) this
theorem fg.snoc {f:Fl} {out:List Nat} (h:fg f out) {k:Nat} (I:dJ f out=some k):fg f (out++[k]):=by
 obtain ⟨O,N,U,_⟩:=kD I;refine ⟨?_,?_,?_⟩
 ·rw[List.nodup_append]
  exact ⟨h.nodup,by simp,fun a M b J e=>N (by rw[List.mem_singleton.1 J] at e;rw[←e];exact M)⟩
 ·intro x D
  rcases List.mem_append.1 D with D|D
  ·exact h.lt x D
  rw[List.mem_singleton.1 D];exact O
 intro i Z;rw[Fz,List.length_singleton] at Z;by_cases hi':i<out.length
 ·rw[List.getElem_append_left hi',List.take_append_of_le_length (Nat.le_of_lt hi')]
  exact h.ready i hi'
 obtain rfl:i=out.length:=by omega
 rw[List.getElem_append_right (Fy _),List.take_left']
 ·simpa using U
 rfl
theorem oa {f:Fl}:∀ (n:Nat) (out l:List Nat),fg f out→cW f n out= .ok l→fg f l∧l.length=out.length+n
 | 0,out,l,I,h=>by cases h;exact ⟨I,rfl⟩
 | n+1,out,l,I,h=>by
  unfold cW at h
  cases D:dJ f out with
  | none=>rw[D] at h;cases h
  | some k =>
   rw[D] at h;obtain ⟨J,M⟩:=oa n _ _ (I.snoc D) h;exact ⟨J,by rw[M,Fz,List.length_singleton];omega⟩
theorem fg.nil (f:Fl):fg f []:=⟨by simp,fun _ h=>(by cases h),fun i h=>absurd h (by simp)⟩
theorem fF {f:Fl} {l:List Nat} (h:cG f= .ok l):fg f l∧l.length=f.jobs.length:=by
 obtain ⟨D,I⟩:=oa _ _ _ (fg.nil f) h;exact ⟨D,by simpa using I⟩
def kE (f:Fl):Prop:=∃ r:Jb→Nat,∀ j∈f.jobs,∀ n∈j.ins,n∈f.ins.map (·.name)∨∃ d∈f.jobs,n∈d.outs∧r d<r j
theorem gO {α:Type} [DecidableEq α]:∀ {l m:List α},l.Nodup→(∀ x∈l,x∈m)→l.length≤m.length
 | [],_,_,_=>FF _
 | x::l,m,D,J=>by
  rw[List.nodup_cons] at D;have N:=gO (m:=m.erase x) D.2 (fun y I=>by
   have h:y≠x:=fun e=>D.1 (by rw[←e];exact I)
   exact (List.mem_erase_of_ne h).2 (J y (List.mem_cons_of_mem _ I)))
  have M:=J x (List.mem_cons_self ..);rw[List.length_erase_of_mem M] at N;have:=List.length_pos_of_mem M;rw[FG];omega
theorem ob {n:Nat} {l:List Nat} (J:l.Nodup) (h:∀ k∈l,k<n) (N:l.length=n):∀ k,k<n→k∈l:=by
 intro k I;refine Decidable.byContradiction fun M=>?_
 have:=gO (l:=k::l) (m:=List.range n) (List.nodup_cons.2 ⟨M,J⟩) (fun x D=>by
  rcases List.mem_cons.1 D with rfl|D
  ·exact List.mem_range.2 I
  exact List.mem_range.2 (h x D))
 rw[FG,List.length_range] at this;omega
theorem sL {α:Type} [DecidableEq α]:∀ {l:List α} {i:Nat} (h:i<l.length),l.idxOf l[i]≤i
 | x::l,0,_=>by simp[List.idxOf_cons]
 | x::l,i+1,h=>by
  have ih:=sL (l:=l) (i:=i) (by simpa using h);rw[List.getElem_cons_succ,List.idxOf_cons]
  cases D:(x==l[i]'(by simpa using h)) with
  | true=>exact FF _
  | false=>exact Nat.succ_le_succ ih
theorem xK {f:Fl} {l:List Nat} (O:fg f l) (hl:l.length=f.jobs.length):kE f:=by
 refine ⟨fun j=>(l.map (jb f)).idxOf j,fun j hj n hn=>?_⟩;obtain ⟨k,U,rfl⟩:=List.getElem_of_mem hj;have I:=ob O.nodup O.lt hl k U;obtain ⟨p0,ad,av⟩:=List.getElem_of_mem I;have N:(l.map (jb f)).idxOf f.jobs[k]<(l.map (jb f)).length:=List.idxOf_lt_length_of_mem (List.mem_map.2 ⟨k,I,ee U⟩);obtain ⟨p,D⟩:∃ p,(l.map (jb f)).idxOf f.jobs[k]=p:=⟨_,rfl⟩
 rw[D] at N;have J:(l.map (jb f))[p]=f.jobs[k]:=by
  have:=List.getElem_idxOf (x:=f.jobs[k]) (xs:=l.map (jb f)) (by rw[D];exact N);simpa[D] using this
 have hp':p<l.length:=by simpa using N
 rw[List.getElem_map] at J;have M:=O.ready p hp';unfold bL at M;rw[J,List.all_eq_true] at M;rcases fO.1 (M n hn) with h|⟨k',h1,h2⟩
 ·exact .inl (jl.1 h)
 right
 obtain ⟨Z,h4⟩:=lV h1;refine ⟨jb f k',by rw[ee Z];exact FE Z,h4,?_⟩;show (l.map (jb f)).idxOf (jb f k')<(l.map (jb f)).idxOf f.jobs[k];rw[D];obtain ⟨q,hq,rfl⟩:=List.getElem_of_mem h2;rw[FH] at hq;have hq':q<l.length:=by omega
 have e:jb f (l.take p)[q]=(l.map (jb f))[q]'(by simpa using hq'):=by rw[List.getElem_take,List.getElem_map]
 rw[e];have:=sL (l:=l.map (jb f)) (i:=q) (by simpa using hq');omega
theorem DF {P:Nat→Prop} {r:Nat→Nat} (h:∃ k,P k):∃ k,P k∧∀ j,P j→r k≤r j:=by
 obtain ⟨k,M⟩:=h
 induction N:r k using Nat.strongRecOn generalizing k with
 | ind n ih =>
  by_cases J:∃ j,P j∧r j<n
  ·obtain ⟨j,I,D⟩:=J
   exact ih (r j) D j I rfl
  exact ⟨k,M,fun j I=>by
   rw[N];exact Nat.le_of_not_lt fun D=>J ⟨j,I,D⟩⟩
theorem oe {n:Nat} {l:List Nat} (h:l.length<n):∃ k,k<n∧k∉l:=by
 refine Decidable.byContradiction fun J=>?_
 have D:List.range n ⊆ l:=fun k I=>Decidable.byContradiction fun M=>J ⟨k,List.mem_range.1 I,M⟩
 have:=gO List.nodup_range D;rw[List.length_range] at this;omega
theorem sM {f:Fl} (hu:(f.jobs.flatMap (·.outs)).Nodup) (M:kE f) {out:List Nat} (D:out.length<f.jobs.length):∃ k,dJ f out=some k:=by
 obtain ⟨r,M⟩:=M;obtain ⟨k,⟨J,U⟩,I⟩:=DF (P:=fun k=>k<f.jobs.length∧k∉out) (r:=fun k=>r (jb f k)) (oe D)
 cases hn:dJ f out with
 | some k=>exact ⟨k,rfl⟩
 | none =>
  have hf:=n9 hn k J U;exfalso
  have Z:bL f out k=true:=by
   unfold bL;rw[List.all_eq_true];intro n hn';have hj:jb f k∈f.jobs:=by rw[ee J];exact FE J
   rcases M _ hj n hn' with h|⟨d,hd,O,ad⟩
   ·exact fO.2 (.inl (jl.2 h))
   obtain ⟨k',hk',rfl⟩:=List.getElem_of_mem hd;refine fO.2 (.inr ⟨k',B5 hu hk' O,Decidable.byContradiction fun N=>?_⟩);have:=I k' ⟨hk',N⟩;rw[ee hk'] at this;omega
  rw[hf] at Z;cases Z
theorem lh {f:Fl} (I:(f.jobs.flatMap (·.outs)).Nodup) (D:kE f):∀ (n:Nat) (out:List Nat),out.length+n≤f.jobs.length→∃ l,cW f n out= .ok l
 | 0,out,_=>⟨out,rfl⟩
 | n+1,out,h=>by
  obtain ⟨k,J⟩:=sM I D (out:=out) (by omega);obtain ⟨l,M⟩:=lh I D n (out++[k]) (by rw[Fz,List.length_singleton];omega);exact ⟨l,by unfold cW;rw[J];exact M⟩
theorem sN {f:Fl} (D:(f.jobs.flatMap (·.outs)).Nodup) (h:kE f):∃ l,cG f= .ok l:=lh D h _ _ (by simp)
theorem iz:∀ (l:List (Bs×Int)) (seen:List Bs),(∃ s,bP l seen= .ok s∧∀ n,n∈s↔n∈l.map (·.1)∨n∈seen)↔(l.map (·.1)).Nodup∧∀ n∈l.map (·.1),n∉seen
 | [],seen=>⟨fun _=>⟨by simp,fun n h=>(by simp at h)⟩,fun _=>⟨seen,rfl,fun n=>by simp⟩⟩
 | p::l,seen=>by
  have ih:=iz l (p.1::seen);unfold bP;by_cases N:p.1∈seen
  ·rw[if_pos N]
   constructor
   ·rintro ⟨s,I,_⟩;cases I
   rintro ⟨_,h⟩;exact absurd N (h p.1 (by simp))
  rw[if_neg N];constructor
  ·rintro ⟨s,I,U⟩
   have M:=ih.1 ⟨s,I,fun n=>by
    rw[U n];simp only[List.map_cons,List.mem_cons];constructor
    ·rintro ((h|h)|h)
     ·exact .inr (.inl h)
     ·exact .inl h
     exact .inr (.inr h)
    rintro (h|h|h)
    ·exact .inl (.inr h)
    ·exact .inl (.inl h)
    exact .inr h⟩
   refine ⟨?_,?_⟩
   ·rw[List.map_cons,List.nodup_cons]
    exact ⟨fun J=>M.2 _ J (List.mem_cons_self ..),M.1⟩
   intro n D;rw[List.map_cons,List.mem_cons] at D;rcases D with rfl|D
   ·exact N
   exact fun J=>M.2 n D (List.mem_cons_of_mem _ J)
  rintro ⟨O,M⟩;rw[List.map_cons,List.nodup_cons] at O;obtain ⟨s,I,U⟩:=ih.2 ⟨O.2,fun n D=>by
   rw[List.mem_cons];rintro (rfl|J)
   ·exact O.1 D
   exact M n (by rw[List.map_cons];exact List.mem_cons_of_mem _ D) J⟩
  refine ⟨s,I,fun n=>?_⟩;rw[U n];simp only[List.map_cons,List.mem_cons];constructor
  ·rintro (h|h|h)
   ·exact .inl (.inr h)
   ·exact .inl (.inl h)
   exact .inr h
  rintro ((h|h)|h)
  ·exact .inr (.inl h)
  ·exact .inl h
  exact .inr (.inr h)
theorem iA:∀ (l:List (Bs×Int)) (seen s:List Bs),bP l seen= .ok s→∀ n,n∈s↔n∈l.map (·.1)∨n∈seen
 | [],seen,s,h,n=>by cases h;simp
 | p::l,seen,s,h,n=>by
  unfold bP at h;by_cases D:p.1∈seen
  ·rw[if_pos D] at h;cases h
  rw[if_neg D] at h;rw[iA l _ s h n];simp only[List.map_cons,List.mem_cons];constructor
  ·rintro (h|h|h)
   ·exact .inl (.inr h)
   ·exact .inl (.inl h)
   exact .inr h
  rintro ((h|h)|h)
  ·exact .inr (.inl h)
  ·exact .inl h
  exact .inr (.inr h)
theorem qk {l:List (Bs×Int)} {seen s:List Bs} (h:bP l seen= .ok s):(l.map (·.1)).Nodup∧∀ n∈l.map (·.1),n∉seen :=
 (iz l seen).1 ⟨s,h,iA l seen s h⟩
theorem iB (h:List Jb):(dk h).map (·.1)=h.flatMap (·.outs):=by
 unfold dk;rw[List.map_flatMap];congr 1
 funext j
 rw[List.map_map];exact List.map_id _
theorem jm {seen:List Bs}:∀ {M:List Jb},bF seen M= .ok ()↔∀ j∈M,∀ n∈j.ins,n∈seen
 | []=>by simp[bF]
 | j::M=>by
  unfold bF;by_cases h:j.ins.any (fun n=> !decide (n∈seen))=true
  ·rw[if_pos h]
   constructor
   ·intro D;cases D
   intro D;rw[List.any_eq_true] at h;obtain ⟨n,I,N⟩:=h;have:=D j (List.mem_cons_self ..) n I;simp[this] at N
  rw[if_neg h,jm];constructor
  ·intro D J hj' n I
   rcases List.mem_cons.1 hj' with rfl|hj'
   ·exact Decidable.byContradiction fun O=>h (List.any_eq_true.2 ⟨n,I,by simp[O]⟩)
   exact D J hj' n I
  exact fun D J hj'=>D J (List.mem_cons_of_mem _ hj')
theorem kF {seen:List Bs}:∀ {l:List Pb} {told:List Bs},cH seen l told= .ok ()↔(∀ x∈l,x.src∈seen)∧(l.map (·.name)).Nodup∧∀ n∈l.map (·.name),n∉told
 | [],told=>by simp[cH]
 | x::l,told=>by
  unfold cH;by_cases D:x.src∈seen
  ·by_cases M:x.name∈told
   ·rw[if_neg (fun h=>h D),if_pos M]
    constructor
    ·intro h;cases h
    rintro ⟨_,_,h⟩;exact absurd M (h _ (by simp))
   rw[if_neg (fun h=>h D),if_neg M,kF];simp only[List.map_cons,List.nodup_cons,List.mem_cons,forall_eq_or_imp];constructor
   ·rintro ⟨a,b,c⟩
    exact ⟨⟨D,a⟩,⟨fun I=>c _ I (.inl rfl),b⟩,M,fun n J I=>c n J (.inr I)⟩
   rintro ⟨⟨_,a⟩,⟨b,c⟩,_,d⟩;exact ⟨a,c,fun n J=>by
    rintro (rfl|I)
    ·exact b J
    exact d n J I⟩
  rw[if_pos D];constructor
  ·intro h;cases h
  rintro ⟨h,_⟩;exact absurd (h x (List.mem_cons_self ..)) D
structure jW (f:Fl):Prop where
 nodup:(bf f).Nodup
 ins:∀ j∈f.jobs,∀ n∈j.ins,n∈bf f
 src:∀ x∈f.outs,x.src∈bf f
 told:(f.outs.map (·.name)).Nodup
theorem og {f:Fl}:dK f= .ok ()↔jW f:=by
 have e1:(f.ins.map fun x=>(x.name,x.at_)).map (·.1)=f.ins.map (·.name):=by rw[List.map_map];rfl
 constructor
 ·intro h
  unfold dK at h
  cases I:bP (f.ins.map fun x=>(x.name,x.at_)) [] with
  | error e=>rw[I] at h;cases h
  | ok s1 =>
   rw[I] at h
   cases M:bP (dk f.jobs) s1 with
   | error e=>simp only[bind,Except.bind] at h;rw[M] at h;cases h
   | ok Z =>
    simp only[bind,Except.bind] at h;rw[M] at h;simp only at h
    cases U:bF Z f.jobs with
    | error e=>rw[U] at h;cases h
    | ok u =>
     rw[U] at h;simp only at h;have J:=iA _ _ _ I;have N:=iA _ _ _ M;obtain ⟨n1,-⟩:=qk I;obtain ⟨n2,d2⟩:=qk M;rw[e1] at J n1;rw[iB] at N n2 d2;have O:∀ n,n∈Z↔n∈bf f:=fun n=>by
      rw[N n,J n];unfold bf;rw[List.mem_append];simp[or_comm]
     have hr:=jm.1 U;obtain ⟨t1,t2,-⟩:=kF.1 h;refine ⟨?_,fun j hj n D=>(O n).1 (hr j hj n D),fun x hx=>(O _).1 (t1 x hx),t2⟩;unfold bf;rw[List.nodup_append];exact ⟨n1,n2,fun a ha b hb e=>d2 b hb ((J b).2 (.inl (e ▸ ha)))⟩
 rintro ⟨I,M,U,h4⟩;unfold bf at I;rw[List.nodup_append] at I;obtain ⟨a1,a2,a3⟩:=I;obtain ⟨s1,g1,J⟩:=(iz (f.ins.map fun x=>(x.name,x.at_)) []).2 ⟨by rw[e1];exact a1,fun n _=>by simp⟩;rw[e1] at J;obtain ⟨Z,g2,N⟩:=(iz (dk f.jobs) s1).2 ⟨by rw[iB];exact a2,fun n D hh=>by
  rw[iB] at D;rcases (J n).1 hh with h|h
  ·exact a3 n h n D rfl
  cases h⟩
 rw[iB] at N;have O:∀ n,n∈bf f→n∈Z:=fun n D=>by
  unfold bf at D;rw[N n,J n];rcases List.mem_append.1 D with h|h
  ·exact .inr (.inl h)
  exact .inl h
 unfold dK;rw[g1];simp only[bind,Except.bind];rw[g2];simp only;rw[jm.2 fun j hj n D=>O n (M j hj n D)];simp only;exact kF.2 ⟨fun x hx=>O _ (U x hx),h4,fun n _=>by simp⟩
theorem jW.outs {f:Fl} (h:jW f):(f.jobs.flatMap (·.outs)).Nodup:=by
 have:=h.nodup;unfold bf at this;rw[List.nodup_append] at this;exact this.2.1
theorem jW.apart {f:Fl} (h:jW f) {n:Bs} (D:n∈f.ins.map (·.name)):n∉f.jobs.flatMap (·.outs):=by
 have:=h.nodup;unfold bf at this;rw[List.nodup_append] at this;exact fun I=>this.2.2 n D n I rfl
theorem gP {j:Jb} {ins cs:List (List Cl)} (h:aL j ins= .ok cs):cs.length=j.outs.length:=by
 unfold aL at h;by_cases J:(au j.code).1=0∨ins.length≠(au j.code).1∨j.outs.length≠(au j.code).2
 ·rw[if_pos J] at h;cases h
 rw[if_neg J] at h;have U:j.outs.length=(au j.code).2:=Decidable.byContradiction fun M=>J (.inr (.inr M))
 have O:(au j.code).1≠0:=fun M=>J (.inl M)
 by_cases D:j.code=1∨j.code=9
 ·rw[if_pos D] at h
  unfold aX at h;split at h
  ·cases h
  split at h
  ·cases h
  split at h
  ·cases h
  cases h
  rw[U,List.length_replicate];rcases D with D|D<;>rw[D]<;>rfl
 have N:j.code≠1∧j.code≠9:=⟨fun e=>D (.inl e),fun e=>D (.inr e)⟩;have I:(au j.code).2=1:=by
  revert O
  unfold au;rw[if_neg N.2];split
  ·intro;rfl
  split
  ·intro;rfl
  intro O;exact absurd rfl O
 have h1':cs.length=1:=by
  rw[if_neg D] at h;split at h
  ·unfold jQ at h
   split at h
   ·cases h
   split at h
   ·cases h
   split at h
   ·cases h
   cases h;rfl
  split at h
  ·unfold cw at h
   split at h
   ·cases h
   split at h
   ·cases h
   cases h;rfl
  split at h
  ·split at h
   ·cases h
   cases h;rfl
  split at h
  ·unfold dj at h
   split at h
   ·cases h
   split at h
   ·split at h
    ·cases h
    split at h
    ·cases h
    split at h
    ·cases h
    cases h;rfl
   cases h
  split at h
  ·unfold cI at h
   split at h
   ·cases h
   split at h
   ·split at h
    ·cases h
    split at h
    ·cases h
    cases h;rfl
   cases h
  cases h;rfl
 rw[U,I,h1']
structure E0 (f:Fl) (F:Bs→Option (List Cl)):Prop where
 ins:∀ x∈f.ins,F x.name=some x.cols
 jobs:∀ j∈f.jobs,∃ cs,aL j (j.ins.map fun n=>(F n).getD [])= .ok cs∧∀ i (h:i<j.outs.length) (h':i<cs.length),F j.outs[i]=some cs[i]
 none:∀ n,n∉bf f→F n=none
def na (f:Fl) (done:List Nat) (n:Bs):Prop:=n∈f.ins.map (·.name)∨∃ k∈done,n∈(jb f k).outs
theorem sO {f:Fl} {done:List Nat} {n:Bs} (hd:∀ k∈done,k<f.jobs.length) (h:na f done n):n∈bf f:=by
 unfold bf;rw[List.mem_append];rcases h with h|⟨k,D,I⟩
 ·exact .inl h
 refine .inr (List.mem_flatMap.2 ⟨jb f k,?_,I⟩);rw[ee (hd k D)];exact FE _
theorem jn:∀ {ns:List Bs} {cs:List (List Cl)} {m:Cm},ns.length=cs.length→ns.Nodup→(∀ i (h:i<ns.length) (h':i<cs.length),(gN ns cs m).lookup ns[i]=some cs[i])∧(∀ n,n∉ns→(gN ns cs m).lookup n=m.lookup n)∧(gN ns cs m).map (·.1)=ns.reverse++m.map (·.1)
 | [],[],m,_,_=>⟨fun i h=>absurd h (by simp),fun _ _=>rfl,rfl⟩
 | n::ns,c::cs,m,M,I=>by
  rw[List.nodup_cons] at I;obtain ⟨a,b,e⟩:=jn (ns:=ns) (cs:=cs) (m:=(n,c)::m) (by simpa using M) I.2;refine ⟨fun i h h'=>?_,fun x D=>?_,?_⟩
  ·cases i with
   | zero =>
    show (gN ns cs ((n,c)::m)).lookup n=some c;rw[b n I.1,List.lookup_cons];simp
   | succ i=>exact a i (by simpa using h) (by simpa using h')
  ·rw[List.mem_cons] at D
   show (gN ns cs ((n,c)::m)).lookup x=m.lookup x;rw[b x (fun J=>D (.inr J)),List.lookup_cons];have:(x==n)=false:=by simpa using fun e=>D (.inl e)
   rw[this]
  show (gN ns cs ((n,c)::m)).map (·.1)=(n::ns).reverse++m.map (·.1);rw[e,List.reverse_cons,List.append_assoc];rfl
theorem ry:∀ {l:List In} {m I:Cm},kC l m= .ok I→(l.map (·.name)).Nodup→(∀ x∈l,I.lookup x.name=some x.cols)∧(∀ n,n∉l.map (·.name)→I.lookup n=m.lookup n)∧I.map (·.1)=(l.map (·.name)).reverse++m.map (·.1)∧∀ x∈l,cp x.cols=true
 | [],m,I,h,_=>by cases h;exact ⟨fun x h=>(by cases h),fun _ _=>rfl,rfl,fun x h=>(by cases h)⟩
 | x::l,m,I,h,J=>by
  unfold kC at h;by_cases N:cp x.cols=true
  ·rw[if_pos N] at h
   rw[List.map_cons,List.nodup_cons] at J;obtain ⟨a,b,e,d⟩:=ry h J.2;refine ⟨fun y D=>?_,fun n M=>?_,?_,fun y D=>?_⟩
   ·rcases List.mem_cons.1 D with rfl|D
    ·rw[b _ J.1,List.lookup_cons];simp
    exact a y D
   ·rw[List.map_cons,List.mem_cons] at M
    rw[b n (fun O=>M (.inr O)),List.lookup_cons];have:(n==x.name)=false:=by simpa using fun e=>M (.inl e)
    rw[this]
   ·rw[e,List.map_cons,List.map_cons,List.reverse_cons,List.append_assoc];rfl
   rcases List.mem_cons.1 D with rfl|D
   ·exact N
   exact d y D
  rw[if_neg N] at h;cases h
theorem qm:∀ (l:List In) (m:Cm),(∀ x∈l,cp x.cols=true)→∃ D,kC l m= .ok D
 | [],m,_=>⟨m,rfl⟩
 | x::l,m,h=>by
  unfold kC;rw[if_pos (h x (List.mem_cons_self ..))];exact qm l _ fun y I=>h y (List.mem_cons_of_mem _ I)
def DI (f:Fl) (F:Bs→Option (List Cl)) (done:List Nat) (m:Cm):Prop:=(∀ n,na f done n→m.lookup n=F n)∧(∀ n,¬na f done n→m.lookup n=none)∧(m.map (·.1)).Nodup
theorem rz {f:Fl} (M:jW f) {done:List Nat} {k:Nat} (D:k<f.jobs.length) (hd:∀ x∈done,x<f.jobs.length) (N:k∉done) {n:Bs} (I:n∈(jb f k).outs):¬na f done n:=by
 rw[ee D] at I;rintro (h|⟨O,hk',h⟩)
 ·exact M.apart h (List.mem_flatMap.2 ⟨_,FE D,I⟩)
 have J:=hd O hk';rw[ee J] at h;have:=wn M.outs D J I h;exact N (this ▸ hk')
theorem kG {f:Fl} (N:jW f) {k:Nat} (I:k<f.jobs.length):(jb f k).outs.Nodup:=by
 rw[ee I];have h:=N.outs;have:∀ (D:List Jb),(D.flatMap (·.outs)).Nodup→∀ j∈D,j.outs.Nodup:=fun D=>by
  induction D with
  | nil=>intro _ j M;cases M
  | cons j D ih =>
   intro h J hj';rw[List.flatMap_cons,List.nodup_append] at h;rcases List.mem_cons.1 hj' with rfl|hj'
   ·exact h.1
   exact ih h.2.1 J hj'
 exact this _ h _ (FE I)
theorem qn {f:Fl} {done:List Nat} {k:Nat} (h:bL f done k=true):∀ n∈(jb f k).ins,na f done n:=fun n D=>by
 unfold bL at h;rw[List.all_eq_true] at h;rcases fO.1 (h n D) with h|⟨J,I,M⟩
 ·exact .inl (jl.1 h)
 exact .inr ⟨J,M,(lV I).2⟩
theorem ws {f:Fl} (U:jW f) {F:Bs→Option (List Cl)} {done:List Nat} {m:Cm} {k:Nat} {cs:List (List Cl)} (hA:DI f F done m) (M:k<f.jobs.length) (hd:∀ x∈done,x<f.jobs.length) (hn:k∉done)
  (hl:cs.length=(jb f k).outs.length) (hF:∀ i (h:i<(jb f k).outs.length) (h':i<cs.length),F (jb f k).outs[i]=some cs[i]):DI f F (done++[k]) (gN (jb f k).outs cs m):=by
 obtain ⟨a,b,c⟩:=hA;obtain ⟨p1,N,Z⟩:=jn (ns:=(jb f k).outs) (cs:=cs) (m:=m) hl.symm (kG U M);have D:∀ n,na f (done++[k]) n↔na f done n∨n∈(jb f k).outs:=fun n=>by
  unfold na;constructor
  ·rintro (h|⟨x,I,h⟩)
   ·exact .inl (.inl h)
   rcases List.mem_append.1 I with I|I
   ·exact .inl (.inr ⟨x,I,h⟩)
   rw[List.mem_singleton.1 I] at h;exact .inr h
  rintro ((h|⟨x,I,h⟩)|h)
  ·exact .inl h
  ·exact .inr ⟨x,List.mem_append_left _ I,h⟩
  exact .inr ⟨k,List.mem_append_right _ (List.mem_singleton.2 rfl),h⟩
 refine ⟨fun n h=>?_,fun n h=>?_,?_⟩
 ·by_cases J:n∈(jb f k).outs
  ·obtain ⟨i,hi,rfl⟩:=List.getElem_of_mem J
   rw[p1 i hi (by omega),hF i hi (by omega)]
  rw[N n J];exact a n (((D n).1 h).resolve_right J)
 ·rw[N n fun J=>h ((D n).2 (.inr J))]
  exact b n fun hh=>h ((D n).2 (.inl hh))
 rw[Z,List.nodup_append];refine ⟨(List.reverse_perm _).nodup_iff.2 (kG U M),c,fun x I y hy e=>?_⟩;subst e;have h0:=b x (rz U M hd hn (List.mem_reverse.1 I));have:(m.lookup x).isSome=true:=by
  clear h0 p1 N Z a b c
  induction m with
  | nil=>cases hy
  | cons q m ih =>
   obtain ⟨q1,q2⟩:=q;rw[List.lookup_cons];by_cases O:x=q1
   ·subst O;simp
   have hq':(x==q1)=false:=by simpa using O
   rw[hq'];exact ih ((List.mem_cons.1 hy).resolve_left O)
 rw[h0] at this;cases this
theorem fg.at {f:Fl} {done l:List Nat} {k:Nat} (h:fg f (done++k::l)):bL f done k=true∧k<f.jobs.length∧k∉done∧∀ x∈done,x<f.jobs.length:=by
 have D:=h.ready done.length (by simp);rw[List.take_left' rfl,List.getElem_append_right (Fy _)] at D;refine ⟨by simpa using D,h.lt k (by simp),fun J=>?_,fun x I=>h.lt x (List.mem_append_left _ I)⟩;have:=h.nodup;rw[List.nodup_append] at this;exact this.2.2 k J k (List.mem_cons_self ..) rfl
theorem lW {f:Fl} (Z:jW f) {F:Bs→Option (List Cl)} (O:E0 f F):∀ (l done:List Nat) (m:Cm),fg f (done++l)→DI f F done m→∃ D,ed f l m= .ok D∧DI f F (done++l) D
 | [],done,m,_,h=>⟨m,rfl,by rw[List.append_nil];exact h⟩
 | k::l,done,m,N,h=>by
  obtain ⟨hr,J,I,hd⟩:=N.at;obtain ⟨cs,U,h2⟩:=O.jobs (jb f k) (by rw[ee J];exact FE _);have e:(jb f k).ins.map (ep m)=(jb f k).ins.map fun n=>(F n).getD []:=List.map_congr_left fun n I=>by
   unfold ep;rw[h.1 n (qn hr n I)]
  have hA':=ws Z h J hd I (gP U) h2;obtain ⟨D,h3,M⟩:=lW Z O l (done++[k]) _ (by rw[List.append_assoc];exact N) hA';refine ⟨D,?_,by rw[List.append_assoc] at M;exact M⟩;unfold ed;rw[e,U];exact h3
theorem oh {f:Fl} (O:jW f):∀ (l done:List Nat) (m I:Cm),fg f (done++l)→(∀ n,¬na f done n→m.lookup n=none)→(m.map (·.1)).Nodup→ed f l m= .ok I →
  (∀ n,na f done n→I.lookup n=m.lookup n)∧∀ k∈l,∃ cs,aL (jb f k) ((jb f k).ins.map (ep I))= .ok cs∧∀ i (h:i<(jb f k).outs.length) (h':i<cs.length),I.lookup (jb f k).outs[i]=some cs[i]
 | [],done,m,I,_,_,_,h=>by cases h;exact ⟨fun _ _=>rfl,fun k J=>(by cases J)⟩
 | k::l,done,m,I,hv,hb,hc,h=>by
  obtain ⟨hr,J,hn,hd⟩:=hv.at;unfold ed at h
  cases U:aL (jb f k) ((jb f k).ins.map (ep m)) with
  | error e=>rw[U] at h;cases h
  | ok cs =>
   rw[U] at h;have hl:=gP U;obtain ⟨p1,p2,p3⟩:=jn (ns:=(jb f k).outs) (cs:=cs) (m:=m) hl.symm (kG O J);have hA:DI f (fun n=>(gN (jb f k).outs cs m).lookup n) (done++[k]) (gN (jb f k).outs cs m):=by
    have Z:DI f (fun n=>(gN (jb f k).outs cs m).lookup n) done m:=⟨fun n hn'=>(p2 n fun ho=>rz O J hd hn ho hn').symm,hb,hc⟩;exact ws O Z J hd hn hl p1
   obtain ⟨q1,q2⟩:=oh O l (done++[k]) _ I (by rw[List.append_assoc];exact hv) hA.2.1 hA.2.2 h;have D:∀ n,na f done n→I.lookup n=m.lookup n:=fun n N=>by
    rw[q1 n (by
     rcases N with h|⟨x,M,h⟩
     ·exact .inl h
     exact .inr ⟨x,List.mem_append_left _ M,h⟩)]
    exact p2 n fun ho=>rz O J hd hn ho N
   refine ⟨D,fun x M=>?_⟩;rcases List.mem_cons.1 M with rfl|M
   ·refine ⟨cs,?_,fun i hi hi'=>?_⟩
    ·rw[←U]
     congr 1
     exact List.map_congr_left fun n hn'=>by unfold ep;rw[D n (qn hr n hn')]
    rw[q1 _ (.inr ⟨x,List.mem_append_right _ (List.mem_singleton.2 rfl),FE hi⟩),p1 i hi hi']
   exact q2 x M
theorem jo {f:Fl} {m:Cm} (h:cQ f= .ok m):∃ D l,kC f.ins []= .ok D∧jW f∧cG f= .ok l∧ed f l D= .ok m:=by
 unfold cQ at h
 cases M:kC f.ins [] with
 | error e=>rw[M] at h;cases h
 | ok D =>
  rw[M] at h;simp only[bind,Except.bind] at h
  cases I:dK f with
  | error e=>rw[I] at h;cases h
  | ok u =>
   rw[I] at h;simp only at h
   cases J:cG f with
   | error e=>rw[J] at h;cases h
   | ok l =>
    rw[J] at h;exact ⟨D,l,rfl,og.1 I,rfl,h⟩
theorem DJ {f:Fl} (U:jW f) {F:Bs→Option (List Cl)} (O:∀ x∈f.ins,F x.name=some x.cols) {I:Cm} (h:kC f.ins []= .ok I):DI f F [] I:=by
 have J:(f.ins.map (·.name)).Nodup:=by
  have:=U.nodup;unfold bf at this;rw[List.nodup_append] at this;exact this.1
 obtain ⟨a,b,c,d⟩:=ry h J;refine ⟨fun n hd=>?_,fun n hd=>?_,?_⟩
 ·rcases hd with hd|⟨k,M,_⟩
  ·obtain ⟨x,D,rfl⟩:=List.mem_map.1 hd
   rw[a x D,O x D]
  cases M
 ·exact b n fun N=>hd (.inl N)
 rw[c,List.map_nil,List.append_nil];exact (List.reverse_perm _).nodup_iff.2 J
structure ED (f:Fl) (m:Cm):Prop where
 cols:∀ x∈f.ins,cp x.cols=true
 names:jW f
 ranked:kE f
 sol:E0 f fun n=>m.lookup n
 keys:(m.map (·.1)).Nodup
theorem zS {f:Fl} {l:List Nat} (I:fg f l) (N:l.length=f.jobs.length) {n:Bs} (h:n∈bf f):na f l n:=by
 unfold bf at h;rcases List.mem_append.1 h with h|h
 ·exact .inl h
 obtain ⟨j,J,M⟩:=List.mem_flatMap.1 h;obtain ⟨k,D,rfl⟩:=List.getElem_of_mem J;exact .inr ⟨k,ob I.nodup I.lt N k D,by rw[ee D];exact M⟩
theorem sP {f:Fl} {m:Cm} (h:cQ f= .ok m):ED f m:=by
 obtain ⟨m0,l,h1,M,h3,h4⟩:=jo h;obtain ⟨N,hl⟩:=fF h3;have hn:(f.ins.map (·.name)).Nodup:=by
  have:=M.nodup;unfold bf at this;rw[List.nodup_append] at this;exact this.1
 obtain ⟨a,b,c,d⟩:=ry h1 hn;have hA:=DJ M (F:=fun n=>m0.lookup n) a h1;obtain ⟨q1,q2⟩:=oh M l [] m0 m N hA.2.1 hA.2.2 h4;have D:∀ x∈f.ins,m.lookup x.name=some x.cols:=fun x J=>by rw[q1 _ (.inl (List.mem_map.2 ⟨x,J,rfl⟩)),a x J]
 have I:∀ j∈f.jobs,∃ cs,aL j (j.ins.map fun n=>(m.lookup n).getD [])= .ok cs∧∀ i (h:i<j.outs.length) (h':i<cs.length),m.lookup j.outs[i]=some cs[i]:=fun j U=>by
  obtain ⟨k,O,rfl⟩:=List.getElem_of_mem U;obtain ⟨cs,Z,e2⟩:=q2 k (ob N.nodup N.lt hl k O);rw[ee O] at Z;have e2':∀ i (h:i<f.jobs[k].outs.length) (h':i<cs.length),m.lookup f.jobs[k].outs[i]=some cs[i]:=by
   have e3:=ee O;intro i h h';have:=e2 i (by rw[e3];exact h) h';simpa only[e3] using this
  exact ⟨cs,Z,e2'⟩
 obtain ⟨m',h5,h6⟩:=lW (F:=fun n=>if n∈bf f then m.lookup n else none) M ⟨fun x J=>by
   show (if x.name∈bf f then m.lookup x.name else none)=some x.cols;rw[if_pos (by unfold bf;exact List.mem_append_left _ (List.mem_map.2 ⟨x,J,rfl⟩)),D x J],fun j U=>by
   obtain ⟨cs,Z,e2⟩:=I j U;refine ⟨cs,?_,fun i hi hi'=>?_⟩
   ·rw[←Z]
    congr 1
    exact List.map_congr_left fun n hn'=>by rw[if_pos (M.ins j U n hn')]
   ·show (if j.outs[i]∈bf f then m.lookup j.outs[i] else none)=some cs[i]
    rw[if_pos (by unfold bf;exact List.mem_append_right _ (List.mem_flatMap.2 ⟨j,U,FE hi⟩)),e2 i hi hi'],fun n hn'=>by
   show (if n∈bf f then m.lookup n else none)=none;rw[if_neg hn']⟩ l [] m0 N (DJ M (fun x J=>by
   show (if x.name∈bf f then m.lookup x.name else none)=some x.cols;rw[if_pos (by unfold bf;exact List.mem_append_left _ (List.mem_map.2 ⟨x,J,rfl⟩)),D x J]) h1)
 rw[h4] at h5;cases h5
 exact ⟨d,M,xK N hl,⟨D,I,fun n hn'=>h6.2.1 n fun hd=>hn' (sO (fun k O=>N.lt k O) hd)⟩,h6.2.2⟩
theorem zT {f:Fl} (hc:∀ x∈f.ins,cp x.cols=true) (D:jW f) (hr:kE f) {F:Bs→Option (List Cl)} (J:E0 f F):∃ m l,cQ f= .ok m∧cG f= .ok l∧fg f l∧l.length=f.jobs.length∧(∀ n,m.lookup n=F n)∧(m.map (·.1)).Nodup:=by
 obtain ⟨m0,O⟩:=qm f.ins [] hc;obtain ⟨l,M⟩:=sN D.outs hr;obtain ⟨h,U⟩:=fF M;obtain ⟨m,h4,N⟩:=lW D J l [] m0 h (DJ D J.ins O);refine ⟨m,l,?_,M,h,U,fun n=>?_,N.2.2⟩
 ·unfold cQ
  rw[O];simp only[bind,Except.bind];rw[og.2 D];simp only;rw[M];exact h4
 by_cases I:n∈bf f
 ·exact N.1 n (zS h U I)
 rw[N.2.1 n (fun hd=>I (sO (fun k Z=>h.lt k Z) hd)),J.none n I]
def iO (name h:Bs):Jb:=⟨0,6,[name],[h],[],[],⟨[],zV⟩,⟨[],zV⟩,0⟩
def aW (f:Fl) (name:Bs):Fl:=⟨f.ins,iO name ((f.ins.headD ⟨0,[],[]⟩).name)::f.jobs,f.outs⟩
theorem wu (f:Fl) (name:Bs) (k:Nat):jb (aW f name) (k+1)=jb f k:=rfl
theorem xL {f:Fl} {name n:Bs} (h:n≠name):kB (aW f name) n=(kB f n).map (· + 1):=by
 unfold kB aW;rw[List.findIdx?_cons];have:(iO name ((f.ins.headD ⟨0,[],[]⟩).name)).outs.contains n=false:=by
  show [name].contains n=false;simp[h]
 rw[this];rfl
theorem oi {f:Fl} {name n:Bs} (h:n≠name) (out:List Nat):eK (aW f name) (0::out.map (· + 1)) n=eK f out n:=by
 unfold eK;rw[xL h];congr 1
 cases kB f n with
 | none=>rfl
 | some k =>
  show (0::out.map (· + 1)).contains (k+1)=out.contains k;rw[Bool.eq_iff_iff];simp
theorem uG {f:Fl} {name:Bs} (h:∀ j∈f.jobs,∀ n∈j.ins,n≠name) (out:List Nat) {k:Nat} (I:k<f.jobs.length):bL (aW f name) (0::out.map (· + 1)) (k+1)=bL f out k:=by
 unfold bL;rw[wu,ee I,Bool.eq_iff_iff,List.all_eq_true,List.all_eq_true];exact ⟨fun J n D=>by rw[←oi (h _ (FE I) n D)];exact J n D,fun J n D=>by rw[oi (h _ (FE I) n D)];exact J n D⟩
theorem j7 (p:Nat→Bool) (q:Nat→Bool):∀ (l:List Nat),(∀ k∈l,p (k+1)=q k)→(l.map (· + 1)).find? p=(l.find? q).map (· + 1)
 | [],_=>rfl
 | x::l,h=>by
  rw[List.map_cons,List.find?_cons,List.find?_cons,h x (List.mem_cons_self ..)]
  cases q x with
  | true=>rfl
  | false=>exact j7 p q l fun k D=>h k (List.mem_cons_of_mem _ D)
theorem xM {f:Fl} {name:Bs} (h:∀ j∈f.jobs,∀ n∈j.ins,n≠name) (out:List Nat):dJ (aW f name) (0::out.map (· + 1))=(dJ f out).map (· + 1):=by
 unfold dJ;rw[show (aW f name).jobs.length=f.jobs.length+1 by simp[aW],List.range_succ_eq_map,List.find?_cons];have I:(!(0::out.map (· + 1)).contains 0&&bL (aW f name) (0::out.map (· + 1)) 0)=false:=by simp
 rw[I];exact j7 _ _ _ fun k D=>by
  rw[uG h out (List.mem_range.1 D)];congr 1
  rw[Bool.eq_iff_iff];simp
theorem oj {f:Fl} {name:Bs} (h:∀ j∈f.jobs,∀ n∈j.ins,n≠name):∀ (n:Nat) (out l:List Nat),cW f n out= .ok l→cW (aW f name) n (0::out.map (· + 1))= .ok (0::l.map (· + 1))
 | 0,out,l,D=>by cases D;rfl
 | n+1,out,l,D=>by
  unfold cW at D ⊢;rw[xM h]
  cases I:dJ f out with
  | none=>rw[I] at D;cases D
  | some k =>
   rw[I] at D;have:=oj h n (out++[k]) l D;rw[List.map_append] at this;exact this
theorem uH {f:Fl} {name:Bs} (I:f.ins≠[]):dJ (aW f name) []=some 0:=by
 unfold dJ;rw[show (aW f name).jobs.length=f.jobs.length+1 by simp[aW],List.range_succ_eq_map,List.find?_cons];have:bL (aW f name) [] 0=true:=by
  unfold bL;rw[List.all_eq_true];intro n D;have hn':n=(f.ins.headD ⟨0,[],[]⟩).name:=List.mem_singleton.1 D;refine fO.2 (.inl (jl.2 ?_))
  cases h:f.ins with
  | nil=>exact absurd h I
  | cons x l =>
   rw[hn',h];show x.name∈(aW f name).ins.map (·.name);show x.name∈f.ins.map (·.name);rw[h];simp
 rw[this];rfl
theorem uI {f:Fl} {m:Cm} {name:Bs} (h:cQ f= .ok m) (hi:f.ins≠[]) (hn:name∉bf f) :
  ∃ m' l,cQ (aW f name)= .ok m'∧cG f= .ok l∧cG (aW f name)= .ok (0::l.map (· + 1))∧(∀ n,m'.lookup n=if n=name then some (f.ins.headD ⟨0,[],[]⟩).cols else m.lookup n)∧(m'.map (·.1)).Nodup∧m'.length=m.length+1:=by
 obtain ⟨h1,h2,h3,h4,h5⟩:=sP h;obtain ⟨U,O,Z⟩:∃ U,U∈f.ins∧f.ins.headD ⟨0,[],[]⟩=U:=by
  cases hf:f.ins with
  | nil=>exact absurd hf hi
  | cons x l=>exact ⟨x,List.mem_cons_self ..,rfl⟩
 have aA:bf (aW f name)=f.ins.map (·.name)++(name::f.jobs.flatMap (·.outs)):=rfl;have M:∀ n,n∈bf (aW f name)↔n=name∨n∈bf f:=fun n=>by
  rw[aA];unfold bf;simp only[List.mem_append,List.mem_cons];constructor
  ·rintro (h|h|h)
   ·exact .inr (.inl h)
   ·exact .inl h
   exact .inr (.inr h)
  rintro (h|h|h)
  ·exact .inr (.inl h)
  ·exact .inl h
  exact .inr (.inr h)
 have N:∀ n∈bf f,n≠name:=fun n I e=>hn (e ▸ I)
 have a0:∀ x∈f.ins,x.name∈bf f:=fun x Z=>by unfold bf;exact List.mem_append_left _ (List.mem_map.2 ⟨x,Z,rfl⟩)
 have hN:jW (aW f name):=by
  refine ⟨?_,fun j J n I=>?_,fun x Z=>(M _).2 (.inr (h2.src x Z)),h2.told⟩
  ·have hp:(bf (aW f name)).Perm (name::bf f):=by
    rw[aA];unfold bf;exact List.perm_middle
   exact hp.nodup_iff.2 (List.nodup_cons.2 ⟨hn,h2.nodup⟩)
  rcases List.mem_cons.1 J with rfl|J
  ·obtain rfl:n=(f.ins.headD ⟨0,[],[]⟩).name:=List.mem_singleton.1 I
   rw[Z];exact (M _).2 (.inr (a0 _ O))
  exact (M _).2 (.inr (h2.ins j J n I))
 obtain ⟨r,hr⟩:=h3;have av:∀ j∈f.jobs,∀ n∈j.ins,n≠name:=fun j J n I=>N n (h2.ins j J n I)
 have a2:∀ j∈f.jobs,∀ n∈j.outs,n∈bf f:=fun j J n I=>by unfold bf;exact List.mem_append_right _ (List.mem_flatMap.2 ⟨j,J,I⟩)
 have hR:kE (aW f name):=⟨r,fun j J n I=>by
  rcases List.mem_cons.1 J with rfl|J
  ·obtain rfl:n=(f.ins.headD ⟨0,[],[]⟩).name:=List.mem_singleton.1 I
   rw[Z];exact .inl (List.mem_map.2 ⟨U,O,rfl⟩)
  rcases hr j J n I with h|⟨d,hd,h⟩
  ·exact .inl h
  exact .inr ⟨d,List.mem_cons_of_mem _ hd,h⟩⟩
 have hS:E0 (aW f name) fun n=>if n=name then some (f.ins.headD ⟨0,[],[]⟩).cols else m.lookup n:=by
  refine ⟨fun x D=>?_,fun j J=>?_,fun n I=>?_⟩
  ·show (if x.name=name then _ else _)=_
   rw[if_neg (N _ (a0 x D))];exact h4.ins x D
  ·rcases List.mem_cons.1 J with rfl|J
   ·refine ⟨[U.cols],?_,fun i hi' ad=>?_⟩
    ·have e:((iO name ((f.ins.headD ⟨0,[],[]⟩).name)).ins.map fun n=>((if n=name then some (f.ins.headD ⟨0,[],[]⟩).cols else m.lookup n):Option (List Cl)).getD [])=[U.cols]:=by
      show [((if (f.ins.headD ⟨0,[],[]⟩).name=name then some (f.ins.headD ⟨0,[],[]⟩).cols else m.lookup (f.ins.headD ⟨0,[],[]⟩).name):Option (List Cl)).getD []]=_;rw[Z,if_neg (N _ (a0 U O)),h4.ins U O];rfl
     rw[e];rfl
    obtain rfl:i=0:=by simp[iO] at hi';omega
    show (if name=name then some (f.ins.headD ⟨0,[],[]⟩).cols else m.lookup name)=some U.cols;rw[if_pos rfl,Z]
   obtain ⟨cs,a,b⟩:=h4.jobs j J;refine ⟨cs,?_,fun i hi' ad=>?_⟩
   ·rw[←a]
    congr 1
    exact List.map_congr_left fun n I=>by rw[if_neg (av j J n I)]
   show (if j.outs[i]=name then _ else m.lookup j.outs[i])=_;rw[if_neg (N _ (a2 j J _ (FE hi')))];exact b i hi' ad
  show (if n=name then _ else m.lookup n)=none;rw[if_neg fun e=>I ((M n).2 (.inl e))];exact h4.none n fun a4=>I ((M n).2 (.inr a4))
 obtain ⟨m',l',a,b,c,d,e,k⟩:=zT (f:=aW f name) h1 hN hR hS;obtain ⟨_,l,_,_,g3,_⟩:=jo h;refine ⟨m',l,a,g3,?_,e,k,?_⟩
 ·unfold cG at g3 ⊢
  have:=oj av _ _ _ g3;rw[show (aW f name).jobs.length=f.jobs.length+1 by simp[aW]];unfold cW;rw[uH hi];exact this
 have a1:∀ x,x∈m'.map (·.1)↔x∈name::m.map (·.1):=fun x=>by
  rw[←cX,e x,List.mem_cons,←cX];by_cases D:x=name
  ·simp[D]
  simp[D]
 have a3:name∉m.map (·.1):=fun I=>by
  have:=cX.2 I;rw[h4.none name hn] at this;cases this
 have l1:=gO k (fun x D=>(a1 x).1 D);have l2:=gO (List.nodup_cons.2 ⟨a3,h5⟩) (fun x D=>(a1 x).2 D);simp only[List.length_map,FG] at l1 l2;omega
end
section
open Go.RowKit Go.BigFrame
attribute [local go_sem] ag ab ae af
attribute [local go_sem] KW.cell
def EF (a:Ar):Value:= .agg #[FM (bs a.col),FR FS a.val.kind,FR FS a.val.num,FM (bs a.val.word)]
def eL:Option Nat→Int
 | some i=>(i:Int)
 | none=> -1
theorem sV (l:List Cl) (nm:Bs):ej (fun c=>c.name==nm) l=eL (an l nm):=by
 unfold ej an eL;split<;>rename_i h<;>rw[h]
theorem uO (nm:Bs) (d:Cl) (b:Nat) (w:World) (D:w.cell? ⟨b,0,none⟩=some (FM (bs nm))) :
  Calls Tryz.prog 132 #[BM d,FO (some ⟨b,0,none⟩)] w fun e w'=>e=FP (.bool (d.name==nm))∧aa [] w w':=by
 have J:=FC _ _ D;have hb':(w.alloc (FQ #[FM (bs d.name),FR FS d.kind] 64)).cell? ⟨b,0,none⟩=some (FM (bs nm)):=((FK [] w).alloc _).cell_of D (by simp);have h:aa [] w (w.alloc (FQ #[FM (bs d.name),FR FS d.kind] 64)):=(FK [] w).alloc _;have I:=Fx h;clear h;show Calls _ _ #[.agg #[FM (bs d.name),FR FS d.kind],FO (some ⟨b,0,none⟩)] w _;go_enter Tryz.func132,Tryz.ntmps132
 go_wp2;go_ret;exact ⟨rfl,I.out⟩
theorem bU (l:List Cl) (nm:Bs) (A:Option Addr) (c:Nat) (w:World) (J:Rd w [] 2 A l.length (ai l)) (O:l.length≤4294967296) :
  Calls Tryz.prog 89 #[FN A l.length c,FM (bs nm)] w fun e w'=>e=FP (FR FS (eL (an l nm)))∧aa [] w w':=by
 have D:aa [] w (w.alloc (FQ #[FM (bs nm)] 9)):=(FK [] w).alloc _;have M:(w.alloc (FQ #[FM (bs nm)] 9)).cell? ⟨w.heap.size,0,none⟩=some (FM (bs nm)):=(FL _ _ _).cell 0;have h:=iU 132 #[FO (some ⟨w.heap.size,0,none⟩)] (enters_of Tryz.func132 (by kernel_rfl) rfl) (fun c=>c.name==nm) l A c (w.alloc (FQ #[FM (bs nm)] 9)) (J.keep D) O (fun d _ W q=>uO nm d _ W (q.cell_of M (by simp)));rw[sV] at h;have H:=Fx h;have N:=Fx D;clear h D M J;generalize eL (an l nm)=r at *;go_enter Tryz.func89,Tryz.ntmps89
 go_wp2_with fail
 refine H.out.mono ?_;rintro e U ⟨rfl,I⟩;go_wp2;go_ret;exact ⟨rfl,N.out.trans I⟩
theorem EG (b:Vl) (W:World):(binOp .neq 46 (.agg #[FR FS b.kind,FR FS b.num,FM (bs b.word)]) (.agg #[FR FS 0,FR FS 0,FM ⟨#[]⟩])).run Tryz.prog W= .ok (.bool (!decide (b=zV))) W:=Dj b zV W
theorem oq (a:Ar) (l:List Cl) (A:Option Addr) (c:Nat) (w:World) (hA:Rd w [] 2 A l.length (ai l)) (hl:l.length≤4294967296) :
  Calls Tryz.prog 90 #[EF a,FN A l.length c] w fun e w'=>e=FP (FR FS (dU a l))∧aa [] w w':=by
 obtain ⟨nm,v⟩:=a;show Calls _ _ #[.agg #[FM (bs nm),FR FS v.kind,FR FS v.num,FM (bs v.word)],FN A l.length c] w _;have a0:aa [] w (w.alloc (FQ #[FM (bs nm),FR FS v.kind,FR FS v.num,FM (bs v.word)] 48)):=(FK [] w).alloc _;have I:=Fx a0;have O:=Fx (fun W=>cB v W);have HF:=Fx (fun W (q:aa [] w W)=>bU l nm A c W (hA.keep q) hl);have HA:=Fx hA;obtain ⟨R,hR⟩:∃ R,dU ⟨nm,v⟩ l=R:=⟨_,rfl⟩
 rw[hR];have HR:=Fx hR;clear a0 hA hR
 cases nm with
 | nil =>
  have D:Hid (R=if eS v then v.kind else 0):=Fx (by rw[←HR.out];unfold dU;rw[if_pos rfl]);clear HR
  cases hr:eS v with
  | false =>
   rw[hr] at O D;clear hr;go_enter Tryz.func90,Tryz.ntmps90
   go_wp2_with fail
   refine (O.out _).mono ?_;rintro e w2 ⟨rfl,h⟩;go_wp2;go_ret;exact ⟨by rw[D.out];rfl,I.out.trans h⟩
  | true =>
   rw[hr] at O D;clear hr;go_enter Tryz.func90,Tryz.ntmps90
   go_wp2_with fail
   refine (O.out _).mono ?_;rintro e w2 ⟨rfl,h⟩;have c1:=h.cell_of (p:=⟨w.heap.size,1,none⟩) (v:=FR FS v.kind) ((FL _ _ _).cell 1) (by simp);have J:=Fx (I.out.trans h);clear h;go_wp2;go_ret;exact ⟨by rw[D.out];rfl,J.out⟩
 | cons x t =>
  have M:R=match an l (x::t) with|none=>0|some k=>if v=zV then (l.getD k zC).kind else 0:=by
   rw[←HR.out];unfold dU;rw[if_neg (by simp)];cases an l (x::t)<;>rfl
  clear HR
  cases N:an l (x::t) with
  | none =>
   rw[N] at HF M;have D:Hid (R=0):=Fx M;clear M;go_enter Tryz.func90,Tryz.ntmps90
   go_wp2_with fail
   refine (HF.out _ I.out).mono ?_;rintro e w2 ⟨rfl,h⟩;have J:=Fx (I.out.trans h);clear h;show _;simp only[eL];go_wp2;go_ret;exact ⟨by rw[D.out];rfl,J.out⟩
  | some k =>
   rw[N] at HF M;have ad:k<l.length:=(List.findIdx?_eq_some_iff_getElem.1 N).1;have aA:l.getD k zC=l[k]:=by rw[FJ,FA ad];rfl
   obtain ⟨b,o,a1,_,hb,av⟩:=HA.out.open' (by omega) (by omega);subst a1;have d1:=av (k*2+1) _ (aN l k ad).2;rw[←Nat.add_assoc] at d1;have a2:((k:Int)<0)=False:=eq_false (by omega);have a3:(0:Int)≤(k:Int):=by omega
   have a4:(k:Int)<(l.length:Int):=by omega
   have hq:=EG v;have U:R=if v=zV then (l.getD k zC).kind else 0:=M
   rw[aA] at U;have D:=Fx U;clear M U;generalize l[k]=cc at *;clear N av aA;by_cases hz:v=zV
   ·rw[decide_eq_true hz] at hq
    have Z:Hid (R=cc.kind):=Fx (by rw[D.out,if_pos hz]);clear hz D;go_enter Tryz.func90,Tryz.ntmps90
    go_wp2_with fail
    refine (HF.out _ I.out).mono ?_;rintro e w2 ⟨rfl,h⟩;simp only[eL];have c1:=h.cell_of (p:=⟨w.heap.size,1,none⟩) (v:=FR FS v.kind) ((FL _ _ _).cell 1) (by simp);have c2:=h.cell_of (p:=⟨w.heap.size,2,none⟩) (v:=FR FS v.num) ((FL _ _ _).cell 2) (by simp);have c3:=h.cell_of (p:=⟨w.heap.size,3,none⟩) (v:=FM (bs v.word)) ((FL _ _ _).cell 3) (by simp);have d2:=(I.out.trans h).cell_of d1 (by simp);have J:=Fx (I.out.trans h);clear h;go_wp2;go_ret;exact ⟨by rw[Z.out];rfl,J.out⟩
   rw[decide_eq_false hz] at hq;have Z:Hid (R=0):=Fx (by rw[D.out,if_neg hz]);clear hz D;go_enter Tryz.func90,Tryz.ntmps90
   go_wp2_with fail
   refine (HF.out _ I.out).mono ?_;rintro e w2 ⟨rfl,h⟩;simp only[eL];have c1:=h.cell_of (p:=⟨w.heap.size,1,none⟩) (v:=FR FS v.kind) ((FL _ _ _).cell 1) (by simp);have c2:=h.cell_of (p:=⟨w.heap.size,2,none⟩) (v:=FR FS v.num) ((FL _ _ _).cell 2) (by simp);have c3:=h.cell_of (p:=⟨w.heap.size,3,none⟩) (v:=FM (bs v.word)) ((FL _ _ _).cell 3) (by simp);have J:=Fx (I.out.trans h);clear h;go_wp2;go_ret;exact ⟨by rw[Z.out];rfl,J.out⟩
theorem du (code:Int) (w:World):Calls Tryz.prog 57 #[FR FS code] w fun e w'=>e=FP (.tuple #[FR FS ((au code).1:Int),FR FS ((au code).2:Int)])∧w=w':=by
 obtain ⟨R,M⟩:∃ R,au code=R:=⟨_,rfl⟩
 rw[M];have h:=Fx M;clear M;by_cases h5:code=5
 ·subst h5
  have D:Hid (R=(2,1)):=Fx (h.out.symm.trans (by decide));clear h;go_enter Tryz.func57,Tryz.ntmps57
  go_wp2;go_ret2;exact ⟨by rw[D.out];rfl,rfl⟩
 have t5:(code==5)=false:=by rw[beq_eq_false_iff_ne];exact h5
 by_cases N:code=7
 ·subst N
  have D:Hid (R=(2,1)):=Fx (h.out.symm.trans (by decide));clear h;go_enter Tryz.func57,Tryz.ntmps57
  go_wp2;go_ret2;exact ⟨by rw[D.out];rfl,rfl⟩
 have t7:(code==7)=false:=by rw[beq_eq_false_iff_ne];exact N
 by_cases h9:code=9
 ·subst h9
  have D:Hid (R=(1,2)):=Fx (h.out.symm.trans (by decide));clear h;go_enter Tryz.func57,Tryz.ntmps57
  go_wp2;go_ret2;exact ⟨by rw[D.out];rfl,rfl⟩
 have t9:(code==9)=false:=by rw[beq_eq_false_iff_ne];exact h9
 by_cases O:code=1
 ·subst O
  have D:Hid (R=(1,1)):=Fx (h.out.symm.trans (by decide));clear h;go_enter Tryz.func57,Tryz.ntmps57
  go_wp2;go_ret2;exact ⟨by rw[D.out];rfl,rfl⟩
 have t1:(code==1)=false:=by rw[beq_eq_false_iff_ne];exact O
 by_cases I:code=2
 ·subst I
  have D:Hid (R=(1,1)):=Fx (h.out.symm.trans (by decide));clear h;go_enter Tryz.func57,Tryz.ntmps57
  go_wp2;go_ret2;exact ⟨by rw[D.out];rfl,rfl⟩
 have t2:(code==2)=false:=by rw[beq_eq_false_iff_ne];exact I
 by_cases Z:code=3
 ·subst Z
  have D:Hid (R=(1,1)):=Fx (h.out.symm.trans (by decide));clear h;go_enter Tryz.func57,Tryz.ntmps57
  go_wp2;go_ret2;exact ⟨by rw[D.out];rfl,rfl⟩
 have t3:(code==3)=false:=by rw[beq_eq_false_iff_ne];exact Z
 by_cases J:code=4
 ·subst J
  have D:Hid (R=(1,1)):=Fx (h.out.symm.trans (by decide));clear h;go_enter Tryz.func57,Tryz.ntmps57
  go_wp2;go_ret2;exact ⟨by rw[D.out];rfl,rfl⟩
 have t4:(code==4)=false:=by rw[beq_eq_false_iff_ne];exact J
 by_cases h6:code=6
 ·subst h6
  have D:Hid (R=(1,1)):=Fx (h.out.symm.trans (by decide));clear h;go_enter Tryz.func57,Tryz.ntmps57
  go_wp2;go_ret2;exact ⟨by rw[D.out];rfl,rfl⟩
 have t6:(code==6)=false:=by rw[beq_eq_false_iff_ne];exact h6
 by_cases U:code=8
 ·subst U
  have D:Hid (R=(1,1)):=Fx (h.out.symm.trans (by decide));clear h;go_enter Tryz.func57,Tryz.ntmps57
  go_wp2;go_ret2;exact ⟨by rw[D.out];rfl,rfl⟩
 have t8:(code==8)=false:=by rw[beq_eq_false_iff_ne];exact U
 have D:Hid (R=(0,0)):=Fx (h.out.symm.trans (by unfold au;rw[if_neg (by omega),if_neg (by omega),if_neg (by omega)]));clear h h5 N h9 O I Z J h6 U;go_enter Tryz.func57,Tryz.ntmps57
 go_wp2;go_ret2;exact ⟨by rw[D.out];rfl,rfl⟩
def eM (j:Jb) (D:Option Addr) (I:Nat) (h:Option Addr) (M J:Nat) (N:Option Addr) (cc:Nat):Value :=
 .agg #[FR FS j.at_,FR FS j.code,FN D j.outs.length I,FN h M J,FN N j.cols.length cc,FM (bs j.op),FM (bs j.left.col),FR FS j.left.val.kind,FR FS j.left.val.num,FM (bs j.left.val.word),FM (bs j.right.col),FR FS j.right.val.kind,FR FS j.right.val.num,FM (bs j.right.val.word),FR FS j.retry]
structure gT (w:World) (j:Jb) (Ao:Option Addr) (co:Nat) (Ac:Option Addr) (cc:Nat):Prop where
 outs:Rd w [] 1 Ao j.outs.length (strs j.outs)
 oc:j.outs.length≤co
 cols:Rd w [] 1 Ac j.cols.length (strs j.cols)
 cc:j.cols.length≤cc
 lo:j.outs.length≤4294967296
 lc:j.cols.length≤4294967296
theorem gT.quiet {w w':World} {j:Jb} {I:Option Addr} {J:Nat} {M:Option Addr} {cc:Nat} (h:gT w j I J M cc) (D:aa [] w w'):gT w' j I J M cc:=⟨h.outs.keep D,h.oc,h.cols.keep D,h.cc,h.lo,h.lc⟩
def gA (w:World) (u:Value) (l:List Cl):Prop:=∃ A c,u=FN A l.length c∧l.length≤c∧Rd w [] 2 A l.length (ai l)
def aU (w:World) (A:Option Addr) (D:List (List Cl)):Prop :=
 ∃ us:List Value,us.length=D.length∧Rd w [] 1 A D.length us∧∀ i (h:i<us.length) (h':i<D.length),gA w us[i] D[i]
theorem gA.keep {w w':World} {u:Value} {l:List Cl} (h:gA w u l) (D:aa [] w w'):gA w' u l:=by
 obtain ⟨A,c,e,I,h⟩:=h;exact ⟨A,c,e,I,h.keep D⟩
theorem aU.keep {w w':World} {A:Option Addr} {I:List (List Cl)} (h:aU w A I) (D:aa [] w w'):aU w' A I:=by
 obtain ⟨us,M,N,J⟩:=h;exact ⟨us,M,N.keep D,fun i a b=>(J i a b).keep D⟩
def aP (R:Except Int (List (List Cl))) (e:Ending) (w':World):Prop:=match R with
 | .error x=>e=FP (.tuple #[FN none 0 0,.iface 37 (FR FS x)])
 | .ok out=>∃ B d,e=FP (.tuple #[FN B out.length d,.nilIface])∧out.length≤d∧aU w' B out
theorem eN {w:World} {l:List Cl} {A:Option Addr} {c:Nat} (I:Rd w [] 2 A l.length (ai l)) (M:l.length≤c) (t:TypeId):aU (w.alloc (FQ #[FN A l.length c] t)) (some ⟨w.heap.size,0,none⟩) [l]:=by
 have D:aa [] w (w.alloc (FQ #[FN A l.length c] t)):=(FK _ _).alloc _;refine ⟨[FN A l.length c],rfl,⟨rfl,fun _=>⟨_,rfl,by simp,(FL _ _ _).lt,fun j u N=>?_⟩⟩,fun i h h'=>?_⟩
 ·rw[cJ,Nat.zero_add]
  have:=(FL w t #[FN A l.length c]).cell j;rw[this];simpa using N
 have J:i=0:=by simp at h;omega
 subst J;exact ⟨A,c,rfl,M,I.keep D⟩
theorem li (l:List Bs) (x:Bs) (A:Option Addr) (c:Nat) (w:World) (J:Rd w [] 1 A l.length (strs l)) (Z:l.length≤4294967296) :
  Calls Tryz.prog 34 #[FN A l.length c,FM (bs x)] w fun e w'=>e=FP (.bool (decide (x∈l)))∧w=w':=by
 by_cases N:l.length=0
 ·have D:l=[]:=List.eq_nil_of_length_eq_zero N
  subst D;refine (Tryz.slices_Contains_string_empty A c (bs x) w).mono ?_;rintro e w' ⟨rfl,rfl⟩;exact ⟨rfl,rfl⟩
 obtain ⟨b,o,rfl,_,_,M⟩:=J.open' (by omega) (by decide);refine (Tryz.slices_Contains_string b o l.length c (l.map bs) (bs x) w (by simp) (by omega) (fun j I=>?_)).mono ?_
 ·have hj':j<l.length:=by simpa using I
  rw[M j _ (cC l j hj'),FJ,List.getElem?_map,FA hj'];rfl
 rintro e w' ⟨rfl,rfl⟩;refine ⟨congrArg (fun b=>Ending.returned (.bool b)) ?_,rfl⟩;rw[List.take_of_length_le (by simp)];rw[Bool.eq_iff_iff,Lib.containsS_iff,decide_eq_true_iff,List.mem_map];constructor
 ·rintro ⟨y,U,O⟩;rw[←zx O];exact U
 intro h;exact ⟨x,h,rfl⟩
theorem B8 (j:Jb) (a:List Cl) (Ao:Option Addr) (co:Nat) (Ai:Option Addr) (ni ci:Nat) (Ac:Option Addr) (cc:Nat) (A:Option Addr) (c:Nat) (w:World) (hJ:gT w j Ao co Ac cc) (hA:Rd w [] 2 A a.length (ai a)) (hc:a.length≤c) (hl:a.length≤4294967296) :
  Calls Tryz.prog 59 #[eM j Ao co Ai ni ci Ac cc,FN A a.length c] w fun e w'=>aP (jQ j a) e w'∧aa [] w w':=by
 have bl:=Fx (fun (nm:Bs) W (q:aa [] w W)=>bU a nm A c W (hA.keep q) hl);have bk:=Fx (fun W (q:aa [] w W)=>oq j.left a A c W (hA.keep q) hl);have bc:=Fx (fun W (q:aa [] w W)=>oq j.right a A c W (hA.keep q) hl);have HA:=Fx hA;have HJ:=Fx hJ.cols;obtain ⟨R,hR⟩:∃ R,jQ j a=R:=⟨_,rfl⟩
 rw[hR]
 have HR:Hid (R=if j.cols.length≠1∨¬(j.op=[43]∨j.op=[45]∨j.op=[42]) then .error 1 else match an a (j.cols.headD []) with
  | none=> .error 7
  | some k=>if (a.getD k zC).kind≠1∨dU j.left a≠1∨dU j.right a≠1 then .error 13 else .ok [a]):=Fx (by
  rw[←hR];unfold jQ;split
  ·rfl
  cases an a (j.cols.headD [])<;>rfl)
 clear hR hJ hA;generalize a9:dU j.left a=KL at *;generalize bX:dU j.right a=KR at *;clear a9 bX;obtain ⟨bq,code,outs,ins,cols,op,⟨lc,lk,ln,lw⟩,⟨rc,rk,rn,a8⟩,ba⟩:=j;simp only at HR HJ;show Calls _ _ #[.agg #[FR FS bq,FR FS code,FN Ao outs.length co,FN Ai ni ci,FN Ac cols.length cc,FM (bs op),FM (bs lc),FR FS lk,FR FS ln,FM (bs lw),FM (bs rc),FR FS rk,FR FS rn,FM (bs a8),FR FS ba],FN A a.length c] w _;have HKL':Hid (∀ W,aa [] w W→Calls Tryz.prog 90 #[.agg #[FM (bs lc),FR FS lk,FR FS ln,FM (bs lw)],FN A a.length c] W fun e W'=>e=FP (FR FS KL)∧aa [] W W'):=bk;have HKR':Hid (∀ W,aa [] w W→Calls Tryz.prog 90 #[.agg #[FM (bs rc),FR FS rk,FR FS rn,FM (bs a8)],FN A a.length c] W fun e W'=>e=FP (FR FS KR)∧aa [] W W'):=bc;clear bk bc;by_cases h1:cols.length=1
 ·have t0:((cols.length:Int) != 1)=false:=by rw[h1];rfl
  obtain ⟨nm,bz⟩:∃ nm,cols=[nm]:=by
   match cols,h1 with
   | [nm],_=>exact ⟨nm,rfl⟩
  subst bz;obtain ⟨b,o,rfl,_,hb,a0⟩:=HJ.out.open' (by simp) (by decide);have d0:w.cell? ⟨b,o,none⟩=some (FM (bs nm)):=a0 0 _ rfl;have HF:=Fx (bl.out nm);clear a0 bl h1 HJ;by_cases O:op=[43]∨op=[45]∨op=[42]
  ·have N:Hid (R=match an a nm with
    | none=> .error 7
    | some k=>if (a.getD k zC).kind≠1∨KL≠1∨KR≠1 then .error 13 else .ok [a]):=Fx (HR.out.trans (by
     rw[if_neg (by
      rintro (h|h)
      ·exact h rfl
      exact h O)]
     show (match an a nm with|none=>_|some k=>_)=_;cases an a nm<;>rfl))
   clear HR;have bZ:∃ b1 b2 b3,(op==[43])=b1∧(op==[45])=b2∧(op==[42])=b3∧(b1=true∨b2=true∨b3=true):=⟨_,_,_,rfl,rfl,rfl,by simpa using O⟩
   obtain ⟨b1,b2,b3,t1,t2,t3,bj⟩:=bZ;clear O;have bm:(b1=true)∨(b1=false∧b2=true)∨(b1=false∧b2=false∧b3=true):=by
    cases b1<;>cases b2<;>cases b3<;>simp at bj ⊢
   clear bj;rcases bm with rfl|⟨rfl,rfl⟩|⟨rfl,rfl,rfl⟩
   all_goals
    cases a2:an a nm with
    | none =>
     rw[a2] at HF N;have M:Hid (R= .error 7):=N;clear N a2;go_enter Tryz.func59,Tryz.ntmps59
     go_wp2_with fail
     refine (HF.out _ ((FK _ _).alloc _)).mono ?_;rintro e w2 ⟨rfl,D⟩;simp only[eL];go_wp2;go_ret2;exact ⟨by rw[M.out];rfl,((FK _ _).alloc _).trans D⟩
    | some k =>
     rw[a2] at HF N;have a9:k<a.length:=(List.findIdx?_eq_some_iff_getElem.1 a2).1;have bo:a.getD k zC=a[k]:=by rw[FJ,FA a9];rfl
     obtain ⟨b4,o4,bv,_,b0,a0⟩:=HA.out.open' (by omega) (by omega);subst bv;have d1:=a0 (k*2+1) _ (aN a k a9).2;rw[←Nat.add_assoc] at d1;have a7:=Fx d1;have b5:((k:Int)<0)=False:=eq_false (by omega);have b6:(0:Int)≤(k:Int):=by omega
     have b7:(k:Int)<(a.length:Int):=by omega
     have be:R=if a[k].kind≠1∨KL≠1∨KR≠1 then .error 13 else .ok [a]:=by rw[←bo];exact N.out
     have M:=Fx be;clear be N a2 bo a0;generalize a[k].kind=kk at *;clear d1;by_cases U:kk=1
     ·have s1:(kk != 1)=false:=by rw[U];rfl
      by_cases ad:KL=1
      ·have s2:(KL != 1)=false:=by rw[ad];rfl
       by_cases aA:KR=1
       ·have s3:(KR != 1)=false:=by rw[aA];rfl
        have av:Hid (R= .ok [a]):=Fx (by rw[M.out,if_neg (by rintro (h|h|h);exact h U;exact h ad;exact h aA)]);clear M U ad aA;go_enter Tryz.func59,Tryz.ntmps59
        go_wp2_with fail
        refine (HF.out _ ((FK _ _).alloc _)).mono ?_;rintro e w2 ⟨rfl,D⟩;simp only[eL];have I:=Fx ((((FK [] w).alloc _).trans D));have x1:=I.out.cell_of a7.out (by simp);have y6:=D.cell_of (p:=⟨w.heap.size,6,none⟩) (v:=FM (bs lc)) ((FL _ _ _).cell 6) (by simp);have y7:=D.cell_of (p:=⟨w.heap.size,7,none⟩) (v:=FR FS lk) ((FL _ _ _).cell 7) (by simp);have y8:=D.cell_of (p:=⟨w.heap.size,8,none⟩) (v:=FR FS ln) ((FL _ _ _).cell 8) (by simp);have y9:=D.cell_of (p:=⟨w.heap.size,9,none⟩) (v:=FM (bs lw)) ((FL _ _ _).cell 9) (by simp);have a4:=D.cell_of (p:=⟨w.heap.size,10,none⟩) (v:=FM (bs rc)) ((FL _ _ _).cell 10) (by simp);have a3:=D.cell_of (p:=⟨w.heap.size,11,none⟩) (v:=FR FS rk) ((FL _ _ _).cell 11) (by simp);have a1:=D.cell_of (p:=⟨w.heap.size,12,none⟩) (v:=FR FS rn) ((FL _ _ _).cell 12) (by simp);have a5:=D.cell_of (p:=⟨w.heap.size,13,none⟩) (v:=FM (bs a8)) ((FL _ _ _).cell 13) (by simp);go_wp2_with fail
        refine (HKL'.out _ I.out).mono ?_;rintro e w3 ⟨rfl,J⟩;have Z:=Fx (I.out.trans J);replace a4:=J.cell_of a4 (by simp);replace a3:=J.cell_of a3 (by simp);replace a1:=J.cell_of a1 (by simp);replace a5:=J.cell_of a5 (by simp);go_wp2_with fail
        refine (HKR'.out _ Z.out).mono ?_;rintro e w4 ⟨rfl,bb⟩;have a6:=Fx (Z.out.trans bb);have br:=Fx (eN (HA.out.keep a6.out) hc 51);go_wp2;go_ret2;exact ⟨by rw[av.out];exact ⟨_,_,rfl,Fy _,br.out⟩,a6.out.alloc _⟩
       have s3:(KR != 1)=true:=by rw[bne_iff_ne];exact aA
       have av:Hid (R= .error 13):=Fx (by rw[M.out,if_pos (.inr (.inr aA))]);clear M U ad aA;go_enter Tryz.func59,Tryz.ntmps59
       go_wp2_with fail
       refine (HF.out _ ((FK _ _).alloc _)).mono ?_;rintro e w2 ⟨rfl,D⟩;simp only[eL];have I:=Fx ((((FK [] w).alloc _).trans D));have x1:=I.out.cell_of a7.out (by simp);have y6:=D.cell_of (p:=⟨w.heap.size,6,none⟩) (v:=FM (bs lc)) ((FL _ _ _).cell 6) (by simp);have y7:=D.cell_of (p:=⟨w.heap.size,7,none⟩) (v:=FR FS lk) ((FL _ _ _).cell 7) (by simp);have y8:=D.cell_of (p:=⟨w.heap.size,8,none⟩) (v:=FR FS ln) ((FL _ _ _).cell 8) (by simp);have y9:=D.cell_of (p:=⟨w.heap.size,9,none⟩) (v:=FM (bs lw)) ((FL _ _ _).cell 9) (by simp);have a4:=D.cell_of (p:=⟨w.heap.size,10,none⟩) (v:=FM (bs rc)) ((FL _ _ _).cell 10) (by simp);have a3:=D.cell_of (p:=⟨w.heap.size,11,none⟩) (v:=FR FS rk) ((FL _ _ _).cell 11) (by simp);have a1:=D.cell_of (p:=⟨w.heap.size,12,none⟩) (v:=FR FS rn) ((FL _ _ _).cell 12) (by simp);have a5:=D.cell_of (p:=⟨w.heap.size,13,none⟩) (v:=FM (bs a8)) ((FL _ _ _).cell 13) (by simp);go_wp2_with fail
       refine (HKL'.out _ I.out).mono ?_;rintro e w3 ⟨rfl,J⟩;have Z:=Fx (I.out.trans J);replace a4:=J.cell_of a4 (by simp);replace a3:=J.cell_of a3 (by simp);replace a1:=J.cell_of a1 (by simp);replace a5:=J.cell_of a5 (by simp);go_wp2_with fail
       refine (HKR'.out _ Z.out).mono ?_;rintro e w4 ⟨rfl,bb⟩;have a6:=Fx (Z.out.trans bb);go_wp2;go_ret2;exact ⟨by rw[av.out];rfl,a6.out⟩
      have s2:(KL != 1)=true:=by rw[bne_iff_ne];exact ad
      have av:Hid (R= .error 13):=Fx (by rw[M.out,if_pos (.inr (.inl ad))]);clear M U ad;go_enter Tryz.func59,Tryz.ntmps59
      go_wp2_with fail
      refine (HF.out _ ((FK _ _).alloc _)).mono ?_;rintro e w2 ⟨rfl,D⟩;simp only[eL];have I:=Fx ((((FK [] w).alloc _).trans D));have x1:=I.out.cell_of a7.out (by simp);have y6:=D.cell_of (p:=⟨w.heap.size,6,none⟩) (v:=FM (bs lc)) ((FL _ _ _).cell 6) (by simp);have y7:=D.cell_of (p:=⟨w.heap.size,7,none⟩) (v:=FR FS lk) ((FL _ _ _).cell 7) (by simp);have y8:=D.cell_of (p:=⟨w.heap.size,8,none⟩) (v:=FR FS ln) ((FL _ _ _).cell 8) (by simp);have y9:=D.cell_of (p:=⟨w.heap.size,9,none⟩) (v:=FM (bs lw)) ((FL _ _ _).cell 9) (by simp);go_wp2_with fail
      refine (HKL'.out _ I.out).mono ?_;rintro e w3 ⟨rfl,J⟩;have Z:=Fx (I.out.trans J);go_wp2;go_ret2;exact ⟨by rw[av.out];rfl,Z.out⟩
     have s1:(kk != 1)=true:=by rw[bne_iff_ne];exact U
     have av:Hid (R= .error 13):=Fx (by rw[M.out,if_pos (.inl U)]);clear M U;go_enter Tryz.func59,Tryz.ntmps59
     go_wp2_with fail
     refine (HF.out _ ((FK _ _).alloc _)).mono ?_;rintro e w2 ⟨rfl,D⟩;simp only[eL];have I:=Fx ((((FK [] w).alloc _).trans D));have x1:=I.out.cell_of a7.out (by simp);go_wp2;go_ret2;exact ⟨by rw[av.out];rfl,I.out⟩
  have N:Hid (R= .error 1):=Fx (by rw[HR.out,if_pos (.inr O)]);have t1:(op==[43])=false:=by rw[beq_eq_false_iff_ne];exact fun h=>O (.inl h)
  have t2:(op==[45])=false:=by rw[beq_eq_false_iff_ne];exact fun h=>O (.inr (.inl h))
  have t3:(op==[42])=false:=by rw[beq_eq_false_iff_ne];exact fun h=>O (.inr (.inr h))
  clear HR O;go_enter Tryz.func59,Tryz.ntmps59
  go_wp2;go_ret2;exact ⟨by rw[N.out];rfl,(FK _ _).alloc _⟩
 have t0:((cols.length:Int) != 1)=true:=by rw[bne_iff_ne];omega
 have N:Hid (R= .error 1):=Fx (by rw[HR.out,if_pos (.inl h1)]);clear HR h1;go_enter Tryz.func59,Tryz.ntmps59
 go_wp2;go_ret2;exact ⟨by rw[N.out];rfl,(FK _ _).alloc _⟩
end
section
open Go.RowKit Go.BigFrame
attribute [local go_sem] ag ab ae af
theorem qq (x y:Nat) (h:x*y<18446744073709551616) (D:x<18446744073709551616) (I:y<18446744073709551616) (w:World):Calls Tryz.prog 133 #[.int .u64 (x:Int),.int .u64 (y:Int)] w fun e w'=>e=FP (.tuple #[.int .u64 0,.int .u64 ((x*y:Nat):Int)])∧w=w':=by
 refine (Tryz.bits_Mul x y D I w).mono ?_;rintro e w' ⟨rfl,rfl⟩;rw[Nat.div_eq_of_lt h,Nat.mod_eq_of_lt h];exact ⟨rfl,rfl⟩
theorem EH (w:World):Calls Tryz.prog 133 #[.int .u64 1,.int .u64 1] w fun e w'=>e=FP (.tuple #[.int .u64 0,.int .u64 1])∧w=w':=qq 1 1 (by omega) (by omega) (by omega) w
theorem EI (w:World):Calls Tryz.prog 133 #[.int .u64 1,.int .u64 2] w fun e w'=>e=FP (.tuple #[.int .u64 0,.int .u64 2])∧w=w':=qq 1 2 (by omega) (by omega) (by omega) w
theorem uP (B:Nat) (A:Option Addr) (n c:Nat) (w:World) (N:w.cell? ⟨B,0,none⟩=some (FN A n c)) :
  Calls Tryz.prog 91 #[FN (some ⟨B,0,none⟩) 1 1,FR FS 1] w fun e w'=>(∃ g,e=FP (FN (some ⟨g,0,none⟩) 1 1)∧w'.cell? ⟨g,0,none⟩=some (FN A n c))∧aa [] w w':=by
 have ad:=FC _ _ N;have U:∀ w:World,(Instr.makeSlice 80 (FR FS 1) (FR FS 1)).run Tryz.prog w= .ok (FN (some ⟨w.heap.size,0,none⟩) 1 1) (w.alloc (FQ #[FN none 0 0] 51)):=fun _=>by kernel_rfl
 go_enter Tryz.func91,Tryz.ntmps91
 go_wp2_with fail
 refine (EH _).mono ?_;rintro e w2 ⟨rfl,rfl⟩;have J:Hid (∀ (j:Nat) (v:Value),[Value.slice A n c][j]? = some v→(w.alloc (FQ #[FN none 0 0] 51)).cell? ((⟨B,0,none⟩:Addr).add j)=some v):=Fx (fun j v O=>by
  obtain rfl:j=0:=by
   have:=(List.getElem?_eq_some_iff.1 O).1;simpa using this
  obtain rfl:Value.slice A n c=v:=by simpa using O
  rw[cJ];exact ((FK [] w).alloc _).cell_of N (by simp))
 go_wp2_with ((refine wpList_copy_splice rfl (.tmp 31) (.tmp 32) 80 80 rfl 51 Tryz.underlying80 (by kernel_rfl) (some ⟨w.heap.size,0,none⟩) (some ⟨B,0,none⟩) 1 1 1 1 rfl rfl w.heap.size 0 [FN none 0 0] 51 (heap_alloc_new _ _) [FN A n c] rfl (fun _=>⟨rfl,_,rfl,J.out⟩) (by simp) (by simp[Value.oneCell']) w.heap.size w ((Below.refl _ _).alloc (Fy _) _) (Fy _) ?_);intro Z I D)
 have M:=Fx D;clear D;go_wp2;refine wp_loop_rounds 1 ?_;rw[rounds_succ];go_wp2;go_ret;have h:ao Z w.heap.size 51 #[FN A n c]:=I.out;exact ⟨⟨_,rfl,h.cell 0⟩,aa.of_below M.out⟩
theorem uQ (B:Nat) (A:Option Addr) (n c:Nat) (w:World) (hb:w.cell? ⟨B,0,none⟩=some (FN A n c)) :
  Calls Tryz.prog 91 #[FN (some ⟨B,0,none⟩) 1 1,FR FS 2] w fun e w'=>(∃ g,e=FP (FN (some ⟨g,0,none⟩) 2 2)∧w'.cell? ⟨g,0,none⟩=some (FN A n c)∧w'.cell? ⟨g,1,none⟩=some (FN A n c))∧aa [] w w':=by
 have a4:=FC _ _ hb;have a2:∀ w:World,(Instr.makeSlice 80 (FR FS 2) (FR FS 2)).run Tryz.prog w= .ok (FN (some ⟨w.heap.size,0,none⟩) 2 2) (w.alloc (FQ #[FN none 0 0,FN none 0 0] 51)):=fun _=>by kernel_rfl
 go_enter Tryz.func91,Tryz.ntmps91
 go_wp2_with fail
 refine (EI _).mono ?_;rintro e w2 ⟨rfl,rfl⟩;have aA:Hid (∀ (j:Nat) (v:Value),[Value.slice A n c][j]? = some v→(w.alloc (FQ #[FN none 0 0,FN none 0 0] 51)).cell? ((⟨B,0,none⟩:Addr).add j)=some v):=Fx (fun j v O=>by
  obtain rfl:j=0:=by
   have:=(List.getElem?_eq_some_iff.1 O).1;simpa using this
  obtain rfl:Value.slice A n c=v:=by simpa using O
  rw[cJ];exact ((FK [] w).alloc _).cell_of hb (by simp))
 go_wp2_with ((refine wpList_copy_splice rfl (.tmp 31) (.tmp 32) 80 80 rfl 51 Tryz.underlying80 (by kernel_rfl) (some ⟨w.heap.size,0,none⟩) (some ⟨B,0,none⟩) 2 2 1 1 rfl rfl w.heap.size 0 [FN none 0 0,FN none 0 0] 51 (heap_alloc_new _ _) [FN A n c] rfl (fun _=>⟨rfl,_,rfl,aA.out⟩) (by simp) (by simp[Value.oneCell']) w.heap.size w ((Below.refl _ _).alloc (Fy _) _) (Fy _) ?_);intro Z N U)
 have J:=Fx U;clear U;go_wp2;refine wp_loop_rounds 2 ?_;rw[rounds_succ];go_wp2;have HG:Hid (Z.drew.heap[w.heap.size]? = some (FQ [FN A n c,FN none 0 0].toArray 51 (0,0))):=Fx N.out;have av:Hid (∀ (j:Nat) (v:Value),[Value.slice A n c][j]? = some v→Z.drew.cell? ((⟨w.heap.size,0,none⟩:Addr).add j)=some v):=Fx (fun j v O=>by
  obtain rfl:j=0:=by
   have:=(List.getElem?_eq_some_iff.1 O).1;simpa using this
  obtain rfl:Value.slice A n c=v:=by simpa using O
  have h:ao Z.drew w.heap.size 51 #[FN A n c,FN none 0 0]:=HG.out;exact h.cell 0)
 clear N;generalize hg:w.heap.size=g at *;have a0:=Fx hg;clear hg;go_region_law ((with_reducible refine step_copy_splice rfl (.tmp 41) (.tmp 44) 80 80 (by rfl) 51 Tryz.underlying80 (by kernel_rfl) (some ⟨g,1,none⟩) (some ⟨g,0,none⟩) 1 1 1 2 (by go_simp) (by go_simp) g 1 [FN A n c,FN none 0 0] 51 HG.out [FN A n c] rfl (fun _=>⟨rfl,_,rfl,av.out⟩) (by simp) (by simp[Value.oneCell']) g _ (Below.refl _ _) (Fy _) ?_;intro w4 ad M))
 have D:=Fx M;clear M;go_wp2;rw[rounds_succ];go_wp2;go_ret;have h:ao w4 g 51 #[FN A n c,FN A n c]:=ad.out;have a3:=a0.out;have I:aa [] w Z:=⟨J.out.os,J.out.output,J.out.size,fun k hk _=>J.out.block k (by omega)⟩;have a1:aa [] w w4:=⟨D.out.os.trans I.os,D.out.output.trans I.output,FD I.size D.out.size,fun k hk _=>(D.out.block k (by omega)).trans (I.block k hk (by simp))⟩;exact ⟨⟨g,rfl,h.cell 0,h.cell 1⟩,a1⟩
end
section
open Go.RowKit Go.BigFrame
attribute [local go_sem] ag ab ae af
attribute [local go_sem] KW.cell
structure rC (w:World):Prop where
 cmp:∃ A c,w.cell? ⟨1,0,none⟩=some (FN A 6 c)∧Rd w [] 1 A 6 (strs compares)
theorem rC.quiet {w w':World} (h:rC w) (D:aa [] w w'):rC w':=⟨by
 obtain ⟨A,c,I,J⟩:=h.cmp;exact ⟨A,c,D.cell_of I (by simp),J.keep D⟩⟩
theorem qt {w:World} {l:List Cl} {A:Option Addr} {c g n:Nat} (N:Rd w [] 2 A l.length (ai l)) (O:l.length≤c) (I:∀ j,j<n→w.cell? ⟨g,j,none⟩=some (FN A l.length c)):aU w (some ⟨g,0,none⟩) (List.replicate n l):=by
 refine ⟨List.replicate n (FN A l.length c),by simp,⟨by simp,fun M=>⟨_,rfl,by simp,?_,fun j u D=>?_⟩⟩,fun i h h'=>?_⟩
 ·exact FC _ _ (I 0 (by simpa using M))
 ·rw[cJ,Nat.zero_add]
  rw[List.getElem?_replicate] at D;split at D
  ·rename_i J
   rw[I j J];exact D
  cases D
 rw[List.getElem_replicate,List.getElem_replicate];exact ⟨A,c,rfl,O,N⟩
theorem rD (j:Jb) (a:List Cl) (Ao:Option Addr) (co:Nat) (Ai:Option Addr) (ni ci:Nat) (Ac:Option Addr) (cc:Nat) (A:Option Addr) (c:Nat) (w:World) (hE:rC w) (hA:Rd w [] 2 A a.length (ai a)) (hc:a.length≤c) (hl:a.length≤4294967296) :
  Calls Tryz.prog 58 #[eM j Ao co Ai ni ci Ac cc,FN A a.length c] w fun e w'=>aP (aX j a) e w'∧aa [] w w':=by
 have bk:=Fx (fun (nm:Bs) W (q:aa [] w W)=>bU a nm A c W (hA.keep q) hl);have bc:=Fx (fun W (q:aa [] w W)=>oq j.right a A c W (hA.keep q) hl);have HA:=Fx hA;obtain ⟨Ag,cg,b7,bo⟩:=hE.cmp;have bl:=Fx (fun W (q:aa [] w W)=>li compares j.op Ag cg W (bo.keep q) (by decide));obtain ⟨R,hR⟩:∃ R,aX j a=R:=⟨_,rfl⟩
 rw[hR];have HR:Hid (R=if j.op∉compares∨j.left.col=[] then .error 1
  else match an a j.left.col with
   | none=> .error 7
   | some k=>if dU j.right a≠(a.getD k zC).kind then .error 13 else .ok (List.replicate (if j.code=9 then 2 else 1) a)):=Fx (by
  rw[←hR];unfold aX;split
  ·rfl
  cases an a j.left.col<;>rfl)
 clear hR hA bo hE;generalize b9:dU j.right a=KR at *;clear b9;obtain ⟨a3,code,outs,ins,cols,op,⟨lc,lk,ln,lw⟩,⟨rc,rk,rn,av⟩,M⟩:=j;simp only at HR;have HKR':Hid (∀ W,aa [] w W→Calls Tryz.prog 90 #[.agg #[FM (bs rc),FR FS rk,FR FS rn,FM (bs av)],FN A a.length c] W fun e W'=>e=FP (FR FS KR)∧aa [] W W'):=bc;have HCT':Hid (∀ W,aa [] w W→Calls Tryz.prog 34 #[FN Ag 6 cg,FM (bs op)] W fun e w'=>e=FP (.bool (decide (op∈compares)))∧W=w'):=bl;clear bc bl;have I:Hid (aa [] w (w.alloc (FQ #[FR FS a3,FR FS code,FN Ao outs.length co,FN Ai ni ci,FN Ac cols.length cc,FM (bs op),FM (bs lc),FR FS lk,FR FS ln,FM (bs lw),FM (bs rc),FR FS rk,FR FS rn,FM (bs av),FR FS M] 50))):=Fx ((FK _ _).alloc _);have bZ:=Fx (FL w 50 #[FR FS a3,FR FS code,FN Ao outs.length co,FN Ai ni ci,FN Ac cols.length cc,FM (bs op),FM (bs lc),FR FS lk,FR FS ln,FM (bs lw),FM (bs rc),FR FS rk,FR FS rn,FM (bs av),FR FS M]);have cm:1<w.heap.size:=FC _ _ b7;show Calls _ _ #[.agg #[FR FS a3,FR FS code,FN Ao outs.length co,FN Ai ni ci,FN Ac cols.length cc,FM (bs op),FM (bs lc),FR FS lk,FR FS ln,FM (bs lw),FM (bs rc),FR FS rk,FR FS rn,FM (bs av),FR FS M],FN A a.length c] w _;by_cases N:op∈compares
 ·rw[decide_eq_true N] at HCT'
  cases lc with
  | nil =>
   have D:Hid (R= .error 1):=Fx (by rw[HR.out,if_pos (.inr rfl)]);clear HR N;go_enter Tryz.func58,Tryz.ntmps58
   go_wp2_with (go_at_call 34;refine (HCT'.out _ I.out).mono ?_;rintro e w6 ⟨rfl,rfl⟩)
   go_ret2;exact ⟨by rw[D.out];rfl,I.out⟩
  | cons x tl =>
   have bq:R=match an a (x::tl) with
    | none=> .error 7
    | some k=>if KR≠(a.getD k zC).kind then .error 13 else .ok (List.replicate (if code=9 then 2 else 1) a):=by
    rw[HR.out,if_neg (by
     rintro (h|h)
     ·exact h N
     cases h)]
   have D:=Fx bq;have HF:=Fx (bk.out (x::tl));clear HR N bq bk
   cases Z:an a (x::tl) with
   | none =>
    rw[Z] at HF D;have ad:Hid (R= .error 7):=D;clear D Z;go_enter Tryz.func58,Tryz.ntmps58
    go_wp2_with (go_at_call 34;refine (HCT'.out _ I.out).mono ?_;rintro e w6 ⟨rfl,rfl⟩)
    refine (HF.out _ I.out).mono ?_;rintro e w2 ⟨rfl,aA⟩;simp only[eL];go_wp2;go_ret2;exact ⟨by rw[ad.out];rfl,I.out.trans aA⟩
   | some k =>
    rw[Z] at HF D;have br:k<a.length:=(List.findIdx?_eq_some_iff_getElem.1 Z).1;have bz:a.getD k zC=a[k]:=by rw[FJ,FA br];rfl
    have a0:=Fx HA.out;obtain ⟨b4,o4,b6,_,cd,a9⟩:=HA.out.open' (by omega) (by omega);subst b6;have d1:=a9 (k*2+1) _ (aN a k br).2;rw[←Nat.add_assoc] at d1;have b5:=Fx d1;have cj:((k:Int)<0)=False:=eq_false (by omega);have cn:(0:Int)≤(k:Int):=by omega
    have cq:(k:Int)<(a.length:Int):=by omega
    have be:R=if KR≠a[k].kind then .error 13 else .ok (List.replicate (if code=9 then 2 else 1) a):=by rw[←bz];exact D.out
    have ad:=Fx be;clear be D Z bz a9;generalize a[k].kind=kk at *;clear d1;have bv:∃ b,(KR != kk)=b:=⟨_,rfl⟩
    obtain ⟨bb,bj⟩:=bv;go_enter Tryz.func58,Tryz.ntmps58
    go_wp2_with (go_at_call 34;refine (HCT'.out _ I.out).mono ?_;rintro e w6 ⟨rfl,rfl⟩)
    refine (HF.out _ I.out).mono ?_;rintro e w2 ⟨rfl,aA⟩;simp only[eL];obtain ⟨bx,bm⟩:∃ bx,w.heap.size=bx:=⟨_,rfl⟩
    have J:=Fx (bZ.out.keep aA (by simp));have a8:=Fx (I.out.trans aA);rw[bm] at J ⊢;clear aA;have x1:=a8.out.cell_of b5.out (by simp);have y1:w2.cell? ⟨bx,1,none⟩=some (FR FS code):=J.out.cell 1;have b8:w2.cell? ⟨bx,10,none⟩=some (FM (bs rc)):=J.out.cell 10;have b1:w2.cell? ⟨bx,11,none⟩=some (FR FS rk):=J.out.cell 11;have b0:w2.cell? ⟨bx,12,none⟩=some (FR FS rn):=J.out.cell 12;have ca:w2.cell? ⟨bx,13,none⟩=some (FM (bs av)):=J.out.cell 13;have ch:bx<w2.heap.size:=J.out.lt;have ce:b4<w2.heap.size:=FC _ _ x1;have bX:=Fx (fun W (q:aa [] w2 W)=>HKR'.out W (a8.out.trans q));clear bm;go_wp2_with fail
    refine ah (by kernel_rfl) (by kernel_rfl) ?_;repeat (go_big_quiet_step (with_reducible exact KW.of bX.out _))
    refine wpQuiet_nil ?_;intro w3 a2;have a1:=Fx (a8.out.trans a2);have z1:=a2.cell_of y1 (by simp);clear a2 b8 b1 b0 ca y1 x1
    cases bb with
    | true =>
     have O:Hid (R= .error 13):=Fx (by rw[ad.out,if_pos (by simpa using bj)]);go_wp2;go_ret2;exact ⟨by rw[O.out];rfl,a1.out⟩
    | false =>
     have ba:KR=kk:=by simpa using bj
     have O:Hid (R= .ok (List.replicate (if code=9 then 2 else 1) a)):=Fx (by rw[ad.out,if_neg (fun h=>h ba)]);clear ad ba;by_cases h9:code=9
     ·have t9:(code==9)=true:=by rw[h9];rfl
      have a4:Hid (R= .ok (List.replicate 2 a)):=Fx (by rw[O.out,if_pos h9]);clear O h9;go_wp2_with fail
      refine (uQ _ _ _ _ _ ((FL _ _ _).cell 0)).mono ?_;rintro e w4 ⟨⟨g,rfl,a7,b3⟩,a6⟩;have U:=Fx ((a1.out.alloc _).trans a6);have a5:=Fx (qt (n:=2) (a0.out.keep U.out) hc (fun j hj=>by
       rcases j with _|_|j
       ·exact a7
       ·exact b3
       omega))
      go_wp2;go_ret2;exact ⟨by rw[a4.out];exact ⟨_,2,rfl,Fy _,a5.out⟩,U.out⟩
     have t9:(code==9)=false:=by rw[beq_eq_false_iff_ne];exact h9
     have a4:Hid (R= .ok (List.replicate 1 a)):=Fx (by rw[O.out,if_neg h9]);clear O h9;go_wp2_with fail
     refine (uP _ _ _ _ _ ((FL _ _ _).cell 0)).mono ?_;rintro e w4 ⟨⟨g,rfl,a7⟩,a6⟩;have U:=Fx ((a1.out.alloc _).trans a6);have a5:=Fx (qt (n:=1) (a0.out.keep U.out) hc (fun j hj=>by
      obtain rfl:j=0:=by omega
      exact a7))
     go_wp2;go_ret2;exact ⟨by rw[a4.out];exact ⟨_,1,rfl,Fy _,a5.out⟩,U.out⟩
 rw[decide_eq_false N] at HCT';have D:Hid (R= .error 1):=Fx (by rw[HR.out,if_pos (.inl N)]);clear HR N;go_enter Tryz.func58,Tryz.ntmps58
 go_wp2_with (go_at_call 34;refine (HCT'.out _ I.out).mono ?_;rintro e w6 ⟨rfl,rfl⟩)
 go_ret2;exact ⟨by rw[D.out];rfl,I.out⟩
theorem Fe (w:World) (o:Obj):(w.alloc o).heap.size=w.heap.size+1:=Array.size_push _
theorem uR (w:World) (t:TypeId) (cs:List Value) (n size:Nat) (h:cs.length=n*size):Rd (w.alloc (FQ cs.toArray t)) [] size (some ⟨w.heap.size,0,none⟩) n cs :=
 ⟨h,fun _=>⟨_,rfl,by simp,(FL _ _ _).lt,fun j u D=>by
  rw[cJ,Nat.zero_add,(FL w t cs.toArray).cell j];simpa using D⟩⟩
theorem aU.drew' {w:World} {A:Option Addr} {D:List (List Cl)} (h:aU w A D):aU w.drew A D:=h
theorem sW (j:Jb) (a:List Cl) (Ao:Option Addr) (co:Nat) (Ai:Option Addr) (ni ci:Nat) (Ac:Option Addr) (cc:Nat) (A:Option Addr) (c:Nat) (w:World) (hJ:gT w j Ao co Ac cc) (hA:Rd w [] 2 A a.length (ai a)) (hl:a.length≤4294967296) :
  Calls Tryz.prog 62 #[eM j Ao co Ai ni ci Ac cc,FN A a.length c] w fun e w'=>aP (cI j a) e w'∧aa [] w w':=by
 have a8:=Fx (fun (nm:Bs) W (q:aa [] w W)=>bU a nm A c W (hA.keep q) hl);have HA:=Fx hA;have HJ:=Fx hJ.cols;obtain ⟨R,hR⟩:∃ R,cI j a=R:=⟨_,rfl⟩
 rw[hR]
 have HR:Hid (R=if j.cols.length≠2∨¬(j.op=[115,117,109]∨j.op=[109,97,120]) then .error 1 else match an a (j.cols.getD 0 []),an a (j.cols.getD 1 []) with
  | some k,some m=>if (a.getD m zC).kind≠1 then .error 13 else if k=m then .error 9 else .ok [[a.getD k zC,a.getD m zC]]
  | _,_=> .error 7):=Fx (by
  rw[←hR];unfold cI;split
  ·rfl
  cases an a (j.cols.getD 0 [])<;>cases an a (j.cols.getD 1 [])<;>rfl)
 clear hR hJ hA;obtain ⟨a1,code,outs,ins,cols,op,⟨lc,lk,ln,lw⟩,⟨rc,rk,rn,a2⟩,M⟩:=j;simp only at HR HJ;show Calls _ _ #[.agg #[FR FS a1,FR FS code,FN Ao outs.length co,FN Ai ni ci,FN Ac cols.length cc,FM (bs op),FM (bs lc),FR FS lk,FR FS ln,FM (bs lw),FM (bs rc),FR FS rk,FR FS rn,FM (bs a2),FR FS M],FN A a.length c] w _;by_cases h1:cols.length=2
 ·have t0:((cols.length:Int) != 2)=false:=by rw[h1];rfl
  obtain ⟨n1,n2,bo⟩:∃ n1 n2,cols=[n1,n2]:=by
   match cols,h1 with
   | [n1,n2],_=>exact ⟨n1,n2,rfl⟩
  subst bo;obtain ⟨b,o,rfl,_,hb,J⟩:=HJ.out.open' (by simp) (by decide);have s0:w.cell? ⟨b,o,none⟩=some (FM (bs n1)):=J 0 _ rfl;have s1:w.cell? ⟨b,o+1,none⟩=some (FM (bs n2)):=J 1 _ rfl;have ba:=Fx s0;have a6:=Fx s1;clear J h1 HJ s0 s1;show Calls _ _ #[.agg #[FR FS a1,FR FS code,FN Ao outs.length co,FN Ai ni ci,FN (some ⟨b,o,none⟩) 2 cc,FM (bs op),FM (bs lc),FR FS lk,FR FS ln,FM (bs lw),FM (bs rc),FR FS rk,FR FS rn,FM (bs a2),FR FS M],FN A a.length c] w _;by_cases U:op=[115,117,109]∨op=[109,97,120]
  ·have Z:Hid (R=match an a n1,an a n2 with
    | some k,some m=>if (a.getD m zC).kind≠1 then .error 13 else if k=m then .error 9 else .ok [[a.getD k zC,a.getD m zC]]
    | _,_=> .error 7):=Fx (HR.out.trans (by
     rw[if_neg (by
      rintro (h|h)
      ·exact h rfl
      exact h U)]
     show (match an a n1,an a n2 with|some k,some m=>_|_,_=>_)=_;cases an a n1<;>cases an a n2<;>rfl))
   clear HR;have bq:∃ b1 b2,(op==[115,117,109])=b1∧(op==[109,97,120])=b2∧(b1=true∨b2=true):=⟨_,_,rfl,rfl,by simpa using U⟩
   obtain ⟨b1,b2,t1,t2,be⟩:=bq;clear U;have bk:(b1=true)∨(b1=false∧b2=true):=by
    cases b1<;>cases b2<;>simp at be ⊢
   clear be;obtain ⟨N,a5⟩:∃ N,w.alloc (FQ #[FR FS a1,FR FS code,FN Ao outs.length co,FN Ai ni ci,FN (some ⟨b,o,none⟩) 2 cc,FM (bs op),FM (bs lc),FR FS lk,FR FS ln,FM (bs lw),FM (bs rc),FR FS rk,FR FS rn,FM (bs a2),FR FS M] 50)=N:=⟨_,rfl⟩
   have I:Hid (aa [] w N):=Fx (by rw[←a5];exact (FK _ _).alloc _);have ad:Hid (ao N w.heap.size 50 #[FR FS a1,FR FS code,FN Ao outs.length co,FN Ai ni ci,FN (some ⟨b,o,none⟩) 2 cc,FM (bs op),FM (bs lc),FR FS lk,FR FS ln,FM (bs lw),FM (bs rc),FR FS rk,FR FS rn,FM (bs a2),FR FS M]):=Fx (by rw[←a5];exact FL _ _ _);have HW:=Fx a5;clear a5;obtain ⟨k1,a0⟩:∃ k1,an a n1=k1:=⟨_,rfl⟩
   obtain ⟨k2,a3⟩:∃ k2,an a n2=k2:=⟨_,rfl⟩
   have a4:Hid (∀ W,aa [] N W→Calls Tryz.prog 89 #[FN A a.length c,FM (bs n1)] W fun e W'=>e=FP (FR FS (eL k1))∧aa [] W W'):=Fx fun W q=>by
    rw[←a0];exact a8.out n1 W (I.out.trans q)
   have av:Hid (∀ W,aa [] N W→Calls Tryz.prog 89 #[FN A a.length c,FM (bs n2)] W fun e W'=>e=FP (FR FS (eL k2))∧aa [] W W'):=Fx fun W q=>by
    rw[←a3];exact a8.out n2 W (I.out.trans q)
   have bm:Hid (∀ k,k1=some k→k<a.length):=Fx fun k h=>(List.findIdx?_eq_some_iff_getElem.1 (a0.trans h)).1
   have bl:Hid (∀ k,k2=some k→k<a.length):=Fx fun k h=>(List.findIdx?_eq_some_iff_getElem.1 (a3.trans h)).1
   rw[a0,a3] at Z;clear a8 a0 a3;rcases bk with rfl|⟨rfl,rfl⟩
   all_goals
    cases k1 with
    | none =>
     have HE:Hid (R= .error 7):=Fx (by rw[Z.out]);have HF1':Hid (∀ W,aa [] N W→Calls Tryz.prog 89 #[FN A a.length c,FM (bs n1)] W fun e W'=>e=FP (FR FS (-1))∧aa [] W W'):=a4;clear a4 Z;generalize eL k2=q2 at av;go_enter Tryz.func62,Tryz.ntmps62
     go_upto_region 3 with (fail)
     rw[HW.out];have y4:N.cell? ⟨w.heap.size,4,none⟩=some (FN (some ⟨b,o,none⟩) 2 cc):=ad.out.cell 4;have s0:=I.out.cell_of ba.out (by simp);have s1:=I.out.cell_of a6.out (by simp);have bj:w.heap.size<N.heap.size:=ad.out.lt;have bc:b<N.heap.size:=FC _ _ s0;generalize w.heap.size=bx at *;refine ah (by kernel_rfl) (by kernel_rfl) ?_;repeat (go_big_quiet_step (first|with_reducible exact KW.of HF1'.out _|with_reducible exact KW.of av.out _))
     refine wpQuiet_nil ?_;intro w3 O;have D:=Fx (I.out.trans O);clear O y4 s0 s1;go_wp2;go_ret2;exact ⟨by rw[HE.out];rfl,D.out⟩
    | some k =>
     have a7:=bm.out k rfl;have bv:((k:Int)<0)=False:=eq_false (by omega);have HF1':Hid (∀ W,aa [] N W→Calls Tryz.prog 89 #[FN A a.length c,FM (bs n1)] W fun e W'=>e=FP (FR FS (k:Int))∧aa [] W W'):=a4;clear a4
     cases k2 with
     | none =>
      have HE:Hid (R= .error 7):=Fx (by rw[Z.out]);have HF2':Hid (∀ W,aa [] N W→Calls Tryz.prog 89 #[FN A a.length c,FM (bs n2)] W fun e W'=>e=FP (FR FS (-1))∧aa [] W W'):=av;clear av Z;go_enter Tryz.func62,Tryz.ntmps62
      go_upto_region 3 with (fail)
      rw[HW.out];have y4:N.cell? ⟨w.heap.size,4,none⟩=some (FN (some ⟨b,o,none⟩) 2 cc):=ad.out.cell 4;have s0:=I.out.cell_of ba.out (by simp);have s1:=I.out.cell_of a6.out (by simp);have bj:w.heap.size<N.heap.size:=ad.out.lt;have bc:b<N.heap.size:=FC _ _ s0;generalize w.heap.size=bx at *;refine ah (by kernel_rfl) (by kernel_rfl) ?_;repeat (go_big_quiet_step (first|with_reducible exact KW.of HF1'.out _|with_reducible exact KW.of HF2'.out _))
      refine wpQuiet_nil ?_;intro w3 O;have D:=Fx (I.out.trans O);clear O y4 s0 s1;go_wp2;go_ret2;exact ⟨by rw[HE.out];rfl,D.out⟩
     | some m =>
      have bb:=bl.out m rfl;have bZ:((m:Int)<0)=False:=eq_false (by omega);have bX:(m:Int)<(a.length:Int):=by omega
      have b0:(k:Int)<(a.length:Int):=by omega
      have bz:(0:Int)≤(m:Int):=by omega
      have a0:(0:Int)≤(k:Int):=by omega
      have HF2':Hid (∀ W,aa [] N W→Calls Tryz.prog 89 #[FN A a.length c,FM (bs n2)] W fun e W'=>e=FP (FR FS (m:Int))∧aa [] W W'):=av;clear av;have gm:a.getD m zC=a[m]:=by rw[FJ,FA bb];rfl
      have gk:a.getD k zC=a[k]:=by rw[FJ,FA a7];rfl
      obtain ⟨b4,o4,rfl,_,br,J⟩:=HA.out.open' (by omega) (by omega);have c0:=J (m*2) _ (aN a m bb).1;have c1:=J (m*2+1) _ (aN a m bb).2;have c2:=J (k*2) _ (aN a k a7).1;have c3:=J (k*2+1) _ (aN a k a7).2;rw[←Nat.add_assoc] at c1 c3;have aA:Hid (R=if (a.getD m zC).kind≠1 then .error 13 else if k=m then .error 9 else .ok [[a.getD k zC,a.getD m zC]]):=Z;rw[gm,gk] at aA;obtain ⟨x,hx⟩:∃ x,a[k]=x:=⟨_,rfl⟩
      obtain ⟨y,hy⟩:∃ y,a[m]=y:=⟨_,rfl⟩
      rw[hx,hy] at aA;rw[hy] at c0 c1;rw[hx] at c2 c3;have C0:=Fx c0;have C1:=Fx c1;have C2:=Fx c2;have C3:=Fx c3;clear J c0 c1 c2 c3 gm gk hx hy Z HA;go_enter Tryz.func62,Tryz.ntmps62
      go_upto_region 3 with (fail)
      rw[HW.out];have y4:N.cell? ⟨w.heap.size,4,none⟩=some (FN (some ⟨b,o,none⟩) 2 cc):=ad.out.cell 4;have s0:=I.out.cell_of ba.out (by simp);have s1:=I.out.cell_of a6.out (by simp);have bj:w.heap.size<N.heap.size:=ad.out.lt;have bc:b<N.heap.size:=FC _ _ s0;generalize w.heap.size=bx at *;refine ah (by kernel_rfl) (by kernel_rfl) ?_;repeat (go_big_quiet_step (first|with_reducible exact KW.of HF1'.out _|with_reducible exact KW.of HF2'.out _))
      refine wpQuiet_nil ?_;intro w3 O;have D:=Fx (I.out.trans O);clear O y4 s0 s1;have c1:=D.out.cell_of C1.out (by simp);have l4:=FC _ _ c1;by_cases hk:y.kind=1
      ·have tk:(y.kind != 1)=false:=by simp[hk]
       by_cases a9:k=m
       ·have HE:Hid (R= .error 9):=Fx (by rw[aA.out,if_neg (fun h=>h hk),if_pos a9])
        subst a9;clear hk;go_wp2;go_ret2;exact ⟨by rw[HE.out];rfl,D.out⟩
       have HE:Hid (R= .ok [[x,y]]):=Fx (by rw[aA.out,if_neg (fun h=>h hk),if_neg a9]);have tm:((k:Int)==(m:Int))=false:=by simp;omega
       have c0:=D.out.cell_of C0.out (by simp);have c2:=D.out.cell_of C2.out (by simp);have c3:=D.out.cell_of C3.out (by simp);clear hk;go_wp2;go_region
       all_goals
        go_wp2;go_ret2;have hh:=(eN (l:=[x,y]) (uR w3 64 (ai [x,y]) 2 2 rfl) (Fy 2) 51).drew';rw[Fe] at hh;exact ⟨by rw[HE.out];exact ⟨_,_,rfl,Fy _,hh⟩,((D.out.alloc _).alloc _).drew⟩
      have HE:Hid (R= .error 13):=Fx (by rw[aA.out,if_pos hk]);have tk:(y.kind != 1)=true:=by simp[hk]
      clear hk;go_wp2;go_ret2;exact ⟨by rw[HE.out];rfl,D.out⟩
  have t1:(op==[115,117,109])=false:=by simpa using fun h=>U (.inl h)
  have t2:(op==[109,97,120])=false:=by simpa using fun h=>U (.inr h)
  have HE:Hid (R= .error 1):=Fx (by rw[HR.out,if_pos (.inr U)]);clear U HR HA;go_enter Tryz.func62,Tryz.ntmps62
  go_wp2;go_ret2;exact ⟨by rw[HE.out];rfl,(FK _ _).alloc _⟩
 have t0:((cols.length:Int) != 2)=true:=by simp;omega
 have HE:Hid (R= .error 1):=Fx (by rw[HR.out,if_pos (.inl h1)]);clear h1 HR HA;go_enter Tryz.func62,Tryz.ntmps62
 go_wp2;go_ret2;exact ⟨by rw[HE.out];rfl,(FK _ _).alloc _⟩
end
section
open Go.RowKit Go.BigFrame
attribute [local go_sem] ag ab ae af
theorem qu (A:Option Addr) (m d n:Nat) (h:n≤d) (W:World):(Instr.slice 44 (FN A m d) none (some (FR FS (n:Int))) none).run Tryz.prog W= .ok (FN A n d) W:=by
 have J:=Tryz.underlying44;have I:(0:Int)≤(n:Int):=by omega
 have D:(n:Int)≤(d:Int):=by omega
 cases A with
 | none=>go_simp
 | some a=>go_simp
theorem zX {w:World} {A:Option Addr} {l:List Bs} {n:Nat} (h:Rd w [] 1 A l.length (strs l)) (U:n≤l.length):Rd w [] 1 A (l.take n).length (strs (l.take n)):=by
 refine ⟨by rw[ja,Nat.mul_one],fun M=>?_⟩;obtain ⟨J,e,N,I,O⟩:=h.2 (by rw[FH] at M;omega);refine ⟨J,e,N,I,fun j u D=>O j u ?_⟩;unfold strs at D ⊢;rw[List.map_take,List.getElem?_take] at D;split at D
 ·exact D
 cases D
theorem DR:(Tryz.prog.info? 64).map (fun i=>(i.zero,i.size,i.bytes))=some (some (.agg #[FM ⟨#[]⟩,FR FS 0]),2,24):=by kernel_rfl
theorem rF (q:List Cl) (v:Cl):ai (q++[v])=ai q++[FM (bs v.name),FR FS v.kind]:=by simp[ai,fi]
theorem xT (a:List Cl) (l:List Bs) (m:Nat) (h:m<l.length) (out:List Cl):cY a (l.take m) (l.drop m) out=match an a l[m] with
  | none=> .error 7
  | some k=>if l[m]∈l.take m then .error 9 else cY a (l.take (m+1)) (l.drop (m+1)) (out++[a.getD k zC]):=by
 rw[List.drop_eq_getElem_cons h];conv=>lhs;unfold cY
 rw[List.take_succ_eq_append_getElem h];cases an a l[m]<;>rfl
theorem uS (j:Jb) (a:List Cl) (Ao:Option Addr) (co:Nat) (Ai:Option Addr) (ni ci:Nat) (Ac:Option Addr) (cc:Nat) (A:Option Addr) (c:Nat) (w:World) (hJ:gT w j Ao co Ac cc) (hA:Rd w [] 2 A a.length (ai a)) (hc:a.length≤c) (hl:a.length≤4294967296) :
  Calls Tryz.prog 60 #[eM j Ao co Ai ni ci Ac cc,FN A a.length c] w fun e w'=>aP (cw j a) e w'∧aa [] w w':=by
 obtain ⟨ic,b9,b3,bo,bZ⟩:=info_parts DR;have ca:=Fx (fun (nm:Bs) W (q:aa [] w W)=>bU a nm A c W (hA.keep q) hl);have HA:=Fx hA;have HJ:=Fx hJ.cols;have ch:=hJ.cc;have cd:=hJ.lc;obtain ⟨R,hR⟩:∃ R,cw j a=R:=⟨_,rfl⟩
 rw[hR]
 have HR:Hid (R=if j.cols.length=0∨6<j.cols.length then .error 1 else match cY a [] j.cols [] with
  | .error e=> .error e
  | .ok out=> .ok [if j.code=4 then a else out]):=Fx (by
  rw[←hR];unfold cw;split
  ·rfl
  cases cY a [] j.cols []<;>rfl)
 clear hR hJ hA;obtain ⟨a1,code,outs,ins,cols,op,⟨lc,lk,ln,lw⟩,⟨rc,rk,rn,a2⟩,J⟩:=j;simp only at HR HJ ch cd;have a3:Hid (aa [] w (w.alloc (FQ #[FR FS a1,FR FS code,FN Ao outs.length co,FN Ai ni ci,FN Ac cols.length cc,FM (bs op),FM (bs lc),FR FS lk,FR FS ln,FM (bs lw),FM (bs rc),FR FS rk,FR FS rn,FM (bs a2),FR FS J] 50))):=Fx ((FK _ _).alloc _);have a0:=Fx (FL w 50 #[FR FS a1,FR FS code,FN Ao outs.length co,FN Ai ni ci,FN Ac cols.length cc,FM (bs op),FM (bs lc),FR FS lk,FR FS ln,FM (bs lw),FM (bs rc),FR FS rk,FR FS rn,FM (bs a2),FR FS J]);show Calls _ _ #[.agg #[FR FS a1,FR FS code,FN Ao outs.length co,FN Ai ni ci,FN Ac cols.length cc,FM (bs op),FM (bs lc),FR FS lk,FR FS ln,FM (bs lw),FM (bs rc),FR FS rk,FR FS rn,FM (bs a2),FR FS J],FN A a.length c] w _;by_cases h0:cols.length=0
 ·have t0:((cols.length:Int)==0)=true:=by rw[h0];rfl
  have bc:Hid (R= .error 1):=Fx (by rw[HR.out,if_pos (.inl h0)]);clear HR h0;go_enter Tryz.func60,Tryz.ntmps60
  go_wp2;go_ret2;exact ⟨by rw[bc.out];rfl,a3.out⟩
 have t0:((cols.length:Int)==0)=false:=by rw[beq_eq_false_iff_ne];omega
 by_cases h6:6<cols.length
 ·have t6:decide ((6:Int)<(cols.length:Int))=true:=decide_eq_true (by omega)
  have bc:Hid (R= .error 1):=Fx (by rw[HR.out,if_pos (.inr h6)]);clear HR h0 h6;go_enter Tryz.func60,Tryz.ntmps60
  go_wp2;go_ret2;exact ⟨by rw[bc.out];rfl,a3.out⟩
 have t6:decide ((6:Int)<(cols.length:Int))=false:=decide_eq_false (by omega)
 have bl:R=match cY a [] cols [] with
  | .error e=> .error e
  | .ok out=> .ok [if code=4 then a else out]:=by
  rw[HR.out,if_neg (by omega)]
 have a8:=Fx bl;obtain ⟨b,o,rfl,_,hb,M⟩:=HJ.out.open' (by omega) (by decide);have b7:=Fx M;have cr:0<cols.length:=by omega
 clear HR h0 bl M;go_enter Tryz.func60,Tryz.ntmps60
 go_wp2;obtain ⟨w2,b5⟩:∃ w2,(w.alloc (FQ #[FR FS a1,FR FS code,FN Ao outs.length co,FN Ai ni ci,FN (some ⟨b,o,none⟩) cols.length cc,FM (bs op),FM (bs lc),FR FS lk,FR FS ln,FM (bs lw),FM (bs rc),FR FS rk,FR FS rn,FM (bs a2),FR FS J] 50))=w2:=⟨_,rfl⟩
 rw[b5] at a3 a0 ⊢;obtain ⟨bx,bX⟩:∃ bx,w.heap.size=bx:=⟨_,rfl⟩
 rw[bX] at a0 ⊢;clear b5 bX;go_loopw [6,24] (fun u i wx=>∃ (m:Nat) (q:List Cl) (v:Value),v=u∧m≤cols.length∧q.length=m∧i=FR FS m∧wx.ownsRow w2.heap.size 64 2 v m (ai q)∧Hid (cY a (cols.take m) (cols.drop m) q=cY a [] cols [])∧aa [] w2 wx) (fun _ i _=>cols.length-(intOf i).toNat)
 case atStart=>exact ⟨0,[],_,rfl,FF _,rfl,rfl,World.ownsRow_nil _ _ _ _,by rw[List.take_zero,List.drop_zero];exact rfl,FK _ _⟩
 obtain ⟨m,q,v,rfl,hm,hq,rfl,a4,a9,hk⟩:=hrel;have HQ:=Fx hq;have HO:=Fx a4;have HK:=Fx hk;have I:=Fx (a3.out.trans hk);clear hq a4 hk;by_cases b1:m<cols.length
 ·have d0:=I.out.cell_of (b7.out m _ (cC cols m b1)) (by simp)
  have y4:wr.cell? ⟨bx,4,none⟩=some (FN (some ⟨b,o,none⟩) cols.length cc):=HK.out.cell_of (a0.out.cell 4) (by simp);have ba:=xT a cols m b1 q;rw[a9.out] at ba;have aA:=Fx ba;have av:=Fx (fun W (z:aa [] w W)=>li (cols.take m) (cols[m]) (some ⟨b,o,none⟩) cc W (zX (HJ.out.keep z) hm) (by rw[FH];omega));have bq:(cols.take m).length=m:=by rw[FH];omega
  rw[bq] at av;have cx:=qu (some ⟨b,o,none⟩) cols.length cc m (by omega);have HF:=Fx (ca.out cols[m]);clear ba bq;generalize cols[m]=nm at *
  cases U:an a nm with
  | none =>
   rw[U] at HF aA;have ad:Hid (R= .error 7):=Fx (by rw[a8.out,aA.out]);clear U;go_wp2_with fail
   refine (HF.out _ I.out).mono ?_;rintro e w5 ⟨rfl,D⟩;simp only[eL];go_wp2;go_ret2;exact ⟨by rw[ad.out];rfl,I.out.trans D⟩
  | some k =>
   rw[U] at HF aA;have bb:k<a.length:=(List.findIdx?_eq_some_iff_getElem.1 U).1;have be:a.getD k zC=a[k]:=by rw[FJ,FA bb];rfl
   obtain ⟨b4,o4,cg,_,cu,M⟩:=HA.out.open' (by omega) (by omega);subst cg;have d1:=M (k*2) _ (aN a k bb).1;have d2:=M (k*2+1) _ (aN a k bb).2;rw[←Nat.add_assoc] at d2;have cy:((k:Int)<0)=False:=eq_false (by omega);have cz:(0:Int)≤(k:Int):=by omega
   have c0:(k:Int)<(a.length:Int):=by omega
   by_cases Z:nm∈cols.take m
   ·rw[decide_eq_true Z] at av
    have ad:Hid (R= .error 9):=Fx (by rw[a8.out,aA.out];simp only;rw[if_pos Z]);clear U Z M be d1 d2;go_wp2_with fail
    refine (HF.out _ I.out).mono ?_;rintro e w5 ⟨rfl,D⟩;simp only[eL];have y5:=D.cell_of y4 (by simp);go_wp2_with (go_at_call 34;refine (av.out _ (I.out.trans D)).mono ?_;rintro e w6 ⟨rfl,rfl⟩)
    go_ret2;exact ⟨by rw[ad.out];rfl,I.out.trans D⟩
   rw[decide_eq_false Z] at av;have b0:Hid (cY a (cols.take (m+1)) (cols.drop (m+1)) (q++[a[k]])=cY a [] cols []):=Fx (by rw[aA.out];simp only;rw[if_neg Z,be]);have ce:=Fx d1;have cm:=Fx d2;clear U Z M be d1 d2;generalize a[k]=cl at *;go_wp2_with fail
   refine (HF.out _ I.out).mono ?_;rintro e w5 ⟨rfl,D⟩;simp only[eL];have y5:=D.cell_of y4 (by simp);have e1:=(I.out.trans D).cell_of ce.out (by simp);have e2:=(I.out.trans D).cell_of cm.out (by simp);have br:=Fx (aC HO.out D (fun _ _=>by simp));have cv:w2.heap.size≤w5.heap.size:=FD HK.out.size D.size;have b6:=Fx (HK.out.trans D);have bz:=Fx (av.out _ (I.out.trans D));have bm:=Fx (show m+1≤maxLen∧(m+1)*24≤140737488355328 by simp only[maxLen];omega);clear D y4;go_wp2_with (first|(go_at_call 34;refine bz.out.mono ?_;rintro e w6 ⟨rfl,rfl⟩)|(at_builtin;refine wpList_append_lies _ rfl _ _ 51 rfl w2.heap.size 64 ic _ 2 24 Tryz.underlying51 b9 b3 bo bZ rfl (by decide) _ m (ai q) rfl (br.out.alloc _) ⟨w5.heap.size,0,none⟩ 1 1 [FM (bs cl.name),FR FS cl.kind] rfl rfl (FI (heap_alloc_new _ _)) (by simp[Value.oneCell']) (by decide) bm.out.1 bm.out.2 (by simp;omega) _ rfl ?_;intro gw ct w8 N O bj bv))
   have cj:=Fx ((b6.out.alloc (FQ #[FM (bs cl.name),FR FS cl.kind] 64)).grown O (fun g hg=> .inr (br.out.lt g hg).1));rw[←rF] at N;have cn:=Fx N;clear N O bj bv;go_wp2;go_roundw
   case rel=>exact ⟨m+1,q++[cl],_,rfl,by omega,by simp[HQ.out],by go_num,cn.out,b0,cj.out⟩
   case measure=>simp[intOf];omega
 obtain rfl:m=cols.length:=by omega
 have a7:=a9.out;rw[List.drop_length] at a7;have ad:Hid (R= .ok [if code=4 then a else q]):=Fx (by rw[a8.out,←a7];rfl);clear a7 a9;have y1:wr.cell? ⟨bx,1,none⟩=some (FR FS code):=HK.out.cell_of (a0.out.cell 1) (by simp);by_cases h4:code=4
 ·have t4:(code==4)=true:=by rw[h4];rfl
  have a5:Hid (R= .ok [a]):=Fx (by rw[ad.out,if_pos h4]);have a6:=Fx (eN (HA.out.keep I.out) hc 51);clear h4;go_wp2;go_ret2;exact ⟨by rw[a5.out];exact ⟨_,_,rfl,Fy _,a6.out⟩,I.out.alloc _⟩
 have t4:(code==4)=false:=by rw[beq_eq_false_iff_ne];exact h4
 have a5:Hid (R= .ok [q]):=Fx (by rw[ad.out,if_neg h4]);obtain ⟨Aq,cq,hv,b8,bk⟩:∃ A c,v=FN A q.length c∧q.length≤c∧Rd wr [] 2 A q.length (ai q):=by
  have h:=HO.out;rcases h.2 with ⟨hv,h0⟩|⟨g,cap,cur,hv,hb,hh,hc,r⟩
  ·omega
  exact ⟨_,cap,by rw[HQ.out];exact hv,by rw[HQ.out];exact hc,by rw[HQ.out];exact Rd.of_own (hv ▸ h) (fun _ _=>by simp)⟩
 subst hv;have a6:=Fx (eN bk b8 51);clear h4 bk;go_wp2;go_ret2;exact ⟨by rw[a5.out];exact ⟨_,_,rfl,Fy _,a6.out⟩,I.out.alloc _⟩
end
section
open Go.RowKit Go.BigFrame
attribute [local go_sem] ag ab ae af
attribute [local go_sem] KW.cell
theorem aP.split {R:Except Int (List (List Cl))} {e:Ending} {w:World} (h:aP R e w):∃ u v,e=FP (.tuple #[u,v])∧aP R (FP (.tuple #[u,v])) w:=by
 cases R with
 | error x=>exact ⟨_,_,h,rfl⟩
 | ok out =>
  obtain ⟨B,d,rfl,D,I⟩:=h;exact ⟨_,_,rfl,B,d,rfl,D,I⟩
theorem aU.first {w:World} {A:Option Addr} {D:List (List Cl)} (h:aU w A D) (J:0<D.length) (hl:D.length≤4294967296):∃ b o B d,A=some ⟨b,o,none⟩∧b<w.heap.size∧w.cell? ⟨b,o,none⟩=some (FN B (D.getD 0 []).length d)∧(D.getD 0 []).length≤d∧Rd w [] 2 B (D.getD 0 []).length (ai (D.getD 0 [])):=by
 obtain ⟨us,h1,U,Z⟩:=h;obtain ⟨b,o,rfl,_,M,O⟩:=U.open' (by omega) (by omega);obtain ⟨B,d,N,hd,hB⟩:=Z 0 (by omega) J;have I:D.getD 0 []=D[0]:=by rw[FJ,FA J];rfl
 refine ⟨b,o,B,d,rfl,M,?_,by rw[I];exact hd,by rw[I];exact hB⟩;rw[I,←N];exact O 0 _ (FA (by omega))
theorem aU.second {w:World} {b o:Nat} {D:List (List Cl)} (h:aU w (some ⟨b,o,none⟩) D) (J:1<D.length) (hl:D.length≤4294967296):∃ B d,w.cell? ⟨b,o+1,none⟩=some (FN B (D.getD 1 []).length d)∧(D.getD 1 []).length≤d∧Rd w [] 2 B (D.getD 1 []).length (ai (D.getD 1 [])):=by
 obtain ⟨us,h1,O,Z⟩:=h;obtain ⟨b2,o2,U,_,hb,N⟩:=O.open' (by omega) (by omega);cases U
 obtain ⟨B,d,M,hd,hB⟩:=Z 1 (by omega) J;have I:D.getD 1 []=D[1]:=by rw[FJ,FA J];rfl
 refine ⟨B,d,?_,by rw[I];exact hd,by rw[I];exact hB⟩;rw[I,←M];exact N 1 _ (FA (by omega))
theorem DT (I D N ln rk O:Int) (outs js cols:List Bs) (op lc Z U J:Bs) (Ao:Option Addr) (co:Nat) (Ai:Option Addr) (ni ci:Nat) (Ac:Option Addr) (cc:Nat) (ins:List (List Cl)) (AH:Option Addr) (ch:Nat) (w:World) (hH:aU w AH ins) (hi:ins.length=1) (ho:outs.length=1)
  (hf:∀ A d W,(ins.getD 0 []).length≤d→Rd w [] 2 A (ins.getD 0 []).length (ai (ins.getD 0 []))→aa [] w W→Calls Tryz.prog 58 #[eM (⟨I,1,outs,js,cols,op,⟨lc,N,ln,Z⟩,⟨U,rk,O,J⟩,D⟩:Jb) Ao co Ai ni ci Ac cc,FN A (ins.getD 0 []).length d] W fun e w'=>aP (aX (⟨I,1,outs,js,cols,op,⟨lc,N,ln,Z⟩,⟨U,rk,O,J⟩,D⟩:Jb) (ins.getD 0 [])) e w'∧aa [] W w') :
  Calls Tryz.prog 22 #[.agg #[FR FS I,FR FS 1,FN Ao outs.length co,FN Ai ni ci,FN Ac cols.length cc,FM (bs op),FM (bs lc),FR FS N,FR FS ln,FM (bs Z),FM (bs U),FR FS rk,FR FS O,FM (bs J),FR FS D],FN AH ins.length ch] w fun e w'=>aP (aX (⟨I,1,outs,js,cols,op,⟨lc,N,ln,Z⟩,⟨U,rk,O,J⟩,D⟩:Jb) (ins.getD 0 [])) e w'∧aa [] w w':=by
 obtain ⟨b,o,A,d,rfl,hb,a0,hd,hA⟩:=hH.first (by omega) (by omega);have HF:=Fx (fun W=>hf A d W hd hA);clear hf hA hH;generalize aX (⟨I,1,outs,js,cols,op,⟨lc,N,ln,Z⟩,⟨U,rk,O,J⟩,D⟩:Jb) (ins.getD 0 [])=R at *;have HF':Hid (∀ W,aa [] w W→Calls Tryz.prog 58 #[.agg #[FR FS I,FR FS 1,FN Ao outs.length co,FN Ai ni ci,FN Ac cols.length cc,FM (bs op),FM (bs lc),FR FS N,FR FS ln,FM (bs Z),FM (bs U),FR FS rk,FR FS O,FM (bs J),FR FS D],FN A (ins.getD 0 []).length d] W fun e w'=>aP R e w'∧aa [] W w'):=HF;clear HF;generalize (ins.getD 0 []).length=n at *;have HS:Hid (∀ W,Calls Tryz.prog 57 #[FR FS 1] W fun e W'=>e=FP (.tuple #[FR FS 1,FR FS 1])∧W=W'):=Fx fun W=>by
  have h:=du 1 W;rw[show au 1=(1,1) by decide] at h;exact h
 rw[hi];rw[ho] at HF' ⊢;clear hi ho;go_enter Tryz.func22,Tryz.ntmps22
 go_wp2_with (go_at_call 57;refine (HS.out _).mono ?_;rintro e w6 ⟨rfl,rfl⟩)
 refine (HF'.out _ ((FK _ _).alloc _)).mono ?_;rintro e w3 ⟨M,ad⟩;obtain ⟨u,v,rfl,M⟩:=M.split;have aA:=Fx M;have av:=Fx (((FK _ _).alloc _).trans ad);clear ad M;go_wp2;go_ret2;exact ⟨aA.out,av.out⟩
theorem DU (I D N ln rk O:Int) (outs js cols:List Bs) (op lc Z U J:Bs) (Ao:Option Addr) (co:Nat) (Ai:Option Addr) (ni ci:Nat) (Ac:Option Addr) (cc:Nat) (ins:List (List Cl)) (AH:Option Addr) (ch:Nat) (w:World) (hH:aU w AH ins) (hi:ins.length=1) (ho:outs.length=2)
  (hf:∀ A d W,(ins.getD 0 []).length≤d→Rd w [] 2 A (ins.getD 0 []).length (ai (ins.getD 0 []))→aa [] w W→Calls Tryz.prog 58 #[eM (⟨I,9,outs,js,cols,op,⟨lc,N,ln,Z⟩,⟨U,rk,O,J⟩,D⟩:Jb) Ao co Ai ni ci Ac cc,FN A (ins.getD 0 []).length d] W fun e w'=>aP (aX (⟨I,9,outs,js,cols,op,⟨lc,N,ln,Z⟩,⟨U,rk,O,J⟩,D⟩:Jb) (ins.getD 0 [])) e w'∧aa [] W w') :
  Calls Tryz.prog 22 #[.agg #[FR FS I,FR FS 9,FN Ao outs.length co,FN Ai ni ci,FN Ac cols.length cc,FM (bs op),FM (bs lc),FR FS N,FR FS ln,FM (bs Z),FM (bs U),FR FS rk,FR FS O,FM (bs J),FR FS D],FN AH ins.length ch] w fun e w'=>aP (aX (⟨I,9,outs,js,cols,op,⟨lc,N,ln,Z⟩,⟨U,rk,O,J⟩,D⟩:Jb) (ins.getD 0 [])) e w'∧aa [] w w':=by
 obtain ⟨b,o,A,d,rfl,hb,a0,hd,hA⟩:=hH.first (by omega) (by omega);have HF:=Fx (fun W=>hf A d W hd hA);clear hf hA hH;generalize aX (⟨I,9,outs,js,cols,op,⟨lc,N,ln,Z⟩,⟨U,rk,O,J⟩,D⟩:Jb) (ins.getD 0 [])=R at *;have HF':Hid (∀ W,aa [] w W→Calls Tryz.prog 58 #[.agg #[FR FS I,FR FS 9,FN Ao outs.length co,FN Ai ni ci,FN Ac cols.length cc,FM (bs op),FM (bs lc),FR FS N,FR FS ln,FM (bs Z),FM (bs U),FR FS rk,FR FS O,FM (bs J),FR FS D],FN A (ins.getD 0 []).length d] W fun e w'=>aP R e w'∧aa [] W w'):=HF;clear HF;generalize (ins.getD 0 []).length=n at *;have HS:Hid (∀ W,Calls Tryz.prog 57 #[FR FS 9] W fun e W'=>e=FP (.tuple #[FR FS 1,FR FS 2])∧W=W'):=Fx fun W=>by
  have h:=du 9 W;rw[show au 9=(1,2) by decide] at h;exact h
 rw[hi];rw[ho] at HF' ⊢;clear hi ho;go_enter Tryz.func22,Tryz.ntmps22
 go_wp2_with (go_at_call 57;refine (HS.out _).mono ?_;rintro e w6 ⟨rfl,rfl⟩)
 refine (HF'.out _ ((FK _ _).alloc _)).mono ?_;rintro e w3 ⟨M,ad⟩;obtain ⟨u,v,rfl,M⟩:=M.split;have aA:=Fx M;have av:=Fx (((FK _ _).alloc _).trans ad);clear ad M;go_wp2;go_ret2;exact ⟨aA.out,av.out⟩
theorem DV (I D N ln rk O:Int) (outs js cols:List Bs) (op lc Z U J:Bs) (Ao:Option Addr) (co:Nat) (Ai:Option Addr) (ni ci:Nat) (Ac:Option Addr) (cc:Nat) (ins:List (List Cl)) (AH:Option Addr) (ch:Nat) (w:World) (hH:aU w AH ins) (hi:ins.length=1) (ho:outs.length=1)
  (hf:∀ A d W,(ins.getD 0 []).length≤d→Rd w [] 2 A (ins.getD 0 []).length (ai (ins.getD 0 []))→aa [] w W→Calls Tryz.prog 59 #[eM (⟨I,2,outs,js,cols,op,⟨lc,N,ln,Z⟩,⟨U,rk,O,J⟩,D⟩:Jb) Ao co Ai ni ci Ac cc,FN A (ins.getD 0 []).length d] W fun e w'=>aP (jQ (⟨I,2,outs,js,cols,op,⟨lc,N,ln,Z⟩,⟨U,rk,O,J⟩,D⟩:Jb) (ins.getD 0 [])) e w'∧aa [] W w') :
  Calls Tryz.prog 22 #[.agg #[FR FS I,FR FS 2,FN Ao outs.length co,FN Ai ni ci,FN Ac cols.length cc,FM (bs op),FM (bs lc),FR FS N,FR FS ln,FM (bs Z),FM (bs U),FR FS rk,FR FS O,FM (bs J),FR FS D],FN AH ins.length ch] w fun e w'=>aP (jQ (⟨I,2,outs,js,cols,op,⟨lc,N,ln,Z⟩,⟨U,rk,O,J⟩,D⟩:Jb) (ins.getD 0 [])) e w'∧aa [] w w':=by
 obtain ⟨b,o,A,d,rfl,hb,a0,hd,hA⟩:=hH.first (by omega) (by omega);have HF:=Fx (fun W=>hf A d W hd hA);clear hf hA hH;generalize jQ (⟨I,2,outs,js,cols,op,⟨lc,N,ln,Z⟩,⟨U,rk,O,J⟩,D⟩:Jb) (ins.getD 0 [])=R at *;have HF':Hid (∀ W,aa [] w W→Calls Tryz.prog 59 #[.agg #[FR FS I,FR FS 2,FN Ao outs.length co,FN Ai ni ci,FN Ac cols.length cc,FM (bs op),FM (bs lc),FR FS N,FR FS ln,FM (bs Z),FM (bs U),FR FS rk,FR FS O,FM (bs J),FR FS D],FN A (ins.getD 0 []).length d] W fun e w'=>aP R e w'∧aa [] W w'):=HF;clear HF;generalize (ins.getD 0 []).length=n at *;have HS:Hid (∀ W,Calls Tryz.prog 57 #[FR FS 2] W fun e W'=>e=FP (.tuple #[FR FS 1,FR FS 1])∧W=W'):=Fx fun W=>by
  have h:=du 2 W;rw[show au 2=(1,1) by decide] at h;exact h
 rw[hi];rw[ho] at HF' ⊢;clear hi ho;go_enter Tryz.func22,Tryz.ntmps22
 go_wp2_with (go_at_call 57;refine (HS.out _).mono ?_;rintro e w6 ⟨rfl,rfl⟩)
 refine (HF'.out _ ((FK _ _).alloc _)).mono ?_;rintro e w3 ⟨M,ad⟩;obtain ⟨u,v,rfl,M⟩:=M.split;have aA:=Fx M;have av:=Fx (((FK _ _).alloc _).trans ad);clear ad M;go_wp2;go_ret2;exact ⟨aA.out,av.out⟩
theorem DW (I D N ln rk O:Int) (outs js cols:List Bs) (op lc Z U J:Bs) (Ao:Option Addr) (co:Nat) (Ai:Option Addr) (ni ci:Nat) (Ac:Option Addr) (cc:Nat) (ins:List (List Cl)) (AH:Option Addr) (ch:Nat) (w:World) (hH:aU w AH ins) (hi:ins.length=1) (ho:outs.length=1)
  (hf:∀ A d W,(ins.getD 0 []).length≤d→Rd w [] 2 A (ins.getD 0 []).length (ai (ins.getD 0 []))→aa [] w W→Calls Tryz.prog 60 #[eM (⟨I,3,outs,js,cols,op,⟨lc,N,ln,Z⟩,⟨U,rk,O,J⟩,D⟩:Jb) Ao co Ai ni ci Ac cc,FN A (ins.getD 0 []).length d] W fun e w'=>aP (cw (⟨I,3,outs,js,cols,op,⟨lc,N,ln,Z⟩,⟨U,rk,O,J⟩,D⟩:Jb) (ins.getD 0 [])) e w'∧aa [] W w') :
  Calls Tryz.prog 22 #[.agg #[FR FS I,FR FS 3,FN Ao outs.length co,FN Ai ni ci,FN Ac cols.length cc,FM (bs op),FM (bs lc),FR FS N,FR FS ln,FM (bs Z),FM (bs U),FR FS rk,FR FS O,FM (bs J),FR FS D],FN AH ins.length ch] w fun e w'=>aP (cw (⟨I,3,outs,js,cols,op,⟨lc,N,ln,Z⟩,⟨U,rk,O,J⟩,D⟩:Jb) (ins.getD 0 [])) e w'∧aa [] w w':=by
 obtain ⟨b,o,A,d,rfl,hb,a0,hd,hA⟩:=hH.first (by omega) (by omega);have HF:=Fx (fun W=>hf A d W hd hA);clear hf hA hH;generalize cw (⟨I,3,outs,js,cols,op,⟨lc,N,ln,Z⟩,⟨U,rk,O,J⟩,D⟩:Jb) (ins.getD 0 [])=R at *;have HF':Hid (∀ W,aa [] w W→Calls Tryz.prog 60 #[.agg #[FR FS I,FR FS 3,FN Ao outs.length co,FN Ai ni ci,FN Ac cols.length cc,FM (bs op),FM (bs lc),FR FS N,FR FS ln,FM (bs Z),FM (bs U),FR FS rk,FR FS O,FM (bs J),FR FS D],FN A (ins.getD 0 []).length d] W fun e w'=>aP R e w'∧aa [] W w'):=HF;clear HF;generalize (ins.getD 0 []).length=n at *;have HS:Hid (∀ W,Calls Tryz.prog 57 #[FR FS 3] W fun e W'=>e=FP (.tuple #[FR FS 1,FR FS 1])∧W=W'):=Fx fun W=>by
  have h:=du 3 W;rw[show au 3=(1,1) by decide] at h;exact h
 rw[hi];rw[ho] at HF' ⊢;clear hi ho;go_enter Tryz.func22,Tryz.ntmps22
 go_wp2_with (go_at_call 57;refine (HS.out _).mono ?_;rintro e w6 ⟨rfl,rfl⟩)
 refine (HF'.out _ ((FK _ _).alloc _)).mono ?_;rintro e w3 ⟨M,ad⟩;obtain ⟨u,v,rfl,M⟩:=M.split;have aA:=Fx M;have av:=Fx (((FK _ _).alloc _).trans ad);clear ad M;go_wp2;go_ret2;exact ⟨aA.out,av.out⟩
theorem DX (I D N ln rk O:Int) (outs js cols:List Bs) (op lc Z U J:Bs) (Ao:Option Addr) (co:Nat) (Ai:Option Addr) (ni ci:Nat) (Ac:Option Addr) (cc:Nat) (ins:List (List Cl)) (AH:Option Addr) (ch:Nat) (w:World) (hH:aU w AH ins) (hi:ins.length=1) (ho:outs.length=1)
  (hf:∀ A d W,(ins.getD 0 []).length≤d→Rd w [] 2 A (ins.getD 0 []).length (ai (ins.getD 0 []))→aa [] w W→Calls Tryz.prog 60 #[eM (⟨I,4,outs,js,cols,op,⟨lc,N,ln,Z⟩,⟨U,rk,O,J⟩,D⟩:Jb) Ao co Ai ni ci Ac cc,FN A (ins.getD 0 []).length d] W fun e w'=>aP (cw (⟨I,4,outs,js,cols,op,⟨lc,N,ln,Z⟩,⟨U,rk,O,J⟩,D⟩:Jb) (ins.getD 0 [])) e w'∧aa [] W w') :
  Calls Tryz.prog 22 #[.agg #[FR FS I,FR FS 4,FN Ao outs.length co,FN Ai ni ci,FN Ac cols.length cc,FM (bs op),FM (bs lc),FR FS N,FR FS ln,FM (bs Z),FM (bs U),FR FS rk,FR FS O,FM (bs J),FR FS D],FN AH ins.length ch] w fun e w'=>aP (cw (⟨I,4,outs,js,cols,op,⟨lc,N,ln,Z⟩,⟨U,rk,O,J⟩,D⟩:Jb) (ins.getD 0 [])) e w'∧aa [] w w':=by
 obtain ⟨b,o,A,d,rfl,hb,a0,hd,hA⟩:=hH.first (by omega) (by omega);have HF:=Fx (fun W=>hf A d W hd hA);clear hf hA hH;generalize cw (⟨I,4,outs,js,cols,op,⟨lc,N,ln,Z⟩,⟨U,rk,O,J⟩,D⟩:Jb) (ins.getD 0 [])=R at *;have HF':Hid (∀ W,aa [] w W→Calls Tryz.prog 60 #[.agg #[FR FS I,FR FS 4,FN Ao outs.length co,FN Ai ni ci,FN Ac cols.length cc,FM (bs op),FM (bs lc),FR FS N,FR FS ln,FM (bs Z),FM (bs U),FR FS rk,FR FS O,FM (bs J),FR FS D],FN A (ins.getD 0 []).length d] W fun e w'=>aP R e w'∧aa [] W w'):=HF;clear HF;generalize (ins.getD 0 []).length=n at *;have HS:Hid (∀ W,Calls Tryz.prog 57 #[FR FS 4] W fun e W'=>e=FP (.tuple #[FR FS 1,FR FS 1])∧W=W'):=Fx fun W=>by
  have h:=du 4 W;rw[show au 4=(1,1) by decide] at h;exact h
 rw[hi];rw[ho] at HF' ⊢;clear hi ho;go_enter Tryz.func22,Tryz.ntmps22
 go_wp2_with (go_at_call 57;refine (HS.out _).mono ?_;rintro e w6 ⟨rfl,rfl⟩)
 refine (HF'.out _ ((FK _ _).alloc _)).mono ?_;rintro e w3 ⟨M,ad⟩;obtain ⟨u,v,rfl,M⟩:=M.split;have aA:=Fx M;have av:=Fx (((FK _ _).alloc _).trans ad);clear ad M;go_wp2;go_ret2;exact ⟨aA.out,av.out⟩
theorem DY (I D N ln rk O:Int) (outs js cols:List Bs) (op lc Z U J:Bs) (Ao:Option Addr) (co:Nat) (Ai:Option Addr) (ni ci:Nat) (Ac:Option Addr) (cc:Nat) (ins:List (List Cl)) (AH:Option Addr) (ch:Nat) (w:World) (hH:aU w AH ins) (hi:ins.length=1) (ho:outs.length=1)
  (hf:∀ A d W,(ins.getD 0 []).length≤d→Rd w [] 2 A (ins.getD 0 []).length (ai (ins.getD 0 []))→aa [] w W→Calls Tryz.prog 62 #[eM (⟨I,8,outs,js,cols,op,⟨lc,N,ln,Z⟩,⟨U,rk,O,J⟩,D⟩:Jb) Ao co Ai ni ci Ac cc,FN A (ins.getD 0 []).length d] W fun e w'=>aP (cI (⟨I,8,outs,js,cols,op,⟨lc,N,ln,Z⟩,⟨U,rk,O,J⟩,D⟩:Jb) (ins.getD 0 [])) e w'∧aa [] W w') :
  Calls Tryz.prog 22 #[.agg #[FR FS I,FR FS 8,FN Ao outs.length co,FN Ai ni ci,FN Ac cols.length cc,FM (bs op),FM (bs lc),FR FS N,FR FS ln,FM (bs Z),FM (bs U),FR FS rk,FR FS O,FM (bs J),FR FS D],FN AH ins.length ch] w fun e w'=>aP (cI (⟨I,8,outs,js,cols,op,⟨lc,N,ln,Z⟩,⟨U,rk,O,J⟩,D⟩:Jb) (ins.getD 0 [])) e w'∧aa [] w w':=by
 obtain ⟨b,o,A,d,rfl,hb,a0,hd,hA⟩:=hH.first (by omega) (by omega);have HF:=Fx (fun W=>hf A d W hd hA);clear hf hA hH;generalize cI (⟨I,8,outs,js,cols,op,⟨lc,N,ln,Z⟩,⟨U,rk,O,J⟩,D⟩:Jb) (ins.getD 0 [])=R at *;have HF':Hid (∀ W,aa [] w W→Calls Tryz.prog 62 #[.agg #[FR FS I,FR FS 8,FN Ao outs.length co,FN Ai ni ci,FN Ac cols.length cc,FM (bs op),FM (bs lc),FR FS N,FR FS ln,FM (bs Z),FM (bs U),FR FS rk,FR FS O,FM (bs J),FR FS D],FN A (ins.getD 0 []).length d] W fun e w'=>aP R e w'∧aa [] W w'):=HF;clear HF;generalize (ins.getD 0 []).length=n at *;have HS:Hid (∀ W,Calls Tryz.prog 57 #[FR FS 8] W fun e W'=>e=FP (.tuple #[FR FS 1,FR FS 1])∧W=W'):=Fx fun W=>by
  have h:=du 8 W;rw[show au 8=(1,1) by decide] at h;exact h
 rw[hi];rw[ho] at HF' ⊢;clear hi ho;go_enter Tryz.func22,Tryz.ntmps22
 go_wp2_with (go_at_call 57;refine (HS.out _).mono ?_;rintro e w6 ⟨rfl,rfl⟩)
 refine (HF'.out _ ((FK _ _).alloc _)).mono ?_;rintro e w3 ⟨M,ad⟩;obtain ⟨u,v,rfl,M⟩:=M.split;have aA:=Fx M;have av:=Fx (((FK _ _).alloc _).trans ad);clear ad M;go_wp2;go_ret2;exact ⟨aA.out,av.out⟩
theorem ap (w:World) (o:Obj):(w.alloc o).heap.size=w.heap.size+1:=by
 show (w.heap.push o).size=_;simp
theorem DZ (I D lk ln rk rn:Int) (outs av cols:List Bs) (op lc lw rc N:Bs) (O:Option Addr) (co:Nat) (U:Option Addr) (ni Z:Nat) (Ac:Option Addr) (cc:Nat) (ins:List (List Cl)) (AH:Option Addr) (ch:Nat) (w:World) (hH:aU w AH ins) (hi:ins.length=1) (ho:outs.length=1) :
  Calls Tryz.prog 22 #[.agg #[FR FS I,FR FS 6,FN O outs.length co,FN U ni Z,FN Ac cols.length cc,FM (bs op),FM (bs lc),FR FS lk,FR FS ln,FM (bs lw),FM (bs rc),FR FS rk,FR FS rn,FM (bs N),FR FS D],FN AH ins.length ch] w fun e w'=>aP (.ok [ins.getD 0 []]) e w'∧aa [] w w':=by
 obtain ⟨b,o,A,d,rfl,hb,ad,hd,hA⟩:=hH.first (by omega) (by omega);clear hH;have HS:Hid (∀ W,Calls Tryz.prog 57 #[FR FS 6] W fun e W'=>e=FP (.tuple #[FR FS 1,FR FS 1])∧W=W'):=Fx fun W=>by
  have h:=du 6 W;rw[show au 6=(1,1) by decide] at h;exact h
 rw[hi,ho];clear hi ho;have HA:=Fx hA;have HD:=Fx hd;generalize ins.getD 0 []=l at *;clear hA hd;have J:Hid (aa [] w (w.alloc (FQ #[FR FS I,FR FS 6,FN O 1 co,FN U ni Z,FN Ac cols.length cc,FM (bs op),FM (bs lc),FR FS lk,FR FS ln,FM (bs lw),FM (bs rc),FR FS rk,FR FS rn,FM (bs N),FR FS D] 50))):=Fx ((FK _ _).alloc _);have M:=Fx (eN (HA.out.keep J.out) HD.out 51);rw[ap] at M;go_enter Tryz.func22,Tryz.ntmps22
 go_wp2_with (go_at_call 57;refine (HS.out _).mono ?_;rintro e w6 ⟨rfl,rfl⟩)
 go_ret2;exact ⟨⟨_,_,rfl,Fy _,M.out⟩,J.out.alloc _⟩
theorem D3 (Z I lk ln rk rn:Int) (outs a4 cols:List Bs) (op lc lw rc av:Bs) (Ao:Option Addr) (co:Nat) (Ai:Option Addr) (ni ci:Nat) (Ac:Option Addr) (cc:Nat) (ins:List (List Cl)) (AH:Option Addr) (ch:Nat) (w:World) (hH:aU w AH ins) (U:∀ l∈ins,l.length≤4294967296) (hi:ins.length=2) (ho:outs.length=1) :
  Calls Tryz.prog 22 #[.agg #[FR FS Z,FR FS 5,FN Ao outs.length co,FN Ai ni ci,FN Ac cols.length cc,FM (bs op),FM (bs lc),FR FS lk,FR FS ln,FM (bs lw),FM (bs rc),FR FS rk,FR FS rn,FM (bs av),FR FS I],FN AH ins.length ch] w fun e w'=>aP (if ins.getD 0 []≠ins.getD 1 [] then .error 13 else .ok [ins.getD 0 []]) e w'∧aa [] w w':=by
 obtain ⟨b,o,A,d,rfl,hb,a3,hd,hA⟩:=hH.first (by omega) (by omega);obtain ⟨B,dB,a2,a0,hB⟩:=hH.second (by omega) (by omega);clear hH;have aA:(ins.getD 0 []).length≤4294967296:=U _ (by rw[FJ,FA (by omega)];exact FE _);have ad:(ins.getD 1 []).length≤4294967296:=U _ (by rw[FJ,FA (by omega)];exact FE _);have HS:Hid (∀ W,Calls Tryz.prog 57 #[FR FS 5] W fun e W'=>e=FP (.tuple #[FR FS 2,FR FS 1])∧W=W'):=Fx fun W=>by
  have h:=du 5 W;rw[show au 5=(2,1) by decide] at h;exact h
 rw[hi,ho];clear hi ho U;have O:=Fx (fun W (q:aa [] w W)=>kh (ins.getD 0 []) (ins.getD 1 []) A B d dB W (hA.keep q) (hB.keep q) aA ad);have HA:=Fx hA;have HD:=Fx hd;generalize ins.getD 0 []=l at *;generalize ins.getD 1 []=m at *;clear hA hd hB aA ad a0;have N:Hid (aa [] w (w.alloc (FQ #[FR FS Z,FR FS 5,FN Ao 1 co,FN Ai ni ci,FN Ac cols.length cc,FM (bs op),FM (bs lc),FR FS lk,FR FS ln,FM (bs lw),FM (bs rc),FR FS rk,FR FS rn,FM (bs av),FR FS I] 50))):=Fx ((FK _ _).alloc _);by_cases D:l=m
 ·rw[decide_eq_true D] at O
  rw[if_neg (fun h=>h D)];clear D;go_enter Tryz.func22,Tryz.ntmps22
  go_wp2_with (go_at_call 57;refine (HS.out _).mono ?_;rintro e w6 ⟨rfl,rfl⟩)
  refine (O.out _ N.out).mono ?_;rintro e w3 ⟨rfl,J⟩;have M:=Fx (N.out.trans J);clear J;have a1:=Fx (eN (HA.out.keep M.out) HD.out 51);go_wp2;go_ret2;exact ⟨⟨_,_,rfl,Fy _,a1.out⟩,M.out.alloc _⟩
 rw[decide_eq_false D] at O;rw[if_pos D];clear D;go_enter Tryz.func22,Tryz.ntmps22
 go_wp2_with (go_at_call 57;refine (HS.out _).mono ?_;rintro e w6 ⟨rfl,rfl⟩)
 refine (O.out _ N.out).mono ?_;rintro e w3 ⟨rfl,J⟩;have M:=Fx (N.out.trans J);clear J;go_wp2;go_ret2;exact ⟨rfl,M.out⟩
theorem sX (U code I lk ln rk rn:Int) (outs av cols:List Bs) (op lc lw rc Z:Bs) (Ao:Option Addr) (co:Nat) (Ai:Option Addr) (ni ci:Nat) (Ac:Option Addr) (cc:Nat) (ins:List (List Cl)) (AH:Option Addr) (ch:Nat) (w:World) (D:(au code).1=0∨ins.length≠(au code).1∨outs.length≠(au code).2) :
  Calls Tryz.prog 22 #[.agg #[FR FS U,FR FS code,FN Ao outs.length co,FN Ai ni ci,FN Ac cols.length cc,FM (bs op),FM (bs lc),FR FS lk,FR FS ln,FM (bs lw),FM (bs rc),FR FS rk,FR FS rn,FM (bs Z),FR FS I],FN AH ins.length ch] w fun e w'=>aP (.error 1) e w'∧aa [] w w':=by
 have HS:=Fx (fun W=>du code W);generalize au code=s at *;obtain ⟨s1,s2⟩:=s;simp only at D HS;have ad:∃ J b2 M,((s1:Int)==0)=J∧((ins.length:Int) != (s1:Int))=b2∧((outs.length:Int) != (s2:Int))=M∧(J=true∨b2=true∨M=true):=⟨_,_,_,rfl,rfl,rfl,by
  rcases D with h|h|h
  ·exact .inl (by rw[h];rfl)
  ·exact .inr (.inl (by rw[bne_iff_ne];omega))
  exact .inr (.inr (by rw[bne_iff_ne];omega))⟩
 obtain ⟨J,b2,M,t1,t2,t3,O⟩:=ad;clear D;have N:(J=true)∨(J=false∧b2=true)∨(J=false∧b2=false∧M=true):=by
  cases J<;>cases b2<;>cases M<;>simp at O ⊢
 clear O;rcases N with rfl|⟨rfl,rfl⟩|⟨rfl,rfl,rfl⟩
 all_goals
  go_enter Tryz.func22,Tryz.ntmps22
  go_wp2_with (go_at_call 57;refine (HS.out _).mono ?_;rintro e w6 ⟨rfl,rfl⟩)
  go_ret2;exact ⟨rfl,(FK _ _).alloc _⟩
theorem xU {code:Int} (h:(au code).1≠0):code=5∨code=7∨code=9∨code=1∨code=2∨code=3∨code=4∨code=6∨code=8:=by
 unfold au at h;split at h
 ·omega
 split at h
 ·omega
 split at h
 ·omega
 exact absurd rfl h
theorem ot (j:Jb) (N:Option Addr) (O:Nat) (Z:Option Addr) (ni ci:Nat) (U:Option Addr) (cc:Nat) (ins:List (List Cl)) (AH:Option Addr) (ch:Nat) (w:World) (hE:rC w) (hJ:gT w j N O U cc) (hH:aU w AH ins) (a1:∀ l∈ins,l.length≤4294967296) (h7:j.code≠7)
  (h8:j.code=8→∀ A d W,(ins.getD 0 []).length≤d→Rd w [] 2 A (ins.getD 0 []).length (ai (ins.getD 0 []))→aa [] w W→Calls Tryz.prog 62 #[eM j N O Z ni ci U cc,FN A (ins.getD 0 []).length d] W fun e w'=>aP (cI j (ins.getD 0 [])) e w'∧aa [] W w') :
  Calls Tryz.prog 22 #[eM j N O Z ni ci U cc,FN AH ins.length ch] w fun e w'=>aP (aL j ins) e w'∧aa [] w w':=by
 unfold aL;by_cases I:(au j.code).1=0∨ins.length≠(au j.code).1∨j.outs.length≠(au j.code).2
 ·rw[if_pos I]
  obtain ⟨J,code,outs,js,cols,op,⟨lc,lk,ln,lw⟩,⟨rc,rk,rn,M⟩,D⟩:=j;exact sX _ _ _ _ _ _ _ _ js _ _ _ _ _ _ _ _ _ _ _ _ _ _ _ _ _ I
 rw[if_neg I];have h0:(au j.code).1≠0:=fun h=>I (.inl h)
 have hi:ins.length=(au j.code).1:=Decidable.byContradiction fun h=>I (.inr (.inl h))
 have ho:j.outs.length=(au j.code).2:=Decidable.byContradiction fun h=>I (.inr (.inr h))
 have av:(ins.getD 0 []).length≤4294967296:=a1 _ (by rw[FJ,FA (by omega)];exact FE _);have a0:=fun A d W (h1:(ins.getD 0 []).length≤d) (h2:Rd w [] 2 A (ins.getD 0 []).length (ai (ins.getD 0 []))) (q:aa [] w W)=>rD j (ins.getD 0 []) N O Z ni ci U cc A d W (hE.quiet q) (h2.keep q) h1 av
 have a2:=fun A d W (h1:(ins.getD 0 []).length≤d) (h2:Rd w [] 2 A (ins.getD 0 []).length (ai (ins.getD 0 []))) (q:aa [] w W)=>B8 j (ins.getD 0 []) N O Z ni ci U cc A d W (hJ.quiet q) (h2.keep q) h1 av
 have aA:=fun A d W (h1:(ins.getD 0 []).length≤d) (h2:Rd w [] 2 A (ins.getD 0 []).length (ai (ins.getD 0 []))) (q:aa [] w W)=>uS j (ins.getD 0 []) N O Z ni ci U cc A d W (hJ.quiet q) (h2.keep q) h1 av
 have ad:=xU h0;clear I h0 hE hJ;obtain ⟨J,code,outs,js,cols,op,⟨lc,lk,ln,lw⟩,⟨rc,rk,rn,M⟩,D⟩:=j;simp only at h7 h8 hi ho ad ⊢;rcases ad with rfl|rfl|rfl|rfl|rfl|rfl|rfl|rfl|rfl
 ·exact D3 J D lk ln rk rn outs js cols op lc lw rc M N O Z ni ci U cc ins AH ch w hH a1 hi ho
 ·exact absurd rfl h7
 ·exact DU J D lk ln rk rn outs js cols op lc lw rc M N O Z ni ci U cc ins AH ch w hH hi ho a0
 ·exact DT J D lk ln rk rn outs js cols op lc lw rc M N O Z ni ci U cc ins AH ch w hH hi ho a0
 ·exact DV J D lk ln rk rn outs js cols op lc lw rc M N O Z ni ci U cc ins AH ch w hH hi ho a2
 ·exact DW J D lk ln rk rn outs js cols op lc lw rc M N O Z ni ci U cc ins AH ch w hH hi ho aA
 ·exact DX J D lk ln rk rn outs js cols op lc lw rc M N O Z ni ci U cc ins AH ch w hH hi ho aA
 ·exact DZ J D lk ln rk rn outs js cols op lc lw rc M N O Z ni ci U cc ins AH ch w hH hi ho
 exact DY J D lk ln rk rn outs js cols op lc lw rc M N O Z ni ci U cc ins AH ch w hH hi ho (h8 rfl)
end
section
open Go.RowKit
attribute [local go_sem] ag ab ae af
theorem sY:(Tryz.prog.info? 64).map (fun i=>(i.zero,i.size,i.bytes))=some (some (.agg #[FM ⟨#[]⟩,FR FS 0]),2,24):=by kernel_rfl
theorem xV (n:Nat) (hn:n≤4294967296) (w:World) :
  Calls Tryz.prog 134 #[FN none 0 0,FR FS (n:Int)] w fun e w'=>(∃ v,e=FP v∧w'.ownsRow w.heap.size 64 2 v 0 [])∧aa [] w w':=by
 by_cases h0:n=0
 ·subst h0
  go_enter Tryz.func134,Tryz.ntmps134
  go_wp2;go_ret;exact ⟨⟨_,rfl,World.ownsRow_nil _ _ _ _⟩,FK _ _⟩
 obtain ⟨i0,hi,N,O,D⟩:=info_parts sY;have h:=Lib.run_append_grow_zeros w 51 3 51 64 i0 _ .i64 .i64 Tryz.underlying51 Tryz.underlying3 hi N none 0 0 [] (run_firstCells_none w.drew _ 0 0 0) n (by omega) (by rw[O];decide) (by omega) (by omega) (by rw[D];omega) (growslice_fits (by omega) (by rw[D];omega));have Z:grownCap w (0+n) 0 64≤maxLen:=grownCap_le_maxLen w (0+n) 0 64 (by unfold maxLen;omega);have M:0+n≤grownCap w (0+n) 0 64:=grownCap_ge w _ _ _;rw[Nat.zero_add] at h Z M;obtain ⟨G,U⟩:∃ G,grownCap w n 0 64=G:=⟨_,rfl⟩
 rw[U] at h Z M;obtain ⟨cs,I⟩:∃ cs,(([]:List Value).toArray++Builtin.zeroCells (.agg #[FM ⟨#[]⟩,FR FS 0]:Value).cells n++Builtin.zeroCells (.agg #[FM ⟨#[]⟩,FR FS 0]:Value).cells (G-n))=cs:=⟨_,rfl⟩
 rw[I] at h;have J:cs.size=G*2:=by
  rw[←I];simp[Builtin.zeroCells,Value.cells];omega
 have HZ:=Fx (gU (w:=w.drew) (e:=64) (size:=2) J Z);have ad:=Fx h;have h1:¬((n:Int)<0):=by omega
 have h4:(0:Int)<(n:Int):=by omega
 have av:G≤9223372036854775807:=by unfold maxLen at Z;omega
 clear h I J U hi N O D;go_enter Tryz.func134,Tryz.ntmps134
 go_wp2_with (at_builtin;refine Lib.wpList_append_run _ rfl _ _ _ _ rfl _ _ rfl rfl _ _ ad.out ?_)
 go_ret;exact ⟨⟨_,rfl,HZ.out⟩,((FK [] w).drew).alloc _⟩
theorem sZ (D:List (Nat×List Value)) (us:List Value) (A0:Option Addr) (k0:Nat) (w:World) (aA:us.length=D.length) (hB:Rd w [] 1 A0 D.length us) (hu:∀ i (h:i<us.length) (h':i<D.length),DO w 2 us[i] D[i]) (hl:D.length≤4294967296) (J:dA D D.length≤4294967296) (U:∀ p∈D,∀ x∈p.2,x.oneCell'=true) :
  Calls Tryz.prog 92 #[FN A0 D.length k0] w fun e w'=>(∃ v,e=FP v∧w'.ownsRow w.heap.size 64 2 v (dA D D.length) (iP D D.length))∧aa [] w w':=by
 obtain ⟨ie,a9,a0,ad,a7⟩:=info_parts sY;have HB:=Fx hB;have HU:=Fx hu;have a1:=Fx aA;have av:=Fx (fun m (h:m≤D.length)=>FD (rE D h) J);have bc:=Fx U;have a5:=Fx (xV (dA D D.length) J w);clear hB hu U aA J;go_enter Tryz.func92,Tryz.ntmps92
 go_wp2;go_loop [3,11] (fun s i=>∃ m:Nat,m≤D.length∧i=FR FS m∧s=FR FS (dA D m:Nat)) (fun _ i=>D.length-(intOf i).toNat)
 case atStart=>exact ⟨0,FF _,rfl,rfl⟩
 obtain ⟨m,hm,rfl,rfl⟩:=hrel;by_cases I:m<D.length
 ·obtain ⟨b,o,rfl,_,hb,hc⟩:=HB.out.open' (by omega) (by omega)
  have M:m<us.length:=by rw[a1.out];exact I
  have d1:=hc m _ (FA M);obtain ⟨A,c,he,hr⟩:=HU.out m M I;rw[he] at d1;have HS:=Fx (dx D m I);have N:=av.out (m+1) (by omega);rw[HS.out] at N;clear hc he hr;generalize dA D m=a at *;generalize D[m].1=n at *;have be:¬((a:Int)+(n:Int)<0):=by omega
  go_wp2;go_round
  case rel=>exact ⟨m+1,by omega,by go_num,by rw[HS.out];go_num⟩
  case measure=>simp[intOf];omega
 obtain rfl:m=D.length:=by omega
 go_wp2_with fail
 refine a5.out.mono ?_;rintro e w2 ⟨⟨v0,rfl,a2⟩,a6⟩;have bb:=Fx a2;have ba:=Fx a6;clear a2 a6 a5;go_wp2;go_loopw [6,27] (fun u i wx=>∃ (m:Nat) (v:Value),v=u∧m≤D.length∧i=FR FS m∧wx.ownsRow w.heap.size 64 2 v (dA D m) (iP D m)∧aa [] w wx) (fun _ i _=>D.length-(intOf i).toNat)
 case atStart=>exact ⟨0,v0,rfl,FF _,rfl,bb.out,ba.out⟩
 obtain ⟨m,v,rfl,bj,rfl,Z,hk⟩:=hrel;have HK:=Fx hk;have HO:=Fx Z;clear hk Z;by_cases I:m<D.length
 ·obtain ⟨b,o,rfl,_,hb,hc⟩:=(HB.out.keep HK.out).open' (by omega) (by omega)
  have M:m<us.length:=by rw[a1.out];exact I
  have d1:=hc m _ (FA M);obtain ⟨A,c,he,hr⟩:=HU.out m M I;rw[he] at d1;have N:=av.out (m+1) (by omega);rw[dx D m I] at N;obtain ⟨v',w',O,a3,a8⟩:=dw (P:=Tryz.prog) wr w.heap.size 51 51 64 ie _ 2 24 Tryz.underlying51 a9 a0 ad a7 rfl (by decide) HO.out (hr.keep HK.out) c (bc.out _ (FE I)) (by unfold maxLen;omega) (by omega) HK.out.size;have a4:=Fx O;have HO':Hid (w'.ownsRow w.heap.size 64 2 v' (dA D (m+1)) (iP D (m+1))):=Fx (by rw[dx D m I,lX D m I];exact a3);have HK':=Fx (HK.out.grown a8 (fun g hg=> .inr (HO.out.lt g hg).1));clear hc he hr O a3 a8 N;generalize D[m].1=n at *;go_wp2_with (at_builtin;refine Lib.wpList_append_run _ rfl _ _ _ _ rfl _ _ rfl rfl _ _ a4.out ?_)
  go_roundw
  case rel=>exact ⟨m+1,v',rfl,by omega,by go_num,HO'.out,HK'.out⟩
  case measure=>simp[intOf];omega
 obtain rfl:m=D.length:=by omega
 go_wp2;go_ret;exact ⟨⟨_,rfl,HO.out⟩,HK.out⟩
end
section
open Go.RowKit Go.BigFrame
attribute [local go_sem] ag ab ae af
theorem qw (A:Option Addr) (m d n:Nat) (h:n≤d) (W:World):(Instr.slice 51 (FN A m d) none (some (FR FS (n:Int))) none).run Tryz.prog W= .ok (FN A n d) W:=by
 have J:=Tryz.underlying51;have I:(0:Int)≤(n:Int):=by omega
 have D:(n:Int)≤(d:Int):=by omega
 cases A with
 | none=>go_simp
 | some a=>go_simp
theorem s7 (b o n d D:Nat) (O:D≤n) (U:n≤d):∃ A,(∀ W,(Instr.slice 51 (FN (some ⟨b,o,none⟩) n d) (some (FR FS (D:Int))) none none).run Tryz.prog W= .ok (FN A (n-D) (d-D)) W)∧(D<d→A=some ⟨b,o+D*2,none⟩):=by
 have N:=Tryz.underlying51;have M:(0:Int)≤(D:Int):=by omega
 have I:(D:Int)≤(n:Int):=by omega
 have J:(n:Int)≤(d:Int):=by omega
 by_cases h:D=d
 ·subst h
  refine ⟨some ⟨b,o,none⟩,fun W=>?_,fun h=>absurd h (by omega)⟩;go_simp
 refine ⟨some ⟨b,o+D*2,none⟩,fun W=>?_,fun _=>rfl⟩;go_simp
 exact fun e=>absurd e.symm h
theorem Ca {w:World} {base:Nat} {e:TypeId} {size n:Nat} {v:Value} {xs:List Value} (h:w.ownsRow base e size v n xs):∃ A c,v=FN A n c∧n≤c∧Rd w [] size A n xs:=by
 rcases h.2 with ⟨rfl,rfl⟩|⟨g,cap,cur,rfl,hb,hh,N,r⟩
 ·refine ⟨none,0,rfl,Fy _,?_⟩
  have:xs=[]:=List.eq_nil_of_length_eq_zero (by rw[h.1];simp);rw[this];exact Rd.nil
 obtain ⟨A,c,I,O⟩:=ar h;injection I with I e2 e3;subst I e3;refine ⟨_,_,rfl,N,h.1,fun Z=>?_⟩;obtain ⟨g',D,U,J⟩:=O Z;injection D with D;injection D with D;subst D;exact ⟨_,rfl,by simp,U,fun j u M=>by rw[cJ,Nat.zero_add];exact J j u M⟩
theorem zY {w:World} {b o:Nat} {l:List Cl} {n:Nat} {A:Option Addr} (h:Rd w [] 2 (some ⟨b,o,none⟩) l.length (ai l)) (hn:n≤l.length) (M:n<l.length→A=some ⟨b,o+n*2,none⟩):Rd w [] 2 A (l.length-n) (ai (l.drop n)):=by
 have D:∀ q:List Cl,(ai q).length=q.length*2:=fun q=>by
  induction q with
  | nil=>rfl
  | cons c q ih =>
   have e:ai (c::q)=[FM (bs c.name),FR FS c.kind]++ai q:=by simp[ai,fi]
   rw[e,Fz,ih];simp;omega
 refine ⟨by rw[D,List.length_drop],fun h0=>?_⟩;obtain ⟨ad,e,N,I,Z⟩:=h.2 (by omega);injection e with e;subst e;refine ⟨_,M (by omega),N,I,fun j u U=>?_⟩;have O:ai l=ai (l.take n)++ai (l.drop n):=by
  unfold ai;rw[←List.flatMap_append,List.take_append_drop]
 have J:(ai (l.take n)).length=n*2:=by rw[D,FH,Nat.min_eq_left hn]
 have:=Z (n*2+j) u (by
  rw[O,List.getElem?_append_right (by rw[J];omega),J,Nat.add_sub_cancel_left];exact U)
 rw[cJ] at this ⊢;rw[show o+n*2+j=o+(n*2+j) by omega];exact this
end
section
open Go.RowKit Go.BigFrame
attribute [local go_sem] ag ab ae af
attribute [local go_sem] KW.cell
def gB (a b:List Cl) (m:Nat):List Cl:=a++b.take m++b.drop (m+1)
theorem s8 {a b:List Cl} {m:Nat} (h:m<b.length):(gB a b m).length=a.length+m+(b.length-(m+1)):=by
 unfold gB;rw[Fz,Fz,FH,List.length_drop,Nat.min_eq_left (Nat.le_of_lt h)]
theorem ou {out:List Cl}:kp out=false↔∀ i,(h:i<out.length)→an (out.take i) out[i].name=none:=by
 unfold kp;rw[←Bool.not_eq_true,List.any_eq_true];constructor
 ·intro h i I
  refine Decidable.byContradiction fun J=>h ⟨i,List.mem_range.2 I,?_⟩
  rw[FJ,FA I]
  cases D:an (out.take i) out[i].name with
  | none=>exact absurd D J
  | some k=>exact congrArg Option.isSome D
 rintro h ⟨i,I,D⟩;have hi':=List.mem_range.1 I;rw[FJ,FA hi'] at D;have:=h i hi';rw[show ((some out[i]).getD zC)=out[i] from rfl,this] at D;cases D
theorem xW {out:List Cl} {i:Nat} (h:i<out.length) {k:Nat} (D:an (out.take i) out[i].name=some k):kp out=true:=by
 cases hd:kp out with
 | true=>rfl
 | false=>rw[ou.1 hd i h] at D;cases D
theorem ll:∀ (l:List Cl),∀ x∈ai l,x.oneCell'=true
 | [],x,h=>by cases h
 | c::l,x,h=>by
  have e:ai (c::l)=[FM (bs c.name),FR FS c.kind]++ai l:=by simp[ai,fi]
  rw[e,List.mem_append] at h;rcases h with h|h
  ·simp only[List.mem_cons,List.not_mem_nil,or_false] at h
   rcases h with rfl|rfl<;>rfl
  exact ll l x h
theorem uT (j:Jb) (a D:List Cl) (Ao:Option Addr) (co:Nat) (Ai:Option Addr) (ni ci:Nat) (Ac:Option Addr) (cc:Nat) (A:Option Addr) (c:Nat) (B:Option Addr) (d:Nat) (w:World) (hJ:gT w j Ao co Ac cc) (hA:Rd w [] 2 A a.length (ai a)) (hl:a.length≤4294967) (hB:Rd w [] 2 B D.length (ai D)) (hd:D.length≤d) (eb:D.length≤4294967) :
  Calls Tryz.prog 61 #[eM j Ao co Ai ni ci Ac cc,FN A a.length c,FN B D.length d] w fun e w'=>aP (dj j a D) e w'∧aa [] w w':=by
 have cm:=Fx (fun (nm:Bs) W (q:aa [] w W)=>bU a nm A c W (hA.keep q) (by omega));have cj:=Fx (fun (nm:Bs) W (q:aa [] w W)=>bU D nm B d W (hB.keep q) (by omega));have HA:=Fx hA;have HB:=Fx hB;have HJ:=Fx hJ.cols;obtain ⟨R,hR⟩:∃ R,dj j a D=R:=⟨_,rfl⟩
 rw[hR]
 have HR:Hid (R=if j.cols.length≠2 then .error 1 else match an a (j.cols.getD 0 []),an D (j.cols.getD 1 []) with
  | some k,some m=>if (a.getD k zC).kind≠(D.getD m zC).kind then .error 13 else if kp (gB a D m) then .error 9 else if 6<(gB a D m).length then .error 4 else .ok [gB a D m]
  | _,_=> .error 7):=Fx (by
  rw[←hR];unfold dj gB;split
  ·rfl
  cases an a (j.cols.getD 0 [])<;>cases an D (j.cols.getD 1 [])<;>rfl)
 clear hR hJ hA hB;obtain ⟨a9,code,outs,ins,cols,op,⟨lc,lk,ln,lw⟩,⟨rc,rk,rn,bc⟩,J⟩:=j;simp only at HR HJ;show Calls _ _ #[.agg #[FR FS a9,FR FS code,FN Ao outs.length co,FN Ai ni ci,FN Ac cols.length cc,FM (bs op),FM (bs lc),FR FS lk,FR FS ln,FM (bs lw),FM (bs rc),FR FS rk,FR FS rn,FM (bs bc),FR FS J],FN A a.length c,FN B D.length d] w _;by_cases h1:cols.length=2
 ·have t0:((cols.length:Int) != 2)=false:=by rw[h1];rfl
  obtain ⟨n1,n2,dz⟩:∃ n1 n2,cols=[n1,n2]:=by
   match cols,h1 with
   | [n1,n2],_=>exact ⟨n1,n2,rfl⟩
  subst dz;obtain ⟨b,o,rfl,_,hb,ad⟩:=HJ.out.open' (by simp) (by decide);have s0:w.cell? ⟨b,o,none⟩=some (FM (bs n1)):=ad 0 _ rfl;have s1:w.cell? ⟨b,o+1,none⟩=some (FM (bs n2)):=ad 1 _ rfl;have b0:=Fx s0;have br:=Fx s1;clear ad h1 HJ s0 s1;show Calls _ _ #[.agg #[FR FS a9,FR FS code,FN Ao outs.length co,FN Ai ni ci,FN (some ⟨b,o,none⟩) 2 cc,FM (bs op),FM (bs lc),FR FS lk,FR FS ln,FM (bs lw),FM (bs rc),FR FS rk,FR FS rn,FM (bs bc),FR FS J],FN A a.length c,FN B D.length d] w _
  have U:Hid (R=match an a n1,an D n2 with
   | some k,some m=>if (a.getD k zC).kind≠(D.getD m zC).kind then .error 13 else if kp (gB a D m) then .error 9 else if 6<(gB a D m).length then .error 4 else .ok [gB a D m]
   | _,_=> .error 7):=Fx (HR.out.trans (by
    rw[if_neg (fun h=>h rfl)];show (match an a n1,an D n2 with|some k,some m=>_|_,_=>_)=_;cases an a n1<;>cases an D n2<;>rfl))
  clear HR;obtain ⟨M,bk⟩:∃ M,w.alloc (FQ #[FR FS a9,FR FS code,FN Ao outs.length co,FN Ai ni ci,FN (some ⟨b,o,none⟩) 2 cc,FM (bs op),FM (bs lc),FR FS lk,FR FS ln,FM (bs lw),FM (bs rc),FR FS rk,FR FS rn,FM (bs bc),FR FS J] 50)=M:=⟨_,rfl⟩
  have I:Hid (aa [] w M):=Fx (by rw[←bk];exact (FK _ _).alloc _);have av:Hid (ao M w.heap.size 50 #[FR FS a9,FR FS code,FN Ao outs.length co,FN Ai ni ci,FN (some ⟨b,o,none⟩) 2 cc,FM (bs op),FM (bs lc),FR FS lk,FR FS ln,FM (bs lw),FM (bs rc),FR FS rk,FR FS rn,FM (bs bc),FR FS J]):=Fx (by rw[←bk];exact FL _ _ _);have HW:=Fx bk;clear bk;obtain ⟨k1,a5⟩:∃ k1,an a n1=k1:=⟨_,rfl⟩
  obtain ⟨k2,be⟩:∃ k2,an D n2=k2:=⟨_,rfl⟩
  have bj:Hid (∀ W,aa [] M W→Calls Tryz.prog 89 #[FN A a.length c,FM (bs n1)] W fun e W'=>e=FP (FR FS (eL k1))∧aa [] W W'):=Fx fun W q=>by
   rw[←a5];exact cm.out n1 W (I.out.trans q)
  have aA:Hid (∀ W,aa [] M W→Calls Tryz.prog 89 #[FN B D.length d,FM (bs n2)] W fun e W'=>e=FP (FR FS (eL k2))∧aa [] W W'):=Fx fun W q=>by
   rw[←be];exact cj.out n2 W (I.out.trans q)
  have c9:Hid (∀ k,k1=some k→k<a.length):=Fx fun k h=>(List.findIdx?_eq_some_iff_getElem.1 (a5.trans h)).1
  have c6:Hid (∀ k,k2=some k→k<D.length):=Fx fun k h=>(List.findIdx?_eq_some_iff_getElem.1 (be.trans h)).1
  rw[a5,be] at U;clear cm cj a5 be
  cases k1 with
  | none =>
   have HE:Hid (R= .error 7):=Fx (by rw[U.out]);have HF1':Hid (∀ W,aa [] M W→Calls Tryz.prog 89 #[FN A a.length c,FM (bs n1)] W fun e W'=>e=FP (FR FS (-1))∧aa [] W W'):=bj;clear bj U;generalize eL k2=q2 at aA;go_enter Tryz.func61,Tryz.ntmps61
   go_upto_region 3 with (fail)
   rw[HW.out];have y4:M.cell? ⟨w.heap.size,4,none⟩=some (FN (some ⟨b,o,none⟩) 2 cc):=av.out.cell 4;have s0:=I.out.cell_of b0.out (by simp);have s1:=I.out.cell_of br.out (by simp);have cn:w.heap.size<M.heap.size:=av.out.lt;have b9:b<M.heap.size:=FC _ _ s0;generalize w.heap.size=bx at *;refine ah (by kernel_rfl) (by kernel_rfl) ?_;repeat (go_big_quiet_step (first|with_reducible exact KW.of HF1'.out _|with_reducible exact KW.of aA.out _))
   refine wpQuiet_nil ?_;intro w3 N;have O:=Fx (I.out.trans N);clear N y4 s0 s1;go_wp2;go_ret2;exact ⟨by rw[HE.out];rfl,O.out⟩
  | some k =>
   have ch:=c9.out k rfl;have d5:((k:Int)<0)=False:=eq_false (by omega);have HF1':Hid (∀ W,aa [] M W→Calls Tryz.prog 89 #[FN A a.length c,FM (bs n1)] W fun e W'=>e=FP (FR FS (k:Int))∧aa [] W W'):=bj;clear bj
   cases k2 with
   | none =>
    have HE:Hid (R= .error 7):=Fx (by rw[U.out]);have HF2':Hid (∀ W,aa [] M W→Calls Tryz.prog 89 #[FN B D.length d,FM (bs n2)] W fun e W'=>e=FP (FR FS (-1))∧aa [] W W'):=aA;clear aA U;go_enter Tryz.func61,Tryz.ntmps61
    go_upto_region 3 with (fail)
    rw[HW.out];have y4:M.cell? ⟨w.heap.size,4,none⟩=some (FN (some ⟨b,o,none⟩) 2 cc):=av.out.cell 4;have s0:=I.out.cell_of b0.out (by simp);have s1:=I.out.cell_of br.out (by simp);have cn:w.heap.size<M.heap.size:=av.out.lt;have b9:b<M.heap.size:=FC _ _ s0;generalize w.heap.size=bx at *;refine ah (by kernel_rfl) (by kernel_rfl) ?_;repeat (go_big_quiet_step (first|with_reducible exact KW.of HF1'.out _|with_reducible exact KW.of HF2'.out _))
    refine wpQuiet_nil ?_;intro w3 N;have O:=Fx (I.out.trans N);clear N y4 s0 s1;go_wp2;go_ret2;exact ⟨by rw[HE.out];rfl,O.out⟩
   | some m =>
    have a3:=c6.out m rfl;have d9:((m:Int)<0)=False:=eq_false (by omega);have d7:(m:Int)<(D.length:Int):=by omega
    have er:(k:Int)<(a.length:Int):=by omega
    have d6:(0:Int)≤(m:Int):=by omega
    have a5:(0:Int)≤(k:Int):=by omega
    have HF2':Hid (∀ W,aa [] M W→Calls Tryz.prog 89 #[FN B D.length d,FM (bs n2)] W fun e W'=>e=FP (FR FS (m:Int))∧aa [] W W'):=aA;clear aA;have gm:D.getD m zC=D[m]:=by rw[FJ,FA a3];rfl
    have gk:a.getD k zC=a[k]:=by rw[FJ,FA ch];rfl
    obtain ⟨b4,o4,rfl,_,d3,ad⟩:=HA.out.open' (by omega) (by omega);obtain ⟨b5,o5,rfl,_,d8,cg⟩:=HB.out.open' (by omega) (by omega);have c1:=cg (m*2+1) _ (aN D m a3).2;have c3:=ad (k*2+1) _ (aN a k ch).2;rw[←Nat.add_assoc] at c1 c3;have a2:Hid (R=if (a.getD k zC).kind≠(D.getD m zC).kind then .error 13 else if kp (gB a D m) then .error 9 else if 6<(gB a D m).length then .error 4 else .ok [gB a D m]):=U;rw[gm,gk] at a2;obtain ⟨x,hx⟩:∃ x,a[k].kind=x:=⟨_,rfl⟩
    obtain ⟨y,hy⟩:∃ y,D[m].kind=y:=⟨_,rfl⟩
    rw[hx,hy] at a2;rw[hy] at c1;rw[hx] at c3;have C1:=Fx c1;have C3:=Fx c3;clear ad cg c1 c3 gm gk hx hy U;go_enter Tryz.func61,Tryz.ntmps61
    go_upto_region 3 with (fail)
    rw[HW.out];have y4:M.cell? ⟨w.heap.size,4,none⟩=some (FN (some ⟨b,o,none⟩) 2 cc):=av.out.cell 4;have s0:=I.out.cell_of b0.out (by simp);have s1:=I.out.cell_of br.out (by simp);have cn:w.heap.size<M.heap.size:=av.out.lt;have b9:b<M.heap.size:=FC _ _ s0;generalize w.heap.size=bx at *;refine ah (by kernel_rfl) (by kernel_rfl) ?_;repeat (go_big_quiet_step (first|with_reducible exact KW.of HF1'.out _|with_reducible exact KW.of HF2'.out _))
    refine wpQuiet_nil ?_;intro w3 N;have O:=Fx (I.out.trans N);clear N y4 s0 s1;have c1:=O.out.cell_of C1.out (by simp);have c3:=O.out.cell_of C3.out (by simp);have l5:=FC _ _ c1;have l4:=FC _ _ c3;go_upto_region 6 with (fail)
    refine ah (by kernel_rfl) (by kernel_rfl) ?_;repeat (go_big_quiet_step (fail))
    refine wpQuiet_nil ?_;intro w4 ct;have a7:=Fx (O.out.trans ct);clear ct c1 c3;by_cases a0:x=y
    ·have tk:(x != y)=false:=by simp[a0]
     have bl:Hid (R=if kp (gB a D m) then .error 9 else if 6<(gB a D m).length then .error 4 else .ok [gB a D m]):=Fx (by rw[a2.out,if_neg (fun h=>h a0)]);clear a0 a2;go_upto_region 8 with (fail)
     have cy:=qw (some ⟨b5,o5,none⟩) D.length d m (by omega);obtain ⟨A5,bm,c0⟩:=s7 b5 o5 D.length d (m+1) (by omega) hd;have a4:((m+1:Nat):Int)=(m:Int)+1:=by omega
     have d2:IntKind.i64.wrap ((m:Int)+1)=(m:Int)+1:=by simp[IntKind.wrap,IntKind.bits,IntKind.signed];omega
     rw[a4] at bm;have b7:=HB.out.keep a7.out;have c5:=nw (k:=m) b7 (by omega);have c4:=zY (n:=m+1) b7 (by omega) (fun h=>c0 (by omega));have H51':Rd w4 [] 2 (some ⟨b5,o5,none⟩) m (ai (D.take m)):=by
      have:=c5;rw[FH,Nat.min_eq_left (Nat.le_of_lt a3)] at this;exact this
     have b3:Hid (∀ W g,aa [] w4 W→Rd W [] 1 (some ⟨g,0,none⟩) 3 [FN (some ⟨b4,o4,none⟩) a.length c,FN (some ⟨b5,o5,none⟩) m d,FN A5 (D.length-(m+1)) (d-(m+1))]→Calls Tryz.prog 92 #[FN (some ⟨g,0,none⟩) 3 3] W fun e w'=>(∃ v,e=FP v∧w'.ownsRow W.heap.size 64 2 v (gB a D m).length (ai (gB a D m)))∧aa [] W w'):=Fx fun W g z hr=>by
      have h:=sZ [(a.length,ai a),(m,ai (D.take m)),(D.length-(m+1),ai (D.drop (m+1)))] [FN (some ⟨b4,o4,none⟩) a.length c,FN (some ⟨b5,o5,none⟩) m d,FN A5 (D.length-(m+1)) (d-(m+1))] (some ⟨g,0,none⟩) 3 W rfl hr (fun i hi hi'=>by
       match i,hi with
       | 0,_=>exact ⟨_,_,rfl,(HA.out.keep a7.out).keep z⟩
       | 1,_=>exact ⟨_,_,rfl,H51'.keep z⟩
       | 2,_=>exact ⟨_,_,rfl,c4.keep z⟩) (by simp) (by simp[dA];omega) (fun p hp x hx=>by
       simp only[List.mem_cons,List.not_mem_nil,or_false] at hp;rcases hp with rfl|rfl|rfl<;>exact ll _ x hx)
      have e1:dA [(a.length,ai a),(m,ai (D.take m)),(D.length-(m+1),ai (D.drop (m+1)))] 3=(gB a D m).length:=by
       rw[s8 a3];simp[dA];omega
      have e2:iP [(a.length,ai a),(m,ai (D.take m)),(D.length-(m+1),ai (D.drop (m+1)))] 3=ai (gB a D m):=by
       unfold gB ai;simp[iP]
      rw[←e1,←e2];exact h
     have cr:=s8 (a:=a) a3;obtain ⟨out,bo⟩:∃ out,gB a D m=out:=⟨_,rfl⟩
     rw[bo] at bl b3 cr;have en:out.length≤8589934:=by omega
     clear cr bo c5 H51' c4 b7 c0 HA HB;refine wp_region_still_tail 8 (by kernel_rfl) (by kernel_rfl) ?_;simp only[List.take_succ_cons,List.take_zero,List.drop_succ_cons,List.drop_zero];repeat still_step
     refine wpStill_nil ?_;go_wp2_with fail
     refine (b3.out _ _ ?_ ?_).mono ?_
     ·first|exact (FK _ _).drew.alloc _|exact ((FK _ _).alloc _).drew
     ·first|exact uR w4.drew 51 [_,_,_] 3 1 rfl|exact uR w4 51 [_,_,_] 3 1 rfl
     rintro e w6 ⟨⟨v,rfl,bq⟩,k6⟩;have cu:=Fx ((a7.out.trans ((FK _ _).drew.alloc _)).trans k6);obtain ⟨Av,cv,rfl,c8,b8⟩:=Ca bq;have ce:=Fx b8;clear bq b8 k6 cy bm a4 b3;go_wp2_with fail
     go_loopw [63] (fun i wr=>∃ t:Nat,t≤out.length∧i=FR FS t∧Hid (∀ q,q<t→(h2:q<out.length)→an (out.take q) out[q].name=none)∧Hid (aa [] w6 wr)) (fun i _=>out.length-(intOf i).toNat)
     case atStart=>exact ⟨0,FF _,rfl,Fx (fun q hq=>absurd hq (by omega)),Fx (FK _ _)⟩
     obtain ⟨t,ht,rfl,HN,ba⟩:=hrel;obtain ⟨wt,rfl⟩:∃ z:World,z=wr:=⟨_,rfl⟩
     by_cases bv:t<out.length
     ·have dv:(t:Int)<(out.length:Int):=by omega
      have bZ:=ce.out.keep ba.out;have cd:=nw (k:=t) bZ (by omega);obtain ⟨b6,o6,rfl,_,el,bX⟩:=bZ.open' (by omega) (by omega);have d0:=bX (t*2) _ (aN out t bv).1;have d1:=bX (t*2+1) _ (aN out t bv).2;rw[←Nat.add_assoc] at d1;have cz:(out.take t).length=t:=by rw[FH,Nat.min_eq_left ht]
      have b1:Hid (∀ W,aa [] wt W→Calls Tryz.prog 89 #[FN (some ⟨b6,o6,none⟩) t cv,FM (bs out[t].name)] W fun e W'=>e=FP (FR FS (eL (an (out.take t) out[t].name)))∧aa [] W W'):=Fx fun W q=>by
       have:=bU (out.take t) out[t].name (some ⟨b6,o6,none⟩) cv W (cd.keep q) (by omega);rw[cz] at this;exact this
      have Z:Hid (∀ k,an (out.take t) out[t].name=some k→kp out=true):=Fx fun k h=>xW bv h
      have bb:Hid (an (out.take t) out[t].name=none→∀ q,q<t+1→(h2:q<out.length)→an (out.take q) out[q].name=none):=Fx fun h q hq h2=>by
       by_cases dr:q<t
       ·exact HN.out q dr h2
       obtain rfl:q=t:=by omega
       exact h
      obtain ⟨cx,ca⟩:∃ cx,an (out.take t) out[t].name=cx:=⟨_,rfl⟩
      rw[ca] at b1 Z bb;obtain ⟨x,hx⟩:∃ x,out[t]=x:=⟨_,rfl⟩
      rw[hx] at d0 d1 b1;have dB:=qw (some ⟨b6,o6,none⟩) out.length cv t (by omega);clear bX bZ cd hx cz ca;go_upto_region 12 with (fail)
      have a1:ao (wt.alloc (FQ #[FM (bs x.name),FR FS x.kind] 64)) wt.heap.size 64 #[FM (bs x.name),FR FS x.kind]:=FL _ _ _;have a8:aa [] wt (wt.alloc (FQ #[FM (bs x.name),FR FS x.kind] 64)):=(FK _ _).alloc _;generalize wt.alloc (FQ #[FM (bs x.name),FR FS x.kind] 64)=y at a1 a8 ⊢;generalize wt.heap.size=gx at a1 ⊢;have x0:y.cell? ⟨gx,0,none⟩=some (FM (bs x.name)):=a1.cell 0;have xl:=a1.lt;have HFD':Hid (∀ W,aa [] y W→Calls Tryz.prog 89 #[FN (some ⟨b6,o6,none⟩) t cv,FM (bs x.name)] W fun e W'=>e=FP (FR FS (eL cx))∧aa [] W W'):=Fx fun W q=>b1.out W (a8.trans q)
      have cq:=Fx (ba.out.trans a8);clear a1 a8 d0 d1
      cases cx with
      | none =>
       have bz:Hid (∀ W,aa [] y W→Calls Tryz.prog 89 #[FN (some ⟨b6,o6,none⟩) t cv,FM (bs x.name)] W fun e W'=>e=FP (FR FS (-1))∧aa [] W W'):=HFD';have ds:=Fx (bb.out rfl);clear HFD' Z bb;refine ah (by kernel_rfl) (by kernel_rfl) ?_;repeat (go_big_quiet_step (first|with_reducible exact KW.of bz.out _))
       refine wpQuiet_nil ?_;intro wz kz;have HX:=Fx (cq.out.trans kz);clear x0 xl kz;go_wp2;go_roundw
       case rel=>exact ⟨t+1,by omega,by go_num,ds,HX⟩
       case measure=>simp[intOf];omega
      | some k =>
       have bz:Hid (∀ W,aa [] y W→Calls Tryz.prog 89 #[FN (some ⟨b6,o6,none⟩) t cv,FM (bs x.name)] W fun e W'=>e=FP (FR FS (k:Int))∧aa [] W W'):=HFD';have HE:Hid (R= .error 9):=Fx (by rw[bl.out,if_pos (Z.out k rfl)]);have d4:(0:Int)≤(k:Int):=by omega
       clear HFD' Z bb;refine ah (by kernel_rfl) (by kernel_rfl) ?_;repeat (go_big_quiet_step (first|with_reducible exact KW.of bz.out _))
       refine wpQuiet_nil ?_;intro wz kz;have HX:=Fx (cu.out.trans (cq.out.trans kz));clear x0 xl kz;go_wp2;go_ret2;exact ⟨by rw[HE.out];rfl,HX.out⟩
     have dv:¬(t:Int)<(out.length:Int):=by omega
     have a6:kp out=false:=ou.2 fun q hq=>HN.out q (by omega) hq
     have HX:=Fx (cu.out.trans ba.out);have c7:=Fx (ce.out.keep ba.out);by_cases h6:6<out.length
     ·have HE:Hid (R= .error 4):=Fx (by rw[bl.out,a6,if_neg (by simp),if_pos h6])
      have dq:(6:Int)<(out.length:Int):=by omega
      clear a6;go_wp2;go_ret2;exact ⟨by rw[HE.out];rfl,HX.out⟩
     have HE:Hid (R= .ok [out]):=Fx (by rw[bl.out,a6,if_neg (by simp),if_neg h6]);have dq:¬(6:Int)<(out.length:Int):=by omega
     have dt:=Fx c8;clear a6;go_wp2;go_ret2;exact ⟨by rw[HE.out];exact ⟨_,_,rfl,Fy _,eN c7.out dt.out _⟩,HX.out.alloc _⟩
    have tk:(x != y)=true:=by simp[a0]
    have HE:Hid (R= .error 13):=Fx (by rw[a2.out,if_pos a0]);clear a0;go_wp2;go_ret2;exact ⟨by rw[HE.out];rfl,a7.out⟩
 have t0:((cols.length:Int) != 2)=true:=by simp;omega
 have HE:Hid (R= .error 1):=Fx (by rw[HR.out,if_pos h1]);clear h1 HR HA HB;go_enter Tryz.func61,Tryz.ntmps61
 go_wp2;go_ret2;exact ⟨by rw[HE.out];rfl,(FK _ _).alloc _⟩
end
end Go.Proofs.YtecpeogejjibaaaGreatDoor
