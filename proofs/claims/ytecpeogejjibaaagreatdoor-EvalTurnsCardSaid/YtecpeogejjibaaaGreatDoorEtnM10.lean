/- The parser's body at its codes. What the cutter's tokens are like: plain. What a flow that was read is like: plain. Plans: the plain laws. With its jobs in another order a flow has the same columns, and an order; with one job more, too. No program in sight. Plans: names, and the columns that a flow's tables have: they are one, whatever order the jobs stand in. No program in sight. Plans: the columns of a flow's tables are one answer, whatever order the jobs stand in, and whatever jobs there are besides. No program in sight. Plans: with its jobs in another order, and with one job more: plain. No program in sight. (but holds) ops: find, holds, kind, Sizes, arg. ops: Sizes. ops: jobs in memory, what Cols hands back, Contains, set. slices.Repeat of one slice, once or twice. ops: compared. ops.grouped, whole. ops: picked. ops.Cols, of every code but Join's; Group's by a contract given. ops.Cols: Distinct, Union, what fails; all together. slices.Concat at 64. Slices of columns: [:n], [n:]. ops.joined, whole. The columns that jobs make are at most six. No program in sight. ops.made: what it hands back. The package-level variables that jobs lean on, all of them. -/
import Derived.Test.YtecpeogejjibaaaGreatDoorEtnM7
import Derived.Lib.IndexLaws
import Derived.Lib.ItoaLen
import Derived.Test.YtecpeogejjibaaaGreatDoorEtnM3
import Derived.Test.YtecpeogejjibaaaGreatDoorEtnM1
import Derived.Test.YtecpeogejjibaaaGreatDoorEtnM4
import Derived.Test.YtecpeogejjibaaaGreatDoorShOps
import Derived.Laws.CopyOwn
import Derived.Deep.DeepCutAuto
import Derived.StillTailTactics
import Derived.Deep.CutBlock
import Derived.Test.YtecpeogejjibaaaGreatDoorEtnM6
set_option linter.unusedSimpArgs false
set_option linter.unusedVariables false
set_option maxRecDepth 100000
set_option maxHeartbeats 16000000
namespace Go.Proofs.YtecpeogejjibaaaGreatDoor
open Go.Lib renaming hid → Fk
open _root_.Nat renaming le_refl → Fm, le_trans → Ft, zero_le → Fu
open _root_.List renaming length_append → Fo, getElem?_eq_getElem → Fp, getElem_mem → Fs, length_cons → Fv, length_take → Fw, getD_eq_getElem?_getD → Fy
open Go.World renaming block_lt_of_cell? → Fq, news_of_block → Fx
open aa renaming refl → Fz
open ao renaming new → FA
open Go.Value renaming string → FC, slice → FD, pointer → FE, int → FH
open Go.Ending renaming returned → FF
open Go.Obj renaming cells → FG
open Go.IntKind renaming i64 → FI
section
open Go.RowKit Go.BigFrame
attribute [local go_sem] ag ab ae af
theorem Du {l:List Tk} {b jb lo:Nat} {v2 v3 v4:Value} (a1 code:Int) (outs ins cols:List Bs) (op:Bs) (left right:Ar) (U:Int) (w0 w:World) (hE:FB w0 lo) (a8:lo≤b) (h:Ps w b l) (hk:aa [b] w0 w) (cd:w0.heap.size≤jb) (hj:aV w w0.heap.size jb ⟨a1,code,outs,ins,cols,op,left,right,U⟩ v2 v3 v4) (c7:ins.length≤1000) (c4:cols.length≤1000) (cr:l.length≤1000000) (bq:bR (aS l).text=2) (bm:(aS l).kind=1) :
  Calls Tryz.prog 122 #[FE (some ⟨b,0,none⟩),FE (some ⟨jb,0,none⟩)] w fun e w'=>gb (bF ⟨a1,code,outs,ins,cols,op,left,right,U⟩ l) b w0.heap.size jb e w'∧aa [b] w0 w':=by
 obtain ⟨i0,hi,ct,cx,ci⟩:=info_parts kV;obtain ⟨R,hR⟩:∃ R,bF ⟨a1,code,outs,ins,cols,op,left,right,U⟩ l=R:=⟨_,rfl⟩
 rw[hR];have HE:=Fk hE;have I:=Fk h;have M:=Fk hk;have D:=Fk hj;have ba:=Fk cd;have bo:Hid (ins.length≤999000):=Fk (by omega);have ca:Hid (cols.length≤999000):=Fk (by omega);have en:=Fk cr;have bt:Hid (∀ W,aa [] w W→Calls Tryz.prog 48 #[FD (some ⟨4,0,none⟩) 10 10,FC (bs (aS l).text)] W fun e W'=>e=FF (FH FI (dj (aS l).text))∧W=W'):=Fk (fun W q=>cB (aS l).text W ((hE.one a8 hk).quiet q).env);obtain ⟨q,hq⟩:∃ q,dj (aS l).text=q:=⟨_,rfl⟩
 rw[hq] at bt;have HQ:=Fk hq;obtain ⟨g,o,c,c0,z0,lb,lg,-,hn,hc,bv,k0,k1,k2,-⟩:=h.open';have b3:(0:Int)<(l.length:Int):=by omega
 have f1:w.cell? ⟨jb,1,none⟩=some (FH FI code):=hj.blk.cell 1;have f2:=hj.blk.frozen 1;have lj:=hj.blk.lt;have cu:=Fk bq;have b7:Hid ((aQ l.tail >>= fun p=>j7 ⟨a1,2,outs,ins++[p.1],cols,op,left,right,U⟩ p.2)=R):=Fk (by
  rw[←hR];unfold bF;rw[bq,if_neg (by rw[bm];decide)];rfl)
 have cq:bC [115,101,116] l=true:=by
  unfold bC;rw[bm,cT bq (by decide)];rfl
 have b8:=Fk cq;have co:=Fk bm;clear hR hE h hk hj c7 c4 cr cd hq bq cq bm;go_enter Tryz.func122,Tryz.ntmps122
 go_upto_region 0 with (fail)
 go_cut [] (fun wx=>wx=(w.setCell ⟨jb,1,none⟩ (FH FI (max q 0))).drew)
 case first =>
  go_region_law (first|(go_simp;go_at_call 48;refine (bt.out _ (Fz [] w).drew).mono ?_;rintro e w6 ⟨rfl,rfl⟩))
  all_goals
   go_wp2;go_meet;exact rfl
 subst hcut;clear c0 z0 lb lg hn hc bv k0 k1 k2 b3 lj f1 f2 bt;have N:aa [jb] w ((w.setCell ⟨jb,1,none⟩ (FH FI (max q 0))).drew):=((Fz _ _).setCell (.inl (by simp)) _).drew;have hj':aV ((w.setCell ⟨jb,1,none⟩ (FH FI (max q 0))).drew) w0.heap.size jb ⟨a1,max q 0,outs,ins,cols,op,left,right,U⟩ v2 v3 v4:=D.out.box N ((D.out.blk.set 1 (FH FI (max q 0))).congr (by rfl)) rfl rfl rfl;have hp':=I.out.box D.out N;have hk':=M.out.box ba.out N;have hm:max q 0=2:=by rw[←HQ.out,da,cu.out];rfl
 rw[hm] at hj' hp' hk' ⊢;clear hm N D I M;obtain ⟨y0,hy⟩:∃ x,(w.setCell ⟨jb,1,none⟩ (FH FI 2)).drew=x:=⟨_,rfl⟩
 rw[hy] at hj' hp' hk' ⊢;have D:=Fk hj';have I:=Fk hp';have M:=Fk hk';have bj:y0.cell? ⟨jb,1,none⟩=some (FH FI 2):=hj'.blk.cell 1;have lj:=hj'.blk.lt;obtain ⟨g,o,c,c0,z0,lb,lg,-,hn,hc,bv,k0,k1,k2,-⟩:=hp'.open';have b3:(0:Int)<(l.length:Int):=by omega
 clear hy hj' hp' hk' hn hc bv HQ;rw[co.out] at k0;have wd:=(HE.out.one a8 M.out).env.words 2 (by decide);have ch:y0.cell? ⟨4,2,none⟩=some (FC (bs [115,101,116])):=wd;have d0:=Fq _ _ ch;clear wd;go_wp2_with fail
 refine (aT (s:=[115,101,116]) (r:=l.tail) (by unfold aR;rw[if_pos b8.out]) y0 I.out).mono ?_;rintro ev y1 ⟨rfl,hp,hk⟩;have HJ':=Fk (D.out.ps I.out hk);have HK':=Fk (M.out.trans hk);clear I D M c0 z0 lb lg k0 k1 k2 b3 bj lj ch d0;have I:=Fk hp;have D:=HJ';have M:=HK';clear hp hk HJ' HK';have HR:=b7;clear b7;have O:Hid (l.tail.length≤l.length):=Fk (by rw[List.length_tail];omega);obtain ⟨r0,b9⟩:∃ r0,l.tail=r0:=⟨_,rfl⟩
 rw[b9] at I HR O;clear b9 b8 co cu;have bj:y1.cell? ⟨jb,1,none⟩=some (FH FI 2):=D.out.blk.cell 1;have b0:=D.out.blk.lt;go_upto_region 13 with (fail)
 obtain ⟨A2,c2,hv,-⟩:=aq D.out.o3;subst hv;have fS:y1.cell? ⟨jb,3,none⟩=some (FD A2 (ins).length c2)∧y1.frozen? ⟨jb,3,none⟩=false:=⟨D.out.blk.cell 3,D.out.blk.frozen 3⟩;have lj:=D.out.blk.lt;have bb:=Fk (show (ins).length+1≤maxLen∧((ins).length+1)*16≤140737488355328 by have:=bo.out;simp only[maxLen];first|omega|(simp only[Fo,Fv,List.length_nil];omega));have bX:Hid (jb∉[b]):=Fk (by have:=D.out.blk.ty.ne I.out.ty (by decide);simpa using this);rcases J:aQ r0 with x|⟨a2,r2⟩
 ·have H:=HR.out
  rw[J,au] at H;have HX:=Fk H.symm;have Z:Hid (∀ W,aa [] y1 W→Calls Tryz.prog 80 #[FE (some ⟨b,0,none⟩)] W fun e w'=>bS x e w'∧aa [b] W w'):=Fk (fun W z=>bN J W (I.out.keep z));clear H J;go_wp2_with fail
  go_region_law (first|(refine step_append_lies _ (by rfl) _ _ _ (by rfl) w0.heap.size 9 i0 _ 1 16 Tryz.underlying44 hi ct cx ci rfl (by decide) (FD A2 (ins).length c2) (ins).length (strs (ins)) (by rfl) ((D.out.ps I.out av.undrew).o3.alloc _) ⟨w6.heap.size,0,none⟩ 1 1 [FC (bs [])] (by rfl) rfl (Fx (heap_alloc_new _ _)) (by simp[Value.oneCell']) (by decide) bb.out.1 bb.out.2 (by have:=M.out.size;have:=av.size;have h9:y1.drew.heap.size=y1.heap.size:=rfl;simp;omega) _ rfl ?_;intro gw cap w7 bk aA br ce;obtain ⟨cD,c9⟩:=aC aA (aB ⟨bc,b1⟩ _) (fun e=>(aL (D.out.ps I.out av.undrew).o3 jb e).ne (D.out.ps I.out av.undrew).blk.ty (by decide) rfl))|(go_simp;go_at_call 80;refine (Z.out _ (Fz [] y1).drew).mono ?_;rintro e w6 ⟨⟨gi,rfl,hb⟩,av⟩;obtain ⟨bc,b1⟩:=aH av fS bX.out;have dz:jb<w6.heap.size:=Fq w6 ⟨jb,3,none⟩ bc;dsimp only;(go_loud (refine cS ‹∀ (a:Act) (w:World),wpAny _ _ _ _ _ _ a w→_› (some 88) (FC (bs [])) ⟨rfl,by rw[HX.out];exact ⟨gi,rfl,hb⟩,M.out.trans av.undrew⟩ (fun hF=>?_)))))
  all_goals exact hF.out.elim
 have H:=HR.out;rw[J,ar] at H;try dsimp only at H
 clear HR;have HR:=Fk H;clear H;have Z:Hid (∀ W,aa [] y1 W→Calls Tryz.prog 80 #[FE (some ⟨b,0,none⟩)] W fun e w'=>e=FF (FC (bs a2))∧Ps w' b r2∧aa [b] W w'):=Fk (fun W z=>bi J W (I.out.keep z));have V:Hid (r2.length≤l.length):=Fk (by have:=O.out;have:=az J;omega);clear O;have O:=V;clear V;clear J;go_cut [] (fun wx=>∃ a6,aV wx w0.heap.size jb (⟨a1,2,outs,ins++[a2],cols,op,left,right,U⟩:Jb) v2 a6 v4∧Ps wx b r2∧aa [b] w0 wx)
 case first =>
  go_region_law (first|(refine step_append_lies _ (by rfl) _ _ _ (by rfl) w0.heap.size 9 i0 _ 1 16 Tryz.underlying44 hi ct cx ci rfl (by decide) (FD A2 (ins).length c2) (ins).length (strs (ins)) (by rfl) ((D.out.ps I.out av.undrew).o3.alloc _) ⟨w6.heap.size,0,none⟩ 1 1 [FC (bs a2)] (by rfl) rfl (Fx (heap_alloc_new _ _)) (by simp[Value.oneCell']) (by decide) bb.out.1 bb.out.2 (by have:=M.out.size;have:=av.size;have h9:y1.drew.heap.size=y1.heap.size:=rfl;simp;omega) _ rfl ?_;intro gw cap w7 bk aA br ce;obtain ⟨cD,c9⟩:=aC aA (aB ⟨bc,b1⟩ _) (fun e=>(aL (D.out.ps I.out av.undrew).o3 jb e).ne (D.out.ps I.out av.undrew).blk.ty (by decide) rfl))|(go_simp;go_at_call 80;refine (Z.out _ (Fz [] y1).drew).mono ?_;rintro e w6 ⟨rfl,c5,av⟩;obtain ⟨bc,b1⟩:=aH av fS bX.out;have dz:jb<w6.heap.size:=Fq w6 ⟨jb,3,none⟩ bc))
  all_goals
   go_wp2;go_meet;have hh:=aV.app3 (D.out.ps I.out av.undrew) c5 (M.out.trans av.undrew) rfl ba.out aA rfl bk br (by simp);exact ⟨_,hh.1,hh.2.1,hh.2.2⟩
 obtain ⟨a6,hj,hp,hk⟩:=hcut;obtain ⟨y2,rfl⟩:∃ y:World,y=wc:=⟨_,rfl⟩
 clear I D M Z fS lj bb bX;have I:=Fk hp;have D:=Fk hj;have M:=Fk hk;have a5:Hid ((ins++[a2]).length≤999000+2):=Fk (by have:=bo.out;simp only[Fo,Fv,List.length_nil];omega);clear hp hj hk bo;generalize ins++[a2]=il2 at D HR a5;have bo:=a5;clear a5;clear bj b0;have bj:y2.cell? ⟨jb,1,none⟩=some (FH FI 2):=D.out.blk.cell 1;have b0:=D.out.blk.lt;have H:=HR.out;clear HR;have HR:Hid (sF (⟨a1,2,outs,il2,cols,op,left,right,U⟩:Jb) r2=R):=Fk H;clear H;have H:=HR.out;unfold sF at H;clear HR;have HR:=Fk H;clear H;rcases J:aR [58] r2 with x|r3
 ·have H:=HR.out
  rw[J,au] at H;have HX:=Fk H.symm;have Z:=Fk (cO J y2 I.out);clear H J;go_wp2_with fail
  refine Z.out.mono ?_;rintro ev w9 ⟨⟨gi,rfl,hb⟩,a0⟩;exact ⟨rfl,by rw[HX.out];exact ⟨gi,rfl,hb⟩,M.out.trans a0⟩
 have H:=HR.out;rw[J,ar] at H;try dsimp only at H
 clear HR;have HR:=Fk H;clear H;have Z:=Fk (aT J y2 I.out);have V:Hid (r3.length≤l.length):=Fk (by have:=O.out;have:=aD J;omega);clear J O;have O:=V;clear V;go_wp2_with fail
 refine Z.out.mono ?_;rintro ev y3 ⟨rfl,hp,hk⟩;have HJ':=Fk (D.out.ps I.out hk);have HK':=Fk (M.out.trans hk);clear I D M Z;have I:=Fk hp;have D:=HJ';have M:=HK';clear hp hk HJ' HK';clear bj b0;rcases J:aQ r3 with x|⟨a4,r4⟩
 ·have H:=HR.out
  rw[J,au] at H;have HX:=Fk H.symm;have Z:=Fk (bN J y3 I.out);clear H J;go_wp2_with fail
  refine Z.out.mono ?_;rintro ev w9 ⟨⟨gi,rfl,hb⟩,a0⟩;exact ⟨rfl,by rw[HX.out];exact ⟨gi,rfl,hb⟩,M.out.trans a0⟩
 have H:=HR.out;rw[J,ar] at H;try dsimp only at H
 clear HR;have HR:=Fk H;clear H;have Z:=Fk (bi J y3 I.out);have V:Hid (r4.length≤l.length):=Fk (by have:=O.out;have:=az J;omega);clear J O;have O:=V;clear V;go_wp2_with fail
 refine Z.out.mono ?_;rintro ev y4 ⟨rfl,hp,hk⟩;have HJ':=Fk (D.out.ps I.out hk);have HK':=Fk (M.out.trans hk);clear I D M Z;have I:=Fk hp;have D:=HJ';have M:=HK';clear hp hk HJ' HK';have dB:=D.out.blk.frozen 4;have d2:y4.cell? ⟨jb,4,none⟩=some (v4):=D.out.blk.cell 4;have lj:=D.out.blk.lt;have cn:(y4.alloc (FG #[FC (bs a4)] 9)).ownsRow w0.heap.size 9 1 (FD (some ⟨y4.heap.size,0,none⟩) 1 1) [a4].length (strs [a4]):=ri (FA y4 9 #[FC (bs a4)]) M.out.size rfl (by decide);have cv:cA (v2) (FD (some ⟨y4.heap.size,0,none⟩) 1 1):=cA.new D.out.o2 (fun g hg=>by simp[Value.ownBlock] at hg;omega);have cg:cA (a6) (FD (some ⟨y4.heap.size,0,none⟩) 1 1):=cA.new D.out.o3 (fun g hg=>by simp[Value.ownBlock] at hg;omega);have be:aa [] y4 (y4.alloc (FG #[FC (bs a4)] 9)):=(Fz _ _).alloc _;have N:aa [jb] (y4.alloc (FG #[FC (bs a4)] 9)) ((y4.alloc (FG #[FC (bs a4)] 9)).setCell ⟨jb,4,none⟩ (FD (some ⟨y4.heap.size,0,none⟩) 1 1)):=(Fz _ _).setCell (.inl (by simp)) _;have hj':=(D.out.keep be).put4 cn cv cg;have hp':=(I.out.keep be).box (D.out.keep be) N;have hk':=aa.box (M.out.trans be.of_nil) ba.out N;rw[World.setCell_alloc_past (w:=y4) (FG #[FC (bs a4)] 9) jb 4 (FD (some ⟨y4.heap.size,0,none⟩) 1 1) lj] at hj' hp' hk';have HJ':=Fk hj';have HP':=Fk hp';have HK':=Fk hk';clear cn cv cg be N hj' hp' hk';go_upto_region 21 with (fail)
 obtain ⟨y5,hy⟩:∃ x,((y4.setCell ⟨jb,4,none⟩ (FD (some ⟨y4.heap.size,0,none⟩) 1 1)).alloc (FG #[FC (bs a4)] 9))=x:=⟨_,rfl⟩
 rw[hy] at HJ' HP' HK' ⊢;obtain ⟨dq,b6⟩:∃ n,y4.heap.size=n:=⟨_,rfl⟩
 rw[b6] at HJ';try rw[b6]
 clear hy b6 dB d2 lj D I M;have D:=HJ';have I:=HP';have M:=HK';clear HJ' HP' HK';obtain ⟨bz,cj⟩:∃ v,Value.slice (some ⟨dq,0,none⟩) 1 1=v:=⟨_,rfl⟩
 rw[cj] at D;clear cj;have a5:Hid ([a4].length≤999000):=Fk (by simp);clear ca;generalize cm:[a4]=cl5 at D HR a5;have HCL:=Fk cm;clear cm;have ca:=a5;clear a5;rcases J:aR [61] r4 with x|r6
 ·have H:=HR.out
  rw[J,au] at H;have HX:=Fk H.symm;have Z:=Fk (cO J y5 I.out);clear H J;go_wp2_with fail
  refine Z.out.mono ?_;rintro ev w9 ⟨⟨gi,rfl,hb⟩,a0⟩;exact ⟨rfl,by rw[HX.out];exact ⟨gi,rfl,hb⟩,M.out.trans a0⟩
 have H:=HR.out;rw[J,ar] at H;try dsimp only at H
 clear HR;have HR:=Fk H;clear H;have Z:=Fk (aT J y5 I.out);have V:Hid (r6.length≤l.length):=Fk (by have:=O.out;have:=aD J;omega);clear J O;have O:=V;clear V;go_wp2_with fail
 refine Z.out.mono ?_;rintro ev y6 ⟨rfl,hp,hk⟩;have HJ':=Fk (D.out.ps I.out hk);have HK':=Fk (M.out.trans hk);clear I D M Z;have I:=Fk hp;have D:=HJ';have M:=HK';clear hp hk HJ' HK';have Z:=Fk (nS y6 (HE.out.one a8 M.out) a8 I.out);rcases J:lK r6 with x|⟨a7,r7⟩
 ·have H:=HR.out
  rw[J,au] at H;have HX:=Fk H.symm;have hc:=Z.out;rw[J] at hc;have b5:=Fk hc;clear H J hc Z;go_wp2_with fail
  refine b5.out.mono ?_;rintro ev w9 ⟨⟨gi,rfl,hb⟩,a0⟩;exact ⟨rfl,by rw[HX.out];exact ⟨gi,rfl,hb⟩,M.out.trans a0⟩
 have H:=HR.out;rw[J,ar] at H;try dsimp only at H
 clear HR;have HR:=Fk H;clear H;have hc:=Z.out;rw[J] at hc;clear Z;have Z:=Fk hc;have V:Hid (r7.length≤l.length):=Fk (Ft (jI J) O.out);clear J hc O;have O:=V;clear V;go_wp2_with fail
 refine Z.out.mono ?_;rintro ev y7 ⟨⟨he,hp⟩,hk⟩;have bZ:ev=FF (.agg #[FC (bs a7.col),FH FI a7.val.kind,FH FI a7.val.num,FC (bs a7.val.word)]):=he;subst bZ;clear he;have HJ':=Fk (D.out.ps I.out hk);have HK':=Fk (M.out.trans hk);clear I D M Z;have I:=Fk hp;have D:=HJ';have M:=HK';clear hp hk HJ' HK';have c6:=D.out.blk.frozen 6;have ds:y7.cell? ⟨jb,6,none⟩=some (FC (bs left.col)):=D.out.blk.cell 6;have dt:=D.out.blk.frozen 7;have d3:y7.cell? ⟨jb,7,none⟩=some (FH FI left.val.kind):=D.out.blk.cell 7;have cy:=D.out.blk.frozen 8;have c1:y7.cell? ⟨jb,8,none⟩=some (FH FI left.val.num):=D.out.blk.cell 8;have dv:=D.out.blk.frozen 9;have d1:y7.cell? ⟨jb,9,none⟩=some (FC (bs left.val.word)):=D.out.blk.cell 9;have lj:=D.out.blk.lt;have N:aa [jb] y7 ((((y7.setCell ⟨jb,6,none⟩ (FC (bs a7.col))).setCell ⟨jb,7,none⟩ (FH FI a7.val.kind)).setCell ⟨jb,8,none⟩ (FH FI a7.val.num)).setCell ⟨jb,9,none⟩ (FC (bs a7.val.word))):=((((Fz _ _).setCell (.inl (by simp)) _).setCell (.inl (by simp)) _).setCell (.inl (by simp)) _).setCell (.inl (by simp)) _;have HJ':Hid (aV ((((y7.setCell ⟨jb,6,none⟩ (FC (bs a7.col))).setCell ⟨jb,7,none⟩ (FH FI a7.val.kind)).setCell ⟨jb,8,none⟩ (FH FI a7.val.num)).setCell ⟨jb,9,none⟩ (FC (bs a7.val.word))) w0.heap.size jb (⟨a1,2,outs,il2,cl5,op,a7,right,U⟩:Jb) v2 a6 bz):=Fk (D.out.box N (((((D.out.blk.set 6 (FC (bs a7.col))).set 7 (FH FI a7.val.kind)).set 8 (FH FI a7.val.num)).set 9 (FC (bs a7.val.word))).congr (by rfl)) rfl rfl rfl);have HP':=Fk (I.out.box D.out N);have HK':=Fk (M.out.box ba.out N);clear N;go_upto_region 23 with (fail)
 obtain ⟨y8,hy⟩:∃ x,((((y7.setCell ⟨jb,6,none⟩ (FC (bs a7.col))).setCell ⟨jb,7,none⟩ (FH FI a7.val.kind)).setCell ⟨jb,8,none⟩ (FH FI a7.val.num)).setCell ⟨jb,9,none⟩ (FC (bs a7.val.word)))=x:=⟨_,rfl⟩
 rw[hy] at HJ' HP' HK' ⊢;clear hy c6 ds dt d3 cy c1 dv d1 lj D I M;have D:=HJ';have I:=HP';have M:=HK';clear HJ' HP' HK';have HJ':=Fk (D.out.keep ((Fz _ _).alloc (FG #[FC (bs [43]),FC (bs [45]),FC (bs [42])] 9)));have HP':=Fk (I.out.keep ((Fz _ _).alloc (FG #[FC (bs [43]),FC (bs [45]),FC (bs [42])] 9)));have HK':=Fk (M.out.alloc (FG #[FC (bs [43]),FC (bs [45]),FC (bs [42])] 9));have b4:Hid (Rd (y8.alloc (FG #[FC (bs [43]),FC (bs [45]),FC (bs [42])] 9)) [b] 1 (some ⟨y8.heap.size,0,none⟩) 3 (strs [[43],[45],[42]])):=Fk (rp [[43],[45],[42]] (FA y8 9 #[FC (bs [43]),FC (bs [45]),FC (bs [42])]) (by have:=I.out.lt;omega));clear D I M;have D:=HJ';have I:=HP';have M:=HK';clear HJ' HP' HK';go_wp2_with fail
 rcases J:iu [[43],[45],[42]] r7 with x|⟨a9,r9⟩
 ·have H:=HR.out
  rw[J,au] at H;have HX:=Fk H.symm;have Z:=Fk (rj J (some ⟨y8.heap.size,0,none⟩) 3 _ I.out b4.out (by decide));clear H J;skip
  refine Z.out.mono ?_;rintro ev w9 ⟨⟨gi,rfl,hb⟩,a0⟩;exact ⟨rfl,by rw[HX.out];exact ⟨gi,rfl,hb⟩,M.out.trans a0⟩
 have H:=HR.out;rw[J,ar] at H;try dsimp only at H
 clear HR;have HR:=Fk H;clear H;have Z:=Fk (nl J (some ⟨y8.heap.size,0,none⟩) 3 _ I.out b4.out (by decide));have V:Hid (r9.length≤l.length):=Fk (by have:=O.out;have:=eV J;omega);clear J b4 O;have O:=V;clear V;refine Z.out.mono ?_;rintro ev y9 ⟨rfl,hp,hk⟩;have HJ':=Fk (D.out.ps I.out hk);have HK':=Fk (M.out.trans hk);clear I D M Z;have I:=Fk hp;have D:=HJ';have M:=HK';clear hp hk HJ' HK';have c3:=D.out.blk.frozen 5;have cz:y9.cell? ⟨jb,5,none⟩=some (FC (bs op)):=D.out.blk.cell 5;have lj:=D.out.blk.lt;have N:aa [jb] y9 (y9.setCell ⟨jb,5,none⟩ (FC (bs a9))):=(Fz _ _).setCell (.inl (by simp)) _;have HJ':Hid (aV (y9.setCell ⟨jb,5,none⟩ (FC (bs a9))) w0.heap.size jb (⟨a1,2,outs,il2,cl5,a9,a7,right,U⟩:Jb) v2 a6 bz):=Fk (D.out.box N ((D.out.blk.set 5 (FC (bs a9))).congr (by rfl)) rfl rfl rfl);have HP':=Fk (I.out.box D.out N);have HK':=Fk (M.out.box ba.out N);clear N;go_upto_region 24 with (fail)
 obtain ⟨dr,hy⟩:∃ x,(y9.setCell ⟨jb,5,none⟩ (FC (bs a9)))=x:=⟨_,rfl⟩
 rw[hy] at HJ' HP' HK' ⊢;clear hy c3 cz lj D I M;have D:=HJ';have I:=HP';have M:=HK';clear HJ' HP' HK';have Z:=Fk (nS dr (HE.out.one a8 M.out) a8 I.out);rcases J:lK r9 with x|⟨ad,c8⟩
 ·have H:=HR.out
  rw[J,au] at H;have HX:=Fk H.symm;have hc:=Z.out;rw[J] at hc;have b5:=Fk hc;clear H J hc Z;go_wp2_with fail
  refine b5.out.mono ?_;rintro ev w9 ⟨⟨gi,rfl,hb⟩,a0⟩;exact ⟨rfl,by rw[HX.out];exact ⟨gi,rfl,hb⟩,M.out.trans a0⟩
 have H:=HR.out;rw[J,ar] at H;try dsimp only at H
 clear HR;have HR:=Fk H;clear H;have hc:=Z.out;rw[J] at hc;clear Z;have Z:=Fk hc;have V:Hid (c8.length≤l.length):=Fk (Ft (jI J) O.out);clear J hc O;have O:=V;clear V;go_wp2_with fail
 refine Z.out.mono ?_;rintro ev a3 ⟨⟨he,hp⟩,hk⟩;have bZ:ev=FF (.agg #[FC (bs ad.col),FH FI ad.val.kind,FH FI ad.val.num,FC (bs ad.val.word)]):=he;subst bZ;clear he;have HJ':=Fk (D.out.ps I.out hk);have HK':=Fk (M.out.trans hk);clear I D M Z;have I:=Fk hp;have D:=HJ';have M:=HK';clear hp hk HJ' HK';have d7:=D.out.blk.frozen 10;have eb:a3.cell? ⟨jb,10,none⟩=some (FC (bs right.col)):=D.out.blk.cell 10;have d8:=D.out.blk.frozen 11;have d5:a3.cell? ⟨jb,11,none⟩=some (FH FI right.val.kind):=D.out.blk.cell 11;have el:=D.out.blk.frozen 12;have d9:a3.cell? ⟨jb,12,none⟩=some (FH FI right.val.num):=D.out.blk.cell 12;have d6:=D.out.blk.frozen 13;have d4:a3.cell? ⟨jb,13,none⟩=some (FC (bs right.val.word)):=D.out.blk.cell 13;have lj:=D.out.blk.lt;have N:aa [jb] a3 ((((a3.setCell ⟨jb,10,none⟩ (FC (bs ad.col))).setCell ⟨jb,11,none⟩ (FH FI ad.val.kind)).setCell ⟨jb,12,none⟩ (FH FI ad.val.num)).setCell ⟨jb,13,none⟩ (FC (bs ad.val.word))):=((((Fz _ _).setCell (.inl (by simp)) _).setCell (.inl (by simp)) _).setCell (.inl (by simp)) _).setCell (.inl (by simp)) _;have HJ':Hid (aV ((((a3.setCell ⟨jb,10,none⟩ (FC (bs ad.col))).setCell ⟨jb,11,none⟩ (FH FI ad.val.kind)).setCell ⟨jb,12,none⟩ (FH FI ad.val.num)).setCell ⟨jb,13,none⟩ (FC (bs ad.val.word))) w0.heap.size jb (⟨a1,2,outs,il2,cl5,a9,a7,ad,U⟩:Jb) v2 a6 bz):=Fk (D.out.box N (((((D.out.blk.set 10 (FC (bs ad.col))).set 11 (FH FI ad.val.kind)).set 12 (FH FI ad.val.num)).set 13 (FC (bs ad.val.word))).congr (by rfl)) rfl rfl rfl);have HP':=Fk (I.out.box D.out N);have HK':=Fk (M.out.box ba.out N);clear N;have HX:=Fk HR.out.symm;clear HR;go_wp2;first|go_end0|refine bodyPost_ret (results_none rfl _ _ _) rfl ?_
 exact ⟨by rw[HX.out];exact ⟨rfl,⟨_,_,_,HJ'.out⟩,HP'.out⟩,HK'.out⟩
end
section
theorem nY (p:UInt8→Bool):∀ (s:Bs),gu p s≤s.length
 | []=>Fm _
 | c::s=>by
  unfold gu;split
  ·simpa using nY p s
  exact Fu _
theorem lR (p:UInt8→Bool):∀ (s:Bs),∀ c∈s.take (gu p s),p c=true
 | [],c,h=>by simp[gu] at h
 | d::s,c,h=>by
  unfold gu at h;by_cases hd:p d
  ·rw[if_pos hd,List.take_succ_cons] at h
   rcases List.mem_cons.1 h with rfl|h
   ·exact hd
   exact lR p s c h
  rw[if_neg hd] at h;simp at h
theorem ry {s m:Bs} (h:Lib.hasPrefix s m=true):m.length≤s.length:=by
 unfold Lib.hasPrefix at h;exact (List.isPrefixOf_iff_prefix.1 h).length_le
theorem sL (s:Bs):∀ ms:List Bs,bP s ms≤s.length
 | []=>Fu _
 | m::ms=>by
  unfold bP;split
  ·rename_i h;exact ry h
  exact sL s ms
theorem sM (c:UInt8) (t:Bs):(bH (c::t)).2≤(c::t).length:=by
 unfold bH;split
 ·exact nY _ _
 split
 ·exact nY _ _
 split
 ·show (if Lib.indexByte t 39<0 then 0 else (Lib.indexByte t 39).toNat+2)≤(c::t).length
  split
  ·exact Fu _
  rename_i h;have D:=(Lib.indexByte_some (l:=t) (c:=39) (o:=(Lib.indexByte t 39).toNat) (by omega)).1;have:=(List.getElem?_eq_some_iff.1 D).1;simp only[Fv];omega
 exact sL _ _
theorem Dz (c:UInt8) (t:Bs) (i:Int) (I:(c::t).length≤1000000) (H:(bH (c::t)).2≠0):BK ⟨(bH (c::t)).1,(c::t).take (bH (c::t)).2,i⟩:=by
 have D:=sM c t;refine ⟨?_,?_,?_⟩
 ·show (List.take _ _).length≤_
  rw[Fw];omega
 ·intro h d hd
  revert h hd
  dsimp only
  unfold bH;split
  ·intro h;cases h
  split
  ·intro _ hd;exact lR _ _ d hd
  split
  ·intro h;cases h
  intro h;cases h
 intro h;show 2≤(List.take _ _).length;rw[Fw];revert h H D
 dsimp only
 unfold bH;split
 ·intro _ _ h;cases h
 split
 ·intro _ _ h;cases h
 split
 ·dsimp only
  split
  ·intro h;exact absurd rfl h
  intro _ _ _;omega
 intro _ _ h;cases h
theorem zX:∀ (f:Nat) (s:Bs) (i:Nat) (acc l:List Tk),s.length≤1000000→acc.length≤400→(∀ t∈acc,BK t)→fp f s i acc= .ok l→i8 l∧(∀ t∈l,BK t)∧l.length≤401:=by
 have D:∀ (acc:List Tk) (i:Nat) (l:List Tk),acc.length≤400→(∀ t∈acc,BK t)→(Except.ok (acc++[⟨5,[],(i:Int)⟩]):Except (Int×Int) (List Tk))= .ok l→i8 l∧(∀ t∈l,BK t)∧l.length≤401:=by
  intro acc i l I H h;injection h with h;subst h;refine ⟨⟨acc,_,rfl,rfl⟩,?_,by simp;omega⟩;intro t M;rcases List.mem_append.1 M with M|M
  ·exact H t M
  rw[List.mem_singleton.1 M];exact ⟨by simp,(fun h=>by cases h),(fun h=>by cases h)⟩
 intro f
 induction f with
 | zero=>intro s i acc l _ I H h;exact D acc i l I H h
 | succ f ih =>
  intro s i acc l N I H h
  cases s with
  | nil=>exact D acc i l I H h
  | cons c t =>
   unfold fp at h;split at h
   ·exact ih t (i+1) acc l (by simp at N;omega) I H h
   split at h
   ·cases h
   split at h
   ·cases h
   rename_i U O V;refine ih _ _ _ l ?_ ?_ ?_ h
   ·rw[List.length_drop];omega
   ·rw[Fo];simp;omega
   intro u J;rcases List.mem_append.1 J with J|J
   ·exact H u J
   rw[List.mem_singleton.1 J];exact Dz c t i N O
theorem rz {s:Bs} {l:List Tk} (D:s.length≤1000000) (h:uJ s= .ok l):i8 l∧(∀ t∈l,BK t)∧l.length≤401 :=
 zX _ _ _ _ _ D (by simp) (fun t H=>by cases H) h
structure bI (s:Bs):Prop where
 ne:s≠[]
 len:s.length≤10
 head:jU (s.headD 0)=true
 all:∀ c∈s,sE c=true
def rA (l:List Bs):Prop:=l≠[]∧l.length≤1000∧∀ s∈l,bI s
def sN (a:Ar):Prop:=(bI a.col∧a.val=zV)∨(a.col=[]∧eO a.val=true)
def zY (a:Ar):Prop:=a=⟨[],zV⟩∨sN a
def C7 (j:Jb):Prop :=
 (j.code=7∧∃ a b c d,bI a∧bI b∧bI c∧bI d∧j.ins=[a,b]∧j.cols=[c,d])
 ∨ (j.code=5∧∃ a b,bI a∧bI b∧j.ins=[a,b]∧j.cols=[])
 ∨ (j.code=6∧∃ a,bI a∧j.ins=[a]∧j.cols=[])
 ∨ ((j.code=1∨j.code=9)∧∃ a s,bI a∧bI s∧j.ins=[a]∧j.cols=[]∧j.left=⟨s,zV⟩∧j.op∈xF∧sN j.right)
 ∨ (j.code=2∧∃ a c,bI a∧bI c∧j.ins=[a]∧j.cols=[c]∧sN j.left∧j.op∈[[43],[45],[42]]∧sN j.right)
 ∨ ((j.code=3∨j.code=4)∧∃ a,bI a∧j.ins=[a]∧rA j.cols)
 ∨ (j.code=8∧∃ a c d,bI a∧bI c∧bI d∧j.ins=[a]∧j.cols=[c,d]∧j.op∈[[115,117,109],[109,97,120]])
structure rB (j:Jb):Prop where
 outs:rA j.outs
 lo:0≤j.retry
 hi:j.retry≤5
 left:zY j.left
 right:zY j.right
 op:j.op.length≤10
 body:C7 j
structure E5 (x:In):Prop where
 name:bI x.name
 ne:x.cols≠[]
 len:x.cols.length≤1000
 cols:∀ c∈x.cols,bI c.name∧(c.kind=1∨c.kind=2)
structure DA (x:Pb):Prop where
 name:bI x.name
 src:bI x.src
structure wC (f:Fl):Prop where
 nins:f.ins.length≤16
 njobs:f.jobs.length≤16
 nouts:f.outs.length≤16
 ins:∀ x∈f.ins,E5 x
 jobs:∀ x∈f.jobs,rB x
 outs:∀ x∈f.outs,DA x
def aW (f:Fl):List Bs:=f.ins.map (·.name)++f.jobs.flatMap (·.outs)
theorem ob {f:Fl} {n:Bs}:nZ f n=true↔n∈f.ins.map (·.name):=by
 unfold nZ;simp only[List.any_eq_true,beq_iff_eq,List.mem_map]
theorem ea {f:Fl} {k:Nat} (h:k<f.jobs.length):jb f k=f.jobs[k]:=by
 unfold jb;rw[Fy,Fp h];rfl
theorem lU {f:Fl} {n:Bs} {k:Nat} (h:n3 f n=some k):k<f.jobs.length∧n∈(jb f k).outs:=by
 unfold n3 at h;obtain ⟨D,H,_⟩:=List.findIdx?_eq_some_iff_getElem.1 h;refine ⟨D,?_⟩;rw[ea D];simpa using H
theorem xP {f:Fl} {n:Bs} (h:n3 f n=none):∀ j∈f.jobs,n∉j.outs:=by
 unfold n3 at h;rw[List.findIdx?_eq_none_iff] at h;intro j D H;have:=h j D;rw[List.contains_iff_mem.2 H] at this;cases this
theorem wE {D:List Jb} (h:(D.flatMap (·.outs)).Nodup) {a b:Nat} (H:a<D.length) (M:b<D.length) {n:Bs} (J:n∈D[a].outs) (I:n∈D[b].outs):a=b:=by
 induction D generalizing a b with
 | nil=>simp at H
 | cons j D ih =>
  rw[List.flatMap_cons,List.nodup_append] at h;obtain ⟨_,O,N⟩:=h
  match a,b with
  | 0,0=>rfl
  | 0,b+1=>exact absurd rfl (N n J n (List.mem_flatMap.2 ⟨D[b]'(by simpa using M),Fs _,by simpa using I⟩))
  | a+1,0=>exact absurd rfl (N n I n (List.mem_flatMap.2 ⟨D[a]'(by simpa using H),Fs _,by simpa using J⟩))
  | a+1,b+1=>exact congrArg (· + 1) (ih O (a:=a) (b:=b) (by simpa using H) (by simpa using M) (by simpa using J) (by simpa using I))
theorem BZ {f:Fl} (h:(f.jobs.flatMap (·.outs)).Nodup) {k:Nat} (H:k<f.jobs.length) {n:Bs} (M:n∈f.jobs[k].outs):n3 f n=some k:=by
 cases I:n3 f n with
 | none=>exact absurd M (xP I _ (Fs H))
 | some N =>
  obtain ⟨D,J⟩:=lU I;rw[ea D] at J;rw[wE h D H J M]
theorem iy {f:Fl} {done:List Nat} {n:Bs}:gA f done n=true↔nZ f n=true∨∃ k,n3 f n=some k∧k∈done:=by
 unfold gA;rw[Bool.or_eq_true]
 cases h:n3 f n with
 | none=>simp
 | some k=>simp
structure dO (f:Fl) (l:List Nat):Prop where
 nodup:l.Nodup
 lt:∀ k∈l,k<f.jobs.length
 ready:∀ i (h:i<l.length),cL f (l.take i) l[i]=true
theorem kB {f:Fl} {out:List Nat} {k:Nat} (h:eW f out=some k):k<f.jobs.length∧k∉out∧cL f out k=true∧∀ j,j<k→j∉out→cL f out j=false:=by
 unfold eW at h;rw[List.find?_eq_some_iff_getElem] at h;obtain ⟨D,i,J,H,I⟩:=h;rw[Bool.and_eq_true] at D;simp only[List.getElem_range] at H;subst H;refine ⟨by simpa using J,by simpa using D.1,D.2,fun j M N=>?_⟩;have:=I j M;simp only[List.getElem_range,Bool.not_and,Bool.not_not,Bool.or_eq_true] at this;rcases this with h|h
 ·exact absurd (List.contains_iff_mem.1 h) N
 simpa using h
theorem oe {f:Fl} {out:List Nat} (h:eW f out=none):∀ k,k<f.jobs.length→k∉out→cL f out k=false:=by
 unfold eW at h;rw[List.find?_eq_none] at h;intro k D I;have:=h k (List.mem_range.2 D)
 cases H:cL f out k with
 | false=>rfl
 | true=>exact absurd (by rw[H];simpa using I) this
theorem dO.snoc {f:Fl} {out:List Nat} (h:dO f out) {k:Nat} (I:eW f out=some k):dO f (out++[k]):=by
 obtain ⟨M,J,O,_⟩:=kB I;refine ⟨?_,?_,?_⟩
 ·rw[List.nodup_append]
  exact ⟨h.nodup,by simp,fun a U b N e=>J (by rw[List.mem_singleton.1 N] at e;rw[←e];exact U)⟩
 ·intro x D
  rcases List.mem_append.1 D with D|D
  ·exact h.lt x D
  rw[List.mem_singleton.1 D];exact M
 intro i H;rw[Fo,List.length_singleton] at H;by_cases hi':i<out.length
 ·rw[List.getElem_append_left hi',List.take_append_of_le_length (Nat.le_of_lt hi')]
  exact h.ready i hi'
 obtain rfl:i=out.length:=by omega
 rw[List.getElem_append_right (Fm _),List.take_left']
 ·simpa using O
 rfl
theorem og {f:Fl}:∀ (n:Nat) (out l:List Nat),dO f out→dL f n out= .ok l→dO f l∧l.length=out.length+n
 | 0,out,l,D,h=>by cases h;exact ⟨D,rfl⟩
 | n+1,out,l,D,h=>by
  unfold dL at h
  cases H:eW f out with
  | none=>rw[H] at h;cases h
  | some k =>
   rw[H] at h;obtain ⟨J,I⟩:=og n _ _ (D.snoc H) h;exact ⟨J,by rw[I,Fo,List.length_singleton];omega⟩
theorem dO.nil (f:Fl):dO f []:=⟨by simp,fun _ h=>(by cases h),fun i h=>absurd h (by simp)⟩
theorem gN {f:Fl} {l:List Nat} (h:cM f= .ok l):dO f l∧l.length=f.jobs.length:=by
 obtain ⟨H,D⟩:=og _ _ _ (dO.nil f) h;exact ⟨H,by simpa using D⟩
def kC (f:Fl):Prop:=∃ r:Jb→Nat,∀ j∈f.jobs,∀ n∈j.ins,n∈f.ins.map (·.name)∨∃ d∈f.jobs,n∈d.outs∧r d<r j
theorem lV {α:Type} [DecidableEq α]:∀ {l m:List α},l.Nodup→(∀ x∈l,x∈m)→l.length≤m.length
 | [],_,_,_=>Fu _
 | x::l,m,D,I=>by
  rw[List.nodup_cons] at D;have M:=lV (m:=m.erase x) D.2 (fun y H=>by
   have h:y≠x:=fun e=>D.1 (by rw[←e];exact H)
   exact (List.mem_erase_of_ne h).2 (I y (List.mem_cons_of_mem _ H)))
  have J:=I x (List.mem_cons_self ..);rw[List.length_erase_of_mem J] at M;have:=List.length_pos_of_mem J;rw[Fv];omega
theorem k4 {n:Nat} {l:List Nat} (J:l.Nodup) (h:∀ k∈l,k<n) (M:l.length=n):∀ k,k<n→k∈l:=by
 intro k H;refine Decidable.byContradiction fun I=>?_
 have:=lV (l:=k::l) (m:=List.range n) (List.nodup_cons.2 ⟨I,J⟩) (fun x D=>by
  rcases List.mem_cons.1 D with rfl|D
  ·exact List.mem_range.2 H
  exact List.mem_range.2 (h x D))
 rw[Fv,List.length_range] at this;omega
theorem sO {α:Type} [DecidableEq α]:∀ {l:List α} {i:Nat} (h:i<l.length),l.idxOf l[i]≤i
 | x::l,0,_=>by simp[List.idxOf_cons]
 | x::l,i+1,h=>by
  have ih:=sO (l:=l) (i:=i) (by simpa using h);rw[List.getElem_cons_succ,List.idxOf_cons]
  cases D:(x==l[i]'(by simpa using h)) with
  | true=>exact Fu _
  | false=>exact Nat.succ_le_succ ih
theorem xQ {f:Fl} {l:List Nat} (J:dO f l) (hl:l.length=f.jobs.length):kC f:=by
 refine ⟨fun j=>(l.map (jb f)).idxOf j,fun j hj n hn=>?_⟩;obtain ⟨k,O,rfl⟩:=List.getElem_of_mem hj;have I:=k4 J.nodup J.lt hl k O;obtain ⟨p0,av,ad⟩:=List.getElem_of_mem I;have N:(l.map (jb f)).idxOf f.jobs[k]<(l.map (jb f)).length:=List.idxOf_lt_length_of_mem (List.mem_map.2 ⟨k,I,ea O⟩);obtain ⟨p,D⟩:∃ p,(l.map (jb f)).idxOf f.jobs[k]=p:=⟨_,rfl⟩
 rw[D] at N;have H:(l.map (jb f))[p]=f.jobs[k]:=by
  have:=List.getElem_idxOf (x:=f.jobs[k]) (xs:=l.map (jb f)) (by rw[D];exact N);simpa[D] using this
 have hp':p<l.length:=by simpa using N
 rw[List.getElem_map] at H;have M:=J.ready p hp';unfold cL at M;rw[H,List.all_eq_true] at M;rcases iy.1 (M n hn) with h|⟨V,h1,Z⟩
 ·exact .inl (ob.1 h)
 right
 obtain ⟨U,h4⟩:=lU h1;refine ⟨jb f V,by rw[ea U];exact Fs U,h4,?_⟩;show (l.map (jb f)).idxOf (jb f V)<(l.map (jb f)).idxOf f.jobs[k];rw[D];obtain ⟨q,hq,rfl⟩:=List.getElem_of_mem Z;rw[Fw] at hq;have hq':q<l.length:=by omega
 have e:jb f (l.take p)[q]=(l.map (jb f))[q]'(by simpa using hq'):=by rw[List.getElem_take,List.getElem_map]
 rw[e];have:=sO (l:=l.map (jb f)) (i:=q) (by simpa using hq');omega
theorem DB {P:Nat→Prop} {r:Nat→Nat} (h:∃ k,P k):∃ k,P k∧∀ j,P j→r k≤r j:=by
 obtain ⟨k,J⟩:=h
 induction M:r k using Nat.strongRecOn generalizing k with
 | ind n ih =>
  by_cases I:∃ j,P j∧r j<n
  ·obtain ⟨j,H,D⟩:=I
   exact ih (r j) D j H rfl
  exact ⟨k,J,fun j H=>by
   rw[M];exact Nat.le_of_not_lt fun D=>I ⟨j,H,D⟩⟩
theorem oh {n:Nat} {l:List Nat} (h:l.length<n):∃ k,k<n∧k∉l:=by
 refine Decidable.byContradiction fun J=>?_
 have D:List.range n ⊆ l:=fun k H=>Decidable.byContradiction fun I=>J ⟨k,List.mem_range.1 H,I⟩
 have:=lV List.nodup_range D;rw[List.length_range] at this;omega
theorem sP {f:Fl} (hu:(f.jobs.flatMap (·.outs)).Nodup) (U:kC f) {out:List Nat} (D:out.length<f.jobs.length):∃ k,eW f out=some k:=by
 obtain ⟨r,U⟩:=U;obtain ⟨k,⟨I,J⟩,H⟩:=DB (P:=fun k=>k<f.jobs.length∧k∉out) (r:=fun k=>r (jb f k)) (oh D)
 cases hn:eW f out with
 | some k=>exact ⟨k,rfl⟩
 | none =>
  have hf:=oe hn k I J;exfalso
  have V:cL f out k=true:=by
   unfold cL;rw[List.all_eq_true];intro n N;have hj:jb f k∈f.jobs:=by rw[ea I];exact Fs I
   rcases U _ hj n N with h|⟨d,hd,O,ad⟩
   ·exact iy.2 (.inl (ob.2 h))
   obtain ⟨Z,hk',rfl⟩:=List.getElem_of_mem hd;refine iy.2 (.inr ⟨Z,BZ hu hk' O,Decidable.byContradiction fun M=>?_⟩);have:=H Z ⟨hk',M⟩;rw[ea hk'] at this;omega
  rw[hf] at V;cases V
theorem la {f:Fl} (H:(f.jobs.flatMap (·.outs)).Nodup) (D:kC f):∀ (n:Nat) (out:List Nat),out.length+n≤f.jobs.length→∃ l,dL f n out= .ok l
 | 0,out,_=>⟨out,rfl⟩
 | n+1,out,h=>by
  obtain ⟨k,I⟩:=sP H D (out:=out) (by omega);obtain ⟨l,J⟩:=la H D n (out++[k]) (by rw[Fo,List.length_singleton];omega);exact ⟨l,by unfold dL;rw[I];exact J⟩
theorem sQ {f:Fl} (h:(f.jobs.flatMap (·.outs)).Nodup) (D:kC f):∃ l,cM f= .ok l:=la h D _ _ (by simp)
theorem iz:∀ (l:List (Bs×Int)) (seen:List Bs),(∃ s,bL l seen= .ok s∧∀ n,n∈s↔n∈l.map (·.1)∨n∈seen)↔(l.map (·.1)).Nodup∧∀ n∈l.map (·.1),n∉seen
 | [],seen=>⟨fun _=>⟨by simp,fun n h=>(by simp at h)⟩,fun _=>⟨seen,rfl,fun n=>by simp⟩⟩
 | p::l,seen=>by
  have ih:=iz l (p.1::seen);unfold bL;by_cases M:p.1∈seen
  ·rw[if_pos M]
   constructor
   ·rintro ⟨s,I,_⟩;cases I
   rintro ⟨_,h⟩;exact absurd M (h p.1 (by simp))
  rw[if_neg M];constructor
  ·rintro ⟨s,I,O⟩
   have J:=ih.1 ⟨s,I,fun n=>by
    rw[O n];simp only[List.map_cons,List.mem_cons];constructor
    ·rintro ((h|h)|h)
     ·exact .inr (.inl h)
     ·exact .inl h
     exact .inr (.inr h)
    rintro (h|h|h)
    ·exact .inl (.inr h)
    ·exact .inl (.inl h)
    exact .inr h⟩
   refine ⟨?_,?_⟩
   ·rw[List.map_cons,List.nodup_cons]
    exact ⟨fun H=>J.2 _ H (List.mem_cons_self ..),J.1⟩
   intro n D;rw[List.map_cons,List.mem_cons] at D;rcases D with rfl|D
   ·exact M
   exact fun H=>J.2 n D (List.mem_cons_of_mem _ H)
  rintro ⟨N,J⟩;rw[List.map_cons,List.nodup_cons] at N;obtain ⟨s,I,O⟩:=ih.2 ⟨N.2,fun n D=>by
   rw[List.mem_cons];rintro (rfl|H)
   ·exact N.1 D
   exact J n (by rw[List.map_cons];exact List.mem_cons_of_mem _ D) H⟩
  refine ⟨s,I,fun n=>?_⟩;rw[O n];simp only[List.map_cons,List.mem_cons];constructor
  ·rintro (h|h|h)
   ·exact .inl (.inr h)
   ·exact .inl (.inl h)
   exact .inr h
  rintro ((h|h)|h)
  ·exact .inr (.inl h)
  ·exact .inl h
  exact .inr (.inr h)
theorem iA:∀ (l:List (Bs×Int)) (seen s:List Bs),bL l seen= .ok s→∀ n,n∈s↔n∈l.map (·.1)∨n∈seen
 | [],seen,s,h,n=>by cases h;simp
 | p::l,seen,s,h,n=>by
  unfold bL at h;by_cases D:p.1∈seen
  ·rw[if_pos D] at h;cases h
  rw[if_neg D] at h;rw[iA l _ s h n];simp only[List.map_cons,List.mem_cons];constructor
  ·rintro (h|h|h)
   ·exact .inl (.inr h)
   ·exact .inl (.inl h)
   exact .inr h
  rintro ((h|h)|h)
  ·exact .inr (.inl h)
  ·exact .inl h
  exact .inr (.inr h)
theorem qt {l:List (Bs×Int)} {seen s:List Bs} (h:bL l seen= .ok s):(l.map (·.1)).Nodup∧∀ n∈l.map (·.1),n∉seen :=
 (iz l seen).1 ⟨s,h,iA l seen s h⟩
theorem iB (h:List Jb):(dh h).map (·.1)=h.flatMap (·.outs):=by
 unfold dh;rw[List.map_flatMap];congr 1
 funext j
 rw[List.map_map];exact List.map_id _
theorem jk {seen:List Bs}:∀ {J:List Jb},bD seen J= .ok ()↔∀ j∈J,∀ n∈j.ins,n∈seen
 | []=>by simp[bD]
 | j::J=>by
  unfold bD;by_cases h:j.ins.any (fun n=> !decide (n∈seen))=true
  ·rw[if_pos h]
   constructor
   ·intro D;cases D
   intro D;rw[List.any_eq_true] at h;obtain ⟨n,H,M⟩:=h;have:=D j (List.mem_cons_self ..) n H;simp[this] at M
  rw[if_neg h,jk];constructor
  ·intro D I hj' n H
   rcases List.mem_cons.1 hj' with rfl|hj'
   ·exact Decidable.byContradiction fun N=>h (List.any_eq_true.2 ⟨n,H,by simp[N]⟩)
   exact D I hj' n H
  exact fun D I hj'=>D I (List.mem_cons_of_mem _ hj')
theorem kD {seen:List Bs}:∀ {l:List Pb} {told:List Bs},cE seen l told= .ok ()↔(∀ x∈l,x.src∈seen)∧(l.map (·.name)).Nodup∧∀ n∈l.map (·.name),n∉told
 | [],told=>by simp[cE]
 | x::l,told=>by
  unfold cE;by_cases H:x.src∈seen
  ·by_cases J:x.name∈told
   ·rw[if_neg (fun h=>h H),if_pos J]
    constructor
    ·intro h;cases h
    rintro ⟨_,_,h⟩;exact absurd J (h _ (by simp))
   rw[if_neg (fun h=>h H),if_neg J,kD];simp only[List.map_cons,List.nodup_cons,List.mem_cons,forall_eq_or_imp];constructor
   ·rintro ⟨a,b,c⟩
    exact ⟨⟨H,a⟩,⟨fun D=>c _ D (.inl rfl),b⟩,J,fun n I D=>c n I (.inr D)⟩
   rintro ⟨⟨_,a⟩,⟨b,c⟩,_,d⟩;exact ⟨a,c,fun n I=>by
    rintro (rfl|D)
    ·exact b I
    exact d n I D⟩
  rw[if_pos H];constructor
  ·intro h;cases h
  rintro ⟨h,_⟩;exact absurd (h x (List.mem_cons_self ..)) H
structure fW (f:Fl):Prop where
 nodup:(aW f).Nodup
 ins:∀ j∈f.jobs,∀ n∈j.ins,n∈aW f
 src:∀ x∈f.outs,x.src∈aW f
 told:(f.outs.map (·.name)).Nodup
theorem oi {f:Fl}:dF f= .ok ()↔fW f:=by
 have Z:(f.ins.map fun x=>(x.name,x.at_)).map (·.1)=f.ins.map (·.name):=by rw[List.map_map];rfl
 constructor
 ·intro h
  unfold dF at h
  cases H:bL (f.ins.map fun x=>(x.name,x.at_)) [] with
  | error e=>rw[H] at h;cases h
  | ok V =>
   rw[H] at h
   cases J:bL (dh f.jobs) V with
   | error e=>simp only[bind,Except.bind] at h;rw[J] at h;cases h
   | ok U =>
    simp only[bind,Except.bind] at h;rw[J] at h;simp only at h
    cases N:bD U f.jobs with
    | error e=>rw[N] at h;cases h
    | ok u =>
     rw[N] at h;simp only at h;have I:=iA _ _ _ H;have O:=iA _ _ _ J;obtain ⟨n1,-⟩:=qt H;obtain ⟨n2,d2⟩:=qt J;rw[Z] at I n1;rw[iB] at O n2 d2;have M:∀ n,n∈U↔n∈aW f:=fun n=>by
      rw[O n,I n];unfold aW;rw[List.mem_append];simp[or_comm]
     have hr:=jk.1 N;obtain ⟨t1,t2,-⟩:=kD.1 h;refine ⟨?_,fun j hj n D=>(M n).1 (hr j hj n D),fun x hx=>(M _).1 (t1 x hx),t2⟩;unfold aW;rw[List.nodup_append];exact ⟨n1,n2,fun a ha b hb e=>d2 b hb ((I b).2 (.inl (e ▸ ha)))⟩
 rintro ⟨H,J,N,h4⟩;unfold aW at H;rw[List.nodup_append] at H;obtain ⟨a1,a2,a3⟩:=H;obtain ⟨V,g1,I⟩:=(iz (f.ins.map fun x=>(x.name,x.at_)) []).2 ⟨by rw[Z];exact a1,fun n _=>by simp⟩;rw[Z] at I;obtain ⟨U,g2,O⟩:=(iz (dh f.jobs) V).2 ⟨by rw[iB];exact a2,fun n D hh=>by
  rw[iB] at D;rcases (I n).1 hh with h|h
  ·exact a3 n h n D rfl
  cases h⟩
 rw[iB] at O;have M:∀ n,n∈aW f→n∈U:=fun n D=>by
  unfold aW at D;rw[O n,I n];rcases List.mem_append.1 D with h|h
  ·exact .inr (.inl h)
  exact .inl h
 unfold dF;rw[g1];simp only[bind,Except.bind];rw[g2];simp only;rw[jk.2 fun j hj n D=>M n (J j hj n D)];simp only;exact kD.2 ⟨fun x hx=>M _ (N x hx),h4,fun n _=>by simp⟩
theorem fW.outs {f:Fl} (h:fW f):(f.jobs.flatMap (·.outs)).Nodup:=by
 have:=h.nodup;unfold aW at this;rw[List.nodup_append] at this;exact this.2.1
theorem fW.apart {f:Fl} (h:fW f) {n:Bs} (H:n∈f.ins.map (·.name)):n∉f.jobs.flatMap (·.outs):=by
 have:=h.nodup;unfold aW at this;rw[List.nodup_append] at this;exact fun D=>this.2.2 n H n D rfl
theorem gO {j:Jb} {ins cs:List (List Cl)} (h:aK j ins= .ok cs):cs.length=j.outs.length:=by
 unfold aK at h;by_cases I:(aw j.code).1=0∨ins.length≠(aw j.code).1∨j.outs.length≠(aw j.code).2
 ·rw[if_pos I] at h;cases h
 rw[if_neg I] at h;have O:j.outs.length=(aw j.code).2:=Decidable.byContradiction fun M=>I (.inr (.inr M))
 have N:(aw j.code).1≠0:=fun M=>I (.inl M)
 by_cases D:j.code=1∨j.code=9
 ·rw[if_pos D] at h
  unfold aX at h;split at h
  ·cases h
  split at h
  ·cases h
  split at h
  ·cases h
  cases h
  rw[O,List.length_replicate];rcases D with D|D<;>rw[D]<;>rfl
 have J:j.code≠1∧j.code≠9:=⟨fun e=>D (.inl e),fun e=>D (.inr e)⟩;have H:(aw j.code).2=1:=by
  revert N
  unfold aw;rw[if_neg J.2];split
  ·intro;rfl
  split
  ·intro;rfl
  intro N;exact absurd rfl N
 have h1':cs.length=1:=by
  rw[if_neg D] at h;split at h
  ·unfold jS at h
   split at h
   ·cases h
   split at h
   ·cases h
   split at h
   ·cases h
   cases h;rfl
  split at h
  ·unfold bW at h
   split at h
   ·cases h
   split at h
   ·cases h
   cases h;rfl
  split at h
  ·split at h
   ·cases h
   cases h;rfl
  split at h
  ·unfold dg at h
   split at h
   ·cases h
   split at h
   ·split at h
    ·cases h
    split at h
    ·cases h
    split at h
    ·cases h
    cases h;rfl
   cases h
  split at h
  ·unfold cF at h
   split at h
   ·cases h
   split at h
   ·split at h
    ·cases h
    split at h
    ·cases h
    cases h;rfl
   cases h
  cases h;rfl
 rw[O,H,h1']
structure Ev (f:Fl) (F:Bs→Option (List Cl)):Prop where
 ins:∀ x∈f.ins,F x.name=some x.cols
 jobs:∀ j∈f.jobs,∃ cs,aK j (j.ins.map fun n=>(F n).getD [])= .ok cs∧∀ i (h:i<j.outs.length) (h':i<cs.length),F j.outs[i]=some cs[i]
 none:∀ n,n∉aW f→F n=none
def gP (f:Fl) (done:List Nat) (n:Bs):Prop:=n∈f.ins.map (·.name)∨∃ k∈done,n∈(jb f k).outs
theorem sR {f:Fl} {done:List Nat} {n:Bs} (hd:∀ k∈done,k<f.jobs.length) (h:gP f done n):n∈aW f:=by
 unfold aW;rw[List.mem_append];rcases h with h|⟨k,D,H⟩
 ·exact .inl h
 refine .inr (List.mem_flatMap.2 ⟨jb f k,?_,H⟩);rw[ea (hd k D)];exact Fs _
theorem jl:∀ {ns:List Bs} {cs:List (List Cl)} {m:Cm},ns.length=cs.length→ns.Nodup→(∀ i (h:i<ns.length) (h':i<cs.length),(gM ns cs m).lookup ns[i]=some cs[i])∧(∀ n,n∉ns→(gM ns cs m).lookup n=m.lookup n)∧(gM ns cs m).map (·.1)=ns.reverse++m.map (·.1)
 | [],[],m,_,_=>⟨fun i h=>absurd h (by simp),fun _ _=>rfl,rfl⟩
 | n::ns,c::cs,m,J,D=>by
  rw[List.nodup_cons] at D;obtain ⟨a,b,e⟩:=jl (ns:=ns) (cs:=cs) (m:=(n,c)::m) (by simpa using J) D.2;refine ⟨fun i h h'=>?_,fun x H=>?_,?_⟩
  ·cases i with
   | zero =>
    show (gM ns cs ((n,c)::m)).lookup n=some c;rw[b n D.1,List.lookup_cons];simp
   | succ i=>exact a i (by simpa using h) (by simpa using h')
  ·rw[List.mem_cons] at H
   show (gM ns cs ((n,c)::m)).lookup x=m.lookup x;rw[b x (fun I=>H (.inr I)),List.lookup_cons];have:(x==n)=false:=by simpa using fun e=>H (.inl e)
   rw[this]
  show (gM ns cs ((n,c)::m)).map (·.1)=(n::ns).reverse++m.map (·.1);rw[e,List.reverse_cons,List.append_assoc];rfl
theorem rD:∀ {l:List In} {m H:Cm},kA l m= .ok H→(l.map (·.name)).Nodup→(∀ x∈l,H.lookup x.name=some x.cols)∧(∀ n,n∉l.map (·.name)→H.lookup n=m.lookup n)∧H.map (·.1)=(l.map (·.name)).reverse++m.map (·.1)∧∀ x∈l,bV x.cols=true
 | [],m,H,h,_=>by cases h;exact ⟨fun x h=>(by cases h),fun _ _=>rfl,rfl,fun x h=>(by cases h)⟩
 | x::l,m,H,h,M=>by
  unfold kA at h;by_cases J:bV x.cols=true
  ·rw[if_pos J] at h
   rw[List.map_cons,List.nodup_cons] at M;obtain ⟨a,b,e,d⟩:=rD h M.2;refine ⟨fun y D=>?_,fun n I=>?_,?_,fun y D=>?_⟩
   ·rcases List.mem_cons.1 D with rfl|D
    ·rw[b _ M.1,List.lookup_cons];simp
    exact a y D
   ·rw[List.map_cons,List.mem_cons] at I
    rw[b n (fun N=>I (.inr N)),List.lookup_cons];have:(n==x.name)=false:=by simpa using fun e=>I (.inl e)
    rw[this]
   ·rw[e,List.map_cons,List.map_cons,List.reverse_cons,List.append_assoc];rfl
   rcases List.mem_cons.1 D with rfl|D
   ·exact J
   exact d y D
  rw[if_neg J] at h;cases h
theorem qu:∀ (l:List In) (m:Cm),(∀ x∈l,bV x.cols=true)→∃ D,kA l m= .ok D
 | [],m,_=>⟨m,rfl⟩
 | x::l,m,h=>by
  unfold kA;rw[if_pos (h x (List.mem_cons_self ..))];exact qu l _ fun y H=>h y (List.mem_cons_of_mem _ H)
def DC (f:Fl) (F:Bs→Option (List Cl)) (done:List Nat) (m:Cm):Prop:=(∀ n,gP f done n→m.lookup n=F n)∧(∀ n,¬gP f done n→m.lookup n=none)∧(m.map (·.1)).Nodup
theorem ld {f:Fl} (I:fW f) {done:List Nat} {k:Nat} (D:k<f.jobs.length) (hd:∀ x∈done,x<f.jobs.length) (N:k∉done) {n:Bs} (H:n∈(jb f k).outs):¬gP f done n:=by
 rw[ea D] at H;rintro (h|⟨M,hk',h⟩)
 ·exact I.apart h (List.mem_flatMap.2 ⟨_,Fs D,H⟩)
 have J:=hd M hk';rw[ea J] at h;have:=wE I.outs D J H h;exact N (this ▸ hk')
theorem fM {f:Fl} (J:fW f) {k:Nat} (H:k<f.jobs.length):(jb f k).outs.Nodup:=by
 rw[ea H];have h:=J.outs;have:∀ (D:List Jb),(D.flatMap (·.outs)).Nodup→∀ j∈D,j.outs.Nodup:=fun D=>by
  induction D with
  | nil=>intro _ j M;cases M
  | cons j D ih =>
   intro h I hj';rw[List.flatMap_cons,List.nodup_append] at h;rcases List.mem_cons.1 hj' with rfl|hj'
   ·exact h.1
   exact ih h.2.1 I hj'
 exact this _ h _ (Fs H)
theorem jK {f:Fl} {done:List Nat} {k:Nat} (h:cL f done k=true):∀ n∈(jb f k).ins,gP f done n:=fun n J=>by
 unfold cL at h;rw[List.all_eq_true] at h;rcases iy.1 (h n J) with h|⟨D,H,I⟩
 ·exact .inl (ob.1 h)
 exact .inr ⟨D,I,(lU H).2⟩
theorem wF {f:Fl} (M:fW f) {F:Bs→Option (List Cl)} {done:List Nat} {m:Cm} {k:Nat} {cs:List (List Cl)} (hA:DC f F done m) (J:k<f.jobs.length) (hd:∀ x∈done,x<f.jobs.length) (hn:k∉done)
  (hl:cs.length=(jb f k).outs.length) (hF:∀ i (h:i<(jb f k).outs.length) (h':i<cs.length),F (jb f k).outs[i]=some cs[i]):DC f F (done++[k]) (gM (jb f k).outs cs m):=by
 obtain ⟨a,b,c⟩:=hA;obtain ⟨p1,N,V⟩:=jl (ns:=(jb f k).outs) (cs:=cs) (m:=m) hl.symm (fM M J);have D:∀ n,gP f (done++[k]) n↔gP f done n∨n∈(jb f k).outs:=fun n=>by
  unfold gP;constructor
  ·rintro (h|⟨x,H,h⟩)
   ·exact .inl (.inl h)
   rcases List.mem_append.1 H with H|H
   ·exact .inl (.inr ⟨x,H,h⟩)
   rw[List.mem_singleton.1 H] at h;exact .inr h
  rintro ((h|⟨x,H,h⟩)|h)
  ·exact .inl h
  ·exact .inr ⟨x,List.mem_append_left _ H,h⟩
  exact .inr ⟨k,List.mem_append_right _ (List.mem_singleton.2 rfl),h⟩
 refine ⟨fun n h=>?_,fun n h=>?_,?_⟩
 ·by_cases I:n∈(jb f k).outs
  ·obtain ⟨i,U,rfl⟩:=List.getElem_of_mem I
   rw[p1 i U (by omega),hF i U (by omega)]
  rw[N n I];exact a n (((D n).1 h).resolve_right I)
 ·rw[N n fun I=>h ((D n).2 (.inr I))]
  exact b n fun hh=>h ((D n).2 (.inl hh))
 rw[V,List.nodup_append];refine ⟨(List.reverse_perm _).nodup_iff.2 (fM M J),c,fun x H y hy e=>?_⟩;subst e;have Z:=b x (ld M J hd hn (List.mem_reverse.1 H));have:(m.lookup x).isSome=true:=by
  clear Z p1 N V a b c
  induction m with
  | nil=>cases hy
  | cons q m ih =>
   obtain ⟨q1,q2⟩:=q;rw[List.lookup_cons];by_cases O:x=q1
   ·subst O;simp
   have hq':(x==q1)=false:=by simpa using O
   rw[hq'];exact ih ((List.mem_cons.1 hy).resolve_left O)
 rw[Z] at this;cases this
theorem dO.at {f:Fl} {done l:List Nat} {k:Nat} (h:dO f (done++k::l)):cL f done k=true∧k<f.jobs.length∧k∉done∧∀ x∈done,x<f.jobs.length:=by
 have D:=h.ready done.length (by simp);rw[List.take_left' rfl,List.getElem_append_right (Fm _)] at D;refine ⟨by simpa using D,h.lt k (by simp),fun H=>?_,fun x I=>h.lt x (List.mem_append_left _ I)⟩;have:=h.nodup;rw[List.nodup_append] at this;exact this.2.2 k H k (List.mem_cons_self ..) rfl
theorem lW {f:Fl} (N:fW f) {F:Bs→Option (List Cl)} (I:Ev f F):∀ (l done:List Nat) (m:Cm),dO f (done++l)→DC f F done m→∃ h,dZ f l m= .ok h∧DC f F (done++l) h
 | [],done,m,_,D=>⟨m,rfl,by rw[List.append_nil];exact D⟩
 | k::l,done,m,O,D=>by
  obtain ⟨hr,J,H,hd⟩:=O.at;obtain ⟨cs,M,V⟩:=I.jobs (jb f k) (by rw[ea J];exact Fs _);have e:(jb f k).ins.map (dM m)=(jb f k).ins.map fun n=>(F n).getD []:=List.map_congr_left fun n H=>by
   unfold dM;rw[D.1 n (jK hr n H)]
  have hA':=wF N D J hd H (gO M) V;obtain ⟨h,Z,U⟩:=lW N I l (done++[k]) _ (by rw[List.append_assoc];exact O) hA';refine ⟨h,?_,by rw[List.append_assoc] at U;exact U⟩;unfold dZ;rw[e,M];exact Z
theorem om {f:Fl} (M:fW f):∀ (l done:List Nat) (m H:Cm),dO f (done++l)→(∀ n,¬gP f done n→m.lookup n=none)→(m.map (·.1)).Nodup→dZ f l m= .ok H →
  (∀ n,gP f done n→H.lookup n=m.lookup n)∧∀ k∈l,∃ cs,aK (jb f k) ((jb f k).ins.map (dM H))= .ok cs∧∀ i (h:i<(jb f k).outs.length) (h':i<cs.length),H.lookup (jb f k).outs[i]=some cs[i]
 | [],done,m,H,_,_,_,h=>by cases h;exact ⟨fun _ _=>rfl,fun k J=>(by cases J)⟩
 | k::l,done,m,H,hv,hb,hc,h=>by
  obtain ⟨hr,J,Z,hd⟩:=hv.at;unfold dZ at h
  cases U:aK (jb f k) ((jb f k).ins.map (dM m)) with
  | error e=>rw[U] at h;cases h
  | ok cs =>
   rw[U] at h;have hl:=gO U;obtain ⟨p1,p2,p3⟩:=jl (ns:=(jb f k).outs) (cs:=cs) (m:=m) hl.symm (fM M J);have hA:DC f (fun n=>(gM (jb f k).outs cs m).lookup n) (done++[k]) (gM (jb f k).outs cs m):=by
    have V:DC f (fun n=>(gM (jb f k).outs cs m).lookup n) done m:=⟨fun n I=>(p2 n fun ho=>ld M J hd Z ho I).symm,hb,hc⟩;exact wF M V J hd Z hl p1
   obtain ⟨q1,q2⟩:=om M l (done++[k]) _ H (by rw[List.append_assoc];exact hv) hA.2.1 hA.2.2 h;have D:∀ n,gP f done n→H.lookup n=m.lookup n:=fun n N=>by
    rw[q1 n (by
     rcases N with h|⟨x,O,h⟩
     ·exact .inl h
     exact .inr ⟨x,List.mem_append_left _ O,h⟩)]
    exact p2 n fun ho=>ld M J hd Z ho N
   refine ⟨D,fun x O=>?_⟩;rcases List.mem_cons.1 O with rfl|O
   ·refine ⟨cs,?_,fun i hi hi'=>?_⟩
    ·rw[←U]
     congr 1
     exact List.map_congr_left fun n I=>by unfold dM;rw[D n (jK hr n I)]
    rw[q1 _ (.inr ⟨x,List.mem_append_right _ (List.mem_singleton.2 rfl),Fs hi⟩),p1 i hi hi']
   exact q2 x O
theorem mG {f:Fl} {m:Cm} (h:cN f= .ok m):∃ D l,kA f.ins []= .ok D∧fW f∧cM f= .ok l∧dZ f l D= .ok m:=by
 unfold cN at h
 cases J:kA f.ins [] with
 | error e=>rw[J] at h;cases h
 | ok D =>
  rw[J] at h;simp only[bind,Except.bind] at h
  cases H:dF f with
  | error e=>rw[H] at h;cases h
  | ok u =>
   rw[H] at h;simp only at h
   cases I:cM f with
   | error e=>rw[I] at h;cases h
   | ok l =>
    rw[I] at h;exact ⟨D,l,rfl,oi.1 H,rfl,h⟩
theorem DD {f:Fl} (O:fW f) {F:Bs→Option (List Cl)} (J:∀ x∈f.ins,F x.name=some x.cols) {I:Cm} (h:kA f.ins []= .ok I):DC f F [] I:=by
 have D:(f.ins.map (·.name)).Nodup:=by
  have:=O.nodup;unfold aW at this;rw[List.nodup_append] at this;exact this.1
 obtain ⟨a,b,c,d⟩:=rD h D;refine ⟨fun n hd=>?_,fun n hd=>?_,?_⟩
 ·rcases hd with hd|⟨k,M,_⟩
  ·obtain ⟨x,H,rfl⟩:=List.mem_map.1 hd
   rw[a x H,J x H]
  cases M
 ·exact b n fun N=>hd (.inl N)
 rw[c,List.map_nil,List.append_nil];exact (List.reverse_perm _).nodup_iff.2 D
structure Ew (f:Fl) (m:Cm):Prop where
 cols:∀ x∈f.ins,bV x.cols=true
 names:fW f
 ranked:kC f
 sol:Ev f fun n=>m.lookup n
 keys:(m.map (·.1)).Nodup
theorem sS {f:Fl} {l:List Nat} (H:dO f l) (J:l.length=f.jobs.length) {n:Bs} (h:n∈aW f):gP f l n:=by
 unfold aW at h;rcases List.mem_append.1 h with h|h
 ·exact .inl h
 obtain ⟨j,M,I⟩:=List.mem_flatMap.1 h;obtain ⟨k,D,rfl⟩:=List.getElem_of_mem M;exact .inr ⟨k,k4 H.nodup H.lt J k D,by rw[ea D];exact I⟩
theorem lh {f:Fl} {m:Cm} (h:cN f= .ok m):Ew f m:=by
 obtain ⟨m0,l,Z,M,h3,h4⟩:=mG h;obtain ⟨N,hl⟩:=gN h3;have hn:(f.ins.map (·.name)).Nodup:=by
  have:=M.nodup;unfold aW at this;rw[List.nodup_append] at this;exact this.1
 obtain ⟨a,b,c,d⟩:=rD Z hn;have hA:=DD M (F:=fun n=>m0.lookup n) a Z;obtain ⟨q1,q2⟩:=om M l [] m0 m N hA.2.1 hA.2.2 h4;have I:∀ x∈f.ins,m.lookup x.name=some x.cols:=fun x J=>by rw[q1 _ (.inl (List.mem_map.2 ⟨x,J,rfl⟩)),a x J]
 have D:∀ j∈f.jobs,∃ cs,aK j (j.ins.map fun n=>(m.lookup n).getD [])= .ok cs∧∀ i (h:i<j.outs.length) (h':i<cs.length),m.lookup j.outs[i]=some cs[i]:=fun j U=>by
  obtain ⟨k,O,rfl⟩:=List.getElem_of_mem U;obtain ⟨cs,V,e2⟩:=q2 k (k4 N.nodup N.lt hl k O);rw[ea O] at V;have e2':∀ i (h:i<f.jobs[k].outs.length) (h':i<cs.length),m.lookup f.jobs[k].outs[i]=some cs[i]:=by
   have e3:=ea O;intro i h h';have:=e2 i (by rw[e3];exact h) h';simpa only[e3] using this
  exact ⟨cs,V,e2'⟩
 obtain ⟨m',h5,h6⟩:=lW (F:=fun n=>if n∈aW f then m.lookup n else none) M ⟨fun x J=>by
   show (if x.name∈aW f then m.lookup x.name else none)=some x.cols;rw[if_pos (by unfold aW;exact List.mem_append_left _ (List.mem_map.2 ⟨x,J,rfl⟩)),I x J],fun j U=>by
   obtain ⟨cs,V,e2⟩:=D j U;refine ⟨cs,?_,fun i hi hi'=>?_⟩
   ·rw[←V]
    congr 1
    exact List.map_congr_left fun n H=>by rw[if_pos (M.ins j U n H)]
   ·show (if j.outs[i]∈aW f then m.lookup j.outs[i] else none)=some cs[i]
    rw[if_pos (by unfold aW;exact List.mem_append_right _ (List.mem_flatMap.2 ⟨j,U,Fs hi⟩)),e2 i hi hi'],fun n H=>by
   show (if n∈aW f then m.lookup n else none)=none;rw[if_neg H]⟩ l [] m0 N (DD M (fun x J=>by
   show (if x.name∈aW f then m.lookup x.name else none)=some x.cols;rw[if_pos (by unfold aW;exact List.mem_append_left _ (List.mem_map.2 ⟨x,J,rfl⟩)),I x J]) Z)
 rw[h4] at h5;cases h5
 exact ⟨d,M,xQ N hl,⟨I,D,fun n H=>h6.2.1 n fun hd=>H (sR (fun k O=>N.lt k O) hd)⟩,h6.2.2⟩
theorem sT {f:Fl} (V:∀ x∈f.ins,bV x.cols=true) (h:fW f) (hr:kC f) {F:Bs→Option (List Cl)} (H:Ev f F):∃ m l,cN f= .ok m∧cM f= .ok l∧dO f l∧l.length=f.jobs.length∧(∀ n,m.lookup n=F n)∧(m.map (·.1)).Nodup:=by
 obtain ⟨Z,N⟩:=qu f.ins [] V;obtain ⟨l,M⟩:=sQ h.outs hr;obtain ⟨D,O⟩:=gN M;obtain ⟨m,h4,I⟩:=lW h H l [] Z D (DD h H.ins N);refine ⟨m,l,?_,M,D,O,fun n=>?_,I.2.2⟩
 ·unfold cN
  rw[N];simp only[bind,Except.bind];rw[oi.2 h];simp only;rw[M];exact h4
 by_cases J:n∈aW f
 ·exact I.1 n (sS D O J)
 rw[I.2.1 n (fun hd=>J (sR (fun k U=>D.lt k U) hd)),H.none n J]
theorem qw {a b:List Jb} (h:a.Perm b):(a.flatMap (·.outs)).Perm (b.flatMap (·.outs)):=h.flatMap_right _
theorem uN {f g:Fl} {m:Cm} (h:cN f= .ok m) (M:g.ins=f.ins) (Z:g.outs=f.outs) (D:g.jobs.Perm f.jobs) :
  ∃ H l,cN g= .ok H∧cM g= .ok l∧dO g l∧l.length=g.jobs.length∧(∀ n,H.lookup n=m.lookup n)∧(H.map (·.1)).Nodup:=by
 obtain ⟨h1,N,h3,V,h5⟩:=lh h;have U:(aW g).Perm (aW f):=by
  unfold aW;rw[M];exact (qw D).append_left _
 have O:∀ j,j∈g.jobs↔j∈f.jobs:=fun j=>D.mem_iff
 have hN:fW g:=⟨U.nodup_iff.2 N.nodup,fun j D n I=>U.mem_iff.2 (N.ins j ((O j).1 D) n I),fun x J=>U.mem_iff.2 (N.src x (Z ▸ J)),Z ▸ N.told⟩;obtain ⟨r,hr⟩:=h3;have hR:kC g:=⟨r,fun j D n I=>by
  rcases hr j ((O j).1 D) n I with h|⟨d,hd,h⟩
  ·exact .inl (M ▸ h)
  exact .inr ⟨d,(O d).2 hd,h⟩⟩
 have hS:Ev g fun n=>m.lookup n:=⟨fun x J=>V.ins x (M ▸ J),fun j D=>V.jobs j ((O j).1 D),fun n I=>V.none n fun hh=>I (U.mem_iff.2 hh)⟩
 obtain ⟨H,l,a,b,c,d,e,k⟩:=sT (fun x J=>h1 x (M ▸ J)) hN hR hS;exact ⟨H,l,a,b,c,d,e,k⟩
end
section
open Go.RowKit Go.BigFrame
attribute [local go_sem] ag ab ae af
attribute [local go_sem] KW.cell
def Ey (a:Ar):Value:= .agg #[FC (bs a.col),FH FI a.val.kind,FH FI a.val.num,FC (bs a.val.word)]
def eG:Option Nat→Int
 | some i=>(i:Int)
 | none=> -1
theorem sZ (l:List Cl) (nm:Bs):eg (fun c=>c.name==nm) l=eG (an l nm):=by
 unfold eg an eG;split<;>rename_i h<;>rw[h]
theorem uT (nm:Bs) (d:Cl) (b:Nat) (w:World) (h:w.cell? ⟨b,0,none⟩=some (FC (bs nm))) :
  Calls Tryz.prog 132 #[BM d,FE (some ⟨b,0,none⟩)] w fun e w'=>e=FF (.bool (d.name==nm))∧aa [] w w':=by
 have H:=Fq _ _ h;have hb':(w.alloc (FG #[FC (bs d.name),FH FI d.kind] 64)).cell? ⟨b,0,none⟩=some (FC (bs nm)):=((Fz [] w).alloc _).cell_of h (by simp);have D:aa [] w (w.alloc (FG #[FC (bs d.name),FH FI d.kind] 64)):=(Fz [] w).alloc _;have I:=Fk D;clear D;show Calls _ _ #[.agg #[FC (bs d.name),FH FI d.kind],FE (some ⟨b,0,none⟩)] w _;go_enter Tryz.func132,Tryz.ntmps132
 go_wp2;go_ret;exact ⟨rfl,I.out⟩
theorem bQ (l:List Cl) (nm:Bs) (A:Option Addr) (c:Nat) (w:World) (J:Rd w [] 2 A l.length (ai l)) (O:l.length≤4294967296) :
  Calls Tryz.prog 89 #[FD A l.length c,FC (bs nm)] w fun e w'=>e=FF (FH FI (eG (an l nm)))∧aa [] w w':=by
 have D:aa [] w (w.alloc (FG #[FC (bs nm)] 9)):=(Fz [] w).alloc _;have M:(w.alloc (FG #[FC (bs nm)] 9)).cell? ⟨w.heap.size,0,none⟩=some (FC (bs nm)):=(FA _ _ _).cell 0;have h:=iV 132 #[FE (some ⟨w.heap.size,0,none⟩)] (enters_of Tryz.func132 (by kernel_rfl) rfl) (fun c=>c.name==nm) l A c (w.alloc (FG #[FC (bs nm)] 9)) (J.keep D) O (fun d _ W q=>uT nm d _ W (q.cell_of M (by simp)));rw[sZ] at h;have H:=Fk h;have N:=Fk D;clear h D M J;generalize eG (an l nm)=r at *;go_enter Tryz.func89,Tryz.ntmps89
 go_wp2_with fail
 refine H.out.mono ?_;rintro e U ⟨rfl,I⟩;go_wp2;go_ret;exact ⟨rfl,N.out.trans I⟩
theorem Ez (b:Vl) (W:World):(binOp .neq 46 (.agg #[FH FI b.kind,FH FI b.num,FC (bs b.word)]) (.agg #[FH FI 0,FH FI 0,FC ⟨#[]⟩])).run Tryz.prog W= .ok (.bool (!decide (b=zV))) W:=Di b zV W
theorem oq (a:Ar) (l:List Cl) (A:Option Addr) (c:Nat) (w:World) (hA:Rd w [] 2 A l.length (ai l)) (hl:l.length≤4294967296) :
  Calls Tryz.prog 90 #[Ey a,FD A l.length c] w fun e w'=>e=FF (FH FI (dR a l))∧aa [] w w':=by
 obtain ⟨nm,v⟩:=a;show Calls _ _ #[.agg #[FC (bs nm),FH FI v.kind,FH FI v.num,FC (bs v.word)],FD A l.length c] w _;have a0:aa [] w (w.alloc (FG #[FC (bs nm),FH FI v.kind,FH FI v.num,FC (bs v.word)] 48)):=(Fz [] w).alloc _;have H:=Fk a0;have M:=Fk (fun W=>cp v W);have Z:=Fk (fun W (q:aa [] w W)=>bQ l nm A c W (hA.keep q) hl);have HA:=Fk hA;obtain ⟨R,hR⟩:∃ R,dR ⟨nm,v⟩ l=R:=⟨_,rfl⟩
 rw[hR];have HR:=Fk hR;clear a0 hA hR
 cases nm with
 | nil =>
  have D:Hid (R=if eO v then v.kind else 0):=Fk (by rw[←HR.out];unfold dR;rw[if_pos rfl]);clear HR
  cases hr:eO v with
  | false =>
   rw[hr] at M D;clear hr;go_enter Tryz.func90,Tryz.ntmps90
   go_wp2_with fail
   refine (M.out _).mono ?_;rintro e w2 ⟨rfl,h⟩;go_wp2;go_ret;exact ⟨by rw[D.out];rfl,H.out.trans h⟩
  | true =>
   rw[hr] at M D;clear hr;go_enter Tryz.func90,Tryz.ntmps90
   go_wp2_with fail
   refine (M.out _).mono ?_;rintro e w2 ⟨rfl,h⟩;have c1:=h.cell_of (p:=⟨w.heap.size,1,none⟩) (v:=FH FI v.kind) ((FA _ _ _).cell 1) (by simp);have I:=Fk (H.out.trans h);clear h;go_wp2;go_ret;exact ⟨by rw[D.out];rfl,I.out⟩
 | cons x t =>
  have J:R=match an l (x::t) with|none=>0|some k=>if v=zV then (l.getD k zC).kind else 0:=by
   rw[←HR.out];unfold dR;rw[if_neg (by simp)];cases an l (x::t)<;>rfl
  clear HR
  cases N:an l (x::t) with
  | none =>
   rw[N] at Z J;have D:Hid (R=0):=Fk J;clear J;go_enter Tryz.func90,Tryz.ntmps90
   go_wp2_with fail
   refine (Z.out _ H.out).mono ?_;rintro e w2 ⟨rfl,h⟩;have I:=Fk (H.out.trans h);clear h;show _;simp only[eG];go_wp2;go_ret;exact ⟨by rw[D.out];rfl,I.out⟩
  | some k =>
   rw[N] at Z J;have av:k<l.length:=(List.findIdx?_eq_some_iff_getElem.1 N).1;have aA:l.getD k zC=l[k]:=by rw[Fy,Fp av];rfl
   obtain ⟨b,o,a1,_,hb,ad⟩:=HA.out.open' (by omega) (by omega);subst a1;have d1:=ad (k*2+1) _ (aN l k av).2;rw[←Nat.add_assoc] at d1;have a4:((k:Int)<0)=False:=eq_false (by omega);have a3:(0:Int)≤(k:Int):=by omega
   have a2:(k:Int)<(l.length:Int):=by omega
   have hq:=Ez v;have O:R=if v=zV then (l.getD k zC).kind else 0:=J
   rw[aA] at O;have D:=Fk O;clear J O;generalize l[k]=cc at *;clear N ad aA;by_cases V:v=zV
   ·rw[decide_eq_true V] at hq
    have U:Hid (R=cc.kind):=Fk (by rw[D.out,if_pos V]);clear V D;go_enter Tryz.func90,Tryz.ntmps90
    go_wp2_with fail
    refine (Z.out _ H.out).mono ?_;rintro e w2 ⟨rfl,h⟩;simp only[eG];have c1:=h.cell_of (p:=⟨w.heap.size,1,none⟩) (v:=FH FI v.kind) ((FA _ _ _).cell 1) (by simp);have c2:=h.cell_of (p:=⟨w.heap.size,2,none⟩) (v:=FH FI v.num) ((FA _ _ _).cell 2) (by simp);have c3:=h.cell_of (p:=⟨w.heap.size,3,none⟩) (v:=FC (bs v.word)) ((FA _ _ _).cell 3) (by simp);have d2:=(H.out.trans h).cell_of d1 (by simp);have I:=Fk (H.out.trans h);clear h;go_wp2;go_ret;exact ⟨by rw[U.out];rfl,I.out⟩
   rw[decide_eq_false V] at hq;have U:Hid (R=0):=Fk (by rw[D.out,if_neg V]);clear V D;go_enter Tryz.func90,Tryz.ntmps90
   go_wp2_with fail
   refine (Z.out _ H.out).mono ?_;rintro e w2 ⟨rfl,h⟩;simp only[eG];have c1:=h.cell_of (p:=⟨w.heap.size,1,none⟩) (v:=FH FI v.kind) ((FA _ _ _).cell 1) (by simp);have c2:=h.cell_of (p:=⟨w.heap.size,2,none⟩) (v:=FH FI v.num) ((FA _ _ _).cell 2) (by simp);have c3:=h.cell_of (p:=⟨w.heap.size,3,none⟩) (v:=FC (bs v.word)) ((FA _ _ _).cell 3) (by simp);have I:=Fk (H.out.trans h);clear h;go_wp2;go_ret;exact ⟨by rw[U.out];rfl,I.out⟩
theorem dm (code:Int) (w:World):Calls Tryz.prog 57 #[FH FI code] w fun e w'=>e=FF (.tuple #[FH FI ((aw code).1:Int),FH FI ((aw code).2:Int)])∧w=w':=by
 obtain ⟨R,N⟩:∃ R,aw code=R:=⟨_,rfl⟩
 rw[N];have h:=Fk N;clear N;by_cases H:code=5
 ·subst H
  have D:Hid (R=(2,1)):=Fk (h.out.symm.trans (by decide));clear h;go_enter Tryz.func57,Tryz.ntmps57
  go_wp2;go_ret2;exact ⟨by rw[D.out];rfl,rfl⟩
 have t5:(code==5)=false:=by rw[beq_eq_false_iff_ne];exact H
 by_cases h7:code=7
 ·subst h7
  have D:Hid (R=(2,1)):=Fk (h.out.symm.trans (by decide));clear h;go_enter Tryz.func57,Tryz.ntmps57
  go_wp2;go_ret2;exact ⟨by rw[D.out];rfl,rfl⟩
 have t7:(code==7)=false:=by rw[beq_eq_false_iff_ne];exact h7
 by_cases M:code=9
 ·subst M
  have D:Hid (R=(1,2)):=Fk (h.out.symm.trans (by decide));clear h;go_enter Tryz.func57,Tryz.ntmps57
  go_wp2;go_ret2;exact ⟨by rw[D.out];rfl,rfl⟩
 have t9:(code==9)=false:=by rw[beq_eq_false_iff_ne];exact M
 by_cases J:code=1
 ·subst J
  have D:Hid (R=(1,1)):=Fk (h.out.symm.trans (by decide));clear h;go_enter Tryz.func57,Tryz.ntmps57
  go_wp2;go_ret2;exact ⟨by rw[D.out];rfl,rfl⟩
 have t1:(code==1)=false:=by rw[beq_eq_false_iff_ne];exact J
 by_cases I:code=2
 ·subst I
  have D:Hid (R=(1,1)):=Fk (h.out.symm.trans (by decide));clear h;go_enter Tryz.func57,Tryz.ntmps57
  go_wp2;go_ret2;exact ⟨by rw[D.out];rfl,rfl⟩
 have t2:(code==2)=false:=by rw[beq_eq_false_iff_ne];exact I
 by_cases O:code=3
 ·subst O
  have D:Hid (R=(1,1)):=Fk (h.out.symm.trans (by decide));clear h;go_enter Tryz.func57,Tryz.ntmps57
  go_wp2;go_ret2;exact ⟨by rw[D.out];rfl,rfl⟩
 have t3:(code==3)=false:=by rw[beq_eq_false_iff_ne];exact O
 by_cases Z:code=4
 ·subst Z
  have D:Hid (R=(1,1)):=Fk (h.out.symm.trans (by decide));clear h;go_enter Tryz.func57,Tryz.ntmps57
  go_wp2;go_ret2;exact ⟨by rw[D.out];rfl,rfl⟩
 have t4:(code==4)=false:=by rw[beq_eq_false_iff_ne];exact Z
 by_cases V:code=6
 ·subst V
  have D:Hid (R=(1,1)):=Fk (h.out.symm.trans (by decide));clear h;go_enter Tryz.func57,Tryz.ntmps57
  go_wp2;go_ret2;exact ⟨by rw[D.out];rfl,rfl⟩
 have t6:(code==6)=false:=by rw[beq_eq_false_iff_ne];exact V
 by_cases U:code=8
 ·subst U
  have D:Hid (R=(1,1)):=Fk (h.out.symm.trans (by decide));clear h;go_enter Tryz.func57,Tryz.ntmps57
  go_wp2;go_ret2;exact ⟨by rw[D.out];rfl,rfl⟩
 have t8:(code==8)=false:=by rw[beq_eq_false_iff_ne];exact U
 have D:Hid (R=(0,0)):=Fk (h.out.symm.trans (by unfold aw;rw[if_neg (by omega),if_neg (by omega),if_neg (by omega)]));clear h H h7 M J I O Z V U;go_enter Tryz.func57,Tryz.ntmps57
 go_wp2;go_ret2;exact ⟨by rw[D.out];rfl,rfl⟩
def eH (j:Jb) (D:Option Addr) (h:Nat) (H:Option Addr) (I J:Nat) (M:Option Addr) (cc:Nat):Value :=
 .agg #[FH FI j.at_,FH FI j.code,FD D j.outs.length h,FD H I J,FD M j.cols.length cc,FC (bs j.op),FC (bs j.left.col),FH FI j.left.val.kind,FH FI j.left.val.num,FC (bs j.left.val.word),FC (bs j.right.col),FH FI j.right.val.kind,FH FI j.right.val.num,FC (bs j.right.val.word),FH FI j.retry]
structure gT (w:World) (j:Jb) (Ao:Option Addr) (co:Nat) (Ac:Option Addr) (cc:Nat):Prop where
 outs:Rd w [] 1 Ao j.outs.length (strs j.outs)
 oc:j.outs.length≤co
 cols:Rd w [] 1 Ac j.cols.length (strs j.cols)
 cc:j.cols.length≤cc
 lo:j.outs.length≤4294967296
 lc:j.cols.length≤4294967296
theorem gT.quiet {w w':World} {j:Jb} {H:Option Addr} {D:Nat} {J:Option Addr} {cc:Nat} (h:gT w j H D J cc) (I:aa [] w w'):gT w' j H D J cc:=⟨h.outs.keep I,h.oc,h.cols.keep I,h.cc,h.lo,h.lc⟩
def gB (w:World) (u:Value) (l:List Cl):Prop:=∃ A c,u=FD A l.length c∧l.length≤c∧Rd w [] 2 A l.length (ai l)
def aU (w:World) (A:Option Addr) (D:List (List Cl)):Prop :=
 ∃ us:List Value,us.length=D.length∧Rd w [] 1 A D.length us∧∀ i (h:i<us.length) (h':i<D.length),gB w us[i] D[i]
theorem gB.keep {w w':World} {u:Value} {l:List Cl} (h:gB w u l) (D:aa [] w w'):gB w' u l:=by
 obtain ⟨A,c,e,H,h⟩:=h;exact ⟨A,c,e,H,h.keep D⟩
theorem aU.keep {w w':World} {A:Option Addr} {D:List (List Cl)} (h:aU w A D) (H:aa [] w w'):aU w' A D:=by
 obtain ⟨us,M,J,I⟩:=h;exact ⟨us,M,J.keep H,fun i a b=>(I i a b).keep H⟩
def aP (R:Except Int (List (List Cl))) (e:Ending) (w':World):Prop:=match R with
 | .error x=>e=FF (.tuple #[FD none 0 0,.iface 37 (FH FI x)])
 | .ok out=>∃ B d,e=FF (.tuple #[FD B out.length d,.nilIface])∧out.length≤d∧aU w' B out
theorem eI {w:World} {l:List Cl} {A:Option Addr} {c:Nat} (I:Rd w [] 2 A l.length (ai l)) (J:l.length≤c) (t:TypeId):aU (w.alloc (FG #[FD A l.length c] t)) (some ⟨w.heap.size,0,none⟩) [l]:=by
 have H:aa [] w (w.alloc (FG #[FD A l.length c] t)):=(Fz _ _).alloc _;refine ⟨[FD A l.length c],rfl,⟨rfl,fun _=>⟨_,rfl,by simp,(FA _ _ _).lt,fun j u M=>?_⟩⟩,fun i h h'=>?_⟩
 ·rw[cI,Nat.zero_add]
  have:=(FA w t #[FD A l.length c]).cell j;rw[this];simpa using M
 have D:i=0:=by simp at h;omega
 subst D;exact ⟨A,c,rfl,J,I.keep H⟩
theorem li (l:List Bs) (x:Bs) (A:Option Addr) (c:Nat) (w:World) (I:Rd w [] 1 A l.length (strs l)) (U:l.length≤4294967296) :
  Calls Tryz.prog 34 #[FD A l.length c,FC (bs x)] w fun e w'=>e=FF (.bool (decide (x∈l)))∧w=w':=by
 by_cases M:l.length=0
 ·have D:l=[]:=List.eq_nil_of_length_eq_zero M
  subst D;refine (Tryz.slices_Contains_string_empty A c (bs x) w).mono ?_;rintro e w' ⟨rfl,rfl⟩;exact ⟨rfl,rfl⟩
 obtain ⟨b,o,rfl,_,_,J⟩:=I.open' (by omega) (by decide);refine (Tryz.slices_Contains_string b o l.length c (l.map bs) (bs x) w (by simp) (by omega) (fun j O=>?_)).mono ?_
 ·have hj':j<l.length:=by simpa using O
  rw[J j _ (cw l j hj'),Fy,List.getElem?_map,Fp hj'];rfl
 rintro e w' ⟨rfl,rfl⟩;refine ⟨congrArg (fun b=>Ending.returned (.bool b)) ?_,rfl⟩;rw[List.take_of_length_le (by simp)];rw[Bool.eq_iff_iff,Lib.containsS_iff,decide_eq_true_iff,List.mem_map];constructor
 ·rintro ⟨y,N,H⟩;rw[←zE H];exact N
 intro h;exact ⟨x,h,rfl⟩
theorem B7 (j:Jb) (a:List Cl) (Ao:Option Addr) (co:Nat) (Ai:Option Addr) (ni ci:Nat) (Ac:Option Addr) (cc:Nat) (A:Option Addr) (c:Nat) (w:World) (hJ:gT w j Ao co Ac cc) (hA:Rd w [] 2 A a.length (ai a)) (hc:a.length≤c) (hl:a.length≤4294967296) :
  Calls Tryz.prog 59 #[eH j Ao co Ai ni ci Ac cc,FD A a.length c] w fun e w'=>aP (jS j a) e w'∧aa [] w w':=by
 have bk:=Fk (fun (nm:Bs) W (q:aa [] w W)=>bQ a nm A c W (hA.keep q) hl);have ba:=Fk (fun W (q:aa [] w W)=>oq j.left a A c W (hA.keep q) hl);have bb:=Fk (fun W (q:aa [] w W)=>oq j.right a A c W (hA.keep q) hl);have HA:=Fk hA;have HJ:=Fk hJ.cols;obtain ⟨R,hR⟩:∃ R,jS j a=R:=⟨_,rfl⟩
 rw[hR]
 have HR:Hid (R=if j.cols.length≠1∨¬(j.op=[43]∨j.op=[45]∨j.op=[42]) then .error 1 else match an a (j.cols.headD []) with
  | none=> .error 7
  | some k=>if (a.getD k zC).kind≠1∨dR j.left a≠1∨dR j.right a≠1 then .error 13 else .ok [a]):=Fk (by
  rw[←hR];unfold jS;split
  ·rfl
  cases an a (j.cols.headD [])<;>rfl)
 clear hR hJ hA;generalize a5:dR j.left a=KL at *;generalize bo:dR j.right a=KR at *;clear a5 bo;obtain ⟨bv,code,outs,ins,cols,op,⟨lc,lk,ln,lw⟩,⟨rc,rk,rn,a6⟩,a8⟩:=j;simp only at HR HJ;show Calls _ _ #[.agg #[FH FI bv,FH FI code,FD Ao outs.length co,FD Ai ni ci,FD Ac cols.length cc,FC (bs op),FC (bs lc),FH FI lk,FH FI ln,FC (bs lw),FC (bs rc),FH FI rk,FH FI rn,FC (bs a6),FH FI a8],FD A a.length c] w _;have HKL':Hid (∀ W,aa [] w W→Calls Tryz.prog 90 #[.agg #[FC (bs lc),FH FI lk,FH FI ln,FC (bs lw)],FD A a.length c] W fun e W'=>e=FF (FH FI KL)∧aa [] W W'):=ba;have HKR':Hid (∀ W,aa [] w W→Calls Tryz.prog 90 #[.agg #[FC (bs rc),FH FI rk,FH FI rn,FC (bs a6)],FD A a.length c] W fun e W'=>e=FF (FH FI KR)∧aa [] W W'):=bb;clear ba bb;by_cases h1:cols.length=1
 ·have t0:((cols.length:Int) != 1)=false:=by rw[h1];rfl
  obtain ⟨nm,bt⟩:∃ nm,cols=[nm]:=by
   match cols,h1 with
   | [nm],_=>exact ⟨nm,rfl⟩
  subst bt;obtain ⟨b,o,rfl,_,hb,a0⟩:=HJ.out.open' (by simp) (by decide);have d0:w.cell? ⟨b,o,none⟩=some (FC (bs nm)):=a0 0 _ rfl;have HF:=Fk (bk.out nm);clear a0 bk h1 HJ;by_cases N:op=[43]∨op=[45]∨op=[42]
  ·have M:Hid (R=match an a nm with
    | none=> .error 7
    | some k=>if (a.getD k zC).kind≠1∨KL≠1∨KR≠1 then .error 13 else .ok [a]):=Fk (HR.out.trans (by
     rw[if_neg (by
      rintro (h|h)
      ·exact h rfl
      exact h N)]
     show (match an a nm with|none=>_|some k=>_)=_;cases an a nm<;>rfl))
   clear HR;have br:∃ b1 b2 b3,(op==[43])=b1∧(op==[45])=b2∧(op==[42])=b3∧(b1=true∨b2=true∨b3=true):=⟨_,_,_,rfl,rfl,rfl,by simpa using N⟩
   obtain ⟨b1,b2,b3,t1,t2,t3,bj⟩:=br;clear N;have bm:(b1=true)∨(b1=false∧b2=true)∨(b1=false∧b2=false∧b3=true):=by
    cases b1<;>cases b2<;>cases b3<;>simp at bj ⊢
   clear bj;rcases bm with rfl|⟨rfl,rfl⟩|⟨rfl,rfl,rfl⟩
   all_goals
    cases aA:an a nm with
    | none =>
     rw[aA] at HF M;have J:Hid (R= .error 7):=M;clear M aA;go_enter Tryz.func59,Tryz.ntmps59
     go_wp2_with fail
     refine (HF.out _ ((Fz _ _).alloc _)).mono ?_;rintro e w2 ⟨rfl,D⟩;simp only[eG];go_wp2;go_ret2;exact ⟨by rw[J.out];rfl,((Fz _ _).alloc _).trans D⟩
    | some k =>
     rw[aA] at HF M;have a5:k<a.length:=(List.findIdx?_eq_some_iff_getElem.1 aA).1;have bc:a.getD k zC=a[k]:=by rw[Fy,Fp a5];rfl
     obtain ⟨b4,o4,bz,_,b0,a0⟩:=HA.out.open' (by omega) (by omega);subst bz;have d1:=a0 (k*2+1) _ (aN a k a5).2;rw[←Nat.add_assoc] at d1;have a4:=Fk d1;have b5:((k:Int)<0)=False:=eq_false (by omega);have bX:(0:Int)≤(k:Int):=by omega
     have bZ:(k:Int)<(a.length:Int):=by omega
     have be:R=if a[k].kind≠1∨KL≠1∨KR≠1 then .error 13 else .ok [a]:=by rw[←bc];exact M.out
     have J:=Fk be;clear be M aA bc a0;generalize a[k].kind=kk at *;clear d1;by_cases O:kk=1
     ·have s1:(kk != 1)=false:=by rw[O];rfl
      by_cases U:KL=1
      ·have s2:(KL != 1)=false:=by rw[U];rfl
       by_cases ad:KR=1
       ·have s3:(KR != 1)=false:=by rw[ad];rfl
        have Z:Hid (R= .ok [a]):=Fk (by rw[J.out,if_neg (by rintro (h|h|h);exact h O;exact h U;exact h ad)]);clear J O U ad;go_enter Tryz.func59,Tryz.ntmps59
        go_wp2_with fail
        refine (HF.out _ ((Fz _ _).alloc _)).mono ?_;rintro e w2 ⟨rfl,D⟩;simp only[eG];have H:=Fk ((((Fz [] w).alloc _).trans D));have x1:=H.out.cell_of a4.out (by simp);have y6:=D.cell_of (p:=⟨w.heap.size,6,none⟩) (v:=FC (bs lc)) ((FA _ _ _).cell 6) (by simp);have y7:=D.cell_of (p:=⟨w.heap.size,7,none⟩) (v:=FH FI lk) ((FA _ _ _).cell 7) (by simp);have y8:=D.cell_of (p:=⟨w.heap.size,8,none⟩) (v:=FH FI ln) ((FA _ _ _).cell 8) (by simp);have y9:=D.cell_of (p:=⟨w.heap.size,9,none⟩) (v:=FC (bs lw)) ((FA _ _ _).cell 9) (by simp);have a3:=D.cell_of (p:=⟨w.heap.size,10,none⟩) (v:=FC (bs rc)) ((FA _ _ _).cell 10) (by simp);have a2:=D.cell_of (p:=⟨w.heap.size,11,none⟩) (v:=FH FI rk) ((FA _ _ _).cell 11) (by simp);have a1:=D.cell_of (p:=⟨w.heap.size,12,none⟩) (v:=FH FI rn) ((FA _ _ _).cell 12) (by simp);have av:=D.cell_of (p:=⟨w.heap.size,13,none⟩) (v:=FC (bs a6)) ((FA _ _ _).cell 13) (by simp);go_wp2_with fail
        refine (HKL'.out _ H.out).mono ?_;rintro e w3 ⟨rfl,I⟩;have V:=Fk (H.out.trans I);replace a3:=I.cell_of a3 (by simp);replace a2:=I.cell_of a2 (by simp);replace a1:=I.cell_of a1 (by simp);replace av:=I.cell_of av (by simp);go_wp2_with fail
        refine (HKR'.out _ V.out).mono ?_;rintro e w4 ⟨rfl,a9⟩;have a7:=Fk (V.out.trans a9);have bq:=Fk (eI (HA.out.keep a7.out) hc 51);go_wp2;go_ret2;exact ⟨by rw[Z.out];exact ⟨_,_,rfl,Fm _,bq.out⟩,a7.out.alloc _⟩
       have s3:(KR != 1)=true:=by rw[bne_iff_ne];exact ad
       have Z:Hid (R= .error 13):=Fk (by rw[J.out,if_pos (.inr (.inr ad))]);clear J O U ad;go_enter Tryz.func59,Tryz.ntmps59
       go_wp2_with fail
       refine (HF.out _ ((Fz _ _).alloc _)).mono ?_;rintro e w2 ⟨rfl,D⟩;simp only[eG];have H:=Fk ((((Fz [] w).alloc _).trans D));have x1:=H.out.cell_of a4.out (by simp);have y6:=D.cell_of (p:=⟨w.heap.size,6,none⟩) (v:=FC (bs lc)) ((FA _ _ _).cell 6) (by simp);have y7:=D.cell_of (p:=⟨w.heap.size,7,none⟩) (v:=FH FI lk) ((FA _ _ _).cell 7) (by simp);have y8:=D.cell_of (p:=⟨w.heap.size,8,none⟩) (v:=FH FI ln) ((FA _ _ _).cell 8) (by simp);have y9:=D.cell_of (p:=⟨w.heap.size,9,none⟩) (v:=FC (bs lw)) ((FA _ _ _).cell 9) (by simp);have a3:=D.cell_of (p:=⟨w.heap.size,10,none⟩) (v:=FC (bs rc)) ((FA _ _ _).cell 10) (by simp);have a2:=D.cell_of (p:=⟨w.heap.size,11,none⟩) (v:=FH FI rk) ((FA _ _ _).cell 11) (by simp);have a1:=D.cell_of (p:=⟨w.heap.size,12,none⟩) (v:=FH FI rn) ((FA _ _ _).cell 12) (by simp);have av:=D.cell_of (p:=⟨w.heap.size,13,none⟩) (v:=FC (bs a6)) ((FA _ _ _).cell 13) (by simp);go_wp2_with fail
       refine (HKL'.out _ H.out).mono ?_;rintro e w3 ⟨rfl,I⟩;have V:=Fk (H.out.trans I);replace a3:=I.cell_of a3 (by simp);replace a2:=I.cell_of a2 (by simp);replace a1:=I.cell_of a1 (by simp);replace av:=I.cell_of av (by simp);go_wp2_with fail
       refine (HKR'.out _ V.out).mono ?_;rintro e w4 ⟨rfl,a9⟩;have a7:=Fk (V.out.trans a9);go_wp2;go_ret2;exact ⟨by rw[Z.out];rfl,a7.out⟩
      have s2:(KL != 1)=true:=by rw[bne_iff_ne];exact U
      have Z:Hid (R= .error 13):=Fk (by rw[J.out,if_pos (.inr (.inl U))]);clear J O U;go_enter Tryz.func59,Tryz.ntmps59
      go_wp2_with fail
      refine (HF.out _ ((Fz _ _).alloc _)).mono ?_;rintro e w2 ⟨rfl,D⟩;simp only[eG];have H:=Fk ((((Fz [] w).alloc _).trans D));have x1:=H.out.cell_of a4.out (by simp);have y6:=D.cell_of (p:=⟨w.heap.size,6,none⟩) (v:=FC (bs lc)) ((FA _ _ _).cell 6) (by simp);have y7:=D.cell_of (p:=⟨w.heap.size,7,none⟩) (v:=FH FI lk) ((FA _ _ _).cell 7) (by simp);have y8:=D.cell_of (p:=⟨w.heap.size,8,none⟩) (v:=FH FI ln) ((FA _ _ _).cell 8) (by simp);have y9:=D.cell_of (p:=⟨w.heap.size,9,none⟩) (v:=FC (bs lw)) ((FA _ _ _).cell 9) (by simp);go_wp2_with fail
      refine (HKL'.out _ H.out).mono ?_;rintro e w3 ⟨rfl,I⟩;have V:=Fk (H.out.trans I);go_wp2;go_ret2;exact ⟨by rw[Z.out];rfl,V.out⟩
     have s1:(kk != 1)=true:=by rw[bne_iff_ne];exact O
     have Z:Hid (R= .error 13):=Fk (by rw[J.out,if_pos (.inl O)]);clear J O;go_enter Tryz.func59,Tryz.ntmps59
     go_wp2_with fail
     refine (HF.out _ ((Fz _ _).alloc _)).mono ?_;rintro e w2 ⟨rfl,D⟩;simp only[eG];have H:=Fk ((((Fz [] w).alloc _).trans D));have x1:=H.out.cell_of a4.out (by simp);go_wp2;go_ret2;exact ⟨by rw[Z.out];rfl,H.out⟩
  have M:Hid (R= .error 1):=Fk (by rw[HR.out,if_pos (.inr N)]);have t1:(op==[43])=false:=by rw[beq_eq_false_iff_ne];exact fun h=>N (.inl h)
  have t2:(op==[45])=false:=by rw[beq_eq_false_iff_ne];exact fun h=>N (.inr (.inl h))
  have t3:(op==[42])=false:=by rw[beq_eq_false_iff_ne];exact fun h=>N (.inr (.inr h))
  clear HR N;go_enter Tryz.func59,Tryz.ntmps59
  go_wp2;go_ret2;exact ⟨by rw[M.out];rfl,(Fz _ _).alloc _⟩
 have t0:((cols.length:Int) != 1)=true:=by rw[bne_iff_ne];omega
 have M:Hid (R= .error 1):=Fk (by rw[HR.out,if_pos (.inl h1)]);clear HR h1;go_enter Tryz.func59,Tryz.ntmps59
 go_wp2;go_ret2;exact ⟨by rw[M.out];rfl,(Fz _ _).alloc _⟩
end
section
open Go.RowKit Go.BigFrame
attribute [local go_sem] ag ab ae af
theorem qz (x y:Nat) (h:x*y<18446744073709551616) (H:x<18446744073709551616) (D:y<18446744073709551616) (w:World):Calls Tryz.prog 133 #[.int .u64 (x:Int),.int .u64 (y:Int)] w fun e w'=>e=FF (.tuple #[.int .u64 0,.int .u64 ((x*y:Nat):Int)])∧w=w':=by
 refine (Tryz.bits_Mul x y H D w).mono ?_;rintro e w' ⟨rfl,rfl⟩;rw[Nat.div_eq_of_lt h,Nat.mod_eq_of_lt h];exact ⟨rfl,rfl⟩
theorem EA (w:World):Calls Tryz.prog 133 #[.int .u64 1,.int .u64 1] w fun e w'=>e=FF (.tuple #[.int .u64 0,.int .u64 1])∧w=w':=qz 1 1 (by omega) (by omega) (by omega) w
theorem EB (w:World):Calls Tryz.prog 133 #[.int .u64 1,.int .u64 2] w fun e w'=>e=FF (.tuple #[.int .u64 0,.int .u64 2])∧w=w':=qz 1 2 (by omega) (by omega) (by omega) w
theorem uU (B:Nat) (A:Option Addr) (n c:Nat) (w:World) (M:w.cell? ⟨B,0,none⟩=some (FD A n c)) :
  Calls Tryz.prog 91 #[FD (some ⟨B,0,none⟩) 1 1,FH FI 1] w fun e w'=>(∃ g,e=FF (FD (some ⟨g,0,none⟩) 1 1)∧w'.cell? ⟨g,0,none⟩=some (FD A n c))∧aa [] w w':=by
 have O:=Fq _ _ M;have U:∀ w:World,(Instr.makeSlice 80 (FH FI 1) (FH FI 1)).run Tryz.prog w= .ok (FD (some ⟨w.heap.size,0,none⟩) 1 1) (w.alloc (FG #[FD none 0 0] 51)):=fun _=>by kernel_rfl
 go_enter Tryz.func91,Tryz.ntmps91
 go_wp2_with fail
 refine (EA _).mono ?_;rintro e Z ⟨rfl,rfl⟩;have H:Hid (∀ (j:Nat) (v:Value),[Value.slice A n c][j]? = some v→(w.alloc (FG #[FD none 0 0] 51)).cell? ((⟨B,0,none⟩:Addr).add j)=some v):=Fk (fun j v N=>by
  obtain rfl:j=0:=by
   have:=(List.getElem?_eq_some_iff.1 N).1;simpa using this
  obtain rfl:Value.slice A n c=v:=by simpa using N
  rw[cI];exact ((Fz [] w).alloc _).cell_of M (by simp))
 go_wp2_with ((refine wpList_copy_splice rfl (.tmp 31) (.tmp 32) 80 80 rfl 51 Tryz.underlying80 (by kernel_rfl) (some ⟨w.heap.size,0,none⟩) (some ⟨B,0,none⟩) 1 1 1 1 rfl rfl w.heap.size 0 [FD none 0 0] 51 (heap_alloc_new _ _) [FD A n c] rfl (fun _=>⟨rfl,_,rfl,H.out⟩) (by simp) (by simp[Value.oneCell']) w.heap.size w ((Below.refl _ _).alloc (Fm _) _) (Fm _) ?_);intro V I h)
 have J:=Fk h;clear h;go_wp2;refine wp_loop_rounds 1 ?_;rw[rounds_succ];go_wp2;go_ret;have D:ao V w.heap.size 51 #[FD A n c]:=I.out;exact ⟨⟨_,rfl,D.cell 0⟩,aa.of_below J.out⟩
theorem uV (B:Nat) (A:Option Addr) (n c:Nat) (w:World) (hb:w.cell? ⟨B,0,none⟩=some (FD A n c)) :
  Calls Tryz.prog 91 #[FD (some ⟨B,0,none⟩) 1 1,FH FI 2] w fun e w'=>(∃ g,e=FF (FD (some ⟨g,0,none⟩) 2 2)∧w'.cell? ⟨g,0,none⟩=some (FD A n c)∧w'.cell? ⟨g,1,none⟩=some (FD A n c))∧aa [] w w':=by
 have a0:=Fq _ _ hb;have a1:∀ w:World,(Instr.makeSlice 80 (FH FI 2) (FH FI 2)).run Tryz.prog w= .ok (FD (some ⟨w.heap.size,0,none⟩) 2 2) (w.alloc (FG #[FD none 0 0,FD none 0 0] 51)):=fun _=>by kernel_rfl
 go_enter Tryz.func91,Tryz.ntmps91
 go_wp2_with fail
 refine (EB _).mono ?_;rintro e w2 ⟨rfl,rfl⟩;have Z:Hid (∀ (j:Nat) (v:Value),[Value.slice A n c][j]? = some v→(w.alloc (FG #[FD none 0 0,FD none 0 0] 51)).cell? ((⟨B,0,none⟩:Addr).add j)=some v):=Fk (fun j v N=>by
  obtain rfl:j=0:=by
   have:=(List.getElem?_eq_some_iff.1 N).1;simpa using this
  obtain rfl:Value.slice A n c=v:=by simpa using N
  rw[cI];exact ((Fz [] w).alloc _).cell_of hb (by simp))
 go_wp2_with ((refine wpList_copy_splice rfl (.tmp 31) (.tmp 32) 80 80 rfl 51 Tryz.underlying80 (by kernel_rfl) (some ⟨w.heap.size,0,none⟩) (some ⟨B,0,none⟩) 2 2 1 1 rfl rfl w.heap.size 0 [FD none 0 0,FD none 0 0] 51 (heap_alloc_new _ _) [FD A n c] rfl (fun _=>⟨rfl,_,rfl,Z.out⟩) (by simp) (by simp[Value.oneCell']) w.heap.size w ((Below.refl _ _).alloc (Fm _) _) (Fm _) ?_);intro U J M)
 have I:=Fk M;clear M;go_wp2;refine wp_loop_rounds 2 ?_;rw[rounds_succ];go_wp2;have HG:Hid (U.drew.heap[w.heap.size]? = some (FG [FD A n c,FD none 0 0].toArray 51 (0,0))):=Fk J.out;have av:Hid (∀ (j:Nat) (v:Value),[Value.slice A n c][j]? = some v→U.drew.cell? ((⟨w.heap.size,0,none⟩:Addr).add j)=some v):=Fk (fun j v N=>by
  obtain rfl:j=0:=by
   have:=(List.getElem?_eq_some_iff.1 N).1;simpa using this
  obtain rfl:Value.slice A n c=v:=by simpa using N
  have h:ao U.drew w.heap.size 51 #[FD A n c,FD none 0 0]:=HG.out;exact h.cell 0)
 clear J;generalize hg:w.heap.size=g at *;have ad:=Fk hg;clear hg;go_region_law ((with_reducible refine step_copy_splice rfl (.tmp 41) (.tmp 44) 80 80 (by rfl) 51 Tryz.underlying80 (by kernel_rfl) (some ⟨g,1,none⟩) (some ⟨g,0,none⟩) 1 1 1 2 (by go_simp) (by go_simp) g 1 [FD A n c,FD none 0 0] 51 HG.out [FD A n c] rfl (fun _=>⟨rfl,_,rfl,av.out⟩) (by simp) (by simp[Value.oneCell']) g _ (Below.refl _ _) (Fm _) ?_;intro w4 V O))
 have H:=Fk O;clear O;go_wp2;rw[rounds_succ];go_wp2;go_ret;have h:ao w4 g 51 #[FD A n c,FD A n c]:=V.out;have a2:=ad.out;have D:aa [] w U:=⟨I.out.os,I.out.output,I.out.size,fun k hk _=>I.out.block k (by omega)⟩;have aA:aa [] w w4:=⟨H.out.os.trans D.os,H.out.output.trans D.output,Ft D.size H.out.size,fun k hk _=>(H.out.block k (by omega)).trans (D.block k hk (by simp))⟩;exact ⟨⟨g,rfl,h.cell 0,h.cell 1⟩,aA⟩
end
section
open Go.RowKit Go.BigFrame
attribute [local go_sem] ag ab ae af
attribute [local go_sem] KW.cell
structure rH (w:World):Prop where
 cmp:∃ A c,w.cell? ⟨1,0,none⟩=some (FD A 6 c)∧Rd w [] 1 A 6 (strs compares)
theorem rH.quiet {w w':World} (h:rH w) (D:aa [] w w'):rH w':=⟨by
 obtain ⟨A,c,I,H⟩:=h.cmp;exact ⟨A,c,D.cell_of I (by simp),H.keep D⟩⟩
theorem qA {w:World} {l:List Cl} {A:Option Addr} {c g n:Nat} (J:Rd w [] 2 A l.length (ai l)) (M:l.length≤c) (H:∀ j,j<n→w.cell? ⟨g,j,none⟩=some (FD A l.length c)):aU w (some ⟨g,0,none⟩) (List.replicate n l):=by
 refine ⟨List.replicate n (FD A l.length c),by simp,⟨by simp,fun I=>⟨_,rfl,by simp,?_,fun j u D=>?_⟩⟩,fun i h h'=>?_⟩
 ·exact Fq _ _ (H 0 (by simpa using I))
 ·rw[cI,Nat.zero_add]
  rw[List.getElem?_replicate] at D;split at D
  ·rename_i N
   rw[H j N];exact D
  cases D
 rw[List.getElem_replicate,List.getElem_replicate];exact ⟨A,c,rfl,M,J⟩
theorem rI (j:Jb) (a:List Cl) (Ao:Option Addr) (co:Nat) (Ai:Option Addr) (ni ci:Nat) (Ac:Option Addr) (cc:Nat) (A:Option Addr) (c:Nat) (w:World) (hE:rH w) (hA:Rd w [] 2 A a.length (ai a)) (hc:a.length≤c) (hl:a.length≤4294967296) :
  Calls Tryz.prog 58 #[eH j Ao co Ai ni ci Ac cc,FD A a.length c] w fun e w'=>aP (aX j a) e w'∧aa [] w w':=by
 have bq:=Fk (fun (nm:Bs) W (q:aa [] w W)=>bQ a nm A c W (hA.keep q) hl);have ba:=Fk (fun W (q:aa [] w W)=>oq j.right a A c W (hA.keep q) hl);have HA:=Fk hA;obtain ⟨Ag,cg,b6,bo⟩:=hE.cmp;have a8:=Fk (fun W (q:aa [] w W)=>li compares j.op Ag cg W (bo.keep q) (by decide));obtain ⟨R,hR⟩:∃ R,aX j a=R:=⟨_,rfl⟩
 rw[hR];have HR:Hid (R=if j.op∉compares∨j.left.col=[] then .error 1
  else match an a j.left.col with
   | none=> .error 7
   | some k=>if dR j.right a≠(a.getD k zC).kind then .error 13 else .ok (List.replicate (if j.code=9 then 2 else 1) a)):=Fk (by
  rw[←hR];unfold aX;split
  ·rfl
  cases an a j.left.col<;>rfl)
 clear hR hA bo hE;generalize bz:dR j.right a=KR at *;clear bz;obtain ⟨a4,code,outs,ins,cols,op,⟨lc,lk,ln,lw⟩,⟨rc,rk,rn,Z⟩,M⟩:=j;simp only at HR;have HKR':Hid (∀ W,aa [] w W→Calls Tryz.prog 90 #[.agg #[FC (bs rc),FH FI rk,FH FI rn,FC (bs Z)],FD A a.length c] W fun e W'=>e=FF (FH FI KR)∧aa [] W W'):=ba;have HCT':Hid (∀ W,aa [] w W→Calls Tryz.prog 34 #[FD Ag 6 cg,FC (bs op)] W fun e w'=>e=FF (.bool (decide (op∈compares)))∧W=w'):=a8;clear ba a8;have H:Hid (aa [] w (w.alloc (FG #[FH FI a4,FH FI code,FD Ao outs.length co,FD Ai ni ci,FD Ac cols.length cc,FC (bs op),FC (bs lc),FH FI lk,FH FI ln,FC (bs lw),FC (bs rc),FH FI rk,FH FI rn,FC (bs Z),FH FI M] 50))):=Fk ((Fz _ _).alloc _);have b5:=Fk (FA w 50 #[FH FI a4,FH FI code,FD Ao outs.length co,FD Ai ni ci,FD Ac cols.length cc,FC (bs op),FC (bs lc),FH FI lk,FH FI ln,FC (bs lw),FC (bs rc),FH FI rk,FH FI rn,FC (bs Z),FH FI M]);have cj:1<w.heap.size:=Fq _ _ b6;show Calls _ _ #[.agg #[FH FI a4,FH FI code,FD Ao outs.length co,FD Ai ni ci,FD Ac cols.length cc,FC (bs op),FC (bs lc),FH FI lk,FH FI ln,FC (bs lw),FC (bs rc),FH FI rk,FH FI rn,FC (bs Z),FH FI M],FD A a.length c] w _;by_cases J:op∈compares
 ·rw[decide_eq_true J] at HCT'
  cases lc with
  | nil =>
   have D:Hid (R= .error 1):=Fk (by rw[HR.out,if_pos (.inr rfl)]);clear HR J;go_enter Tryz.func58,Tryz.ntmps58
   go_wp2_with (go_at_call 34;refine (HCT'.out _ H.out).mono ?_;rintro e w6 ⟨rfl,rfl⟩)
   go_ret2;exact ⟨by rw[D.out];rfl,H.out⟩
  | cons x tl =>
   have br:R=match an a (x::tl) with
    | none=> .error 7
    | some k=>if KR≠(a.getD k zC).kind then .error 13 else .ok (List.replicate (if code=9 then 2 else 1) a):=by
    rw[HR.out,if_neg (by
     rintro (h|h)
     ·exact h J
     cases h)]
   have D:=Fk br;have HF:=Fk (bq.out (x::tl));clear HR J br bq
   cases O:an a (x::tl) with
   | none =>
    rw[O] at HF D;have V:Hid (R= .error 7):=D;clear D O;go_enter Tryz.func58,Tryz.ntmps58
    go_wp2_with (go_at_call 34;refine (HCT'.out _ H.out).mono ?_;rintro e w6 ⟨rfl,rfl⟩)
    refine (HF.out _ H.out).mono ?_;rintro e w2 ⟨rfl,U⟩;simp only[eG];go_wp2;go_ret2;exact ⟨by rw[V.out];rfl,H.out.trans U⟩
   | some k =>
    rw[O] at HF D;have bm:k<a.length:=(List.findIdx?_eq_some_iff_getElem.1 O).1;have bc:a.getD k zC=a[k]:=by rw[Fy,Fp bm];rfl
    have av:=Fk HA.out;obtain ⟨b4,o4,b8,_,ce,bk⟩:=HA.out.open' (by omega) (by omega);subst b8;have d1:=bk (k*2+1) _ (aN a k bm).2;rw[←Nat.add_assoc] at d1;have bv:=Fk d1;have ch:((k:Int)<0)=False:=eq_false (by omega);have b9:(0:Int)≤(k:Int):=by omega
    have cd:(k:Int)<(a.length:Int):=by omega
    have be:R=if KR≠a[k].kind then .error 13 else .ok (List.replicate (if code=9 then 2 else 1) a):=by rw[←bc];exact D.out
    have V:=Fk be;clear be D O bc bk;generalize a[k].kind=kk at *;clear d1;have bt:∃ b,(KR != kk)=b:=⟨_,rfl⟩
    obtain ⟨bb,bj⟩:=bt;go_enter Tryz.func58,Tryz.ntmps58
    go_wp2_with (go_at_call 34;refine (HCT'.out _ H.out).mono ?_;rintro e w6 ⟨rfl,rfl⟩)
    refine (HF.out _ H.out).mono ?_;rintro e w2 ⟨rfl,U⟩;simp only[eG];obtain ⟨bx,a7⟩:∃ bx,w.heap.size=bx:=⟨_,rfl⟩
    have I:=Fk (b5.out.keep U (by simp));have a2:=Fk (H.out.trans U);rw[a7] at I ⊢;clear U;have x1:=a2.out.cell_of bv.out (by simp);have y1:w2.cell? ⟨bx,1,none⟩=some (FH FI code):=I.out.cell 1;have b3:w2.cell? ⟨bx,10,none⟩=some (FC (bs rc)):=I.out.cell 10;have b1:w2.cell? ⟨bx,11,none⟩=some (FH FI rk):=I.out.cell 11;have b0:w2.cell? ⟨bx,12,none⟩=some (FH FI rn):=I.out.cell 12;have bX:w2.cell? ⟨bx,13,none⟩=some (FC (bs Z)):=I.out.cell 13;have cm:bx<w2.heap.size:=I.out.lt;have ca:b4<w2.heap.size:=Fq _ _ x1;have b7:=Fk (fun W (q:aa [] w2 W)=>HKR'.out W (a2.out.trans q));clear a7;go_wp2_with fail
    refine ah (by kernel_rfl) (by kernel_rfl) ?_;repeat (go_big_quiet_step (with_reducible exact KW.of b7.out _))
    refine wpQuiet_nil ?_;intro w3 a1;have a3:=Fk (a2.out.trans a1);have z1:=a1.cell_of y1 (by simp);clear a1 b3 b1 b0 bX y1 x1
    cases bb with
    | true =>
     have N:Hid (R= .error 13):=Fk (by rw[V.out,if_pos (by simpa using bj)]);go_wp2;go_ret2;exact ⟨by rw[N.out];rfl,a3.out⟩
    | false =>
     have a9:KR=kk:=by simpa using bj
     have N:Hid (R= .ok (List.replicate (if code=9 then 2 else 1) a)):=Fk (by rw[V.out,if_neg (fun h=>h a9)]);clear V a9;by_cases h9:code=9
     ·have t9:(code==9)=true:=by rw[h9];rfl
      have a5:Hid (R= .ok (List.replicate 2 a)):=Fk (by rw[N.out,if_pos h9]);clear N h9;go_wp2_with fail
      refine (uV _ _ _ _ _ ((FA _ _ _).cell 0)).mono ?_;rintro e w4 ⟨⟨g,rfl,aA,bZ⟩,a6⟩;have ad:=Fk ((a3.out.alloc _).trans a6);have a0:=Fk (qA (n:=2) (av.out.keep ad.out) hc (fun j hj=>by
       rcases j with _|_|j
       ·exact aA
       ·exact bZ
       omega))
      go_wp2;go_ret2;exact ⟨by rw[a5.out];exact ⟨_,2,rfl,Fm _,a0.out⟩,ad.out⟩
     have t9:(code==9)=false:=by rw[beq_eq_false_iff_ne];exact h9
     have a5:Hid (R= .ok (List.replicate 1 a)):=Fk (by rw[N.out,if_neg h9]);clear N h9;go_wp2_with fail
     refine (uU _ _ _ _ _ ((FA _ _ _).cell 0)).mono ?_;rintro e w4 ⟨⟨g,rfl,aA⟩,a6⟩;have ad:=Fk ((a3.out.alloc _).trans a6);have a0:=Fk (qA (n:=1) (av.out.keep ad.out) hc (fun j hj=>by
      obtain rfl:j=0:=by omega
      exact aA))
     go_wp2;go_ret2;exact ⟨by rw[a5.out];exact ⟨_,1,rfl,Fm _,a0.out⟩,ad.out⟩
 rw[decide_eq_false J] at HCT';have D:Hid (R= .error 1):=Fk (by rw[HR.out,if_pos (.inl J)]);clear HR J;go_enter Tryz.func58,Tryz.ntmps58
 go_wp2_with (go_at_call 34;refine (HCT'.out _ H.out).mono ?_;rintro e w6 ⟨rfl,rfl⟩)
 go_ret2;exact ⟨by rw[D.out];rfl,H.out⟩
theorem E7 (w:World) (o:Obj):(w.alloc o).heap.size=w.heap.size+1:=Array.size_push _
theorem uW (w:World) (t:TypeId) (cs:List Value) (n size:Nat) (h:cs.length=n*size):Rd (w.alloc (FG cs.toArray t)) [] size (some ⟨w.heap.size,0,none⟩) n cs :=
 ⟨h,fun _=>⟨_,rfl,by simp,(FA _ _ _).lt,fun j u D=>by
  rw[cI,Nat.zero_add,(FA w t cs.toArray).cell j];simpa using D⟩⟩
theorem aU.drew' {w:World} {A:Option Addr} {D:List (List Cl)} (h:aU w A D):aU w.drew A D:=h
theorem s7 (j:Jb) (a:List Cl) (Ao:Option Addr) (co:Nat) (Ai:Option Addr) (ni ci:Nat) (Ac:Option Addr) (cc:Nat) (A:Option Addr) (c:Nat) (w:World) (hJ:gT w j Ao co Ac cc) (hA:Rd w [] 2 A a.length (ai a)) (hl:a.length≤4294967296) :
  Calls Tryz.prog 62 #[eH j Ao co Ai ni ci Ac cc,FD A a.length c] w fun e w'=>aP (cF j a) e w'∧aa [] w w':=by
 have a7:=Fk (fun (nm:Bs) W (q:aa [] w W)=>bQ a nm A c W (hA.keep q) hl);have HA:=Fk hA;have HJ:=Fk hJ.cols;obtain ⟨R,hR⟩:∃ R,cF j a=R:=⟨_,rfl⟩
 rw[hR]
 have HR:Hid (R=if j.cols.length≠2∨¬(j.op=[115,117,109]∨j.op=[109,97,120]) then .error 1 else match an a (j.cols.getD 0 []),an a (j.cols.getD 1 []) with
  | some k,some m=>if (a.getD m zC).kind≠1 then .error 13 else if k=m then .error 9 else .ok [[a.getD k zC,a.getD m zC]]
  | _,_=> .error 7):=Fk (by
  rw[←hR];unfold cF;split
  ·rfl
  cases an a (j.cols.getD 0 [])<;>cases an a (j.cols.getD 1 [])<;>rfl)
 clear hR hJ hA;obtain ⟨a4,code,outs,ins,cols,op,⟨lc,lk,ln,lw⟩,⟨rc,rk,rn,a2⟩,M⟩:=j;simp only at HR HJ;show Calls _ _ #[.agg #[FH FI a4,FH FI code,FD Ao outs.length co,FD Ai ni ci,FD Ac cols.length cc,FC (bs op),FC (bs lc),FH FI lk,FH FI ln,FC (bs lw),FC (bs rc),FH FI rk,FH FI rn,FC (bs a2),FH FI M],FD A a.length c] w _;by_cases h1:cols.length=2
 ·have t0:((cols.length:Int) != 2)=false:=by rw[h1];rfl
  obtain ⟨V,n2,bo⟩:∃ V n2,cols=[V,n2]:=by
   match cols,h1 with
   | [V,n2],_=>exact ⟨V,n2,rfl⟩
  subst bo;obtain ⟨b,o,rfl,_,hb,I⟩:=HJ.out.open' (by simp) (by decide);have s0:w.cell? ⟨b,o,none⟩=some (FC (bs V)):=I 0 _ rfl;have s1:w.cell? ⟨b,o+1,none⟩=some (FC (bs n2)):=I 1 _ rfl;have a6:=Fk s0;have a8:=Fk s1;clear I h1 HJ s0 s1;show Calls _ _ #[.agg #[FH FI a4,FH FI code,FD Ao outs.length co,FD Ai ni ci,FD (some ⟨b,o,none⟩) 2 cc,FC (bs op),FC (bs lc),FH FI lk,FH FI ln,FC (bs lw),FC (bs rc),FH FI rk,FH FI rn,FC (bs a2),FH FI M],FD A a.length c] w _;by_cases O:op=[115,117,109]∨op=[109,97,120]
  ·have U:Hid (R=match an a V,an a n2 with
    | some k,some m=>if (a.getD m zC).kind≠1 then .error 13 else if k=m then .error 9 else .ok [[a.getD k zC,a.getD m zC]]
    | _,_=> .error 7):=Fk (HR.out.trans (by
     rw[if_neg (by
      rintro (h|h)
      ·exact h rfl
      exact h O)]
     show (match an a V,an a n2 with|some k,some m=>_|_,_=>_)=_;cases an a V<;>cases an a n2<;>rfl))
   clear HR;have bk:∃ b1 b2,(op==[115,117,109])=b1∧(op==[109,97,120])=b2∧(b1=true∨b2=true):=⟨_,_,rfl,rfl,by simpa using O⟩
   obtain ⟨b1,b2,t1,t2,bc⟩:=bk;clear O;have be:(b1=true)∨(b1=false∧b2=true):=by
    cases b1<;>cases b2<;>simp at bc ⊢
   clear bc;obtain ⟨J,a1⟩:∃ J,w.alloc (FG #[FH FI a4,FH FI code,FD Ao outs.length co,FD Ai ni ci,FD (some ⟨b,o,none⟩) 2 cc,FC (bs op),FC (bs lc),FH FI lk,FH FI ln,FC (bs lw),FC (bs rc),FH FI rk,FH FI rn,FC (bs a2),FH FI M] 50)=J:=⟨_,rfl⟩
   have D:Hid (aa [] w J):=Fk (by rw[←a1];exact (Fz _ _).alloc _);have ad:Hid (ao J w.heap.size 50 #[FH FI a4,FH FI code,FD Ao outs.length co,FD Ai ni ci,FD (some ⟨b,o,none⟩) 2 cc,FC (bs op),FC (bs lc),FH FI lk,FH FI ln,FC (bs lw),FC (bs rc),FH FI rk,FH FI rn,FC (bs a2),FH FI M]):=Fk (by rw[←a1];exact FA _ _ _);have HW:=Fk a1;clear a1;obtain ⟨k1,aA⟩:∃ k1,an a V=k1:=⟨_,rfl⟩
   obtain ⟨k2,a0⟩:∃ k2,an a n2=k2:=⟨_,rfl⟩
   have a3:Hid (∀ W,aa [] J W→Calls Tryz.prog 89 #[FD A a.length c,FC (bs V)] W fun e W'=>e=FF (FH FI (eG k1))∧aa [] W W'):=Fk fun W q=>by
    rw[←aA];exact a7.out V W (D.out.trans q)
   have Z:Hid (∀ W,aa [] J W→Calls Tryz.prog 89 #[FD A a.length c,FC (bs n2)] W fun e W'=>e=FF (FH FI (eG k2))∧aa [] W W'):=Fk fun W q=>by
    rw[←a0];exact a7.out n2 W (D.out.trans q)
   have bm:Hid (∀ k,k1=some k→k<a.length):=Fk fun k h=>(List.findIdx?_eq_some_iff_getElem.1 (aA.trans h)).1
   have bq:Hid (∀ k,k2=some k→k<a.length):=Fk fun k h=>(List.findIdx?_eq_some_iff_getElem.1 (a0.trans h)).1
   rw[aA,a0] at U;clear a7 aA a0;rcases be with rfl|⟨rfl,rfl⟩
   all_goals
    cases k1 with
    | none =>
     have HE:Hid (R= .error 7):=Fk (by rw[U.out]);have HF1':Hid (∀ W,aa [] J W→Calls Tryz.prog 89 #[FD A a.length c,FC (bs V)] W fun e W'=>e=FF (FH FI (-1))∧aa [] W W'):=a3;clear a3 U;generalize eG k2=q2 at Z;go_enter Tryz.func62,Tryz.ntmps62
     go_upto_region 3 with (fail)
     rw[HW.out];have y4:J.cell? ⟨w.heap.size,4,none⟩=some (FD (some ⟨b,o,none⟩) 2 cc):=ad.out.cell 4;have s0:=D.out.cell_of a6.out (by simp);have s1:=D.out.cell_of a8.out (by simp);have bj:w.heap.size<J.heap.size:=ad.out.lt;have bb:b<J.heap.size:=Fq _ _ s0;generalize w.heap.size=bx at *;refine ah (by kernel_rfl) (by kernel_rfl) ?_;repeat (go_big_quiet_step (first|with_reducible exact KW.of HF1'.out _|with_reducible exact KW.of Z.out _))
     refine wpQuiet_nil ?_;intro w3 N;have H:=Fk (D.out.trans N);clear N y4 s0 s1;go_wp2;go_ret2;exact ⟨by rw[HE.out];rfl,H.out⟩
    | some k =>
     have a5:=bm.out k rfl;have br:((k:Int)<0)=False:=eq_false (by omega);have HF1':Hid (∀ W,aa [] J W→Calls Tryz.prog 89 #[FD A a.length c,FC (bs V)] W fun e W'=>e=FF (FH FI (k:Int))∧aa [] W W'):=a3;clear a3
     cases k2 with
     | none =>
      have HE:Hid (R= .error 7):=Fk (by rw[U.out]);have HF2':Hid (∀ W,aa [] J W→Calls Tryz.prog 89 #[FD A a.length c,FC (bs n2)] W fun e W'=>e=FF (FH FI (-1))∧aa [] W W'):=Z;clear Z U;go_enter Tryz.func62,Tryz.ntmps62
      go_upto_region 3 with (fail)
      rw[HW.out];have y4:J.cell? ⟨w.heap.size,4,none⟩=some (FD (some ⟨b,o,none⟩) 2 cc):=ad.out.cell 4;have s0:=D.out.cell_of a6.out (by simp);have s1:=D.out.cell_of a8.out (by simp);have bj:w.heap.size<J.heap.size:=ad.out.lt;have bb:b<J.heap.size:=Fq _ _ s0;generalize w.heap.size=bx at *;refine ah (by kernel_rfl) (by kernel_rfl) ?_;repeat (go_big_quiet_step (first|with_reducible exact KW.of HF1'.out _|with_reducible exact KW.of HF2'.out _))
      refine wpQuiet_nil ?_;intro w3 N;have H:=Fk (D.out.trans N);clear N y4 s0 s1;go_wp2;go_ret2;exact ⟨by rw[HE.out];rfl,H.out⟩
     | some m =>
      have ba:=bq.out m rfl;have bt:((m:Int)<0)=False:=eq_false (by omega);have bZ:(m:Int)<(a.length:Int):=by omega
      have bv:(k:Int)<(a.length:Int):=by omega
      have bz:(0:Int)≤(m:Int):=by omega
      have aA:(0:Int)≤(k:Int):=by omega
      have HF2':Hid (∀ W,aa [] J W→Calls Tryz.prog 89 #[FD A a.length c,FC (bs n2)] W fun e W'=>e=FF (FH FI (m:Int))∧aa [] W W'):=Z;clear Z;have gm:a.getD m zC=a[m]:=by rw[Fy,Fp ba];rfl
      have gk:a.getD k zC=a[k]:=by rw[Fy,Fp a5];rfl
      obtain ⟨b4,o4,rfl,_,bX,I⟩:=HA.out.open' (by omega) (by omega);have c0:=I (m*2) _ (aN a m ba).1;have c1:=I (m*2+1) _ (aN a m ba).2;have c2:=I (k*2) _ (aN a k a5).1;have c3:=I (k*2+1) _ (aN a k a5).2;rw[←Nat.add_assoc] at c1 c3;have av:Hid (R=if (a.getD m zC).kind≠1 then .error 13 else if k=m then .error 9 else .ok [[a.getD k zC,a.getD m zC]]):=U;rw[gm,gk] at av;obtain ⟨x,hx⟩:∃ x,a[k]=x:=⟨_,rfl⟩
      obtain ⟨y,hy⟩:∃ y,a[m]=y:=⟨_,rfl⟩
      rw[hx,hy] at av;rw[hy] at c0 c1;rw[hx] at c2 c3;have C0:=Fk c0;have C1:=Fk c1;have C2:=Fk c2;have C3:=Fk c3;clear I c0 c1 c2 c3 gm gk hx hy U HA;go_enter Tryz.func62,Tryz.ntmps62
      go_upto_region 3 with (fail)
      rw[HW.out];have y4:J.cell? ⟨w.heap.size,4,none⟩=some (FD (some ⟨b,o,none⟩) 2 cc):=ad.out.cell 4;have s0:=D.out.cell_of a6.out (by simp);have s1:=D.out.cell_of a8.out (by simp);have bj:w.heap.size<J.heap.size:=ad.out.lt;have bb:b<J.heap.size:=Fq _ _ s0;generalize w.heap.size=bx at *;refine ah (by kernel_rfl) (by kernel_rfl) ?_;repeat (go_big_quiet_step (first|with_reducible exact KW.of HF1'.out _|with_reducible exact KW.of HF2'.out _))
      refine wpQuiet_nil ?_;intro w3 N;have H:=Fk (D.out.trans N);clear N y4 s0 s1;have c1:=H.out.cell_of C1.out (by simp);have l4:=Fq _ _ c1;by_cases hk:y.kind=1
      ·have tk:(y.kind != 1)=false:=by simp[hk]
       by_cases a9:k=m
       ·have HE:Hid (R= .error 9):=Fk (by rw[av.out,if_neg (fun h=>h hk),if_pos a9])
        subst a9;clear hk;go_wp2;go_ret2;exact ⟨by rw[HE.out];rfl,H.out⟩
       have HE:Hid (R= .ok [[x,y]]):=Fk (by rw[av.out,if_neg (fun h=>h hk),if_neg a9]);have tm:((k:Int)==(m:Int))=false:=by simp;omega
       have c0:=H.out.cell_of C0.out (by simp);have c2:=H.out.cell_of C2.out (by simp);have c3:=H.out.cell_of C3.out (by simp);clear hk;go_wp2;go_region
       all_goals
        go_wp2;go_ret2;have hh:=(eI (l:=[x,y]) (uW w3 64 (ai [x,y]) 2 2 rfl) (Fm 2) 51).drew';rw[E7] at hh;exact ⟨by rw[HE.out];exact ⟨_,_,rfl,Fm _,hh⟩,((H.out.alloc _).alloc _).drew⟩
      have HE:Hid (R= .error 13):=Fk (by rw[av.out,if_pos hk]);have tk:(y.kind != 1)=true:=by simp[hk]
      clear hk;go_wp2;go_ret2;exact ⟨by rw[HE.out];rfl,H.out⟩
  have t1:(op==[115,117,109])=false:=by simpa using fun h=>O (.inl h)
  have t2:(op==[109,97,120])=false:=by simpa using fun h=>O (.inr h)
  have HE:Hid (R= .error 1):=Fk (by rw[HR.out,if_pos (.inr O)]);clear O HR HA;go_enter Tryz.func62,Tryz.ntmps62
  go_wp2;go_ret2;exact ⟨by rw[HE.out];rfl,(Fz _ _).alloc _⟩
 have t0:((cols.length:Int) != 2)=true:=by simp;omega
 have HE:Hid (R= .error 1):=Fk (by rw[HR.out,if_pos (.inl h1)]);clear h1 HR HA;go_enter Tryz.func62,Tryz.ntmps62
 go_wp2;go_ret2;exact ⟨by rw[HE.out];rfl,(Fz _ _).alloc _⟩
end
section
open Go.RowKit Go.BigFrame
attribute [local go_sem] ag ab ae af
theorem qB (A:Option Addr) (m d n:Nat) (h:n≤d) (W:World):(Instr.slice 44 (FD A m d) none (some (FH FI (n:Int))) none).run Tryz.prog W= .ok (FD A n d) W:=by
 have I:=Tryz.underlying44;have H:(0:Int)≤(n:Int):=by omega
 have D:(n:Int)≤(d:Int):=by omega
 cases A with
 | none=>go_simp
 | some a=>go_simp
theorem Ab {w:World} {A:Option Addr} {l:List Bs} {n:Nat} (h:Rd w [] 1 A l.length (strs l)) (O:n≤l.length):Rd w [] 1 A (l.take n).length (strs (l.take n)):=by
 refine ⟨by rw[jd,Nat.mul_one],fun I=>?_⟩;obtain ⟨M,e,J,H,N⟩:=h.2 (by rw[Fw] at I;omega);refine ⟨M,e,J,H,fun j u D=>N j u ?_⟩;unfold strs at D ⊢;rw[List.map_take,List.getElem?_take] at D;split at D
 ·exact D
 cases D
theorem DJ:(Tryz.prog.info? 64).map (fun i=>(i.zero,i.size,i.bytes))=some (some (.agg #[FC ⟨#[]⟩,FH FI 0]),2,24):=by kernel_rfl
theorem rK (q:List Cl) (v:Cl):ai (q++[v])=ai q++[FC (bs v.name),FH FI v.kind]:=by simp[ai,fe]
theorem xX (a:List Cl) (l:List Bs) (m:Nat) (h:m<l.length) (out:List Cl):cW a (l.take m) (l.drop m) out=match an a l[m] with
  | none=> .error 7
  | some k=>if l[m]∈l.take m then .error 9 else cW a (l.take (m+1)) (l.drop (m+1)) (out++[a.getD k zC]):=by
 rw[List.drop_eq_getElem_cons h];conv=>lhs;unfold cW
 rw[List.take_succ_eq_append_getElem h];cases an a l[m]<;>rfl
theorem uX (j:Jb) (a:List Cl) (Ao:Option Addr) (co:Nat) (Ai:Option Addr) (ni ci:Nat) (Ac:Option Addr) (cc:Nat) (A:Option Addr) (c:Nat) (w:World) (hJ:gT w j Ao co Ac cc) (hA:Rd w [] 2 A a.length (ai a)) (hc:a.length≤c) (hl:a.length≤4294967296) :
  Calls Tryz.prog 60 #[eH j Ao co Ai ni ci Ac cc,FD A a.length c] w fun e w'=>aP (bW j a) e w'∧aa [] w w':=by
 obtain ⟨ic,b6,bv,bX,bo⟩:=info_parts DJ;have b9:=Fk (fun (nm:Bs) W (q:aa [] w W)=>bQ a nm A c W (hA.keep q) hl);have HA:=Fk hA;have HJ:=Fk hJ.cols;have cg:=hJ.cc;have b5:=hJ.lc;obtain ⟨R,hR⟩:∃ R,bW j a=R:=⟨_,rfl⟩
 rw[hR]
 have HR:Hid (R=if j.cols.length=0∨6<j.cols.length then .error 1 else match cW a [] j.cols [] with
  | .error e=> .error e
  | .ok out=> .ok [if j.code=4 then a else out]):=Fk (by
  rw[←hR];unfold bW;split
  ·rfl
  cases cW a [] j.cols []<;>rfl)
 clear hR hJ hA;obtain ⟨a1,code,outs,ins,cols,op,⟨lc,lk,ln,lw⟩,⟨rc,rk,rn,aA⟩,I⟩:=j;simp only at HR HJ cg b5;have av:Hid (aa [] w (w.alloc (FG #[FH FI a1,FH FI code,FD Ao outs.length co,FD Ai ni ci,FD Ac cols.length cc,FC (bs op),FC (bs lc),FH FI lk,FH FI ln,FC (bs lw),FC (bs rc),FH FI rk,FH FI rn,FC (bs aA),FH FI I] 50))):=Fk ((Fz _ _).alloc _);have a0:=Fk (FA w 50 #[FH FI a1,FH FI code,FD Ao outs.length co,FD Ai ni ci,FD Ac cols.length cc,FC (bs op),FC (bs lc),FH FI lk,FH FI ln,FC (bs lw),FC (bs rc),FH FI rk,FH FI rn,FC (bs aA),FH FI I]);show Calls _ _ #[.agg #[FH FI a1,FH FI code,FD Ao outs.length co,FD Ai ni ci,FD Ac cols.length cc,FC (bs op),FC (bs lc),FH FI lk,FH FI ln,FC (bs lw),FC (bs rc),FH FI rk,FH FI rn,FC (bs aA),FH FI I],FD A a.length c] w _;by_cases h0:cols.length=0
 ·have t0:((cols.length:Int)==0)=true:=by rw[h0];rfl
  have a9:Hid (R= .error 1):=Fk (by rw[HR.out,if_pos (.inl h0)]);clear HR h0;go_enter Tryz.func60,Tryz.ntmps60
  go_wp2;go_ret2;exact ⟨by rw[a9.out];rfl,av.out⟩
 have t0:((cols.length:Int)==0)=false:=by rw[beq_eq_false_iff_ne];omega
 by_cases h6:6<cols.length
 ·have t6:decide ((6:Int)<(cols.length:Int))=true:=decide_eq_true (by omega)
  have a9:Hid (R= .error 1):=Fk (by rw[HR.out,if_pos (.inr h6)]);clear HR h0 h6;go_enter Tryz.func60,Tryz.ntmps60
  go_wp2;go_ret2;exact ⟨by rw[a9.out];rfl,av.out⟩
 have t6:decide ((6:Int)<(cols.length:Int))=false:=decide_eq_false (by omega)
 have bj:R=match cW a [] cols [] with
  | .error e=> .error e
  | .ok out=> .ok [if code=4 then a else out]:=by
  rw[HR.out,if_neg (by omega)]
 have a7:=Fk bj;obtain ⟨b,o,rfl,_,hb,J⟩:=HJ.out.open' (by omega) (by decide);have ch:=Fk J;have cm:0<cols.length:=by omega
 clear HR h0 bj J;go_enter Tryz.func60,Tryz.ntmps60
 go_wp2;obtain ⟨w2,bk⟩:∃ w2,(w.alloc (FG #[FH FI a1,FH FI code,FD Ao outs.length co,FD Ai ni ci,FD (some ⟨b,o,none⟩) cols.length cc,FC (bs op),FC (bs lc),FH FI lk,FH FI ln,FC (bs lw),FC (bs rc),FH FI rk,FH FI rn,FC (bs aA),FH FI I] 50))=w2:=⟨_,rfl⟩
 rw[bk] at av a0 ⊢;obtain ⟨bx,bc⟩:∃ bx,w.heap.size=bx:=⟨_,rfl⟩
 rw[bc] at a0 ⊢;clear bk bc;go_loopw [6,24] (fun u i wx=>∃ (m:Nat) (q:List Cl) (v:Value),v=u∧m≤cols.length∧q.length=m∧i=FH FI m∧wx.ownsRow w2.heap.size 64 2 v m (ai q)∧Hid (cW a (cols.take m) (cols.drop m) q=cW a [] cols [])∧aa [] w2 wx) (fun _ i _=>cols.length-(intOf i).toNat)
 case atStart=>exact ⟨0,[],_,rfl,Fu _,rfl,rfl,World.ownsRow_nil _ _ _ _,by rw[List.take_zero,List.drop_zero];exact rfl,Fz _ _⟩
 obtain ⟨m,q,v,rfl,hm,hq,rfl,a2,ba,hk⟩:=hrel;have HQ:=Fk hq;have HO:=Fk a2;have HK:=Fk hk;have H:=Fk (av.out.trans hk);clear hq a2 hk;by_cases br:m<cols.length
 ·have d0:=H.out.cell_of (ch.out m _ (cw cols m br)) (by simp)
  have y4:wr.cell? ⟨bx,4,none⟩=some (FD (some ⟨b,o,none⟩) cols.length cc):=HK.out.cell_of (a0.out.cell 4) (by simp);have a3:=xX a cols m br q;rw[ba.out] at a3;have ad:=Fk a3;have Z:=Fk (fun W (z:aa [] w W)=>li (cols.take m) (cols[m]) (some ⟨b,o,none⟩) cc W (Ab (HJ.out.keep z) hm) (by rw[Fw];omega));have bZ:(cols.take m).length=m:=by rw[Fw];omega
  rw[bZ] at Z;have cv:=qB (some ⟨b,o,none⟩) cols.length cc m (by omega);have HF:=Fk (b9.out cols[m]);clear a3 bZ;generalize cols[m]=nm at *
  cases O:an a nm with
  | none =>
   rw[O] at HF ad;have V:Hid (R= .error 7):=Fk (by rw[a7.out,ad.out]);clear O;go_wp2_with fail
   refine (HF.out _ H.out).mono ?_;rintro e w5 ⟨rfl,D⟩;simp only[eG];go_wp2;go_ret2;exact ⟨by rw[V.out];rfl,H.out.trans D⟩
  | some k =>
   rw[O] at HF ad;have a8:k<a.length:=(List.findIdx?_eq_some_iff_getElem.1 O).1;have a5:a.getD k zC=a[k]:=by rw[Fy,Fp a8];rfl
   obtain ⟨b4,o4,cj,_,cx,J⟩:=HA.out.open' (by omega) (by omega);subst cj;have d1:=J (k*2) _ (aN a k a8).1;have d2:=J (k*2+1) _ (aN a k a8).2;rw[←Nat.add_assoc] at d2;have cy:((k:Int)<0)=False:=eq_false (by omega);have cr:(0:Int)≤(k:Int):=by omega
   have cu:(k:Int)<(a.length:Int):=by omega
   by_cases U:nm∈cols.take m
   ·rw[decide_eq_true U] at Z
    have V:Hid (R= .error 9):=Fk (by rw[a7.out,ad.out];simp only;rw[if_pos U]);clear O U J a5 d1 d2;go_wp2_with fail
    refine (HF.out _ H.out).mono ?_;rintro e w5 ⟨rfl,D⟩;simp only[eG];have y5:=D.cell_of y4 (by simp);go_wp2_with (go_at_call 34;refine (Z.out _ (H.out.trans D)).mono ?_;rintro e w6 ⟨rfl,rfl⟩)
    go_ret2;exact ⟨by rw[V.out];rfl,H.out.trans D⟩
   rw[decide_eq_false U] at Z;have b1:Hid (cW a (cols.take (m+1)) (cols.drop (m+1)) (q++[a[k]])=cW a [] cols []):=Fk (by rw[ad.out];simp only;rw[if_neg U,a5]);have b3:=Fk d1;have b8:=Fk d2;clear O U J a5 d1 d2;generalize a[k]=cl at *;go_wp2_with fail
   refine (HF.out _ H.out).mono ?_;rintro e w5 ⟨rfl,D⟩;simp only[eG];have y5:=D.cell_of y4 (by simp);have e1:=(H.out.trans D).cell_of b3.out (by simp);have e2:=(H.out.trans D).cell_of b8.out (by simp);have bm:=Fk (aE HO.out D (fun _ _=>by simp));have ct:w2.heap.size≤w5.heap.size:=Ft HK.out.size D.size;have ca:=Fk (HK.out.trans D);have be:=Fk (Z.out _ (H.out.trans D));have b0:=Fk (show m+1≤maxLen∧(m+1)*24≤140737488355328 by simp only[maxLen];omega);clear D y4;go_wp2_with (first|(go_at_call 34;refine be.out.mono ?_;rintro e w6 ⟨rfl,rfl⟩)|(at_builtin;refine wpList_append_lies _ rfl _ _ 51 rfl w2.heap.size 64 ic _ 2 24 Tryz.underlying51 b6 bv bX bo rfl (by decide) _ m (ai q) rfl (bm.out.alloc _) ⟨w5.heap.size,0,none⟩ 1 1 [FC (bs cl.name),FH FI cl.kind] rfl rfl (Fx (heap_alloc_new _ _)) (by simp[Value.oneCell']) (by decide) b0.out.1 b0.out.2 (by simp;omega) _ rfl ?_;intro gw cn w8 M N bq bz))
   have b7:=Fk ((ca.out.alloc (FG #[FC (bs cl.name),FH FI cl.kind] 64)).grown N (fun g hg=> .inr (bm.out.lt g hg).1));rw[←rK] at M;have cd:=Fk M;clear M N bq bz;go_wp2;go_roundw
   case rel=>exact ⟨m+1,q++[cl],_,rfl,by omega,by simp[HQ.out],by go_num,cd.out,b1,b7.out⟩
   case measure=>simp[intOf];omega
 obtain rfl:m=cols.length:=by omega
 have a6:=ba.out;rw[List.drop_length] at a6;have V:Hid (R= .ok [if code=4 then a else q]):=Fk (by rw[a7.out,←a6];rfl);clear a6 ba;have y1:wr.cell? ⟨bx,1,none⟩=some (FH FI code):=HK.out.cell_of (a0.out.cell 1) (by simp);by_cases h4:code=4
 ·have t4:(code==4)=true:=by rw[h4];rfl
  have bb:Hid (R= .ok [a]):=Fk (by rw[V.out,if_pos h4]);have a4:=Fk (eI (HA.out.keep H.out) hc 51);clear h4;go_wp2;go_ret2;exact ⟨by rw[bb.out];exact ⟨_,_,rfl,Fm _,a4.out⟩,H.out.alloc _⟩
 have t4:(code==4)=false:=by rw[beq_eq_false_iff_ne];exact h4
 have bb:Hid (R= .ok [q]):=Fk (by rw[V.out,if_neg h4]);obtain ⟨Aq,cq,hv,ce,bt⟩:∃ A c,v=FD A q.length c∧q.length≤c∧Rd wr [] 2 A q.length (ai q):=by
  have h:=HO.out;rcases h.2 with ⟨hv,h0⟩|⟨g,cap,cur,hv,hb,hh,hc,r⟩
  ·omega
  exact ⟨_,cap,by rw[HQ.out];exact hv,by rw[HQ.out];exact hc,by rw[HQ.out];exact Rd.of_own (hv ▸ h) (fun _ _=>by simp)⟩
 subst hv;have a4:=Fk (eI bt ce 51);clear h4 bt;go_wp2;go_ret2;exact ⟨by rw[bb.out];exact ⟨_,_,rfl,Fm _,a4.out⟩,H.out.alloc _⟩
end
section
open Go.RowKit Go.BigFrame
attribute [local go_sem] ag ab ae af
attribute [local go_sem] KW.cell
theorem aP.split {R:Except Int (List (List Cl))} {e:Ending} {w:World} (h:aP R e w):∃ u v,e=FF (.tuple #[u,v])∧aP R (FF (.tuple #[u,v])) w:=by
 cases R with
 | error x=>exact ⟨_,_,h,rfl⟩
 | ok out =>
  obtain ⟨B,d,rfl,H,D⟩:=h;exact ⟨_,_,rfl,B,d,rfl,H,D⟩
theorem aU.first {w:World} {A:Option Addr} {D:List (List Cl)} (h:aU w A D) (I:0<D.length) (hl:D.length≤4294967296):∃ b o B d,A=some ⟨b,o,none⟩∧b<w.heap.size∧w.cell? ⟨b,o,none⟩=some (FD B (D.getD 0 []).length d)∧(D.getD 0 []).length≤d∧Rd w [] 2 B (D.getD 0 []).length (ai (D.getD 0 [])):=by
 obtain ⟨us,Z,M,U⟩:=h;obtain ⟨b,o,rfl,_,N,O⟩:=M.open' (by omega) (by omega);obtain ⟨B,d,V,hd,J⟩:=U 0 (by omega) I;have H:D.getD 0 []=D[0]:=by rw[Fy,Fp I];rfl
 refine ⟨b,o,B,d,rfl,N,?_,by rw[H];exact hd,by rw[H];exact J⟩;rw[H,←V];exact O 0 _ (Fp (by omega))
theorem aU.second {w:World} {b o:Nat} {D:List (List Cl)} (h:aU w (some ⟨b,o,none⟩) D) (I:1<D.length) (hl:D.length≤4294967296):∃ B d,w.cell? ⟨b,o+1,none⟩=some (FD B (D.getD 1 []).length d)∧(D.getD 1 []).length≤d∧Rd w [] 2 B (D.getD 1 []).length (ai (D.getD 1 [])):=by
 obtain ⟨us,Z,M,U⟩:=h;obtain ⟨b2,o2,N,_,hb,O⟩:=M.open' (by omega) (by omega);cases N
 obtain ⟨B,d,V,hd,J⟩:=U 1 (by omega) I;have H:D.getD 1 []=D[1]:=by rw[Fy,Fp I];rfl
 refine ⟨B,d,?_,by rw[H];exact hd,by rw[H];exact J⟩;rw[H,←V];exact O 1 _ (Fp (by omega))
theorem DK (I D N U rk O:Int) (outs js cols:List Bs) (op Z V M H:Bs) (Ao:Option Addr) (co:Nat) (Ai:Option Addr) (ni ci:Nat) (Ac:Option Addr) (cc:Nat) (ins:List (List Cl)) (AH:Option Addr) (ch:Nat) (w:World) (hH:aU w AH ins) (hi:ins.length=1) (ho:outs.length=1)
  (hf:∀ A d W,(ins.getD 0 []).length≤d→Rd w [] 2 A (ins.getD 0 []).length (ai (ins.getD 0 []))→aa [] w W→Calls Tryz.prog 58 #[eH (⟨I,1,outs,js,cols,op,⟨Z,N,U,V⟩,⟨M,rk,O,H⟩,D⟩:Jb) Ao co Ai ni ci Ac cc,FD A (ins.getD 0 []).length d] W fun e w'=>aP (aX (⟨I,1,outs,js,cols,op,⟨Z,N,U,V⟩,⟨M,rk,O,H⟩,D⟩:Jb) (ins.getD 0 [])) e w'∧aa [] W w') :
  Calls Tryz.prog 22 #[.agg #[FH FI I,FH FI 1,FD Ao outs.length co,FD Ai ni ci,FD Ac cols.length cc,FC (bs op),FC (bs Z),FH FI N,FH FI U,FC (bs V),FC (bs M),FH FI rk,FH FI O,FC (bs H),FH FI D],FD AH ins.length ch] w fun e w'=>aP (aX (⟨I,1,outs,js,cols,op,⟨Z,N,U,V⟩,⟨M,rk,O,H⟩,D⟩:Jb) (ins.getD 0 [])) e w'∧aa [] w w':=by
 obtain ⟨b,o,A,d,rfl,hb,a0,hd,hA⟩:=hH.first (by omega) (by omega);have HF:=Fk (fun W=>hf A d W hd hA);clear hf hA hH;generalize aX (⟨I,1,outs,js,cols,op,⟨Z,N,U,V⟩,⟨M,rk,O,H⟩,D⟩:Jb) (ins.getD 0 [])=R at *;have HF':Hid (∀ W,aa [] w W→Calls Tryz.prog 58 #[.agg #[FH FI I,FH FI 1,FD Ao outs.length co,FD Ai ni ci,FD Ac cols.length cc,FC (bs op),FC (bs Z),FH FI N,FH FI U,FC (bs V),FC (bs M),FH FI rk,FH FI O,FC (bs H),FH FI D],FD A (ins.getD 0 []).length d] W fun e w'=>aP R e w'∧aa [] W w'):=HF;clear HF;generalize (ins.getD 0 []).length=n at *;have HS:Hid (∀ W,Calls Tryz.prog 57 #[FH FI 1] W fun e W'=>e=FF (.tuple #[FH FI 1,FH FI 1])∧W=W'):=Fk fun W=>by
  have h:=dm 1 W;rw[show aw 1=(1,1) by decide] at h;exact h
 rw[hi];rw[ho] at HF' ⊢;clear hi ho;go_enter Tryz.func22,Tryz.ntmps22
 go_wp2_with (go_at_call 57;refine (HS.out _).mono ?_;rintro e w6 ⟨rfl,rfl⟩)
 refine (HF'.out _ ((Fz _ _).alloc _)).mono ?_;rintro e w3 ⟨J,ad⟩;obtain ⟨u,v,rfl,J⟩:=J.split;have aA:=Fk J;have av:=Fk (((Fz _ _).alloc _).trans ad);clear ad J;go_wp2;go_ret2;exact ⟨aA.out,av.out⟩
theorem DL (I D N U rk O:Int) (outs js cols:List Bs) (op Z V M H:Bs) (Ao:Option Addr) (co:Nat) (Ai:Option Addr) (ni ci:Nat) (Ac:Option Addr) (cc:Nat) (ins:List (List Cl)) (AH:Option Addr) (ch:Nat) (w:World) (hH:aU w AH ins) (hi:ins.length=1) (ho:outs.length=2)
  (hf:∀ A d W,(ins.getD 0 []).length≤d→Rd w [] 2 A (ins.getD 0 []).length (ai (ins.getD 0 []))→aa [] w W→Calls Tryz.prog 58 #[eH (⟨I,9,outs,js,cols,op,⟨Z,N,U,V⟩,⟨M,rk,O,H⟩,D⟩:Jb) Ao co Ai ni ci Ac cc,FD A (ins.getD 0 []).length d] W fun e w'=>aP (aX (⟨I,9,outs,js,cols,op,⟨Z,N,U,V⟩,⟨M,rk,O,H⟩,D⟩:Jb) (ins.getD 0 [])) e w'∧aa [] W w') :
  Calls Tryz.prog 22 #[.agg #[FH FI I,FH FI 9,FD Ao outs.length co,FD Ai ni ci,FD Ac cols.length cc,FC (bs op),FC (bs Z),FH FI N,FH FI U,FC (bs V),FC (bs M),FH FI rk,FH FI O,FC (bs H),FH FI D],FD AH ins.length ch] w fun e w'=>aP (aX (⟨I,9,outs,js,cols,op,⟨Z,N,U,V⟩,⟨M,rk,O,H⟩,D⟩:Jb) (ins.getD 0 [])) e w'∧aa [] w w':=by
 obtain ⟨b,o,A,d,rfl,hb,a0,hd,hA⟩:=hH.first (by omega) (by omega);have HF:=Fk (fun W=>hf A d W hd hA);clear hf hA hH;generalize aX (⟨I,9,outs,js,cols,op,⟨Z,N,U,V⟩,⟨M,rk,O,H⟩,D⟩:Jb) (ins.getD 0 [])=R at *;have HF':Hid (∀ W,aa [] w W→Calls Tryz.prog 58 #[.agg #[FH FI I,FH FI 9,FD Ao outs.length co,FD Ai ni ci,FD Ac cols.length cc,FC (bs op),FC (bs Z),FH FI N,FH FI U,FC (bs V),FC (bs M),FH FI rk,FH FI O,FC (bs H),FH FI D],FD A (ins.getD 0 []).length d] W fun e w'=>aP R e w'∧aa [] W w'):=HF;clear HF;generalize (ins.getD 0 []).length=n at *;have HS:Hid (∀ W,Calls Tryz.prog 57 #[FH FI 9] W fun e W'=>e=FF (.tuple #[FH FI 1,FH FI 2])∧W=W'):=Fk fun W=>by
  have h:=dm 9 W;rw[show aw 9=(1,2) by decide] at h;exact h
 rw[hi];rw[ho] at HF' ⊢;clear hi ho;go_enter Tryz.func22,Tryz.ntmps22
 go_wp2_with (go_at_call 57;refine (HS.out _).mono ?_;rintro e w6 ⟨rfl,rfl⟩)
 refine (HF'.out _ ((Fz _ _).alloc _)).mono ?_;rintro e w3 ⟨J,ad⟩;obtain ⟨u,v,rfl,J⟩:=J.split;have aA:=Fk J;have av:=Fk (((Fz _ _).alloc _).trans ad);clear ad J;go_wp2;go_ret2;exact ⟨aA.out,av.out⟩
theorem DM (I D N U rk O:Int) (outs js cols:List Bs) (op Z V M H:Bs) (Ao:Option Addr) (co:Nat) (Ai:Option Addr) (ni ci:Nat) (Ac:Option Addr) (cc:Nat) (ins:List (List Cl)) (AH:Option Addr) (ch:Nat) (w:World) (hH:aU w AH ins) (hi:ins.length=1) (ho:outs.length=1)
  (hf:∀ A d W,(ins.getD 0 []).length≤d→Rd w [] 2 A (ins.getD 0 []).length (ai (ins.getD 0 []))→aa [] w W→Calls Tryz.prog 59 #[eH (⟨I,2,outs,js,cols,op,⟨Z,N,U,V⟩,⟨M,rk,O,H⟩,D⟩:Jb) Ao co Ai ni ci Ac cc,FD A (ins.getD 0 []).length d] W fun e w'=>aP (jS (⟨I,2,outs,js,cols,op,⟨Z,N,U,V⟩,⟨M,rk,O,H⟩,D⟩:Jb) (ins.getD 0 [])) e w'∧aa [] W w') :
  Calls Tryz.prog 22 #[.agg #[FH FI I,FH FI 2,FD Ao outs.length co,FD Ai ni ci,FD Ac cols.length cc,FC (bs op),FC (bs Z),FH FI N,FH FI U,FC (bs V),FC (bs M),FH FI rk,FH FI O,FC (bs H),FH FI D],FD AH ins.length ch] w fun e w'=>aP (jS (⟨I,2,outs,js,cols,op,⟨Z,N,U,V⟩,⟨M,rk,O,H⟩,D⟩:Jb) (ins.getD 0 [])) e w'∧aa [] w w':=by
 obtain ⟨b,o,A,d,rfl,hb,a0,hd,hA⟩:=hH.first (by omega) (by omega);have HF:=Fk (fun W=>hf A d W hd hA);clear hf hA hH;generalize jS (⟨I,2,outs,js,cols,op,⟨Z,N,U,V⟩,⟨M,rk,O,H⟩,D⟩:Jb) (ins.getD 0 [])=R at *;have HF':Hid (∀ W,aa [] w W→Calls Tryz.prog 59 #[.agg #[FH FI I,FH FI 2,FD Ao outs.length co,FD Ai ni ci,FD Ac cols.length cc,FC (bs op),FC (bs Z),FH FI N,FH FI U,FC (bs V),FC (bs M),FH FI rk,FH FI O,FC (bs H),FH FI D],FD A (ins.getD 0 []).length d] W fun e w'=>aP R e w'∧aa [] W w'):=HF;clear HF;generalize (ins.getD 0 []).length=n at *;have HS:Hid (∀ W,Calls Tryz.prog 57 #[FH FI 2] W fun e W'=>e=FF (.tuple #[FH FI 1,FH FI 1])∧W=W'):=Fk fun W=>by
  have h:=dm 2 W;rw[show aw 2=(1,1) by decide] at h;exact h
 rw[hi];rw[ho] at HF' ⊢;clear hi ho;go_enter Tryz.func22,Tryz.ntmps22
 go_wp2_with (go_at_call 57;refine (HS.out _).mono ?_;rintro e w6 ⟨rfl,rfl⟩)
 refine (HF'.out _ ((Fz _ _).alloc _)).mono ?_;rintro e w3 ⟨J,ad⟩;obtain ⟨u,v,rfl,J⟩:=J.split;have aA:=Fk J;have av:=Fk (((Fz _ _).alloc _).trans ad);clear ad J;go_wp2;go_ret2;exact ⟨aA.out,av.out⟩
theorem DN (I D N U rk O:Int) (outs js cols:List Bs) (op Z V M H:Bs) (Ao:Option Addr) (co:Nat) (Ai:Option Addr) (ni ci:Nat) (Ac:Option Addr) (cc:Nat) (ins:List (List Cl)) (AH:Option Addr) (ch:Nat) (w:World) (hH:aU w AH ins) (hi:ins.length=1) (ho:outs.length=1)
  (hf:∀ A d W,(ins.getD 0 []).length≤d→Rd w [] 2 A (ins.getD 0 []).length (ai (ins.getD 0 []))→aa [] w W→Calls Tryz.prog 60 #[eH (⟨I,3,outs,js,cols,op,⟨Z,N,U,V⟩,⟨M,rk,O,H⟩,D⟩:Jb) Ao co Ai ni ci Ac cc,FD A (ins.getD 0 []).length d] W fun e w'=>aP (bW (⟨I,3,outs,js,cols,op,⟨Z,N,U,V⟩,⟨M,rk,O,H⟩,D⟩:Jb) (ins.getD 0 [])) e w'∧aa [] W w') :
  Calls Tryz.prog 22 #[.agg #[FH FI I,FH FI 3,FD Ao outs.length co,FD Ai ni ci,FD Ac cols.length cc,FC (bs op),FC (bs Z),FH FI N,FH FI U,FC (bs V),FC (bs M),FH FI rk,FH FI O,FC (bs H),FH FI D],FD AH ins.length ch] w fun e w'=>aP (bW (⟨I,3,outs,js,cols,op,⟨Z,N,U,V⟩,⟨M,rk,O,H⟩,D⟩:Jb) (ins.getD 0 [])) e w'∧aa [] w w':=by
 obtain ⟨b,o,A,d,rfl,hb,a0,hd,hA⟩:=hH.first (by omega) (by omega);have HF:=Fk (fun W=>hf A d W hd hA);clear hf hA hH;generalize bW (⟨I,3,outs,js,cols,op,⟨Z,N,U,V⟩,⟨M,rk,O,H⟩,D⟩:Jb) (ins.getD 0 [])=R at *;have HF':Hid (∀ W,aa [] w W→Calls Tryz.prog 60 #[.agg #[FH FI I,FH FI 3,FD Ao outs.length co,FD Ai ni ci,FD Ac cols.length cc,FC (bs op),FC (bs Z),FH FI N,FH FI U,FC (bs V),FC (bs M),FH FI rk,FH FI O,FC (bs H),FH FI D],FD A (ins.getD 0 []).length d] W fun e w'=>aP R e w'∧aa [] W w'):=HF;clear HF;generalize (ins.getD 0 []).length=n at *;have HS:Hid (∀ W,Calls Tryz.prog 57 #[FH FI 3] W fun e W'=>e=FF (.tuple #[FH FI 1,FH FI 1])∧W=W'):=Fk fun W=>by
  have h:=dm 3 W;rw[show aw 3=(1,1) by decide] at h;exact h
 rw[hi];rw[ho] at HF' ⊢;clear hi ho;go_enter Tryz.func22,Tryz.ntmps22
 go_wp2_with (go_at_call 57;refine (HS.out _).mono ?_;rintro e w6 ⟨rfl,rfl⟩)
 refine (HF'.out _ ((Fz _ _).alloc _)).mono ?_;rintro e w3 ⟨J,ad⟩;obtain ⟨u,v,rfl,J⟩:=J.split;have aA:=Fk J;have av:=Fk (((Fz _ _).alloc _).trans ad);clear ad J;go_wp2;go_ret2;exact ⟨aA.out,av.out⟩
theorem DO (I D N U rk O:Int) (outs js cols:List Bs) (op Z V M H:Bs) (Ao:Option Addr) (co:Nat) (Ai:Option Addr) (ni ci:Nat) (Ac:Option Addr) (cc:Nat) (ins:List (List Cl)) (AH:Option Addr) (ch:Nat) (w:World) (hH:aU w AH ins) (hi:ins.length=1) (ho:outs.length=1)
  (hf:∀ A d W,(ins.getD 0 []).length≤d→Rd w [] 2 A (ins.getD 0 []).length (ai (ins.getD 0 []))→aa [] w W→Calls Tryz.prog 60 #[eH (⟨I,4,outs,js,cols,op,⟨Z,N,U,V⟩,⟨M,rk,O,H⟩,D⟩:Jb) Ao co Ai ni ci Ac cc,FD A (ins.getD 0 []).length d] W fun e w'=>aP (bW (⟨I,4,outs,js,cols,op,⟨Z,N,U,V⟩,⟨M,rk,O,H⟩,D⟩:Jb) (ins.getD 0 [])) e w'∧aa [] W w') :
  Calls Tryz.prog 22 #[.agg #[FH FI I,FH FI 4,FD Ao outs.length co,FD Ai ni ci,FD Ac cols.length cc,FC (bs op),FC (bs Z),FH FI N,FH FI U,FC (bs V),FC (bs M),FH FI rk,FH FI O,FC (bs H),FH FI D],FD AH ins.length ch] w fun e w'=>aP (bW (⟨I,4,outs,js,cols,op,⟨Z,N,U,V⟩,⟨M,rk,O,H⟩,D⟩:Jb) (ins.getD 0 [])) e w'∧aa [] w w':=by
 obtain ⟨b,o,A,d,rfl,hb,a0,hd,hA⟩:=hH.first (by omega) (by omega);have HF:=Fk (fun W=>hf A d W hd hA);clear hf hA hH;generalize bW (⟨I,4,outs,js,cols,op,⟨Z,N,U,V⟩,⟨M,rk,O,H⟩,D⟩:Jb) (ins.getD 0 [])=R at *;have HF':Hid (∀ W,aa [] w W→Calls Tryz.prog 60 #[.agg #[FH FI I,FH FI 4,FD Ao outs.length co,FD Ai ni ci,FD Ac cols.length cc,FC (bs op),FC (bs Z),FH FI N,FH FI U,FC (bs V),FC (bs M),FH FI rk,FH FI O,FC (bs H),FH FI D],FD A (ins.getD 0 []).length d] W fun e w'=>aP R e w'∧aa [] W w'):=HF;clear HF;generalize (ins.getD 0 []).length=n at *;have HS:Hid (∀ W,Calls Tryz.prog 57 #[FH FI 4] W fun e W'=>e=FF (.tuple #[FH FI 1,FH FI 1])∧W=W'):=Fk fun W=>by
  have h:=dm 4 W;rw[show aw 4=(1,1) by decide] at h;exact h
 rw[hi];rw[ho] at HF' ⊢;clear hi ho;go_enter Tryz.func22,Tryz.ntmps22
 go_wp2_with (go_at_call 57;refine (HS.out _).mono ?_;rintro e w6 ⟨rfl,rfl⟩)
 refine (HF'.out _ ((Fz _ _).alloc _)).mono ?_;rintro e w3 ⟨J,ad⟩;obtain ⟨u,v,rfl,J⟩:=J.split;have aA:=Fk J;have av:=Fk (((Fz _ _).alloc _).trans ad);clear ad J;go_wp2;go_ret2;exact ⟨aA.out,av.out⟩
theorem DP (I D N U rk O:Int) (outs js cols:List Bs) (op Z V M H:Bs) (Ao:Option Addr) (co:Nat) (Ai:Option Addr) (ni ci:Nat) (Ac:Option Addr) (cc:Nat) (ins:List (List Cl)) (AH:Option Addr) (ch:Nat) (w:World) (hH:aU w AH ins) (hi:ins.length=1) (ho:outs.length=1)
  (hf:∀ A d W,(ins.getD 0 []).length≤d→Rd w [] 2 A (ins.getD 0 []).length (ai (ins.getD 0 []))→aa [] w W→Calls Tryz.prog 62 #[eH (⟨I,8,outs,js,cols,op,⟨Z,N,U,V⟩,⟨M,rk,O,H⟩,D⟩:Jb) Ao co Ai ni ci Ac cc,FD A (ins.getD 0 []).length d] W fun e w'=>aP (cF (⟨I,8,outs,js,cols,op,⟨Z,N,U,V⟩,⟨M,rk,O,H⟩,D⟩:Jb) (ins.getD 0 [])) e w'∧aa [] W w') :
  Calls Tryz.prog 22 #[.agg #[FH FI I,FH FI 8,FD Ao outs.length co,FD Ai ni ci,FD Ac cols.length cc,FC (bs op),FC (bs Z),FH FI N,FH FI U,FC (bs V),FC (bs M),FH FI rk,FH FI O,FC (bs H),FH FI D],FD AH ins.length ch] w fun e w'=>aP (cF (⟨I,8,outs,js,cols,op,⟨Z,N,U,V⟩,⟨M,rk,O,H⟩,D⟩:Jb) (ins.getD 0 [])) e w'∧aa [] w w':=by
 obtain ⟨b,o,A,d,rfl,hb,a0,hd,hA⟩:=hH.first (by omega) (by omega);have HF:=Fk (fun W=>hf A d W hd hA);clear hf hA hH;generalize cF (⟨I,8,outs,js,cols,op,⟨Z,N,U,V⟩,⟨M,rk,O,H⟩,D⟩:Jb) (ins.getD 0 [])=R at *;have HF':Hid (∀ W,aa [] w W→Calls Tryz.prog 62 #[.agg #[FH FI I,FH FI 8,FD Ao outs.length co,FD Ai ni ci,FD Ac cols.length cc,FC (bs op),FC (bs Z),FH FI N,FH FI U,FC (bs V),FC (bs M),FH FI rk,FH FI O,FC (bs H),FH FI D],FD A (ins.getD 0 []).length d] W fun e w'=>aP R e w'∧aa [] W w'):=HF;clear HF;generalize (ins.getD 0 []).length=n at *;have HS:Hid (∀ W,Calls Tryz.prog 57 #[FH FI 8] W fun e W'=>e=FF (.tuple #[FH FI 1,FH FI 1])∧W=W'):=Fk fun W=>by
  have h:=dm 8 W;rw[show aw 8=(1,1) by decide] at h;exact h
 rw[hi];rw[ho] at HF' ⊢;clear hi ho;go_enter Tryz.func22,Tryz.ntmps22
 go_wp2_with (go_at_call 57;refine (HS.out _).mono ?_;rintro e w6 ⟨rfl,rfl⟩)
 refine (HF'.out _ ((Fz _ _).alloc _)).mono ?_;rintro e w3 ⟨J,ad⟩;obtain ⟨u,v,rfl,J⟩:=J.split;have aA:=Fk J;have av:=Fk (((Fz _ _).alloc _).trans ad);clear ad J;go_wp2;go_ret2;exact ⟨aA.out,av.out⟩
theorem ap (w:World) (o:Obj):(w.alloc o).heap.size=w.heap.size+1:=by
 show (w.heap.push o).size=_;simp
theorem DQ (M D Z ln rk rn:Int) (outs av cols:List Bs) (op lc lw V I:Bs) (U:Option Addr) (O:Nat) (Ai:Option Addr) (ni ci:Nat) (Ac:Option Addr) (cc:Nat) (ins:List (List Cl)) (AH:Option Addr) (ch:Nat) (w:World) (hH:aU w AH ins) (N:ins.length=1) (ho:outs.length=1) :
  Calls Tryz.prog 22 #[.agg #[FH FI M,FH FI 6,FD U outs.length O,FD Ai ni ci,FD Ac cols.length cc,FC (bs op),FC (bs lc),FH FI Z,FH FI ln,FC (bs lw),FC (bs V),FH FI rk,FH FI rn,FC (bs I),FH FI D],FD AH ins.length ch] w fun e w'=>aP (.ok [ins.getD 0 []]) e w'∧aa [] w w':=by
 obtain ⟨b,o,A,d,rfl,hb,ad,hd,hA⟩:=hH.first (by omega) (by omega);clear hH;have HS:Hid (∀ W,Calls Tryz.prog 57 #[FH FI 6] W fun e W'=>e=FF (.tuple #[FH FI 1,FH FI 1])∧W=W'):=Fk fun W=>by
  have h:=dm 6 W;rw[show aw 6=(1,1) by decide] at h;exact h
 rw[N,ho];clear N ho;have HA:=Fk hA;have HD:=Fk hd;generalize ins.getD 0 []=l at *;clear hA hd;have H:Hid (aa [] w (w.alloc (FG #[FH FI M,FH FI 6,FD U 1 O,FD Ai ni ci,FD Ac cols.length cc,FC (bs op),FC (bs lc),FH FI Z,FH FI ln,FC (bs lw),FC (bs V),FH FI rk,FH FI rn,FC (bs I),FH FI D] 50))):=Fk ((Fz _ _).alloc _);have J:=Fk (eI (HA.out.keep H.out) HD.out 51);rw[ap] at J;go_enter Tryz.func22,Tryz.ntmps22
 go_wp2_with (go_at_call 57;refine (HS.out _).mono ?_;rintro e w6 ⟨rfl,rfl⟩)
 go_ret2;exact ⟨⟨_,_,rfl,Fm _,J.out⟩,H.out.alloc _⟩
theorem DR (Z I lk ln rk rn:Int) (outs a2 cols:List Bs) (op lc lw rc V:Bs) (Ao:Option Addr) (co:Nat) (Ai:Option Addr) (ni ci:Nat) (Ac:Option Addr) (cc:Nat) (ins:List (List Cl)) (AH:Option Addr) (ch:Nat) (w:World) (hH:aU w AH ins) (O:∀ l∈ins,l.length≤4294967296) (hi:ins.length=2) (ho:outs.length=1) :
  Calls Tryz.prog 22 #[.agg #[FH FI Z,FH FI 5,FD Ao outs.length co,FD Ai ni ci,FD Ac cols.length cc,FC (bs op),FC (bs lc),FH FI lk,FH FI ln,FC (bs lw),FC (bs rc),FH FI rk,FH FI rn,FC (bs V),FH FI I],FD AH ins.length ch] w fun e w'=>aP (if ins.getD 0 []≠ins.getD 1 [] then .error 13 else .ok [ins.getD 0 []]) e w'∧aa [] w w':=by
 obtain ⟨b,o,A,d,rfl,hb,a0,hd,hA⟩:=hH.first (by omega) (by omega);obtain ⟨B,dB,a1,av,hB⟩:=hH.second (by omega) (by omega);clear hH;have U:(ins.getD 0 []).length≤4294967296:=O _ (by rw[Fy,Fp (by omega)];exact Fs _);have ad:(ins.getD 1 []).length≤4294967296:=O _ (by rw[Fy,Fp (by omega)];exact Fs _);have HS:Hid (∀ W,Calls Tryz.prog 57 #[FH FI 5] W fun e W'=>e=FF (.tuple #[FH FI 2,FH FI 1])∧W=W'):=Fk fun W=>by
  have h:=dm 5 W;rw[show aw 5=(2,1) by decide] at h;exact h
 rw[hi,ho];clear hi ho O;have M:=Fk (fun W (q:aa [] w W)=>im (ins.getD 0 []) (ins.getD 1 []) A B d dB W (hA.keep q) (hB.keep q) U ad);have HA:=Fk hA;have HD:=Fk hd;generalize ins.getD 0 []=l at *;generalize ins.getD 1 []=m at *;clear hA hd hB U ad av;have N:Hid (aa [] w (w.alloc (FG #[FH FI Z,FH FI 5,FD Ao 1 co,FD Ai ni ci,FD Ac cols.length cc,FC (bs op),FC (bs lc),FH FI lk,FH FI ln,FC (bs lw),FC (bs rc),FH FI rk,FH FI rn,FC (bs V),FH FI I] 50))):=Fk ((Fz _ _).alloc _);by_cases D:l=m
 ·rw[decide_eq_true D] at M
  rw[if_neg (fun h=>h D)];clear D;go_enter Tryz.func22,Tryz.ntmps22
  go_wp2_with (go_at_call 57;refine (HS.out _).mono ?_;rintro e w6 ⟨rfl,rfl⟩)
  refine (M.out _ N.out).mono ?_;rintro e w3 ⟨rfl,H⟩;have J:=Fk (N.out.trans H);clear H;have aA:=Fk (eI (HA.out.keep J.out) HD.out 51);go_wp2;go_ret2;exact ⟨⟨_,_,rfl,Fm _,aA.out⟩,J.out.alloc _⟩
 rw[decide_eq_false D] at M;rw[if_pos D];clear D;go_enter Tryz.func22,Tryz.ntmps22
 go_wp2_with (go_at_call 57;refine (HS.out _).mono ?_;rintro e w6 ⟨rfl,rfl⟩)
 refine (M.out _ N.out).mono ?_;rintro e w3 ⟨rfl,H⟩;have J:=Fk (N.out.trans H);clear H;go_wp2;go_ret2;exact ⟨rfl,J.out⟩
theorem s8 (V code H lk ln rk rn:Int) (outs ad cols:List Bs) (op lc lw rc U:Bs) (Ao:Option Addr) (co:Nat) (Ai:Option Addr) (ni ci:Nat) (Ac:Option Addr) (cc:Nat) (ins:List (List Cl)) (AH:Option Addr) (ch:Nat) (w:World) (D:(aw code).1=0∨ins.length≠(aw code).1∨outs.length≠(aw code).2) :
  Calls Tryz.prog 22 #[.agg #[FH FI V,FH FI code,FD Ao outs.length co,FD Ai ni ci,FD Ac cols.length cc,FC (bs op),FC (bs lc),FH FI lk,FH FI ln,FC (bs lw),FC (bs rc),FH FI rk,FH FI rn,FC (bs U),FH FI H],FD AH ins.length ch] w fun e w'=>aP (.error 1) e w'∧aa [] w w':=by
 have Z:=Fk (fun W=>dm code W);generalize aw code=s at *;obtain ⟨s1,s2⟩:=s;simp only at D Z;have O:∃ I b2 N,((s1:Int)==0)=I∧((ins.length:Int) != (s1:Int))=b2∧((outs.length:Int) != (s2:Int))=N∧(I=true∨b2=true∨N=true):=⟨_,_,_,rfl,rfl,rfl,by
  rcases D with h|h|h
  ·exact .inl (by rw[h];rfl)
  ·exact .inr (.inl (by rw[bne_iff_ne];omega))
  exact .inr (.inr (by rw[bne_iff_ne];omega))⟩
 obtain ⟨I,b2,N,t1,t2,t3,M⟩:=O;clear D;have J:(I=true)∨(I=false∧b2=true)∨(I=false∧b2=false∧N=true):=by
  cases I<;>cases b2<;>cases N<;>simp at M ⊢
 clear M;rcases J with rfl|⟨rfl,rfl⟩|⟨rfl,rfl,rfl⟩
 all_goals
  go_enter Tryz.func22,Tryz.ntmps22
  go_wp2_with (go_at_call 57;refine (Z.out _).mono ?_;rintro e w6 ⟨rfl,rfl⟩)
  go_ret2;exact ⟨rfl,(Fz _ _).alloc _⟩
theorem xY {code:Int} (h:(aw code).1≠0):code=5∨code=7∨code=9∨code=1∨code=2∨code=3∨code=4∨code=6∨code=8:=by
 unfold aw at h;split at h
 ·omega
 split at h
 ·omega
 split at h
 ·omega
 exact absurd rfl h
theorem ot (j:Jb) (N:Option Addr) (M:Nat) (Z:Option Addr) (U V:Nat) (O:Option Addr) (cc:Nat) (ins:List (List Cl)) (AH:Option Addr) (ch:Nat) (w:World) (hE:rH w) (hJ:gT w j N M O cc) (hH:aU w AH ins) (a0:∀ l∈ins,l.length≤4294967296) (h7:j.code≠7)
  (h8:j.code=8→∀ A d W,(ins.getD 0 []).length≤d→Rd w [] 2 A (ins.getD 0 []).length (ai (ins.getD 0 []))→aa [] w W→Calls Tryz.prog 62 #[eH j N M Z U V O cc,FD A (ins.getD 0 []).length d] W fun e w'=>aP (cF j (ins.getD 0 [])) e w'∧aa [] W w') :
  Calls Tryz.prog 22 #[eH j N M Z U V O cc,FD AH ins.length ch] w fun e w'=>aP (aK j ins) e w'∧aa [] w w':=by
 unfold aK;by_cases H:(aw j.code).1=0∨ins.length≠(aw j.code).1∨j.outs.length≠(aw j.code).2
 ·rw[if_pos H]
  obtain ⟨J,code,outs,js,cols,op,⟨lc,lk,ln,lw⟩,⟨rc,rk,rn,I⟩,D⟩:=j;exact s8 _ _ _ _ _ _ _ _ js _ _ _ _ _ _ _ _ _ _ _ _ _ _ _ _ _ H
 rw[if_neg H];have h0:(aw j.code).1≠0:=fun h=>H (.inl h)
 have hi:ins.length=(aw j.code).1:=Decidable.byContradiction fun h=>H (.inr (.inl h))
 have ho:j.outs.length=(aw j.code).2:=Decidable.byContradiction fun h=>H (.inr (.inr h))
 have av:(ins.getD 0 []).length≤4294967296:=a0 _ (by rw[Fy,Fp (by omega)];exact Fs _);have a1:=fun A d W (h1:(ins.getD 0 []).length≤d) (h2:Rd w [] 2 A (ins.getD 0 []).length (ai (ins.getD 0 []))) (q:aa [] w W)=>rI j (ins.getD 0 []) N M Z U V O cc A d W (hE.quiet q) (h2.keep q) h1 av
 have a2:=fun A d W (h1:(ins.getD 0 []).length≤d) (h2:Rd w [] 2 A (ins.getD 0 []).length (ai (ins.getD 0 []))) (q:aa [] w W)=>B7 j (ins.getD 0 []) N M Z U V O cc A d W (hJ.quiet q) (h2.keep q) h1 av
 have aA:=fun A d W (h1:(ins.getD 0 []).length≤d) (h2:Rd w [] 2 A (ins.getD 0 []).length (ai (ins.getD 0 []))) (q:aa [] w W)=>uX j (ins.getD 0 []) N M Z U V O cc A d W (hJ.quiet q) (h2.keep q) h1 av
 have ad:=xY h0;clear H h0 hE hJ;obtain ⟨J,code,outs,js,cols,op,⟨lc,lk,ln,lw⟩,⟨rc,rk,rn,I⟩,D⟩:=j;simp only at h7 h8 hi ho ad ⊢;rcases ad with rfl|rfl|rfl|rfl|rfl|rfl|rfl|rfl|rfl
 ·exact DR J D lk ln rk rn outs js cols op lc lw rc I N M Z U V O cc ins AH ch w hH a0 hi ho
 ·exact absurd rfl h7
 ·exact DL J D lk ln rk rn outs js cols op lc lw rc I N M Z U V O cc ins AH ch w hH hi ho a1
 ·exact DK J D lk ln rk rn outs js cols op lc lw rc I N M Z U V O cc ins AH ch w hH hi ho a1
 ·exact DM J D lk ln rk rn outs js cols op lc lw rc I N M Z U V O cc ins AH ch w hH hi ho a2
 ·exact DN J D lk ln rk rn outs js cols op lc lw rc I N M Z U V O cc ins AH ch w hH hi ho aA
 ·exact DO J D lk ln rk rn outs js cols op lc lw rc I N M Z U V O cc ins AH ch w hH hi ho aA
 ·exact DQ J D lk ln rk rn outs js cols op lc lw rc I N M Z U V O cc ins AH ch w hH hi ho
 exact DP J D lk ln rk rn outs js cols op lc lw rc I N M Z U V O cc ins AH ch w hH hi ho (h8 rfl)
end
section
open Go.RowKit
attribute [local go_sem] ag ab ae af
theorem s9:(Tryz.prog.info? 64).map (fun i=>(i.zero,i.size,i.bytes))=some (some (.agg #[FC ⟨#[]⟩,FH FI 0]),2,24):=by kernel_rfl
theorem xZ (n:Nat) (hn:n≤4294967296) (w:World) :
  Calls Tryz.prog 134 #[FD none 0 0,FH FI (n:Int)] w fun e w'=>(∃ v,e=FF v∧w'.ownsRow w.heap.size 64 2 v 0 [])∧aa [] w w':=by
 by_cases h0:n=0
 ·subst h0
  go_enter Tryz.func134,Tryz.ntmps134
  go_wp2;go_ret;exact ⟨⟨_,rfl,World.ownsRow_nil _ _ _ _⟩,Fz _ _⟩
 obtain ⟨i0,Z,O,N,D⟩:=info_parts s9;have h:=Lib.run_append_grow_zeros w 51 3 51 64 i0 _ .i64 .i64 Tryz.underlying51 Tryz.underlying3 Z O none 0 0 [] (run_firstCells_none w.drew _ 0 0 0) n (by omega) (by rw[N];decide) (by omega) (by omega) (by rw[D];omega) (growslice_fits (by omega) (by rw[D];omega));have U:grownCap w (0+n) 0 64≤maxLen:=grownCap_le_maxLen w (0+n) 0 64 (by unfold maxLen;omega);have J:0+n≤grownCap w (0+n) 0 64:=grownCap_ge w _ _ _;rw[Nat.zero_add] at h U J;obtain ⟨G,M⟩:∃ G,grownCap w n 0 64=G:=⟨_,rfl⟩
 rw[M] at h U J;obtain ⟨cs,H⟩:∃ cs,(([]:List Value).toArray++Builtin.zeroCells (.agg #[FC ⟨#[]⟩,FH FI 0]:Value).cells n++Builtin.zeroCells (.agg #[FC ⟨#[]⟩,FH FI 0]:Value).cells (G-n))=cs:=⟨_,rfl⟩
 rw[H] at h;have I:cs.size=G*2:=by
  rw[←H];simp[Builtin.zeroCells,Value.cells];omega
 have HZ:=Fk (fD (w:=w.drew) (e:=64) (size:=2) I U);have V:=Fk h;have h1:¬((n:Int)<0):=by omega
 have h4:(0:Int)<(n:Int):=by omega
 have ad:G≤9223372036854775807:=by unfold maxLen at U;omega
 clear h H I M Z O N D;go_enter Tryz.func134,Tryz.ntmps134
 go_wp2_with (at_builtin;refine Lib.wpList_append_run _ rfl _ _ _ _ rfl _ _ rfl rfl _ _ V.out ?_)
 go_ret;exact ⟨⟨_,rfl,HZ.out⟩,((Fz [] w).drew).alloc _⟩
theorem tb (D:List (Nat×List Value)) (us:List Value) (A0:Option Addr) (k0:Nat) (w:World) (V:us.length=D.length) (hB:Rd w [] 1 A0 D.length us) (hu:∀ i (h:i<us.length) (h':i<D.length),DI w 2 us[i] D[i]) (hl:D.length≤4294967296) (J:du D D.length≤4294967296) (N:∀ p∈D,∀ x∈p.2,x.oneCell'=true) :
  Calls Tryz.prog 92 #[FD A0 D.length k0] w fun e w'=>(∃ v,e=FF v∧w'.ownsRow w.heap.size 64 2 v (du D D.length) (iP D D.length))∧aa [] w w':=by
 obtain ⟨ie,a9,ad,aA,a1⟩:=info_parts s9;have HB:=Fk hB;have HU:=Fk hu;have a5:=Fk V;have a2:=Fk (fun m (h:m≤D.length)=>Ft (rJ D h) J);have a8:=Fk N;have a7:=Fk (xZ (du D D.length) J w);clear hB hu N V J;go_enter Tryz.func92,Tryz.ntmps92
 go_wp2;go_loop [3,11] (fun s i=>∃ m:Nat,m≤D.length∧i=FH FI m∧s=FH FI (du D m:Nat)) (fun _ i=>D.length-(intOf i).toNat)
 case atStart=>exact ⟨0,Fu _,rfl,rfl⟩
 obtain ⟨m,hm,rfl,rfl⟩:=hrel;by_cases H:m<D.length
 ·obtain ⟨b,o,rfl,_,hb,hc⟩:=HB.out.open' (by omega) (by omega)
  have I:m<us.length:=by rw[a5.out];exact H
  have d1:=hc m _ (Fp I);obtain ⟨A,c,he,hr⟩:=HU.out m I H;rw[he] at d1;have HS:=Fk (dn D m H);have M:=a2.out (m+1) (by omega);rw[HS.out] at M;clear hc he hr;generalize du D m=a at *;generalize D[m].1=n at *;have bc:¬((a:Int)+(n:Int)<0):=by omega
  go_wp2;go_round
  case rel=>exact ⟨m+1,by omega,by go_num,by rw[HS.out];go_num⟩
  case measure=>simp[intOf];omega
 obtain rfl:m=D.length:=by omega
 go_wp2_with fail
 refine a7.out.mono ?_;rintro e w2 ⟨⟨v0,rfl,av⟩,a6⟩;have bb:=Fk av;have ba:=Fk a6;clear av a6 a7;go_wp2;go_loopw [6,27] (fun u i wx=>∃ (m:Nat) (v:Value),v=u∧m≤D.length∧i=FH FI m∧wx.ownsRow w.heap.size 64 2 v (du D m) (iP D m)∧aa [] w wx) (fun _ i _=>D.length-(intOf i).toNat)
 case atStart=>exact ⟨0,v0,rfl,Fu _,rfl,bb.out,ba.out⟩
 obtain ⟨m,v,rfl,be,rfl,O,hk⟩:=hrel;have Z:=Fk hk;have HO:=Fk O;clear hk O;by_cases H:m<D.length
 ·obtain ⟨b,o,rfl,_,hb,hc⟩:=(HB.out.keep Z.out).open' (by omega) (by omega)
  have I:m<us.length:=by rw[a5.out];exact H
  have d1:=hc m _ (Fp I);obtain ⟨A,c,he,hr⟩:=HU.out m I H;rw[he] at d1;have M:=a2.out (m+1) (by omega);rw[dn D m H] at M;obtain ⟨v',w',U,a4,a0⟩:=cX (P:=Tryz.prog) wr w.heap.size 51 51 64 ie _ 2 24 Tryz.underlying51 a9 ad aA a1 rfl (by decide) HO.out (hr.keep Z.out) c (a8.out _ (Fs H)) (by unfold maxLen;omega) (by omega) Z.out.size;have a3:=Fk U;have HO':Hid (w'.ownsRow w.heap.size 64 2 v' (du D (m+1)) (iP D (m+1))):=Fk (by rw[dn D m H,lX D m H];exact a4);have HK':=Fk (Z.out.grown a0 (fun g hg=> .inr (HO.out.lt g hg).1));clear hc he hr U a4 a0 M;generalize D[m].1=n at *;go_wp2_with (at_builtin;refine Lib.wpList_append_run _ rfl _ _ _ _ rfl _ _ rfl rfl _ _ a3.out ?_)
  go_roundw
  case rel=>exact ⟨m+1,v',rfl,by omega,by go_num,HO'.out,HK'.out⟩
  case measure=>simp[intOf];omega
 obtain rfl:m=D.length:=by omega
 go_wp2;go_ret;exact ⟨⟨_,rfl,HO.out⟩,Z.out⟩
end
section
open Go.RowKit Go.BigFrame
attribute [local go_sem] ag ab ae af
theorem qC (A:Option Addr) (m d n:Nat) (h:n≤d) (W:World):(Instr.slice 51 (FD A m d) none (some (FH FI (n:Int))) none).run Tryz.prog W= .ok (FD A n d) W:=by
 have I:=Tryz.underlying51;have H:(0:Int)≤(n:Int):=by omega
 have D:(n:Int)≤(d:Int):=by omega
 cases A with
 | none=>go_simp
 | some a=>go_simp
theorem tc (b o n d D:Nat) (O:D≤n) (M:n≤d):∃ A,(∀ W,(Instr.slice 51 (FD (some ⟨b,o,none⟩) n d) (some (FH FI (D:Int))) none none).run Tryz.prog W= .ok (FD A (n-D) (d-D)) W)∧(D<d→A=some ⟨b,o+D*2,none⟩):=by
 have N:=Tryz.underlying51;have J:(0:Int)≤(D:Int):=by omega
 have I:(D:Int)≤(n:Int):=by omega
 have H:(n:Int)≤(d:Int):=by omega
 by_cases h:D=d
 ·subst h
  refine ⟨some ⟨b,o,none⟩,fun W=>?_,fun h=>absurd h (by omega)⟩;go_simp
 refine ⟨some ⟨b,o+D*2,none⟩,fun W=>?_,fun _=>rfl⟩;go_simp
 exact fun e=>absurd e.symm h
theorem B8 {w:World} {base:Nat} {e:TypeId} {size n:Nat} {v:Value} {xs:List Value} (h:w.ownsRow base e size v n xs):∃ A c,v=FD A n c∧n≤c∧Rd w [] size A n xs:=by
 rcases h.2 with ⟨rfl,rfl⟩|⟨g,cap,cur,rfl,hb,Z,M,r⟩
 ·refine ⟨none,0,rfl,Fm _,?_⟩
  have:xs=[]:=List.eq_nil_of_length_eq_zero (by rw[h.1];simp);rw[this];exact Rd.nil
 obtain ⟨A,c,H,I⟩:=aq h;injection H with H e2 V;subst H V;refine ⟨_,_,rfl,M,h.1,fun N=>?_⟩;obtain ⟨g',D,J,O⟩:=I N;injection D with D;injection D with D;subst D;exact ⟨_,rfl,by simp,J,fun j u U=>by rw[cI,Nat.zero_add];exact O j u U⟩
theorem Ad {w:World} {b o:Nat} {l:List Cl} {n:Nat} {A:Option Addr} (h:Rd w [] 2 (some ⟨b,o,none⟩) l.length (ai l)) (O:n≤l.length) (M:n<l.length→A=some ⟨b,o+n*2,none⟩):Rd w [] 2 A (l.length-n) (ai (l.drop n)):=by
 have D:∀ q:List Cl,(ai q).length=q.length*2:=fun q=>by
  induction q with
  | nil=>rfl
  | cons c q ih =>
   have e:ai (c::q)=[FC (bs c.name),FH FI c.kind]++ai q:=by simp[ai,fe]
   rw[e,Fo,ih];simp;omega
 refine ⟨by rw[D,List.length_drop],fun Z=>?_⟩;obtain ⟨ad,e,J,H,N⟩:=h.2 (by omega);injection e with e;subst e;refine ⟨_,M (by omega),J,H,fun j u U=>?_⟩;have V:ai l=ai (l.take n)++ai (l.drop n):=by
  unfold ai;rw[←List.flatMap_append,List.take_append_drop]
 have I:(ai (l.take n)).length=n*2:=by rw[D,Fw,Nat.min_eq_left O]
 have:=N (n*2+j) u (by
  rw[V,List.getElem?_append_right (by rw[I];omega),I,Nat.add_sub_cancel_left];exact U)
 rw[cI] at this ⊢;rw[show o+n*2+j=o+(n*2+j) by omega];exact this
end
section
open Go.RowKit Go.BigFrame
attribute [local go_sem] ag ab ae af
attribute [local go_sem] KW.cell
def gC (a b:List Cl) (m:Nat):List Cl:=a++b.take m++b.drop (m+1)
theorem tf {a b:List Cl} {m:Nat} (h:m<b.length):(gC a b m).length=a.length+m+(b.length-(m+1)):=by
 unfold gC;rw[Fo,Fo,Fw,List.length_drop,Nat.min_eq_left (Nat.le_of_lt h)]
theorem ou {out:List Cl}:kp out=false↔∀ i,(h:i<out.length)→an (out.take i) out[i].name=none:=by
 unfold kp;rw[←Bool.not_eq_true,List.any_eq_true];constructor
 ·intro h i H
  refine Decidable.byContradiction fun I=>h ⟨i,List.mem_range.2 H,?_⟩
  rw[Fy,Fp H]
  cases D:an (out.take i) out[i].name with
  | none=>exact absurd D I
  | some k=>exact congrArg Option.isSome D
 rintro h ⟨i,H,D⟩;have hi':=List.mem_range.1 H;rw[Fy,Fp hi'] at D;have:=h i hi';rw[show ((some out[i]).getD zC)=out[i] from rfl,this] at D;cases D
theorem ya {out:List Cl} {i:Nat} (h:i<out.length) {k:Nat} (D:an (out.take i) out[i].name=some k):kp out=true:=by
 cases hd:kp out with
 | true=>rfl
 | false=>rw[ou.1 hd i h] at D;cases D
theorem ll:∀ (l:List Cl),∀ x∈ai l,x.oneCell'=true
 | [],x,h=>by cases h
 | c::l,x,h=>by
  have e:ai (c::l)=[FC (bs c.name),FH FI c.kind]++ai l:=by simp[ai,fe]
  rw[e,List.mem_append] at h;rcases h with h|h
  ·simp only[List.mem_cons,List.not_mem_nil,or_false] at h
   rcases h with rfl|rfl<;>rfl
  exact ll l x h
theorem uY (j:Jb) (a D:List Cl) (Ao:Option Addr) (co:Nat) (Ai:Option Addr) (ni ci:Nat) (Ac:Option Addr) (cc:Nat) (A:Option Addr) (c:Nat) (B:Option Addr) (d:Nat) (w:World) (hJ:gT w j Ao co Ac cc) (hA:Rd w [] 2 A a.length (ai a)) (hl:a.length≤4294967) (hB:Rd w [] 2 B D.length (ai D)) (hd:D.length≤d) (d6:D.length≤4294967) :
  Calls Tryz.prog 61 #[eH j Ao co Ai ni ci Ac cc,FD A a.length c,FD B D.length d] w fun e w'=>aP (dg j a D) e w'∧aa [] w w':=by
 have cq:=Fk (fun (nm:Bs) W (q:aa [] w W)=>bQ a nm A c W (hA.keep q) (by omega));have ct:=Fk (fun (nm:Bs) W (q:aa [] w W)=>bQ D nm B d W (hB.keep q) (by omega));have HA:=Fk hA;have HB:=Fk hB;have HJ:=Fk hJ.cols;obtain ⟨R,hR⟩:∃ R,dg j a D=R:=⟨_,rfl⟩
 rw[hR]
 have HR:Hid (R=if j.cols.length≠2 then .error 1 else match an a (j.cols.getD 0 []),an D (j.cols.getD 1 []) with
  | some k,some m=>if (a.getD k zC).kind≠(D.getD m zC).kind then .error 13 else if kp (gC a D m) then .error 9 else if 6<(gC a D m).length then .error 4 else .ok [gC a D m]
  | _,_=> .error 7):=Fk (by
  rw[←hR];unfold dg gC;split
  ·rfl
  cases an a (j.cols.getD 0 [])<;>cases an D (j.cols.getD 1 [])<;>rfl)
 clear hR hJ hA hB;obtain ⟨bk,code,outs,ins,cols,op,⟨lc,lk,ln,lw⟩,⟨rc,rk,rn,a9⟩,J⟩:=j;simp only at HR HJ;show Calls _ _ #[.agg #[FH FI bk,FH FI code,FD Ao outs.length co,FD Ai ni ci,FD Ac cols.length cc,FC (bs op),FC (bs lc),FH FI lk,FH FI ln,FC (bs lw),FC (bs rc),FH FI rk,FH FI rn,FC (bs a9),FH FI J],FD A a.length c,FD B D.length d] w _;by_cases h1:cols.length=2
 ·have t0:((cols.length:Int) != 2)=false:=by rw[h1];rfl
  obtain ⟨V,n2,c9⟩:∃ V n2,cols=[V,n2]:=by
   match cols,h1 with
   | [V,n2],_=>exact ⟨V,n2,rfl⟩
  subst c9;obtain ⟨b,o,rfl,_,hb,ad⟩:=HJ.out.open' (by simp) (by decide);have s0:w.cell? ⟨b,o,none⟩=some (FC (bs V)):=ad 0 _ rfl;have s1:w.cell? ⟨b,o+1,none⟩=some (FC (bs n2)):=ad 1 _ rfl;have bX:=Fk s0;have bZ:=Fk s1;clear ad h1 HJ s0 s1;show Calls _ _ #[.agg #[FH FI bk,FH FI code,FD Ao outs.length co,FD Ai ni ci,FD (some ⟨b,o,none⟩) 2 cc,FC (bs op),FC (bs lc),FH FI lk,FH FI ln,FC (bs lw),FC (bs rc),FH FI rk,FH FI rn,FC (bs a9),FH FI J],FD A a.length c,FD B D.length d] w _
  have N:Hid (R=match an a V,an D n2 with
   | some k,some m=>if (a.getD k zC).kind≠(D.getD m zC).kind then .error 13 else if kp (gC a D m) then .error 9 else if 6<(gC a D m).length then .error 4 else .ok [gC a D m]
   | _,_=> .error 7):=Fk (HR.out.trans (by
    rw[if_neg (fun h=>h rfl)];show (match an a V,an D n2 with|some k,some m=>_|_,_=>_)=_;cases an a V<;>cases an D n2<;>rfl))
  clear HR;obtain ⟨I,a8⟩:∃ I,w.alloc (FG #[FH FI bk,FH FI code,FD Ao outs.length co,FD Ai ni ci,FD (some ⟨b,o,none⟩) 2 cc,FC (bs op),FC (bs lc),FH FI lk,FH FI ln,FC (bs lw),FC (bs rc),FH FI rk,FH FI rn,FC (bs a9),FH FI J] 50)=I:=⟨_,rfl⟩
  have H:Hid (aa [] w I):=Fk (by rw[←a8];exact (Fz _ _).alloc _);have av:Hid (ao I w.heap.size 50 #[FH FI bk,FH FI code,FD Ao outs.length co,FD Ai ni ci,FD (some ⟨b,o,none⟩) 2 cc,FC (bs op),FC (bs lc),FH FI lk,FH FI ln,FC (bs lw),FC (bs rc),FH FI rk,FH FI rn,FC (bs a9),FH FI J]):=Fk (by rw[←a8];exact FA _ _ _);have HW:=Fk a8;clear a8;obtain ⟨k1,a4⟩:∃ k1,an a V=k1:=⟨_,rfl⟩
  obtain ⟨k2,a5⟩:∃ k2,an D n2=k2:=⟨_,rfl⟩
  have bc:Hid (∀ W,aa [] I W→Calls Tryz.prog 89 #[FD A a.length c,FC (bs V)] W fun e W'=>e=FF (FH FI (eG k1))∧aa [] W W'):=Fk fun W q=>by
   rw[←a4];exact cq.out V W (H.out.trans q)
  have Z:Hid (∀ W,aa [] I W→Calls Tryz.prog 89 #[FD B D.length d,FC (bs n2)] W fun e W'=>e=FF (FH FI (eG k2))∧aa [] W W'):=Fk fun W q=>by
   rw[←a5];exact ct.out n2 W (H.out.trans q)
  have c7:Hid (∀ k,k1=some k→k<a.length):=Fk fun k h=>(List.findIdx?_eq_some_iff_getElem.1 (a4.trans h)).1
  have dq:Hid (∀ k,k2=some k→k<D.length):=Fk fun k h=>(List.findIdx?_eq_some_iff_getElem.1 (a5.trans h)).1
  rw[a4,a5] at N;clear cq ct a4 a5
  cases k1 with
  | none =>
   have HE:Hid (R= .error 7):=Fk (by rw[N.out]);have HF1':Hid (∀ W,aa [] I W→Calls Tryz.prog 89 #[FD A a.length c,FC (bs V)] W fun e W'=>e=FF (FH FI (-1))∧aa [] W W'):=bc;clear bc N;generalize eG k2=q2 at Z;go_enter Tryz.func61,Tryz.ntmps61
   go_upto_region 3 with (fail)
   rw[HW.out];have y4:I.cell? ⟨w.heap.size,4,none⟩=some (FD (some ⟨b,o,none⟩) 2 cc):=av.out.cell 4;have s0:=H.out.cell_of bX.out (by simp);have s1:=H.out.cell_of bZ.out (by simp);have cD:w.heap.size<I.heap.size:=av.out.lt;have cj:b<I.heap.size:=Fq _ _ s0;generalize w.heap.size=bx at *;refine ah (by kernel_rfl) (by kernel_rfl) ?_;repeat (go_big_quiet_step (first|with_reducible exact KW.of HF1'.out _|with_reducible exact KW.of Z.out _))
   refine wpQuiet_nil ?_;intro w3 M;have O:=Fk (H.out.trans M);clear M y4 s0 s1;go_wp2;go_ret2;exact ⟨by rw[HE.out];rfl,O.out⟩
  | some k =>
   have cn:=c7.out k rfl;have dB:((k:Int)<0)=False:=eq_false (by omega);have HF1':Hid (∀ W,aa [] I W→Calls Tryz.prog 89 #[FD A a.length c,FC (bs V)] W fun e W'=>e=FF (FH FI (k:Int))∧aa [] W W'):=bc;clear bc
   cases k2 with
   | none =>
    have HE:Hid (R= .error 7):=Fk (by rw[N.out]);have HF2':Hid (∀ W,aa [] I W→Calls Tryz.prog 89 #[FD B D.length d,FC (bs n2)] W fun e W'=>e=FF (FH FI (-1))∧aa [] W W'):=Z;clear Z N;go_enter Tryz.func61,Tryz.ntmps61
    go_upto_region 3 with (fail)
    rw[HW.out];have y4:I.cell? ⟨w.heap.size,4,none⟩=some (FD (some ⟨b,o,none⟩) 2 cc):=av.out.cell 4;have s0:=H.out.cell_of bX.out (by simp);have s1:=H.out.cell_of bZ.out (by simp);have cD:w.heap.size<I.heap.size:=av.out.lt;have cj:b<I.heap.size:=Fq _ _ s0;generalize w.heap.size=bx at *;refine ah (by kernel_rfl) (by kernel_rfl) ?_;repeat (go_big_quiet_step (first|with_reducible exact KW.of HF1'.out _|with_reducible exact KW.of HF2'.out _))
    refine wpQuiet_nil ?_;intro w3 M;have O:=Fk (H.out.trans M);clear M y4 s0 s1;go_wp2;go_ret2;exact ⟨by rw[HE.out];rfl,O.out⟩
   | some m =>
    have a3:=dq.out m rfl;have d2:((m:Int)<0)=False:=eq_false (by omega);have el:(m:Int)<(D.length:Int):=by omega
    have d4:(k:Int)<(a.length:Int):=by omega
    have d7:(0:Int)≤(m:Int):=by omega
    have a4:(0:Int)≤(k:Int):=by omega
    have HF2':Hid (∀ W,aa [] I W→Calls Tryz.prog 89 #[FD B D.length d,FC (bs n2)] W fun e W'=>e=FF (FH FI (m:Int))∧aa [] W W'):=Z;clear Z;have gm:D.getD m zC=D[m]:=by rw[Fy,Fp a3];rfl
    have gk:a.getD k zC=a[k]:=by rw[Fy,Fp cn];rfl
    obtain ⟨b4,o4,rfl,_,d8,ad⟩:=HA.out.open' (by omega) (by omega);obtain ⟨b5,o5,rfl,_,eb,cm⟩:=HB.out.open' (by omega) (by omega);have c1:=cm (m*2+1) _ (aN D m a3).2;have c3:=ad (k*2+1) _ (aN a k cn).2;rw[←Nat.add_assoc] at c1 c3;have a1:Hid (R=if (a.getD k zC).kind≠(D.getD m zC).kind then .error 13 else if kp (gC a D m) then .error 9 else if 6<(gC a D m).length then .error 4 else .ok [gC a D m]):=N;rw[gm,gk] at a1;obtain ⟨x,hx⟩:∃ x,a[k].kind=x:=⟨_,rfl⟩
    obtain ⟨y,hy⟩:∃ y,D[m].kind=y:=⟨_,rfl⟩
    rw[hx,hy] at a1;rw[hy] at c1;rw[hx] at c3;have C1:=Fk c1;have C3:=Fk c3;clear ad cm c1 c3 gm gk hx hy N;go_enter Tryz.func61,Tryz.ntmps61
    go_upto_region 3 with (fail)
    rw[HW.out];have y4:I.cell? ⟨w.heap.size,4,none⟩=some (FD (some ⟨b,o,none⟩) 2 cc):=av.out.cell 4;have s0:=H.out.cell_of bX.out (by simp);have s1:=H.out.cell_of bZ.out (by simp);have cD:w.heap.size<I.heap.size:=av.out.lt;have cj:b<I.heap.size:=Fq _ _ s0;generalize w.heap.size=bx at *;refine ah (by kernel_rfl) (by kernel_rfl) ?_;repeat (go_big_quiet_step (first|with_reducible exact KW.of HF1'.out _|with_reducible exact KW.of HF2'.out _))
    refine wpQuiet_nil ?_;intro w3 M;have O:=Fk (H.out.trans M);clear M y4 s0 s1;have c1:=O.out.cell_of C1.out (by simp);have c3:=O.out.cell_of C3.out (by simp);have l5:=Fq _ _ c1;have l4:=Fq _ _ c3;go_upto_region 6 with (fail)
    refine ah (by kernel_rfl) (by kernel_rfl) ?_;repeat (go_big_quiet_step (fail))
    refine wpQuiet_nil ?_;intro w4 cz;have be:=Fk (O.out.trans cz);clear cz c1 c3;by_cases aA:x=y
    ·have tk:(x != y)=false:=by simp[aA]
     have bj:Hid (R=if kp (gC a D m) then .error 9 else if 6<(gC a D m).length then .error 4 else .ok [gC a D m]):=Fk (by rw[a1.out,if_neg (fun h=>h aA)]);clear aA a1;go_upto_region 8 with (fail)
     have ch:=qC (some ⟨b5,o5,none⟩) D.length d m (by omega);obtain ⟨A5,bq,b8⟩:=tc b5 o5 D.length d (m+1) (by omega) hd;have a2:((m+1:Nat):Int)=(m:Int)+1:=by omega
     have d9:IntKind.i64.wrap ((m:Int)+1)=(m:Int)+1:=by simp[IntKind.wrap,IntKind.bits,IntKind.signed];omega
     rw[a2] at bq;have b0:=HB.out.keep be.out;have b7:=nw (k:=m) b0 (by omega);have cg:=Ad (n:=m+1) b0 (by omega) (fun h=>b8 (by omega));have H51':Rd w4 [] 2 (some ⟨b5,o5,none⟩) m (ai (D.take m)):=by
      have:=b7;rw[Fw,Nat.min_eq_left (Nat.le_of_lt a3)] at this;exact this
     have b3:Hid (∀ W g,aa [] w4 W→Rd W [] 1 (some ⟨g,0,none⟩) 3 [FD (some ⟨b4,o4,none⟩) a.length c,FD (some ⟨b5,o5,none⟩) m d,FD A5 (D.length-(m+1)) (d-(m+1))]→Calls Tryz.prog 92 #[FD (some ⟨g,0,none⟩) 3 3] W fun e w'=>(∃ v,e=FF v∧w'.ownsRow W.heap.size 64 2 v (gC a D m).length (ai (gC a D m)))∧aa [] W w'):=Fk fun W g z hr=>by
      have h:=tb [(a.length,ai a),(m,ai (D.take m)),(D.length-(m+1),ai (D.drop (m+1)))] [FD (some ⟨b4,o4,none⟩) a.length c,FD (some ⟨b5,o5,none⟩) m d,FD A5 (D.length-(m+1)) (d-(m+1))] (some ⟨g,0,none⟩) 3 W rfl hr (fun i hi hi'=>by
       match i,hi with
       | 0,_=>exact ⟨_,_,rfl,(HA.out.keep be.out).keep z⟩
       | 1,_=>exact ⟨_,_,rfl,H51'.keep z⟩
       | 2,_=>exact ⟨_,_,rfl,cg.keep z⟩) (by simp) (by simp[du];omega) (fun p hp x hx=>by
       simp only[List.mem_cons,List.not_mem_nil,or_false] at hp;rcases hp with rfl|rfl|rfl<;>exact ll _ x hx)
      have e1:du [(a.length,ai a),(m,ai (D.take m)),(D.length-(m+1),ai (D.drop (m+1)))] 3=(gC a D m).length:=by
       rw[tf a3];simp[du];omega
      have e2:iP [(a.length,ai a),(m,ai (D.take m)),(D.length-(m+1),ai (D.drop (m+1)))] 3=ai (gC a D m):=by
       unfold gC ai;simp[iP]
      rw[←e1,←e2];exact h
     have ca:=tf (a:=a) a3;obtain ⟨out,bo⟩:∃ out,gC a D m=out:=⟨_,rfl⟩
     rw[bo] at bj b3 ca;have d5:out.length≤8589934:=by omega
     clear ca bo b7 H51' cg b0 b8 HA HB;refine wp_region_still_tail 8 (by kernel_rfl) (by kernel_rfl) ?_;simp only[List.take_succ_cons,List.take_zero,List.drop_succ_cons,List.drop_zero];repeat still_step
     refine wpStill_nil ?_;go_wp2_with fail
     refine (b3.out _ _ ?_ ?_).mono ?_
     ·first|exact (Fz _ _).drew.alloc _|exact ((Fz _ _).alloc _).drew
     ·first|exact uW w4.drew 51 [_,_,_] 3 1 rfl|exact uW w4 51 [_,_,_] 3 1 rfl
     rintro e w6 ⟨⟨v,rfl,bm⟩,k6⟩;have ce:=Fk ((be.out.trans ((Fz _ _).drew.alloc _)).trans k6);obtain ⟨Av,cv,rfl,ds,cd⟩:=B8 bm;have cr:=Fk cd;clear bm cd k6 ch bq a2 b3;go_wp2_with fail
     go_loopw [63] (fun i wr=>∃ t:Nat,t≤out.length∧i=FH FI t∧Hid (∀ q,q<t→(h2:q<out.length)→an (out.take q) out[q].name=none)∧Hid (aa [] w6 wr)) (fun i _=>out.length-(intOf i).toNat)
     case atStart=>exact ⟨0,Fu _,rfl,Fk (fun q hq=>absurd hq (by omega)),Fk (Fz _ _)⟩
     obtain ⟨t,ht,rfl,HN,a6⟩:=hrel;obtain ⟨wt,rfl⟩:∃ z:World,z=wr:=⟨_,rfl⟩
     by_cases br:t<out.length
     ·have c5:(t:Int)<(out.length:Int):=by omega
      have bv:=cr.out.keep a6.out;have b9:=nw (k:=t) bv (by omega);obtain ⟨b6,o6,rfl,_,d3,bz⟩:=bv.open' (by omega) (by omega);have d0:=bz (t*2) _ (aN out t br).1;have d1:=bz (t*2+1) _ (aN out t br).2;rw[←Nat.add_assoc] at d1;have cy:(out.take t).length=t:=by rw[Fw,Nat.min_eq_left ht]
      have bt:Hid (∀ W,aa [] wt W→Calls Tryz.prog 89 #[FD (some ⟨b6,o6,none⟩) t cv,FC (bs out[t].name)] W fun e W'=>e=FF (FH FI (eG (an (out.take t) out[t].name)))∧aa [] W W'):=Fk fun W q=>by
       have:=bQ (out.take t) out[t].name (some ⟨b6,o6,none⟩) cv W (b9.keep q) (by omega);rw[cy] at this;exact this
      have U:Hid (∀ k,an (out.take t) out[t].name=some k→kp out=true):=Fk fun k h=>ya br h
      have bb:Hid (an (out.take t) out[t].name=none→∀ q,q<t+1→(h2:q<out.length)→an (out.take q) out[q].name=none):=Fk fun h q hq h2=>by
       by_cases dt:q<t
       ·exact HN.out q dt h2
       obtain rfl:q=t:=by omega
       exact h
      obtain ⟨cx,c0⟩:∃ cx,an (out.take t) out[t].name=cx:=⟨_,rfl⟩
      rw[c0] at bt U bb;obtain ⟨x,hx⟩:∃ x,out[t]=x:=⟨_,rfl⟩
      rw[hx] at d0 d1 bt;have dv:=qC (some ⟨b6,o6,none⟩) out.length cv t (by omega);clear bz bv b9 hx cy c0;go_upto_region 12 with (fail)
      have a0:ao (wt.alloc (FG #[FC (bs x.name),FH FI x.kind] 64)) wt.heap.size 64 #[FC (bs x.name),FH FI x.kind]:=FA _ _ _;have a7:aa [] wt (wt.alloc (FG #[FC (bs x.name),FH FI x.kind] 64)):=(Fz _ _).alloc _;generalize wt.alloc (FG #[FC (bs x.name),FH FI x.kind] 64)=y at a0 a7 ⊢;generalize wt.heap.size=gx at a0 ⊢;have x0:y.cell? ⟨gx,0,none⟩=some (FC (bs x.name)):=a0.cell 0;have xl:=a0.lt;have HFD':Hid (∀ W,aa [] y W→Calls Tryz.prog 89 #[FD (some ⟨b6,o6,none⟩) t cv,FC (bs x.name)] W fun e W'=>e=FF (FH FI (eG cx))∧aa [] W W'):=Fk fun W q=>bt.out W (a7.trans q)
      have cu:=Fk (a6.out.trans a7);clear a0 a7 d0 d1
      cases cx with
      | none =>
       have b1:Hid (∀ W,aa [] y W→Calls Tryz.prog 89 #[FD (some ⟨b6,o6,none⟩) t cv,FC (bs x.name)] W fun e W'=>e=FF (FH FI (-1))∧aa [] W W'):=HFD';have c8:=Fk (bb.out rfl);clear HFD' U bb;refine ah (by kernel_rfl) (by kernel_rfl) ?_;repeat (go_big_quiet_step (first|with_reducible exact KW.of b1.out _))
       refine wpQuiet_nil ?_;intro wz kz;have HX:=Fk (cu.out.trans kz);clear x0 xl kz;go_wp2;go_roundw
       case rel=>exact ⟨t+1,by omega,by go_num,c8,HX⟩
       case measure=>simp[intOf];omega
      | some k =>
       have b1:Hid (∀ W,aa [] y W→Calls Tryz.prog 89 #[FD (some ⟨b6,o6,none⟩) t cv,FC (bs x.name)] W fun e W'=>e=FF (FH FI (k:Int))∧aa [] W W'):=HFD';have HE:Hid (R= .error 9):=Fk (by rw[bj.out,if_pos (U.out k rfl)]);have dz:(0:Int)≤(k:Int):=by omega
       clear HFD' U bb;refine ah (by kernel_rfl) (by kernel_rfl) ?_;repeat (go_big_quiet_step (first|with_reducible exact KW.of b1.out _))
       refine wpQuiet_nil ?_;intro wz kz;have HX:=Fk (ce.out.trans (cu.out.trans kz));clear x0 xl kz;go_wp2;go_ret2;exact ⟨by rw[HE.out];rfl,HX.out⟩
     have c5:¬(t:Int)<(out.length:Int):=by omega
     have ba:kp out=false:=ou.2 fun q hq=>HN.out q (by omega) hq
     have HX:=Fk (ce.out.trans a6.out);have c4:=Fk (cr.out.keep a6.out);by_cases h6:6<out.length
     ·have HE:Hid (R= .error 4):=Fk (by rw[bj.out,ba,if_neg (by simp),if_pos h6])
      have c6:(6:Int)<(out.length:Int):=by omega
      clear ba;go_wp2;go_ret2;exact ⟨by rw[HE.out];rfl,HX.out⟩
     have HE:Hid (R= .ok [out]):=Fk (by rw[bj.out,ba,if_neg (by simp),if_neg h6]);have c6:¬(6:Int)<(out.length:Int):=by omega
     have dr:=Fk ds;clear ba;go_wp2;go_ret2;exact ⟨by rw[HE.out];exact ⟨_,_,rfl,Fm _,eI c4.out dr.out _⟩,HX.out.alloc _⟩
    have tk:(x != y)=true:=by simp[aA]
    have HE:Hid (R= .error 13):=Fk (by rw[a1.out,if_pos aA]);clear aA;go_wp2;go_ret2;exact ⟨by rw[HE.out];rfl,be.out⟩
 have t0:((cols.length:Int) != 2)=true:=by simp;omega
 have HE:Hid (R= .error 1):=Fk (by rw[HR.out,if_pos h1]);clear h1 HR HA HB;go_enter Tryz.func61,Tryz.ntmps61
 go_wp2;go_ret2;exact ⟨by rw[HE.out];rfl,(Fz _ _).alloc _⟩
end
section
theorem oA {a:List Cl}:∀ {ns seen:List Bs} {acc out:List Cl},cW a seen ns acc= .ok out→out.length=acc.length+ns.length
 | [],seen,acc,out,h=>by
  unfold cW at h;cases h
  rfl
 | n::ns,seen,acc,out,h=>by
  unfold cW at h;split at h
  ·cases h
  split at h
  ·cases h
  rw[oA h,Fo,List.length_singleton,Fv];omega
theorem yh {j:Jb} {ins cs:List (List Cl)} (h:aK j ins= .ok cs) (N:∀ l∈ins,l.length≤6):∀ c∈cs,c.length≤6:=by
 have U:∀ k,(ins.getD k []).length≤6:=fun k=>by
  by_cases J:k<ins.length
  ·rw[Fy,Fp J]
   exact N _ (Fs J)
  rw[Fy,List.getElem?_eq_none (by omega)];simp
 have H:=U 0;have D:∀ {q:List Cl},q.length≤6→∀ c∈[q],c.length≤6:=fun V c I=>by rw[List.mem_singleton.1 I];exact V
 unfold aK at h;split at h
 ·cases h
 split at h
 ·unfold aX at h
  split at h
  ·cases h
  split at h
  ·cases h
  split at h
  ·cases h
  cases h
  intro c I;rw[List.eq_of_mem_replicate I];exact H
 split at h
 ·unfold jS at h
  split at h
  ·cases h
  split at h
  ·cases h
  split at h
  ·cases h
  cases h;exact D H
 split at h
 ·unfold bW at h
  split at h
  ·cases h
  rename_i M;split at h
  ·cases h
  rename_i out O;cases h
  refine D ?_;split
  ·exact H
  rw[oA O,List.length_nil,Nat.zero_add];omega
 split at h
 ·split at h
  ·cases h
  cases h;exact D H
 split at h
 ·unfold dg at h
  split at h
  ·cases h
  split at h
  ·split at h
   ·cases h
   split at h
   ·cases h
   split at h
   ·cases h
   rename_i M;cases h
   exact D (by omega)
  cases h
 split at h
 ·unfold cF at h
  split at h
  ·cases h
  split at h
  ·split at h
   ·cases h
   split at h
   ·cases h
   cases h
   exact D (by simp)
  cases h
 cases h;exact D H
def BL (m:Cm):Prop:=∀ q∈m,q.2.length≤6
theorem BL.get {m:Cm} (h:BL m) (n:Bs):(dM m n).length≤6:=by
 unfold dM
 induction m with
 | nil=>simp
 | cons q m ih =>
  obtain ⟨D,q2⟩:=q;rw[List.lookup_cons];by_cases H:n=D
  ·subst H
   simp only[beq_self_eq_true];exact h _ (List.mem_cons_self ..)
  have:(n==D)=false:=by simpa using H
  rw[this];exact ih fun q I=>h q (List.mem_cons_of_mem _ I)
theorem BL.put {m:Cm} (h:BL m) {n:Bs} {c:List Cl} (H:c.length≤6):BL ((n,c)::m):=fun q D=>by
 rcases List.mem_cons.1 D with rfl|D
 ·exact H
 exact h q D
end
section
open Go.RowKit Go.BigFrame
def cC (w:World) (u:Value) (h:List (List Vl)):Prop:=∃ A c,u=FD A h.length c∧h.length≤c∧cJ w [] A h
def fk (w:World) (A:Option Addr) (l:List (List (List Vl))):Prop :=
 ∃ us:List Value,us.length=l.length∧Rd w [] 1 A l.length us∧∀ i (h:i<us.length) (h':i<l.length),cC w us[i] l[i]
def dw (R:Except Int (List (List (List Vl)))) (e:Ending) (w':World):Prop:=match R with
 | .error x=>e=FF (.tuple #[FD none 0 0,.iface 37 (FH FI x)])
 | .ok out=>∃ B d,e=FF (.tuple #[FD B out.length d,.nilIface])∧out.length≤d∧fk w' B out
theorem cC.keep {w w':World} {u:Value} {l:List (List Vl)} (h:cC w u l) (D:aa [] w w'):cC w' u l:=by
 obtain ⟨A,c,e,H,h⟩:=h;exact ⟨A,c,e,H,h.keep D⟩
theorem fk.keep {w w':World} {A:Option Addr} {D:List (List (List Vl))} (h:fk w A D) (H:aa [] w w'):fk w' A D:=by
 obtain ⟨us,M,J,I⟩:=h;exact ⟨us,M,J.keep H,fun i a b=>(I i a b).keep H⟩
theorem dw.split {R:Except Int (List (List (List Vl)))} {e:Ending} {w:World} (h:dw R e w):∃ u v,e=FF (.tuple #[u,v])∧dw R (FF (.tuple #[u,v])) w:=by
 cases R with
 | error x=>exact ⟨_,_,h,rfl⟩
 | ok out =>
  obtain ⟨B,d,rfl,H,D⟩:=h;exact ⟨_,_,rfl,B,d,rfl,H,D⟩
theorem wM {w:World} {g:Nat} {us:List Value} {l:List (List (List Vl))} (J:us.length=l.length) (D:g<w.heap.size) (H:∀ j u,us[j]? = some u→w.cell? ⟨g,j,none⟩=some u) (h:∀ i (h:i<us.length) (h':i<l.length),cC w us[i] l[i]):fk w (some ⟨g,0,none⟩) l:=by
 refine ⟨us,J,⟨by omega,fun _=>⟨_,rfl,by simp,D,fun j u I=>?_⟩⟩,h⟩;rw[cI,Nat.zero_add];exact H j u I
theorem em {w:World} {u:Value} {l:List (List Vl)} (h:cC w u l) (t:TypeId):fk (w.alloc (FG #[u] t)) (some ⟨w.heap.size,0,none⟩) [l]:=by
 have H:aa [] w (w.alloc (FG #[u] t)):=(Fz _ _).alloc _;refine wM (us:=[u]) rfl (FA _ _ _).lt (fun j x I=>?_) (fun i J M=>?_)
 ·rw[(FA w t #[u]).cell j]
  simpa using I
 have D:i=0:=by simp at J;omega
 subst D;exact h.keep H
def fX (w W:World) (base:Nat) (v:Value) (D:List (List Vl)):Prop :=
 ∃ us:List Value,us.length=D.length∧W.ownsRow base 89 1 v D.length us∧∀ i (h:i<us.length) (h':i<D.length),fG w [] us[i] D[i]
theorem fX.nil (w D:World) (base:Nat):fX w D base (FD none 0 0) []:=⟨[],rfl,World.ownsRow_nil _ _ _ _,fun i h=>by simp at h⟩
theorem fX.keep {w W W':World} {base:Nat} {v:Value} {D:List (List Vl)} (h:fX w W base v D) (M:aa [] W W'):fX w W' base v D:=by
 obtain ⟨us,I,J,H⟩:=h;exact ⟨us,I,aE J M (fun _ _=>by simp),H⟩
theorem fX.kept {w W W':World} {base:Nat} {v:Value} {I:List (List Vl)} {D:Option Nat} (h:fX w W base v I) (O:W.grownBy W' D) (H:v.ownBlock=none∨v.ownBlock≠D):fX w W' base v I:=by
 obtain ⟨us,M,N,J⟩:=h;exact ⟨us,M,N.kept O H,J⟩
theorem fX.is {w W:World} {base:Nat} {v:Value} {D:List (List Vl)} (h:fX w W base v D) (H:aa [] w W):cC W v D:=by
 obtain ⟨us,J,I,N⟩:=h;obtain ⟨A,c,e,M,O⟩:=iD I;exact ⟨A,c,e,M,us,J,O,fun i a b=>(N i a b).keep H⟩
theorem gZ {w W':World} {base gw cap:Nat} {us:List Value} {D:List (List Vl)} {r:List Vl} {u:Value} (J:us.length=D.length) (M:∀ i (h:i<us.length) (h':i<D.length),fG w [] us[i] D[i]) (N:fG w [] u r)
  (H:W'.ownsRow base 89 1 (FD (some ⟨gw,0,none⟩) (D.length+1) cap) (D.length+1) (us++[u])):fX w W' base (FD (some ⟨gw,0,none⟩) (D.length+1) cap) (D++[r]):=by
 refine ⟨us++[u],by simp[J],by simpa using H,fun i a b=>?_⟩;by_cases I:i<us.length
 ·rw[List.getElem_append_left I,List.getElem_append_left (by omega)]
  exact M i I (by omega)
 have hi':i=us.length:=by simp at a;omega
 subst hi';rw[List.getElem_append_right (Fm _),List.getElem_append_right (by omega)];simpa[J] using N
end
section
structure mi (w:World):Prop where
 t:gG w
 c:rH w
theorem mi.quiet {w w':World} (h:mi w) (D:aa [] w w'):mi w':=⟨h.t.quiet D,h.c.quiet D⟩
theorem mi.cmp {w:World} (h:mi w):∃ A c,w.cell? ⟨1,0,none⟩=some (FD A 6 c)∧Rd w [] 1 A 6 (strs compares):=h.c.cmp
end
end Go.Proofs.YtecpeogejjibaaaGreatDoor
