/- The parser's body at its codes. The cutter's letter, digit, run and next. -/
import Derived.Test.YtecpeogejjibaaaGreatDoorEtnM7
import Derived.Lib.IndexLaws
set_option linter.unusedSimpArgs false
set_option linter.unusedVariables false
set_option maxRecDepth 100000
set_option maxHeartbeats 16000000
namespace Go.Proofs.YtecpeogejjibaaaGreatDoor
open Go.Lib renaming hid → Fk
open _root_.Nat renaming le_refl → Fm, le_trans → Ft, zero_le → Fu
open _root_.List renaming length_append → Fo, length_cons → Fv
open Go.World renaming block_lt_of_cell? → Fq, news_of_block → Fx
open aa renaming refl → Fz
open Go.Value renaming string → FC, slice → FD, pointer → FE, int → FH
open Go.Ending renaming returned → FF
open Go.IntKind renaming i64 → FI
section
open Go.RowKit Go.BigFrame
attribute [local go_sem] ag ab ae af
theorem Dr {l:List Tk} {b jb lo:Nat} {v2 v3 v4:Value} (N code:Int) (outs ins cols:List Bs) (op:Bs) (left right:Ar) (D:Int) (w0 w:World) (hE:FB w0 lo) (bb:lo≤b) (h:Ps w b l) (V:aa [b] w0 w) (bt:w0.heap.size≤jb) (hj:aV w w0.heap.size jb ⟨N,code,outs,ins,cols,op,left,right,D⟩ v2 v3 v4) (ch:ins.length≤1000) (ce:cols.length≤1000) (b4:l.length≤1000000) (a5:bR (aS l).text=1) (a3:(aS l).kind=1) :
  Calls Tryz.prog 122 #[FE (some ⟨b,0,none⟩),FE (some ⟨jb,0,none⟩)] w fun e w'=>gb (bF ⟨N,code,outs,ins,cols,op,left,right,D⟩ l) b w0.heap.size jb e w'∧aa [b] w0 w':=by
 obtain ⟨i0,hi,b5,b7,bZ⟩:=info_parts kV;obtain ⟨R,hR⟩:∃ R,bF ⟨N,code,outs,ins,cols,op,left,right,D⟩ l=R:=⟨_,rfl⟩
 rw[hR];have HE:=Fk hE;have M:=Fk h;have U:=Fk V;have I:=Fk hj;have bc:=Fk bt;have ad:Hid (ins.length≤999000):=Fk (by omega);have cd:Hid (cols.length≤999000):=Fk (by omega);have b9:=Fk b4;have a8:Hid (∀ W,aa [] w W→Calls Tryz.prog 48 #[FD (some ⟨4,0,none⟩) 10 10,FC (bs (aS l).text)] W fun e W'=>e=FF (FH FI (dj (aS l).text))∧W=W'):=Fk (fun W q=>cB (aS l).text W ((hE.one bb V).quiet q).env);obtain ⟨q,hq⟩:∃ q,dj (aS l).text=q:=⟨_,rfl⟩
 rw[hq] at a8;have HQ:=Fk hq;obtain ⟨g,o,c,c0,z0,lb,lg,-,hn,hc,a9,k0,k1,k2,-⟩:=h.open';have bj:(0:Int)<(l.length:Int):=by omega
 have f1:w.cell? ⟨jb,1,none⟩=some (FH FI code):=hj.blk.cell 1;have f2:=hj.blk.frozen 1;have lj:=hj.blk.lt;have b6:=Fk a5;have bm:Hid ((aQ l.tail >>= fun p=>j7 ⟨N,1,outs,ins++[p.1],cols,op,left,right,D⟩ p.2)=R):=Fk (by
  rw[←hR];unfold bF;rw[a5,if_neg (by rw[a3];decide)];rfl)
 have b1:bC [102,105,108,116,101,114] l=true:=by
  unfold bC;rw[a3,cT a5 (by decide)];rfl
 have bo:=Fk b1;have b0:=Fk a3;clear hR hE h V hj ch ce b4 bt hq a5 b1 a3;go_enter Tryz.func122,Tryz.ntmps122
 go_upto_region 0 with (fail)
 go_cut [] (fun wx=>wx=(w.setCell ⟨jb,1,none⟩ (FH FI (max q 0))).drew)
 case first =>
  go_region_law (first|(go_simp;go_at_call 48;refine (a8.out _ (Fz [] w).drew).mono ?_;rintro e w6 ⟨rfl,rfl⟩))
  all_goals
   go_wp2;go_meet;exact rfl
 subst hcut;clear c0 z0 lb lg hn hc a9 k0 k1 k2 bj lj f1 f2 a8;have a4:aa [jb] w ((w.setCell ⟨jb,1,none⟩ (FH FI (max q 0))).drew):=((Fz _ _).setCell (.inl (by simp)) _).drew;have hj':aV ((w.setCell ⟨jb,1,none⟩ (FH FI (max q 0))).drew) w0.heap.size jb ⟨N,max q 0,outs,ins,cols,op,left,right,D⟩ v2 v3 v4:=I.out.box a4 ((I.out.blk.set 1 (FH FI (max q 0))).congr (by rfl)) rfl rfl rfl;have hp':=M.out.box I.out a4;have hk':=U.out.box bc.out a4;have hm:max q 0=1:=by rw[←HQ.out,da,b6.out];rfl
 rw[hm] at hj' hp' hk' ⊢;clear hm a4 I M U;obtain ⟨y0,hy⟩:∃ x,(w.setCell ⟨jb,1,none⟩ (FH FI 1)).drew=x:=⟨_,rfl⟩
 rw[hy] at hj' hp' hk' ⊢;have I:=Fk hj';have M:=Fk hp';have U:=Fk hk';have a6:y0.cell? ⟨jb,1,none⟩=some (FH FI 1):=hj'.blk.cell 1;have lj:=hj'.blk.lt;obtain ⟨g,o,c,c0,z0,lb,lg,-,hn,hc,a9,k0,k1,k2,-⟩:=hp'.open';have bj:(0:Int)<(l.length:Int):=by omega
 clear hy hj' hp' hk' hn hc a9 HQ;rw[b0.out] at k0;have wd:=(HE.out.one bb U.out).env.words 1 (by decide);have bX:y0.cell? ⟨4,1,none⟩=some (FC (bs [102,105,108,116,101,114])):=wd;have cn:=Fq _ _ bX;clear wd;go_wp2_with fail
 refine (aT (s:=[102,105,108,116,101,114]) (r:=l.tail) (by unfold aR;rw[if_pos bo.out]) y0 M.out).mono ?_;rintro ev y1 ⟨rfl,hp,V⟩;have HJ':=Fk (I.out.ps M.out V);have HK':=Fk (U.out.trans V);clear M I U c0 z0 lb lg k0 k1 k2 bj a6 lj bX cn;have M:=Fk hp;have I:=HJ';have U:=HK';clear hp V HJ' HK';have HR:=bm;clear bm;have aA:Hid (l.tail.length≤l.length):=Fk (by rw[List.length_tail];omega);obtain ⟨r0,bq⟩:∃ r0,l.tail=r0:=⟨_,rfl⟩
 rw[bq] at M HR aA;clear bq bo b0 b6;have a6:y1.cell? ⟨jb,1,none⟩=some (FH FI 1):=I.out.blk.cell 1;have bz:=I.out.blk.lt;go_upto_region 13 with (fail)
 obtain ⟨A2,c2,hv,-⟩:=aq I.out.o3;subst hv;have fS:y1.cell? ⟨jb,3,none⟩=some (FD A2 (ins).length c2)∧y1.frozen? ⟨jb,3,none⟩=false:=⟨I.out.blk.cell 3,I.out.blk.frozen 3⟩;have lj:=I.out.blk.lt;have a1:=Fk (show (ins).length+1≤maxLen∧((ins).length+1)*16≤140737488355328 by have:=ad.out;simp only[maxLen];first|omega|(simp only[Fo,Fv,List.length_nil];omega));have ba:Hid (jb∉[b]):=Fk (by have:=I.out.blk.ty.ne M.out.ty (by decide);simpa using this);rcases Z:aQ r0 with x|⟨a2,r2⟩
 ·have O:=HR.out
  rw[Z,au] at O;have HX:=Fk O.symm;have HC:Hid (∀ W,aa [] y1 W→Calls Tryz.prog 80 #[FE (some ⟨b,0,none⟩)] W fun e w'=>bS x e w'∧aa [b] W w'):=Fk (fun W z=>bN Z W (M.out.keep z));clear O Z;go_wp2_with fail
  go_region_law (first|(refine step_append_lies _ (by rfl) _ _ _ (by rfl) w0.heap.size 9 i0 _ 1 16 Tryz.underlying44 hi b5 b7 bZ rfl (by decide) (FD A2 (ins).length c2) (ins).length (strs (ins)) (by rfl) ((I.out.ps M.out H.undrew).o3.alloc _) ⟨w6.heap.size,0,none⟩ 1 1 [FC (bs [])] (by rfl) rfl (Fx (heap_alloc_new _ _)) (by simp[Value.oneCell']) (by decide) a1.out.1 a1.out.2 (by have:=U.out.size;have:=H.size;have h9:y1.drew.heap.size=y1.heap.size:=rfl;simp;omega) _ rfl ?_;intro gw cap w7 a0 J a7 bv;obtain ⟨ca,ci⟩:=aC J (aB ⟨av,be⟩ _) (fun e=>(aL (I.out.ps M.out H.undrew).o3 jb e).ne (I.out.ps M.out H.undrew).blk.ty (by decide) rfl))|(go_simp;go_at_call 80;refine (HC.out _ (Fz [] y1).drew).mono ?_;rintro e w6 ⟨⟨gi,rfl,hb⟩,H⟩;obtain ⟨av,be⟩:=aH H fS ba.out;have cm:jb<w6.heap.size:=Fq w6 ⟨jb,3,none⟩ av;dsimp only;(go_loud (refine cS ‹∀ (a:Act) (w:World),wpAny _ _ _ _ _ _ a w→_› (some 88) (FC (bs [])) ⟨rfl,by rw[HX.out];exact ⟨gi,rfl,hb⟩,U.out.trans H.undrew⟩ (fun hF=>?_)))))
  all_goals exact hF.out.elim
 have O:=HR.out;rw[Z,ar] at O;try dsimp only at O
 clear HR;have HR:=Fk O;clear O;have HC:Hid (∀ W,aa [] y1 W→Calls Tryz.prog 80 #[FE (some ⟨b,0,none⟩)] W fun e w'=>e=FF (FC (bs a2))∧Ps w' b r2∧aa [b] W w'):=Fk (fun W z=>bi Z W (M.out.keep z));have b3:Hid (r2.length≤l.length):=Fk (by have:=aA.out;have:=az Z;omega);clear aA;have aA:=b3;clear b3;clear Z;go_cut [] (fun wx=>∃ br,aV wx w0.heap.size jb (⟨N,1,outs,ins++[a2],cols,op,left,right,D⟩:Jb) v2 br v4∧Ps wx b r2∧aa [b] w0 wx)
 case first =>
  go_region_law (first|(refine step_append_lies _ (by rfl) _ _ _ (by rfl) w0.heap.size 9 i0 _ 1 16 Tryz.underlying44 hi b5 b7 bZ rfl (by decide) (FD A2 (ins).length c2) (ins).length (strs (ins)) (by rfl) ((I.out.ps M.out H.undrew).o3.alloc _) ⟨w6.heap.size,0,none⟩ 1 1 [FC (bs a2)] (by rfl) rfl (Fx (heap_alloc_new _ _)) (by simp[Value.oneCell']) (by decide) a1.out.1 a1.out.2 (by have:=U.out.size;have:=H.size;have h9:y1.drew.heap.size=y1.heap.size:=rfl;simp;omega) _ rfl ?_;intro gw cap w7 a0 J a7 bv;obtain ⟨ca,ci⟩:=aC J (aB ⟨av,be⟩ _) (fun e=>(aL (I.out.ps M.out H.undrew).o3 jb e).ne (I.out.ps M.out H.undrew).blk.ty (by decide) rfl))|(go_simp;go_at_call 80;refine (HC.out _ (Fz [] y1).drew).mono ?_;rintro e w6 ⟨rfl,cg,H⟩;obtain ⟨av,be⟩:=aH H fS ba.out;have cm:jb<w6.heap.size:=Fq w6 ⟨jb,3,none⟩ av))
  all_goals
   go_wp2;go_meet;have hh:=aV.app3 (I.out.ps M.out H.undrew) cg (U.out.trans H.undrew) rfl bc.out J rfl a0 a7 (by simp);exact ⟨_,hh.1,hh.2.1,hh.2.2⟩
 obtain ⟨br,hj,hp,V⟩:=hcut;obtain ⟨y2,rfl⟩:∃ y:World,y=wc:=⟨_,rfl⟩
 clear M I U HC fS lj a1 ba;have M:=Fk hp;have I:=Fk hj;have U:=Fk V;have bk:Hid ((ins++[a2]).length≤999000+2):=Fk (by have:=ad.out;simp only[Fo,Fv,List.length_nil];omega);clear hp hj V ad;generalize ins++[a2]=il2 at I HR bk;have ad:=bk;clear bk;clear a6 bz;have a6:y2.cell? ⟨jb,1,none⟩=some (FH FI 1):=I.out.blk.cell 1;have bz:=I.out.blk.lt;have O:=HR.out;clear HR;have HR:Hid (ei (⟨N,1,outs,il2,cols,op,left,right,D⟩:Jb) r2=R):=Fk O;clear O;have hc:=qn N 1 outs (il2) (cols) op left right D w0 y2 HE.out bb M.out U.out bc.out I.out (by have:=ad.out;first|omega|(simp only[Fo,Fv,List.length_nil];omega)) (by have:=cd.out;first|omega|(simp only[Fo,Fv,List.length_nil];omega)) (Ft aA.out b9.out);have O:=HR.out;rcases Z:ei (⟨N,1,outs,il2,cols,op,left,right,D⟩:Jb) r2 with x|⟨j3,r3⟩
 ·rw[Z] at O hc
  have HX:=Fk O.symm;have cj:=Fk hc;clear O Z hc;go_wp2_with fail
  refine cj.out.mono ?_;rintro ev w9 ⟨⟨gi,rfl,hb⟩,b8⟩;exact ⟨rfl,by rw[HX.out];exact ⟨gi,rfl,hb⟩,b8⟩
 rw[Z] at O hc;have HX:=Fk O.symm;have HC:=Fk hc;clear O Z hc;go_wp2_with fail
 refine HC.out.mono ?_;rintro ev y3 ⟨⟨rfl,⟨va,vb,vc,hj⟩,hp⟩,V⟩;go_wp2;first|go_end0|refine bodyPost_ret (results_none rfl _ _ _) rfl ?_
 exact ⟨by rw[HX.out];exact ⟨rfl,⟨_,_,_,hj⟩,hp⟩,V⟩
theorem Ds {l:List Tk} {b jb lo:Nat} {v2 v3 v4:Value} (N code:Int) (outs ins cols:List Bs) (op:Bs) (left right:Ar) (D:Int) (w0 w:World) (hE:FB w0 lo) (bb:lo≤b) (h:Ps w b l) (V:aa [b] w0 w) (bt:w0.heap.size≤jb) (hj:aV w w0.heap.size jb ⟨N,code,outs,ins,cols,op,left,right,D⟩ v2 v3 v4) (ch:ins.length≤1000) (ce:cols.length≤1000) (b4:l.length≤1000000) (a5:bR (aS l).text=9) (a3:(aS l).kind=1) :
  Calls Tryz.prog 122 #[FE (some ⟨b,0,none⟩),FE (some ⟨jb,0,none⟩)] w fun e w'=>gb (bF ⟨N,code,outs,ins,cols,op,left,right,D⟩ l) b w0.heap.size jb e w'∧aa [b] w0 w':=by
 obtain ⟨i0,hi,b5,b7,bZ⟩:=info_parts kV;obtain ⟨R,hR⟩:∃ R,bF ⟨N,code,outs,ins,cols,op,left,right,D⟩ l=R:=⟨_,rfl⟩
 rw[hR];have HE:=Fk hE;have M:=Fk h;have U:=Fk V;have I:=Fk hj;have bc:=Fk bt;have ad:Hid (ins.length≤999000):=Fk (by omega);have cd:Hid (cols.length≤999000):=Fk (by omega);have b9:=Fk b4;have a8:Hid (∀ W,aa [] w W→Calls Tryz.prog 48 #[FD (some ⟨4,0,none⟩) 10 10,FC (bs (aS l).text)] W fun e W'=>e=FF (FH FI (dj (aS l).text))∧W=W'):=Fk (fun W q=>cB (aS l).text W ((hE.one bb V).quiet q).env);obtain ⟨q,hq⟩:∃ q,dj (aS l).text=q:=⟨_,rfl⟩
 rw[hq] at a8;have HQ:=Fk hq;obtain ⟨g,o,c,c0,z0,lb,lg,-,hn,hc,a9,k0,k1,k2,-⟩:=h.open';have bj:(0:Int)<(l.length:Int):=by omega
 have f1:w.cell? ⟨jb,1,none⟩=some (FH FI code):=hj.blk.cell 1;have f2:=hj.blk.frozen 1;have lj:=hj.blk.lt;have b6:=Fk a5;have bm:Hid ((aQ l.tail >>= fun p=>j7 ⟨N,9,outs,ins++[p.1],cols,op,left,right,D⟩ p.2)=R):=Fk (by
  rw[←hR];unfold bF;rw[a5,if_neg (by rw[a3];decide)];rfl)
 have b1:bC [115,112,108,105,116] l=true:=by
  unfold bC;rw[a3,cT a5 (by decide)];rfl
 have bo:=Fk b1;have b0:=Fk a3;clear hR hE h V hj ch ce b4 bt hq a5 b1 a3;go_enter Tryz.func122,Tryz.ntmps122
 go_upto_region 0 with (fail)
 go_cut [] (fun wx=>wx=(w.setCell ⟨jb,1,none⟩ (FH FI (max q 0))).drew)
 case first =>
  go_region_law (first|(go_simp;go_at_call 48;refine (a8.out _ (Fz [] w).drew).mono ?_;rintro e w6 ⟨rfl,rfl⟩))
  all_goals
   go_wp2;go_meet;exact rfl
 subst hcut;clear c0 z0 lb lg hn hc a9 k0 k1 k2 bj lj f1 f2 a8;have a4:aa [jb] w ((w.setCell ⟨jb,1,none⟩ (FH FI (max q 0))).drew):=((Fz _ _).setCell (.inl (by simp)) _).drew;have hj':aV ((w.setCell ⟨jb,1,none⟩ (FH FI (max q 0))).drew) w0.heap.size jb ⟨N,max q 0,outs,ins,cols,op,left,right,D⟩ v2 v3 v4:=I.out.box a4 ((I.out.blk.set 1 (FH FI (max q 0))).congr (by rfl)) rfl rfl rfl;have hp':=M.out.box I.out a4;have hk':=U.out.box bc.out a4;have hm:max q 0=9:=by rw[←HQ.out,da,b6.out];rfl
 rw[hm] at hj' hp' hk' ⊢;clear hm a4 I M U;obtain ⟨y0,hy⟩:∃ x,(w.setCell ⟨jb,1,none⟩ (FH FI 9)).drew=x:=⟨_,rfl⟩
 rw[hy] at hj' hp' hk' ⊢;have I:=Fk hj';have M:=Fk hp';have U:=Fk hk';have a6:y0.cell? ⟨jb,1,none⟩=some (FH FI 9):=hj'.blk.cell 1;have lj:=hj'.blk.lt;obtain ⟨g,o,c,c0,z0,lb,lg,-,hn,hc,a9,k0,k1,k2,-⟩:=hp'.open';have bj:(0:Int)<(l.length:Int):=by omega
 clear hy hj' hp' hk' hn hc a9 HQ;rw[b0.out] at k0;have wd:=(HE.out.one bb U.out).env.words 9 (by decide);have bX:y0.cell? ⟨4,9,none⟩=some (FC (bs [115,112,108,105,116])):=wd;have cn:=Fq _ _ bX;clear wd;go_wp2_with fail
 refine (aT (s:=[115,112,108,105,116]) (r:=l.tail) (by unfold aR;rw[if_pos bo.out]) y0 M.out).mono ?_;rintro ev y1 ⟨rfl,hp,V⟩;have HJ':=Fk (I.out.ps M.out V);have HK':=Fk (U.out.trans V);clear M I U c0 z0 lb lg k0 k1 k2 bj a6 lj bX cn;have M:=Fk hp;have I:=HJ';have U:=HK';clear hp V HJ' HK';have HR:=bm;clear bm;have aA:Hid (l.tail.length≤l.length):=Fk (by rw[List.length_tail];omega);obtain ⟨r0,bq⟩:∃ r0,l.tail=r0:=⟨_,rfl⟩
 rw[bq] at M HR aA;clear bq bo b0 b6;have a6:y1.cell? ⟨jb,1,none⟩=some (FH FI 9):=I.out.blk.cell 1;have bz:=I.out.blk.lt;go_upto_region 13 with (fail)
 obtain ⟨A2,c2,hv,-⟩:=aq I.out.o3;subst hv;have fS:y1.cell? ⟨jb,3,none⟩=some (FD A2 (ins).length c2)∧y1.frozen? ⟨jb,3,none⟩=false:=⟨I.out.blk.cell 3,I.out.blk.frozen 3⟩;have lj:=I.out.blk.lt;have a1:=Fk (show (ins).length+1≤maxLen∧((ins).length+1)*16≤140737488355328 by have:=ad.out;simp only[maxLen];first|omega|(simp only[Fo,Fv,List.length_nil];omega));have ba:Hid (jb∉[b]):=Fk (by have:=I.out.blk.ty.ne M.out.ty (by decide);simpa using this);rcases Z:aQ r0 with x|⟨a2,r2⟩
 ·have O:=HR.out
  rw[Z,au] at O;have HX:=Fk O.symm;have HC:Hid (∀ W,aa [] y1 W→Calls Tryz.prog 80 #[FE (some ⟨b,0,none⟩)] W fun e w'=>bS x e w'∧aa [b] W w'):=Fk (fun W z=>bN Z W (M.out.keep z));clear O Z;go_wp2_with fail
  go_region_law (first|(refine step_append_lies _ (by rfl) _ _ _ (by rfl) w0.heap.size 9 i0 _ 1 16 Tryz.underlying44 hi b5 b7 bZ rfl (by decide) (FD A2 (ins).length c2) (ins).length (strs (ins)) (by rfl) ((I.out.ps M.out H.undrew).o3.alloc _) ⟨w6.heap.size,0,none⟩ 1 1 [FC (bs [])] (by rfl) rfl (Fx (heap_alloc_new _ _)) (by simp[Value.oneCell']) (by decide) a1.out.1 a1.out.2 (by have:=U.out.size;have:=H.size;have h9:y1.drew.heap.size=y1.heap.size:=rfl;simp;omega) _ rfl ?_;intro gw cap w7 a0 J a7 bv;obtain ⟨ca,ci⟩:=aC J (aB ⟨av,be⟩ _) (fun e=>(aL (I.out.ps M.out H.undrew).o3 jb e).ne (I.out.ps M.out H.undrew).blk.ty (by decide) rfl))|(go_simp;go_at_call 80;refine (HC.out _ (Fz [] y1).drew).mono ?_;rintro e w6 ⟨⟨gi,rfl,hb⟩,H⟩;obtain ⟨av,be⟩:=aH H fS ba.out;have cm:jb<w6.heap.size:=Fq w6 ⟨jb,3,none⟩ av;dsimp only;(go_loud (refine cS ‹∀ (a:Act) (w:World),wpAny _ _ _ _ _ _ a w→_› (some 88) (FC (bs [])) ⟨rfl,by rw[HX.out];exact ⟨gi,rfl,hb⟩,U.out.trans H.undrew⟩ (fun hF=>?_)))))
  all_goals exact hF.out.elim
 have O:=HR.out;rw[Z,ar] at O;try dsimp only at O
 clear HR;have HR:=Fk O;clear O;have HC:Hid (∀ W,aa [] y1 W→Calls Tryz.prog 80 #[FE (some ⟨b,0,none⟩)] W fun e w'=>e=FF (FC (bs a2))∧Ps w' b r2∧aa [b] W w'):=Fk (fun W z=>bi Z W (M.out.keep z));have b3:Hid (r2.length≤l.length):=Fk (by have:=aA.out;have:=az Z;omega);clear aA;have aA:=b3;clear b3;clear Z;go_cut [] (fun wx=>∃ br,aV wx w0.heap.size jb (⟨N,9,outs,ins++[a2],cols,op,left,right,D⟩:Jb) v2 br v4∧Ps wx b r2∧aa [b] w0 wx)
 case first =>
  go_region_law (first|(refine step_append_lies _ (by rfl) _ _ _ (by rfl) w0.heap.size 9 i0 _ 1 16 Tryz.underlying44 hi b5 b7 bZ rfl (by decide) (FD A2 (ins).length c2) (ins).length (strs (ins)) (by rfl) ((I.out.ps M.out H.undrew).o3.alloc _) ⟨w6.heap.size,0,none⟩ 1 1 [FC (bs a2)] (by rfl) rfl (Fx (heap_alloc_new _ _)) (by simp[Value.oneCell']) (by decide) a1.out.1 a1.out.2 (by have:=U.out.size;have:=H.size;have h9:y1.drew.heap.size=y1.heap.size:=rfl;simp;omega) _ rfl ?_;intro gw cap w7 a0 J a7 bv;obtain ⟨ca,ci⟩:=aC J (aB ⟨av,be⟩ _) (fun e=>(aL (I.out.ps M.out H.undrew).o3 jb e).ne (I.out.ps M.out H.undrew).blk.ty (by decide) rfl))|(go_simp;go_at_call 80;refine (HC.out _ (Fz [] y1).drew).mono ?_;rintro e w6 ⟨rfl,cg,H⟩;obtain ⟨av,be⟩:=aH H fS ba.out;have cm:jb<w6.heap.size:=Fq w6 ⟨jb,3,none⟩ av))
  all_goals
   go_wp2;go_meet;have hh:=aV.app3 (I.out.ps M.out H.undrew) cg (U.out.trans H.undrew) rfl bc.out J rfl a0 a7 (by simp);exact ⟨_,hh.1,hh.2.1,hh.2.2⟩
 obtain ⟨br,hj,hp,V⟩:=hcut;obtain ⟨y2,rfl⟩:∃ y:World,y=wc:=⟨_,rfl⟩
 clear M I U HC fS lj a1 ba;have M:=Fk hp;have I:=Fk hj;have U:=Fk V;have bk:Hid ((ins++[a2]).length≤999000+2):=Fk (by have:=ad.out;simp only[Fo,Fv,List.length_nil];omega);clear hp hj V ad;generalize ins++[a2]=il2 at I HR bk;have ad:=bk;clear bk;clear a6 bz;have a6:y2.cell? ⟨jb,1,none⟩=some (FH FI 9):=I.out.blk.cell 1;have bz:=I.out.blk.lt;have O:=HR.out;clear HR;have HR:Hid (ei (⟨N,9,outs,il2,cols,op,left,right,D⟩:Jb) r2=R):=Fk O;clear O;have hc:=qn N 9 outs (il2) (cols) op left right D w0 y2 HE.out bb M.out U.out bc.out I.out (by have:=ad.out;first|omega|(simp only[Fo,Fv,List.length_nil];omega)) (by have:=cd.out;first|omega|(simp only[Fo,Fv,List.length_nil];omega)) (Ft aA.out b9.out);have O:=HR.out;rcases Z:ei (⟨N,9,outs,il2,cols,op,left,right,D⟩:Jb) r2 with x|⟨j3,r3⟩
 ·rw[Z] at O hc
  have HX:=Fk O.symm;have cj:=Fk hc;clear O Z hc;go_wp2_with fail
  refine cj.out.mono ?_;rintro ev w9 ⟨⟨gi,rfl,hb⟩,b8⟩;exact ⟨rfl,by rw[HX.out];exact ⟨gi,rfl,hb⟩,b8⟩
 rw[Z] at O hc;have HX:=Fk O.symm;have HC:=Fk hc;clear O Z hc;go_wp2_with fail
 refine HC.out.mono ?_;rintro ev y3 ⟨⟨rfl,⟨va,vb,vc,hj⟩,hp⟩,V⟩;go_wp2;first|go_end0|refine bodyPost_ret (results_none rfl _ _ _) rfl ?_
 exact ⟨by rw[HX.out];exact ⟨rfl,⟨_,_,_,hj⟩,hp⟩,V⟩
theorem Dt {l:List Tk} {b jb lo:Nat} {v2 v3 v4:Value} (N code:Int) (outs ins cols:List Bs) (op:Bs) (left right:Ar) (D:Int) (w0 w:World) (hE:FB w0 lo) (bm:lo≤b) (h:Ps w b l) (hk:aa [b] w0 w) (bo:w0.heap.size≤jb) (hj:aV w w0.heap.size jb ⟨N,code,outs,ins,cols,op,left,right,D⟩ v2 v3 v4) (b9:ins.length≤1000) (b7:cols.length≤1000) (b1:l.length≤1000000) (a1:bR (aS l).text=6) (av:(aS l).kind=1) :
  Calls Tryz.prog 122 #[FE (some ⟨b,0,none⟩),FE (some ⟨jb,0,none⟩)] w fun e w'=>gb (bF ⟨N,code,outs,ins,cols,op,left,right,D⟩ l) b w0.heap.size jb e w'∧aa [b] w0 w':=by
 obtain ⟨i0,hi,b3,b5,bv⟩:=info_parts kV;obtain ⟨R,hR⟩:∃ R,bF ⟨N,code,outs,ins,cols,op,left,right,D⟩ l=R:=⟨_,rfl⟩
 rw[hR];have HE:=Fk hE;have M:=Fk h;have O:=Fk hk;have I:=Fk hj;have bz:=Fk bo;have aA:Hid (ins.length≤999000):=Fk (by omega);have ch:Hid (cols.length≤999000):=Fk (by omega);have cg:=Fk b1;have a6:Hid (∀ W,aa [] w W→Calls Tryz.prog 48 #[FD (some ⟨4,0,none⟩) 10 10,FC (bs (aS l).text)] W fun e W'=>e=FF (FH FI (dj (aS l).text))∧W=W'):=Fk (fun W q=>cB (aS l).text W ((hE.one bm hk).quiet q).env);obtain ⟨q,hq⟩:∃ q,dj (aS l).text=q:=⟨_,rfl⟩
 rw[hq] at a6;have HQ:=Fk hq;obtain ⟨g,o,c,c0,z0,lb,lg,-,hn,hc,a7,k0,k1,k2,-⟩:=h.open';have ba:(0:Int)<(l.length:Int):=by omega
 have f1:w.cell? ⟨jb,1,none⟩=some (FH FI code):=hj.blk.cell 1;have f2:=hj.blk.frozen 1;have lj:=hj.blk.lt;have b4:=Fk a1;have bc:Hid ((aQ l.tail >>= fun p=>j7 ⟨N,6,outs,ins++[p.1],cols,op,left,right,D⟩ p.2)=R):=Fk (by
  rw[←hR];unfold bF;rw[a1,if_neg (by rw[av];decide)];rfl)
 have bZ:bC [100,105,115,116,105,110,99,116] l=true:=by
  unfold bC;rw[av,cT a1 (by decide)];rfl
 have be:=Fk bZ;have bX:=Fk av;clear hR hE h hk hj b9 b7 b1 bo hq a1 bZ av;go_enter Tryz.func122,Tryz.ntmps122
 go_upto_region 0 with (fail)
 go_cut [] (fun wx=>wx=(w.setCell ⟨jb,1,none⟩ (FH FI (max q 0))).drew)
 case first =>
  go_region_law (first|(go_simp;go_at_call 48;refine (a6.out _ (Fz [] w).drew).mono ?_;rintro e w6 ⟨rfl,rfl⟩))
  all_goals
   go_wp2;go_meet;exact rfl
 subst hcut;clear c0 z0 lb lg hn hc a7 k0 k1 k2 ba lj f1 f2 a6;have a0:aa [jb] w ((w.setCell ⟨jb,1,none⟩ (FH FI (max q 0))).drew):=((Fz _ _).setCell (.inl (by simp)) _).drew;have hj':aV ((w.setCell ⟨jb,1,none⟩ (FH FI (max q 0))).drew) w0.heap.size jb ⟨N,max q 0,outs,ins,cols,op,left,right,D⟩ v2 v3 v4:=I.out.box a0 ((I.out.blk.set 1 (FH FI (max q 0))).congr (by rfl)) rfl rfl rfl;have hp':=M.out.box I.out a0;have hk':=O.out.box bz.out a0;have hm:max q 0=6:=by rw[←HQ.out,da,b4.out];rfl
 rw[hm] at hj' hp' hk' ⊢;clear hm a0 I M O;obtain ⟨y0,hy⟩:∃ x,(w.setCell ⟨jb,1,none⟩ (FH FI 6)).drew=x:=⟨_,rfl⟩
 rw[hy] at hj' hp' hk' ⊢;have I:=Fk hj';have M:=Fk hp';have O:=Fk hk';have a3:y0.cell? ⟨jb,1,none⟩=some (FH FI 6):=hj'.blk.cell 1;have lj:=hj'.blk.lt;obtain ⟨g,o,c,c0,z0,lb,lg,-,hn,hc,a7,k0,k1,k2,-⟩:=hp'.open';have ba:(0:Int)<(l.length:Int):=by omega
 clear hy hj' hp' hk' hn hc a7 HQ;rw[bX.out] at k0;have wd:=(HE.out.one bm O.out).env.words 6 (by decide);have bt:y0.cell? ⟨4,6,none⟩=some (FC (bs [100,105,115,116,105,110,99,116])):=wd;have ce:=Fq _ _ bt;clear wd;go_wp2_with fail
 refine (aT (s:=[100,105,115,116,105,110,99,116]) (r:=l.tail) (by unfold aR;rw[if_pos be.out]) y0 M.out).mono ?_;rintro ev y1 ⟨rfl,hp,hk⟩;have HJ':=Fk (I.out.ps M.out hk);have HK':=Fk (O.out.trans hk);clear M I O c0 z0 lb lg k0 k1 k2 ba a3 lj bt ce;have M:=Fk hp;have I:=HJ';have O:=HK';clear hp hk HJ' HK';have U:=bc;clear bc;have a4:Hid (l.tail.length≤l.length):=Fk (by rw[List.length_tail];omega);obtain ⟨r0,bj⟩:∃ r0,l.tail=r0:=⟨_,rfl⟩
 rw[bj] at M U a4;clear bj be bX b4;have a3:y1.cell? ⟨jb,1,none⟩=some (FH FI 6):=I.out.blk.cell 1;have br:=I.out.blk.lt;go_upto_region 13 with (fail)
 obtain ⟨A2,c2,hv,-⟩:=aq I.out.o3;subst hv;have fS:y1.cell? ⟨jb,3,none⟩=some (FD A2 (ins).length c2)∧y1.frozen? ⟨jb,3,none⟩=false:=⟨I.out.blk.cell 3,I.out.blk.frozen 3⟩;have lj:=I.out.blk.lt;have ad:=Fk (show (ins).length+1≤maxLen∧((ins).length+1)*16≤140737488355328 by have:=aA.out;simp only[maxLen];first|omega|(simp only[Fo,Fv,List.length_nil];omega));have a8:Hid (jb∉[b]):=Fk (by have:=I.out.blk.ty.ne M.out.ty (by decide);simpa using this);rcases hS:aQ r0 with x|⟨a2,r2⟩
 ·have hr:=U.out
  rw[hS,au] at hr;have HX:=Fk hr.symm;have HC:Hid (∀ W,aa [] y1 W→Calls Tryz.prog 80 #[FE (some ⟨b,0,none⟩)] W fun e w'=>bS x e w'∧aa [b] W w'):=Fk (fun W z=>bN hS W (M.out.keep z));clear hr hS;go_wp2_with fail
  go_region_law (first|(refine step_append_lies _ (by rfl) _ _ _ (by rfl) w0.heap.size 9 i0 _ 1 16 Tryz.underlying44 hi b3 b5 bv rfl (by decide) (FD A2 (ins).length c2) (ins).length (strs (ins)) (by rfl) ((I.out.ps M.out H.undrew).o3.alloc _) ⟨w6.heap.size,0,none⟩ 1 1 [FC (bs [])] (by rfl) rfl (Fx (heap_alloc_new _ _)) (by simp[Value.oneCell']) (by decide) ad.out.1 ad.out.2 (by have:=O.out.size;have:=H.size;have h9:y1.drew.heap.size=y1.heap.size:=rfl;simp;omega) _ rfl ?_;intro gw cap w7 Z J a5 bq;obtain ⟨b6,ca⟩:=aC J (aB ⟨V,a9⟩ _) (fun e=>(aL (I.out.ps M.out H.undrew).o3 jb e).ne (I.out.ps M.out H.undrew).blk.ty (by decide) rfl))|(go_simp;go_at_call 80;refine (HC.out _ (Fz [] y1).drew).mono ?_;rintro e w6 ⟨⟨gi,rfl,hb⟩,H⟩;obtain ⟨V,a9⟩:=aH H fS a8.out;have cd:jb<w6.heap.size:=Fq w6 ⟨jb,3,none⟩ V;dsimp only;(go_loud (refine cS ‹∀ (a:Act) (w:World),wpAny _ _ _ _ _ _ a w→_› (some 88) (FC (bs [])) ⟨rfl,by rw[HX.out];exact ⟨gi,rfl,hb⟩,O.out.trans H.undrew⟩ (fun hF=>?_)))))
  all_goals exact hF.out.elim
 have hr:=U.out;rw[hS,ar] at hr;try dsimp only at hr
 clear U;have U:=Fk hr;clear hr;have HC:Hid (∀ W,aa [] y1 W→Calls Tryz.prog 80 #[FE (some ⟨b,0,none⟩)] W fun e w'=>e=FF (FC (bs a2))∧Ps w' b r2∧aa [b] W w'):=Fk (fun W z=>bi hS W (M.out.keep z));have b0:Hid (r2.length≤l.length):=Fk (by have:=a4.out;have:=az hS;omega);clear a4;have a4:=b0;clear b0;clear hS;go_cut [] (fun wx=>∃ bk,aV wx w0.heap.size jb (⟨N,6,outs,ins++[a2],cols,op,left,right,D⟩:Jb) v2 bk v4∧Ps wx b r2∧aa [b] w0 wx)
 case first =>
  go_region_law (first|(refine step_append_lies _ (by rfl) _ _ _ (by rfl) w0.heap.size 9 i0 _ 1 16 Tryz.underlying44 hi b3 b5 bv rfl (by decide) (FD A2 (ins).length c2) (ins).length (strs (ins)) (by rfl) ((I.out.ps M.out H.undrew).o3.alloc _) ⟨w6.heap.size,0,none⟩ 1 1 [FC (bs a2)] (by rfl) rfl (Fx (heap_alloc_new _ _)) (by simp[Value.oneCell']) (by decide) ad.out.1 ad.out.2 (by have:=O.out.size;have:=H.size;have h9:y1.drew.heap.size=y1.heap.size:=rfl;simp;omega) _ rfl ?_;intro gw cap w7 Z J a5 bq;obtain ⟨b6,ca⟩:=aC J (aB ⟨V,a9⟩ _) (fun e=>(aL (I.out.ps M.out H.undrew).o3 jb e).ne (I.out.ps M.out H.undrew).blk.ty (by decide) rfl))|(go_simp;go_at_call 80;refine (HC.out _ (Fz [] y1).drew).mono ?_;rintro e w6 ⟨rfl,b8,H⟩;obtain ⟨V,a9⟩:=aH H fS a8.out;have cd:jb<w6.heap.size:=Fq w6 ⟨jb,3,none⟩ V))
  all_goals
   go_wp2;go_meet;have hh:=aV.app3 (I.out.ps M.out H.undrew) b8 (O.out.trans H.undrew) rfl bz.out J rfl Z a5 (by simp);exact ⟨_,hh.1,hh.2.1,hh.2.2⟩
 obtain ⟨bk,hj,hp,hk⟩:=hcut;obtain ⟨y2,rfl⟩:∃ y:World,y=wc:=⟨_,rfl⟩
 clear M I O HC fS lj ad a8;have M:=Fk hp;have I:=Fk hj;have O:=Fk hk;have bb:Hid ((ins++[a2]).length≤999000+2):=Fk (by have:=aA.out;simp only[Fo,Fv,List.length_nil];omega);clear hp hj hk aA;generalize ins++[a2]=il2 at I U bb;have aA:=bb;clear bb;clear a3 br;have a3:y2.cell? ⟨jb,1,none⟩=some (FH FI 6):=I.out.blk.cell 1;have br:=I.out.blk.lt;have hr:=U.out;clear U;have U:Hid ((.ok ((⟨N,6,outs,il2,cols,op,left,right,D⟩:Jb),r2):Except (Int×Int) (Jb×List Tk))=R):=Fk hr;clear hr;have HX:=Fk U.out.symm;clear U;go_wp2;first|go_end0|refine bodyPost_ret (results_none rfl _ _ _) rfl ?_
 exact ⟨by rw[HX.out];exact ⟨rfl,⟨_,_,_,I.out⟩,M.out⟩,O.out⟩
theorem pD (b:UInt8) (w:World):Calls Tryz.prog 114 #[.int .u8 (b.toNat:Int)] w fun e w'=>e=FF (.bool (jU b))∧w=w':=by
 obtain ⟨R,D⟩:∃ R,jU b=R:=⟨_,rfl⟩
 rw[D];have h:Hid (R=(decide (97≤b.toNat)&&decide (b.toNat≤122))):=Fk D.symm;clear D;by_cases H:97≤b.toNat
 ·have M:(97:Int)≤(b.toNat:Int):=by omega
  by_cases I:b.toNat≤122
  ·have J:(b.toNat:Int)≤(122:Int):=by omega
   go_enter Tryz.func114,Tryz.ntmps114
   go_wp2;go_ret;exact ⟨by rw[h.out,decide_eq_true H,decide_eq_true I];rfl,rfl⟩
  have J:¬(b.toNat:Int)≤(122:Int):=by omega
  go_enter Tryz.func114,Tryz.ntmps114
  go_wp2;go_ret;exact ⟨by rw[h.out,decide_eq_true H,decide_eq_false I];rfl,rfl⟩
 have M:¬(97:Int)≤(b.toNat:Int):=by omega
 go_enter Tryz.func114,Tryz.ntmps114
 go_wp2;go_ret;exact ⟨by rw[h.out,decide_eq_false H];rfl,rfl⟩
theorem mu (b:UInt8) (w:World):Calls Tryz.prog 117 #[.int .u8 (b.toNat:Int)] w fun e w'=>e=FF (.bool (iZ b))∧w=w':=by
 obtain ⟨R,D⟩:∃ R,iZ b=R:=⟨_,rfl⟩
 rw[D];have h:Hid (R=(decide (48≤b.toNat)&&decide (b.toNat≤57))):=Fk D.symm;clear D;by_cases H:48≤b.toNat
 ·have M:(48:Int)≤(b.toNat:Int):=by omega
  by_cases I:b.toNat≤57
  ·have J:(b.toNat:Int)≤(57:Int):=by omega
   go_enter Tryz.func117,Tryz.ntmps117
   go_wp2;go_ret;exact ⟨by rw[h.out,decide_eq_true H,decide_eq_true I];rfl,rfl⟩
  have J:¬(b.toNat:Int)≤(57:Int):=by omega
  go_enter Tryz.func117,Tryz.ntmps117
  go_wp2;go_ret;exact ⟨by rw[h.out,decide_eq_true H,decide_eq_false I];rfl,rfl⟩
 have M:¬(48:Int)≤(b.toNat:Int):=by omega
 go_enter Tryz.func117,Tryz.ntmps117
 go_wp2;go_ret;exact ⟨by rw[h.out,decide_eq_false H];rfl,rfl⟩
theorem Ek (b:UInt8) (w:World):Calls Tryz.prog 116 #[.int .u8 (b.toNat:Int)] w fun e w'=>e=FF (.bool (sE b))∧w=w':=by
 obtain ⟨R,H⟩:∃ R,sE b=R:=⟨_,rfl⟩
 rw[H];have M:Hid (R=(jU b||iZ b)):=Fk H.symm;have D:=Fk (pD b w);have J:=Fk (mu b w);clear H
 cases h:jU b with
 | true =>
  rw[h] at D;have I:=Fk h;clear h J;go_enter Tryz.func116,Tryz.ntmps116
  go_wp2_with fail
  refine D.out.mono ?_;rintro e N ⟨rfl,rfl⟩;go_wp2;go_ret;exact ⟨by rw[M.out,I.out];rfl,rfl⟩
 | false =>
  rw[h] at D;have I:=Fk h;clear h;go_enter Tryz.func116,Tryz.ntmps116
  go_wp2_with fail
  refine D.out.mono ?_;rintro e N ⟨rfl,rfl⟩;go_wp2_with fail
  refine J.out.mono ?_;rintro e N ⟨rfl,rfl⟩;go_wp2;go_ret;exact ⟨by rw[M.out,I.out];rfl,rfl⟩
theorem sd (p:UInt8→Bool):∀ (s:Bs) (n:Nat),n≤s.length→(∀ j (_:j<n) (D:j<s.length),p s[j]=true)→(∀ (D:n<s.length),p s[n]=false)→gu p s=n
 | [],n,h,_,_=>by simp at h;rw[h];rfl
 | c::s,0,_,_,H=>by
  unfold gu;have:=H (by simp);rw[if_neg (by simpa using this)]
 | c::s,n+1,h,I,H=>by
  unfold gu;have J:=I 0 (by omega) (by simp);rw[if_pos (by simpa using J),sd p s n (by simpa using h) (fun j M D=>I (j+1) (Nat.succ_lt_succ M) (Nat.succ_lt_succ D)) (fun D=>H (Nat.succ_lt_succ D))]
theorem wV (k:Nat) (he:∀ args w,(callFunc k args).run Tryz.prog w= .ok (.enter k args) w) (p:UInt8→Bool) (s:Bs) (ad:s.length≤2000000) (w:World) (hf:∀ c:UInt8,Calls Tryz.prog k #[.int .u8 (c.toNat:Int)] w fun e W'=>e=FF (.bool (p c))∧w=W') :
  Calls Tryz.prog 115 #[FC (bs s),.func (.func k) #[] #[]] w fun e w'=>e=FF (FH FI (gu p s:Nat))∧w=w':=by
 have HF:=Fk hf;obtain ⟨R,N⟩:∃ R,gu p s=R:=⟨_,rfl⟩
 rw[N];have HR:=Fk N;clear hf N;go_enter Tryz.func115,Tryz.ntmps115
 go_wp2;go_loop [5] (fun i=>∃ n:Nat,n≤s.length∧i=FH FI n∧Hid (∀ j (_:j<n) (J:j<s.length),p s[j]=true)) (fun i=>s.length-(intOf i).toNat)
 case atStart=>exact ⟨0,Fu _,rfl,Fk fun j hj=>absurd hj (by omega)⟩
 obtain ⟨n,Z,rfl,D⟩:=hrel;by_cases I:n<s.length
 ·have hi:(n:Int)<(s.length:Int):=by omega
  have M:=Fk (HF.out s[n]);have U:((bs s)[n]'(by rw[ag];exact I))=s[n]:=iR s n _;generalize hx:s[n]=x at *;have V:=Fk hx;clear hx
  cases H:p x with
  | true =>
   rw[H] at M;have O:=Fk H;clear H;go_wp2_with fail
   refine M.out.mono ?_;rintro e W2 ⟨rfl,rfl⟩;go_wp2;go_round
   case rel=>exact ⟨n+1,by omega,by go_num,Fk fun j hj J=>by
    by_cases h:j<n
    ·exact D.out j h J
    obtain rfl:j=n:=by omega
    rw[V.out];exact O.out⟩
   case measure=>simp[intOf];omega
  | false =>
   rw[H] at M;have O:=Fk H;clear H;go_wp2_with fail
   refine M.out.mono ?_;rintro e W2 ⟨rfl,rfl⟩;go_wp2;go_ret;exact ⟨by rw[←HR.out,sd p s n Z D.out (fun J=>by rw[V.out];exact O.out)];rfl,rfl⟩
 have hi:¬(n:Int)<(s.length:Int):=by omega
 go_wp2;go_ret;exact ⟨by rw[←HR.out,sd p s n Z D.out (fun J=>absurd J I)];rfl,rfl⟩
theorem Bx (c:UInt8) (t:Bs) (hs:t.length≤1000000) (w:World) (hE:jW w) :
  Calls Tryz.prog 74 #[FC (bs (c::t))] w fun e w'=>e=FF (.tuple #[FH FI (bH (c::t)).1,FH FI (bH (c::t)).2])∧w=w':=by
 obtain ⟨s,V⟩:∃ s,c::t=s:=⟨_,rfl⟩
 have a4:0<s.length:=by rw[←V];simp
 have a5:s.length≤1000001:=by rw[←V];simp;omega
 have be:(0:Int)<(s.length:Int):=by omega
 have a9:((bs s)[0]'(by rw[ag];exact a4))=c:=by rw[iR];subst V;rfl
 have a0:s.headD 0=c:=by rw[←V];rfl
 have av:s.tail=t:=by rw[←V];rfl
 obtain ⟨R,hR⟩:∃ R,bH s=R:=⟨_,rfl⟩
 rw[V,hR];unfold bH at hR;rw[a0,av] at hR;have HR:=Fk hR;have HL:=Fk (pD c w);have HD:=Fk (mu c w);clear hR
 cases hl:jU c with
 | true =>
  rw[hl] at HL;have Z:Hid (R=(1,(gu sE s:Nat))):=Fk (by rw[←HR.out,hl];rfl);have aA:=Fk (wV 116 (fun _ _=>rfl) sE s (by omega) w (fun c=>Ek c w));clear hl HD HR V a0 av;go_enter Tryz.func74,Tryz.ntmps74
  go_wp2_with fail
  refine HL.out.mono ?_;rintro e U ⟨rfl,rfl⟩;go_wp2_with fail
  refine aA.out.mono ?_;rintro e U ⟨rfl,rfl⟩;go_wp2;go_ret2;exact ⟨by rw[Z.out];rfl,rfl⟩
 | false =>
  rw[hl] at HL
  cases hd:iZ c with
  | true =>
   rw[hd] at HD;have Z:Hid (R=(2,(gu iZ s:Nat))):=Fk (by rw[←HR.out,hl,hd];rfl);have aA:=Fk (wV 117 (fun _ _=>rfl) iZ s (by omega) w (fun c=>mu c w));clear hl hd HR V a0 av;go_enter Tryz.func74,Tryz.ntmps74
   go_wp2_with fail
   refine HL.out.mono ?_;rintro e U ⟨rfl,rfl⟩;go_wp2_with fail
   refine HD.out.mono ?_;rintro e U ⟨rfl,rfl⟩;go_wp2_with fail
   refine aA.out.mono ?_;rintro e U ⟨rfl,rfl⟩;go_wp2;go_ret2;exact ⟨by rw[Z.out];rfl,rfl⟩
  | false =>
   rw[hd] at HD;have a2:Hid ((if c=39 then ((3:Int),if Lib.indexByte t 39<0 then 0 else (Lib.indexByte t 39).toNat+2) else (4,bP s aJ))=R):=Fk (by rw[←HR.out,hl,hd];rfl);have a1:c=39↔(c.toNat:Int)=39:=⟨fun h=>by rw[h];rfl,fun h=>UInt8.toNat_inj.1 (by have:(39:UInt8).toNat=39:=rfl;omega)⟩;by_cases ad:c=39
   ·have t1:((c.toNat:Int)==39)=true:=by rw[beq_iff_eq];exact a1.1 ad
    obtain ⟨k,hk⟩:∃ k,Lib.indexByte t 39=k:=⟨_,rfl⟩
    have Z:Hid (R=(3,if k<0 then 0 else k.toNat+2)):=Fk (by rw[←a2.out,if_pos ad,hk]);have bc:(bs s).extract 1 s.length=bs t:=by rw[ab,List.take_of_length_le (Fm _),←V];rfl
    have HI:Hid (Calls Tryz.prog 67 #[FC (bs t),.int .u8 39] w fun e W'=>e=FF (FH FI k)∧w=W'):=Fk ((Tryz.strings_IndexByte (bs t) 39 w).mono fun e W' ⟨h1,h2⟩=>⟨by rw[h1];exact congrArg (fun x=>Ending.returned (FH FI x)) hk,h2.symm⟩);have bb:k≤1000000:=by
     by_cases hn:k<0
     ·omega
     have h1:=(Lib.indexByte_some (l:=t) (c:=39) (o:=k.toNat) (by rw[hk];omega)).1;have:=(List.getElem?_eq_some_iff.1 h1).1;omega
    clear hl hd HR V a0 av a2 a1 ad;by_cases a3:k<0
    ·have a6:¬(0:Int)≤k:=by omega
     go_enter Tryz.func74,Tryz.ntmps74
     go_wp2_with fail
     refine HL.out.mono ?_;rintro e U ⟨rfl,rfl⟩;go_wp2_with fail
     refine HD.out.mono ?_;rintro e U ⟨rfl,rfl⟩;go_wp2_with fail
     refine HI.out.mono ?_;rintro e U ⟨rfl,rfl⟩;go_wp2;go_ret2;exact ⟨by rw[Z.out,if_pos a3];rfl,rfl⟩
    have a6:(0:Int)≤k:=by omega
    go_enter Tryz.func74,Tryz.ntmps74
    go_wp2_with fail
    refine HL.out.mono ?_;rintro e U ⟨rfl,rfl⟩;go_wp2_with fail
    refine HD.out.mono ?_;rintro e U ⟨rfl,rfl⟩;go_wp2_with fail
    refine HI.out.mono ?_;rintro e U ⟨rfl,rfl⟩;go_wp2;go_ret2;exact ⟨by rw[Z.out,if_neg (by omega:¬k<0)];exact congrArg (fun x=>Ending.returned (.tuple #[FH FI 3,FH FI x])) (by show k+2=((k.toNat+2:Nat):Int);omega),rfl⟩
   have t1:((c.toNat:Int)==39)=false:=by rw[beq_eq_false_iff_ne];exact fun h=>ad (a1.2 h)
   have Z:Hid (R=(4,bP s aJ)):=Fk (by rw[←a2.out,if_neg ad]);have HP:Hid (∀ m:Bs,Calls Tryz.prog 118 #[FC (bs s),FC (bs m)] w fun e W'=>e=FF (.bool (Lib.hasPrefix s m))∧w=W'):=Fk fun m=>(Tryz.strings_HasPrefix (bs s) (bs m) w).mono fun e W' ⟨h1,h2⟩=>⟨h1,h2.symm⟩
   have m0:w.cell? ⟨3,0,none⟩=some (FC (bs [60,62])):=hE.marks 0 (by decide);have m1:w.cell? ⟨3,1,none⟩=some (FC (bs [60,61])):=hE.marks 1 (by decide);have m2:w.cell? ⟨3,2,none⟩=some (FC (bs [62,61])):=hE.marks 2 (by decide);have m3:w.cell? ⟨3,3,none⟩=some (FC (bs [60])):=hE.marks 3 (by decide);have m4:w.cell? ⟨3,4,none⟩=some (FC (bs [62])):=hE.marks 4 (by decide);have m5:w.cell? ⟨3,5,none⟩=some (FC (bs [61])):=hE.marks 5 (by decide);have m6:w.cell? ⟨3,6,none⟩=some (FC (bs [43])):=hE.marks 6 (by decide);have m7:w.cell? ⟨3,7,none⟩=some (FC (bs [45])):=hE.marks 7 (by decide);have m8:w.cell? ⟨3,8,none⟩=some (FC (bs [42])):=hE.marks 8 (by decide);have m9:w.cell? ⟨3,9,none⟩=some (FC (bs [44])):=hE.marks 9 (by decide);have ba:w.cell? ⟨3,10,none⟩=some (FC (bs [59])):=hE.marks 10 (by decide);have a7:w.cell? ⟨3,11,none⟩=some (FC (bs [58])):=hE.marks 11 (by decide);have a8:w.cell? ⟨3,12,none⟩=some (FC (bs [46])):=hE.marks 12 (by decide);have lm:=Fq _ _ m0;clear hl hd HR V a0 av a2 a1 ad hE;go_enter Tryz.func74,Tryz.ntmps74
   go_wp2_with fail
   refine HL.out.mono ?_;rintro e U ⟨rfl,rfl⟩;go_wp2_with fail
   refine HD.out.mono ?_;rintro e U ⟨rfl,rfl⟩;go_wp2;go_loop [31] (fun i=>∃ n:Nat,n≤13∧i=FH FI n∧Hid (bP s aJ=bP s (aJ.drop n))) (fun i=>13-(intOf i).toNat)
   case atStart=>exact ⟨0,Fu _,rfl,Fk rfl⟩
   clear m0 m1 m2 m3 m4 m5 m6 m7 m8 m9 ba a7 a8 lm;obtain ⟨n,hn,rfl,J⟩:=hrel;obtain h13|h13:n=13∨n<13:=by omega
   ·subst h13
    go_wp2;go_ret2;exact ⟨by rw[Z.out,J.out];rfl,rfl⟩
   have M:∀ j (h:j<aJ.length),bP s (aJ.drop j)=if Lib.hasPrefix s aJ[j] then aJ[j].length else bP s (aJ.drop (j+1)):=fun j h=>by
    rw[List.drop_eq_getElem_cons h];rfl
   obtain rfl|rfl|rfl|rfl|rfl|rfl|rfl|rfl|rfl|rfl|rfl|rfl|rfl:n=0∨n=1∨n=2∨n=3∨n=4∨n=5∨n=6∨n=7∨n=8∨n=9∨n=10∨n=11∨n=12:=by omega
   ·have I:=Fk (HP.out [60,62])
    have ix:∀ w,(Instr.index 195 (.agg #[FC (bs [60,62]),FC (bs [60,61]),FC (bs [62,61]),FC (bs [60]),FC (bs [62]),FC (bs [61]),FC (bs [43]),FC (bs [45]),FC (bs [42]),FC (bs [44]),FC (bs [59]),FC (bs [58]),FC (bs [46])]) (FH FI 0)).run Tryz.prog w= .ok (FC (bs [60,62])) w:=fun _=>by kernel_rfl
    have D:=M 0 (by decide);rw[←J.out] at D;have O:=Fk D;clear M D J
    cases H:Lib.hasPrefix s [60,62] with
    | true =>
     rw[H] at I;have N:Hid (R=(4,2)):=Fk (by rw[Z.out,O.out];exact congrArg (Prod.mk 4) (if_pos H));clear H;go_wp2_with fail
     refine I.out.mono ?_;rintro e U ⟨rfl,rfl⟩;go_wp2;go_ret2;exact ⟨by rw[N.out];rfl,rfl⟩
    | false =>
     rw[H] at I;have N:Hid (bP s aJ=bP s (aJ.drop 1)):=Fk (O.out.trans (if_neg (by rw[show aJ[0]=[60,62] from rfl,H];decide)));clear H;go_wp2_with fail
     refine I.out.mono ?_;rintro e U ⟨rfl,rfl⟩;go_wp2;go_round
     case rel=>exact ⟨1,by omega,by go_num,N⟩
     case measure=>simp[intOf]
   ·have I:=Fk (HP.out [60,61])
    have ix:∀ w,(Instr.index 195 (.agg #[FC (bs [60,62]),FC (bs [60,61]),FC (bs [62,61]),FC (bs [60]),FC (bs [62]),FC (bs [61]),FC (bs [43]),FC (bs [45]),FC (bs [42]),FC (bs [44]),FC (bs [59]),FC (bs [58]),FC (bs [46])]) (FH FI 1)).run Tryz.prog w= .ok (FC (bs [60,61])) w:=fun _=>by kernel_rfl
    have D:=M 1 (by decide);rw[←J.out] at D;have O:=Fk D;clear M D J
    cases H:Lib.hasPrefix s [60,61] with
    | true =>
     rw[H] at I;have N:Hid (R=(4,2)):=Fk (by rw[Z.out,O.out];exact congrArg (Prod.mk 4) (if_pos H));clear H;go_wp2_with fail
     refine I.out.mono ?_;rintro e U ⟨rfl,rfl⟩;go_wp2;go_ret2;exact ⟨by rw[N.out];rfl,rfl⟩
    | false =>
     rw[H] at I;have N:Hid (bP s aJ=bP s (aJ.drop 2)):=Fk (O.out.trans (if_neg (by rw[show aJ[1]=[60,61] from rfl,H];decide)));clear H;go_wp2_with fail
     refine I.out.mono ?_;rintro e U ⟨rfl,rfl⟩;go_wp2;go_round
     case rel=>exact ⟨2,by omega,by go_num,N⟩
     case measure=>simp[intOf]
   ·have I:=Fk (HP.out [62,61])
    have ix:∀ w,(Instr.index 195 (.agg #[FC (bs [60,62]),FC (bs [60,61]),FC (bs [62,61]),FC (bs [60]),FC (bs [62]),FC (bs [61]),FC (bs [43]),FC (bs [45]),FC (bs [42]),FC (bs [44]),FC (bs [59]),FC (bs [58]),FC (bs [46])]) (FH FI 2)).run Tryz.prog w= .ok (FC (bs [62,61])) w:=fun _=>by kernel_rfl
    have D:=M 2 (by decide);rw[←J.out] at D;have O:=Fk D;clear M D J
    cases H:Lib.hasPrefix s [62,61] with
    | true =>
     rw[H] at I;have N:Hid (R=(4,2)):=Fk (by rw[Z.out,O.out];exact congrArg (Prod.mk 4) (if_pos H));clear H;go_wp2_with fail
     refine I.out.mono ?_;rintro e U ⟨rfl,rfl⟩;go_wp2;go_ret2;exact ⟨by rw[N.out];rfl,rfl⟩
    | false =>
     rw[H] at I;have N:Hid (bP s aJ=bP s (aJ.drop 3)):=Fk (O.out.trans (if_neg (by rw[show aJ[2]=[62,61] from rfl,H];decide)));clear H;go_wp2_with fail
     refine I.out.mono ?_;rintro e U ⟨rfl,rfl⟩;go_wp2;go_round
     case rel=>exact ⟨3,by omega,by go_num,N⟩
     case measure=>simp[intOf]
   ·have I:=Fk (HP.out [60])
    have ix:∀ w,(Instr.index 195 (.agg #[FC (bs [60,62]),FC (bs [60,61]),FC (bs [62,61]),FC (bs [60]),FC (bs [62]),FC (bs [61]),FC (bs [43]),FC (bs [45]),FC (bs [42]),FC (bs [44]),FC (bs [59]),FC (bs [58]),FC (bs [46])]) (FH FI 3)).run Tryz.prog w= .ok (FC (bs [60])) w:=fun _=>by kernel_rfl
    have D:=M 3 (by decide);rw[←J.out] at D;have O:=Fk D;clear M D J
    cases H:Lib.hasPrefix s [60] with
    | true =>
     rw[H] at I;have N:Hid (R=(4,1)):=Fk (by rw[Z.out,O.out];exact congrArg (Prod.mk 4) (if_pos H));clear H;go_wp2_with fail
     refine I.out.mono ?_;rintro e U ⟨rfl,rfl⟩;go_wp2;go_ret2;exact ⟨by rw[N.out];rfl,rfl⟩
    | false =>
     rw[H] at I;have N:Hid (bP s aJ=bP s (aJ.drop 4)):=Fk (O.out.trans (if_neg (by rw[show aJ[3]=[60] from rfl,H];decide)));clear H;go_wp2_with fail
     refine I.out.mono ?_;rintro e U ⟨rfl,rfl⟩;go_wp2;go_round
     case rel=>exact ⟨4,by omega,by go_num,N⟩
     case measure=>simp[intOf]
   ·have I:=Fk (HP.out [62])
    have ix:∀ w,(Instr.index 195 (.agg #[FC (bs [60,62]),FC (bs [60,61]),FC (bs [62,61]),FC (bs [60]),FC (bs [62]),FC (bs [61]),FC (bs [43]),FC (bs [45]),FC (bs [42]),FC (bs [44]),FC (bs [59]),FC (bs [58]),FC (bs [46])]) (FH FI 4)).run Tryz.prog w= .ok (FC (bs [62])) w:=fun _=>by kernel_rfl
    have D:=M 4 (by decide);rw[←J.out] at D;have O:=Fk D;clear M D J
    cases H:Lib.hasPrefix s [62] with
    | true =>
     rw[H] at I;have N:Hid (R=(4,1)):=Fk (by rw[Z.out,O.out];exact congrArg (Prod.mk 4) (if_pos H));clear H;go_wp2_with fail
     refine I.out.mono ?_;rintro e U ⟨rfl,rfl⟩;go_wp2;go_ret2;exact ⟨by rw[N.out];rfl,rfl⟩
    | false =>
     rw[H] at I;have N:Hid (bP s aJ=bP s (aJ.drop 5)):=Fk (O.out.trans (if_neg (by rw[show aJ[4]=[62] from rfl,H];decide)));clear H;go_wp2_with fail
     refine I.out.mono ?_;rintro e U ⟨rfl,rfl⟩;go_wp2;go_round
     case rel=>exact ⟨5,by omega,by go_num,N⟩
     case measure=>simp[intOf]
   ·have I:=Fk (HP.out [61])
    have ix:∀ w,(Instr.index 195 (.agg #[FC (bs [60,62]),FC (bs [60,61]),FC (bs [62,61]),FC (bs [60]),FC (bs [62]),FC (bs [61]),FC (bs [43]),FC (bs [45]),FC (bs [42]),FC (bs [44]),FC (bs [59]),FC (bs [58]),FC (bs [46])]) (FH FI 5)).run Tryz.prog w= .ok (FC (bs [61])) w:=fun _=>by kernel_rfl
    have D:=M 5 (by decide);rw[←J.out] at D;have O:=Fk D;clear M D J
    cases H:Lib.hasPrefix s [61] with
    | true =>
     rw[H] at I;have N:Hid (R=(4,1)):=Fk (by rw[Z.out,O.out];exact congrArg (Prod.mk 4) (if_pos H));clear H;go_wp2_with fail
     refine I.out.mono ?_;rintro e U ⟨rfl,rfl⟩;go_wp2;go_ret2;exact ⟨by rw[N.out];rfl,rfl⟩
    | false =>
     rw[H] at I;have N:Hid (bP s aJ=bP s (aJ.drop 6)):=Fk (O.out.trans (if_neg (by rw[show aJ[5]=[61] from rfl,H];decide)));clear H;go_wp2_with fail
     refine I.out.mono ?_;rintro e U ⟨rfl,rfl⟩;go_wp2;go_round
     case rel=>exact ⟨6,by omega,by go_num,N⟩
     case measure=>simp[intOf]
   ·have I:=Fk (HP.out [43])
    have ix:∀ w,(Instr.index 195 (.agg #[FC (bs [60,62]),FC (bs [60,61]),FC (bs [62,61]),FC (bs [60]),FC (bs [62]),FC (bs [61]),FC (bs [43]),FC (bs [45]),FC (bs [42]),FC (bs [44]),FC (bs [59]),FC (bs [58]),FC (bs [46])]) (FH FI 6)).run Tryz.prog w= .ok (FC (bs [43])) w:=fun _=>by kernel_rfl
    have D:=M 6 (by decide);rw[←J.out] at D;have O:=Fk D;clear M D J
    cases H:Lib.hasPrefix s [43] with
    | true =>
     rw[H] at I;have N:Hid (R=(4,1)):=Fk (by rw[Z.out,O.out];exact congrArg (Prod.mk 4) (if_pos H));clear H;go_wp2_with fail
     refine I.out.mono ?_;rintro e U ⟨rfl,rfl⟩;go_wp2;go_ret2;exact ⟨by rw[N.out];rfl,rfl⟩
    | false =>
     rw[H] at I;have N:Hid (bP s aJ=bP s (aJ.drop 7)):=Fk (O.out.trans (if_neg (by rw[show aJ[6]=[43] from rfl,H];decide)));clear H;go_wp2_with fail
     refine I.out.mono ?_;rintro e U ⟨rfl,rfl⟩;go_wp2;go_round
     case rel=>exact ⟨7,by omega,by go_num,N⟩
     case measure=>simp[intOf]
   ·have I:=Fk (HP.out [45])
    have ix:∀ w,(Instr.index 195 (.agg #[FC (bs [60,62]),FC (bs [60,61]),FC (bs [62,61]),FC (bs [60]),FC (bs [62]),FC (bs [61]),FC (bs [43]),FC (bs [45]),FC (bs [42]),FC (bs [44]),FC (bs [59]),FC (bs [58]),FC (bs [46])]) (FH FI 7)).run Tryz.prog w= .ok (FC (bs [45])) w:=fun _=>by kernel_rfl
    have D:=M 7 (by decide);rw[←J.out] at D;have O:=Fk D;clear M D J
    cases H:Lib.hasPrefix s [45] with
    | true =>
     rw[H] at I;have N:Hid (R=(4,1)):=Fk (by rw[Z.out,O.out];exact congrArg (Prod.mk 4) (if_pos H));clear H;go_wp2_with fail
     refine I.out.mono ?_;rintro e U ⟨rfl,rfl⟩;go_wp2;go_ret2;exact ⟨by rw[N.out];rfl,rfl⟩
    | false =>
     rw[H] at I;have N:Hid (bP s aJ=bP s (aJ.drop 8)):=Fk (O.out.trans (if_neg (by rw[show aJ[7]=[45] from rfl,H];decide)));clear H;go_wp2_with fail
     refine I.out.mono ?_;rintro e U ⟨rfl,rfl⟩;go_wp2;go_round
     case rel=>exact ⟨8,by omega,by go_num,N⟩
     case measure=>simp[intOf]
   ·have I:=Fk (HP.out [42])
    have ix:∀ w,(Instr.index 195 (.agg #[FC (bs [60,62]),FC (bs [60,61]),FC (bs [62,61]),FC (bs [60]),FC (bs [62]),FC (bs [61]),FC (bs [43]),FC (bs [45]),FC (bs [42]),FC (bs [44]),FC (bs [59]),FC (bs [58]),FC (bs [46])]) (FH FI 8)).run Tryz.prog w= .ok (FC (bs [42])) w:=fun _=>by kernel_rfl
    have D:=M 8 (by decide);rw[←J.out] at D;have O:=Fk D;clear M D J
    cases H:Lib.hasPrefix s [42] with
    | true =>
     rw[H] at I;have N:Hid (R=(4,1)):=Fk (by rw[Z.out,O.out];exact congrArg (Prod.mk 4) (if_pos H));clear H;go_wp2_with fail
     refine I.out.mono ?_;rintro e U ⟨rfl,rfl⟩;go_wp2;go_ret2;exact ⟨by rw[N.out];rfl,rfl⟩
    | false =>
     rw[H] at I;have N:Hid (bP s aJ=bP s (aJ.drop 9)):=Fk (O.out.trans (if_neg (by rw[show aJ[8]=[42] from rfl,H];decide)));clear H;go_wp2_with fail
     refine I.out.mono ?_;rintro e U ⟨rfl,rfl⟩;go_wp2;go_round
     case rel=>exact ⟨9,by omega,by go_num,N⟩
     case measure=>simp[intOf]
   ·have I:=Fk (HP.out [44])
    have ix:∀ w,(Instr.index 195 (.agg #[FC (bs [60,62]),FC (bs [60,61]),FC (bs [62,61]),FC (bs [60]),FC (bs [62]),FC (bs [61]),FC (bs [43]),FC (bs [45]),FC (bs [42]),FC (bs [44]),FC (bs [59]),FC (bs [58]),FC (bs [46])]) (FH FI 9)).run Tryz.prog w= .ok (FC (bs [44])) w:=fun _=>by kernel_rfl
    have D:=M 9 (by decide);rw[←J.out] at D;have O:=Fk D;clear M D J
    cases H:Lib.hasPrefix s [44] with
    | true =>
     rw[H] at I;have N:Hid (R=(4,1)):=Fk (by rw[Z.out,O.out];exact congrArg (Prod.mk 4) (if_pos H));clear H;go_wp2_with fail
     refine I.out.mono ?_;rintro e U ⟨rfl,rfl⟩;go_wp2;go_ret2;exact ⟨by rw[N.out];rfl,rfl⟩
    | false =>
     rw[H] at I;have N:Hid (bP s aJ=bP s (aJ.drop 10)):=Fk (O.out.trans (if_neg (by rw[show aJ[9]=[44] from rfl,H];decide)));clear H;go_wp2_with fail
     refine I.out.mono ?_;rintro e U ⟨rfl,rfl⟩;go_wp2;go_round
     case rel=>exact ⟨10,by omega,by go_num,N⟩
     case measure=>simp[intOf]
   ·have I:=Fk (HP.out [59])
    have ix:∀ w,(Instr.index 195 (.agg #[FC (bs [60,62]),FC (bs [60,61]),FC (bs [62,61]),FC (bs [60]),FC (bs [62]),FC (bs [61]),FC (bs [43]),FC (bs [45]),FC (bs [42]),FC (bs [44]),FC (bs [59]),FC (bs [58]),FC (bs [46])]) (FH FI 10)).run Tryz.prog w= .ok (FC (bs [59])) w:=fun _=>by kernel_rfl
    have D:=M 10 (by decide);rw[←J.out] at D;have O:=Fk D;clear M D J
    cases H:Lib.hasPrefix s [59] with
    | true =>
     rw[H] at I;have N:Hid (R=(4,1)):=Fk (by rw[Z.out,O.out];exact congrArg (Prod.mk 4) (if_pos H));clear H;go_wp2_with fail
     refine I.out.mono ?_;rintro e U ⟨rfl,rfl⟩;go_wp2;go_ret2;exact ⟨by rw[N.out];rfl,rfl⟩
    | false =>
     rw[H] at I;have N:Hid (bP s aJ=bP s (aJ.drop 11)):=Fk (O.out.trans (if_neg (by rw[show aJ[10]=[59] from rfl,H];decide)));clear H;go_wp2_with fail
     refine I.out.mono ?_;rintro e U ⟨rfl,rfl⟩;go_wp2;go_round
     case rel=>exact ⟨11,by omega,by go_num,N⟩
     case measure=>simp[intOf]
   ·have I:=Fk (HP.out [58])
    have ix:∀ w,(Instr.index 195 (.agg #[FC (bs [60,62]),FC (bs [60,61]),FC (bs [62,61]),FC (bs [60]),FC (bs [62]),FC (bs [61]),FC (bs [43]),FC (bs [45]),FC (bs [42]),FC (bs [44]),FC (bs [59]),FC (bs [58]),FC (bs [46])]) (FH FI 11)).run Tryz.prog w= .ok (FC (bs [58])) w:=fun _=>by kernel_rfl
    have D:=M 11 (by decide);rw[←J.out] at D;have O:=Fk D;clear M D J
    cases H:Lib.hasPrefix s [58] with
    | true =>
     rw[H] at I;have N:Hid (R=(4,1)):=Fk (by rw[Z.out,O.out];exact congrArg (Prod.mk 4) (if_pos H));clear H;go_wp2_with fail
     refine I.out.mono ?_;rintro e U ⟨rfl,rfl⟩;go_wp2;go_ret2;exact ⟨by rw[N.out];rfl,rfl⟩
    | false =>
     rw[H] at I;have N:Hid (bP s aJ=bP s (aJ.drop 12)):=Fk (O.out.trans (if_neg (by rw[show aJ[11]=[58] from rfl,H];decide)));clear H;go_wp2_with fail
     refine I.out.mono ?_;rintro e U ⟨rfl,rfl⟩;go_wp2;go_round
     case rel=>exact ⟨12,by omega,by go_num,N⟩
     case measure=>simp[intOf]
   have I:=Fk (HP.out [46]);have ix:∀ w,(Instr.index 195 (.agg #[FC (bs [60,62]),FC (bs [60,61]),FC (bs [62,61]),FC (bs [60]),FC (bs [62]),FC (bs [61]),FC (bs [43]),FC (bs [45]),FC (bs [42]),FC (bs [44]),FC (bs [59]),FC (bs [58]),FC (bs [46])]) (FH FI 12)).run Tryz.prog w= .ok (FC (bs [46])) w:=fun _=>by kernel_rfl
   have D:=M 12 (by decide);rw[←J.out] at D;have O:=Fk D;clear M D J
   cases H:Lib.hasPrefix s [46] with
   | true =>
    rw[H] at I;have N:Hid (R=(4,1)):=Fk (by rw[Z.out,O.out];exact congrArg (Prod.mk 4) (if_pos H));clear H;go_wp2_with fail
    refine I.out.mono ?_;rintro e U ⟨rfl,rfl⟩;go_wp2;go_ret2;exact ⟨by rw[N.out];rfl,rfl⟩
   | false =>
    rw[H] at I;have N:Hid (bP s aJ=bP s (aJ.drop 13)):=Fk (O.out.trans (if_neg (by rw[show aJ[12]=[46] from rfl,H];decide)));clear H;go_wp2_with fail
    refine I.out.mono ?_;rintro e U ⟨rfl,rfl⟩;go_wp2;go_round
    case rel=>exact ⟨13,by omega,by go_num,N⟩
    case measure=>simp[intOf]
end
end Go.Proofs.YtecpeogejjibaaaGreatDoor
