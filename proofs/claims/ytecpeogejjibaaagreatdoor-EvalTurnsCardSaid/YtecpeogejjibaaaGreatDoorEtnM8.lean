/- Tables opened. A map of names to tables that is handed in, opened. The parser's body at its codes. The parser's body at its codes. Jobs as plain data: the laws. No program in sight. Jobs as plain data: what one makes of a table, code by code; it may be. No program in sight. OpsOnce as plain data: distinct once is distinct twice; all columns, picked, are the table. No program in sight. OpsTurns as plain data: left out first, or last. No program in sight. OpsSort as plain data. No program in sight. OpsJoin as plain data: pairs are counted; sums of groups. No program in sight. Jobs as plain data: what joins and groups make may be; what any job makes may be. No program in sight. What flows lean on, out of a row's laid list; a world in which it is laid. A row's condition parted from its handles; a world in which all is laid. -/
import Derived.Test.YtecpeogejjibaaaGreatDoorEtnM1
import Derived.Test.YtecpeogejjibaaaGreatDoorEtnM5
import Derived.Test.YtecpeogejjibaaaGreatDoorEtnM6
import Derived.Test.YtecpeogejjibaaaGreatDoorEtnM3
import Derived.WideKeyElems2
import Derived.Test.YtecpeogejjibaaaGreatDoorEtnM7
import Derived.Test.YtecpeogejjibaaaGreatDoorEtnM2
import Derived.ChangeSame
set_option linter.unusedSimpArgs false
set_option linter.unusedVariables false
set_option maxRecDepth 100000
set_option maxHeartbeats 16000000
namespace Go.Proofs.YtecpeogejjibaaaGreatDoor
open Go.Lib renaming hid → Fk
open _root_.List renaming length_append → Fo, getElem?_eq_getElem → Fp, getElem_mem → Fs, length_cons → Fv, getD_eq_getElem?_getD → Fy
open Go.World renaming block_lt_of_cell? → Fq, news_of_block → Fx
open _root_.Nat renaming le_trans → Ft
open aa renaming refl → Fz
open ao renaming new → FA
open Go.Value renaming string → FC, slice → FD, pointer → FE, int → FH
open Go.Ending renaming returned → FF
open Go.Obj renaming cells → FG
open Go.IntKind renaming i64 → FI
section
open Go.RowKit Go.ChangeShapes Go.WideShapes Go.Joins
open Go.Deep (oneCellFields hone_of)
section
variable {H:Type} {enc:TypeId×Value→H} {w:World} {base b0:Nat} {spare:Nat→Bool} {held:Bool} {v:Value} {d:DataW H} {p:List MemPlace} {r:Reach}
structure io (w:World) (t:Tb) (A B:Option Addr) (c d:Nat):Prop where
 cols:Rd w [] 2 A t.cols.length (ai t.cols)
 cc:t.cols.length≤c
 rows:cJ w [] B t.rows
 cd:t.rows.length≤d
 names:∀ x∈t.cols,x.name.length≤maxLen
 vals:∀ r∈t.rows,r.length≤maxLen∧∀ v∈r,v.word.length≤maxLen∧dX v.num
theorem io.inn {w:World} {t:Tb} {A B:Option Addr} {c d:Nat} (h:io w t A B c d) (I:eh t=true):aY w t A B c d∧nz w t A B:=by
 unfold eh at I;simp only[Bool.and_eq_true,Bool.not_eq_true',Bool.or_eq_false_iff,decide_eq_false_iff_not,List.any_eq_false] at I;obtain ⟨⟨⟨U,O⟩,J⟩,M⟩:=I;have D:∀ r∈t.rows,r.length≤4294967296:=fun r D=>by
  have:=M r D;simp at this;omega
 exact ⟨⟨h.cols,h.cc,h.rows,h.cd,fun x N=>by have:=J x N;simp at this;omega,by omega,by omega,D⟩,⟨h.cols,h.rows,by omega,by omega,D⟩⟩
end
section
variable {H:Type} {enc:TypeId×Value→H} {P:Program} {w:World} {base b0:Nat} {spare:Nat→Bool} {held:Bool} {r:Reach}
theorem uC {t:TypeId} {J:Array Field} {v:Value} (M:P.underlying t=some (.struct J)) (N:P.cellsOf t=2) (I:v.formed P t=true):∃ D h,v= .agg #[D,h]:=by
 cases v<;>simp[Value.formed,M] at I
 rename_i cs;obtain ⟨D,h,rfl⟩:=array2 (I.trans N);exact ⟨D,h,rfl⟩
theorem uD {t:TypeId} {I J:Field} {v:Value} {d:DataW H} {p:List MemPlace} (O:P.underlying t=some (.struct #[I,J])) (D:oneCellFields P #[I,J]=true) (hC:P.cellsOf t=2) (M:v.formed P t=true) (h:DataW.Trod enc P w base spare held t v d p) :
  ∃ (N U:Value) (y0 y1:DataW H×List MemPlace) (n:Nat),v= .agg #[N,U] ∧
   DataW.trod enc P w base spare held n I.type [N]=some y0∧DataW.trod enc P w base spare held n J.type [U]=some y1:=by
 obtain ⟨c0,c1,rfl⟩:=uC O hC M;obtain ⟨fuel,M⟩:=h;obtain ⟨y0,y1,n,hx,_,h0,Z⟩:=trod_struct2 O M;obtain ⟨V,k0⟩:=hone_of D 0 I rfl;obtain ⟨o1,k1⟩:=hone_of D 1 J rfl;exact ⟨c0,c1,y0,y1,n,rfl,by simpa[Value.cells,V,k0] using h0,by simpa[Value.cells,o1,k1] using Z⟩
end
section
variable {H:Type} {enc:TypeId×Value→H} {w:World} {base b0:Nat} {spare:Nat→Bool} {held:Bool} {v:Value} {d:DataW H} {p:List MemPlace} {r:Reach}
theorem so (hf:v.formed Tryz.prog 54=true) (h:DataW.Trod enc Tryz.prog w base spare held 54 v d p):∃ (t:Tb) (A B:Option Addr) (c D:Nat),v=jR A t.cols.length c B t.rows.length D∧io w t A B c D:=by
 obtain ⟨v0,v1,y0,y1,n,rfl,Z,M⟩:=uD Tryz.underlying54 (by kernel_rfl) (by kernel_rfl) hf h;obtain ⟨A,c,l,I,ha,_,N,V⟩:=wX Z;obtain ⟨B,D,O,J,U,_,hd,hr⟩:=wZ M;injection I with I;injection J with J;subst I J;exact ⟨⟨l,O⟩,A,B,c,D,rfl,N,ha,hd,U,V,hr⟩
def uE (w:World) (v:Value):Prop:=v= .map none∨∃ b mv,v= .map (some b)∧bA Tryz.prog 9 w b mv∧(mv.map (·.1)).Nodup∧mv.length≤maxLen∧∀ p∈mv,∃ (t:Tb) (A B:Option Addr) (c d:Nat),p.2=jR A t.cols.length c B t.rows.length d∧io w t A B c d
theorem xx (M:Value.okWide Tryz.prog w r b0 22 v) (h:DataW.Trod enc Tryz.prog w base spare held 22 v d p):uE w v:=by
 obtain ⟨a0,rfl⟩:=okWide_map Tryz.underlying22 M;obtain ⟨fuel,h⟩:=h;rcases WideElems.open_map Tryz.underlying22 h with ⟨N,_⟩|⟨b,es,cl,n,-,I,V,-,J,-⟩
 ·left
  simp[Value.cells] at N;exact congrArg Value.map N
 right
 have M:Value.map a0= .map (some b):=by
  simp[Value.cells] at I;exact congrArg Value.map I
 obtain ⟨mv,U,O,h3,h4⟩:=bA.of_fit V J Tryz.underlying9;refine ⟨b,mv,M,O,h3,by rw[U];exact J.size,fun q hq=>?_⟩;obtain ⟨x,hx,Z,-⟩:=h4 q hq;obtain ⟨y,hy⟩:=J.reads x hx;obtain ⟨z,D,-⟩:=WideElems.rd_val hy;rw[Z] at D;unfold WideElems.elemAt at D;split at D
 ·rename_i hf
  exact so hf ⟨n,D⟩
 cases D
end
end
section
open Go.RowKit Go.BigFrame
attribute [local go_sem] ag ab ae af
theorem Dw {l:List Tk} {b jb lo:Nat} {v2 v3 v4:Value} (aA code:Int) (outs ins cols:List Bs) (op:Bs) (left right:Ar) (I:Int) (w0 w:World) (hE:FB w0 lo) (b0:lo≤b) (h:Ps w b l) (Z:aa [b] w0 w) (b1:w0.heap.size≤jb) (hj:aV w w0.heap.size jb ⟨aA,code,outs,ins,cols,op,left,right,I⟩ v2 v3 v4) (cm:ins.length≤1000) (ci:cols.length≤1000) (b8:l.length≤1000000) (ba:bR (aS l).text=4) (a8:(aS l).kind=1) :
  Calls Tryz.prog 122 #[FE (some ⟨b,0,none⟩),FE (some ⟨jb,0,none⟩)] w fun e w'=>gb (bF ⟨aA,code,outs,ins,cols,op,left,right,I⟩ l) b w0.heap.size jb e w'∧aa [b] w0 w':=by
 obtain ⟨i0,hi,b9,cd,b5⟩:=info_parts kV;obtain ⟨R,hR⟩:∃ R,bF ⟨aA,code,outs,ins,cols,op,left,right,I⟩ l=R:=⟨_,rfl⟩
 rw[hR];have HE:=Fk hE;have J:=Fk h;have O:=Fk Z;have D:=Fk hj;have bq:=Fk b1;have a9:Hid (ins.length≤999000):=Fk (by omega);have cx:Hid (cols.length≤999000):=Fk (by omega);have cg:=Fk b8;have be:Hid (∀ W,aa [] w W→Calls Tryz.prog 48 #[FD (some ⟨4,0,none⟩) 10 10,FC (bs (aS l).text)] W fun e W'=>e=FF (FH FI (dj (aS l).text))∧W=W'):=Fk (fun W q=>cB (aS l).text W ((hE.one b0 Z).quiet q).env);obtain ⟨q,hq⟩:∃ q,dj (aS l).text=q:=⟨_,rfl⟩
 rw[hq] at be;have HQ:=Fk hq;obtain ⟨g,o,c,c0,z0,lb,lg,-,hn,hc,bj,k0,k1,k2,-⟩:=h.open';have bt:(0:Int)<(l.length:Int):=by omega
 have f1:w.cell? ⟨jb,1,none⟩=some (FH FI code):=hj.blk.cell 1;have f2:=hj.blk.frozen 1;have lj:=hj.blk.lt;have ca:=Fk ba;have bz:Hid ((aQ l.tail >>= fun p=>j7 ⟨aA,4,outs,ins++[p.1],cols,op,left,right,I⟩ p.2)=R):=Fk (by
  rw[←hR];unfold bF;rw[ba,if_neg (by rw[a8];decide)];rfl)
 have b7:bC [115,111,114,116] l=true:=by
  unfold bC;rw[a8,cT ba (by decide)];rfl
 have bX:=Fk b7;have b6:=Fk a8;clear hR hE h Z hj cm ci b8 b1 hq ba b7 a8;go_enter Tryz.func122,Tryz.ntmps122
 go_upto_region 0 with (fail)
 go_cut [] (fun wx=>wx=(w.setCell ⟨jb,1,none⟩ (FH FI (max q 0))).drew)
 case first =>
  go_region_law (first|(go_simp;go_at_call 48;refine (be.out _ (Fz [] w).drew).mono ?_;rintro e w6 ⟨rfl,rfl⟩))
  all_goals
   go_wp2;go_meet;exact rfl
 subst hcut;clear c0 z0 lb lg hn hc bj k0 k1 k2 bt lj f1 f2 be;have ad:aa [jb] w ((w.setCell ⟨jb,1,none⟩ (FH FI (max q 0))).drew):=((Fz _ _).setCell (.inl (by simp)) _).drew;have hj':aV ((w.setCell ⟨jb,1,none⟩ (FH FI (max q 0))).drew) w0.heap.size jb ⟨aA,max q 0,outs,ins,cols,op,left,right,I⟩ v2 v3 v4:=D.out.box ad ((D.out.blk.set 1 (FH FI (max q 0))).congr (by rfl)) rfl rfl rfl;have hp':=J.out.box D.out ad;have hk':=O.out.box bq.out ad;have hm:max q 0=4:=by rw[←HQ.out,da,ca.out];rfl
 rw[hm] at hj' hp' hk' ⊢;clear hm ad D J O;obtain ⟨y0,hy⟩:∃ x,(w.setCell ⟨jb,1,none⟩ (FH FI 4)).drew=x:=⟨_,rfl⟩
 rw[hy] at hj' hp' hk' ⊢;have D:=Fk hj';have J:=Fk hp';have O:=Fk hk';have a5:y0.cell? ⟨jb,1,none⟩=some (FH FI 4):=hj'.blk.cell 1;have lj:=hj'.blk.lt;obtain ⟨g,o,c,c0,z0,lb,lg,-,hn,hc,bj,k0,k1,k2,-⟩:=hp'.open';have bt:(0:Int)<(l.length:Int):=by omega
 clear hy hj' hp' hk' hn hc bj HQ;rw[b6.out] at k0;have wd:=(HE.out.one b0 O.out).env.words 4 (by decide);have b4:y0.cell? ⟨4,4,none⟩=some (FC (bs [115,111,114,116])):=wd;have cv:=Fq _ _ b4;clear wd;go_wp2_with fail
 refine (aT (s:=[115,111,114,116]) (r:=l.tail) (by unfold aR;rw[if_pos bX.out]) y0 J.out).mono ?_;rintro ev y1 ⟨rfl,hp,Z⟩;have HJ':=Fk (D.out.ps J.out Z);have HK':=Fk (O.out.trans Z);clear J D O c0 z0 lb lg k0 k1 k2 bt a5 lj b4 cv;have J:=Fk hp;have D:=HJ';have O:=HK';clear hp Z HJ' HK';have U:=bz;clear bz;have av:Hid (l.tail.length≤l.length):=Fk (by rw[List.length_tail];omega);obtain ⟨r0,bZ⟩:∃ r0,l.tail=r0:=⟨_,rfl⟩
 rw[bZ] at J U av;clear bZ bX b6 ca;have a5:y1.cell? ⟨jb,1,none⟩=some (FH FI 4):=D.out.blk.cell 1;have bo:=D.out.blk.lt;go_upto_region 13 with (fail)
 obtain ⟨A2,c2,hv,-⟩:=aq D.out.o3;subst hv;have fS:y1.cell? ⟨jb,3,none⟩=some (FD A2 (ins).length c2)∧y1.frozen? ⟨jb,3,none⟩=false:=⟨D.out.blk.cell 3,D.out.blk.frozen 3⟩;have lj:=D.out.blk.lt;have a7:=Fk (show (ins).length+1≤maxLen∧((ins).length+1)*16≤140737488355328 by have:=a9.out;simp only[maxLen];first|omega|(simp only[Fo,Fv,List.length_nil];omega));have bm:Hid (jb∉[b]):=Fk (by have:=D.out.blk.ty.ne J.out.ty (by decide);simpa using this);rcases V:aQ r0 with x|⟨a2,r2⟩
 ·have H:=U.out
  rw[V,au] at H;have HX:=Fk H.symm;have HC:Hid (∀ W,aa [] y1 W→Calls Tryz.prog 80 #[FE (some ⟨b,0,none⟩)] W fun e w'=>bS x e w'∧aa [b] W w'):=Fk (fun W z=>bN V W (J.out.keep z));clear H V;go_wp2_with fail
  go_region_law (first|(refine step_append_lies _ (by rfl) _ _ _ (by rfl) w0.heap.size 9 i0 _ 1 16 Tryz.underlying44 hi b9 cd b5 rfl (by decide) (FD A2 (ins).length c2) (ins).length (strs (ins)) (by rfl) ((D.out.ps J.out M.undrew).o3.alloc _) ⟨w6.heap.size,0,none⟩ 1 1 [FC (bs [])] (by rfl) rfl (Fx (heap_alloc_new _ _)) (by simp[Value.oneCell']) (by decide) a7.out.1 a7.out.2 (by have:=O.out.size;have:=M.size;have h9:y1.drew.heap.size=y1.heap.size:=rfl;simp;omega) _ rfl ?_;intro gw cap w7 a6 N bb b3;obtain ⟨ch,co⟩:=aC N (aB ⟨a1,br⟩ _) (fun e=>(aL (D.out.ps J.out M.undrew).o3 jb e).ne (D.out.ps J.out M.undrew).blk.ty (by decide) rfl))|(go_simp;go_at_call 80;refine (HC.out _ (Fz [] y1).drew).mono ?_;rintro e w6 ⟨⟨gi,rfl,hb⟩,M⟩;obtain ⟨a1,br⟩:=aH M fS bm.out;have cu:jb<w6.heap.size:=Fq w6 ⟨jb,3,none⟩ a1;dsimp only;(go_loud (refine cS ‹∀ (a:Act) (w:World),wpAny _ _ _ _ _ _ a w→_› (some 88) (FC (bs [])) ⟨rfl,by rw[HX.out];exact ⟨gi,rfl,hb⟩,O.out.trans M.undrew⟩ (fun hF=>?_)))))
  all_goals exact hF.out.elim
 have H:=U.out;rw[V,ar] at H;try dsimp only at H
 clear U;have U:=Fk H;clear H;have HC:Hid (∀ W,aa [] y1 W→Calls Tryz.prog 80 #[FE (some ⟨b,0,none⟩)] W fun e w'=>e=FF (FC (bs a2))∧Ps w' b r2∧aa [b] W w'):=Fk (fun W z=>bi V W (J.out.keep z));have a3:Hid (r2.length≤l.length):=Fk (by have:=av.out;have:=az V;omega);clear av;have av:=a3;clear a3;clear V;go_cut [] (fun wx=>∃ bk,aV wx w0.heap.size jb (⟨aA,4,outs,ins++[a2],cols,op,left,right,I⟩:Jb) v2 bk v4∧Ps wx b r2∧aa [b] w0 wx)
 case first =>
  go_region_law (first|(refine step_append_lies _ (by rfl) _ _ _ (by rfl) w0.heap.size 9 i0 _ 1 16 Tryz.underlying44 hi b9 cd b5 rfl (by decide) (FD A2 (ins).length c2) (ins).length (strs (ins)) (by rfl) ((D.out.ps J.out M.undrew).o3.alloc _) ⟨w6.heap.size,0,none⟩ 1 1 [FC (bs a2)] (by rfl) rfl (Fx (heap_alloc_new _ _)) (by simp[Value.oneCell']) (by decide) a7.out.1 a7.out.2 (by have:=O.out.size;have:=M.size;have h9:y1.drew.heap.size=y1.heap.size:=rfl;simp;omega) _ rfl ?_;intro gw cap w7 a6 N bb b3;obtain ⟨ch,co⟩:=aC N (aB ⟨a1,br⟩ _) (fun e=>(aL (D.out.ps J.out M.undrew).o3 jb e).ne (D.out.ps J.out M.undrew).blk.ty (by decide) rfl))|(go_simp;go_at_call 80;refine (HC.out _ (Fz [] y1).drew).mono ?_;rintro e w6 ⟨rfl,cj,M⟩;obtain ⟨a1,br⟩:=aH M fS bm.out;have cu:jb<w6.heap.size:=Fq w6 ⟨jb,3,none⟩ a1))
  all_goals
   go_wp2;go_meet;have hh:=aV.app3 (D.out.ps J.out M.undrew) cj (O.out.trans M.undrew) rfl bq.out N rfl a6 bb (by simp);exact ⟨_,hh.1,hh.2.1,hh.2.2⟩
 obtain ⟨bk,hj,hp,Z⟩:=hcut;obtain ⟨y2,rfl⟩:∃ y:World,y=wc:=⟨_,rfl⟩
 clear J D O HC fS lj a7 bm;have J:=Fk hp;have D:=Fk hj;have O:=Fk Z;have bv:Hid ((ins++[a2]).length≤999000+2):=Fk (by have:=a9.out;simp only[Fo,Fv,List.length_nil];omega);clear hp hj Z a9;generalize ins++[a2]=il2 at D U bv;have a9:=bv;clear bv;clear a5 bo;have a5:y2.cell? ⟨jb,1,none⟩=some (FH FI 4):=D.out.blk.cell 1;have bo:=D.out.blk.lt;have H:=U.out;clear U;have U:Hid (zP (⟨aA,4,outs,il2,cols,op,left,right,I⟩:Jb) r2=R):=Fk H;clear H;have H:=U.out;unfold zP at H;clear U;have U:=Fk H;clear H;rcases V:aR [98,121] r2 with x|r3
 ·have H:=U.out
  rw[V,au] at H;have HX:=Fk H.symm;have HC:=Fk (cO V y2 J.out);clear H V;go_wp2_with fail
  refine HC.out.mono ?_;rintro ev w9 ⟨⟨gi,rfl,hb⟩,bc⟩;exact ⟨rfl,by rw[HX.out];exact ⟨gi,rfl,hb⟩,O.out.trans bc⟩
 have H:=U.out;rw[V,ar] at H;try dsimp only at H
 clear U;have U:=Fk H;clear H;have HC:=Fk (aT V y2 J.out);have a3:Hid (r3.length≤l.length):=Fk (by have:=av.out;have:=aD V;omega);clear V av;have av:=a3;clear a3;go_wp2_with fail
 refine HC.out.mono ?_;rintro ev y3 ⟨rfl,hp,Z⟩;have HJ':=Fk (D.out.ps J.out Z);have HK':=Fk (O.out.trans Z);clear J D O HC;have J:=Fk hp;have D:=HJ';have O:=HK';clear hp Z HJ' HK';clear a5 bo;have hc:=lM y3 J.out (Ft av.out cg.out);rcases V:fh r3 with x|⟨a4,r4⟩
 ·have H:=U.out
  rw[V,au] at H;have HX:=Fk H.symm;rw[V] at hc;have ct:=Fk hc;clear H V hc;go_wp2_with fail
  refine ct.out.mono ?_;rintro ev w9 ⟨⟨gi,rfl,hb⟩,bc⟩;exact ⟨rfl,by rw[HX.out];exact ⟨gi,rfl,hb⟩,O.out.trans bc⟩
 have H:=U.out;rw[V,ar] at H;try dsimp only at H
 clear U;have U:=Fk H;clear H;rw[V] at hc;have HC:=Fk hc;clear V hc;go_wp2_with fail
 refine HC.out.mono ?_;rintro ev y4 ⟨⟨v4,rfl,a0,hp⟩,Z⟩;obtain ⟨A4,c4,hv,-⟩:=aq a0;subst hv;have cr:=Fk a0;have ce:Hid (cA v2 (FD A4 a4.length c4)):=Fk (cA.new D.out.o2 (fun g hg=>(a0.lt g hg).1));have cn:Hid (cA bk (FD A4 a4.length c4)):=Fk (cA.new D.out.o3 (fun g hg=>(a0.lt g hg).1));have cq:=Fk O.out.size;clear a0;have HJ':=Fk (D.out.ps J.out Z);have HK':=Fk (O.out.trans Z);clear J D O HC;have J:=Fk hp;have D:=HJ';have O:=HK';clear hp Z HJ' HK';have cy:=D.out.blk.frozen 4;have cz:y4.cell? ⟨jb,4,none⟩=some (v4):=D.out.blk.cell 4;have lj:=D.out.blk.lt;have ad:aa [jb] y4 (y4.setCell ⟨jb,4,none⟩ (FD A4 a4.length c4)):=(Fz _ _).setCell (.inl (by simp)) _;have HJ':=Fk (D.out.put4 (cG cr.out cq.out) ce.out cn.out);have HP':=Fk (J.out.box D.out ad);have HK':=Fk (O.out.box bq.out ad);clear ad;have HX:=Fk U.out.symm;clear U;go_wp2;first|go_end0|refine bodyPost_ret (results_none rfl _ _ _) rfl ?_
 exact ⟨by rw[HX.out];exact ⟨rfl,⟨_,_,_,HJ'.out⟩,HP'.out⟩,HK'.out⟩
theorem Dx {l:List Tk} {b jb lo:Nat} {v2 v3 v4:Value} (a5 code:Int) (outs ins cols:List Bs) (op:Bs) (left right:Ar) (U:Int) (w0 w:World) (hE:FB w0 lo) (ch:lo≤b) (h:Ps w b l) (hk:aa [b] w0 w) (ci:w0.heap.size≤jb) (hj:aV w w0.heap.size jb ⟨a5,code,outs,ins,cols,op,left,right,U⟩ v2 v3 v4) (c1:ins.length≤1000) (cD:cols.length≤1000) (ct:l.length≤1000000) (bv:bR (aS l).text=8) (bo:(aS l).kind=1) :
  Calls Tryz.prog 122 #[FE (some ⟨b,0,none⟩),FE (some ⟨jb,0,none⟩)] w fun e w'=>gb (bF ⟨a5,code,outs,ins,cols,op,left,right,U⟩ l) b w0.heap.size jb e w'∧aa [b] w0 w':=by
 obtain ⟨i0,hi,bz,bX,br⟩:=info_parts kV;obtain ⟨R,hR⟩:∃ R,bF ⟨a5,code,outs,ins,cols,op,left,right,U⟩ l=R:=⟨_,rfl⟩
 rw[hR];have HE:=Fk hE;have I:=Fk h;have N:=Fk hk;have D:=Fk hj;have be:=Fk ci;have bq:Hid (ins.length≤999000):=Fk (by omega);have b3:Hid (cols.length≤999000):=Fk (by omega);have c7:=Fk ct;have bZ:Hid (∀ W,aa [] w W→Calls Tryz.prog 48 #[FD (some ⟨4,0,none⟩) 10 10,FC (bs (aS l).text)] W fun e W'=>e=FF (FH FI (dj (aS l).text))∧W=W'):=Fk (fun W q=>cB (aS l).text W ((hE.one ch hk).quiet q).env);obtain ⟨q,hq⟩:∃ q,dj (aS l).text=q:=⟨_,rfl⟩
 rw[hq] at bZ;have HQ:=Fk hq;obtain ⟨g,o,c,c0,z0,lb,lg,-,hn,hc,b1,k0,k1,k2,-⟩:=h.open';have b7:(0:Int)<(l.length:Int):=by omega
 have f1:w.cell? ⟨jb,1,none⟩=some (FH FI code):=hj.blk.cell 1;have f2:=hj.blk.frozen 1;have lj:=hj.blk.lt;have cu:=Fk bv;have cd:Hid ((aQ l.tail >>= fun p=>j7 ⟨a5,8,outs,ins++[p.1],cols,op,left,right,U⟩ p.2)=R):=Fk (by
  rw[←hR];unfold bF;rw[bv,if_neg (by rw[bo];decide)];rfl)
 have cr:bC [103,114,111,117,112] l=true:=by
  unfold bC;rw[bo,cT bv (by decide)];rfl
 have ce:=Fk cr;have cq:=Fk bo;clear hR hE h hk hj c1 cD ct ci hq bv cr bo;go_enter Tryz.func122,Tryz.ntmps122
 go_upto_region 0 with (fail)
 go_cut [] (fun wx=>wx=(w.setCell ⟨jb,1,none⟩ (FH FI (max q 0))).drew)
 case first =>
  go_region_law (first|(go_simp;go_at_call 48;refine (bZ.out _ (Fz [] w).drew).mono ?_;rintro e w6 ⟨rfl,rfl⟩))
  all_goals
   go_wp2;go_meet;exact rfl
 subst hcut;clear c0 z0 lb lg hn hc b1 k0 k1 k2 b7 lj f1 f2 bZ;have av:aa [jb] w ((w.setCell ⟨jb,1,none⟩ (FH FI (max q 0))).drew):=((Fz _ _).setCell (.inl (by simp)) _).drew;have hj':aV ((w.setCell ⟨jb,1,none⟩ (FH FI (max q 0))).drew) w0.heap.size jb ⟨a5,max q 0,outs,ins,cols,op,left,right,U⟩ v2 v3 v4:=D.out.box av ((D.out.blk.set 1 (FH FI (max q 0))).congr (by rfl)) rfl rfl rfl;have hp':=I.out.box D.out av;have hk':=N.out.box be.out av;have hm:max q 0=8:=by rw[←HQ.out,da,cu.out];rfl
 rw[hm] at hj' hp' hk' ⊢;clear hm av D I N;obtain ⟨y0,hy⟩:∃ x,(w.setCell ⟨jb,1,none⟩ (FH FI 8)).drew=x:=⟨_,rfl⟩
 rw[hy] at hj' hp' hk' ⊢;have D:=Fk hj';have I:=Fk hp';have N:=Fk hk';have bk:y0.cell? ⟨jb,1,none⟩=some (FH FI 8):=hj'.blk.cell 1;have lj:=hj'.blk.lt;obtain ⟨g,o,c,c0,z0,lb,lg,-,hn,hc,b1,k0,k1,k2,-⟩:=hp'.open';have b7:(0:Int)<(l.length:Int):=by omega
 clear hy hj' hp' hk' hn hc b1 HQ;rw[cq.out] at k0;have wd:=(HE.out.one ch N.out).env.words 8 (by decide);have cm:y0.cell? ⟨4,8,none⟩=some (FC (bs [103,114,111,117,112])):=wd;have c5:=Fq _ _ cm;clear wd;go_wp2_with fail
 refine (aT (s:=[103,114,111,117,112]) (r:=l.tail) (by unfold aR;rw[if_pos ce.out]) y0 I.out).mono ?_;rintro ev y1 ⟨rfl,hp,hk⟩;have HJ':=Fk (D.out.ps I.out hk);have HK':=Fk (N.out.trans hk);clear I D N c0 z0 lb lg k0 k1 k2 b7 bk lj cm c5;have I:=Fk hp;have D:=HJ';have N:=HK';clear hp hk HJ' HK';have Z:=cd;clear cd;have V:Hid (l.tail.length≤l.length):=Fk (by rw[List.length_tail];omega);obtain ⟨r0,cg⟩:∃ r0,l.tail=r0:=⟨_,rfl⟩
 rw[cg] at I Z V;clear cg ce cq cu;have bk:y1.cell? ⟨jb,1,none⟩=some (FH FI 8):=D.out.blk.cell 1;have b4:=D.out.blk.lt;go_upto_region 13 with (fail)
 obtain ⟨A2,c2,hv,-⟩:=aq D.out.o3;subst hv;have fS:y1.cell? ⟨jb,3,none⟩=some (FD A2 (ins).length c2)∧y1.frozen? ⟨jb,3,none⟩=false:=⟨D.out.blk.cell 3,D.out.blk.frozen 3⟩;have lj:=D.out.blk.lt;have a1:=Fk (show (ins).length+1≤maxLen∧((ins).length+1)*16≤140737488355328 by have:=bq.out;simp only[maxLen];first|omega|(simp only[Fo,Fv,List.length_nil];omega));have ba:Hid (jb∉[b]):=Fk (by have:=D.out.blk.ty.ne I.out.ty (by decide);simpa using this);rcases O:aQ r0 with x|⟨a2,r2⟩
 ·have J:=Z.out
  rw[O,au] at J;have HX:=Fk J.symm;have HC:Hid (∀ W,aa [] y1 W→Calls Tryz.prog 80 #[FE (some ⟨b,0,none⟩)] W fun e w'=>bS x e w'∧aa [b] W w'):=Fk (fun W z=>bN O W (I.out.keep z));clear J O;go_wp2_with fail
  go_region_law (first|(refine step_append_lies _ (by rfl) _ _ _ (by rfl) w0.heap.size 9 i0 _ 1 16 Tryz.underlying44 hi bz bX br rfl (by decide) (FD A2 (ins).length c2) (ins).length (strs (ins)) (by rfl) ((D.out.ps I.out H.undrew).o3.alloc _) ⟨w6.heap.size,0,none⟩ 1 1 [FC (bs [])] (by rfl) rfl (Fx (heap_alloc_new _ _)) (by simp[Value.oneCell']) (by decide) a1.out.1 a1.out.2 (by have:=N.out.size;have:=H.size;have h9:y1.drew.heap.size=y1.heap.size:=rfl;simp;omega) _ rfl ?_;intro gw cap w7 a0 M a3 bc;obtain ⟨b0,b6⟩:=aC M (aB ⟨aA,a7⟩ _) (fun e=>(aL (D.out.ps I.out H.undrew).o3 jb e).ne (D.out.ps I.out H.undrew).blk.ty (by decide) rfl))|(go_simp;go_at_call 80;refine (HC.out _ (Fz [] y1).drew).mono ?_;rintro e w6 ⟨⟨gi,rfl,hb⟩,H⟩;obtain ⟨aA,a7⟩:=aH H fS ba.out;have ca:jb<w6.heap.size:=Fq w6 ⟨jb,3,none⟩ aA;dsimp only;(go_loud (refine cS ‹∀ (a:Act) (w:World),wpAny _ _ _ _ _ _ a w→_› (some 88) (FC (bs [])) ⟨rfl,by rw[HX.out];exact ⟨gi,rfl,hb⟩,N.out.trans H.undrew⟩ (fun hF=>?_)))))
  all_goals exact hF.out.elim
 have J:=Z.out;rw[O,ar] at J;try dsimp only at J
 clear Z;have Z:=Fk J;clear J;have HC:Hid (∀ W,aa [] y1 W→Calls Tryz.prog 80 #[FE (some ⟨b,0,none⟩)] W fun e w'=>e=FF (FC (bs a2))∧Ps w' b r2∧aa [b] W w'):=Fk (fun W z=>bi O W (I.out.keep z));have ad:Hid (r2.length≤l.length):=Fk (by have:=V.out;have:=az O;omega);clear V;have V:=ad;clear ad;clear O;go_cut [] (fun wx=>∃ bm,aV wx w0.heap.size jb (⟨a5,8,outs,ins++[a2],cols,op,left,right,U⟩:Jb) v2 bm v4∧Ps wx b r2∧aa [b] w0 wx)
 case first =>
  go_region_law (first|(refine step_append_lies _ (by rfl) _ _ _ (by rfl) w0.heap.size 9 i0 _ 1 16 Tryz.underlying44 hi bz bX br rfl (by decide) (FD A2 (ins).length c2) (ins).length (strs (ins)) (by rfl) ((D.out.ps I.out H.undrew).o3.alloc _) ⟨w6.heap.size,0,none⟩ 1 1 [FC (bs a2)] (by rfl) rfl (Fx (heap_alloc_new _ _)) (by simp[Value.oneCell']) (by decide) a1.out.1 a1.out.2 (by have:=N.out.size;have:=H.size;have h9:y1.drew.heap.size=y1.heap.size:=rfl;simp;omega) _ rfl ?_;intro gw cap w7 a0 M a3 bc;obtain ⟨b0,b6⟩:=aC M (aB ⟨aA,a7⟩ _) (fun e=>(aL (D.out.ps I.out H.undrew).o3 jb e).ne (D.out.ps I.out H.undrew).blk.ty (by decide) rfl))|(go_simp;go_at_call 80;refine (HC.out _ (Fz [] y1).drew).mono ?_;rintro e w6 ⟨rfl,b5,H⟩;obtain ⟨aA,a7⟩:=aH H fS ba.out;have ca:jb<w6.heap.size:=Fq w6 ⟨jb,3,none⟩ aA))
  all_goals
   go_wp2;go_meet;have hh:=aV.app3 (D.out.ps I.out H.undrew) b5 (N.out.trans H.undrew) rfl be.out M rfl a0 a3 (by simp);exact ⟨_,hh.1,hh.2.1,hh.2.2⟩
 obtain ⟨bm,hj,hp,hk⟩:=hcut;obtain ⟨y2,rfl⟩:∃ y:World,y=wc:=⟨_,rfl⟩
 clear I D N HC fS lj a1 ba;have I:=Fk hp;have D:=Fk hj;have N:=Fk hk;have a9:Hid ((ins++[a2]).length≤999000+2):=Fk (by have:=bq.out;simp only[Fo,Fv,List.length_nil];omega);clear hp hj hk bq;generalize ins++[a2]=il2 at D Z a9;have bq:=a9;clear a9;clear bk b4;have bk:y2.cell? ⟨jb,1,none⟩=some (FH FI 8):=D.out.blk.cell 1;have b4:=D.out.blk.lt;have J:=Z.out;clear Z;have Z:Hid (i7 (⟨a5,8,outs,il2,cols,op,left,right,U⟩:Jb) r2=R):=Fk J;clear J;have J:=Z.out;unfold i7 at J;clear Z;have Z:=Fk J;clear J;rcases O:aR [98,121] r2 with x|r3
 ·have J:=Z.out
  rw[O,au] at J;have HX:=Fk J.symm;have HC:=Fk (cO O y2 I.out);clear J O;go_wp2_with fail
  refine HC.out.mono ?_;rintro ev w9 ⟨⟨gi,rfl,hb⟩,bb⟩;exact ⟨rfl,by rw[HX.out];exact ⟨gi,rfl,hb⟩,N.out.trans bb⟩
 have J:=Z.out;rw[O,ar] at J;try dsimp only at J
 clear Z;have Z:=Fk J;clear J;have HC:=Fk (aT O y2 I.out);have ad:Hid (r3.length≤l.length):=Fk (by have:=V.out;have:=aD O;omega);clear O V;have V:=ad;clear ad;go_wp2_with fail
 refine HC.out.mono ?_;rintro ev y3 ⟨rfl,hp,hk⟩;have HJ':=Fk (D.out.ps I.out hk);have HK':=Fk (N.out.trans hk);clear I D N HC;have I:=Fk hp;have D:=HJ';have N:=HK';clear hp hk HJ' HK';clear bk b4;rcases O:aQ r3 with x|⟨a4,r4⟩
 ·have J:=Z.out
  rw[O,au] at J;have HX:=Fk J.symm;have HC:=Fk (bN O y3 I.out);clear J O;go_wp2_with fail
  refine HC.out.mono ?_;rintro ev w9 ⟨⟨gi,rfl,hb⟩,bb⟩;exact ⟨rfl,by rw[HX.out];exact ⟨gi,rfl,hb⟩,N.out.trans bb⟩
 have J:=Z.out;rw[O,ar] at J;try dsimp only at J
 clear Z;have Z:=Fk J;clear J;have HC:=Fk (bi O y3 I.out);have ad:Hid (r4.length≤l.length):=Fk (by have:=V.out;have:=az O;omega);clear O V;have V:=ad;clear ad;go_wp2_with fail
 refine HC.out.mono ?_;rintro ev y4 ⟨rfl,hp,hk⟩;have HJ':=Fk (D.out.ps I.out hk);have HK':=Fk (N.out.trans hk);clear I D N HC;have I:=Fk hp;have D:=HJ';have N:=HK';clear hp hk HJ' HK';have c4:=D.out.blk.frozen 4;have c6:y4.cell? ⟨jb,4,none⟩=some (v4):=D.out.blk.cell 4;have lj:=D.out.blk.lt;have co:(y4.alloc (FG #[FC (bs a4)] 9)).ownsRow w0.heap.size 9 1 (FD (some ⟨y4.heap.size,0,none⟩) 1 1) [a4].length (strs [a4]):=ri (FA y4 9 #[FC (bs a4)]) N.out.size rfl (by decide);have cv:cA (v2) (FD (some ⟨y4.heap.size,0,none⟩) 1 1):=cA.new D.out.o2 (fun g hg=>by simp[Value.ownBlock] at hg;omega);have cj:cA (bm) (FD (some ⟨y4.heap.size,0,none⟩) 1 1):=cA.new D.out.o3 (fun g hg=>by simp[Value.ownBlock] at hg;omega);have bj:aa [] y4 (y4.alloc (FG #[FC (bs a4)] 9)):=(Fz _ _).alloc _;have av:aa [jb] (y4.alloc (FG #[FC (bs a4)] 9)) ((y4.alloc (FG #[FC (bs a4)] 9)).setCell ⟨jb,4,none⟩ (FD (some ⟨y4.heap.size,0,none⟩) 1 1)):=(Fz _ _).setCell (.inl (by simp)) _;have hj':=(D.out.keep bj).put4 co cv cj;have hp':=(I.out.keep bj).box (D.out.keep bj) av;have hk':=aa.box (N.out.trans bj.of_nil) be.out av;rw[World.setCell_alloc_past (w:=y4) (FG #[FC (bs a4)] 9) jb 4 (FD (some ⟨y4.heap.size,0,none⟩) 1 1) lj] at hj' hp' hk';have HJ':=Fk hj';have HP':=Fk hp';have HK':=Fk hk';clear co cv cj bj av hj' hp' hk';go_upto_region 32 with (fail)
 obtain ⟨y5,hy⟩:∃ x,((y4.setCell ⟨jb,4,none⟩ (FD (some ⟨y4.heap.size,0,none⟩) 1 1)).alloc (FG #[FC (bs a4)] 9))=x:=⟨_,rfl⟩
 rw[hy] at HJ' HP' HK' ⊢;obtain ⟨c3,b9⟩:∃ n,y4.heap.size=n:=⟨_,rfl⟩
 rw[b9] at HJ';try rw[b9]
 clear hy b9 c4 c6 lj D I N;have D:=HJ';have I:=HP';have N:=HK';clear HJ' HP' HK';obtain ⟨cy,cn⟩:∃ v,Value.slice (some ⟨c3,0,none⟩) 1 1=v:=⟨_,rfl⟩
 rw[cn] at D;clear cn;have a9:Hid ([a4].length≤999000):=Fk (by simp);clear b3;generalize bt:[a4]=cl5 at D Z a9;have HCL:=Fk bt;clear bt;have b3:=a9;clear a9;have HJ':=Fk (D.out.keep ((Fz _ _).alloc (FG #[FC (bs [115,117,109]),FC (bs [109,97,120])] 9)));have HP':=Fk (I.out.keep ((Fz _ _).alloc (FG #[FC (bs [115,117,109]),FC (bs [109,97,120])] 9)));have HK':=Fk (N.out.alloc (FG #[FC (bs [115,117,109]),FC (bs [109,97,120])] 9));have b8:Hid (Rd (y5.alloc (FG #[FC (bs [115,117,109]),FC (bs [109,97,120])] 9)) [b] 1 (some ⟨y5.heap.size,0,none⟩) 2 (strs [[115,117,109],[109,97,120]])):=Fk (rp [[115,117,109],[109,97,120]] (FA y5 9 #[FC (bs [115,117,109]),FC (bs [109,97,120])]) (by have:=I.out.lt;omega));clear D I N;have D:=HJ';have I:=HP';have N:=HK';clear HJ' HP' HK';go_wp2_with fail
 rcases O:iu [[115,117,109],[109,97,120]] r4 with x|⟨a6,r6⟩
 ·have J:=Z.out
  rw[O,au] at J;have HX:=Fk J.symm;have HC:=Fk (rj O (some ⟨y5.heap.size,0,none⟩) 2 _ I.out b8.out (by decide));clear J O;skip
  refine HC.out.mono ?_;rintro ev w9 ⟨⟨gi,rfl,hb⟩,bb⟩;exact ⟨rfl,by rw[HX.out];exact ⟨gi,rfl,hb⟩,N.out.trans bb⟩
 have J:=Z.out;rw[O,ar] at J;try dsimp only at J
 clear Z;have Z:=Fk J;clear J;have HC:=Fk (nl O (some ⟨y5.heap.size,0,none⟩) 2 _ I.out b8.out (by decide));have ad:Hid (r6.length≤l.length):=Fk (by have:=V.out;have:=eV O;omega);clear O b8 V;have V:=ad;clear ad;refine HC.out.mono ?_;rintro ev y6 ⟨rfl,hp,hk⟩;have HJ':=Fk (D.out.ps I.out hk);have HK':=Fk (N.out.trans hk);clear I D N HC;have I:=Fk hp;have D:=HJ';have N:=HK';clear hp hk HJ' HK';have cz:=D.out.blk.frozen 5;have cx:y6.cell? ⟨jb,5,none⟩=some (FC (bs op)):=D.out.blk.cell 5;have lj:=D.out.blk.lt;have av:aa [jb] y6 (y6.setCell ⟨jb,5,none⟩ (FC (bs a6))):=(Fz _ _).setCell (.inl (by simp)) _;have HJ':Hid (aV (y6.setCell ⟨jb,5,none⟩ (FC (bs a6))) w0.heap.size jb (⟨a5,8,outs,il2,cl5,a6,left,right,U⟩:Jb) v2 bm cy):=Fk (D.out.box av ((D.out.blk.set 5 (FC (bs a6))).congr (by rfl)) rfl rfl rfl);have HP':=Fk (I.out.box D.out av);have HK':=Fk (N.out.box be.out av);clear av;go_upto_region 33 with (fail)
 obtain ⟨y7,hy⟩:∃ x,(y6.setCell ⟨jb,5,none⟩ (FC (bs a6)))=x:=⟨_,rfl⟩
 rw[hy] at HJ' HP' HK' ⊢;clear hy cz cx lj D I N;have D:=HJ';have I:=HP';have N:=HK';clear HJ' HP' HK';go_upto_region 33 with (fail)
 obtain ⟨A8,c8,hv,-⟩:=aq D.out.o4;subst hv;have fS:y7.cell? ⟨jb,4,none⟩=some (FD A8 (cl5).length c8)∧y7.frozen? ⟨jb,4,none⟩=false:=⟨D.out.blk.cell 4,D.out.blk.frozen 4⟩;have lj:=D.out.blk.lt;have a1:=Fk (show (cl5).length+1≤maxLen∧((cl5).length+1)*16≤140737488355328 by have:=b3.out;simp only[maxLen];first|omega|(simp only[Fo,Fv,List.length_nil];omega));have ba:Hid (jb∉[b]):=Fk (by have:=D.out.blk.ty.ne I.out.ty (by decide);simpa using this);rcases O:aQ r6 with x|⟨a8,r8⟩
 ·have J:=Z.out
  rw[O,au] at J;have HX:=Fk J.symm;have HC:Hid (∀ W,aa [] y7 W→Calls Tryz.prog 80 #[FE (some ⟨b,0,none⟩)] W fun e w'=>bS x e w'∧aa [b] W w'):=Fk (fun W z=>bN O W (I.out.keep z));clear J O;go_wp2_with fail
  go_region_law (first|(refine step_append_lies _ (by rfl) _ _ _ (by rfl) w0.heap.size 9 i0 _ 1 16 Tryz.underlying44 hi bz bX br rfl (by decide) (FD A8 (cl5).length c8) (cl5).length (strs (cl5)) (by rfl) ((D.out.ps I.out H.undrew).o4.alloc _) ⟨w6.heap.size,0,none⟩ 1 1 [FC (bs [])] (by rfl) rfl (Fx (heap_alloc_new _ _)) (by simp[Value.oneCell']) (by decide) a1.out.1 a1.out.2 (by have:=N.out.size;have:=H.size;have h9:y7.drew.heap.size=y7.heap.size:=rfl;simp;omega) _ rfl ?_;intro gw cap w7 a0 M a3 bc;obtain ⟨b0,b6⟩:=aC M (aB ⟨aA,a7⟩ _) (fun e=>(aL (D.out.ps I.out H.undrew).o4 jb e).ne (D.out.ps I.out H.undrew).blk.ty (by decide) rfl))|(go_simp;go_at_call 80;refine (HC.out _ (Fz [] y7).drew).mono ?_;rintro e w6 ⟨⟨gi,rfl,hb⟩,H⟩;obtain ⟨aA,a7⟩:=aH H fS ba.out;have ca:jb<w6.heap.size:=Fq w6 ⟨jb,4,none⟩ aA;dsimp only;(go_loud (refine cS ‹∀ (a:Act) (w:World),wpAny _ _ _ _ _ _ a w→_› (some 163) (FC (bs [])) ⟨rfl,by rw[HX.out];exact ⟨gi,rfl,hb⟩,N.out.trans H.undrew⟩ (fun hF=>?_)))))
  all_goals exact hF.out.elim
 have J:=Z.out;rw[O,ar] at J;try dsimp only at J
 clear Z;have Z:=Fk J;clear J;have HC:Hid (∀ W,aa [] y7 W→Calls Tryz.prog 80 #[FE (some ⟨b,0,none⟩)] W fun e w'=>e=FF (FC (bs a8))∧Ps w' b r8∧aa [b] W w'):=Fk (fun W z=>bi O W (I.out.keep z));have ad:Hid (r8.length≤l.length):=Fk (by have:=V.out;have:=az O;omega);clear V;have V:=ad;clear ad;clear O;have HX:=Fk Z.out.symm;clear Z;go_region_law (first|(refine step_append_lies _ (by rfl) _ _ _ (by rfl) w0.heap.size 9 i0 _ 1 16 Tryz.underlying44 hi bz bX br rfl (by decide) (FD A8 (cl5).length c8) (cl5).length (strs (cl5)) (by rfl) ((D.out.ps I.out H.undrew).o4.alloc _) ⟨w6.heap.size,0,none⟩ 1 1 [FC (bs a8)] (by rfl) rfl (Fx (heap_alloc_new _ _)) (by simp[Value.oneCell']) (by decide) a1.out.1 a1.out.2 (by have:=N.out.size;have:=H.size;have h9:y7.drew.heap.size=y7.heap.size:=rfl;simp;omega) _ rfl ?_;intro gw cap w7 a0 M a3 bc;obtain ⟨b0,b6⟩:=aC M (aB ⟨aA,a7⟩ _) (fun e=>(aL (D.out.ps I.out H.undrew).o4 jb e).ne (D.out.ps I.out H.undrew).blk.ty (by decide) rfl))|(go_simp;go_at_call 80;refine (HC.out _ (Fz [] y7).drew).mono ?_;rintro e w6 ⟨rfl,b5,H⟩;obtain ⟨aA,a7⟩:=aH H fS ba.out;have ca:jb<w6.heap.size:=Fq w6 ⟨jb,4,none⟩ aA))
 all_goals
  go_wp2;first|go_end0|refine bodyPost_ret (results_none rfl _ _ _) rfl ?_
  try (have bt:=HCL.out;subst bt)
  have hh:=aV.app4 (D.out.ps I.out H.undrew) b5 (N.out.trans H.undrew) rfl be.out M rfl a0 a3 (by simp);exact ⟨by rw[HX.out];exact ⟨rfl,⟨_,_,_,hh.1⟩,hh.2.1⟩,hh.2.2⟩
end
section
theorem Da {j:Jb} {ins:List Tb} {l:List Tb}:j6 j ins= .ok l↔(∀ t∈ins,ak t=true)∧∃ out D,aK j (ins.map (·.cols))= .ok out∧bw j ins out= .ok D∧de out D= .ok l:=by
 unfold j6;by_cases h:(ins.any fun t=> !ak t)=true
 ·rw[if_pos h]
  constructor
  ·intro H;cases H
  rintro ⟨H,_⟩;rw[List.any_eq_true] at h;obtain ⟨t,U,Z⟩:=h;rw[H t U] at Z;cases Z
 rw[if_neg h];have hr:∀ t∈ins,ak t=true:=fun t U=>by
  refine Classical.byContradiction fun V=>h (List.any_eq_true.2 ⟨t,U,?_⟩)
  simpa using V
 cases V:aK j (ins.map (·.cols)) with
 | error e =>
  simp only;constructor
  ·intro H;cases H
  rintro ⟨_,out,D,J,_⟩;cases J
 | ok out =>
  cases I:bw j ins out with
  | error e =>
   simp only[I];constructor
   ·intro H;cases H
   rintro ⟨_,N,D,J,M,_⟩;cases J
   rw[I] at M;cases M
  | ok D =>
   simp only[I];constructor
   ·intro H;exact ⟨hr,out,D,rfl,I,H⟩
   rintro ⟨_,N,O,J,M,h5⟩;cases J
   rw[I] at M;cases M
   exact h5
theorem yi (c:List Cl) (r:List (List Vl)):de [c] [r]=if 60<r.length then .error 12 else .ok [⟨c,r⟩]:=by
 unfold de;split
 ·rfl
 simp[de]
theorem Ca {j:Jb} {ins:List Tb} {u:Tb} (h:j.code / 9=0):kq j ins=some u↔j6 { j with outs:=[[120]] } ins= .ok [u]:=by
 unfold kq;rw[h];simp only[Int.toNat_zero,Nat.add_zero,List.take_succ_cons,List.take_zero]
 cases j6 { j with outs:=[[120]] } ins with
 | error e=>simp
 | ok out =>
  simp only[Fv,List.length_nil]
  match out with
  | []=>simp
  | [x]=>simp
  | x::y::t=>simp
def pW (j:Jb) (a:List Cl):Option Int :=
 if j.op∉compares∨j.left.col=[] then some 1
 else match an a j.left.col with
  | none=>some 7
  | some k=>if dR j.right a≠(a.getD k zC).kind then some 13 else none
theorem mM (j:Jb) (a:List Cl):aX j a=match pW j a with
  | some e=> .error e
  | none=> .ok (List.replicate (if j.code=9 then 2 else 1) a):=by
 unfold aX pW;split
 ·rfl
 cases an a j.left.col with
 | none=>rfl
 | some k =>
  simp only;split<;>rfl
def nq (j:Jb) (t:Tb):Tb:=⟨t.cols,t.rows.filter (cZ j t)⟩
def ED (j:Jb) (t:Tb):Tb:=⟨t.cols,t.rows.filter fun r=> !cZ j t r⟩
theorem bg {t:Tb} (h:ak t=true):t.rows.length≤60:=(aF.1 h).2.1
theorem jL {t:Tb} {D:List (List Vl)} (h:ak t=true) (J:D.length≤60) (I:∀ r∈D,r∈t.rows):ak ⟨t.cols,D⟩=true:=by
 obtain ⟨a,_,c⟩:=aF.1 h;exact aF.2 ⟨a,J,fun r H=>c r (I r H)⟩
theorem lq {t:Tb} (j:Jb) (h:ak t=true):ak (nq j t)=true :=
 jL h (Ft (List.length_filter_le _ _) (bg h)) fun _ D=>(List.mem_filter.1 D).1
theorem ym (j:Jb) (t:Tb) (H:j.code=1) (I:j.outs.length=1):j6 j [t]=if ak t=true then (match pW j t.cols with
  | some e=> .error e
  | none=> .ok [nq j t]) else .error 1:=by
 unfold j6;by_cases h:ak t=true
 ·have D:([t].any fun t=> !ak t)=false:=by simp[h]
  rw[D,if_neg (by decide),if_pos h];unfold aK aw;simp only[H,I,List.map_cons,List.map_nil,List.getD_cons_zero,mM]
  cases pW j t.cols with
  | some e=>simp
  | none =>
   have J:¬60<(t.rows.filter (cZ j t)).length:=by have:=List.length_filter_le (cZ j t) t.rows;have:=bg h;omega
   simp[bw,fo,H,de,if_neg J];rfl
 have D:([t].any fun t=> !ak t)=true:=by simp[h]
 rw[D,if_pos rfl,if_neg h]
theorem Ae (j:Jb) (t:Tb) (I:j.code=9) (J:j.outs.length=2):j6 j [t]=if ak t=true then (match pW j t.cols with
  | some e=> .error e
  | none=> .ok [nq j t,ED j t]) else .error 1:=by
 unfold j6;by_cases h:ak t=true
 ·have D:([t].any fun t=> !ak t)=false:=by simp[h]
  rw[D,if_neg (by decide),if_pos h];unfold aK aw;simp only[I,J,List.map_cons,List.map_nil,List.getD_cons_zero,mM]
  cases pW j t.cols with
  | some e=>simp
  | none =>
   have M:¬60<(t.rows.filter (cZ j t)).length:=by have:=List.length_filter_le (cZ j t) t.rows;have:=bg h;omega
   have H:¬60<(t.rows.filter fun r=> !cZ j t r).length:=by have:=List.length_filter_le (fun r=> !cZ j t r) t.rows;have:=bg h;omega
   simp[bw,fo,I,de,if_neg M,if_neg H];exact ⟨rfl,rfl⟩
 have D:([t].any fun t=> !ak t)=true:=by simp[h]
 rw[D,if_pos rfl,if_neg h]
theorem u9 (j:Jb) (t:Tb) (D:j.code=1):kq j [t]=if ak t=true∧pW j t.cols=none then some (nq j t) else none:=by
 unfold kq;have e:(1+(j.code / 9).toNat)=1:=by rw[D];rfl
 rw[e,ym { j with outs:=[[120],[121]].take 1 } t D (by simp)];by_cases h:ak t=true
 ·rw[if_pos h]
  have H:pW { j with outs:=[[120],[121]].take 1 } t.cols=pW j t.cols:=rfl;rw[H]
  cases I:pW j t.cols with
  | some e=>simp
  | none=>simp[h];rfl
 rw[if_neg h];simp[h]
theorem dp {cs:List Cl} {r:List Vl}:ft cs r=true↔r.length=cs.length∧∀ i (h:i<r.length) (h':i<cs.length),r[i].kind=cs[i].kind∧eO r[i]=true:=by
 unfold ft;simp only[Bool.and_eq_true,decide_eq_true_eq,List.all_eq_true];constructor
 ·rintro ⟨D,H⟩
  refine ⟨D,fun i h h'=>?_⟩;have:=H i (List.mem_range.2 h);unfold ke at this;rw[Fp h,Fp h'] at this;simpa using this
 rintro ⟨D,H⟩;refine ⟨D,fun i I=>?_⟩;have h:=List.mem_range.1 I;unfold ke;rw[Fp h,Fp (by omega)];have:=H i h (by omega);simpa using this
theorem ec {l:List Cl}:bV l=true↔1≤l.length∧l.length≤6∧(∀ c∈l,fm c.name=true∧(c.kind=1∨c.kind=2))∧(l.map (·.name)).Nodup:=by
 unfold bV;simp only[Bool.and_eq_true,decide_eq_true_eq,List.all_eq_true];constructor
 ·rintro ⟨⟨O,N⟩,J⟩
  have D:∀ i (h:i<l.length),(fm l[i].name=true∧(l[i].kind=1∨l[i].kind=2))∧∀ k (I:k<i),l[k].name≠l[i].name:=fun i h=>by
   have:=J i (List.mem_range.2 h);unfold fY at this;rw[Fp h] at this;simp only[Bool.and_eq_true,Bool.or_eq_true,decide_eq_true_eq,Bool.not_eq_true',List.any_eq_false,beq_iff_eq] at this;refine ⟨this.1,fun k I=>this.2 _ ?_⟩;rw[List.mem_take_iff_getElem];exact ⟨k,by omega,rfl⟩
  refine ⟨O,N,fun c Z=>?_,?_⟩
  ·obtain ⟨i,H,rfl⟩:=List.getElem_of_mem Z
   exact (D i H).1
  rw[List.nodup_iff_pairwise_ne,List.pairwise_iff_getElem];intro i k H I M;simp only[List.getElem_map];exact (D k (by simpa using I)).2 i M
 rintro ⟨O,N,J,U⟩;refine ⟨⟨O,N⟩,fun i H=>?_⟩;have h:=List.mem_range.1 H;unfold fY;rw[Fp h];simp only[Bool.and_eq_true,Bool.or_eq_true,decide_eq_true_eq,Bool.not_eq_true',List.any_eq_false,beq_iff_eq];refine ⟨J _ (Fs h),fun x V=>?_⟩;rw[List.mem_take_iff_getElem] at V;obtain ⟨k,I,rfl⟩:=V;rw[List.nodup_iff_pairwise_ne,List.pairwise_iff_getElem] at U;have:=U k i (by simp;omega) (by simpa using h) (by omega);simpa using this
theorem dG {a:List Cl} {n:Bs} {k:Nat}:an a n=some k↔∃ h:k<a.length,a[k].name=n∧∀ j (D:j<k),(a[j]'(by omega)).name≠n:=by
 unfold an;rw[List.findIdx?_eq_some_iff_getElem];constructor
 ·rintro ⟨h,I,H⟩
  exact ⟨h,by simpa using I,fun j D=>by simpa using H j D⟩
 rintro ⟨h,I,H⟩;exact ⟨h,by simpa using I,fun j D=>by simpa using H j D⟩
def gU (a:List Cl) (n:Bs):Cl:=match an a n with
 | none=>zC
 | some k=>a.getD k zC
theorem kF {a:List Cl} {n:Bs} {k:Nat} (h:an a n=some k):∃ D:k<a.length,gU a n=a[k]∧(gU a n).name=n:=by
 obtain ⟨D,H,_⟩:=dG.1 h;have e:gU a n=a[k]:=by
  unfold gU;rw[h];simp only;rw[Fy,Fp D];rfl
 exact ⟨D,e,by rw[e];exact H⟩
theorem oB {a:List Cl} (h:(a.map (·.name)).Nodup) {k:Nat} (D:k<a.length):an a a[k].name=some k:=by
 refine dG.2 ⟨D,rfl,fun j H=>?_⟩;rw[List.nodup_iff_pairwise_ne,List.pairwise_iff_getElem] at h;have:=h j k (by simp;omega) (by simpa using D) H;simpa using this
theorem lZ {a:List Cl}:∀ (ns seen:List Bs) (acc out:List Cl),cW a seen ns acc= .ok out↔(∀ n∈ns,∃ k,an a n=some k)∧ns.Nodup∧(∀ n∈ns,n∉seen)∧out=acc++ns.map (gU a)
 | [],seen,acc,out=>by
  simp only[cW,Except.ok.injEq,List.not_mem_nil,false_imp_iff,implies_true,List.nodup_nil,List.map_nil,List.append_nil,true_and];exact ⟨fun h=>h.symm,fun h=>h.symm⟩
 | n::ns,seen,acc,out=>by
  unfold cW
  cases h:an a n with
  | none =>
   simp only;constructor
   ·intro H;cases H
   rintro ⟨H,_⟩;obtain ⟨k,U⟩:=H n (by simp);rw[h] at U;cases U
  | some k =>
   simp only;have e:gU a n=a.getD k zC:=by unfold gU;rw[h]
   by_cases J:n∈seen
   ·rw[if_pos J]
    constructor
    ·intro H;cases H
    rintro ⟨_,_,I,_⟩;exact absurd J (I n (by simp))
   rw[if_neg J,lZ ns (seen++[n]) (acc++[a.getD k zC]) out];simp only[List.mem_cons,List.nodup_cons,List.map_cons,List.mem_append,List.not_mem_nil,or_false,not_or,←e];constructor
   ·rintro ⟨M,H,I,O⟩
    refine ⟨fun x D=>?_,⟨fun Z=>(I n Z).2 rfl,H⟩,fun x D=>?_,by rw[O];simp⟩
    ·rcases D with rfl|D
     ·exact ⟨k,h⟩
     exact M x D
    rcases D with rfl|D
    ·exact J
    exact (I x D).1
   rintro ⟨M,⟨H,I⟩,O,V⟩;exact ⟨fun x D=>M x (.inr D),I,fun x D=>⟨O x (.inr D),fun N=>H (N ▸ D)⟩,by rw[V];simp⟩
theorem ge {j:Jb} {ins:List Tb} {u:Tb} (D:j.code / 9=0):kq j ins=some u↔(∀ t∈ins,ak t=true)∧∃ out h,aK { j with outs:=[[120]] } (ins.map (·.cols))= .ok out∧bw { j with outs:=[[120]] } ins out= .ok h∧de out h= .ok [u]:=by
 rw[Ca D,Da]
theorem bJ {c:List Cl} {r:List (List Vl)} {u:Tb}:de [c] [r]= .ok [u]↔r.length≤60∧u=⟨c,r⟩:=by
 rw[yi];split
 ·rename_i h
  constructor
  ·intro D;cases D
  rintro ⟨D,_⟩;omega
 rename_i h;constructor
 ·intro D
  injection D with D;injection D with D _;exact ⟨by omega,D.symm⟩
 rintro ⟨_,rfl⟩;rfl
def oC (j:Jb) (a:List Cl):Prop:=1≤j.cols.length∧j.cols.length≤6∧(∀ n∈j.cols,∃ k,an a n=some k)∧j.cols.Nodup
theorem fE {j:Jb} {a:List Cl} {out:List (List Cl)}:bW j a= .ok out↔oC j a∧out=[if j.code=4 then a else j.cols.map (gU a)]:=by
 unfold bW oC;split
 ·rename_i h
  constructor
  ·intro D;cases D
  rintro ⟨⟨D,H,_⟩,_⟩;omega
 rename_i h
 cases J:cW a [] j.cols [] with
 | error e =>
  constructor
  ·intro D;cases D
  rintro ⟨⟨_,_,H,I⟩,_⟩;have:=(lZ j.cols [] [] (j.cols.map (gU a))).2 ⟨H,I,by simp,by simp⟩;rw[J] at this;cases this
 | ok q =>
  obtain ⟨H,I,_,M⟩:=(lZ j.cols [] [] q).1 J;have e:q=j.cols.map (gU a):=by simpa using M
  subst e;constructor
  ·intro D
   injection D with D;exact ⟨⟨by omega,by omega,H,I⟩,D.symm⟩
  rintro ⟨_,D⟩;rw[D]
theorem Af {j:Jb} {t u:Tb} (H:j.code=3):kq j [t]=some u↔ak t=true∧oC j t.cols∧u=⟨j.cols.map (gU t.cols),t.rows.map (fw j t)⟩:=by
 rw[ge (by rw[H];rfl)];have N:aK { j with outs:=[[120]] } ([t].map (·.cols))=bW { j with outs:=[[120]] } t.cols:=by
  unfold aK aw;simp[H]
 have U:∀ out,bw { j with outs:=[[120]] } [t] out= .ok [t.rows.map (fw j t)]:=fun out=>by
  unfold bw fo;simp[H];intro a _;rfl
 rw[N];simp only[U,List.mem_singleton,forall_eq];constructor
 ·rintro ⟨h,out,M,V,I,O⟩
  injection I with I;subst I;obtain ⟨D,J⟩:=fE.1 V;rw[if_neg (by simp only;omega)] at J;subst J;exact ⟨h,D,(bJ.1 O).2⟩
 rintro ⟨h,D,rfl⟩;refine ⟨h,_,_,fE.2 ⟨D,rfl⟩,rfl,?_⟩;rw[if_neg (by simp only;omega)];exact bJ.2 ⟨by rw[List.length_map];exact bg h,rfl⟩
theorem yo {j:Jb} {t v u:Tb} (I:j.code=5):kq j [t,v]=some u↔ak t=true∧ak v=true∧t.cols=v.cols∧t.rows.length+v.rows.length≤60∧u=⟨t.cols,t.rows++v.rows⟩:=by
 rw[ge (by rw[I];rfl)];have e1:aK { j with outs:=[[120]] } ([t,v].map (·.cols))=if t.cols≠v.cols then .error 13 else .ok [t.cols]:=by
  unfold aK aw;simp[I]
 have e2:∀ out,bw { j with outs:=[[120]] } [t,v] out= .ok [t.rows++v.rows]:=fun out=>by
  unfold bw fo;simp[I]
 rw[e1];simp only[e2,List.mem_cons,List.not_mem_nil,or_false,forall_eq_or_imp,forall_eq];constructor
 ·rintro ⟨⟨N,J⟩,out,O,D,H,h3⟩
  injection H with H;subst H;split at D
  ·cases D
  rename_i M;injection D with D;subst D;obtain ⟨U,V⟩:=bJ.1 h3;rw[Fo] at U;exact ⟨N,J,Decidable.not_not.1 M,U,V⟩
 rintro ⟨N,J,Z,hl,rfl⟩;refine ⟨⟨N,J⟩,[t.cols],_,by rw[if_neg (fun h=>h Z)],rfl,bJ.2 ⟨by rw[Fo];exact hl,rfl⟩⟩
theorem ek:∀ (D:List (List Vl)) (seen:List Bs) (out:List (List Vl)),(aI D seen out).length≤D.length+out.length∧∀ r∈aI D seen out,r∈D∨r∈out
 | [],_,out=>⟨by simp[aI],fun r h=> .inr (by simpa[aI] using h)⟩
 | x::D,seen,out=>by
  unfold aI;split
  ·obtain ⟨J,I⟩:=ek D seen out
   exact ⟨by simp;omega,fun r H=>(I r H).imp (fun h=>by simp[h]) id⟩
  obtain ⟨J,I⟩:=ek D (bM x::seen) (out++[x]);refine ⟨by simp at J ⊢;omega,fun r H=>?_⟩;rcases I r H with h|h
  ·exact .inl (by simp[h])
  rw[List.mem_append,List.mem_singleton] at h;rcases h with h|h
  ·exact .inr h
  exact .inl (by simp[h])
theorem Ak {j:Jb} {t u:Tb} (D:j.code=6):kq j [t]=some u↔ak t=true∧u=⟨t.cols,aI t.rows [] []⟩:=by
 rw[ge (by rw[D];rfl)];have M:aK { j with outs:=[[120]] } ([t].map (·.cols))= .ok [t.cols]:=by
  unfold aK aw;simp[D]
 have O:∀ out,bw { j with outs:=[[120]] } [t] out= .ok [aI t.rows [] []]:=fun out=>by
  unfold bw fo;simp[D]
 rw[M];simp only[O,List.mem_singleton,forall_eq];constructor
 ·rintro ⟨h,out,J,I,H,N⟩
  injection I with I;injection H with H;subst I H;exact ⟨h,(bJ.1 N).2⟩
 rintro ⟨h,rfl⟩;refine ⟨h,_,_,rfl,rfl,bJ.2 ⟨?_,rfl⟩⟩;have:=(ek t.rows [] []).1;have:=bg h;simp at *;omega
theorem vd {t:Tb} (h:ak t=true):ak ⟨t.cols,aI t.rows [] []⟩=true :=
 jL h (by have:=(ek t.rows [] []).1;have:=bg h;simp at *;omega) fun r D=>by
  rcases (ek t.rows [] []).2 r D with h|h
  ·exact h
  cases h
theorem tp {t v:Tb} (h:ak t=true) (J:ak v=true) (I:t.cols=v.cols) (M:t.rows.length+v.rows.length≤60):ak ⟨t.cols,t.rows++v.rows⟩=true:=by
 obtain ⟨a,_,c⟩:=aF.1 h;obtain ⟨_,_,H⟩:=aF.1 J;refine aF.2 ⟨a,by rw[Fo];exact M,fun r D=>?_⟩;rw[List.mem_append] at D;rcases D with D|D
 ·exact c r D
 exact I ▸ H r D
theorem Cb (j:Jb) (t:Tb) (r:List Vl) (i:Nat) (h:i<j.cols.length) {k:Nat} (D:an t.cols j.cols[i]=some k) (H:k<r.length):(fw j t r)[i]'(by unfold fw;simpa using h)=r[k]:=by
 unfold fw;simp only[List.getElem_map,D];rw[Fy,Fp H];rfl
theorem ve {j:Jb} {t:Tb} (h:ak t=true) (hp:oC j t.cols):ak ⟨j.cols.map (gU t.cols),t.rows.map (fw j t)⟩=true:=by
 obtain ⟨a,b,c⟩:=aF.1 h;obtain ⟨Z,V,N,h4⟩:=hp;obtain ⟨_,_,h7,_⟩:=ec.1 a;refine aF.2 ⟨ec.2 ⟨by simpa using Z,by simpa using V,fun x O=>?_,?_⟩,by simpa using b,fun r hr=>?_⟩
 ·obtain ⟨n,M,rfl⟩:=List.mem_map.1 O
  obtain ⟨k,H⟩:=N n M;obtain ⟨D,J,_⟩:=kF H;rw[J];exact h7 _ (Fs D)
 ·have e:(j.cols.map (gU t.cols)).map (·.name)=j.cols:=by
   rw[List.map_map];refine (List.map_congr_left fun n M=>?_).trans (List.map_id _);obtain ⟨k,H⟩:=N n M;exact (kF H).2.2
  simp only;rw[e];exact h4
 obtain ⟨x,O,rfl⟩:=List.mem_map.1 hr;obtain ⟨hl,hv⟩:=dp.1 (c x O);refine dp.2 ⟨by simp[fw],fun i U hi'=>?_⟩;have I:i<j.cols.length:=by simpa[fw] using U
 obtain ⟨k,H⟩:=N _ (Fs I);obtain ⟨D,J,_⟩:=kF H;rw[Cb j t x i I H (by omega)];simp only[List.getElem_map];rw[J];exact hv k (by omega) D
theorem l6 (j:Jb) (a:Tb):∀ (I acc l:List (List Vl)),aO j a I acc=some l↔∃ q,l=acc++q∧q.length=I.length∧∀ i (h:i<I.length) (h':i<q.length),bp j a I[i]=some q[i]
 | [],acc,l=>by
  simp only[aO,Option.some.injEq];constructor
  ·intro h;exact ⟨[],by simp[h],rfl,fun i h=>by simp at h⟩
  rintro ⟨q,U,J,_⟩;have:q=[]:=List.eq_nil_of_length_eq_zero J;rw[U,this,List.append_nil]
 | r::I,acc,l=>by
  unfold aO
  cases h:bp j a r with
  | none =>
   simp only;constructor
   ·intro J;cases J
   rintro ⟨q,_,J,V⟩;have:=V 0 (by simp) (by rw[J];simp);simp only[List.getElem_cons_zero] at this;rw[h] at this;cases this
  | some x =>
   simp only;rw[l6 j a I (acc++[x]) l];constructor
   ·rintro ⟨q,rfl,M,N⟩
    refine ⟨x::q,by simp,by simp[M],fun i H D=>?_⟩;rcases i with _|i
    ·exact h
    exact N i (by simpa using H) (by simpa using D)
   rintro ⟨q,rfl,M,N⟩
   match q,M with
   | y::q,M =>
    have O:=N 0 (by simp) (by simp);simp only[List.getElem_cons_zero] at O;rw[h] at O;cases O
    refine ⟨q,by simp,by simpa using M,fun i H D=>?_⟩;have:=N (i+1) (by simpa using H) (by simpa using D);simpa using this
def wI (j:Jb) (a:List Cl) (k:Nat):Prop:=j.cols.length=1∧(j.op=[43]∨j.op=[45]∨j.op=[42])∧an a (j.cols.headD [])=some k∧(a.getD k zC).kind=1∧dR j.left a=1∧dR j.right a=1
theorem vf {j:Jb} {a:List Cl} {out:List (List Cl)}:jS j a= .ok out↔(∃ k,wI j a k)∧out=[a]:=by
 unfold jS wI;split
 ·rename_i h
  constructor
  ·intro I;cases I
  rintro ⟨⟨k,M,I,_⟩,_⟩;rcases h with h|h
  ·exact absurd M h
  exact absurd I h
 rename_i h;have M:j.cols.length=1:=Decidable.not_not.1 fun J=>h (.inl J)
 have I:j.op=[43]∨j.op=[45]∨j.op=[42]:=Classical.byContradiction fun J=>h (.inr J)
 cases Z:an a (j.cols.headD []) with
 | none =>
  constructor
  ·intro D;cases D
  rintro ⟨⟨k,_,_,D,_⟩,_⟩;cases D
 | some k =>
  simp only;split
  ·rename_i D
   constructor
   ·intro H;cases H
   rintro ⟨⟨V,_,_,H,U,N,O⟩,_⟩;cases H
   rcases D with D|D|D
   ·exact absurd U D
   ·exact absurd N D
   exact absurd O D
  rename_i D;simp only[not_or,Decidable.not_not] at D;constructor
  ·intro H
   injection H with H;exact ⟨⟨k,M,I,rfl,D.1,D.2.1,D.2.2⟩,H.symm⟩
  rintro ⟨_,H⟩;rw[H]
theorem Cc {j:Jb} {t u:Tb} (J:j.code=2):kq j [t]=some u↔ak t=true∧(∃ k,wI j t.cols k)∧∃ l,aO j t t.rows []=some l∧u=⟨t.cols,l⟩:=by
 rw[ge (by rw[J];rfl)];have V:aK { j with outs:=[[120]] } ([t].map (·.cols))=jS j t.cols:=by
  unfold aK aw;simp[J];rfl
 have e2:∀ out,bw { j with outs:=[[120]] } [t] out=match aO j t t.rows [] with
  | none=> .error 2
  | some l=> .ok [l]:=fun out=>by
  have h:∀ H acc,aO { j with outs:=[[120]] } t H acc=aO j t H acc:=fun H=>by
   induction H with
   | nil=>intro acc;rfl
   | cons r H ih =>
    intro acc;unfold aO;have:bp { j with outs:=[[120]] } t r=bp j t r:=rfl;rw[this]
    cases bp j t r with
    | none=>rfl
    | some x=>exact ih _
  rw[gL (by show j.code≠4;omega) (by show j.code≠7;omega) (by show j.code≠8;omega)];unfold fo;simp only;rw[if_neg (by omega),if_pos J];show (match aO { j with outs:=[[120]] } t t.rows [] with|none=>_|some l=>_)=_;rw[h]
 rw[V];simp only[e2,List.mem_singleton,forall_eq];constructor
 ·rintro ⟨I,out,N,U,D,Z⟩
  obtain ⟨M,rfl⟩:=vf.1 U
  cases h:aO j t t.rows [] with
  | none=>rw[h] at D;cases D
  | some l =>
   rw[h] at D;injection D with D;subst D;exact ⟨I,M,l,rfl,(bJ.1 Z).2⟩
 rintro ⟨I,M,l,h,rfl⟩;refine ⟨I,_,[l],vf.2 ⟨M,rfl⟩,by rw[h],bJ.2 ⟨?_,rfl⟩⟩;obtain ⟨q,O,hl,_⟩:=(l6 j t t.rows [] l).1 h;have:=bg I;rw[List.nil_append] at O;rw[O,hl];exact this
theorem rL {v:Vl} (h:eO v=true) (D:v.kind=1) : -1000000000≤v.num∧v.num≤1000000000∧v.word=[]:=by
 unfold eO at h;rw[if_pos D] at h;simp only[Bool.and_eq_true,decide_eq_true_eq,beq_iff_eq] at h;exact ⟨h.1.2,h.2,h.1.1⟩
theorem wJ {a:Ar} {t:Tb} (Z:ak t=true) (h:dR a t.cols=1) {r:List Vl} (U:r∈t.rows) : -1000000000≤(bB a t.cols r).num∧(bB a t.cols r).num≤1000000000:=by
 obtain ⟨_,_,c⟩:=aF.1 Z;obtain ⟨hl,V⟩:=dp.1 (c r U);unfold dR at h;unfold bB;split at h
 ·rename_i I
  rw[if_pos I];split at h
  ·rename_i M
   have:=rL M h;exact ⟨this.1,this.2.1⟩
  cases h
 rename_i I;rw[if_neg I]
 cases J:an t.cols a.col with
 | none=>rw[J] at h;cases h
 | some k =>
  rw[J] at h;simp only at h ⊢;split at h
  ·obtain ⟨H,_,_⟩:=dG.1 J
   have D:k<r.length:=by omega
   rw[Fy,Fp H] at h;rw[Fy,Fp D];obtain ⟨O,N⟩:=V k D H;have:=rL N (O.trans h);exact ⟨this.1,this.2.1⟩
  cases h
theorem oD {j:Jb} {a:Tb} {k:Nat} (H:an a.cols (j.cols.headD [])=some k) {r x:List Vl}:bp j a r=some x↔(-1000000000≤jT j.op (bB j.left a.cols r).num (bB j.right a.cols r).num∧jT j.op (bB j.left a.cols r).num (bB j.right a.cols r).num≤1000000000)∧x=r.set k ⟨(r.getD k zV).kind,jT j.op (bB j.left a.cols r).num (bB j.right a.cols r).num,(r.getD k zV).word⟩:=by
 unfold bp;simp only;split
 ·rename_i h
  constructor
  ·intro D;cases D
  rintro ⟨D,_⟩;omega
 rename_i h;rw[H];simp only[Option.some.injEq];exact ⟨fun D=>⟨by omega,D.symm⟩,fun D=>D.2.symm⟩
theorem yp {j:Jb} {t:Tb} {k:Nat} {l:List (List Vl)} (h:ak t=true) (hs:wI j t.cols k) (hg:aO j t t.rows []=some l):ak ⟨t.cols,l⟩=true:=by
 obtain ⟨a,b,c⟩:=aF.1 h;obtain ⟨q,hq,hl,hi⟩:=(l6 j t t.rows [] l).1 hg;rw[List.nil_append] at hq;subst hq;obtain ⟨_,_,hk,J,_,_⟩:=hs;obtain ⟨av,_,_⟩:=dG.1 hk;refine aF.2 ⟨a,by rw[hl];exact b,fun r hr=>?_⟩;obtain ⟨i,I,rfl⟩:=List.getElem_of_mem hr;have Z:i<l.length:=I;have hx:=hi i (by omega) Z;obtain ⟨hb,he⟩:=(oD hk).1 hx;obtain ⟨N,H⟩:=dp.1 (c t.rows[i] (Fs (by omega)));simp only at he ⊢;rw[he];refine dp.2 ⟨by rw[List.length_set];exact N,fun m M O=>?_⟩;rw[List.length_set] at M;rw[List.getElem_set];split
 ·rename_i ad
  subst ad;obtain ⟨U,h4⟩:=H k M O;have D:t.cols[k].kind=1:=by
   rw[Fy,Fp O] at J;exact J
  have V:(t.rows[i]'(by omega)).getD k zV=(t.rows[i]'(by omega))[k]:=by rw[Fy,Fp M];rfl
  rw[V];refine ⟨U,?_⟩;have hw:=(rL h4 (U.trans D)).2.2;unfold eO;simp only;rw[if_pos (U.trans D),hw];simp only[Bool.and_eq_true,decide_eq_true_eq];exact ⟨⟨rfl,hb.1⟩,hb.2⟩
 exact H m M O
theorem AZ {j:Jb} {t u:Tb} (H:j.code=4):kq j [t]=some u↔ak t=true∧oC j t.cols∧u=⟨t.cols,cK t j.cols⟩:=by
 rw[ge (by rw[H];rfl)];have N:aK { j with outs:=[[120]] } ([t].map (·.cols))=bW { j with outs:=[[120]] } t.cols:=by
  unfold aK aw;simp[H]
 have U:∀ out,bw { j with outs:=[[120]] } [t] out= .ok [cK t j.cols]:=fun out=>by
  unfold bw;simp[H]
 rw[N];simp only[U,List.mem_singleton,forall_eq];constructor
 ·rintro ⟨h,out,M,V,I,O⟩
  injection I with I;subst I;obtain ⟨D,J⟩:=fE.1 V;rw[if_pos (by simp only;omega)] at J;subst J;exact ⟨h,D,(bJ.1 O).2⟩
 rintro ⟨h,D,rfl⟩;refine ⟨h,_,_,fE.2 ⟨D,rfl⟩,rfl,?_⟩;rw[if_pos (by simp only;omega)];exact bJ.2 ⟨by unfold cK;rw[bG];exact bg h,rfl⟩
theorem pj {t:Tb} {ns:List Bs} {r:List Vl}:r∈cK t ns↔r∈t.rows:=(gK _).mem_iff
theorem vO {t:Tb} {ns:List Bs} (h:ak t=true):ak ⟨t.cols,cK t ns⟩=true :=
 jL h (by unfold cK;rw[bG];exact bg h) fun _ D=>pj.1 D
theorem qR {j:Jb} {a b:List Cl} {out:List (List Cl)} (h:dg j a b= .ok out):∃ x y k m,j.cols=[x,y]∧an a x=some k∧an b y=some m∧(a.getD k zC).kind=(b.getD m zC).kind∧kp (a++b.take m++b.drop (m+1))=false∧(a++b.take m++b.drop (m+1)).length≤6∧out=[a++b.take m++b.drop (m+1)]:=by
 unfold dg at h;by_cases I:j.cols.length≠2
 ·rw[if_pos I] at h;cases h
 rw[if_neg I] at h;obtain ⟨x,y,D⟩:∃ x y,j.cols=[x,y]:=by
  match U:j.cols,Decidable.not_not.1 I with
  | [x,y],_=>exact ⟨x,y,rfl⟩
 rw[D] at h;simp only[List.getD_cons_zero,List.getD_cons_succ] at h
 cases H:an a x with
 | none=>rw[H] at h;cases h
 | some k =>
  cases J:an b y with
  | none=>rw[H,J] at h;cases h
  | some m =>
   rw[H,J] at h;simp only at h;split at h
   ·cases h
   rename_i M;split at h
   ·cases h
   rename_i N;split at h
   ·cases h
   rename_i O;injection h with h;exact ⟨x,y,k,m,D,H,J,Decidable.not_not.1 M,by simpa using N,by omega,h.symm⟩
theorem pm {j:Jb} {a:List Cl} {out:List (List Cl)} (h:cF j a= .ok out):∃ x y k m,j.cols=[x,y]∧(j.op=sD∨j.op=[109,97,120])∧an a x=some k∧an a y=some m∧(a.getD m zC).kind=1∧k≠m∧out=[[a.getD k zC,a.getD m zC]]:=by
 unfold cF at h;by_cases I:j.cols.length≠2∨¬(j.op=[115,117,109]∨j.op=[109,97,120])
 ·rw[if_pos I] at h;cases h
 rw[if_neg I] at h;have h2':j.cols.length=2:=Classical.byContradiction fun M=>I (.inl M)
 have h3':j.op=[115,117,109]∨j.op=[109,97,120]:=Classical.byContradiction fun M=>I (.inr M)
 obtain ⟨x,y,D⟩:∃ x y,j.cols=[x,y]:=by
  match U:j.cols,h2' with
  | [x,y],_=>exact ⟨x,y,rfl⟩
 rw[D] at h;simp only[List.getD_cons_zero,List.getD_cons_succ] at h
 cases H:an a x with
 | none=>rw[H] at h;cases h
 | some k =>
  cases J:an a y with
  | none=>rw[H,J] at h;cases h
  | some m =>
   rw[H,J] at h;simp only at h;split at h
   ·cases h
   rename_i N;split at h
   ·cases h
   rename_i O;injection h with h;exact ⟨x,y,k,m,D,h3',H,J,Decidable.not_not.1 N,O,h.symm⟩
theorem mQ {a:List Cl} {n:Bs} {k:Nat} (h:an a n=some k):ed a n=k:=by unfold ed;rw[h];rfl
theorem Ba {j:Jb} {a b u:Tb} (I:j.code=7) (h:kq j [a,b]=some u):ak a=true∧ak b=true∧∃ x y k m,j.cols=[x,y]∧an a.cols x=some k∧an b.cols y=some m∧(a.cols.getD k zC).kind=(b.cols.getD m zC).kind∧kp (a.cols++b.cols.take m++b.cols.drop (m+1))=false∧(a.cols++b.cols.take m++b.cols.drop (m+1)).length≤6∧(bK k m a.rows b.rows).length≤60∧u=⟨a.cols++b.cols.take m++b.cols.drop (m+1),bK k m a.rows b.rows⟩:=by
 rw[ge (by rw[I];rfl)] at h;have e1:aK { j with outs:=[[120]] } ([a,b].map (·.cols))=dg { j with outs:=[[120]] } a.cols b.cols:=by
  unfold aK aw;simp[I]
 have e2:∀ out,bw { j with outs:=[[120]] } [a,b] out= .ok [bK (ed a.cols (j.cols.getD 0 [])) (ed b.cols (j.cols.getD 1 [])) a.rows b.rows]:=fun out=>by
  unfold bw;simp[I]
 rw[e1] at h;simp only[e2] at h;obtain ⟨V,out,U,h1,D,h3⟩:=h;injection D with D;subst D;obtain ⟨x,y,k,m,H,N,O,h4,Z,h6,rfl⟩:=qR h1;have hxy':j.cols=[x,y]:=H;obtain ⟨M,J⟩:=bJ.1 h3;rw[hxy'] at M J;simp only[List.getD_cons_zero,List.getD_cons_succ,mQ N,mQ O] at M J;exact ⟨V a (by simp),V b (by simp),x,y,k,m,hxy',N,O,h4,Z,h6,M,J⟩
theorem yR {j:Jb} {t u:Tb} (I:j.code=8) (h:kq j [t]=some u):ak t=true∧∃ x y k m,j.cols=[x,y]∧(j.op=sD∨j.op=[109,97,120])∧an t.cols x=some k∧an t.cols y=some m∧(t.cols.getD m zC).kind=1∧k≠m∧(∀ p∈aM j.op k m (cK t [x]),eO p.2=true)∧(aM j.op k m (cK t [x])).length≤60∧u=⟨[t.cols.getD k zC,t.cols.getD m zC],dK (aM j.op k m (cK t [x]))⟩:=by
 rw[ge (by rw[I];rfl)] at h;have e1:aK { j with outs:=[[120]] } ([t].map (·.cols))=cF { j with outs:=[[120]] } t.cols:=by
  unfold aK aw;simp[I]
 have e2:∀ out,bw { j with outs:=[[120]] } [t] out=if ((aM j.op (ed t.cols (j.cols.getD 0 [])) (ed t.cols (j.cols.getD 1 [])) (cK t [j.cols.getD 0 []])).any fun p=> !eO p.2)=true then .error 2 else .ok [dK (aM j.op (ed t.cols (j.cols.getD 0 [])) (ed t.cols (j.cols.getD 1 [])) (cK t [j.cols.getD 0 []]))]:=fun out=>by
  unfold bw;simp only[I];rw[if_neg (by decide),if_neg (by decide),if_pos trivial];rfl
 rw[e1] at h;simp only[e2] at h;obtain ⟨hr,out,O,V,D,h3⟩:=h;obtain ⟨x,y,k,m,H,J,M,N,h4,U,rfl⟩:=pm V;have hxy':j.cols=[x,y]:=H;rw[hxy'] at D;simp only[List.getD_cons_zero,List.getD_cons_succ,mQ M,mQ N] at D;split at D
 ·cases D
 rename_i Z;injection D with D;subst D;obtain ⟨h7,h8⟩:=bJ.1 h3;refine ⟨hr t (by simp),x,y,k,m,hxy',J,M,N,h4,U,fun p hp=>?_,by simpa[dK] using h7,h8⟩;refine Classical.byContradiction fun hf=>Z (List.any_eq_true.2 ⟨p,hp,by simpa using hf⟩)
theorem yS {α:Type} {l:List α} {x:α} (h:l.getLast? = some x):l=l.dropLast++[x]:=by
 obtain ⟨q,rfl⟩:=List.getLast?_eq_some_iff.1 h;rw[List.dropLast_concat]
theorem Bb (op:Bs) (k m:Nat) (h:List (List Vl)) (r:List Vl):aM op k m (h++[r])=ip op k m (aM op k m h) r:=by
 unfold aM;rw[List.foldl_append];rfl
theorem po {t:Tb} (h:ak t=true) {r:List Vl} (M:r∈t.rows) {k:Nat} (H:k<t.cols.length):k<r.length∧eO (r.getD k zV)=true∧(r.getD k zV).kind=(t.cols.getD k zC).kind:=by
 obtain ⟨_,_,c⟩:=aF.1 h;obtain ⟨O,N⟩:=dp.1 (c r M);have D:k<r.length:=by omega
 obtain ⟨I,J⟩:=N k D H;refine ⟨D,?_,?_⟩
 ·rw[Fy,Fp D];exact J
 rw[Fy,Fp D,Fy,Fp H];exact I
theorem yT {out:List Cl} (h:kp out=false):(out.map (·.name)).Nodup:=by
 rw[List.nodup_iff_pairwise_ne,List.pairwise_iff_getElem];intro i j H D I e;simp only[List.length_map] at H D;simp only[List.getElem_map] at e;unfold kp at h;rw[←Bool.not_eq_true,List.any_eq_true] at h;refine h ⟨j,List.mem_range.2 D,?_⟩;rw[Fy,Fp D];simp only[Option.getD_some];unfold an;rw[List.findIdx?_isSome,List.any_eq_true];refine ⟨out[i],?_,by simpa using e⟩;rw[List.mem_take_iff_getElem];exact ⟨i,by omega,rfl⟩
theorem mR {α:Type} (l:List α) (m i:Nat) (h:i<(l.take m++l.drop (m+1)).length) (I:m<l.length):∃ k,∃ H:k<l.length,(l.take m++l.drop (m+1))[i]=l[k]∧k=if i<m then i else i+1:=by
 have J:(l.take m++l.drop (m+1)).length=l.length-1:=by simp;omega
 by_cases D:i<m
 ·refine ⟨i,by omega,?_,by rw[if_pos D]⟩
  rw[List.getElem_append_left (by simp;omega),List.getElem_take]
 refine ⟨i+1,by omega,?_,by rw[if_neg D]⟩;rw[List.getElem_append_right (by simp;omega),List.getElem_drop];congr 1
 simp;omega
theorem vP {j:Jb} {a b u:Tb} (hc:j.code=7) (h:kq j [a,b]=some u):ak u=true:=by
 obtain ⟨ha,hb,x,y,k,m,_,hk,hm,_,hd,hl,hn,rfl⟩:=Ba hc h;obtain ⟨a1,_,a3⟩:=aF.1 ha;obtain ⟨b1,_,b3⟩:=aF.1 hb;obtain ⟨c1,_,c3,_⟩:=ec.1 a1;obtain ⟨_,_,d3,_⟩:=ec.1 b1;obtain ⟨Z,_,_⟩:=dG.1 hm;refine aF.2 ⟨ec.2 ⟨by simp only[Fo];omega,hl,fun c J=>?_,yT hd⟩,hn,fun r N=>?_⟩
 ·rw[List.append_assoc,List.mem_append] at J
  rcases J with H|H
  ·exact c3 c H
  rw[List.mem_append] at H;rcases H with H|H
  ·exact d3 c (List.mem_of_mem_take H)
  exact d3 c (List.mem_of_mem_drop H)
 unfold bK at N;obtain ⟨x,hx,N⟩:=List.mem_flatMap.1 N;obtain ⟨y,hy,rfl⟩:=List.mem_map.1 N;have hy':=(List.mem_filter.1 hy).1;obtain ⟨O,e2⟩:=dp.1 (a3 x hx);obtain ⟨f1,f2⟩:=dp.1 (b3 y hy');rw[List.append_assoc,List.append_assoc];have M:(y.take m++y.drop (m+1)).length=(b.cols.take m++b.cols.drop (m+1)).length:=by simp[f1]
 refine dp.2 ⟨by rw[Fo,O,M,←Fo],fun i hi hi'=>?_⟩;by_cases D:i<x.length
 ·rw[List.getElem_append_left D,List.getElem_append_left (by omega)]
  exact e2 i D (by omega)
 rw[List.getElem_append_right (Nat.le_of_not_lt D),List.getElem_append_right (show a.cols.length≤i by rw[←O];exact Nat.le_of_not_lt D)];have I:i-x.length<(y.take m++y.drop (m+1)).length:=by rw[Fo] at hi;omega
 obtain ⟨k1,V,g1,q1⟩:=mR y m (i-x.length) I (by omega);obtain ⟨k2,ad,g2,q2⟩:=mR b.cols m (i-x.length) (by rw[←M];exact I) Z;have U:k1=k2:=by rw[q1,q2]
 subst U;have e3:i-a.cols.length=i-x.length:=by rw[O]
 simp only[e3];rw[g1,g2];exact f2 k1 V ad
theorem Cv (op:Bs) (k m:Nat) (D:List (List Vl)):∀ p∈aM op k m D,∃ r∈D,p.1=r.getD k zV∧∃ q∈D,p.2.kind=(q.getD m zV).kind:=by
 refine fJ (p:=fun D=>∀ p∈aM op k m D,∃ r∈D,p.1=r.getD k zV∧∃ q∈D,p.2.kind=(q.getD m zV).kind) (fun p h=>by cases h) (fun D r ih p h=>?_) D;have ih':∀ p∈aM op k m D,∃ q∈D++[r],p.1=q.getD k zV∧∃ z∈D++[r],p.2.kind=(z.getD m zV).kind:=fun p h=>by
  obtain ⟨q,U,O,z,M,N⟩:=ih p h;exact ⟨q,by simp[U],O,z,by simp[M],N⟩
 have H:∃ q∈D++[r],(r.getD k zV,r.getD m zV).1=q.getD k zV∧∃ z∈D++[r],(r.getD k zV,r.getD m zV).2.kind=(z.getD m zV).kind:=⟨r,by simp,rfl,r,by simp,rfl⟩
 rw[Bb] at h;unfold ip at h
 cases I:(aM op k m D).getLast? with
 | none =>
  rw[I] at h;rcases List.mem_append.1 h with h|h
  ·exact ih' p h
  rw[List.mem_singleton.1 h];exact H
 | some z =>
  rw[I] at h;have J:=yS I;simp only at h;split at h
  ·rcases List.mem_append.1 h with h|h
   ·exact ih' p (by rw[J];simp[h])
   rw[List.mem_singleton.1 h];exact ih' z (by rw[J];simp)
  rcases List.mem_append.1 h with h|h
  ·exact ih' p h
  rw[List.mem_singleton.1 h];exact H
theorem tZ {j:Jb} {t u:Tb} (hc:j.code=8) (h:kq j [t]=some u):ak u=true:=by
 obtain ⟨O,x,y,k,m,_,_,hk,hm,ad,N,U,hl,rfl⟩:=yR hc h;obtain ⟨a1,_,a3⟩:=aF.1 O;obtain ⟨_,_,V,c4⟩:=ec.1 a1;obtain ⟨D,_,_⟩:=dG.1 hk;obtain ⟨H,_,_⟩:=dG.1 hm;have Z:t.cols.getD k zC=t.cols[k]:=by rw[Fy,Fp D];rfl
 have gm:t.cols.getD m zC=t.cols[m]:=by rw[Fy,Fp H];rfl
 rw[Z,gm];refine aF.2 ⟨ec.2 ⟨by simp,by simp,fun c I=>?_,?_⟩,by simpa[dK] using hl,fun r M=>?_⟩
 ·simp only[List.mem_cons,List.not_mem_nil,or_false] at I
  rcases I with rfl|rfl
  ·exact V _ (Fs D)
  exact V _ (Fs H)
 ·simp only[List.map_cons,List.map_nil,List.nodup_cons,List.mem_singleton,List.not_mem_nil,not_false_eq_true,List.nodup_nil,and_true]
  intro e;have J:=oB c4 D;have h2:=oB c4 H;rw[e,h2] at J;injection J with J;exact N J.symm
 obtain ⟨p,hp,rfl⟩:=List.mem_map.1 M;obtain ⟨q,hq,e1,z,hz,e2⟩:=Cv _ k m _ p hp;obtain ⟨_,v1,v2⟩:=po O (pj.1 hq) D;obtain ⟨_,_,w2⟩:=po O (pj.1 hz) H;refine dp.2 ⟨rfl,fun i hi hi'=>?_⟩
 match i,hi with
 | 0,_=>exact ⟨by show p.1.kind=_;rw[e1,v2,Z];rfl,by show eO p.1=true;rw[e1];exact v1⟩
 | 1,_=>exact ⟨by show p.2.kind=_;rw[e2,w2,gm];rfl,U p hp⟩
end
section
open Go.RowKit Go.Shelf Go.ChangeShapes Go.WideShapes
theorem Fn.p10g:Tryz.prog.globalNamed "internal/strconv.uint64pow10" = some 10:=by kernel_rfl
theorem Fn.p10t:(Tryz.prog.globals[10]?).map (·.type)=some 283:=by kernel_rfl
theorem Fn.sg:Tryz.prog.globalNamed "strconv.ErrSyntax" = some 6:=by kernel_rfl
theorem Fn.st:(Tryz.prog.globals[6]?).map (·.type)=some 34:=by kernel_rfl
theorem Fn.rg:Tryz.prog.globalNamed "strconv.ErrRange" = some 7:=by kernel_rfl
theorem Fn.rt:(Tryz.prog.globals[7]?).map (·.type)=some 34:=by kernel_rfl
theorem Fn.mg:Tryz.prog.globalNamed "foreman/flow.marks" = some 3:=by kernel_rfl
theorem Fn.mt:(Tryz.prog.globals[3]?).map (·.type)=some 195:=by kernel_rfl
theorem Fn.wg:Tryz.prog.globalNamed "foreman/flow.words" = some 4:=by kernel_rfl
theorem Fn.wt:(Tryz.prog.globals[4]?).map (·.type)=some 232:=by kernel_rfl
theorem uq {W:World} {nm:String} {g:Nat} {t:TypeId} {n:Nat} {zs:List Bs} {d:DataW Unit} (N:Tryz.prog.globalNamed nm=some g) (H:(Tryz.prog.globals[g]?).map (·.type)=some t) (V:Tryz.prog.underlying t=some (.array n 9)) (M:Tryz.prog.cellsOf t=n)
  (e:d= .agg (zs.map fun z=> .lit (.string z))) (h:laidMet Tryz.prog [(nm,d)] W):∀ j (O:j<zs.length),W.cell? ⟨g,j,none⟩=some (.string (bs zs[j])):=by
 rw[e] at h;obtain ⟨ps,⟨Z,t',cs,fuel,p,q,J,I,D,hd,_,_⟩,_⟩:=h;obtain rfl:=Option.some.inj (N.symm.trans J);obtain rfl:=Option.some.inj (H.symm.trans I);have U:=kc V Tryz.underlying9 (by kernel_rfl) M hd;intro j O;rw[World.var?_cell N D j,←Array.getElem?_toList,U,List.getElem?_map,Fp O];rfl
theorem CU {D:List (String×DataW Unit)} {W:World}
  (H:D.filter (fun x=>x.1 == "internal/strconv.uint64pow10")=[("internal/strconv.uint64pow10",Rows.laid_internal_strconv_uint64pow10)])
  (O:D.filter (fun x=>x.1 == "foreman/flow.marks")=[("foreman/flow.marks",Rows.laid_foreman_flow_marks)])
  (I:D.filter (fun x=>x.1 == "strconv.ErrSyntax")=[("strconv.ErrSyntax",Rows.laid_strconv_ErrSyntax)])
  (J:D.filter (fun x=>x.1 == "strconv.ErrRange")=[("strconv.ErrRange",Rows.laid_strconv_ErrRange)])
  (M:D.filter (fun x=>x.1 == "foreman/flow.words")=[("foreman/flow.words",Rows.laid_foreman_flow_words)])
  (h:laidMet Tryz.prog D W) (N:W.ShapedOpen Tryz.prog):jW W:=by
 refine ⟨?_,lF Fn.sg Fn.st Tryz.underlying34 (gF _ _ I h),lF Fn.rg Fn.rt Tryz.underlying34 (gF _ _ J h),
  uq (zs:=aJ) Fn.mg Fn.mt Tryz.underlying195 (by kernel_rfl) (by kernel_rfl) (gF _ _ O h),uq (zs:=eF) Fn.wg Fn.wt Tryz.underlying232 (by kernel_rfl) (by kernel_rfl) (gF _ _ M h),?_⟩
 ·have e:(Rows.laid_internal_strconv_uint64pow10:DataW Unit)=Lib.tabData .u64 Lib.pow10Tab:=by kernel_rfl
  have h':=gF _ _ H h;rw[e] at h';exact Lib.tabIs_of_head Fn.p10g Fn.p10t Tryz.underlying283 Tryz.underlying247 (by kernel_rfl) (by kernel_rfl) h'
 obtain ⟨cs,H,_⟩:=N.1 4 #[.string ⟨#[]⟩,.string ⟨#[]⟩,.string ⟨#[]⟩,.string ⟨#[]⟩,.string ⟨#[]⟩,.string ⟨#[]⟩,.string ⟨#[]⟩,.string ⟨#[]⟩,.string ⟨#[]⟩,.string ⟨#[]⟩] 232 (of_decide_eq_true (by kernel_rfl)) (by kernel_rfl);exact ⟨cs,_,H⟩
end
section
open Go.RowKit Go.Shelf Go.ChangeShapes Go.WideShapes Go.ChangeShapes
noncomputable def ur (os:Os):World:=CV (zy (World.doorLaid Tryz.prog 400 os))
theorem wk {P:Program} {D:List (String×DataW Unit)} {hd:String×DataW Unit} {W:World} (H:(D.filter fun x=>x.2.handleName?.isSome)=[hd]) (h:laidMetH P D W) :
  laidMet P (D.filter fun x=>x.2.handleName?.isNone) W∧handlesMet P [hd] W:=by
 unfold laidMetH at h;rw[H] at h;exact h
end
end Go.Proofs.YtecpeogejjibaaaGreatDoor
