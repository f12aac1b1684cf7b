/- Tables opened. A map of names to tables that is handed in, opened. The parser's body at its codes. The parser's body at its codes. Jobs as plain data: the laws. No program in sight. Jobs as plain data: what one makes of a table, code by code; it may be. No program in sight. OpsOnce as plain data: distinct once is distinct twice; all columns, picked, are the table. No program in sight. OpsTurns as plain data: left out first, or last. No program in sight. OpsSort as plain data. No program in sight. OpsJoin as plain data: pairs are counted; sums of groups. No program in sight. Jobs as plain data: what joins and groups make may be; what any job makes may be. No program in sight. What flows lean on, out of a row's laid list; a world in which it is laid. A row's condition parted from its handles; a world in which all is laid. -/
import Derived.Test.YtecpeogejjibaaaGreatDoorEmoM1
import Derived.Test.YtecpeogejjibaaaGreatDoorEmoM5
import Derived.Test.YtecpeogejjibaaaGreatDoorEmoM6
import Derived.Test.YtecpeogejjibaaaGreatDoorEmoM3
import Derived.WideKeyElems2
import Derived.Test.YtecpeogejjibaaaGreatDoorEmoM7
import Derived.Test.YtecpeogejjibaaaGreatDoorEmoM2
import Derived.ChangeSame
set_option linter.unusedSimpArgs false
set_option linter.unusedVariables false
set_option maxRecDepth 100000
set_option maxHeartbeats 16000000
namespace Go.Proofs.YtecpeogejjibaaaGreatDoor
open Go.Lib renaming hid → Fx
open _root_.List renaming length_append → Fz, getElem?_eq_getElem → FA, getElem_mem → FE, length_cons → FG, getD_eq_getElem?_getD → FJ
open Go.World renaming block_lt_of_cell? → FC, news_of_block → FI
open _root_.Nat renaming le_trans → FD
open aa renaming refl → FK
open ao renaming new → FL
open Go.Value renaming string → FM, slice → FN, pointer → FO, int → FR
open Go.Ending renaming returned → FP
open Go.Obj renaming cells → FQ
open Go.IntKind renaming i64 → FS
section
open Go.RowKit Go.ChangeShapes Go.WideShapes Go.Joins
open Go.Deep (oneCellFields hone_of)
section
variable {H:Type} {enc:TypeId×Value→H} {w:World} {base b0:Nat} {spare:Nat→Bool} {held:Bool} {v:Value} {d:DataW H} {p:List MemPlace} {r:Reach}
structure io (w:World) (t:Tb) (A B:Option Addr) (c d:Nat):Prop where
 cols:Rd w [] 2 A t.cols.length (ai t.cols)
 cc:t.cols.length≤c
 rows:cM w [] B t.rows
 cd:t.rows.length≤d
 names:∀ x∈t.cols,x.name.length≤maxLen
 vals:∀ r∈t.rows,r.length≤maxLen∧∀ v∈r,v.word.length≤maxLen∧ea v.num
theorem io.inn {w:World} {t:Tb} {A B:Option Addr} {c d:Nat} (h:io w t A B c d) (I:ek t=true):aZ w t A B c d∧nz w t A B:=by
 unfold ek at I;simp only[Bool.and_eq_true,Bool.not_eq_true',Bool.or_eq_false_iff,decide_eq_false_iff_not,List.any_eq_false] at I;obtain ⟨⟨⟨O,U⟩,M⟩,J⟩:=I;have D:∀ r∈t.rows,r.length≤4294967296:=fun r D=>by
  have:=J r D;simp at this;omega
 exact ⟨⟨h.cols,h.cc,h.rows,h.cd,fun x N=>by have:=M x N;simp at this;omega,by omega,by omega,D⟩,⟨h.cols,h.rows,by omega,by omega,D⟩⟩
end
section
variable {H:Type} {enc:TypeId×Value→H} {P:Program} {w:World} {base b0:Nat} {spare:Nat→Bool} {held:Bool} {r:Reach}
theorem ut {t:TypeId} {N:Array Field} {v:Value} (M:P.underlying t=some (.struct N)) (J:P.cellsOf t=2) (I:v.formed P t=true):∃ D h,v= .agg #[D,h]:=by
 cases v<;>simp[Value.formed,M] at I
 rename_i cs;obtain ⟨D,h,rfl⟩:=array2 (I.trans J);exact ⟨D,h,rfl⟩
theorem uv {t:TypeId} {I J:Field} {v:Value} {d:DataW H} {p:List MemPlace} (O:P.underlying t=some (.struct #[I,J])) (D:oneCellFields P #[I,J]=true) (hC:P.cellsOf t=2) (M:v.formed P t=true) (h:DataW.Trod enc P w base spare held t v d p) :
  ∃ (U N:Value) (y0 y1:DataW H×List MemPlace) (n:Nat),v= .agg #[U,N] ∧
   DataW.trod enc P w base spare held n I.type [U]=some y0∧DataW.trod enc P w base spare held n J.type [N]=some y1:=by
 obtain ⟨Z,c1,rfl⟩:=ut O hC M;obtain ⟨fuel,M⟩:=h;obtain ⟨y0,y1,n,hx,_,h0,h1⟩:=trod_struct2 O M;obtain ⟨o0,k0⟩:=hone_of D 0 I rfl;obtain ⟨o1,k1⟩:=hone_of D 1 J rfl;exact ⟨Z,c1,y0,y1,n,rfl,by simpa[Value.cells,o0,k0] using h0,by simpa[Value.cells,o1,k1] using h1⟩
end
section
variable {H:Type} {enc:TypeId×Value→H} {w:World} {base b0:Nat} {spare:Nat→Bool} {held:Bool} {v:Value} {d:DataW H} {p:List MemPlace} {r:Reach}
theorem sj (Z:v.formed Tryz.prog 54=true) (h:DataW.Trod enc Tryz.prog w base spare held 54 v d p):∃ (t:Tb) (A B:Option Addr) (c D:Nat),v=jP A t.cols.length c B t.rows.length D∧io w t A B c D:=by
 obtain ⟨v0,v1,y0,y1,n,rfl,h0,h1⟩:=uv Tryz.underlying54 (by kernel_rfl) (by kernel_rfl) Z h;obtain ⟨A,c,l,J,U,_,N,hn⟩:=wR h0;obtain ⟨B,D,rs,I,O,_,hd,M⟩:=wT h1;injection J with J;injection I with I;subst J I;exact ⟨⟨l,rs⟩,A,B,c,D,rfl,N,U,hd,O,hn,M⟩
def uw (w:World) (v:Value):Prop:=v= .map none∨∃ b mv,v= .map (some b)∧bI Tryz.prog 9 w b mv∧(mv.map (·.1)).Nodup∧mv.length≤maxLen∧∀ p∈mv,∃ (t:Tb) (A B:Option Addr) (c d:Nat),p.2=jP A t.cols.length c B t.rows.length d∧io w t A B c d
theorem xm (J:Value.okWide Tryz.prog w r b0 22 v) (h:DataW.Trod enc Tryz.prog w base spare held 22 v d p):uw w v:=by
 obtain ⟨a0,rfl⟩:=okWide_map Tryz.underlying22 J;obtain ⟨fuel,h⟩:=h;rcases WideElems.open_map Tryz.underlying22 h with ⟨N,_⟩|⟨b,es,cl,n,-,D,O,-,M,-⟩
 ·left
  simp[Value.cells] at N;exact congrArg Value.map N
 right
 have J:Value.map a0= .map (some b):=by
  simp[Value.cells] at D;exact congrArg Value.map D
 obtain ⟨mv,h1,Z,h3,h4⟩:=bI.of_fit O M Tryz.underlying9;refine ⟨b,mv,J,Z,h3,by rw[h1];exact M.size,fun q hq=>?_⟩;obtain ⟨x,U,e1,-⟩:=h4 q hq;obtain ⟨y,hy⟩:=M.reads x U;obtain ⟨z,I,-⟩:=WideElems.rd_val hy;rw[e1] at I;unfold WideElems.elemAt at I;split at I
 ·rename_i hf
  exact sj hf ⟨n,I⟩
 cases I
end
end
section
open Go.RowKit Go.BigFrame
attribute [local go_sem] ag ab ae af
theorem Dx {l:List Tk} {b jb lo:Nat} {v2 v3 v4:Value} (aA code:Int) (outs ins cols:List Bs) (op:Bs) (left right:Ar) (J:Int) (w0 w:World) (hE:FB w0 lo) (b5:lo≤b) (h:Ps w b l) (hk:aa [b] w0 w) (b8:w0.heap.size≤jb) (hj:aV w w0.heap.size jb ⟨aA,code,outs,ins,cols,op,left,right,J⟩ v2 v3 v4) (cv:ins.length≤1000) (ct:cols.length≤1000) (b3:l.length≤1000000) (a8:bV (aS l).text=4) (ba:(aS l).kind=1) :
  Calls Tryz.prog 122 #[FO (some ⟨b,0,none⟩),FO (some ⟨jb,0,none⟩)] w fun e w'=>gb (bH ⟨aA,code,outs,ins,cols,op,left,right,J⟩ l) b w0.heap.size jb e w'∧aa [b] w0 w':=by
 obtain ⟨i0,hi,bZ,b6,bX⟩:=info_parts kX;obtain ⟨R,hR⟩:∃ R,bH ⟨aA,code,outs,ins,cols,op,left,right,J⟩ l=R:=⟨_,rfl⟩
 rw[hR];have HE:=Fx hE;have M:=Fx h;have U:=Fx hk;have D:=Fx hj;have bm:=Fx b8;have a9:Hid (ins.length≤999000):=Fx (by omega);have cz:Hid (cols.length≤999000):=Fx (by omega);have ce:=Fx b3;have bc:Hid (∀ W,aa [] w W→Calls Tryz.prog 48 #[FN (some ⟨4,0,none⟩) 10 10,FM (bs (aS l).text)] W fun e W'=>e=FP (FR FS (dm (aS l).text))∧W=W'):=Fx (fun W q=>cE (aS l).text W ((hE.one b5 hk).quiet q).env);obtain ⟨q,hq⟩:∃ q,dm (aS l).text=q:=⟨_,rfl⟩
 rw[hq] at bc;have HQ:=Fx hq;obtain ⟨g,o,c,c0,z0,lb,lg,-,hn,hc,bv,k0,k1,k2,-⟩:=h.open';have bj:(0:Int)<(l.length:Int):=by omega
 have f1:w.cell? ⟨jb,1,none⟩=some (FR FS code):=hj.blk.cell 1;have f2:=hj.blk.frozen 1;have lj:=hj.blk.lt;have b9:=Fx a8;have b4:Hid ((aQ l.tail >>= fun p=>j6 ⟨aA,4,outs,ins++[p.1],cols,op,left,right,J⟩ p.2)=R):=Fx (by
  rw[←hR];unfold bH;rw[a8,if_neg (by rw[ba];decide)];rfl)
 have b7:bC [115,111,114,116] l=true:=by
  unfold bC;rw[ba,cU a8 (by decide)];rfl
 have ca:=Fx b7;have b0:=Fx ba;clear hR hE h hk hj cv ct b3 b8 hq a8 b7 ba;go_enter Tryz.func122,Tryz.ntmps122
 go_upto_region 0 with (fail)
 go_cut [] (fun wx=>wx=(w.setCell ⟨jb,1,none⟩ (FR FS (max q 0))).drew)
 case first =>
  go_region_law (first|(go_simp;go_at_call 48;refine (bc.out _ (FK [] w).drew).mono ?_;rintro e w6 ⟨rfl,rfl⟩))
  all_goals
   go_wp2;go_meet;exact rfl
 subst hcut;clear c0 z0 lb lg hn hc bv k0 k1 k2 bj lj f1 f2 bc;have ad:aa [jb] w ((w.setCell ⟨jb,1,none⟩ (FR FS (max q 0))).drew):=((FK _ _).setCell (.inl (by simp)) _).drew;have hj':aV ((w.setCell ⟨jb,1,none⟩ (FR FS (max q 0))).drew) w0.heap.size jb ⟨aA,max q 0,outs,ins,cols,op,left,right,J⟩ v2 v3 v4:=D.out.box ad ((D.out.blk.set 1 (FR FS (max q 0))).congr (by rfl)) rfl rfl rfl;have hp':=M.out.box D.out ad;have hk':=U.out.box bm.out ad;have hm:max q 0=4:=by rw[←HQ.out,db,b9.out];rfl
 rw[hm] at hj' hp' hk' ⊢;clear hm ad D M U;obtain ⟨y0,hy⟩:∃ x,(w.setCell ⟨jb,1,none⟩ (FR FS 4)).drew=x:=⟨_,rfl⟩
 rw[hy] at hj' hp' hk' ⊢;have D:=Fx hj';have M:=Fx hp';have U:=Fx hk';have a3:y0.cell? ⟨jb,1,none⟩=some (FR FS 4):=hj'.blk.cell 1;have lj:=hj'.blk.lt;obtain ⟨g,o,c,c0,z0,lb,lg,-,hn,hc,bv,k0,k1,k2,-⟩:=hp'.open';have bj:(0:Int)<(l.length:Int):=by omega
 clear hy hj' hp' hk' hn hc bv HQ;rw[b0.out] at k0;have wd:=(HE.out.one b5 U.out).env.words 4 (by decide);have cd:y0.cell? ⟨4,4,none⟩=some (FM (bs [115,111,114,116])):=wd;have cq:=FC _ _ cd;clear wd;go_wp2_with fail
 refine (aT (s:=[115,111,114,116]) (r:=l.tail) (by unfold aR;rw[if_pos ca.out]) y0 M.out).mono ?_;rintro ev y1 ⟨rfl,hp,hk⟩;have HJ':=Fx (D.out.ps M.out hk);have HK':=Fx (U.out.trans hk);clear M D U c0 z0 lb lg k0 k1 k2 bj a3 lj cd cq;have M:=Fx hp;have D:=HJ';have U:=HK';clear hp hk HJ' HK';have Z:=b4;clear b4;have av:Hid (l.tail.length≤l.length):=Fx (by rw[List.length_tail];omega);obtain ⟨r0,bz⟩:∃ r0,l.tail=r0:=⟨_,rfl⟩
 rw[bz] at M Z av;clear bz ca b0 b9;have a3:y1.cell? ⟨jb,1,none⟩=some (FR FS 4):=D.out.blk.cell 1;have bq:=D.out.blk.lt;go_upto_region 13 with (fail)
 obtain ⟨A2,c2,hv,-⟩:=ar D.out.o3;subst hv;have fS:y1.cell? ⟨jb,3,none⟩=some (FN A2 (ins).length c2)∧y1.frozen? ⟨jb,3,none⟩=false:=⟨D.out.blk.cell 3,D.out.blk.frozen 3⟩;have lj:=D.out.blk.lt;have a1:=Fx (show (ins).length+1≤maxLen∧((ins).length+1)*16≤140737488355328 by have:=a9.out;simp only[maxLen];first|omega|(simp only[Fz,FG,List.length_nil];omega));have bk:Hid (jb∉[b]):=Fx (by have:=D.out.blk.ty.ne M.out.ty (by decide);simpa using this);rcases hS:aQ r0 with x|⟨a2,r2⟩
 ·have I:=Z.out
  rw[hS,aw] at I;have HX:=Fx I.symm;have HC:Hid (∀ W,aa [] y1 W→Calls Tryz.prog 80 #[FO (some ⟨b,0,none⟩)] W fun e w'=>bW x e w'∧aa [b] W w'):=Fx (fun W z=>bR hS W (M.out.keep z));clear I hS;go_wp2_with fail
  go_region_law (first|(refine step_append_lies _ (by rfl) _ _ _ (by rfl) w0.heap.size 9 i0 _ 1 16 Tryz.underlying44 hi bZ b6 bX rfl (by decide) (FN A2 (ins).length c2) (ins).length (strs (ins)) (by rfl) ((D.out.ps M.out N.undrew).o3.alloc _) ⟨w6.heap.size,0,none⟩ 1 1 [FM (bs [])] (by rfl) rfl (FI (heap_alloc_new _ _)) (by simp[Value.oneCell']) (by decide) a1.out.1 a1.out.2 (by have:=U.out.size;have:=N.size;have h9:y1.drew.heap.size=y1.heap.size:=rfl;simp;omega) _ rfl ?_;intro gw cap w7 a0 O bb b1;obtain ⟨cn,co⟩:=aE O (aD ⟨a6,bo⟩ _) (fun e=>(aK (D.out.ps M.out N.undrew).o3 jb e).ne (D.out.ps M.out N.undrew).blk.ty (by decide) rfl))|(go_simp;go_at_call 80;refine (HC.out _ (FK [] y1).drew).mono ?_;rintro e w6 ⟨⟨gi,rfl,hb⟩,N⟩;obtain ⟨a6,bo⟩:=aI N fS bk.out;have cj:jb<w6.heap.size:=FC w6 ⟨jb,3,none⟩ a6;dsimp only;(go_loud (refine cT ‹∀ (a:Act) (w:World),wpAny _ _ _ _ _ _ a w→_› (some 88) (FM (bs [])) ⟨rfl,by rw[HX.out];exact ⟨gi,rfl,hb⟩,U.out.trans N.undrew⟩ (fun hF=>?_)))))
  all_goals exact hF.out.elim
 have I:=Z.out;rw[hS,aq] at I;try dsimp only at I
 clear Z;have Z:=Fx I;clear I;have HC:Hid (∀ W,aa [] y1 W→Calls Tryz.prog 80 #[FO (some ⟨b,0,none⟩)] W fun e w'=>e=FP (FM (bs a2))∧Ps w' b r2∧aa [b] W w'):=Fx (fun W z=>bi hS W (M.out.keep z));have a7:Hid (r2.length≤l.length):=Fx (by have:=av.out;have:=az hS;omega);clear av;have av:=a7;clear a7;clear hS;go_cut [] (fun wx=>∃ br,aV wx w0.heap.size jb (⟨aA,4,outs,ins++[a2],cols,op,left,right,J⟩:Jb) v2 br v4∧Ps wx b r2∧aa [b] w0 wx)
 case first =>
  go_region_law (first|(refine step_append_lies _ (by rfl) _ _ _ (by rfl) w0.heap.size 9 i0 _ 1 16 Tryz.underlying44 hi bZ b6 bX rfl (by decide) (FN A2 (ins).length c2) (ins).length (strs (ins)) (by rfl) ((D.out.ps M.out N.undrew).o3.alloc _) ⟨w6.heap.size,0,none⟩ 1 1 [FM (bs a2)] (by rfl) rfl (FI (heap_alloc_new _ _)) (by simp[Value.oneCell']) (by decide) a1.out.1 a1.out.2 (by have:=U.out.size;have:=N.size;have h9:y1.drew.heap.size=y1.heap.size:=rfl;simp;omega) _ rfl ?_;intro gw cap w7 a0 O bb b1;obtain ⟨cn,co⟩:=aE O (aD ⟨a6,bo⟩ _) (fun e=>(aK (D.out.ps M.out N.undrew).o3 jb e).ne (D.out.ps M.out N.undrew).blk.ty (by decide) rfl))|(go_simp;go_at_call 80;refine (HC.out _ (FK [] y1).drew).mono ?_;rintro e w6 ⟨rfl,cu,N⟩;obtain ⟨a6,bo⟩:=aI N fS bk.out;have cj:jb<w6.heap.size:=FC w6 ⟨jb,3,none⟩ a6))
  all_goals
   go_wp2;go_meet;have hh:=aV.app3 (D.out.ps M.out N.undrew) cu (U.out.trans N.undrew) rfl bm.out O rfl a0 bb (by simp);exact ⟨_,hh.1,hh.2.1,hh.2.2⟩
 obtain ⟨br,hj,hp,hk⟩:=hcut;obtain ⟨y2,rfl⟩:∃ y:World,y=wc:=⟨_,rfl⟩
 clear M D U HC fS lj a1 bk;have M:=Fx hp;have D:=Fx hj;have U:=Fx hk;have bl:Hid ((ins++[a2]).length≤999000+2):=Fx (by have:=a9.out;simp only[Fz,FG,List.length_nil];omega);clear hp hj hk a9;generalize ins++[a2]=il2 at D Z bl;have a9:=bl;clear bl;clear a3 bq;have a3:y2.cell? ⟨jb,1,none⟩=some (FR FS 4):=D.out.blk.cell 1;have bq:=D.out.blk.lt;have I:=Z.out;clear Z;have Z:Hid (zJ (⟨aA,4,outs,il2,cols,op,left,right,J⟩:Jb) r2=R):=Fx I;clear I;have I:=Z.out;unfold zJ at I;clear Z;have Z:=Fx I;clear I;rcases hS:aR [98,121] r2 with x|r3
 ·have I:=Z.out
  rw[hS,aw] at I;have HX:=Fx I.symm;have HC:=Fx (cO hS y2 M.out);clear I hS;go_wp2_with fail
  refine HC.out.mono ?_;rintro ev w9 ⟨⟨gi,rfl,hb⟩,be⟩;exact ⟨rfl,by rw[HX.out];exact ⟨gi,rfl,hb⟩,U.out.trans be⟩
 have I:=Z.out;rw[hS,aq] at I;try dsimp only at I
 clear Z;have Z:=Fx I;clear I;have HC:=Fx (aT hS y2 M.out);have a7:Hid (r3.length≤l.length):=Fx (by have:=av.out;have:=aF hS;omega);clear hS av;have av:=a7;clear a7;go_wp2_with fail
 refine HC.out.mono ?_;rintro ev y3 ⟨rfl,hp,hk⟩;have HJ':=Fx (D.out.ps M.out hk);have HK':=Fx (U.out.trans hk);clear M D U HC;have M:=Fx hp;have D:=HJ';have U:=HK';clear hp hk HJ' HK';clear a3 bq;have hc:=lP y3 M.out (FD av.out ce.out);rcases hS:fk r3 with x|⟨a4,r4⟩
 ·have I:=Z.out
  rw[hS,aw] at I;have HX:=Fx I.symm;rw[hS] at hc;have cm:=Fx hc;clear I hS hc;go_wp2_with fail
  refine cm.out.mono ?_;rintro ev w9 ⟨⟨gi,rfl,hb⟩,be⟩;exact ⟨rfl,by rw[HX.out];exact ⟨gi,rfl,hb⟩,U.out.trans be⟩
 have I:=Z.out;rw[hS,aq] at I;try dsimp only at I
 clear Z;have Z:=Fx I;clear I;rw[hS] at hc;have HC:=Fx hc;clear hS hc;go_wp2_with fail
 refine HC.out.mono ?_;rintro ev y4 ⟨⟨v4,rfl,a5,hp⟩,hk⟩;obtain ⟨A4,c4,hv,-⟩:=ar a5;subst hv;have cg:=Fx a5;have ch:Hid (cD v2 (FN A4 a4.length c4)):=Fx (cD.new D.out.o2 (fun g hg=>(a5.lt g hg).1));have ci:Hid (cD br (FN A4 a4.length c4)):=Fx (cD.new D.out.o3 (fun g hg=>(a5.lt g hg).1));have cr:=Fx U.out.size;clear a5;have HJ':=Fx (D.out.ps M.out hk);have HK':=Fx (U.out.trans hk);clear M D U HC;have M:=Fx hp;have D:=HJ';have U:=HK';clear hp hk HJ' HK';have cy:=D.out.blk.frozen 4;have cx:y4.cell? ⟨jb,4,none⟩=some (v4):=D.out.blk.cell 4;have lj:=D.out.blk.lt;have ad:aa [jb] y4 (y4.setCell ⟨jb,4,none⟩ (FN A4 a4.length c4)):=(FK _ _).setCell (.inl (by simp)) _;have HJ':=Fx (D.out.put4 (cK cg.out cr.out) ch.out ci.out);have HP':=Fx (M.out.box D.out ad);have HK':=Fx (U.out.box bm.out ad);clear ad;have HX:=Fx Z.out.symm;clear Z;go_wp2;first|go_end0|refine bodyPost_ret (results_none rfl _ _ _) rfl ?_
 exact ⟨by rw[HX.out];exact ⟨rfl,⟨_,_,_,HJ'.out⟩,HP'.out⟩,HK'.out⟩
theorem Dy {l:List Tk} {b jb lo:Nat} {v2 v3 v4:Value} (a5 code:Int) (outs ins cols:List Bs) (op:Bs) (left right:Ar) (Z:Int) (w0 w:World) (hE:FB w0 lo) (cm:lo≤b) (h:Ps w b l) (hk:aa [b] w0 w) (cq:w0.heap.size≤jb) (hj:aV w w0.heap.size jb ⟨a5,code,outs,ins,cols,op,left,right,Z⟩ v2 v3 v4) (c9:ins.length≤1000) (c6:cols.length≤1000) (ch:l.length≤1000000) (bo:bV (aS l).text=8) (bX:(aS l).kind=1) :
  Calls Tryz.prog 122 #[FO (some ⟨b,0,none⟩),FO (some ⟨jb,0,none⟩)] w fun e w'=>gb (bH ⟨a5,code,outs,ins,cols,op,left,right,Z⟩ l) b w0.heap.size jb e w'∧aa [b] w0 w':=by
 obtain ⟨i0,hi,bq,bz,bm⟩:=info_parts kX;obtain ⟨R,hR⟩:∃ R,bH ⟨a5,code,outs,ins,cols,op,left,right,Z⟩ l=R:=⟨_,rfl⟩
 rw[hR];have HE:=Fx hE;have J:=Fx h;have O:=Fx hk;have D:=Fx hj;have bl:=Fx cq;have br:Hid (ins.length≤999000):=Fx (by omega);have ca:Hid (cols.length≤999000):=Fx (by omega);have dq:=Fx ch;have b0:Hid (∀ W,aa [] w W→Calls Tryz.prog 48 #[FN (some ⟨4,0,none⟩) 10 10,FM (bs (aS l).text)] W fun e W'=>e=FP (FR FS (dm (aS l).text))∧W=W'):=Fx (fun W q=>cE (aS l).text W ((hE.one cm hk).quiet q).env);obtain ⟨q,hq⟩:∃ q,dm (aS l).text=q:=⟨_,rfl⟩
 rw[hq] at b0;have HQ:=Fx hq;obtain ⟨g,o,c,c0,z0,lb,lg,-,hn,hc,b9,k0,k1,k2,-⟩:=h.open';have b1:(0:Int)<(l.length:Int):=by omega
 have f1:w.cell? ⟨jb,1,none⟩=some (FR FS code):=hj.blk.cell 1;have f2:=hj.blk.frozen 1;have lj:=hj.blk.lt;have ct:=Fx bo;have cj:Hid ((aQ l.tail >>= fun p=>j6 ⟨a5,8,outs,ins++[p.1],cols,op,left,right,Z⟩ p.2)=R):=Fx (by
  rw[←hR];unfold bH;rw[bo,if_neg (by rw[bX];decide)];rfl)
 have co:bC [103,114,111,117,112] l=true:=by
  unfold bC;rw[bX,cU bo (by decide)];rfl
 have cu:=Fx co;have cg:=Fx bX;clear hR hE h hk hj c9 c6 ch cq hq bo co bX;go_enter Tryz.func122,Tryz.ntmps122
 go_upto_region 0 with (fail)
 go_cut [] (fun wx=>wx=(w.setCell ⟨jb,1,none⟩ (FR FS (max q 0))).drew)
 case first =>
  go_region_law (first|(go_simp;go_at_call 48;refine (b0.out _ (FK [] w).drew).mono ?_;rintro e w6 ⟨rfl,rfl⟩))
  all_goals
   go_wp2;go_meet;exact rfl
 subst hcut;clear c0 z0 lb lg hn hc b9 k0 k1 k2 b1 lj f1 f2 b0;have aA:aa [jb] w ((w.setCell ⟨jb,1,none⟩ (FR FS (max q 0))).drew):=((FK _ _).setCell (.inl (by simp)) _).drew;have hj':aV ((w.setCell ⟨jb,1,none⟩ (FR FS (max q 0))).drew) w0.heap.size jb ⟨a5,max q 0,outs,ins,cols,op,left,right,Z⟩ v2 v3 v4:=D.out.box aA ((D.out.blk.set 1 (FR FS (max q 0))).congr (by rfl)) rfl rfl rfl;have hp':=J.out.box D.out aA;have hk':=O.out.box bl.out aA;have hm:max q 0=8:=by rw[←HQ.out,db,ct.out];rfl
 rw[hm] at hj' hp' hk' ⊢;clear hm aA D J O;obtain ⟨y0,hy⟩:∃ x,(w.setCell ⟨jb,1,none⟩ (FR FS 8)).drew=x:=⟨_,rfl⟩
 rw[hy] at hj' hp' hk' ⊢;have D:=Fx hj';have J:=Fx hp';have O:=Fx hk';have bk:y0.cell? ⟨jb,1,none⟩=some (FR FS 8):=hj'.blk.cell 1;have lj:=hj'.blk.lt;obtain ⟨g,o,c,c0,z0,lb,lg,-,hn,hc,b9,k0,k1,k2,-⟩:=hp'.open';have b1:(0:Int)<(l.length:Int):=by omega
 clear hy hj' hp' hk' hn hc b9 HQ;rw[cg.out] at k0;have wd:=(HE.out.one cm O.out).env.words 8 (by decide);have cv:y0.cell? ⟨4,8,none⟩=some (FM (bs [103,114,111,117,112])):=wd;have c3:=FC _ _ cv;clear wd;go_wp2_with fail
 refine (aT (s:=[103,114,111,117,112]) (r:=l.tail) (by unfold aR;rw[if_pos cu.out]) y0 J.out).mono ?_;rintro ev y1 ⟨rfl,hp,hk⟩;have HJ':=Fx (D.out.ps J.out hk);have HK':=Fx (O.out.trans hk);clear J D O c0 z0 lb lg k0 k1 k2 b1 bk lj cv c3;have J:=Fx hp;have D:=HJ';have O:=HK';clear hp hk HJ' HK';have HR:=cj;clear cj;have ad:Hid (l.tail.length≤l.length):=Fx (by rw[List.length_tail];omega);obtain ⟨r0,ce⟩:∃ r0,l.tail=r0:=⟨_,rfl⟩
 rw[ce] at J HR ad;clear ce cu cg ct;have bk:y1.cell? ⟨jb,1,none⟩=some (FR FS 8):=D.out.blk.cell 1;have b6:=D.out.blk.lt;go_upto_region 13 with (fail)
 obtain ⟨A2,c2,hv,-⟩:=ar D.out.o3;subst hv;have fS:y1.cell? ⟨jb,3,none⟩=some (FN A2 (ins).length c2)∧y1.frozen? ⟨jb,3,none⟩=false:=⟨D.out.blk.cell 3,D.out.blk.frozen 3⟩;have lj:=D.out.blk.lt;have a3:=Fx (show (ins).length+1≤maxLen∧((ins).length+1)*16≤140737488355328 by have:=br.out;simp only[maxLen];first|omega|(simp only[Fz,FG,List.length_nil];omega));have bb:Hid (jb∉[b]):=Fx (by have:=D.out.blk.ty.ne J.out.ty (by decide);simpa using this);rcases U:aQ r0 with x|⟨a2,r2⟩
 ·have M:=HR.out
  rw[U,aw] at M;have HX:=Fx M.symm;have HC:Hid (∀ W,aa [] y1 W→Calls Tryz.prog 80 #[FO (some ⟨b,0,none⟩)] W fun e w'=>bW x e w'∧aa [b] W w'):=Fx (fun W z=>bR U W (J.out.keep z));clear M U;go_wp2_with fail
  go_region_law (first|(refine step_append_lies _ (by rfl) _ _ _ (by rfl) w0.heap.size 9 i0 _ 1 16 Tryz.underlying44 hi bq bz bm rfl (by decide) (FN A2 (ins).length c2) (ins).length (strs (ins)) (by rfl) ((D.out.ps J.out I.undrew).o3.alloc _) ⟨w6.heap.size,0,none⟩ 1 1 [FM (bs [])] (by rfl) rfl (FI (heap_alloc_new _ _)) (by simp[Value.oneCell']) (by decide) a3.out.1 a3.out.2 (by have:=O.out.size;have:=I.size;have h9:y1.drew.heap.size=y1.heap.size:=rfl;simp;omega) _ rfl ?_;intro gw cap w7 a0 N a7 be;obtain ⟨b7,b8⟩:=aE N (aD ⟨a1,ba⟩ _) (fun e=>(aK (D.out.ps J.out I.undrew).o3 jb e).ne (D.out.ps J.out I.undrew).blk.ty (by decide) rfl))|(go_simp;go_at_call 80;refine (HC.out _ (FK [] y1).drew).mono ?_;rintro e w6 ⟨⟨gi,rfl,hb⟩,I⟩;obtain ⟨a1,ba⟩:=aI I fS bb.out;have b5:jb<w6.heap.size:=FC w6 ⟨jb,3,none⟩ a1;dsimp only;(go_loud (refine cT ‹∀ (a:Act) (w:World),wpAny _ _ _ _ _ _ a w→_› (some 88) (FM (bs [])) ⟨rfl,by rw[HX.out];exact ⟨gi,rfl,hb⟩,O.out.trans I.undrew⟩ (fun hF=>?_)))))
  all_goals exact hF.out.elim
 have M:=HR.out;rw[U,aq] at M;try dsimp only at M
 clear HR;have HR:=Fx M;clear M;have HC:Hid (∀ W,aa [] y1 W→Calls Tryz.prog 80 #[FO (some ⟨b,0,none⟩)] W fun e w'=>e=FP (FM (bs a2))∧Ps w' b r2∧aa [b] W w'):=Fx (fun W z=>bi U W (J.out.keep z));have av:Hid (r2.length≤l.length):=Fx (by have:=ad.out;have:=az U;omega);clear ad;have ad:=av;clear av;clear U;go_cut [] (fun wx=>∃ bZ,aV wx w0.heap.size jb (⟨a5,8,outs,ins++[a2],cols,op,left,right,Z⟩:Jb) v2 bZ v4∧Ps wx b r2∧aa [b] w0 wx)
 case first =>
  go_region_law (first|(refine step_append_lies _ (by rfl) _ _ _ (by rfl) w0.heap.size 9 i0 _ 1 16 Tryz.underlying44 hi bq bz bm rfl (by decide) (FN A2 (ins).length c2) (ins).length (strs (ins)) (by rfl) ((D.out.ps J.out I.undrew).o3.alloc _) ⟨w6.heap.size,0,none⟩ 1 1 [FM (bs a2)] (by rfl) rfl (FI (heap_alloc_new _ _)) (by simp[Value.oneCell']) (by decide) a3.out.1 a3.out.2 (by have:=O.out.size;have:=I.size;have h9:y1.drew.heap.size=y1.heap.size:=rfl;simp;omega) _ rfl ?_;intro gw cap w7 a0 N a7 be;obtain ⟨b7,b8⟩:=aE N (aD ⟨a1,ba⟩ _) (fun e=>(aK (D.out.ps J.out I.undrew).o3 jb e).ne (D.out.ps J.out I.undrew).blk.ty (by decide) rfl))|(go_simp;go_at_call 80;refine (HC.out _ (FK [] y1).drew).mono ?_;rintro e w6 ⟨rfl,cd,I⟩;obtain ⟨a1,ba⟩:=aI I fS bb.out;have b5:jb<w6.heap.size:=FC w6 ⟨jb,3,none⟩ a1))
  all_goals
   go_wp2;go_meet;have hh:=aV.app3 (D.out.ps J.out I.undrew) cd (O.out.trans I.undrew) rfl bl.out N rfl a0 a7 (by simp);exact ⟨_,hh.1,hh.2.1,hh.2.2⟩
 obtain ⟨bZ,hj,hp,hk⟩:=hcut;obtain ⟨y2,rfl⟩:∃ y:World,y=wc:=⟨_,rfl⟩
 clear J D O HC fS lj a3 bb;have J:=Fx hp;have D:=Fx hj;have O:=Fx hk;have a9:Hid ((ins++[a2]).length≤999000+2):=Fx (by have:=br.out;simp only[Fz,FG,List.length_nil];omega);clear hp hj hk br;generalize ins++[a2]=il2 at D HR a9;have br:=a9;clear a9;clear bk b6;have bk:y2.cell? ⟨jb,1,none⟩=some (FR FS 8):=D.out.blk.cell 1;have b6:=D.out.blk.lt;have M:=HR.out;clear HR;have HR:Hid (i6 (⟨a5,8,outs,il2,cols,op,left,right,Z⟩:Jb) r2=R):=Fx M;clear M;have M:=HR.out;unfold i6 at M;clear HR;have HR:=Fx M;clear M;rcases U:aR [98,121] r2 with x|r3
 ·have M:=HR.out
  rw[U,aw] at M;have HX:=Fx M.symm;have HC:=Fx (cO U y2 J.out);clear M U;go_wp2_with fail
  refine HC.out.mono ?_;rintro ev w9 ⟨⟨gi,rfl,hb⟩,bc⟩;exact ⟨rfl,by rw[HX.out];exact ⟨gi,rfl,hb⟩,O.out.trans bc⟩
 have M:=HR.out;rw[U,aq] at M;try dsimp only at M
 clear HR;have HR:=Fx M;clear M;have HC:=Fx (aT U y2 J.out);have av:Hid (r3.length≤l.length):=Fx (by have:=ad.out;have:=aF U;omega);clear U ad;have ad:=av;clear av;go_wp2_with fail
 refine HC.out.mono ?_;rintro ev y3 ⟨rfl,hp,hk⟩;have HJ':=Fx (D.out.ps J.out hk);have HK':=Fx (O.out.trans hk);clear J D O HC;have J:=Fx hp;have D:=HJ';have O:=HK';clear hp hk HJ' HK';clear bk b6;rcases U:aQ r3 with x|⟨a4,r4⟩
 ·have M:=HR.out
  rw[U,aw] at M;have HX:=Fx M.symm;have HC:=Fx (bR U y3 J.out);clear M U;go_wp2_with fail
  refine HC.out.mono ?_;rintro ev w9 ⟨⟨gi,rfl,hb⟩,bc⟩;exact ⟨rfl,by rw[HX.out];exact ⟨gi,rfl,hb⟩,O.out.trans bc⟩
 have M:=HR.out;rw[U,aq] at M;try dsimp only at M
 clear HR;have HR:=Fx M;clear M;have HC:=Fx (bi U y3 J.out);have av:Hid (r4.length≤l.length):=Fx (by have:=ad.out;have:=az U;omega);clear U ad;have ad:=av;clear av;go_wp2_with fail
 refine HC.out.mono ?_;rintro ev y4 ⟨rfl,hp,hk⟩;have HJ':=Fx (D.out.ps J.out hk);have HK':=Fx (O.out.trans hk);clear J D O HC;have J:=Fx hp;have D:=HJ';have O:=HK';clear hp hk HJ' HK';have c1:=D.out.blk.frozen 4;have cz:y4.cell? ⟨jb,4,none⟩=some (v4):=D.out.blk.cell 4;have lj:=D.out.blk.lt;have ci:(y4.alloc (FQ #[FM (bs a4)] 9)).ownsRow w0.heap.size 9 1 (FN (some ⟨y4.heap.size,0,none⟩) 1 1) [a4].length (strs [a4]):=ra (FL y4 9 #[FM (bs a4)]) O.out.size rfl (by decide);have cr:cD (v2) (FN (some ⟨y4.heap.size,0,none⟩) 1 1):=cD.new D.out.o2 (fun g hg=>by simp[Value.ownBlock] at hg;omega);have cn:cD (bZ) (FN (some ⟨y4.heap.size,0,none⟩) 1 1):=cD.new D.out.o3 (fun g hg=>by simp[Value.ownBlock] at hg;omega);have bj:aa [] y4 (y4.alloc (FQ #[FM (bs a4)] 9)):=(FK _ _).alloc _;have aA:aa [jb] (y4.alloc (FQ #[FM (bs a4)] 9)) ((y4.alloc (FQ #[FM (bs a4)] 9)).setCell ⟨jb,4,none⟩ (FN (some ⟨y4.heap.size,0,none⟩) 1 1)):=(FK _ _).setCell (.inl (by simp)) _;have hj':=(D.out.keep bj).put4 ci cr cn;have hp':=(J.out.keep bj).box (D.out.keep bj) aA;have hk':=aa.box (O.out.trans bj.of_nil) bl.out aA;rw[World.setCell_alloc_past (w:=y4) (FQ #[FM (bs a4)] 9) jb 4 (FN (some ⟨y4.heap.size,0,none⟩) 1 1) lj] at hj' hp' hk';have HJ':=Fx hj';have HP':=Fx hp';have HK':=Fx hk';clear ci cr cn bj aA hj' hp' hk';go_upto_region 32 with (fail)
 obtain ⟨y5,hy⟩:∃ x,((y4.setCell ⟨jb,4,none⟩ (FN (some ⟨y4.heap.size,0,none⟩) 1 1)).alloc (FQ #[FM (bs a4)] 9))=x:=⟨_,rfl⟩
 rw[hy] at HJ' HP' HK' ⊢;obtain ⟨c5,b4⟩:∃ n,y4.heap.size=n:=⟨_,rfl⟩
 rw[b4] at HJ';try rw[b4]
 clear hy b4 c1 cz lj D J O;have D:=HJ';have J:=HP';have O:=HK';clear HJ' HP' HK';obtain ⟨c7,cx⟩:∃ v,Value.slice (some ⟨c5,0,none⟩) 1 1=v:=⟨_,rfl⟩
 rw[cx] at D;clear cx;have a9:Hid ([a4].length≤999000):=Fx (by simp);clear ca;generalize bv:[a4]=cl5 at D HR a9;have HCL:=Fx bv;clear bv;have ca:=a9;clear a9;have HJ':=Fx (D.out.keep ((FK _ _).alloc (FQ #[FM (bs [115,117,109]),FM (bs [109,97,120])] 9)));have HP':=Fx (J.out.keep ((FK _ _).alloc (FQ #[FM (bs [115,117,109]),FM (bs [109,97,120])] 9)));have HK':=Fx (O.out.alloc (FQ #[FM (bs [115,117,109]),FM (bs [109,97,120])] 9));have b3:Hid (Rd (y5.alloc (FQ #[FM (bs [115,117,109]),FM (bs [109,97,120])] 9)) [b] 1 (some ⟨y5.heap.size,0,none⟩) 2 (strs [[115,117,109],[109,97,120]])):=Fx (ri [[115,117,109],[109,97,120]] (FL y5 9 #[FM (bs [115,117,109]),FM (bs [109,97,120])]) (by have:=J.out.lt;omega));clear D J O;have D:=HJ';have J:=HP';have O:=HK';clear HJ' HP' HK';go_wp2_with fail
 rcases U:iu [[115,117,109],[109,97,120]] r4 with x|⟨a6,r6⟩
 ·have M:=HR.out
  rw[U,aw] at M;have HX:=Fx M.symm;have HC:=Fx (re U (some ⟨y5.heap.size,0,none⟩) 2 _ J.out b3.out (by decide));clear M U;skip
  refine HC.out.mono ?_;rintro ev w9 ⟨⟨gi,rfl,hb⟩,bc⟩;exact ⟨rfl,by rw[HX.out];exact ⟨gi,rfl,hb⟩,O.out.trans bc⟩
 have M:=HR.out;rw[U,aq] at M;try dsimp only at M
 clear HR;have HR:=Fx M;clear M;have HC:=Fx (nj U (some ⟨y5.heap.size,0,none⟩) 2 _ J.out b3.out (by decide));have av:Hid (r6.length≤l.length):=Fx (by have:=ad.out;have:=fe U;omega);clear U b3 ad;have ad:=av;clear av;refine HC.out.mono ?_;rintro ev y6 ⟨rfl,hp,hk⟩;have HJ':=Fx (D.out.ps J.out hk);have HK':=Fx (O.out.trans hk);clear J D O HC;have J:=Fx hp;have D:=HJ';have O:=HK';clear hp hk HJ' HK';have cy:=D.out.blk.frozen 5;have c4:y6.cell? ⟨jb,5,none⟩=some (FM (bs op)):=D.out.blk.cell 5;have lj:=D.out.blk.lt;have aA:aa [jb] y6 (y6.setCell ⟨jb,5,none⟩ (FM (bs a6))):=(FK _ _).setCell (.inl (by simp)) _;have HJ':Hid (aV (y6.setCell ⟨jb,5,none⟩ (FM (bs a6))) w0.heap.size jb (⟨a5,8,outs,il2,cl5,a6,left,right,Z⟩:Jb) v2 bZ c7):=Fx (D.out.box aA ((D.out.blk.set 5 (FM (bs a6))).congr (by rfl)) rfl rfl rfl);have HP':=Fx (J.out.box D.out aA);have HK':=Fx (O.out.box bl.out aA);clear aA;go_upto_region 33 with (fail)
 obtain ⟨y7,hy⟩:∃ x,(y6.setCell ⟨jb,5,none⟩ (FM (bs a6)))=x:=⟨_,rfl⟩
 rw[hy] at HJ' HP' HK' ⊢;clear hy cy c4 lj D J O;have D:=HJ';have J:=HP';have O:=HK';clear HJ' HP' HK';go_upto_region 33 with (fail)
 obtain ⟨A8,c8,hv,-⟩:=ar D.out.o4;subst hv;have fS:y7.cell? ⟨jb,4,none⟩=some (FN A8 (cl5).length c8)∧y7.frozen? ⟨jb,4,none⟩=false:=⟨D.out.blk.cell 4,D.out.blk.frozen 4⟩;have lj:=D.out.blk.lt;have a3:=Fx (show (cl5).length+1≤maxLen∧((cl5).length+1)*16≤140737488355328 by have:=ca.out;simp only[maxLen];first|omega|(simp only[Fz,FG,List.length_nil];omega));have bb:Hid (jb∉[b]):=Fx (by have:=D.out.blk.ty.ne J.out.ty (by decide);simpa using this);rcases U:aQ r6 with x|⟨a8,r8⟩
 ·have M:=HR.out
  rw[U,aw] at M;have HX:=Fx M.symm;have HC:Hid (∀ W,aa [] y7 W→Calls Tryz.prog 80 #[FO (some ⟨b,0,none⟩)] W fun e w'=>bW x e w'∧aa [b] W w'):=Fx (fun W z=>bR U W (J.out.keep z));clear M U;go_wp2_with fail
  go_region_law (first|(refine step_append_lies _ (by rfl) _ _ _ (by rfl) w0.heap.size 9 i0 _ 1 16 Tryz.underlying44 hi bq bz bm rfl (by decide) (FN A8 (cl5).length c8) (cl5).length (strs (cl5)) (by rfl) ((D.out.ps J.out I.undrew).o4.alloc _) ⟨w6.heap.size,0,none⟩ 1 1 [FM (bs [])] (by rfl) rfl (FI (heap_alloc_new _ _)) (by simp[Value.oneCell']) (by decide) a3.out.1 a3.out.2 (by have:=O.out.size;have:=I.size;have h9:y7.drew.heap.size=y7.heap.size:=rfl;simp;omega) _ rfl ?_;intro gw cap w7 a0 N a7 be;obtain ⟨b7,b8⟩:=aE N (aD ⟨a1,ba⟩ _) (fun e=>(aK (D.out.ps J.out I.undrew).o4 jb e).ne (D.out.ps J.out I.undrew).blk.ty (by decide) rfl))|(go_simp;go_at_call 80;refine (HC.out _ (FK [] y7).drew).mono ?_;rintro e w6 ⟨⟨gi,rfl,hb⟩,I⟩;obtain ⟨a1,ba⟩:=aI I fS bb.out;have b5:jb<w6.heap.size:=FC w6 ⟨jb,4,none⟩ a1;dsimp only;(go_loud (refine cT ‹∀ (a:Act) (w:World),wpAny _ _ _ _ _ _ a w→_› (some 163) (FM (bs [])) ⟨rfl,by rw[HX.out];exact ⟨gi,rfl,hb⟩,O.out.trans I.undrew⟩ (fun hF=>?_)))))
  all_goals exact hF.out.elim
 have M:=HR.out;rw[U,aq] at M;try dsimp only at M
 clear HR;have HR:=Fx M;clear M;have HC:Hid (∀ W,aa [] y7 W→Calls Tryz.prog 80 #[FO (some ⟨b,0,none⟩)] W fun e w'=>e=FP (FM (bs a8))∧Ps w' b r8∧aa [b] W w'):=Fx (fun W z=>bi U W (J.out.keep z));have av:Hid (r8.length≤l.length):=Fx (by have:=ad.out;have:=az U;omega);clear ad;have ad:=av;clear av;clear U;have HX:=Fx HR.out.symm;clear HR;go_region_law (first|(refine step_append_lies _ (by rfl) _ _ _ (by rfl) w0.heap.size 9 i0 _ 1 16 Tryz.underlying44 hi bq bz bm rfl (by decide) (FN A8 (cl5).length c8) (cl5).length (strs (cl5)) (by rfl) ((D.out.ps J.out I.undrew).o4.alloc _) ⟨w6.heap.size,0,none⟩ 1 1 [FM (bs a8)] (by rfl) rfl (FI (heap_alloc_new _ _)) (by simp[Value.oneCell']) (by decide) a3.out.1 a3.out.2 (by have:=O.out.size;have:=I.size;have h9:y7.drew.heap.size=y7.heap.size:=rfl;simp;omega) _ rfl ?_;intro gw cap w7 a0 N a7 be;obtain ⟨b7,b8⟩:=aE N (aD ⟨a1,ba⟩ _) (fun e=>(aK (D.out.ps J.out I.undrew).o4 jb e).ne (D.out.ps J.out I.undrew).blk.ty (by decide) rfl))|(go_simp;go_at_call 80;refine (HC.out _ (FK [] y7).drew).mono ?_;rintro e w6 ⟨rfl,cd,I⟩;obtain ⟨a1,ba⟩:=aI I fS bb.out;have b5:jb<w6.heap.size:=FC w6 ⟨jb,4,none⟩ a1))
 all_goals
  go_wp2;first|go_end0|refine bodyPost_ret (results_none rfl _ _ _) rfl ?_
  try (have bv:=HCL.out;subst bv)
  have hh:=aV.app4 (D.out.ps J.out I.undrew) cd (O.out.trans I.undrew) rfl bl.out N rfl a0 a7 (by simp);exact ⟨by rw[HX.out];exact ⟨rfl,⟨_,_,_,hh.1⟩,hh.2.1⟩,hh.2.2⟩
end
section
theorem zZ {j:Jb} {ins:List Tb} {l:List Tb}:j5 j ins= .ok l↔(∀ t∈ins,ak t=true)∧∃ out D,aL j (ins.map (·.cols))= .ok out∧bp j ins out= .ok D∧dh out D= .ok l:=by
 unfold j5;by_cases h:(ins.any fun t=> !ak t)=true
 ·rw[if_pos h]
  constructor
  ·intro I;cases I
  rintro ⟨I,_⟩;rw[List.any_eq_true] at h;obtain ⟨t,Z,hn⟩:=h;rw[I t Z] at hn;cases hn
 rw[if_neg h];have hr:∀ t∈ins,ak t=true:=fun t Z=>by
  refine Classical.byContradiction fun hc=>h (List.any_eq_true.2 ⟨t,Z,?_⟩)
  simpa using hc
 cases hc:aL j (ins.map (·.cols)) with
 | error e =>
  simp only;constructor
  ·intro I;cases I
  rintro ⟨_,out,D,O,_⟩;cases O
 | ok out =>
  cases N:bp j ins out with
  | error e =>
   simp only[N];constructor
   ·intro I;cases I
   rintro ⟨_,J,D,O,M,_⟩;cases O
   rw[N] at M;cases M
  | ok D =>
   simp only[N];constructor
   ·intro I;exact ⟨hr,out,D,rfl,N,I⟩
   rintro ⟨_,J,U,O,M,h5⟩;cases O
   rw[N] at M;cases M
   exact h5
theorem ya (c:List Cl) (r:List (List Vl)):dh [c] [r]=if 60<r.length then .error 12 else .ok [⟨c,r⟩]:=by
 unfold dh;split
 ·rfl
 simp[dh]
theorem Cb {j:Jb} {ins:List Tb} {u:Tb} (h:j.code / 9=0):kq j ins=some u↔j5 { j with outs:=[[120]] } ins= .ok [u]:=by
 unfold kq;rw[h];simp only[Int.toNat_zero,Nat.add_zero,List.take_succ_cons,List.take_zero]
 cases j5 { j with outs:=[[120]] } ins with
 | error e=>simp
 | ok out =>
  simp only[FG,List.length_nil]
  match out with
  | []=>simp
  | [x]=>simp
  | x::y::t=>simp
def pQ (j:Jb) (a:List Cl):Option Int :=
 if j.op∉compares∨j.left.col=[] then some 1
 else match an a j.left.col with
  | none=>some 7
  | some k=>if dU j.right a≠(a.getD k zC).kind then some 13 else none
theorem mG (j:Jb) (a:List Cl):aX j a=match pQ j a with
  | some e=> .error e
  | none=> .ok (List.replicate (if j.code=9 then 2 else 1) a):=by
 unfold aX pQ;split
 ·rfl
 cases an a j.left.col with
 | none=>rfl
 | some k =>
  simp only;split<;>rfl
def np (j:Jb) (t:Tb):Tb:=⟨t.cols,t.rows.filter (da j t)⟩
def EK (j:Jb) (t:Tb):Tb:=⟨t.cols,t.rows.filter fun r=> !da j t r⟩
theorem aY {t:Tb} (h:ak t=true):t.rows.length≤60:=(aG.1 h).2.1
theorem jK {t:Tb} {D:List (List Vl)} (h:ak t=true) (M:D.length≤60) (J:∀ r∈D,r∈t.rows):ak ⟨t.cols,D⟩=true:=by
 obtain ⟨a,_,c⟩:=aG.1 h;exact aG.2 ⟨a,M,fun r I=>c r (J r I)⟩
theorem lq {t:Tb} (j:Jb) (h:ak t=true):ak (np j t)=true :=
 jK h (FD (List.length_filter_le _ _) (aY h)) fun _ D=>(List.mem_filter.1 D).1
theorem yg (j:Jb) (t:Tb) (I:j.code=1) (J:j.outs.length=1):j5 j [t]=if ak t=true then (match pQ j t.cols with
  | some e=> .error e
  | none=> .ok [np j t]) else .error 1:=by
 unfold j5;by_cases h:ak t=true
 ·have D:([t].any fun t=> !ak t)=false:=by simp[h]
  rw[D,if_neg (by decide),if_pos h];unfold aL au;simp only[I,J,List.map_cons,List.map_nil,List.getD_cons_zero,mG]
  cases pQ j t.cols with
  | some e=>simp
  | none =>
   have M:¬60<(t.rows.filter (da j t)).length:=by have:=List.length_filter_le (da j t) t.rows;have:=aY h;omega
   simp[bp,eW,I,dh,if_neg M];rfl
 have D:([t].any fun t=> !ak t)=true:=by simp[h]
 rw[D,if_pos rfl,if_neg h]
theorem Aa (j:Jb) (t:Tb) (J:j.code=9) (M:j.outs.length=2):j5 j [t]=if ak t=true then (match pQ j t.cols with
  | some e=> .error e
  | none=> .ok [np j t,EK j t]) else .error 1:=by
 unfold j5;by_cases h:ak t=true
 ·have D:([t].any fun t=> !ak t)=false:=by simp[h]
  rw[D,if_neg (by decide),if_pos h];unfold aL au;simp only[J,M,List.map_cons,List.map_nil,List.getD_cons_zero,mG]
  cases pQ j t.cols with
  | some e=>simp
  | none =>
   have N:¬60<(t.rows.filter (da j t)).length:=by have:=List.length_filter_le (da j t) t.rows;have:=aY h;omega
   have I:¬60<(t.rows.filter fun r=> !da j t r).length:=by have:=List.length_filter_le (fun r=> !da j t r) t.rows;have:=aY h;omega
   simp[bp,eW,J,dh,if_neg N,if_neg I];exact ⟨rfl,rfl⟩
 have D:([t].any fun t=> !ak t)=true:=by simp[h]
 rw[D,if_pos rfl,if_neg h]
theorem uY (j:Jb) (t:Tb) (D:j.code=1):kq j [t]=if ak t=true∧pQ j t.cols=none then some (np j t) else none:=by
 unfold kq;have e:(1+(j.code / 9).toNat)=1:=by rw[D];rfl
 rw[e,yg { j with outs:=[[120],[121]].take 1 } t D (by simp)];by_cases h:ak t=true
 ·rw[if_pos h]
  have I:pQ { j with outs:=[[120],[121]].take 1 } t.cols=pQ j t.cols:=rfl;rw[I]
  cases J:pQ j t.cols with
  | some e=>simp
  | none=>simp[h];rfl
 rw[if_neg h];simp[h]
theorem dy {cs:List Cl} {r:List Vl}:fv cs r=true↔r.length=cs.length∧∀ i (h:i<r.length) (h':i<cs.length),r[i].kind=cs[i].kind∧eS r[i]=true:=by
 unfold fv;simp only[Bool.and_eq_true,decide_eq_true_eq,List.all_eq_true];constructor
 ·rintro ⟨D,I⟩
  refine ⟨D,fun i h h'=>?_⟩;have:=I i (List.mem_range.2 h);unfold ke at this;rw[FA h,FA h'] at this;simpa using this
 rintro ⟨D,I⟩;refine ⟨D,fun i J=>?_⟩;have h:=List.mem_range.1 J;unfold ke;rw[FA h,FA (by omega)];have:=I i h (by omega);simpa using this
theorem ef {l:List Cl}:cp l=true↔1≤l.length∧l.length≤6∧(∀ c∈l,eC c.name=true∧(c.kind=1∨c.kind=2))∧(l.map (·.name)).Nodup:=by
 unfold cp;simp only[Bool.and_eq_true,decide_eq_true_eq,List.all_eq_true];constructor
 ·rintro ⟨⟨O,U⟩,M⟩
  have D:∀ i (h:i<l.length),(eC l[i].name=true∧(l[i].kind=1∨l[i].kind=2))∧∀ k (I:k<i),l[k].name≠l[i].name:=fun i h=>by
   have:=M i (List.mem_range.2 h);unfold fY at this;rw[FA h] at this;simp only[Bool.and_eq_true,Bool.or_eq_true,decide_eq_true_eq,Bool.not_eq_true',List.any_eq_false,beq_iff_eq] at this;refine ⟨this.1,fun k I=>this.2 _ ?_⟩;rw[List.mem_take_iff_getElem];exact ⟨k,by omega,rfl⟩
  refine ⟨O,U,fun c hc=>?_,?_⟩
  ·obtain ⟨i,J,rfl⟩:=List.getElem_of_mem hc
   exact (D i J).1
  rw[List.nodup_iff_pairwise_ne,List.pairwise_iff_getElem];intro i k J I N;simp only[List.getElem_map];exact (D k (by simpa using I)).2 i N
 rintro ⟨O,U,M,Z⟩;refine ⟨⟨O,U⟩,fun i J=>?_⟩;have h:=List.mem_range.1 J;unfold fY;rw[FA h];simp only[Bool.and_eq_true,Bool.or_eq_true,decide_eq_true_eq,Bool.not_eq_true',List.any_eq_false,beq_iff_eq];refine ⟨M _ (FE h),fun x hx=>?_⟩;rw[List.mem_take_iff_getElem] at hx;obtain ⟨k,I,rfl⟩:=hx;rw[List.nodup_iff_pairwise_ne,List.pairwise_iff_getElem] at Z;have:=Z k i (by simp;omega) (by simpa using h) (by omega);simpa using this
theorem dL {a:List Cl} {n:Bs} {k:Nat}:an a n=some k↔∃ h:k<a.length,a[k].name=n∧∀ j (D:j<k),(a[j]'(by omega)).name≠n:=by
 unfold an;rw[List.findIdx?_eq_some_iff_getElem];constructor
 ·rintro ⟨h,I,J⟩
  exact ⟨h,by simpa using I,fun j D=>by simpa using J j D⟩
 rintro ⟨h,I,J⟩;exact ⟨h,by simpa using I,fun j D=>by simpa using J j D⟩
def gW (a:List Cl) (n:Bs):Cl:=match an a n with
 | none=>zC
 | some k=>a.getD k zC
theorem kI {a:List Cl} {n:Bs} {k:Nat} (h:an a n=some k):∃ D:k<a.length,gW a n=a[k]∧(gW a n).name=n:=by
 obtain ⟨D,I,_⟩:=dL.1 h;have e:gW a n=a[k]:=by
  unfold gW;rw[h];simp only;rw[FJ,FA D];rfl
 exact ⟨D,e,by rw[e];exact I⟩
theorem oB {a:List Cl} (h:(a.map (·.name)).Nodup) {k:Nat} (D:k<a.length):an a a[k].name=some k:=by
 refine dL.2 ⟨D,rfl,fun j I=>?_⟩;rw[List.nodup_iff_pairwise_ne,List.pairwise_iff_getElem] at h;have:=h j k (by simp;omega) (by simpa using D) I;simpa using this
theorem lZ {a:List Cl}:∀ (ns seen:List Bs) (acc out:List Cl),cY a seen ns acc= .ok out↔(∀ n∈ns,∃ k,an a n=some k)∧ns.Nodup∧(∀ n∈ns,n∉seen)∧out=acc++ns.map (gW a)
 | [],seen,acc,out=>by
  simp only[cY,Except.ok.injEq,List.not_mem_nil,false_imp_iff,implies_true,List.nodup_nil,List.map_nil,List.append_nil,true_and];exact ⟨fun h=>h.symm,fun h=>h.symm⟩
 | n::ns,seen,acc,out=>by
  unfold cY
  cases h:an a n with
  | none =>
   simp only;constructor
   ·intro I;cases I
   rintro ⟨I,_⟩;obtain ⟨k,Z⟩:=I n (by simp);rw[h] at Z;cases Z
  | some k =>
   simp only;have e:gW a n=a.getD k zC:=by unfold gW;rw[h]
   by_cases M:n∈seen
   ·rw[if_pos M]
    constructor
    ·intro I;cases I
    rintro ⟨_,_,J,_⟩;exact absurd M (J n (by simp))
   rw[if_neg M,lZ ns (seen++[n]) (acc++[a.getD k zC]) out];simp only[List.mem_cons,List.nodup_cons,List.map_cons,List.mem_append,List.not_mem_nil,or_false,not_or,←e];constructor
   ·rintro ⟨U,I,J,N⟩
    refine ⟨fun x D=>?_,⟨fun hn=>(J n hn).2 rfl,I⟩,fun x D=>?_,by rw[N];simp⟩
    ·rcases D with rfl|D
     ·exact ⟨k,h⟩
     exact U x D
    rcases D with rfl|D
    ·exact M
    exact (J x D).1
   rintro ⟨U,⟨I,J⟩,N,h5⟩;exact ⟨fun x D=>U x (.inr D),J,fun x D=>⟨N x (.inr D),fun O=>I (O ▸ D)⟩,by rw[h5];simp⟩
theorem gf {j:Jb} {ins:List Tb} {u:Tb} (D:j.code / 9=0):kq j ins=some u↔(∀ t∈ins,ak t=true)∧∃ out h,aL { j with outs:=[[120]] } (ins.map (·.cols))= .ok out∧bp { j with outs:=[[120]] } ins out= .ok h∧dh out h= .ok [u]:=by
 rw[Cb D,zZ]
theorem bD {c:List Cl} {r:List (List Vl)} {u:Tb}:dh [c] [r]= .ok [u]↔r.length≤60∧u=⟨c,r⟩:=by
 rw[ya];split
 ·rename_i h
  constructor
  ·intro D;cases D
  rintro ⟨D,_⟩;omega
 rename_i h;constructor
 ·intro D
  injection D with D;injection D with D _;exact ⟨by omega,D.symm⟩
 rintro ⟨_,rfl⟩;rfl
def oC (j:Jb) (a:List Cl):Prop:=1≤j.cols.length∧j.cols.length≤6∧(∀ n∈j.cols,∃ k,an a n=some k)∧j.cols.Nodup
theorem fH {j:Jb} {a:List Cl} {out:List (List Cl)}:cw j a= .ok out↔oC j a∧out=[if j.code=4 then a else j.cols.map (gW a)]:=by
 unfold cw oC;split
 ·rename_i h
  constructor
  ·intro D;cases D
  rintro ⟨⟨D,I,_⟩,_⟩;omega
 rename_i h
 cases M:cY a [] j.cols [] with
 | error e =>
  constructor
  ·intro D;cases D
  rintro ⟨⟨_,_,I,J⟩,_⟩;have:=(lZ j.cols [] [] (j.cols.map (gW a))).2 ⟨I,J,by simp,by simp⟩;rw[M] at this;cases this
 | ok q =>
  obtain ⟨I,J,_,N⟩:=(lZ j.cols [] [] q).1 M;have e:q=j.cols.map (gW a):=by simpa using N
  subst e;constructor
  ·intro D
   injection D with D;exact ⟨⟨by omega,by omega,I,J⟩,D.symm⟩
  rintro ⟨_,D⟩;rw[D]
theorem Ab {j:Jb} {t u:Tb} (I:j.code=3):kq j [t]=some u↔ak t=true∧oC j t.cols∧u=⟨j.cols.map (gW t.cols),t.rows.map (fy j t)⟩:=by
 rw[gf (by rw[I];rfl)];have O:aL { j with outs:=[[120]] } ([t].map (·.cols))=cw { j with outs:=[[120]] } t.cols:=by
  unfold aL au;simp[I]
 have e2:∀ out,bp { j with outs:=[[120]] } [t] out= .ok [t.rows.map (fy j t)]:=fun out=>by
  unfold bp eW;simp[I];intro a _;rfl
 rw[O];simp only[e2,List.mem_singleton,forall_eq];constructor
 ·rintro ⟨h,out,M,Z,J,U⟩
  injection J with J;subst J;obtain ⟨D,N⟩:=fH.1 Z;rw[if_neg (by simp only;omega)] at N;subst N;exact ⟨h,D,(bD.1 U).2⟩
 rintro ⟨h,D,rfl⟩;refine ⟨h,_,_,fH.2 ⟨D,rfl⟩,rfl,?_⟩;rw[if_neg (by simp only;omega)];exact bD.2 ⟨by rw[List.length_map];exact aY h,rfl⟩
theorem yh {j:Jb} {t v u:Tb} (M:j.code=5):kq j [t,v]=some u↔ak t=true∧ak v=true∧t.cols=v.cols∧t.rows.length+v.rows.length≤60∧u=⟨t.cols,t.rows++v.rows⟩:=by
 rw[gf (by rw[M];rfl)];have e1:aL { j with outs:=[[120]] } ([t,v].map (·.cols))=if t.cols≠v.cols then .error 13 else .ok [t.cols]:=by
  unfold aL au;simp[M]
 have e2:∀ out,bp { j with outs:=[[120]] } [t,v] out= .ok [t.rows++v.rows]:=fun out=>by
  unfold bp eW;simp[M]
 rw[e1];simp only[e2,List.mem_cons,List.not_mem_nil,or_false,forall_eq_or_imp,forall_eq];constructor
 ·rintro ⟨⟨J,O⟩,out,Z,D,N,h3⟩
  injection N with N;subst N;split at D
  ·cases D
  rename_i I;injection D with D;subst D;obtain ⟨U,h5⟩:=bD.1 h3;rw[Fz] at U;exact ⟨J,O,Decidable.not_not.1 I,U,h5⟩
 rintro ⟨J,O,he,hl,rfl⟩;refine ⟨⟨J,O⟩,[t.cols],_,by rw[if_neg (fun h=>h he)],rfl,bD.2 ⟨by rw[Fz];exact hl,rfl⟩⟩
theorem dQ:∀ (D:List (List Vl)) (seen:List Bs) (out:List (List Vl)),(aB D seen out).length≤D.length+out.length∧∀ r∈aB D seen out,r∈D∨r∈out
 | [],_,out=>⟨by simp[aB],fun r h=> .inr (by simpa[aB] using h)⟩
 | x::D,seen,out=>by
  unfold aB;split
  ·obtain ⟨M,J⟩:=dQ D seen out
   exact ⟨by simp;omega,fun r I=>(J r I).imp (fun h=>by simp[h]) id⟩
  obtain ⟨M,J⟩:=dQ D (bQ x::seen) (out++[x]);refine ⟨by simp at M ⊢;omega,fun r I=>?_⟩;rcases J r I with h|h
  ·exact .inl (by simp[h])
  rw[List.mem_append,List.mem_singleton] at h;rcases h with h|h
  ·exact .inr h
  exact .inl (by simp[h])
theorem Ad {j:Jb} {t u:Tb} (I:j.code=6):kq j [t]=some u↔ak t=true∧u=⟨t.cols,aB t.rows [] []⟩:=by
 rw[gf (by rw[I];rfl)];have N:aL { j with outs:=[[120]] } ([t].map (·.cols))= .ok [t.cols]:=by
  unfold aL au;simp[I]
 have U:∀ out,bp { j with outs:=[[120]] } [t] out= .ok [aB t.rows [] []]:=fun out=>by
  unfold bp eW;simp[I]
 rw[N];simp only[U,List.mem_singleton,forall_eq];constructor
 ·rintro ⟨h,out,M,D,J,O⟩
  injection D with D;injection J with J;subst D J;exact ⟨h,(bD.1 O).2⟩
 rintro ⟨h,rfl⟩;refine ⟨h,_,_,rfl,rfl,bD.2 ⟨?_,rfl⟩⟩;have:=(dQ t.rows [] []).1;have:=aY h;simp at *;omega
theorem uZ {t:Tb} (h:ak t=true):ak ⟨t.cols,aB t.rows [] []⟩=true :=
 jK h (by have:=(dQ t.rows [] []).1;have:=aY h;simp at *;omega) fun r D=>by
  rcases (dQ t.rows [] []).2 r D with h|h
  ·exact h
  cases h
theorem th {t v:Tb} (h:ak t=true) (I:ak v=true) (J:t.cols=v.cols) (N:t.rows.length+v.rows.length≤60):ak ⟨t.cols,t.rows++v.rows⟩=true:=by
 obtain ⟨a,_,c⟩:=aG.1 h;obtain ⟨_,_,M⟩:=aG.1 I;refine aG.2 ⟨a,by rw[Fz];exact N,fun r D=>?_⟩;rw[List.mem_append] at D;rcases D with D|D
 ·exact c r D
 exact J ▸ M r D
theorem Cc (j:Jb) (t:Tb) (r:List Vl) (i:Nat) (h:i<j.cols.length) {k:Nat} (D:an t.cols j.cols[i]=some k) (I:k<r.length):(fy j t r)[i]'(by unfold fy;simpa using h)=r[k]:=by
 unfold fy;simp only[List.getElem_map,D];rw[FJ,FA I];rfl
theorem u5 {j:Jb} {t:Tb} (h:ak t=true) (hp:oC j t.cols):ak ⟨j.cols.map (gW t.cols),t.rows.map (fy j t)⟩=true:=by
 obtain ⟨a,b,c⟩:=aG.1 h;obtain ⟨h1,h2,U,h4⟩:=hp;obtain ⟨_,_,h7,_⟩:=ef.1 a;refine aG.2 ⟨ef.2 ⟨by simpa using h1,by simpa using h2,fun x M=>?_,?_⟩,by simpa using b,fun r Z=>?_⟩
 ·obtain ⟨n,N,rfl⟩:=List.mem_map.1 M
  obtain ⟨k,I⟩:=U n N;obtain ⟨D,O,_⟩:=kI I;rw[O];exact h7 _ (FE D)
 ·have e:(j.cols.map (gW t.cols)).map (·.name)=j.cols:=by
   rw[List.map_map];refine (List.map_congr_left fun n N=>?_).trans (List.map_id _);obtain ⟨k,I⟩:=U n N;exact (kI I).2.2
  simp only;rw[e];exact h4
 obtain ⟨x,M,rfl⟩:=List.mem_map.1 Z;obtain ⟨hl,hv⟩:=dy.1 (c x M);refine dy.2 ⟨by simp[fy],fun i hi hi'=>?_⟩;have J:i<j.cols.length:=by simpa[fy] using hi
 obtain ⟨k,I⟩:=U _ (FE J);obtain ⟨D,O,_⟩:=kI I;rw[Cc j t x i J I (by omega)];simp only[List.getElem_map];rw[O];exact hv k (by omega) D
theorem l6 (j:Jb) (a:Tb):∀ (J acc l:List (List Vl)),aO j a J acc=some l↔∃ q,l=acc++q∧q.length=J.length∧∀ i (h:i<J.length) (h':i<q.length),bu j a J[i]=some q[i]
 | [],acc,l=>by
  simp only[aO,Option.some.injEq];constructor
  ·intro h;exact ⟨[],by simp[h],rfl,fun i h=>by simp at h⟩
  rintro ⟨q,Z,M,_⟩;have:q=[]:=List.eq_nil_of_length_eq_zero M;rw[Z,this,List.append_nil]
 | r::J,acc,l=>by
  unfold aO
  cases h:bu j a r with
  | none =>
   simp only;constructor
   ·intro M;cases M
   rintro ⟨q,_,M,h3⟩;have:=h3 0 (by simp) (by rw[M];simp);simp only[List.getElem_cons_zero] at this;rw[h] at this;cases this
  | some x =>
   simp only;rw[l6 j a J (acc++[x]) l];constructor
   ·rintro ⟨q,rfl,N,O⟩
    refine ⟨x::q,by simp,by simp[N],fun i D I=>?_⟩;rcases i with _|i
    ·exact h
    exact O i (by simpa using D) (by simpa using I)
   rintro ⟨q,rfl,N,O⟩
   match q,N with
   | y::q,N =>
    have U:=O 0 (by simp) (by simp);simp only[List.getElem_cons_zero] at U;rw[h] at U;cases U
    refine ⟨q,by simp,by simpa using N,fun i D I=>?_⟩;have:=O (i+1) (by simpa using D) (by simpa using I);simpa using this
def wA (j:Jb) (a:List Cl) (k:Nat):Prop:=j.cols.length=1∧(j.op=[43]∨j.op=[45]∨j.op=[42])∧an a (j.cols.headD [])=some k∧(a.getD k zC).kind=1∧dU j.left a=1∧dU j.right a=1
theorem u6 {j:Jb} {a:List Cl} {out:List (List Cl)}:jQ j a= .ok out↔(∃ k,wA j a k)∧out=[a]:=by
 unfold jQ wA;split
 ·rename_i h
  constructor
  ·intro J;cases J
  rintro ⟨⟨k,N,J,_⟩,_⟩;rcases h with h|h
  ·exact absurd N h
  exact absurd J h
 rename_i h;have N:j.cols.length=1:=Decidable.not_not.1 fun M=>h (.inl M)
 have J:j.op=[43]∨j.op=[45]∨j.op=[42]:=Classical.byContradiction fun M=>h (.inr M)
 cases hk:an a (j.cols.headD []) with
 | none =>
  constructor
  ·intro D;cases D
  rintro ⟨⟨k,_,_,D,_⟩,_⟩;cases D
 | some k =>
  simp only;split
  ·rename_i D
   constructor
   ·intro I;cases I
   rintro ⟨⟨k',_,_,I,Z,O,U⟩,_⟩;cases I
   rcases D with D|D|D
   ·exact absurd Z D
   ·exact absurd O D
   exact absurd U D
  rename_i D;simp only[not_or,Decidable.not_not] at D;constructor
  ·intro I
   injection I with I;exact ⟨⟨k,N,J,rfl,D.1,D.2.1,D.2.2⟩,I.symm⟩
  rintro ⟨_,I⟩;rw[I]
theorem Cd {j:Jb} {t u:Tb} (M:j.code=2):kq j [t]=some u↔ak t=true∧(∃ k,wA j t.cols k)∧∃ l,aO j t t.rows []=some l∧u=⟨t.cols,l⟩:=by
 rw[gf (by rw[M];rfl)];have e1:aL { j with outs:=[[120]] } ([t].map (·.cols))=jQ j t.cols:=by
  unfold aL au;simp[M];rfl
 have Z:∀ out,bp { j with outs:=[[120]] } [t] out=match aO j t t.rows [] with
  | none=> .error 2
  | some l=> .ok [l]:=fun out=>by
  have h:∀ I acc,aO { j with outs:=[[120]] } t I acc=aO j t I acc:=fun I=>by
   induction I with
   | nil=>intro acc;rfl
   | cons r I ih =>
    intro acc;unfold aO;have:bu { j with outs:=[[120]] } t r=bu j t r:=rfl;rw[this]
    cases bu j t r with
    | none=>rfl
    | some x=>exact ih _
  rw[gM (by show j.code≠4;omega) (by show j.code≠7;omega) (by show j.code≠8;omega)];unfold eW;simp only;rw[if_neg (by omega),if_pos M];show (match aO { j with outs:=[[120]] } t t.rows [] with|none=>_|some l=>_)=_;rw[h]
 rw[e1];simp only[Z,List.mem_singleton,forall_eq];constructor
 ·rintro ⟨J,out,U,h1,D,h3⟩
  obtain ⟨N,rfl⟩:=u6.1 h1
  cases h:aO j t t.rows [] with
  | none=>rw[h] at D;cases D
  | some l =>
   rw[h] at D;injection D with D;subst D;exact ⟨J,N,l,rfl,(bD.1 h3).2⟩
 rintro ⟨J,N,l,h,rfl⟩;refine ⟨J,_,[l],u6.2 ⟨N,rfl⟩,by rw[h],bD.2 ⟨?_,rfl⟩⟩;obtain ⟨q,O,hl,_⟩:=(l6 j t t.rows [] l).1 h;have:=aY J;rw[List.nil_append] at O;rw[O,hl];exact this
theorem rG {v:Vl} (h:eS v=true) (D:v.kind=1) : -1000000000≤v.num∧v.num≤1000000000∧v.word=[]:=by
 unfold eS at h;rw[if_pos D] at h;simp only[Bool.and_eq_true,decide_eq_true_eq,beq_iff_eq] at h;exact ⟨h.1.2,h.2,h.1.1⟩
theorem wB {a:Ar} {t:Tb} (O:ak t=true) (h:dU a t.cols=1) {r:List Vl} (Z:r∈t.rows) : -1000000000≤(bB a t.cols r).num∧(bB a t.cols r).num≤1000000000:=by
 obtain ⟨_,_,c⟩:=aG.1 O;obtain ⟨hl,hv⟩:=dy.1 (c r Z);unfold dU at h;unfold bB;split at h
 ·rename_i N
  rw[if_pos N];split at h
  ·rename_i J
   have:=rG J h;exact ⟨this.1,this.2.1⟩
  cases h
 rename_i N;rw[if_neg N]
 cases M:an t.cols a.col with
 | none=>rw[M] at h;cases h
 | some k =>
  rw[M] at h;simp only at h ⊢;split at h
  ·obtain ⟨D,_,_⟩:=dL.1 M
   have I:k<r.length:=by omega
   rw[FJ,FA D] at h;rw[FJ,FA I];obtain ⟨h1,U⟩:=hv k I D;have:=rG U (h1.trans h);exact ⟨this.1,this.2.1⟩
  cases h
theorem oD {j:Jb} {a:Tb} {k:Nat} (I:an a.cols (j.cols.headD [])=some k) {r x:List Vl}:bu j a r=some x↔(-1000000000≤jR j.op (bB j.left a.cols r).num (bB j.right a.cols r).num∧jR j.op (bB j.left a.cols r).num (bB j.right a.cols r).num≤1000000000)∧x=r.set k ⟨(r.getD k zV).kind,jR j.op (bB j.left a.cols r).num (bB j.right a.cols r).num,(r.getD k zV).word⟩:=by
 unfold bu;simp only;split
 ·rename_i h
  constructor
  ·intro D;cases D
  rintro ⟨D,_⟩;omega
 rename_i h;rw[I];simp only[Option.some.injEq];exact ⟨fun D=>⟨by omega,D.symm⟩,fun D=>D.2.symm⟩
theorem yi {j:Jb} {t:Tb} {k:Nat} {l:List (List Vl)} (h:ak t=true) (hs:wA j t.cols k) (hg:aO j t t.rows []=some l):ak ⟨t.cols,l⟩=true:=by
 obtain ⟨a,b,c⟩:=aG.1 h;obtain ⟨q,hq,hl,hi⟩:=(l6 j t t.rows [] l).1 hg;rw[List.nil_append] at hq;subst hq;obtain ⟨_,_,hk,J,_,_⟩:=hs;obtain ⟨aA,_,_⟩:=dL.1 hk;refine aG.2 ⟨a,by rw[hl];exact b,fun r hr=>?_⟩;obtain ⟨i,M,rfl⟩:=List.getElem_of_mem hr;have Z:i<l.length:=M;have hx:=hi i (by omega) Z;obtain ⟨hb,he⟩:=(oD hk).1 hx;obtain ⟨av,I⟩:=dy.1 (c t.rows[i] (FE (by omega)));simp only at he ⊢;rw[he];refine dy.2 ⟨by rw[List.length_set];exact av,fun m N U=>?_⟩;rw[List.length_set] at N;rw[List.getElem_set];split
 ·rename_i O
  subst O;obtain ⟨h3,h4⟩:=I k N U;have D:t.cols[k].kind=1:=by
   rw[FJ,FA U] at J;exact J
  have ad:(t.rows[i]'(by omega)).getD k zV=(t.rows[i]'(by omega))[k]:=by rw[FJ,FA N];rfl
  rw[ad];refine ⟨h3,?_⟩;have hw:=(rG h4 (h3.trans D)).2.2;unfold eS;simp only;rw[if_pos (h3.trans D),hw];simp only[Bool.and_eq_true,decide_eq_true_eq];exact ⟨⟨rfl,hb.1⟩,hb.2⟩
 exact I m N U
theorem AV {j:Jb} {t u:Tb} (I:j.code=4):kq j [t]=some u↔ak t=true∧oC j t.cols∧u=⟨t.cols,cN t j.cols⟩:=by
 rw[gf (by rw[I];rfl)];have O:aL { j with outs:=[[120]] } ([t].map (·.cols))=cw { j with outs:=[[120]] } t.cols:=by
  unfold aL au;simp[I]
 have e2:∀ out,bp { j with outs:=[[120]] } [t] out= .ok [cN t j.cols]:=fun out=>by
  unfold bp;simp[I]
 rw[O];simp only[e2,List.mem_singleton,forall_eq];constructor
 ·rintro ⟨h,out,M,Z,J,U⟩
  injection J with J;subst J;obtain ⟨D,N⟩:=fH.1 Z;rw[if_pos (by simp only;omega)] at N;subst N;exact ⟨h,D,(bD.1 U).2⟩
 rintro ⟨h,D,rfl⟩;refine ⟨h,_,_,fH.2 ⟨D,rfl⟩,rfl,?_⟩;rw[if_pos (by simp only;omega)];exact bD.2 ⟨by unfold cN;rw[bJ];exact aY h,rfl⟩
theorem pj {t:Tb} {ns:List Bs} {r:List Vl}:r∈cN t ns↔r∈t.rows:=(gK _).mem_iff
theorem vJ {t:Tb} {ns:List Bs} (h:ak t=true):ak ⟨t.cols,cN t ns⟩=true :=
 jK h (by unfold cN;rw[bJ];exact aY h) fun _ D=>pj.1 D
theorem qM {j:Jb} {a b:List Cl} {out:List (List Cl)} (h:dj j a b= .ok out):∃ x y k m,j.cols=[x,y]∧an a x=some k∧an b y=some m∧(a.getD k zC).kind=(b.getD m zC).kind∧kp (a++b.take m++b.drop (m+1))=false∧(a++b.take m++b.drop (m+1)).length≤6∧out=[a++b.take m++b.drop (m+1)]:=by
 unfold dj at h;by_cases J:j.cols.length≠2
 ·rw[if_pos J] at h;cases h
 rw[if_neg J] at h;obtain ⟨x,y,D⟩:∃ x y,j.cols=[x,y]:=by
  match U:j.cols,Decidable.not_not.1 J with
  | [x,y],_=>exact ⟨x,y,rfl⟩
 rw[D] at h;simp only[List.getD_cons_zero,List.getD_cons_succ] at h
 cases I:an a x with
 | none=>rw[I] at h;cases h
 | some k =>
  cases M:an b y with
  | none=>rw[I,M] at h;cases h
  | some m =>
   rw[I,M] at h;simp only at h;split at h
   ·cases h
   rename_i O;split at h
   ·cases h
   rename_i N;split at h
   ·cases h
   rename_i Z;injection h with h;exact ⟨x,y,k,m,D,I,M,Decidable.not_not.1 O,by simpa using N,by omega,h.symm⟩
theorem pm {j:Jb} {a:List Cl} {out:List (List Cl)} (h:cI j a= .ok out):∃ x y k m,j.cols=[x,y]∧(j.op=sy∨j.op=[109,97,120])∧an a x=some k∧an a y=some m∧(a.getD m zC).kind=1∧k≠m∧out=[[a.getD k zC,a.getD m zC]]:=by
 unfold cI at h;by_cases J:j.cols.length≠2∨¬(j.op=[115,117,109]∨j.op=[109,97,120])
 ·rw[if_pos J] at h;cases h
 rw[if_neg J] at h;have h2':j.cols.length=2:=Classical.byContradiction fun N=>J (.inl N)
 have h3':j.op=[115,117,109]∨j.op=[109,97,120]:=Classical.byContradiction fun N=>J (.inr N)
 obtain ⟨x,y,D⟩:∃ x y,j.cols=[x,y]:=by
  match Z:j.cols,h2' with
  | [x,y],_=>exact ⟨x,y,rfl⟩
 rw[D] at h;simp only[List.getD_cons_zero,List.getD_cons_succ] at h
 cases I:an a x with
 | none=>rw[I] at h;cases h
 | some k =>
  cases M:an a y with
  | none=>rw[I,M] at h;cases h
  | some m =>
   rw[I,M] at h;simp only at h;split at h
   ·cases h
   rename_i U;split at h
   ·cases h
   rename_i O;injection h with h;exact ⟨x,y,k,m,D,h3',I,M,Decidable.not_not.1 U,O,h.symm⟩
theorem mM {a:List Cl} {n:Bs} {k:Nat} (h:an a n=some k):eg a n=k:=by unfold eg;rw[h];rfl
theorem AW {j:Jb} {a b u:Tb} (D:j.code=7) (h:kq j [a,b]=some u):ak a=true∧ak b=true∧∃ x y k m,j.cols=[x,y]∧an a.cols x=some k∧an b.cols y=some m∧(a.cols.getD k zC).kind=(b.cols.getD m zC).kind∧kp (a.cols++b.cols.take m++b.cols.drop (m+1))=false∧(a.cols++b.cols.take m++b.cols.drop (m+1)).length≤6∧(bO k m a.rows b.rows).length≤60∧u=⟨a.cols++b.cols.take m++b.cols.drop (m+1),bO k m a.rows b.rows⟩:=by
 rw[gf (by rw[D];rfl)] at h;have e1:aL { j with outs:=[[120]] } ([a,b].map (·.cols))=dj { j with outs:=[[120]] } a.cols b.cols:=by
  unfold aL au;simp[D]
 have e2:∀ out,bp { j with outs:=[[120]] } [a,b] out= .ok [bO (eg a.cols (j.cols.getD 0 [])) (eg b.cols (j.cols.getD 1 [])) a.rows b.rows]:=fun out=>by
  unfold bp;simp[D]
 rw[e1] at h;simp only[e2] at h;obtain ⟨U,out,ad,h1,I,h3⟩:=h;injection I with I;subst I;obtain ⟨x,y,k,m,N,O,Z,h4,h5,h6,rfl⟩:=qM h1;have hxy':j.cols=[x,y]:=N;obtain ⟨J,M⟩:=bD.1 h3;rw[hxy'] at J M;simp only[List.getD_cons_zero,List.getD_cons_succ,mM O,mM Z] at J M;exact ⟨U a (by simp),U b (by simp),x,y,k,m,hxy',O,Z,h4,h5,h6,J,M⟩
theorem yM {j:Jb} {t u:Tb} (I:j.code=8) (h:kq j [t]=some u):ak t=true∧∃ x y k m,j.cols=[x,y]∧(j.op=sy∨j.op=[109,97,120])∧an t.cols x=some k∧an t.cols y=some m∧(t.cols.getD m zC).kind=1∧k≠m∧(∀ p∈aM j.op k m (cN t [x]),eS p.2=true)∧(aM j.op k m (cN t [x])).length≤60∧u=⟨[t.cols.getD k zC,t.cols.getD m zC],dO (aM j.op k m (cN t [x]))⟩:=by
 rw[gf (by rw[I];rfl)] at h;have e1:aL { j with outs:=[[120]] } ([t].map (·.cols))=cI { j with outs:=[[120]] } t.cols:=by
  unfold aL au;simp[I]
 have e2:∀ out,bp { j with outs:=[[120]] } [t] out=if ((aM j.op (eg t.cols (j.cols.getD 0 [])) (eg t.cols (j.cols.getD 1 [])) (cN t [j.cols.getD 0 []])).any fun p=> !eS p.2)=true then .error 2 else .ok [dO (aM j.op (eg t.cols (j.cols.getD 0 [])) (eg t.cols (j.cols.getD 1 [])) (cN t [j.cols.getD 0 []]))]:=fun out=>by
  unfold bp;simp only[I];rw[if_neg (by decide),if_neg (by decide),if_pos trivial];rfl
 rw[e1] at h;simp only[e2] at h;obtain ⟨Z,out,U,h1,D,h3⟩:=h;obtain ⟨x,y,k,m,M,J,N,O,h4,h5,rfl⟩:=pm h1;have hxy':j.cols=[x,y]:=M;rw[hxy'] at D;simp only[List.getD_cons_zero,List.getD_cons_succ,mM N,mM O] at D;split at D
 ·cases D
 rename_i hn;injection D with D;subst D;obtain ⟨h7,h8⟩:=bD.1 h3;refine ⟨Z t (by simp),x,y,k,m,hxy',J,N,O,h4,h5,fun p hp=>?_,by simpa[dO] using h7,h8⟩;refine Classical.byContradiction fun hf=>hn (List.any_eq_true.2 ⟨p,hp,by simpa using hf⟩)
theorem yN {α:Type} {l:List α} {x:α} (h:l.getLast? = some x):l=l.dropLast++[x]:=by
 obtain ⟨q,rfl⟩:=List.getLast?_eq_some_iff.1 h;rw[List.dropLast_concat]
theorem AX (op:Bs) (k m:Nat) (h:List (List Vl)) (r:List Vl):aM op k m (h++[r])=ip op k m (aM op k m h) r:=by
 unfold aM;rw[List.foldl_append];rfl
theorem po {t:Tb} (h:ak t=true) {r:List Vl} (J:r∈t.rows) {k:Nat} (I:k<t.cols.length):k<r.length∧eS (r.getD k zV)=true∧(r.getD k zV).kind=(t.cols.getD k zC).kind:=by
 obtain ⟨_,_,c⟩:=aG.1 h;obtain ⟨U,O⟩:=dy.1 (c r J);have D:k<r.length:=by omega
 obtain ⟨N,M⟩:=O k D I;refine ⟨D,?_,?_⟩
 ·rw[FJ,FA D];exact M
 rw[FJ,FA D,FJ,FA I];exact N
theorem yO {out:List Cl} (h:kp out=false):(out.map (·.name)).Nodup:=by
 rw[List.nodup_iff_pairwise_ne,List.pairwise_iff_getElem];intro i j I D J e;simp only[List.length_map] at I D;simp only[List.getElem_map] at e;unfold kp at h;rw[←Bool.not_eq_true,List.any_eq_true] at h;refine h ⟨j,List.mem_range.2 D,?_⟩;rw[FJ,FA D];simp only[Option.getD_some];unfold an;rw[List.findIdx?_isSome,List.any_eq_true];refine ⟨out[i],?_,by simpa using e⟩;rw[List.mem_take_iff_getElem];exact ⟨i,by omega,rfl⟩
theorem mN {α:Type} (l:List α) (m i:Nat) (h:i<(l.take m++l.drop (m+1)).length) (M:m<l.length):∃ k,∃ I:k<l.length,(l.take m++l.drop (m+1))[i]=l[k]∧k=if i<m then i else i+1:=by
 have J:(l.take m++l.drop (m+1)).length=l.length-1:=by simp;omega
 by_cases D:i<m
 ·refine ⟨i,by omega,?_,by rw[if_pos D]⟩
  rw[List.getElem_append_left (by simp;omega),List.getElem_take]
 refine ⟨i+1,by omega,?_,by rw[if_neg D]⟩;rw[List.getElem_append_right (by simp;omega),List.getElem_drop];congr 1
 simp;omega
theorem vK {j:Jb} {a b u:Tb} (hc:j.code=7) (h:kq j [a,b]=some u):ak u=true:=by
 obtain ⟨ha,hb,x,y,k,m,_,hk,hm,_,hd,hl,hn,rfl⟩:=AW hc h;obtain ⟨a1,_,a3⟩:=aG.1 ha;obtain ⟨b1,_,b3⟩:=aG.1 hb;obtain ⟨c1,_,c3,_⟩:=ef.1 a1;obtain ⟨_,_,d3,_⟩:=ef.1 b1;obtain ⟨Z,_,_⟩:=dL.1 hm;refine aG.2 ⟨ef.2 ⟨by simp only[Fz];omega,hl,fun c M=>?_,yO hd⟩,hn,fun r O=>?_⟩
 ·rw[List.append_assoc,List.mem_append] at M
  rcases M with I|I
  ·exact c3 c I
  rw[List.mem_append] at I;rcases I with I|I
  ·exact d3 c (List.mem_of_mem_take I)
  exact d3 c (List.mem_of_mem_drop I)
 unfold bO at O;obtain ⟨x,hx,O⟩:=List.mem_flatMap.1 O;obtain ⟨y,hy,rfl⟩:=List.mem_map.1 O;have hy':=(List.mem_filter.1 hy).1;obtain ⟨U,e2⟩:=dy.1 (a3 x hx);obtain ⟨f1,f2⟩:=dy.1 (b3 y hy');rw[List.append_assoc,List.append_assoc];have N:(y.take m++y.drop (m+1)).length=(b.cols.take m++b.cols.drop (m+1)).length:=by simp[f1]
 refine dy.2 ⟨by rw[Fz,U,N,←Fz],fun i hi hi'=>?_⟩;by_cases D:i<x.length
 ·rw[List.getElem_append_left D,List.getElem_append_left (by omega)]
  exact e2 i D (by omega)
 rw[List.getElem_append_right (Nat.le_of_not_lt D),List.getElem_append_right (show a.cols.length≤i by rw[←U];exact Nat.le_of_not_lt D)];have J:i-x.length<(y.take m++y.drop (m+1)).length:=by rw[Fz] at hi;omega
 obtain ⟨k1,av,g1,q1⟩:=mN y m (i-x.length) J (by omega);obtain ⟨k2,aA,g2,q2⟩:=mN b.cols m (i-x.length) (by rw[←N];exact J) Z;have ad:k1=k2:=by rw[q1,q2]
 subst ad;have e3:i-a.cols.length=i-x.length:=by rw[U]
 simp only[e3];rw[g1,g2];exact f2 k1 av aA
theorem Cw (op:Bs) (k m:Nat) (D:List (List Vl)):∀ p∈aM op k m D,∃ r∈D,p.1=r.getD k zV∧∃ q∈D,p.2.kind=(q.getD m zV).kind:=by
 refine gL (p:=fun D=>∀ p∈aM op k m D,∃ r∈D,p.1=r.getD k zV∧∃ q∈D,p.2.kind=(q.getD m zV).kind) (fun p h=>by cases h) (fun D r ih p h=>?_) D;have ih':∀ p∈aM op k m D,∃ q∈D++[r],p.1=q.getD k zV∧∃ z∈D++[r],p.2.kind=(z.getD m zV).kind:=fun p h=>by
  obtain ⟨q,O,Z,z,U,N⟩:=ih p h;exact ⟨q,by simp[O],Z,z,by simp[U],N⟩
 have I:∃ q∈D++[r],(r.getD k zV,r.getD m zV).1=q.getD k zV∧∃ z∈D++[r],(r.getD k zV,r.getD m zV).2.kind=(z.getD m zV).kind:=⟨r,by simp,rfl,r,by simp,rfl⟩
 rw[AX] at h;unfold ip at h
 cases J:(aM op k m D).getLast? with
 | none =>
  rw[J] at h;rcases List.mem_append.1 h with h|h
  ·exact ih' p h
  rw[List.mem_singleton.1 h];exact I
 | some z =>
  rw[J] at h;have M:=yN J;simp only at h;split at h
  ·rcases List.mem_append.1 h with h|h
   ·exact ih' p (by rw[M];simp[h])
   rw[List.mem_singleton.1 h];exact ih' z (by rw[M];simp)
  rcases List.mem_append.1 h with h|h
  ·exact ih' p h
  rw[List.mem_singleton.1 h];exact I
theorem tV {j:Jb} {t u:Tb} (hc:j.code=8) (h:kq j [t]=some u):ak u=true:=by
 obtain ⟨N,x,y,k,m,_,_,hk,hm,ad,O,U,hl,rfl⟩:=yM hc h;obtain ⟨a1,_,a3⟩:=aG.1 N;obtain ⟨_,_,c3,c4⟩:=ef.1 a1;obtain ⟨D,_,_⟩:=dL.1 hk;obtain ⟨I,_,_⟩:=dL.1 hm;have gk:t.cols.getD k zC=t.cols[k]:=by rw[FJ,FA D];rfl
 have gm:t.cols.getD m zC=t.cols[m]:=by rw[FJ,FA I];rfl
 rw[gk,gm];refine aG.2 ⟨ef.2 ⟨by simp,by simp,fun c J=>?_,?_⟩,by simpa[dO] using hl,fun r Z=>?_⟩
 ·simp only[List.mem_cons,List.not_mem_nil,or_false] at J
  rcases J with rfl|rfl
  ·exact c3 _ (FE D)
  exact c3 _ (FE I)
 ·simp only[List.map_cons,List.map_nil,List.nodup_cons,List.mem_singleton,List.not_mem_nil,not_false_eq_true,List.nodup_nil,and_true]
  intro e;have M:=oB c4 D;have h2:=oB c4 I;rw[e,h2] at M;injection M with M;exact O M.symm
 obtain ⟨p,hp,rfl⟩:=List.mem_map.1 Z;obtain ⟨q,hq,e1,z,hz,e2⟩:=Cw _ k m _ p hp;obtain ⟨_,v1,v2⟩:=po N (pj.1 hq) D;obtain ⟨_,_,w2⟩:=po N (pj.1 hz) I;refine dy.2 ⟨rfl,fun i hi hi'=>?_⟩
 match i,hi with
 | 0,_=>exact ⟨by show p.1.kind=_;rw[e1,v2,gk];rfl,by show eS p.1=true;rw[e1];exact v1⟩
 | 1,_=>exact ⟨by show p.2.kind=_;rw[e2,w2,gm];rfl,U p hp⟩
end
section
open Go.RowKit Go.Shelf Go.ChangeShapes Go.WideShapes
theorem Fn.p10g:Tryz.prog.globalNamed "internal/strconv.uint64pow10" = some 10:=by kernel_rfl
theorem Fn.p10t:(Tryz.prog.globals[10]?).map (·.type)=some 283:=by kernel_rfl
theorem Fn.sg:Tryz.prog.globalNamed "strconv.ErrSyntax" = some 6:=by kernel_rfl
theorem Fn.st:(Tryz.prog.globals[6]?).map (·.type)=some 34:=by kernel_rfl
theorem Fn.rg:Tryz.prog.globalNamed "strconv.ErrRange" = some 7:=by kernel_rfl
theorem Fn.rt:(Tryz.prog.globals[7]?).map (·.type)=some 34:=by kernel_rfl
theorem Fn.mg:Tryz.prog.globalNamed "foreman/flow.marks" = some 3:=by kernel_rfl
theorem Fn.mt:(Tryz.prog.globals[3]?).map (·.type)=some 195:=by kernel_rfl
theorem Fn.wg:Tryz.prog.globalNamed "foreman/flow.words" = some 4:=by kernel_rfl
theorem Fn.wt:(Tryz.prog.globals[4]?).map (·.type)=some 232:=by kernel_rfl
theorem ug {W:World} {nm:String} {g:Nat} {t:TypeId} {n:Nat} {zs:List Bs} {d:DataW Unit} (U:Tryz.prog.globalNamed nm=some g) (I:(Tryz.prog.globals[g]?).map (·.type)=some t) (ht:Tryz.prog.underlying t=some (.array n 9)) (M:Tryz.prog.cellsOf t=n)
  (e:d= .agg (zs.map fun z=> .lit (.string z))) (h:laidMet Tryz.prog [(nm,d)] W):∀ j (O:j<zs.length),W.cell? ⟨g,j,none⟩=some (.string (bs zs[j])):=by
 rw[e] at h;obtain ⟨ps,⟨g',t',cs,fuel,p,q,N,J,D,hd,_,_⟩,_⟩:=h;obtain rfl:=Option.some.inj (U.symm.trans N);obtain rfl:=Option.some.inj (I.symm.trans J);have Z:=kc ht Tryz.underlying9 (by kernel_rfl) M hd;intro j O;rw[World.var?_cell U D j,←Array.getElem?_toList,Z,List.getElem?_map,FA O];rfl
theorem CW {D:List (String×DataW Unit)} {W:World}
  (I:D.filter (fun x=>x.1 == "internal/strconv.uint64pow10")=[("internal/strconv.uint64pow10",Rows.laid_internal_strconv_uint64pow10)])
  (U:D.filter (fun x=>x.1 == "foreman/flow.marks")=[("foreman/flow.marks",Rows.laid_foreman_flow_marks)])
  (N:D.filter (fun x=>x.1 == "strconv.ErrSyntax")=[("strconv.ErrSyntax",Rows.laid_strconv_ErrSyntax)])
  (J:D.filter (fun x=>x.1 == "strconv.ErrRange")=[("strconv.ErrRange",Rows.laid_strconv_ErrRange)])
  (O:D.filter (fun x=>x.1 == "foreman/flow.words")=[("foreman/flow.words",Rows.laid_foreman_flow_words)])
  (h:laidMet Tryz.prog D W) (M:W.ShapedOpen Tryz.prog):jU W:=by
 refine ⟨?_,lJ Fn.sg Fn.st Tryz.underlying34 (gF _ _ N h),lJ Fn.rg Fn.rt Tryz.underlying34 (gF _ _ J h),
  ug (zs:=aJ) Fn.mg Fn.mt Tryz.underlying195 (by kernel_rfl) (by kernel_rfl) (gF _ _ U h),ug (zs:=eJ) Fn.wg Fn.wt Tryz.underlying232 (by kernel_rfl) (by kernel_rfl) (gF _ _ O h),?_⟩
 ·have e:(Rows.laid_internal_strconv_uint64pow10:DataW Unit)=Lib.tabData .u64 Lib.pow10Tab:=by kernel_rfl
  have h':=gF _ _ I h;rw[e] at h';exact Lib.tabIs_of_head Fn.p10g Fn.p10t Tryz.underlying283 Tryz.underlying247 (by kernel_rfl) (by kernel_rfl) h'
 obtain ⟨cs,I,_⟩:=M.1 4 #[.string ⟨#[]⟩,.string ⟨#[]⟩,.string ⟨#[]⟩,.string ⟨#[]⟩,.string ⟨#[]⟩,.string ⟨#[]⟩,.string ⟨#[]⟩,.string ⟨#[]⟩,.string ⟨#[]⟩,.string ⟨#[]⟩] 232 (of_decide_eq_true (by kernel_rfl)) (by kernel_rfl);exact ⟨cs,_,I⟩
end
section
open Go.RowKit Go.Shelf Go.ChangeShapes Go.WideShapes Go.ChangeShapes
noncomputable def uh (os:Os):World:=CX (zt (World.doorLaid Tryz.prog 400 os))
theorem vX {P:Program} {D:List (String×DataW Unit)} {hd:String×DataW Unit} {W:World} (I:(D.filter fun x=>x.2.handleName?.isSome)=[hd]) (h:laidMetH P D W) :
  laidMet P (D.filter fun x=>x.2.handleName?.isNone) W∧handlesMet P [hd] W:=by
 unfold laidMetH at h;rw[I] at h;exact h
end
end Go.Proofs.YtecpeogejjibaaaGreatDoor
