/- The reference's body, code 9. The reference's cutter: tokens. -/
import Derived.Test.YtpagiajlefejcaaGreatDoorPfiM12
import Derived.Test.YtpagiajlefejcaaGreatDoorPfiM3
import Derived.Test.YtpagiajlefejcaaGreatDoorPfiM9
import Derived.Deep.DeepCutAuto
set_option linter.unusedSimpArgs false
set_option linter.unusedVariables false
set_option maxRecDepth 100000
set_option maxHeartbeats 16000000
namespace Go.Proofs.YtpagiajlefejcaaGreatDoor
open Go.Lib renaming hid → zx
open Go.Proofs.Tryz renaming prog → zy
open _root_.Nat renaming le_refl → zz, le_trans → zA, zero_le → zE
open Go.World renaming block_lt_of_cell? → zB, news_of_block → zJ
open _root_.List renaming mem_singleton → zD, length_append → zF, length_cons → zG, getElem?_eq_getElem → zI, length_nil → zK
open aa renaming refl → zN
open ap renaming new → zO
open Go.Value renaming string → zQ, slice → zR, pointer → zS, int → zW
open Go.Ending renaming returned → zT
open Go.Obj renaming cells → zU
open Go.IntKind renaming i64 → zX
section
open Go.RowKit Go.BigFrame
attribute [local go_sem] ag ab ae af
theorem vJ {l:List Tk} {b jb lo:Nat} {v2:Value} (at_:Int) (outs:List Bs) (A:Int) (w0 w:World) (hE:RB w0 lo) (a1:lo≤b) (h:aE w b l none) (I:aa [b] w0 w) (c4:w0.heap.size≤jb) (hj:ar w w0.heap.size jb (aM at_ outs A) v2 (zR none 0 0) (zR none 0 0)) (c8:l.length≤1000000) (bl:aQ (ax l).text=9) :
  Calls zy 150 #[zS (some ⟨b,0,none⟩),zS (some ⟨jb,0,none⟩)] w fun e w'=>e=zT (.tuple #[])∧bQ (am (aM at_ outs A)) l b jb w0 w':=by
 obtain ⟨i0,hi,d3,er,el⟩:=info_parts eF;have bn:=zx hE;have J:=zx h;have U:=zx I;have D:Hid (ar w w0.heap.size jb (⟨at_,0,outs,[],[],[],⟨[],zV⟩,⟨[],zV⟩,A⟩:Jb) v2 (zR none 0 0) (zR none 0 0)):=zx hj;have O:=zx (hE.one a1 I);have bj:=zx c4;have en:=zx c8;have Z:=zx (zz l.length);have ch:ru (ax l):=by obtain ⟨_,_,_,_,_,_,_,_,_,_,_,_,_,_,_,_,hh⟩:=h.open';exact hh
 have ds:=zx (fun r hr=>dr ch r hr);have c3:=zx bl;have bq:Hid (([]:List Bs).length≤100):=zx (by simp);have b7:=dy ch (by rw[bl];decide);have ad:Hid (∀ i l' x',Rl (fun r=>aj r >>= fun p0=>(fun r=>aq [119,104,101,114,101] r >>= (fun r=>aj r >>= fun p2=>(fun r=>bC fN r >>= fun p3=>(fun r=>bN r >>= fun p4=>(fun r=> .ok ((⟨at_,9,outs,[]++[p0.1],[],p3.1,⟨p2.1,zV⟩,p4.1,A⟩:Jb),r)) p4.2) p3.2) p2.2)) p0.2) l.tail none i l' x'→Rl (am (aM at_ outs A)) l none i l' x'):=zx (fun i l' x' hq=>Rl.shift (by
  unfold am;rw[bl,if_neg (by rw[b7];decide)];rfl) hq)
 have bB:(ax l).text=[115,112,108,105,116]:=aU bl (by decide);have c9:aG [115,112,108,105,116] l=true:=by
  unfold aG;rw[b7,bB];rfl
 have dq:=zx c9;have ct:=zx bB;clear hE h I hj c8 c4 bl ch b7 c9 bB;obtain ⟨mx,c5⟩:=O.out.renv.mlen;have cp:=zx (cB mx w c5);clear c5;go_enter Tryz.func150,Tryz.ntmps150
 go_wp2_with fail
 refine cp.out.mono ?_;rintro ev w1 ⟨rfl,rfl⟩;have bA:=zO w 9 (strs ai).toArray;have bm:aa [] w (w.alloc (zU (strs ai).toArray 9)):=(zN _ _).alloc _;have HP':=zx (J.out.keep bm);have HJ':=zx (D.out.keep bm);have HK':=zx (U.out.trans bm.of_nil);obtain ⟨B,hB⟩:∃ B,w.heap.size=B:=⟨_,rfl⟩
 have es:Hid (B≠b∧jb≠B):=zx (by have:=J.out.lt;have:=D.out.blk.lt;omega);rw[hB] at bA ⊢;obtain ⟨w1,cq⟩:∃ z,w.alloc (zU (strs ai).toArray 9)=z:=⟨_,rfl⟩
 rw[cq] at bA HP' HJ' HK' ⊢;have a6:=zx bA;clear bA bm hB cq J D U O cp;go_wp2_with fail
 go_loopw [8] (fun i wr=>∃ r:Nat,r≤9∧i=zW zX r∧Hid (aE wr b l none)∧Hid (ar wr w0.heap.size jb (⟨at_,(aO 9 r:Nat),outs,[],[],[],⟨[],zV⟩,⟨[],zV⟩,A⟩:Jb) v2 (zR none 0 0) (zR none 0 0))∧Hid (ap wr B 9 (strs ai).toArray)∧Hid (aa [b] w0 wr)) (fun i _=>9-(intOf i).toNat)
 case atStart=>exact ⟨0,zE _,rfl,HP',HJ',a6,HK'⟩
 clear HP' HJ' HK' a6;obtain ⟨r,hr,rfl,J,D,a6,U⟩:=hrel;have O:=zx (bn.out.one a1 U.out);by_cases cu:r<9
 ·have fv:(r:Int)<9:=by omega
  have ci:r<ai.length:=cu;have cj:wr.cell? ⟨B,r,none⟩=some (zQ (bs ai[r])):=by
   rw[a6.out.cell r];simp[strs,zI ci]
  have lb:=a6.out.lt;have hS:=cL ai[r] wr O.out.fine J.out;rw[ds.out r ci,c3.out] at hS;obtain ⟨wd,cv⟩:∃ wd,ai[r]=wd:=⟨_,rfl⟩
  rw[cv] at hS cj;clear cv ci;by_cases hc:(9:Nat)=r+1
  ·rw[decide_eq_true hc] at hS
   have HS:=zx hS;have e0:Hid (((r:Int)+1)=(aO 9 (r+1):Nat)):=zx (by rw[dh hc];omega);clear hS hc;go_wp2_with fail
   refine HS.out.mono ?_;rintro ev w2 ⟨a4,I⟩;have hev':ev=zT (.bool true):=a4;subst hev';have b0:=zx (J.out.keep I);have a8:=zx (D.out.keep I);have b3:=zx (a6.out.keep I (by simp));have cf:=zx (U.out.trans I.of_nil);have f1:=a8.out.blk.frozen 1;have bo:w2.cell? ⟨jb,1,none⟩=some (zW zX (aO 9 r:Nat)):=a8.out.blk.cell 1;have lj:=a8.out.blk.lt;clear a4 I J D a6 U HS cj lb;have a0:aa [jb] w2 (w2.setCell ⟨jb,1,none⟩ (zW zX ((r:Int)+1))):=(zN _ _).setCell (.inl (by simp)) _;have ep:Hid (ar (w2.setCell ⟨jb,1,none⟩ (zW zX ((r:Int)+1))) w0.heap.size jb (⟨at_,(aO 9 (r+1):Nat),outs,[],[],[],⟨[],zV⟩,⟨[],zV⟩,A⟩:Jb) v2 (zR none 0 0) (zR none 0 0)):=zx (a8.out.box a0 ((a8.out.blk.set 1 (zW zX ((r:Int)+1))).congr (by rw[e0.out];rfl)) rfl rfl rfl);have d6:=zx (b0.out.box a8.out a0);have em:=zx (cf.out.box bj.out a0);have eb:=zx (b3.out.far (p:=⟨jb,1,none⟩) (fun e=>es.out.2 e.symm) (zW zX ((r:Int)+1)));clear a0;go_wp2;go_roundw
   case rel=>exact ⟨r+1,by omega,by go_num,d6,ep,eb,em⟩
   case measure=>simp[intOf];omega
  rw[decide_eq_false hc] at hS;have HS:=zx hS;have d4:Hid (aO 9 (r+1)=aO 9 r):=zx (dF hc);clear hS hc;go_wp2_with fail
  refine HS.out.mono ?_;rintro ev w2 ⟨a4,I⟩;have hev':ev=zT (.bool false):=a4;subst hev';have b0:=zx (J.out.keep I);have a8:=zx (D.out.keep I);have b3:=zx (a6.out.keep I (by simp));have cf:=zx (U.out.trans I.of_nil);clear a4 I J D a6 U HS cj lb;go_wp2;go_roundw
  case rel=>exact ⟨r+1,by omega,by go_num,b0,by rw[d4.out];exact a8,b3,cf⟩
  case measure=>simp[intOf];omega
 obtain rfl:r=9:=by omega
 have HJ':Hid (ar wr w0.heap.size jb (⟨at_,9,outs,[],[],[],⟨[],zV⟩,⟨[],zV⟩,A⟩:Jb) v2 (zR none 0 0) (zR none 0 0)):=zx D.out;clear D a6 hr cu;have D:=HJ';clear HJ';have bo:wr.cell? ⟨jb,1,none⟩=some (zW zX 9):=D.out.blk.cell 1;have lj:=D.out.blk.lt;obtain ⟨g,o,c,c0,c1,c2,-,lb,lg,-,hn,hc,d8,k0,k1,k2,-⟩:=J.out.open';rw[ct.out] at k1;have ez:(0:Int)<(l.length:Int):=by omega
 have HC:=zx (aJ [115,112,108,105,116] wr O.out.fine (O.out.fne a1) J.out);go_wp2_with fail
 refine HC.out.mono ?_;rintro ev y1 ⟨rfl,⟨q1,x1,hp,hr,M⟩,I⟩;obtain ⟨rfl,rfl⟩:=cI hr dq.out;clear hr c0 c1 c2 lb lg hn hc d8 k0 k1 k2 ez bo lj dq ct ds c3;have HJ':=zx (D.out.rd J.out I);have HK':=zx (U.out.trans I);have HE':=zx (O.out.one a1 I);have HP':=zx hp;clear D U O J I hp HC;have D:=HJ';have U:=HK';have O:=HE';have J:=HP';clear HJ' HK' HE' HP';have a3:=zx (zA M Z.out);clear M Z;have Z:=a3;clear a3;obtain ⟨q1,c7⟩:∃ q1,l.tail=q1:=⟨_,rfl⟩
 rw[c7] at J ad Z;clear c7;go_upto_region 9 with (fail)
 have fS:y1.cell? ⟨jb,3,none⟩=some (zR none 0 0)∧y1.frozen? ⟨jb,3,none⟩=false:=⟨D.out.blk.cell 3,D.out.blk.frozen 3⟩;have lj:=D.out.blk.lt;have b1:=zx (show (([]:List Bs)).length+1≤maxLen∧((([]:List Bs)).length+1)*16≤140737488355328 by have:=bq.out;simp only[maxLen,zG,zK] at *;omega);have c6:Hid (jb∉[b]):=zx (by have:=D.out.blk.ty.ne J.out.ty (by decide);simpa using this);have HC:Hid (∀ W,aa [] y1 W→Calls zy 101 #[zS (some ⟨b,0,none⟩)] W fun e w'=>∃ s l' x',e=zT (zQ (bs s))∧aE w' b l' x'∧Rl aj q1 none s l' x'∧s.length≤10∧l'.length≤q1.length∧aa [b] W w'):=zx (fun W z=>aS W (O.out.quiet z).fine (O.out.fne a1) (J.out.keep z));go_cut [] (fun wx=>∃ a2 q2 x2 bk,ar wx w0.heap.size jb (⟨at_,9,outs,[]++[a2],[],[],⟨[],zV⟩,⟨[],zV⟩,A⟩:Jb) v2 bk (zR none 0 0)∧aE wx b q2 x2∧Rl aj q1 none a2 q2 x2∧q2.length≤q1.length∧aa [b] w0 wx)
 case first =>
  go_region_law (first|(refine step_append_lies _ (by rfl) _ _ _ (by rfl) w0.heap.size 9 i0 _ 1 16 Tryz.underlying55 hi d3 er el rfl (by decide) (zR none 0 0) (([]:List Bs)).length (strs (([]:List Bs))) (by rfl) ((D.out.rd J.out bb.undrew).o3.alloc _) ⟨w6.heap.size,0,none⟩ 1 1 [zQ (bs a2)] (by rfl) rfl (zJ (heap_alloc_new _ _)) (by simp[Value.oneCell']) (by decide) b1.out.1 b1.out.2 (by have:=U.out.size;have:=bb.size;have h9:y1.drew.heap.size=y1.heap.size:=rfl;simp;omega) _ rfl ?_;intro gw f2 w7 b5 bd dB e3;obtain ⟨f0,fz⟩:=az bd (ay ⟨cx,d2⟩ _) (fun e=>(av (D.out.rd J.out bb.undrew).o3 jb e).ne (D.out.rd J.out bb.undrew).blk.ty (by decide) rfl))|(go_simp;go_at_call 101;refine (HC.out _ (zN [] y1).drew).mono ?_;rintro e w6 ⟨a2,q2,x2,rfl,d9,d7,fu,co,bb⟩;obtain ⟨cx,d2⟩:=aC bb fS c6.out;have ft:jb<w6.heap.size:=zB w6 ⟨jb,3,none⟩ cx))
  all_goals
   go_wp2;go_meet;have hh:=ar.app3r (D.out.rd J.out bb.undrew) d9 (U.out.trans bb.undrew) rfl bj.out bd rfl b5 dB (by simp);exact ⟨a2,q2,x2,_,hh.1,hh.2.1,d7,co,hh.2.2⟩
 obtain ⟨a2,q2,x2,bk,hj,hp,hr,M,I⟩:=hcut;obtain ⟨y2,rfl⟩:∃ y:World,y=wc:=⟨_,rfl⟩
 clear J D U O HC fS lj b1 c6;have J:=zx hp;have D:=zx hj;have U:=zx I;have O:=zx (bn.out.one a1 I);clear hp hj I;have HIM':Hid (∀ i l' x',Rl (fun r=>aq [119,104,101,114,101] r >>= (fun r=>aj r >>= fun p2=>(fun r=>bC fN r >>= fun p3=>(fun r=>bN r >>= fun p4=>(fun r=> .ok ((⟨at_,9,outs,[]++[a2],[],p3.1,⟨p2.1,zV⟩,p4.1,A⟩:Jb),r)) p4.2) p3.2) p2.2)) q2 x2 i l' x'→Rl (am (aM at_ outs A)) l none i l' x'):=zx (fun i l' x' hq=>ad.out i l' x' (Rl.bind (Q:=fun a=>fun r=>aq [119,104,101,114,101] r >>= (fun r=>aj r >>= fun p2=>(fun r=>bC fN r >>= fun p3=>(fun r=>bN r >>= fun p4=>(fun r=> .ok ((⟨at_,9,outs,[]++[a],[],p3.1,⟨p2.1,zV⟩,p4.1,A⟩:Jb),r)) p4.2) p3.2) p2.2)) hr hq));clear ad hr;have ad:=HIM';clear HIM';have a3:=zx (zA M Z.out);clear M Z;have Z:=a3;clear a3;have b6:Hid (([]++[a2]).length≤101):=zx (by have:=bq.out;simp only[zF,zG,zK] at *;omega);obtain ⟨il2,dv⟩:∃ il,[]++[a2]=il:=⟨_,rfl⟩
 rw[dv] at D ad b6;clear dv bq;have bq:=b6;clear b6;have bo:y2.cell? ⟨jb,1,none⟩=some (zW zX 9):=D.out.blk.cell 1;have lj:=D.out.blk.lt;have HC:=zx (aJ [119,104,101,114,101] y2 O.out.fine (O.out.fne a1) J.out);go_wp2_with fail
 refine HC.out.mono ?_;rintro ev y3 ⟨rfl,⟨q3,x3,hp,hr,M⟩,I⟩;have HIM':Hid (∀ i l' x',Rl (fun r=>aj r >>= fun p2=>(fun r=>bC fN r >>= fun p3=>(fun r=>bN r >>= fun p4=>(fun r=> .ok ((⟨at_,9,outs,il2,[],p3.1,⟨p2.1,zV⟩,p4.1,A⟩:Jb),r)) p4.2) p3.2) p2.2) q3 x3 i l' x'→Rl (am (aM at_ outs A)) l none i l' x'):=zx (fun i l' x' hq=>ad.out i l' x' (Rl.must hr hq));clear ad hr;have ad:=HIM';clear HIM';have HJ':=zx (D.out.rd J.out I);have HK':=zx (U.out.trans I);have HE':=zx (O.out.one a1 I);have HP':=zx hp;clear D U O J I hp HC;have D:=HJ';have U:=HK';have O:=HE';have J:=HP';clear HJ' HK' HE' HP';have a3:=zx (zA M Z.out);clear M Z;have Z:=a3;clear a3;clear bo lj
 cases x3 with
 | some y =>
  have HD:Hid (∀ i l',Rl (am (aM at_ outs A)) l none i l' (some y)):=zx (fun i l'=>ad.out i l' _ rfl);clear ad;have HC:=zx (aN y3 O.out.fine J.out);go_wp2_with fail
  refine HC.out.mono ?_;rintro ev y4 ⟨a4,I⟩;have hev':ev=zT (.bool false):=a4;subst hev';clear a4;have HJ':=zx (D.out.keep I);have HK':=zx (U.out.trans I.of_nil);have HE':=zx (O.out.quiet I);have HP':=zx (J.out.keep I);clear D U O J I HC;have D:=HJ';have U:=HK';have O:=HE';have J:=HP';clear HJ' HK' HE' HP';have a9:Hid (Rl (am (aM at_ outs A)) l none (⟨at_,9,outs,il2,[],[],⟨[],zV⟩,⟨[],zV⟩,A⟩:Jb) q3 (some y)):=zx (HD.out _ _);go_wp2;first|go_end0|refine bodyPost_ret (results_none rfl _ _ _) rfl ?_
  exact ⟨rfl,bQ.mk (⟨at_,9,outs,il2,[],[],⟨[],zV⟩,⟨[],zV⟩,A⟩:Jb) _ _ _ q3 (some y) D.out J.out a9.out Z.out U.out⟩
 | none =>
  have HC:=zx (aN y3 O.out.fine J.out);go_wp2_with fail
  refine HC.out.mono ?_;rintro ev y4 ⟨a4,I⟩;have hev':ev=zT (.bool true):=a4;subst hev';clear a4;have HJ':=zx (D.out.keep I);have HK':=zx (U.out.trans I.of_nil);have HE':=zx (O.out.quiet I);have HP':=zx (J.out.keep I);clear D U O J I HC;have D:=HJ';have U:=HK';have O:=HE';have J:=HP';clear HJ' HK' HE' HP';have HC:=zx (aS y4 O.out.fine (O.out.fne a1) J.out);go_wp2_with fail
  refine HC.out.mono ?_;rintro ev y5 ⟨a5,q5,x5,rfl,hp,hr,hs,M,I⟩;clear hs;have HIM':Hid (∀ i l' x',Rl (fun r=>bC fN r >>= fun p3=>(fun r=>bN r >>= fun p4=>(fun r=> .ok ((⟨at_,9,outs,il2,[],p3.1,⟨a5,zV⟩,p4.1,A⟩:Jb),r)) p4.2) p3.2) q5 x5 i l' x'→Rl (am (aM at_ outs A)) l none i l' x'):=zx (fun i l' x' hq=>ad.out i l' x' (Rl.bind (Q:=fun a=>fun r=>bC fN r >>= fun p3=>(fun r=>bN r >>= fun p4=>(fun r=> .ok ((⟨at_,9,outs,il2,[],p3.1,⟨a,zV⟩,p4.1,A⟩:Jb),r)) p4.2) p3.2) hr hq));clear ad hr;have ad:=HIM';clear HIM';have HJ':=zx (D.out.rd J.out I);have HK':=zx (U.out.trans I);have HE':=zx (O.out.one a1 I);have HP':=zx hp;clear D U O J I hp HC;have D:=HJ';have U:=HK';have O:=HE';have J:=HP';clear HJ' HK' HE' HP';have a3:=zx (zA M Z.out);clear M Z;have Z:=a3;clear a3;have d5:=D.out.blk.frozen 6;have ek:y5.cell? ⟨jb,6,none⟩=some (zQ (bs [])):=D.out.blk.cell 6;have lj:=D.out.blk.lt;have a0:aa [jb] y5 (y5.setCell ⟨jb,6,none⟩ (zQ (bs a5))):=(zN _ _).setCell (.inl (by simp)) _;have HJ':Hid (ar (y5.setCell ⟨jb,6,none⟩ (zQ (bs a5))) w0.heap.size jb (⟨at_,9,outs,il2,[],[],⟨a5,zV⟩,⟨[],zV⟩,A⟩:Jb) v2 bk (zR none 0 0)):=zx (D.out.box a0 ((D.out.blk.set 6 (zQ (bs a5))).congr (by rfl)) rfl rfl rfl);have HP':=zx (J.out.box D.out a0);have HK':=zx (U.out.box bj.out a0);have HE':=zx (bn.out.one a1 HK'.out);clear a0;go_upto_region 16 with (fail)
  obtain ⟨y6,hy⟩:∃ x,(y5.setCell ⟨jb,6,none⟩ (zQ (bs a5)))=x:=⟨_,rfl⟩
  rw[hy] at HJ' HP' HK' HE' ⊢;clear hy d5 ek lj D J U O;have D:=HJ';have J:=HP';have U:=HK';have O:=HE';clear HJ' HP' HK' HE';have HC:=zx (fY [61,32,60,62,32,60,32,60,61,32,62,32,62,61] [[61],[60,62],[60],[60,61],[62],[62,61]] (by decide) (by decide) (by decide) (by decide) y6 O.out.renv (O.out.fne a1) (O.out.mne a1) J.out);go_wp2_with fail
  refine HC.out.mono ?_;rintro ev y7 ⟨a7,q7,x7,rfl,hp,hr,hs,M,I⟩;clear hs;replace hr:=Rl.same pu hr;have HIM':Hid (∀ i l' x',Rl (fun r=>bN r >>= fun p4=>(fun r=> .ok ((⟨at_,9,outs,il2,[],a7,⟨a5,zV⟩,p4.1,A⟩:Jb),r)) p4.2) q7 x7 i l' x'→Rl (am (aM at_ outs A)) l none i l' x'):=zx (fun i l' x' hq=>ad.out i l' x' (Rl.bind (Q:=fun a=>fun r=>bN r >>= fun p4=>(fun r=> .ok ((⟨at_,9,outs,il2,[],a,⟨a5,zV⟩,p4.1,A⟩:Jb),r)) p4.2) hr hq));clear ad hr;have ad:=HIM';clear HIM';have HJ':=zx (D.out.rd J.out I);have HK':=zx (U.out.trans I);have HE':=zx (O.out.one a1 I);have HP':=zx hp;clear D U O J I hp HC;have D:=HJ';have U:=HK';have O:=HE';have J:=HP';clear HJ' HK' HE' HP';have a3:=zx (zA M Z.out);clear M Z;have Z:=a3;clear a3;have d0:=D.out.blk.frozen 5;have d1:y7.cell? ⟨jb,5,none⟩=some (zQ (bs [])):=D.out.blk.cell 5;have lj:=D.out.blk.lt;have a0:aa [jb] y7 (y7.setCell ⟨jb,5,none⟩ (zQ (bs a7))):=(zN _ _).setCell (.inl (by simp)) _;have HJ':Hid (ar (y7.setCell ⟨jb,5,none⟩ (zQ (bs a7))) w0.heap.size jb (⟨at_,9,outs,il2,[],a7,⟨a5,zV⟩,⟨[],zV⟩,A⟩:Jb) v2 bk (zR none 0 0)):=zx (D.out.box a0 ((D.out.blk.set 5 (zQ (bs a7))).congr (by rfl)) rfl rfl rfl);have HP':=zx (J.out.box D.out a0);have HK':=zx (U.out.box bj.out a0);have HE':=zx (bn.out.one a1 HK'.out);clear a0;go_upto_region 17 with (fail)
  obtain ⟨y8,hy⟩:∃ x,(y7.setCell ⟨jb,5,none⟩ (zQ (bs a7)))=x:=⟨_,rfl⟩
  rw[hy] at HJ' HP' HK' HE' ⊢;clear hy d0 d1 lj D J U O;have D:=HJ';have J:=HP';have U:=HK';have O:=HE';clear HJ' HP' HK' HE'
  cases x7 with
  | some y =>
   have HD:Hid (∀ i l',Rl (am (aM at_ outs A)) l none i l' (some y)):=zx (fun i l'=>ad.out i l' _ rfl);clear ad;have HC:=zx (aN y8 O.out.fine J.out);go_wp2_with fail
   refine HC.out.mono ?_;rintro ev y9 ⟨a4,I⟩;have hev':ev=zT (.bool false):=a4;subst hev';clear a4;have HJ':=zx (D.out.keep I);have HK':=zx (U.out.trans I.of_nil);have HE':=zx (O.out.quiet I);have HP':=zx (J.out.keep I);clear D U O J I HC;have D:=HJ';have U:=HK';have O:=HE';have J:=HP';clear HJ' HK' HE' HP';have a9:Hid (Rl (am (aM at_ outs A)) l none (⟨at_,9,outs,il2,[],a7,⟨a5,zV⟩,⟨[],zV⟩,A⟩:Jb) q7 (some y)):=zx (HD.out _ _);go_wp2;first|go_end0|refine bodyPost_ret (results_none rfl _ _ _) rfl ?_
   exact ⟨rfl,bQ.mk (⟨at_,9,outs,il2,[],a7,⟨a5,zV⟩,⟨[],zV⟩,A⟩:Jb) _ _ _ q7 (some y) D.out J.out a9.out Z.out U.out⟩
  | none =>
   have HC:=zx (aN y8 O.out.fine J.out);go_wp2_with fail
   refine HC.out.mono ?_;rintro ev y9 ⟨a4,I⟩;have hev':ev=zT (.bool true):=a4;subst hev';clear a4;have HJ':=zx (D.out.keep I);have HK':=zx (U.out.trans I.of_nil);have HE':=zx (O.out.quiet I);have HP':=zx (J.out.keep I);clear D U O J I HC;have D:=HJ';have U:=HK';have O:=HE';have J:=HP';clear HJ' HK' HE' HP';have HC:=zx (jk y9 O.out a1 J.out (zA Z.out en.out));go_wp2_with fail
   refine HC.out.mono ?_;rintro ev ba ⟨aA,cg,b4,he,hp,hr,M,I⟩;have et:ev=zT (.agg #[zQ (bs aA.col),zW zX aA.val.kind,zW zX aA.val.num,zQ (bs aA.val.word)]):=he;subst et;clear he;have HIM':Hid (∀ i l' x',Rl (fun r=> .ok ((⟨at_,9,outs,il2,[],a7,⟨a5,zV⟩,aA,A⟩:Jb),r)) cg b4 i l' x'→Rl (am (aM at_ outs A)) l none i l' x'):=zx (fun i l' x' hq=>ad.out i l' x' (Rl.bind (Q:=fun a=>fun r=> .ok ((⟨at_,9,outs,il2,[],a7,⟨a5,zV⟩,a,A⟩:Jb),r)) hr hq));clear ad hr;have ad:=HIM';clear HIM';have HJ':=zx (D.out.rd J.out I);have HK':=zx (U.out.trans I);have HE':=zx (O.out.one a1 I);have HP':=zx hp;clear D U O J I hp HC;have D:=HJ';have U:=HK';have O:=HE';have J:=HP';clear HJ' HK' HE' HP';have a3:=zx (zA M Z.out);clear M Z;have Z:=a3;clear a3;have ff:=D.out.blk.frozen 10;have fb:ba.cell? ⟨jb,10,none⟩=some (zQ (bs [])):=D.out.blk.cell 10;have fc:=D.out.blk.frozen 11;have e9:ba.cell? ⟨jb,11,none⟩=some (zW zX 0):=D.out.blk.cell 11;have fg:=D.out.blk.frozen 12;have e4:ba.cell? ⟨jb,12,none⟩=some (zW zX 0):=D.out.blk.cell 12;have e5:=D.out.blk.frozen 13;have fn:ba.cell? ⟨jb,13,none⟩=some (zQ ⟨#[]⟩):=D.out.blk.cell 13;have lj:=D.out.blk.lt;have a0:aa [jb] ba ((((ba.setCell ⟨jb,10,none⟩ (zQ (bs aA.col))).setCell ⟨jb,11,none⟩ (zW zX aA.val.kind)).setCell ⟨jb,12,none⟩ (zW zX aA.val.num)).setCell ⟨jb,13,none⟩ (zQ (bs aA.val.word))):=((((zN _ _).setCell (.inl (by simp)) _).setCell (.inl (by simp)) _).setCell (.inl (by simp)) _).setCell (.inl (by simp)) _;have HJ':Hid (ar ((((ba.setCell ⟨jb,10,none⟩ (zQ (bs aA.col))).setCell ⟨jb,11,none⟩ (zW zX aA.val.kind)).setCell ⟨jb,12,none⟩ (zW zX aA.val.num)).setCell ⟨jb,13,none⟩ (zQ (bs aA.val.word))) w0.heap.size jb (⟨at_,9,outs,il2,[],a7,⟨a5,zV⟩,aA,A⟩:Jb) v2 bk (zR none 0 0)):=zx (D.out.box a0 (((((D.out.blk.set 10 (zQ (bs aA.col))).set 11 (zW zX aA.val.kind)).set 12 (zW zX aA.val.num)).set 13 (zQ (bs aA.val.word))).congr (by rfl)) rfl rfl rfl);have HP':=zx (J.out.box D.out a0);have HK':=zx (U.out.box bj.out a0);clear a0;have a9:Hid (Rl (am (aM at_ outs A)) l none (⟨at_,9,outs,il2,[],a7,⟨a5,zV⟩,aA,A⟩:Jb) cg b4):=zx (ad.out _ _ _ (Rl.stay (fun _=>rfl)))
   go_wp2;first|go_end0|refine bodyPost_ret (results_none rfl _ _ _) rfl ?_
   exact ⟨rfl,bQ.mk (⟨at_,9,outs,il2,[],a7,⟨a5,zV⟩,aA,A⟩:Jb) _ _ _ cg b4 HJ'.out HP'.out a9.out Z.out HK'.out⟩
theorem yM:(Tryz.prog.info? 177).map (fun i=>(i.zero,i.size,i.bytes))=some (some (.agg #[zW zX 0,zQ ⟨#[]⟩,zW zX 0]),3,32):=by kernel_rfl
def zi (R:Except (Int×Int) (List Tk)) (h:Nat) (e:Ending) (w':World):Prop:=match R with
 | .ok l=>∃ A c,e=zT (.tuple #[zR A l.length c,.agg #[zW zX 0,zW zX (-1)]])∧w'.ownsRow h 177 3 (zR A l.length c) l.length (bY l)
 | .error x=>e=zT (.tuple #[zR none 0 0,.agg #[zW zX x.1,zW zX x.2]])
theorem nA {W B:World} {g:Nat} {t e:TypeId} {cs:Array Value} {o:Obj} {A:Option Nat} (h:ap W g t cs) (I:(W.alloc o).grownBy B A) (D:∀ x,A=some x→cD W x e) (J:e≠t):ap B g t cs :=
 (I.block g (h.alloc o).lt (fun z=>(D g z.symm).ne h.ty J rfl)).trans (h.alloc o)
theorem px (m:Int) (w:World) (A:w.cell? ⟨5,0,none⟩=some (zW zX m)):Calls zy 66 #[zQ (bs [60,62,32,60,61,32,62,61,32,60,32,62,32,61,32,43,32,45,32,42,32,44,32,59,32,58,32,46]),zQ (bs [32])] w fun e w'=>e=zT (zR (some ⟨w.heap.size,0,none⟩) 13 13)∧w'=w.alloc (zU (strs an).toArray 9):=by
 have h:=Tryz.strings_Split (bs [60,62,32,60,61,32,62,61,32,60,32,62,32,61,32,43,32,45,32,42,32,44,32,59,32,58,32,46]) (bs [32]) m w (by decide) A (by decide);have e1:Lib.countB (bs [60,62,32,60,61,32,62,61,32,60,32,62,32,61,32,43,32,45,32,42,32,44,32,59,32,58,32,46]) (bs [32])=12:=by kernel_rfl
 have e2:(Lib.splitB (bs [32]) 0 12 (bs [60,62,32,60,61,32,62,61,32,60,32,62,32,61,32,43,32,45,32,42,32,44,32,59,32,58,32,46])).map Value.string=strs an:=by kernel_rfl
 rw[e1,e2] at h;exact h
theorem jl (q:UInt8→Bool) (s:Bs) (n p:Nat) (M:n≤p) (I:p≤s.length) (D:∀ j,n≤j→j<p→∀ h:j<s.length,q s[j]=true) (B:∀ h:p<s.length,q s[p]=false):n+eu q (s.drop n)=p:=by
 have:=kA q (s.drop n) (p-n) (by rw[List.length_drop];omega) (fun j J A=>by
  rw[List.getElem_drop];exact D (n+j) (by omega) (by omega) _) (fun A=>by
  rw[List.getElem_drop];rw[List.length_drop] at A;have e:n+(p-n)=p:=by omega
  have:=B (by omega);simpa only[e] using this)
 omega
theorem j8 {W:World} {A e size n T i:Nat} {v:Value} {xs:List Value} (h:W.ownsRow A e size v n xs) (D:∀ g,v.ownBlock=some g→g<T) (u:Value):(W.setCell ⟨T,i,none⟩ u).ownsRow A e size v n xs :=
 bh (L:=[T]) h ((zN _ _).setCell (.inl (by simp)) _) (fun g I B=>by have:=D g I;simp at B;omega)
theorem dS {w W:World} {T i:Nat} (h:aa [] w W) (A:w.heap.size≤T) (u:Value):aa [] w (W.setCell ⟨T,i,none⟩ u):=h.setCell (.inr A) _
theorem py (s:Bs) (hs:s.length≤1000000) (w:World) (hE:gH w) :
  Calls zy 95 #[zQ (bs s)] w fun e w'=>zi (kn s) w.heap.size e w'∧aa [] w w':=by
 obtain ⟨i0,hi,e5,f5,fu⟩:=info_parts yM;obtain ⟨R,hR⟩:∃ R,kn s=R:=⟨_,rfl⟩
 rw[hR];unfold kn at hR;have HR:=zx hR;have HE:=zx hE;obtain ⟨M,hM⟩:∃ M,w.heap.size=M:=⟨_,rfl⟩
 rw[hM];have c5:=zO w 47 #[zW zX 0,zW zX 0];have d7:=(zN [] w).alloc (zU #[zW zX 0,zW zX 0] 47);rw[hM] at c5;have bd:Hid (w.heap.size≤M):=zx (by omega);clear hR hE;go_enter Tryz.func95,Tryz.ntmps95
 go_upto_region 1 with (fail)
 try rw[hM]
 obtain ⟨y0,fz⟩:∃ y,w.alloc (zU #[zW zX 0,zW zX 0] 47)=y:=⟨_,rfl⟩
 rw[fz] at c5 d7 ⊢;have fn:=zx c5;have fv:=zx d7;clear c5 d7 fz hM;go_wp2;go_loopw [4,5] (fun v i wr=>∃ (n f:Nat) (D:List Tk),n≤s.length∧i=zW zX n∧s.length-n≤f∧D.length≤400∧Hid (cQ f (s.drop n) n D=R)∧Hid (wr.ownsRow M 177 3 v D.length (bY D))∧Hid (ap wr M 47 #[zW zX 0,zW zX 0])∧Hid (aa [] w wr)) (fun _ i _=>s.length-(intOf i).toNat)
 case atStart=>exact ⟨0,s.length,[],zE _,rfl,zz _,by simp,HR,zx (World.ownsRow_nil _ _ _ _),fn,fv⟩
 clear HR fn fv;obtain ⟨n,f,D,hn,rfl,hf,ds,HR,HO,J,Z⟩:=hrel;obtain ⟨A,cv,rfl,-⟩:=ao HO.out;have c4:=zx (show D.length+1≤maxLen∧(D.length+1)*32≤140737488355328 by simp only[maxLen];omega);have c7:=zx (show M≤wr.heap.size+1 from Nat.le_succ_of_le (Nat.le_of_lt J.out.lt));by_cases d3:n<s.length
 ·have hP:(n:Int)<(s.length:Int):=by omega
  obtain ⟨f,rfl⟩:∃ m,f=m+1:=⟨f-1,by omega⟩
  have d4:((bs s)[n]'(by rw[ag];exact d3))=s[n]:=f4 s n _;have bj:s.drop n=s[n]::s.drop (n+1):=List.drop_eq_getElem_cons d3;have b4:=fun W=>iL (P:=zy) Tryz.underlying9 s n hn W
  have a1:=fun W=>iL (P:=zy) Tryz.underlying9 s (n+1) d3 W
  obtain ⟨c,hc⟩:∃ c,s[n]=c:=⟨_,rfl⟩
  obtain ⟨t,ht⟩:∃ t,s.drop (n+1)=t:=⟨_,rfl⟩
  rw[hc] at d4 bj;rw[ht] at bj a1;rw[bj] at b4;rw[show ((n+1:Nat):Int)=(n:Int)+1 by omega] at a1;have ho:t.length+n+1=s.length:=by rw[←ht,List.length_drop];omega
  have cq:c=32↔(c.toNat:Int)=32:=⟨fun h=>by rw[h];rfl,fun h=>UInt8.toNat_inj.1 (by have:(32:UInt8).toNat=32:=rfl;omega)⟩;have b7:c=10↔(c.toNat:Int)=10:=⟨fun h=>by rw[h];rfl,fun h=>UInt8.toNat_inj.1 (by have:(10:UInt8).toNat=10:=rfl;omega)⟩;have a6:c=39↔(c.toNat:Int)=39:=⟨fun h=>by rw[h];rfl,fun h=>UInt8.toNat_inj.1 (by have:(39:UInt8).toNat=39:=rfl;omega)⟩;have b1:Hid ((if c=32∨c=10 then cQ f t (n+1) D
 else if (aR (c::t)).2=0 then .error (3,(n:Int))
 else if D.length=400 then .error (4,(n:Int))
 else cQ f ((c::t).drop (aR (c::t)).2) (n+(aR (c::t)).2) (D++[⟨(aR (c::t)).1,(c::t).take (aR (c::t)).2,n⟩]))=R):=zx (by rw[←HR.out,bj];rfl)
  have HT:=zx ht;have HD:=zx bj;have cx:=zx a6;clear HR hc ht a6;by_cases bo:c=32
  ·have t1:((c.toNat:Int)==32)=true:=by rw[beq_iff_eq];exact cq.1 bo
   have HQ:Hid (cQ f (s.drop (n+1)) (n+1) D=R):=zx (by rw[HT.out,←b1.out,if_pos (.inl bo)]);clear cq b7 bo b1 bj b4 a1;go_wp2;go_roundw
   case rel=>exact ⟨n+1,f,D,by omega,by go_num,by omega,ds,HQ,HO,J,Z⟩
   case measure=>simp[intOf];omega
  have t1:((c.toNat:Int)==32)=false:=by rw[beq_eq_false_iff_ne];exact fun h=>bo (cq.2 h)
  by_cases b3:c=10
  ·have t2:((c.toNat:Int)==10)=true:=by rw[beq_iff_eq];exact b7.1 b3
   have HQ:Hid (cQ f (s.drop (n+1)) (n+1) D=R):=zx (by rw[HT.out,←b1.out,if_pos (.inr b3)]);clear cq b7 bo b3 b1 bj b4 a1;go_wp2;go_roundw
   case rel=>exact ⟨n+1,f,D,by omega,by go_num,by omega,ds,HQ,HO,J,Z⟩
   case measure=>simp[intOf];omega
  have t2:((c.toNat:Int)==10)=false:=by rw[beq_eq_false_iff_ne];exact fun h=>b3 (b7.2 h)
  have bm:Hid ((if (aR (c::t)).2=0 then .error (3,(n:Int))
 else if D.length=400 then .error (4,(n:Int))
 else cQ f ((c::t).drop (aR (c::t)).2) (n+(aR (c::t)).2) (D++[⟨(aR (c::t)).1,(c::t).take (aR (c::t)).2,n⟩]))=R):=zx (by rw[←b1.out];exact (if_neg (fun h=>h.elim bo b3)).symm)
  have fg:=kV c t;obtain ⟨km,d5⟩:∃ km,aR (c::t)=km:=⟨_,rfl⟩
  obtain ⟨k,m⟩:=km;rw[d5] at bm fg;simp only[zG] at fg;have b6:=zx d5;have ez:=zx b4;have dq:=zx a1;clear cq b7 bo b3 b1 bj d5 b4 a1;have bk:=zO wr 177 #[zW zX 0,zQ ⟨#[]⟩,zW zX n];have a9:=HO.out.alloc (zU #[zW zX 0,zQ ⟨#[]⟩,zW zX n] 177);have er:=J.out.alloc (zU #[zW zX 0,zQ ⟨#[]⟩,zW zX n] 177);have ep:=Z.out.alloc (zU #[zW zX 0,zQ ⟨#[]⟩,zW zX n] 177);have O:Hid (M≠wr.heap.size∧w.heap.size≤wr.heap.size):=zx ⟨by have:=J.out.lt;omega,Z.out.size⟩;have a5:Hid (∀ g,(Value.slice A D.length cv).ownBlock=some g→g<wr.heap.size):=zx (fun g hg=>(HO.out.lt g hg).2);go_upto_block 2 with (fail)
  obtain ⟨T,hT⟩:∃ T,wr.heap.size=T:=⟨_,rfl⟩
  rw[hT] at bk O a5 ⊢;obtain ⟨y,hy⟩:∃ y,wr.alloc (zU #[zW zX 0,zQ ⟨#[]⟩,zW zX n] 177)=y:=⟨_,rfl⟩
  rw[hy] at bk a9 er ep ⊢;clear hy hT HO J Z c7;have I:=zx bk;have HO:=zx a9;have J:=zx er;have Z:=zx ep;have z0:=bk.frozen 0;have e0:y.cell? ⟨T,0,none⟩=some (zW zX 0):=bk.cell 0;have lt:=bk.lt;have hO:n+m≤s.length:=by omega
  clear bk a9 er ep;go_cut [7] (fun kv wx=>kv=zW zX ((n+m:Nat):Int)∧Hid (ap wx T 177 #[zW zX k,zQ ⟨#[]⟩,zW zX n])∧Hid (ap wx M 47 #[zW zX 0,zW zX 0])∧Hid (wx.ownsRow M 177 3 (zR A D.length cv) D.length (bY D))∧Hid (aa [] w wx))
  case first =>
   cases hl:dW c with
   | true =>
    have bn:=b6.out.symm.trans (ur hl);injection bn with ek em;subst ek;have a7:Hid (m=eu iF (s.drop n)):=zx (by rw[em,HD.out]);have HL:=zx (io c y);rw[show jK c=true from hl] at HL;go_wp2_with fail
    refine HL.out.mono ?_;rintro ev W2 ⟨rfl,rfl⟩;clear hl em HL;go_wp2_with fail
    go_loop [7] (fun kv=>∃ p:Nat,n≤p∧p≤s.length∧kv=zW zX p∧Hid (∀ j,n≤j→j<p→∀ h:j<s.length,iF s[j]=true)) (fun kv=>s.length-(intOf kv).toNat)
    case atStart=>exact ⟨n,zz _,hn,rfl,zx (fun j U h2=>absurd h2 (by omega))⟩
    obtain ⟨p,cj,hp,rfl,bl⟩:=hrel;by_cases co:p<s.length
    ·have d0:(p:Int)<(s.length:Int):=by omega
     have g7:((bs s)[p]'(by rw[ag];exact co))=s[p]:=f4 s p _;have a3:Hid (iF s[p]=true→∀ j,n≤j→j<p+1→∀ h:j<s.length,iF s[j]=true):=zx (fun hx j U h2 h=>by
      by_cases h3:j<p
      ·exact bl.out j U h3 h
      obtain rfl:j=p:=by omega
      exact hx)
     have aA:Hid (iF s[p]=false→p=n+m):=zx (fun hx=>by rw[a7.out,jl iF s n p cj hp bl.out (fun _=>hx)]);have cg:=zx (fun W=>io s[p] W);have ba:=zx (fun W=>ip s[p] W);generalize hx:s[p]=x at *;clear hx
     cases U:jK x with
     | true =>
      rw[U] at cg;have H1:Hid (iF x=true):=zx (by unfold iF;rw[show dW x=true from U];rfl);clear U;go_wp2_with fail
      refine (cg.out _).mono ?_;rintro e W2 ⟨rfl,rfl⟩;go_wp2;go_round
      case rel=>exact ⟨p+1,by omega,by omega,by go_num,zx (a3.out H1.out)⟩
      case measure=>simp[intOf];omega
     | false =>
      rw[U] at cg
      cases h2:lL x with
      | true =>
       rw[h2] at ba;have H1:Hid (iF x=true):=zx (by unfold iF;rw[show dW x=false from U,show dk x=true from h2];rfl);clear U h2;go_wp2_with fail
       refine (cg.out _).mono ?_;rintro e W2 ⟨rfl,rfl⟩;go_wp2_with fail
       refine (ba.out _).mono ?_;rintro e W2 ⟨rfl,rfl⟩;go_wp2;go_round
       case rel=>exact ⟨p+1,by omega,by omega,by go_num,zx (a3.out H1.out)⟩
       case measure=>simp[intOf];omega
      | false =>
       rw[h2] at ba;have H1:Hid (iF x=false):=zx (by unfold iF;rw[show dW x=false from U,show dk x=false from h2];rfl);clear U h2;go_wp2_with fail
       refine (cg.out _).mono ?_;rintro e W2 ⟨rfl,rfl⟩;go_wp2_with fail
       refine (ba.out _).mono ?_;rintro e W2 ⟨rfl,rfl⟩;go_wp2;go_meet;exact ⟨by rw[←aA.out H1.out],zx ((I.out.set 0 (zW zX 1)).congr rfl),zx (J.out.far (p:=⟨T,0,none⟩) O.out.1 _),zx (j8 HO.out a5.out _),zx (dS Z.out O.out.2 _)⟩
    have d0:¬(p:Int)<(s.length:Int):=by omega
    have aA:Hid (p=n+m):=zx (by rw[a7.out,jl iF s n p cj hp bl.out (fun h=>absurd h co)]);go_wp2;go_meet;exact ⟨by rw[←aA.out],zx ((I.out.set 0 (zW zX 1)).congr rfl),zx (J.out.far (p:=⟨T,0,none⟩) O.out.1 _),zx (j8 HO.out a5.out _),zx (dS Z.out O.out.2 _)⟩
   | false =>
    cases hd:dk c with
    | true =>
     have bn:=b6.out.symm.trans (ut hl hd);injection bn with ek em;subst ek;have a7:Hid (m=eu dk (s.drop n)):=zx (by rw[em,HD.out]);have HL:=zx (io c y);rw[show jK c=false from hl] at HL;go_wp2_with fail
     refine HL.out.mono ?_;rintro ev W2 ⟨rfl,rfl⟩;have a2:=zx (ip c y);rw[show lL c=true from hd] at a2;go_wp2_with fail
     refine a2.out.mono ?_;rintro ev W2 ⟨rfl,rfl⟩;clear hl hd em HL a2;go_wp2_with fail
     go_loop [7] (fun kv=>∃ p:Nat,n≤p∧p≤s.length∧kv=zW zX p∧Hid (∀ j,n≤j→j<p→∀ h:j<s.length,dk s[j]=true)) (fun kv=>s.length-(intOf kv).toNat)
     case atStart=>exact ⟨n,zz _,hn,rfl,zx (fun j U h2=>absurd h2 (by omega))⟩
     obtain ⟨p,cj,hp,rfl,bl⟩:=hrel;by_cases co:p<s.length
     ·have d0:(p:Int)<(s.length:Int):=by omega
      have g7:((bs s)[p]'(by rw[ag];exact co))=s[p]:=f4 s p _;have a3:Hid (dk s[p]=true→∀ j,n≤j→j<p+1→∀ h:j<s.length,dk s[j]=true):=zx (fun hx j U h2 h=>by
       by_cases h3:j<p
       ·exact bl.out j U h3 h
       obtain rfl:j=p:=by omega
       exact hx)
      have aA:Hid (dk s[p]=false→p=n+m):=zx (fun hx=>by rw[a7.out,jl dk s n p cj hp bl.out (fun _=>hx)]);have ba:=zx (fun W=>ip s[p] W);generalize hx:s[p]=x at *;clear hx
      cases h2:lL x with
      | true =>
       rw[h2] at ba;have H1:Hid (dk x=true):=zx h2;clear h2;go_wp2_with fail
       refine (ba.out _).mono ?_;rintro e W2 ⟨rfl,rfl⟩;go_wp2;go_round
       case rel=>exact ⟨p+1,by omega,by omega,by go_num,zx (a3.out H1.out)⟩
       case measure=>simp[intOf];omega
      | false =>
       rw[h2] at ba;have H1:Hid (dk x=false):=zx h2;clear h2;go_wp2_with fail
       refine (ba.out _).mono ?_;rintro e W2 ⟨rfl,rfl⟩;go_wp2;go_meet;exact ⟨by rw[←aA.out H1.out],zx ((I.out.set 0 (zW zX 2)).congr rfl),zx (J.out.far (p:=⟨T,0,none⟩) O.out.1 _),zx (j8 HO.out a5.out _),zx (dS Z.out O.out.2 _)⟩
     have d0:¬(p:Int)<(s.length:Int):=by omega
     have aA:Hid (p=n+m):=zx (by rw[a7.out,jl dk s n p cj hp bl.out (fun h=>absurd h co)]);go_wp2;go_meet;exact ⟨by rw[←aA.out],zx ((I.out.set 0 (zW zX 2)).congr rfl),zx (J.out.far (p:=⟨T,0,none⟩) O.out.1 _),zx (j8 HO.out a5.out _),zx (dS Z.out O.out.2 _)⟩
    | false =>
     by_cases a6:c=39
     ·have bn:=b6.out.symm.trans (uv hl hd a6)
      injection bn with ek em;subst ek;have hb:=zx a6;clear a6;have HL:=zx (io c y);rw[show jK c=false from hl] at HL;go_wp2_with fail
      refine HL.out.mono ?_;rintro ev W2 ⟨rfl,rfl⟩;have a2:=zx (ip c y);rw[show lL c=false from hd] at a2;go_wp2_with fail
      refine a2.out.mono ?_;rintro ev W2 ⟨rfl,rfl⟩;have t3:((c.toNat:Int)==39)=true:=by rw[beq_iff_eq];exact cx.out.1 hb.out
      obtain ⟨mx,ct⟩:=(HE.out.quiet Z.out).mlen;obtain ⟨q,hq⟩:∃ q,Lib.indexByte t 39=q:=⟨_,rfl⟩
      have fS:=Lib.indexByte_ge t 39;have es:q<0∨q.toNat<t.length:=by
       by_cases h:q<0
       ·exact .inl h
       right
       have U:=(Lib.indexByte_some (l:=t) (c:=39) (o:=q.toNat) (by rw[hq];omega)).1;exact (List.getElem?_eq_some_iff.1 U).1
      rw[hq] at fS em;have HI:Hid (∀ W,W.cell? ⟨5,0,none⟩=some (zW zX mx)→Calls zy 126 #[zQ (bs t),zQ (bs [39])] W fun e W'=>e=zT (zW zX q)∧W=W'):=zx (fun W hW=>(Tryz.strings_Index (bs t) (bs [39]) mx W (by rw[ag];omega) hW).mono fun e W' ⟨U,h2⟩=>⟨by rw[U,←hq,←pw];rfl,h2.symm⟩);have f2:Hid ((y.setCell ⟨T,0,none⟩ (zW zX 3)).cell? ⟨5,0,none⟩=some (zW zX mx)):=zx (by
       obtain ⟨m0,fb⟩:=HE.out.mlen;have e1:=Z.out.cell_of fb (by simp);have e2:=(dS (i:=0) Z.out O.out.2 (zW zX 3)).cell_of fb (by simp);rw[ct] at e1;rw[e1];exact e2)
      clear hl hd HL a2 hq ct;have a1:=dq.out;by_cases d8:q<0
      ·rw[if_pos d8] at em
       subst em;clear es;go_wp2_with fail
       refine (HI.out _ f2.out).mono ?_;rintro ev W2 ⟨rfl,rfl⟩;go_wp2;go_meet;exact ⟨rfl,zx ((I.out.set 0 (zW zX 3)).congr rfl),zx (J.out.far (p:=⟨T,0,none⟩) O.out.1 _),zx (j8 HO.out a5.out _),zx (dS Z.out O.out.2 _)⟩
      rw[if_neg d8] at em;have a7:=zx em;have hQ:0≤q:=by omega
      have hK:q≤1000000:=by omega
      have hA:(n:Int)≤1000000:=by omega
      have g3:Hid ((n:Int)+q+2=((n+m:Nat):Int)):=zx (by omega);clear es em fS d8;go_wp2_with fail
      refine (HI.out _ f2.out).mono ?_;rintro ev W2 ⟨rfl,rfl⟩;go_wp2;go_meet;exact ⟨by rw[←g3.out],zx ((I.out.set 0 (zW zX 3)).congr rfl),zx (J.out.far (p:=⟨T,0,none⟩) O.out.1 _),zx (j8 HO.out a5.out _),zx (dS Z.out O.out.2 _)⟩
     have bn:=b6.out.symm.trans (sB hl hd a6);injection bn with ek em;subst ek;have t3:((c.toNat:Int)==39)=false:=by rw[beq_eq_false_iff_ne];exact fun h=>a6 (cx.out.2 h)
     have a7:Hid (m=if dz 2 (c::t) an≠0 then 2 else dz 1 (c::t) an):=zx (by rw[em,uq]);have HL:=zx (io c y);rw[show jK c=false from hl] at HL;go_wp2_with fail
     refine HL.out.mono ?_;rintro ev W2 ⟨rfl,rfl⟩;have a2:=zx (ip c y);rw[show lL c=false from hd] at a2;go_wp2_with fail
     refine a2.out.mono ?_;rintro ev W2 ⟨rfl,rfl⟩;clear hl hd a6 HL a2 em;go_wp2_with fail
     go_loopw [7,10] (fun kv dv wx=>∃ d h:Nat,dv=zW zX d∧kv=zW zX ((n+h:Nat):Int)∧d≤2∧Hid ((d=2∧h=0)∨(d=1∧h=dz 2 (c::t) an)∨(d=0∧dz 2 (c::t) an=0∧h=dz 1 (c::t) an))∧Hid (ap wx T 177 #[zW zX 4,zQ ⟨#[]⟩,zW zX n])∧Hid (ap wx M 47 #[zW zX 0,zW zX 0])∧Hid (wx.ownsRow M 177 3 (zR A D.length cv) D.length (bY D))∧Hid (aa [] w wx)) (fun _ dv _=>(intOf dv).toNat)
     case atStart=>exact ⟨2,0,rfl,rfl,zz _,zx (.inl ⟨rfl,rfl⟩),zx ((I.out.set 0 (zW zX 4)).congr rfl),zx (J.out.far (p:=⟨T,0,none⟩) O.out.1 _),zx (j8 HO.out a5.out _),zx (dS Z.out O.out.2 _)⟩
     obtain ⟨wx,rfl⟩:∃ z:World,z=wr:=⟨_,rfl⟩
     clear I J HO Z z0 e0 lt;obtain ⟨d,h,rfl,rfl,hL,c9,I,J,HO,Z⟩:=hrel;by_cases el:d=0
     ·have gb:¬(0:Int)<(d:Int):=by omega
      have HX:Hid (h=m):=zx (by
       rw[a7.out];rcases c9.out with ⟨U,_⟩|⟨U,_⟩|⟨_,U,h2⟩
       ·omega
       ·omega
       rw[if_neg (fun e=>e U)];exact h2)
      clear el;go_wp2;go_meet;exact ⟨congrArg _ (by have:=HX.out;omega),I,J,HO,Z⟩
     have gb:(0:Int)<(d:Int):=by omega
     by_cases hh:h=0
     ·have f7:Hid (d=1→dz 2 (c::t) an=0):=zx (fun e=>by
       rcases c9.out with ⟨U,_⟩|⟨_,U⟩|⟨U,_,_⟩
       ·omega
       ·omega
       omega)
      subst hh;rw[Nat.add_zero];clear el c9;obtain ⟨mx,ct⟩:=(HE.out.quiet Z.out).mlen;have e3:=zx (px mx wx ct);have cp:=zx (zO wx 9 (strs an).toArray);have bb:=zx (I.out.alloc (zU (strs an).toArray 9));have ch:=zx (J.out.alloc (zU (strs an).toArray 9));have cf:=zx (HO.out.alloc (zU (strs an).toArray 9));have cu:=zx (Z.out.alloc (zU (strs an).toArray 9));clear ct I J HO Z;go_wp2_with fail
      refine e3.out.mono ?_;rintro ev w3 ⟨rfl,rfl⟩;obtain ⟨B,hB⟩:∃ B,wx.heap.size=B:=⟨_,rfl⟩
      rw[hB] at cp ⊢;obtain ⟨w3,ft⟩:∃ z,wx.alloc (zU (strs an).toArray 9)=z:=⟨_,rfl⟩
      rw[ft] at cp bb ch cf cu ⊢;clear hB ft e3;have gk:Hid (∀ r (hr:r<an.length),w3.cell? ⟨B,r,none⟩=some (zQ (bs an[r]))):=zx (fun r hr=>by
       rw[cp.out.cell r];simp[strs,zI hr])
      have lb:=cp.out.lt;clear cp;go_wp2_with fail
      go_loop [7,43] (fun kv rv=>∃ r:Nat,r≤13∧rv=zW zX r∧kv=zW zX ((n+dz d (c::t) (an.take r):Nat):Int)) (fun _ rv=>13-(intOf rv).toNat)
      case atStart=>exact ⟨0,zE _,rfl,rfl⟩
      obtain ⟨r,hr,rfl,rfl⟩:=hrel;by_cases gl:r<13
      ·have hF:(r:Int)<13:=by omega
       have bB:r<an.length:=gl;have he:=gk.out r bB;have a3:Hid (an[r].length=d→Lib.hasPrefix (c::t) an[r]=true→n+dz d (c::t) (an.take (r+1))=n+d):=zx (fun U h2=>by rw[up bB U h2]);have aA:Hid ((an[r].length=d→Lib.hasPrefix (c::t) an[r]=false)→n+dz d (c::t) (an.take (r+1))=n+dz d (c::t) (an.take r)):=zx (fun U=>by rw[vK bB U]);have HP:=zx (fun W=>Tryz.strings_HasPrefix (bs (c::t)) (bs an[r]) W);obtain ⟨mk,ff⟩:∃ mk,an[r]=mk:=⟨_,rfl⟩
       rw[ff] at he a3 aA HP;obtain ⟨oh,d6⟩:∃ oh,dz d (c::t) (an.take r)=oh:=⟨_,rfl⟩
       rw[d6] at aA ⊢;have hw:oh≤2:=by rw[←d6];have:=vL d (c::t) (an.take r);omega
       clear ff d6 bB;by_cases c6:mk.length=d
       ·have gm:=zx c6
        have g4:((mk.length:Int)==(d:Int))=true:=by rw[beq_iff_eq];omega
        clear c6;have b4:=ez.out
        cases b0:Lib.hasPrefix (c::t) mk with
        | true =>
         have d2:Hid (∀ W,Calls zy 146 #[zQ (bs (c::t)),zQ (bs mk)] W fun e W'=>e=zT (.bool true)∧W=W'):=zx (fun W=>(HP.out W).mono fun e W' ⟨U,h2⟩=>⟨by rw[U,←b0];rfl,h2.symm⟩);have HX:Hid (((n:Int)+(d:Int))=((n+dz d (c::t) (an.take (r+1)):Nat):Int)):=zx (by rw[a3.out gm.out b0];omega);clear b0 HP;go_wp2_with fail
         refine (d2.out _).mono ?_;rintro ev W2 ⟨rfl,rfl⟩;go_wp2;go_round
         case rel=>exact ⟨r+1,by omega,by go_num,by rw[←HX.out]⟩
         case measure=>simp[intOf];omega
        | false =>
         have d2:Hid (∀ W,Calls zy 146 #[zQ (bs (c::t)),zQ (bs mk)] W fun e W'=>e=zT (.bool false)∧W=W'):=zx (fun W=>(HP.out W).mono fun e W' ⟨U,h2⟩=>⟨by rw[U,←b0];rfl,h2.symm⟩);have HX:Hid (n+dz d (c::t) (an.take (r+1))=n+oh):=zx (aA.out (fun _=>b0));clear b0 HP;go_wp2_with fail
         refine (d2.out _).mono ?_;rintro ev W2 ⟨rfl,rfl⟩;go_wp2;go_round
         case rel=>exact ⟨r+1,by omega,by go_num,congrArg _ (by have:=HX.out;omega)⟩
         case measure=>simp[intOf];omega
       have g4:((mk.length:Int)==(d:Int))=false:=by rw[beq_eq_false_iff_ne];omega
       have HX:Hid (n+dz d (c::t) (an.take (r+1))=n+oh):=zx (aA.out (fun e=>absurd e c6));clear c6 HP;go_wp2;go_round
       case rel=>exact ⟨r+1,by omega,by go_num,congrArg _ (by have:=HX.out;omega)⟩
       case measure=>simp[intOf];omega
      obtain rfl:r=13:=by omega
      have HX:Hid ((d-1=2∧dz d (c::t) an=0)∨(d-1=1∧dz d (c::t) an=dz 2 (c::t) an)∨(d-1=0∧dz 2 (c::t) an=0∧dz d (c::t) an=dz 1 (c::t) an)):=zx (by
       rcases (show d=1∨d=2 by omega) with e|e
       ·exact .inr (.inr ⟨by omega,f7.out e,by rw[e]⟩)
       exact .inr (.inl ⟨by omega,by rw[e]⟩))
      go_wp2;go_roundw
      case rel=>exact ⟨d-1,dz d (c::t) an,by go_num,rfl,by omega,HX,bb,ch,cf,cu⟩
      case measure=>simp[intOf];omega
     have tk:(((n+h:Nat):Int)==(n:Int))=false:=by rw[beq_eq_false_iff_ne];omega
     have HX:Hid (h=m):=zx (by
      rw[a7.out];rcases c9.out with ⟨_,U⟩|⟨_,U⟩|⟨U,_,_⟩
      ·omega
      ·rw[if_pos (by omega)]
       rcases vM 2 (c::t) an with h2|h2<;>omega
      omega)
     clear el hh;go_wp2;go_meet;exact ⟨congrArg _ (by have:=HX.out;omega),I,J,HO,Z⟩
  obtain ⟨rfl,bb,ch,cf,cu⟩:=hcut;obtain ⟨wx,rfl⟩:∃ y:World,y=wc:=⟨_,rfl⟩
  clear I J HO Z z0 e0 lt cx b6 dq ez;have I:=bb;have J:=ch;have HO:=cf;have Z:=cu;clear bb ch cf cu;by_cases hm:m=0
  ·subst hm
   have HX:Hid (R= .error (3,(n:Int))):=zx (by rw[←bm.out];exact if_pos rfl);clear bm;have f0:=J.out.frozen 0;have f1:=J.out.frozen 1;have g0:wx.cell? ⟨M,0,none⟩=some (zW zX 0):=J.out.cell 0;have g1:wx.cell? ⟨M,1,none⟩=some (zW zX 0):=J.out.cell 1;have lm:=J.out.lt;clear I HO;go_wp2;have ad:=(J.out.set 0 (zW zX 3)).set 1 (zW zX n);have x0:=ad.cell 0;have x1:=ad.cell 1;refine bodyPost_ret (v:= .tuple #[zR none 0 0,.agg #[zW zX 3,zW zX n]]) (by simp[results,Tryz.results95,go_sem,x0,x1]) rfl ?_;exact ⟨by rw[HX.out];rfl,dS (dS Z.out bd.out _) bd.out _⟩
  have m0:((n:Int)+(m:Int)==(n:Int))=false:=by rw[beq_eq_false_iff_ne];omega
  by_cases h4:D.length=400
  ·have HX:Hid (R= .error (4,(n:Int))):=zx (by rw[←bm.out];exact (if_neg hm).trans (if_pos h4))
   have a0:(400:Int)≤(D.length:Int):=by omega
   clear bm h4 hm;have f0:=J.out.frozen 0;have f1:=J.out.frozen 1;have g0:wx.cell? ⟨M,0,none⟩=some (zW zX 0):=J.out.cell 0;have g1:wx.cell? ⟨M,1,none⟩=some (zW zX 0):=J.out.cell 1;have lm:=J.out.lt;clear I HO;go_wp2;have ad:=(J.out.set 0 (zW zX 4)).set 1 (zW zX n);have x0:=ad.cell 0;have x1:=ad.cell 1;refine bodyPost_ret (v:= .tuple #[zR none 0 0,.agg #[zW zX 4,zW zX n]]) (by simp[results,Tryz.results95,go_sem,x0,x1]) rfl ?_;exact ⟨by rw[HX.out];rfl,dS (dS Z.out bd.out _) bd.out _⟩
  have a0:¬(400:Int)≤(D.length:Int):=by omega
  have e9:=fun W=>jv (P:=zy) Tryz.underlying9 s n (n+m) (by omega) (by omega) W
  obtain ⟨u,hu⟩:∃ u,(s.take (n+m)).drop n=u:=⟨_,rfl⟩
  rw[hu,show ((n+m:Nat):Int)=(n:Int)+(m:Int) by omega] at e9;have HQ:Hid (cQ f (s.drop (n+m)) (n+m) (D++[⟨k,u,(n:Int)⟩])=R):=zx (by
   have ga:c::t=s.drop n:=HD.out.symm;rw[←bm.out,←hu,List.drop_take,show n+m-n=m by omega,ga,show s.drop (n+m)=(s.drop n).drop m by rw[List.drop_drop]];exact ((if_neg hm).trans (if_neg h4)).symm)
  clear hu bm;have z1:=I.out.frozen 1;have g5:wx.cell? ⟨T,1,none⟩=some (zQ ⟨#[]⟩):=I.out.cell 1;have c0:wx.cell? ⟨T,0,none⟩=some (zW zX k):=I.out.cell 0;have c2:wx.cell? ⟨T,2,none⟩=some (zW zX n):=I.out.cell 2;have lt:=I.out.lt;have c3:=zx (j8 (i:=1) HO.out a5.out (zQ (bs u)));have c8:=zx (J.out.far (p:=⟨T,1,none⟩) O.out.1 (zQ (bs u)));have en:=zx (dS (i:=1) Z.out O.out.2 (zQ (bs u)));have a4:=zx ((I.out.set 1 (zQ (bs u))).congr (cs':= #[zW zX k,zQ (bs u),zW zX n]) rfl);go_upto_region 36 with (fail)
  obtain ⟨w4,et⟩:∃ z,wx.setCell ⟨T,1,none⟩ (zQ (bs u))=z:=⟨_,rfl⟩
  rw[et] at c3 c8 en a4 ⊢;clear et z1 g5 c0 c2 lt HO J Z I e9;have c0:w4.cell? ⟨T,0,none⟩=some (zW zX k):=a4.out.cell 0;have c1:w4.cell? ⟨T,1,none⟩=some (zQ (bs u)):=a4.out.cell 1;have c2:w4.cell? ⟨T,2,none⟩=some (zW zX n):=a4.out.cell 2;have lt:=a4.out.lt;have c7:=zx (show M≤w4.heap.size+1 from Nat.le_succ_of_le (Nat.le_of_lt c8.out.lt));go_wp2_with (at_builtin;refine wpList_append_lies _ rfl _ _ 165 rfl _ 177 i0 _ 3 32 Tryz.underlying165 hi e5 f5 fu rfl (by decide) _ D.length (bY D) rfl (c3.out.alloc _) ⟨w4.heap.size,0,none⟩ 1 1 [zW zX k,zQ (bs u),zW zX n] rfl rfl (zJ (heap_alloc_new _ _)) (by simp[Value.oneCell']) (by decide) c4.out.1 c4.out.2 (by simp;exact c7.out) _ rfl ?_;intro gw hk w8 bq a8 fc f6)
  have d9:=zx ((en.out.alloc _).grown a8 (fun g hg=> .inr (zA bd.out (c3.out.lt g hg).1)));have g2:=zx (nA c8.out a8 (av c3.out) (by decide));rw[←fB] at bq;have d1:=zx bq;have a9:(D++[⟨k,u,(n:Int)⟩]:List Tk).length=D.length+1:=by simp
  have b5:=zx a9;clear bq a8 fc f6 a9 c0 c1 c2 lt c3 c8 en a4;go_wp2;go_roundw
  case rel=>exact ⟨n+m,f,D++[⟨k,u,(n:Int)⟩],by omega,by go_num,by omega,by rw[b5.out];omega,HQ,zx (by rw[b5.out];exact d1.out),g2,d9⟩
  case measure=>simp[intOf];omega
 ·obtain rfl:n=s.length:=by omega
  have HX:Hid (R= .ok (D++[⟨5,[],(s.length:Int)⟩])):=zx (by
   rw[←HR.out,List.drop_of_length_le (zz _)];cases f<;>rfl)
  have a9:(D++[⟨5,[],(s.length:Int)⟩]:List Tk).length=D.length+1:=by simp
  have b5:=zx a9;obtain ⟨q0,q1⟩:=(HE.out.quiet Z.out).fine;have lq:=zB _ _ q0;have f0:=J.out.frozen 0;have f1:=J.out.frozen 1;have g0:wr.cell? ⟨M,0,none⟩=some (zW zX 0):=J.out.cell 0;have g1:wr.cell? ⟨M,1,none⟩=some (zW zX 0):=J.out.cell 1;have lm:=J.out.lt;have eb:Hid (wr.drew.ownsRow M 177 3 (zR A D.length cv) D.length (bY D)):=zx (bh HO.out (zN [] wr).drew (fun g hg hm=>by cases hm));have gj:Hid (ap wr.drew M 47 #[zW zX 0,zW zX 0]):=zx (J.out.keep (zN [] wr).drew (by simp));have f3:Hid (aa [] w wr.drew):=zx (Z.out.trans (zN [] wr).drew);have hG:=zx (HE.out.quiet f3.out);have gs:=zx (show M≤wr.drew.heap.size+1 from c7.out);clear a9 HR;go_upto_region 38 with (fail)
  go_region_law (first|(refine step_append_lies _ (by rfl) _ _ _ (by rfl) M 177 i0 _ 3 32 Tryz.underlying165 hi e5 f5 fu rfl (by decide) (zR A D.length cv) D.length (bY D) (by rfl) (eb.out.alloc _) ⟨wr.drew.heap.size,0,none⟩ 1 1 [zW zX 5,zQ (bs []),zW zX s.length] (by rfl) rfl (zJ (heap_alloc_new _ _)) (by simp[Value.oneCell']) (by decide) c4.out.1 c4.out.2 (by simp;exact gs.out) _ rfl ?_;intro gw ha w7 ci bA hv hj;have ad:=nA gj.out bA (av eb.out) (by decide);have dB:=(f3.out.alloc _).grown bA (fun g hg=> .inr (zA bd.out (eb.out.lt g hg).1));have hS:=ad.frozen 0;have hC:=ad.frozen 1;have hJ:w7.cell? ⟨M,0,none⟩=some (zW zX 0):=ad.cell 0;have hD:w7.cell? ⟨M,1,none⟩=some (zW zX 0):=ad.cell 1;have hz:=ad.lt;have hN:=(HE.out.quiet dB).fine.1;have hH:=(HE.out.quiet dB).fine.2))
  all_goals
   go_wp2;have e4:=(ad.set 0 (zW zX 0)).set 1 (zW zX (-1));have x0:=e4.cell 0;have x1:=e4.cell 1;rw[←fB] at ci;have d1:=zx ci;have d9:=zx (dS (i:=1) (dS (i:=0) dB bd.out (zW zX 0)) bd.out (zW zX (-1)));refine bodyPost_ret (v:= .tuple #[zR (some ⟨gw,0,none⟩) (D.length+1) ha,.agg #[zW zX 0,zW zX (-1)]]) (by simp[results,Tryz.results95,go_sem,x0,x1]) rfl ?_;have g6:aa [M] w7 ((w7.setCell ⟨M,0,none⟩ (zW zX 0)).setCell ⟨M,1,none⟩ (zW zX (-1))):=((zN _ _).setCell (.inl (by simp)) _).setCell (.inl (by simp)) _;have gi:=bf (t:=47) d1.out g6 (fun x hx=>by rw[zD.1 hx];exact ad.ty) (by decide);exact ⟨by rw[HX.out];exact ⟨_,_,by rw[b5.out],by rw[b5.out];exact gi⟩,d9.out⟩
end
end Go.Proofs.YtpagiajlefejcaaGreatDoor
