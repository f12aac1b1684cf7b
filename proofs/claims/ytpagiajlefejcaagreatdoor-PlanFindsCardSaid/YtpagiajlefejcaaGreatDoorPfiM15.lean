/- The reference's body, code 8. The reference's Cols: a split. The reference's Cols, whole. -/
import Derived.Test.YtpagiajlefejcaaGreatDoorPfiM12
import Derived.Test.YtpagiajlefejcaaGreatDoorPfiM13
set_option linter.unusedSimpArgs false
set_option linter.unusedVariables false
set_option maxRecDepth 100000
set_option maxHeartbeats 16000000
namespace Go.Proofs.YtpagiajlefejcaaGreatDoor
open Go.Lib renaming hid → zx
open Go.Proofs.Tryz renaming prog → zy
open _root_.Nat renaming le_refl → zz, le_trans → zA, zero_le → zE
open Go.World renaming block_lt_of_cell? → zB, news_of_block → zJ
open _root_.List renaming length_append → zF, length_cons → zG, getElem_mem → zH, getElem?_eq_getElem → zI, length_nil → zK, getD_eq_getElem?_getD → zM
open aa renaming refl → zN
open ap renaming new → zO
open KW renaming of → zP
open Go.Value renaming string → zQ, slice → zR, pointer → zS, int → zW
open Go.Ending renaming returned → zT
open Go.Obj renaming cells → zU
open Go.IntKind renaming i64 → zX
section
open Go.RowKit Go.BigFrame
attribute [local go_sem] ag ab ae af
theorem vI {l:List Tk} {b jb lo:Nat} {v2:Value} (at_:Int) (outs:List Bs) (A:Int) (w0 w:World) (hE:RB w0 lo) (a0:lo≤b) (h:aE w b l none) (I:aa [b] w0 w) (dB:w0.heap.size≤jb) (hj:ar w w0.heap.size jb (aM at_ outs A) v2 (zR none 0 0) (zR none 0 0)) (d4:l.length≤1000000) (bo:aQ (ax l).text=8) :
  Calls zy 150 #[zS (some ⟨b,0,none⟩),zS (some ⟨jb,0,none⟩)] w fun e w'=>e=zT (.tuple #[])∧bQ (am (aM at_ outs A)) l b jb w0 w':=by
 obtain ⟨i0,hi,c7,d7,d2⟩:=info_parts eF;have bA:=zx hE;have J:=zx h;have O:=zx I;have D:Hid (ar w w0.heap.size jb (⟨at_,0,outs,[],[],[],⟨[],zV⟩,⟨[],zV⟩,A⟩:Jb) v2 (zR none 0 0) (zR none 0 0)):=zx hj;have M:=zx (hE.one a0 I);have bj:=zx dB;have f1:=zx d4;have aA:=zx (zz l.length);have cq:ru (ax l):=by obtain ⟨_,_,_,_,_,_,_,_,_,_,_,_,_,_,_,_,hh⟩:=h.open';exact hh
 have d9:=zx (fun r hr=>dr cq r hr);have dv:=zx bo;have bm:Hid (([]:List Bs).length≤100):=zx (by simp);have co:=dy cq (by rw[bo];decide);have Z:Hid (∀ i l' x',Rl (fun r=>aj r >>= fun p0=>(fun r=>aq [98,121] r >>= (fun r=>aj r >>= fun p2=>(fun r=>bC [[115,117,109],[109,97,120]] r >>= fun p3=>(fun r=>aj r >>= fun p4=>(fun r=> .ok ((⟨at_,8,outs,[]++[p0.1],[p2.1]++[p4.1],p3.1,⟨[],zV⟩,⟨[],zV⟩,A⟩:Jb),r)) p4.2) p3.2) p2.2)) p0.2) l.tail none i l' x'→Rl (am (aM at_ outs A)) l none i l' x'):=zx (fun i l' x' hq=>Rl.shift (by
  unfold am;rw[bo,if_neg (by rw[co];decide)];rfl) hq)
 have b4:(ax l).text=[103,114,111,117,112]:=aU bo (by decide);have d5:aG [103,114,111,117,112] l=true:=by
  unfold aG;rw[co,b4];rfl
 have d8:=zx d5;have c6:=zx b4;clear hE h I hj d4 dB bo cq co d5 b4;obtain ⟨mx,d0⟩:=M.out.renv.mlen;have cv:=zx (cB mx w d0);clear d0;go_enter Tryz.func150,Tryz.ntmps150
 go_wp2_with fail
 refine cv.out.mono ?_;rintro ev w1 ⟨rfl,rfl⟩;have b3:=zO w 9 (strs ai).toArray;have a8:aa [] w (w.alloc (zU (strs ai).toArray 9)):=(zN _ _).alloc _;have HP':=zx (J.out.keep a8);have HJ':=zx (D.out.keep a8);have HK':=zx (O.out.trans a8.of_nil);obtain ⟨B,hB⟩:∃ B,w.heap.size=B:=⟨_,rfl⟩
 have fg:Hid (B≠b∧jb≠B):=zx (by have:=J.out.lt;have:=D.out.blk.lt;omega);rw[hB] at b3 ⊢;obtain ⟨w1,c4⟩:∃ z,w.alloc (zU (strs ai).toArray 9)=z:=⟨_,rfl⟩
 rw[c4] at b3 HP' HJ' HK' ⊢;have a9:=zx b3;clear b3 a8 hB c4 J D O M cv;go_wp2_with fail
 go_loopw [8] (fun i wr=>∃ r:Nat,r≤9∧i=zW zX r∧Hid (aE wr b l none)∧Hid (ar wr w0.heap.size jb (⟨at_,(aO 8 r:Nat),outs,[],[],[],⟨[],zV⟩,⟨[],zV⟩,A⟩:Jb) v2 (zR none 0 0) (zR none 0 0))∧Hid (ap wr B 9 (strs ai).toArray)∧Hid (aa [b] w0 wr)) (fun i _=>9-(intOf i).toNat)
 case atStart=>exact ⟨0,zE _,rfl,HP',HJ',a9,HK'⟩
 clear HP' HJ' HK' a9;obtain ⟨r,hr,rfl,J,D,a9,O⟩:=hrel;have M:=zx (bA.out.one a0 O.out);by_cases c9:r<9
 ·have fz:(r:Int)<9:=by omega
  have ct:r<ai.length:=c9;have cu:wr.cell? ⟨B,r,none⟩=some (zQ (bs ai[r])):=by
   rw[a9.out.cell r];simp[strs,zI ct]
  have lb:=a9.out.lt;have hS:=cL ai[r] wr M.out.fine J.out;rw[d9.out r ct,dv.out] at hS;obtain ⟨wd,dq⟩:∃ wd,ai[r]=wd:=⟨_,rfl⟩
  rw[dq] at hS cu;clear dq ct;by_cases hc:(8:Nat)=r+1
  ·rw[decide_eq_true hc] at hS
   have HS:=zx hS;have ft:Hid (((r:Int)+1)=(aO 8 (r+1):Nat)):=zx (by rw[dh hc];omega);clear hS hc;go_wp2_with fail
   refine HS.out.mono ?_;rintro ev w2 ⟨ad,I⟩;have hev':ev=zT (.bool true):=ad;subst hev';have b7:=zx (J.out.keep I);have ba:=zx (D.out.keep I);have ch:=zx (a9.out.keep I (by simp));have cp:=zx (O.out.trans I.of_nil);have f0:=ba.out.blk.frozen 1;have bB:w2.cell? ⟨jb,1,none⟩=some (zW zX (aO 8 r:Nat)):=ba.out.blk.cell 1;have lj:=ba.out.blk.lt;clear ad I J D a9 O HS cu lb;have a6:aa [jb] w2 (w2.setCell ⟨jb,1,none⟩ (zW zX ((r:Int)+1))):=(zN _ _).setCell (.inl (by simp)) _;have fc:Hid (ar (w2.setCell ⟨jb,1,none⟩ (zW zX ((r:Int)+1))) w0.heap.size jb (⟨at_,(aO 8 (r+1):Nat),outs,[],[],[],⟨[],zV⟩,⟨[],zV⟩,A⟩:Jb) v2 (zR none 0 0) (zR none 0 0)):=zx (ba.out.box a6 ((ba.out.blk.set 1 (zW zX ((r:Int)+1))).congr (by rw[ft.out];rfl)) rfl rfl rfl);have er:=zx (b7.out.box ba.out a6);have fb:=zx (cp.out.box bj.out a6);have e4:=zx (ch.out.far (p:=⟨jb,1,none⟩) (fun e=>fg.out.2 e.symm) (zW zX ((r:Int)+1)));clear a6;go_wp2;go_roundw
   case rel=>exact ⟨r+1,by omega,by go_num,er,fc,e4,fb⟩
   case measure=>simp[intOf];omega
  rw[decide_eq_false hc] at hS;have HS:=zx hS;have ep:Hid (aO 8 (r+1)=aO 8 r):=zx (dF hc);clear hS hc;go_wp2_with fail
  refine HS.out.mono ?_;rintro ev w2 ⟨ad,I⟩;have hev':ev=zT (.bool false):=ad;subst hev';have b7:=zx (J.out.keep I);have ba:=zx (D.out.keep I);have ch:=zx (a9.out.keep I (by simp));have cp:=zx (O.out.trans I.of_nil);clear ad I J D a9 O HS cu lb;go_wp2;go_roundw
  case rel=>exact ⟨r+1,by omega,by go_num,b7,by rw[ep.out];exact ba,ch,cp⟩
  case measure=>simp[intOf];omega
 obtain rfl:r=9:=by omega
 have HJ':Hid (ar wr w0.heap.size jb (⟨at_,8,outs,[],[],[],⟨[],zV⟩,⟨[],zV⟩,A⟩:Jb) v2 (zR none 0 0) (zR none 0 0)):=zx D.out;clear D a9 hr c9;have D:=HJ';clear HJ';have bB:wr.cell? ⟨jb,1,none⟩=some (zW zX 8):=D.out.blk.cell 1;have lj:=D.out.blk.lt;obtain ⟨g,o,c,c0,c1,c2,-,lb,lg,-,hn,hc,et,k0,k1,k2,-⟩:=J.out.open';rw[c6.out] at k1;have fn:(0:Int)<(l.length:Int):=by omega
 have HC:=zx (aJ [103,114,111,117,112] wr M.out.fine (M.out.fne a0) J.out);go_wp2_with fail
 refine HC.out.mono ?_;rintro ev y1 ⟨rfl,⟨q1,x1,hp,hr,U⟩,I⟩;obtain ⟨rfl,rfl⟩:=cI hr d8.out;clear hr c0 c1 c2 lb lg hn hc et k0 k1 k2 fn bB lj d8 c6 d9 dv;have HJ':=zx (D.out.rd J.out I);have HK':=zx (O.out.trans I);have HE':=zx (M.out.one a0 I);have HP':=zx hp;clear D O M J I hp HC;have D:=HJ';have O:=HK';have M:=HE';have J:=HP';clear HJ' HK' HE' HP';have a4:=zx (zA U aA.out);clear U aA;have aA:=a4;clear a4;obtain ⟨q1,d3⟩:∃ q1,l.tail=q1:=⟨_,rfl⟩
 rw[d3] at J Z aA;clear d3;go_upto_region 9 with (fail)
 have fS:y1.cell? ⟨jb,3,none⟩=some (zR none 0 0)∧y1.frozen? ⟨jb,3,none⟩=false:=⟨D.out.blk.cell 3,D.out.blk.frozen 3⟩;have lj:=D.out.blk.lt;have bd:=zx (show (([]:List Bs)).length+1≤maxLen∧((([]:List Bs)).length+1)*16≤140737488355328 by have:=bm.out;simp only[maxLen,zG,zK] at *;omega);have b1:Hid (jb∉[b]):=zx (by have:=D.out.blk.ty.ne J.out.ty (by decide);simpa using this);have HC:Hid (∀ W,aa [] y1 W→Calls zy 101 #[zS (some ⟨b,0,none⟩)] W fun e w'=>∃ s l' x',e=zT (zQ (bs s))∧aE w' b l' x'∧Rl aj q1 none s l' x'∧s.length≤10∧l'.length≤q1.length∧aa [b] W w'):=zx (fun W z=>aS W (M.out.quiet z).fine (M.out.fne a0) (J.out.keep z));go_cut [] (fun wx=>∃ a2 q2 x2 b0,ar wx w0.heap.size jb (⟨at_,8,outs,[]++[a2],[],[],⟨[],zV⟩,⟨[],zV⟩,A⟩:Jb) v2 b0 (zR none 0 0)∧aE wx b q2 x2∧Rl aj q1 none a2 q2 x2∧q2.length≤q1.length∧aa [b] w0 wx)
 case first =>
  go_region_law (first|(refine step_append_lies _ (by rfl) _ _ _ (by rfl) w0.heap.size 9 i0 _ 1 16 Tryz.underlying55 hi c7 d7 d2 rfl (by decide) (zR none 0 0) (([]:List Bs)).length (strs (([]:List Bs))) (by rfl) ((D.out.rd J.out a1.undrew).o3.alloc _) ⟨w6.heap.size,0,none⟩ 1 1 [zQ (bs a2)] (by rfl) rfl (zJ (heap_alloc_new _ _)) (by simp[Value.oneCell']) (by decide) bd.out.1 bd.out.2 (by have:=O.out.size;have:=a1.size;have h9:y1.drew.heap.size=y1.heap.size:=rfl;simp;omega) _ rfl ?_;intro gw ff w7 bb a3 bq c5;obtain ⟨e9,e3⟩:=az a3 (ay ⟨bl,cf⟩ _) (fun e=>(av (D.out.rd J.out a1.undrew).o3 jb e).ne (D.out.rd J.out a1.undrew).blk.ty (by decide) rfl))|(go_simp;go_at_call 101;refine (HC.out _ (zN [] y1).drew).mono ?_;rintro e w6 ⟨a2,q2,x2,rfl,cj,cg,b6,bk,a1⟩;obtain ⟨bl,cf⟩:=aC a1 fS b1.out;have em:jb<w6.heap.size:=zB w6 ⟨jb,3,none⟩ bl))
  all_goals
   go_wp2;go_meet;have hh:=ar.app3r (D.out.rd J.out a1.undrew) cj (O.out.trans a1.undrew) rfl bj.out a3 rfl bb bq (by simp);exact ⟨a2,q2,x2,_,hh.1,hh.2.1,cg,bk,hh.2.2⟩
 obtain ⟨a2,q2,x2,b0,hj,hp,hr,U,I⟩:=hcut;obtain ⟨y2,rfl⟩:∃ y:World,y=wc:=⟨_,rfl⟩
 clear J D O M HC fS lj bd b1;have J:=zx hp;have D:=zx hj;have O:=zx I;have M:=zx (bA.out.one a0 I);clear hp hj I;have HIM':Hid (∀ i l' x',Rl (fun r=>aq [98,121] r >>= (fun r=>aj r >>= fun p2=>(fun r=>bC [[115,117,109],[109,97,120]] r >>= fun p3=>(fun r=>aj r >>= fun p4=>(fun r=> .ok ((⟨at_,8,outs,[]++[a2],[p2.1]++[p4.1],p3.1,⟨[],zV⟩,⟨[],zV⟩,A⟩:Jb),r)) p4.2) p3.2) p2.2)) q2 x2 i l' x'→Rl (am (aM at_ outs A)) l none i l' x'):=zx (fun i l' x' hq=>Z.out i l' x' (Rl.bind (Q:=fun a=>fun r=>aq [98,121] r >>= (fun r=>aj r >>= fun p2=>(fun r=>bC [[115,117,109],[109,97,120]] r >>= fun p3=>(fun r=>aj r >>= fun p4=>(fun r=> .ok ((⟨at_,8,outs,[]++[a],[p2.1]++[p4.1],p3.1,⟨[],zV⟩,⟨[],zV⟩,A⟩:Jb),r)) p4.2) p3.2) p2.2)) hr hq));clear Z hr;have Z:=HIM';clear HIM';have a4:=zx (zA U aA.out);clear U aA;have aA:=a4;clear a4;have ci:Hid (([]++[a2]).length≤101):=zx (by have:=bm.out;simp only[zF,zG,zK] at *;omega);obtain ⟨il2,eb⟩:∃ il,[]++[a2]=il:=⟨_,rfl⟩
 rw[eb] at D Z ci;clear eb bm;have bm:=ci;clear ci;have bB:y2.cell? ⟨jb,1,none⟩=some (zW zX 8):=D.out.blk.cell 1;have lj:=D.out.blk.lt;have HC:=zx (aJ [98,121] y2 M.out.fine (M.out.fne a0) J.out);go_wp2_with fail
 refine HC.out.mono ?_;rintro ev y3 ⟨rfl,⟨q3,x3,hp,hr,U⟩,I⟩;have HIM':Hid (∀ i l' x',Rl (fun r=>aj r >>= fun p2=>(fun r=>bC [[115,117,109],[109,97,120]] r >>= fun p3=>(fun r=>aj r >>= fun p4=>(fun r=> .ok ((⟨at_,8,outs,il2,[p2.1]++[p4.1],p3.1,⟨[],zV⟩,⟨[],zV⟩,A⟩:Jb),r)) p4.2) p3.2) p2.2) q3 x3 i l' x'→Rl (am (aM at_ outs A)) l none i l' x'):=zx (fun i l' x' hq=>Z.out i l' x' (Rl.must hr hq));clear Z hr;have Z:=HIM';clear HIM';have HJ':=zx (D.out.rd J.out I);have HK':=zx (O.out.trans I);have HE':=zx (M.out.one a0 I);have HP':=zx hp;clear D O M J I hp HC;have D:=HJ';have O:=HK';have M:=HE';have J:=HP';clear HJ' HK' HE' HP';have a4:=zx (zA U aA.out);clear U aA;have aA:=a4;clear a4;clear bB lj
 cases x3 with
 | some y =>
  have HD:Hid (∀ i l',Rl (am (aM at_ outs A)) l none i l' (some y)):=zx (fun i l'=>Z.out i l' _ rfl);clear Z;have HC:=zx (aN y3 M.out.fine J.out);go_wp2_with fail
  refine HC.out.mono ?_;rintro ev y4 ⟨ad,I⟩;have hev':ev=zT (.bool false):=ad;subst hev';clear ad;have HJ':=zx (D.out.keep I);have HK':=zx (O.out.trans I.of_nil);have HE':=zx (M.out.quiet I);have HP':=zx (J.out.keep I);clear D O M J I HC;have D:=HJ';have O:=HK';have M:=HE';have J:=HP';clear HJ' HK' HE' HP';have HC:=zx (aN y4 M.out.fine J.out);go_wp2_with fail
  refine HC.out.mono ?_;rintro ev y5 ⟨ad,I⟩;have hev':ev=zT (.bool false):=ad;subst hev';clear ad;have HJ':=zx (D.out.keep I);have HK':=zx (O.out.trans I.of_nil);have HE':=zx (M.out.quiet I);have HP':=zx (J.out.keep I);clear D O M J I HC;have D:=HJ';have O:=HK';have M:=HE';have J:=HP';clear HJ' HK' HE' HP';have bn:Hid (Rl (am (aM at_ outs A)) l none (⟨at_,8,outs,il2,[],[],⟨[],zV⟩,⟨[],zV⟩,A⟩:Jb) q3 (some y)):=zx (HD.out _ _);go_wp2;first|go_end0|refine bodyPost_ret (results_none rfl _ _ _) rfl ?_
  exact ⟨rfl,bQ.mk (⟨at_,8,outs,il2,[],[],⟨[],zV⟩,⟨[],zV⟩,A⟩:Jb) _ _ _ q3 (some y) D.out J.out bn.out aA.out O.out⟩
 | none =>
  have HC:=zx (aN y3 M.out.fine J.out);go_wp2_with fail
  refine HC.out.mono ?_;rintro ev y4 ⟨ad,I⟩;have hev':ev=zT (.bool true):=ad;subst hev';clear ad;have HJ':=zx (D.out.keep I);have HK':=zx (O.out.trans I.of_nil);have HE':=zx (M.out.quiet I);have HP':=zx (J.out.keep I);clear D O M J I HC;have D:=HJ';have O:=HK';have M:=HE';have J:=HP';clear HJ' HK' HE' HP';have HC:=zx (aS y4 M.out.fine (M.out.fne a0) J.out);go_wp2_with fail
  refine HC.out.mono ?_;rintro ev y5 ⟨a5,q5,x5,rfl,hp,hr,hs,U,I⟩;clear hs;have HIM':Hid (∀ i l' x',Rl (fun r=>bC [[115,117,109],[109,97,120]] r >>= fun p3=>(fun r=>aj r >>= fun p4=>(fun r=> .ok ((⟨at_,8,outs,il2,[a5]++[p4.1],p3.1,⟨[],zV⟩,⟨[],zV⟩,A⟩:Jb),r)) p4.2) p3.2) q5 x5 i l' x'→Rl (am (aM at_ outs A)) l none i l' x'):=zx (fun i l' x' hq=>Z.out i l' x' (Rl.bind (Q:=fun a=>fun r=>bC [[115,117,109],[109,97,120]] r >>= fun p3=>(fun r=>aj r >>= fun p4=>(fun r=> .ok ((⟨at_,8,outs,il2,[a]++[p4.1],p3.1,⟨[],zV⟩,⟨[],zV⟩,A⟩:Jb),r)) p4.2) p3.2) hr hq));clear Z hr;have Z:=HIM';clear HIM';have HJ':=zx (D.out.rd J.out I);have HK':=zx (O.out.trans I);have HE':=zx (M.out.one a0 I);have HP':=zx hp;clear D O M J I hp HC;have D:=HJ';have O:=HK';have M:=HE';have J:=HP';clear HJ' HK' HE' HP';have a4:=zx (zA U aA.out);clear U aA;have aA:=a4;clear a4;have es:=D.out.blk.frozen 4;have fu:y5.cell? ⟨jb,4,none⟩=some ((zR none 0 0)):=D.out.blk.cell 4;have lj:=D.out.blk.lt;have c8:(y5.alloc (zU #[zQ (bs a5)] 9)).ownsRow w0.heap.size 9 1 (zR (some ⟨y5.heap.size,0,none⟩) 1 1) [a5].length (strs [a5]):=gg (zO y5 9 #[zQ (bs a5)]) O.out.size rfl (by decide);have c3:aT (v2) (zR (some ⟨y5.heap.size,0,none⟩) 1 1):=aT.new D.out.o2 (fun g hg=>by simp[Value.ownBlock] at hg;omega);have d1:aT (b0) (zR (some ⟨y5.heap.size,0,none⟩) 1 1):=aT.new D.out.o3 (fun g hg=>by simp[Value.ownBlock] at hg;omega);have a8:aa [] y5 (y5.alloc (zU #[zQ (bs a5)] 9)):=(zN _ _).alloc _;have a6:aa [jb] (y5.alloc (zU #[zQ (bs a5)] 9)) ((y5.alloc (zU #[zQ (bs a5)] 9)).setCell ⟨jb,4,none⟩ (zR (some ⟨y5.heap.size,0,none⟩) 1 1)):=(zN _ _).setCell (.inl (by simp)) _;have hj':=(D.out.keep a8).put4 c8 c3 d1;have hp':=(J.out.keep a8).box (D.out.keep a8) a6;have hk':=aa.box (O.out.trans a8.of_nil) bj.out a6;rw[World.setCell_alloc_past (w:=y5) (zU #[zQ (bs a5)] 9) jb 4 (zR (some ⟨y5.heap.size,0,none⟩) 1 1) lj] at hj' hp' hk';have HJ':=zx hj';have HP':=zx hp';have HK':=zx hk';have HE':=zx (bA.out.one a0 hk');clear c8 c3 d1 a8 a6 hj' hp' hk'
  go_upto_region 52 with (fail)
  obtain ⟨y6,hy⟩:∃ x,((y5.setCell ⟨jb,4,none⟩ (zR (some ⟨y5.heap.size,0,none⟩) 1 1)).alloc (zU #[zQ (bs a5)] 9))=x:=⟨_,rfl⟩
  rw[hy] at HJ' HP' HK' HE' ⊢;obtain ⟨b6,b5⟩:∃ n,y5.heap.size=n:=⟨_,rfl⟩
  rw[b5] at HJ';try rw[b5]
  clear hy b5 es fu lj D J O M;have D:=HJ';have J:=HP';have O:=HK';have M:=HE';clear HJ' HP' HK' HE';obtain ⟨ez,d6⟩:∃ v,Value.slice (some ⟨b6,0,none⟩) 1 1=v:=⟨_,rfl⟩
  rw[d6] at D;clear d6;have HC:=zx (fY [115,117,109,32,109,97,120] [[115,117,109],[109,97,120]] (by decide) (by decide) (by decide) (by decide) y6 M.out.renv (M.out.fne a0) (M.out.mne a0) J.out);go_wp2_with fail
  refine HC.out.mono ?_;rintro ev y7 ⟨a7,q7,x7,rfl,hp,hr,hs,U,I⟩;clear hs;have HIM':Hid (∀ i l' x',Rl (fun r=>aj r >>= fun p4=>(fun r=> .ok ((⟨at_,8,outs,il2,[a5]++[p4.1],a7,⟨[],zV⟩,⟨[],zV⟩,A⟩:Jb),r)) p4.2) q7 x7 i l' x'→Rl (am (aM at_ outs A)) l none i l' x'):=zx (fun i l' x' hq=>Z.out i l' x' (Rl.bind (Q:=fun a=>fun r=>aj r >>= fun p4=>(fun r=> .ok ((⟨at_,8,outs,il2,[a5]++[p4.1],a,⟨[],zV⟩,⟨[],zV⟩,A⟩:Jb),r)) p4.2) hr hq));clear Z hr;have Z:=HIM';clear HIM';have HJ':=zx (D.out.rd J.out I);have HK':=zx (O.out.trans I);have HE':=zx (M.out.one a0 I);have HP':=zx hp;clear D O M J I hp HC;have D:=HJ';have O:=HK';have M:=HE';have J:=HP';clear HJ' HK' HE' HP';have a4:=zx (zA U aA.out);clear U aA;have aA:=a4;clear a4;have ek:=D.out.blk.frozen 5;have en:y7.cell? ⟨jb,5,none⟩=some (zQ (bs [])):=D.out.blk.cell 5;have lj:=D.out.blk.lt;have a6:aa [jb] y7 (y7.setCell ⟨jb,5,none⟩ (zQ (bs a7))):=(zN _ _).setCell (.inl (by simp)) _;have HJ':Hid (ar (y7.setCell ⟨jb,5,none⟩ (zQ (bs a7))) w0.heap.size jb (⟨at_,8,outs,il2,[a5],a7,⟨[],zV⟩,⟨[],zV⟩,A⟩:Jb) v2 b0 ez):=zx (D.out.box a6 ((D.out.blk.set 5 (zQ (bs a7))).congr (by rfl)) rfl rfl rfl);have HP':=zx (J.out.box D.out a6);have HK':=zx (O.out.box bj.out a6);have HE':=zx (bA.out.one a0 HK'.out);clear a6;go_upto_region 53 with (fail)
  obtain ⟨y8,hy⟩:∃ x,(y7.setCell ⟨jb,5,none⟩ (zQ (bs a7)))=x:=⟨_,rfl⟩
  rw[hy] at HJ' HP' HK' HE' ⊢;clear hy ek en lj D J O M;have D:=HJ';have J:=HP';have O:=HK';have M:=HE';clear HJ' HP' HK' HE'
  cases x7 with
  | some y =>
   have HD:Hid (∀ i l',Rl (am (aM at_ outs A)) l none i l' (some y)):=zx (fun i l'=>Z.out i l' _ rfl);clear Z;have HC:=zx (aN y8 M.out.fine J.out);go_wp2_with fail
   refine HC.out.mono ?_;rintro ev y9 ⟨ad,I⟩;have hev':ev=zT (.bool false):=ad;subst hev';clear ad;have HJ':=zx (D.out.keep I);have HK':=zx (O.out.trans I.of_nil);have HE':=zx (M.out.quiet I);have HP':=zx (J.out.keep I);clear D O M J I HC;have D:=HJ';have O:=HK';have M:=HE';have J:=HP';clear HJ' HK' HE' HP';have bn:Hid (Rl (am (aM at_ outs A)) l none (⟨at_,8,outs,il2,[a5],a7,⟨[],zV⟩,⟨[],zV⟩,A⟩:Jb) q7 (some y)):=zx (HD.out _ _);go_wp2;first|go_end0|refine bodyPost_ret (results_none rfl _ _ _) rfl ?_
   exact ⟨rfl,bQ.mk (⟨at_,8,outs,il2,[a5],a7,⟨[],zV⟩,⟨[],zV⟩,A⟩:Jb) _ _ _ q7 (some y) D.out J.out bn.out aA.out O.out⟩
  | none =>
   have HC:=zx (aN y8 M.out.fine J.out);go_wp2_with fail
   refine HC.out.mono ?_;rintro ev y9 ⟨ad,I⟩;have hev':ev=zT (.bool true):=ad;subst hev';clear ad;have HJ':=zx (D.out.keep I);have HK':=zx (O.out.trans I.of_nil);have HE':=zx (M.out.quiet I);have HP':=zx (J.out.keep I);clear D O M J I HC;have D:=HJ';have O:=HK';have M:=HE';have J:=HP';clear HJ' HK' HE' HP';go_upto_region 54 with (fail)
   obtain ⟨ds,cx,hv,-⟩:=ao D.out.o4;subst hv;have fS:y9.cell? ⟨jb,4,none⟩=some (zR ds ([a5]).length cx)∧y9.frozen? ⟨jb,4,none⟩=false:=⟨D.out.blk.cell 4,D.out.blk.frozen 4⟩;have lj:=D.out.blk.lt;have bd:=zx (show ([a5]).length+1≤maxLen∧(([a5]).length+1)*16≤140737488355328 by have:=bm.out;simp only[maxLen,zG,zK] at *;omega);have b1:Hid (jb∉[b]):=zx (by have:=D.out.blk.ty.ne J.out.ty (by decide);simpa using this);have HC:Hid (∀ W,aa [] y9 W→Calls zy 101 #[zS (some ⟨b,0,none⟩)] W fun e w'=>∃ s l' x',e=zT (zQ (bs s))∧aE w' b l' x'∧Rl aj q7 none s l' x'∧s.length≤10∧l'.length≤q7.length∧aa [b] W w'):=zx (fun W z=>aS W (M.out.quiet z).fine (M.out.fne a0) (J.out.keep z));have fv:=Z;go_region_law (first|(refine step_append_lies _ (by rfl) _ _ _ (by rfl) w0.heap.size 9 i0 _ 1 16 Tryz.underlying55 hi c7 d7 d2 rfl (by decide) (zR ds ([a5]).length cx) ([a5]).length (strs ([a5])) (by rfl) ((D.out.rd J.out a1.undrew).o4.alloc _) ⟨w6.heap.size,0,none⟩ 1 1 [zQ (bs el)] (by rfl) rfl (zJ (heap_alloc_new _ _)) (by simp[Value.oneCell']) (by decide) bd.out.1 bd.out.2 (by have:=O.out.size;have:=a1.size;have h9:y9.drew.heap.size=y9.heap.size:=rfl;simp;omega) _ rfl ?_;intro gw ff w7 bb a3 bq c5;obtain ⟨e9,e3⟩:=az a3 (ay ⟨bl,cf⟩ _) (fun e=>(av (D.out.rd J.out a1.undrew).o4 jb e).ne (D.out.rd J.out a1.undrew).blk.ty (by decide) rfl))|(go_simp;go_at_call 101;refine (HC.out _ (zN [] y9).drew).mono ?_;rintro e w6 ⟨el,e5,e0,rfl,cj,cg,b6,bk,a1⟩;obtain ⟨bl,cf⟩:=aC a1 fS b1.out;have em:jb<w6.heap.size:=zB w6 ⟨jb,4,none⟩ bl))
   all_goals
    go_wp2;first|go_end0|refine bodyPost_ret (results_none rfl _ _ _) rfl ?_
    have hh:=ar.app4r (D.out.rd J.out a1.undrew) cj (O.out.trans a1.undrew) rfl bj.out a3 rfl bb bq (by simp);exact ⟨rfl,bQ.mk _ _ _ _ e5 e0 hh.1 hh.2.1 (Z.out _ _ _ (Rl.bind (Q:=fun a=>fun r=> .ok ((⟨at_,8,outs,il2,[a5]++[a],a7,⟨[],zV⟩,⟨[],zV⟩,A⟩:Jb),r)) cg (Rl.stay (fun _=>rfl)))) (zA bk aA.out) hh.2.2⟩
end
section
open Go.RowKit Go.BigFrame
attribute [local go_sem] ag ab ae af KW.cell
theorem wl (at_ lk ln rk rn bd:Int) (cols:List Bs) (op lc lw rc a0:Bs) (Ao:Option Addr) (co:Nat) (Ai:Option Addr) (ni ci:Nat) (Ac:Option Addr) (cc:Nat) (a:List Cl) (b o ch:Nat) (A:Option Addr) (d:Nat) (w:World) (fb:uT w Ac cols op lw a0 a b o A d) :
  Calls zy 32 #[.agg #[zW zX at_,zW zX 9,zR Ao 2 co,zR Ai ni ci,zR Ac cols.length cc,zQ (bs op),zQ (bs lc),zW zX lk,zW zX ln,zQ (bs lw),zQ (bs rc),zW zX rk,zW zX rn,zQ (bs a0),zW zX bd],zR (some ⟨b,o,none⟩) 1 ch] w fun e w'=>dG (iT (g9 op lc ⟨rc,⟨rk,rn,a0⟩⟩ a) [1,7,13] [a,a]) e w'∧aa [] w w':=by
 obtain ⟨hE,hJ,ez,ek,e4,d8,ds,d1,hA,hl⟩:=fb;obtain ⟨R,hR⟩:∃ R,iT (g9 op lc ⟨rc,⟨rk,rn,a0⟩⟩ a) [1,7,13] [a,a]=R:=⟨_,rfl⟩
 rw[hR];have dv:Hid (∀ W,aa [] w W→Calls zy 78 #[.agg #[zQ (bs rc),zW zX rk,zW zX rn,zQ (bs a0)],zR A a.length d] W fun e W'=>e=zT (zW zX (bL ⟨rc,⟨rk,rn,a0⟩⟩ a))∧aa [] W W'):=zx (fun W q=>iq ⟨rc,⟨rk,rn,a0⟩⟩ a A d W (hA.keep q) (by omega) d8);have bl:Hid (∀ W,aa [] w W→Calls zy 77 #[zQ (bs op),zQ ⟨#[61,32,60,62,32,60,32,60,61,32,62,32,62,61]⟩] W fun e W'=>e=zT (.bool (decide (op∈compares)))∧aa [] W W'):=zx (fun W q=>(eS op [61,32,60,62,32,60,32,60,61,32,62,32,62,61] compares (by decide) (by decide) ek (by decide) W (hE.quiet q)).mono fun e W' ⟨h1,h2⟩=>⟨h1,h2 ▸ zN _ _⟩);have c6:=zx (fun W (q:aa [] w W)=>eO a lc A d W (hA.keep q) (by omega));obtain ⟨b0,cj⟩:∃ b,(!decide (op∈compares)||decide (lc=[]))=b:=⟨_,rfl⟩
 obtain ⟨b1,cx⟩:∃ b,decide (aw a lc=none)=b:=⟨_,rfl⟩
 obtain ⟨b2,a3⟩:∃ b:Bool,(match aw a lc with
  | none=>false
  | some k=>bL ⟨rc,⟨rk,rn,a0⟩⟩ a != (a.getD k zC).kind)=b:=⟨_,rfl⟩
 have HR:Hid (R=iT [b0,b1,b2] [1,7,13] [a,a]):=zx (by
  rw[←hR,←cj,←cx,←a3];unfold g9;cases aw a lc<;>rfl)
 obtain ⟨C,hC⟩:∃ C,aw a lc=C:=⟨_,rfl⟩
 obtain ⟨KI,el⟩:∃ K,bL ⟨rc,⟨rk,rn,a0⟩⟩ a=K:=⟨_,rfl⟩
 obtain ⟨BO,d2⟩:∃ B,decide (op∈compares)=B:=⟨_,rfl⟩
 rw[hC] at c6 cx a3;rw[el] at dv a3;rw[d2] at bl cj;have HC:=zx hC;have c5:=zx cj;have J:=zx cx;have M:=zx a3;clear hR hC el d2 cj cx a3;have HS:=zx (gA (show aF 9=(1,2) by decide));obtain ⟨y,X,HY,HX,HK,HB⟩:=ou w #[zW zX at_,zW zX 9,zR Ao 2 co,zR Ai ni ci,zR Ac cols.length cc,zQ (bs op),zQ (bs lc),zW zX lk,zW zX ln,zQ (bs lw),zQ (bs rc),zW zX rk,zW zX rn,zQ (bs a0),zW zX bd] 59;have HA:=zx hA;have HJ:=zx hJ;have e3:=zx ds;have cq:=zx hl;have HCL:=zx ez;have e9:=zx d1;clear hA hJ hE ek e4 d8 hl ez d1;go_enter Tryz.func32,Tryz.ntmps32
 go_upto_region 4 with ((with_reducible refine (HS.out _).mono ?_);rintro e w1 ⟨rfl,rfl⟩)
 rw[HX.out,HY.out];clear HX HY HS;have x4:y.cell? ⟨X,4,none⟩=some (zR Ac cols.length cc):=HB.out.cell 4;have dB:=HK.out.cell_of ds (by simp);have lX:X<y.heap.size:=HB.out.lt;have lb:b<y.heap.size:=zB _ _ dB;clear ds;go_cut [8,9] from 38 to 48 (fun u v wx=>∃ ba bn:Nat,u=zS (some ⟨ba,0,none⟩)∧v=zS (some ⟨bn,0,none⟩)∧Hid (ap wx ba 22 #[zR A a.length d])∧Hid (ap wx bn 3 #[zW zX cols.length])∧Hid (aa [] y wx))
 case first =>
  have T1:=zx (cF y 22 3 #[zR A a.length d] #[zW zX cols.length]);have T2:=zx (cF y 3 22 #[zW zX cols.length] #[zR A a.length d]);go_region
  all_goals go_wp2
  all_goals go_meet
  ·exact ⟨_,_,rfl,rfl,zx T1.out.1,zx T1.out.2.1,zx T1.out.2.2⟩
  exact ⟨_,_,rfl,rfl,zx T2.out.2.1,zx T2.out.1,zx T2.out.2.2⟩
 obtain ⟨ba,bn,rfl,rfl,b6,e5,c9⟩:=hcut;obtain ⟨y1,rfl⟩:∃ z:World,z=wc:=⟨_,rfl⟩
 clear x4 dB lX lb;have b7:=zx (HK.out.trans c9.out);have bq:=zx (HB.out.keep c9.out (by simp));clear HK HB c9;have x1:y1.cell? ⟨X,1,none⟩=some (zW zX 9):=bq.out.cell 1;have x6:y1.cell? ⟨X,6,none⟩=some (zQ (bs lc)):=bq.out.cell 6;have xd:=b7.out.cell_of e3.out (by simp);have xa:y1.cell? ⟨ba,0,none⟩=some (zR A a.length d):=b6.out.cell 0;have lX:X<y1.heap.size:=bq.out.lt;have d7:ba<y1.heap.size:=b6.out.lt;have bB:=zx (zO y1 22 #[zR A a.length d]);have c8:=zx ((zN [] y1).alloc (zU #[zR A a.length d] 22));go_upto_region 15 with (refine (c6.out _ (b7.out.trans c8.out)).mono ?_;rintro e w5 ⟨rfl,dq⟩)
 obtain ⟨bo,c7⟩:∃ z,y1.heap.size=z:=⟨_,rfl⟩
 rw[c7] at bB ⊢;have d9:Hid (w.heap.size≤bo):=zx (c7 ▸ b7.out.size);have eb:=zx (c8.out.trans dq);have bA:=zx (bB.out.keep dq (by simp));clear x1 x6 xd xa lX d7 bB c8 dq c7;have bm:=zx (zO w5 34 #[zW zX 1,zW zX 7,zW zX 13]);have a6:=zx ((zN [] w5).alloc (zU #[zW zX 1,zW zX 7,zW zX 13] 34));go_upto_region 16 with (fail)
 obtain ⟨y2,cg⟩:∃ z,w5.alloc (zU #[zW zX 1,zW zX 7,zW zX 13] 34)=z:=⟨_,rfl⟩
 obtain ⟨be,et⟩:∃ z,w5.heap.size=z:=⟨_,rfl⟩
 rw[cg,et] at bm;rw[cg] at a6;rw[cg,et];have a5:=zx (eb.out.trans a6.out);have b5:be≠bo:=by
  have:=bA.out.lt;omega
 have a8:=zx (b7.out.trans a5.out);have d5:=zx (bq.out.keep a5.out (by simp));have a7:=zx (b6.out.keep a5.out (by simp));have c1:=zx (bA.out.keep a6.out (by simp));clear cg a5 a6 bA eb bq b6 e5 c6;go_cut [15] from 63 to 93 (fun u wx=>u=zW zX (aI (jp [b0,b1,b2]))∧Hid (aa [] y2 wx))
 case first =>
  obtain ⟨-,-,-,-,-,x5,x6,-,-,-,fu,f0,fn,fz,-,lX⟩:=nF d5.out;have xa:y2.cell? ⟨ba,0,none⟩=some (zR A a.length d):=a7.out.cell 0;have d7:ba<y2.heap.size:=a7.out.lt;have G1:=zx (fun W (z:aa [] y2 W)=>bl.out W (a8.out.trans z));have G2:=zx (fun W (z:aa [] y2 W)=>dv.out W (a8.out.trans z));clear bl dv d5 a7 c1 bm;have e0:(BO=false∧b0=true)∨(BO=true∧lc=[]∧b0=true)∨(BO=true∧∃ c0 t0,lc=c0::t0∧b0=false):=by
   have h:=c5.out
   cases BO with
   | false=>exact .inl ⟨rfl,h.symm.trans rfl⟩
   | true =>
    cases lc with
    | nil=>exact .inr (.inl ⟨rfl,rfl,h.symm.trans rfl⟩)
    | cons c0 t0=>exact .inr (.inr ⟨rfl,c0,t0,rfl,h.symm.trans (by rw[decide_eq_false (by simp)];rfl)⟩)
  clear c5 HR;rcases e0 with ⟨rfl,rfl⟩|⟨rfl,rfl,rfl⟩|⟨rfl,c0,t0,rfl,rfl⟩
  ·cases C with
   | none =>
    obtain rfl:b1=true:=J.out.symm.trans rfl;obtain rfl:b2=false:=M.out.symm;clear J M;simp only[aI];refine cP 28 (by kernel_rfl) (by kernel_rfl) rfl ?_;simp only[List.take_succ_cons,List.take_zero,List.drop_succ_cons,List.drop_zero];repeat (go_big_quiet_step (first|with_reducible exact zP G1.out _|with_reducible exact zP G2.out _))
    refine wpQuiet_nil ?_;intro U I;have Z:=zx (ed U [true,true,false] (by simp));have aA:=zx I;refine ⟨zR (some ⟨U.heap.size,0,none⟩) 3 3,U.alloc (zU #[.bool true,.bool true,.bool false] 4),by go_simp,I.alloc _,?_⟩;go_wp2_with (refine Z.out.mono ?_;rintro e w9 ⟨rfl,O⟩)
    go_meet;exact ⟨rfl,zx ((aA.out.alloc _).trans O)⟩
   | some k =>
    obtain rfl:b1=false:=J.out.symm.trans rfl;have a4:k<a.length:=(List.findIdx?_eq_some_iff_getElem.1 HC.out).1;have a1:a.getD k zC=a[k]:=by rw[zM,zI a4];rfl
    have a3:(KI != a[k].kind)=b2:=by rw[←a1];exact M.out
    have hl:=cq.out;obtain ⟨b4,o4,a9,_,es,a2⟩:=(HA.out.keep a8.out).open' (by omega) (by omega);subst a9;have ka:=a2 (k*2+1) _ (al a k a4).2;rw[←Nat.add_assoc] at ka;have en:(0:Int)≤(k:Int):=by omega
    have d3:(k:Int)<(a.length:Int):=by omega
    have d6:((k:Int)<0)=False:=eq_false (by omega);have d0:max (k:Int) 0=(k:Int):=by omega
    have em:b4<y2.heap.size:=zB _ _ ka;clear J M a1 a2 hl;generalize a[k].kind=KA at *;simp only[aI];refine cP 28 (by kernel_rfl) (by kernel_rfl) rfl ?_;simp only[List.take_succ_cons,List.take_zero,List.drop_succ_cons,List.drop_zero];repeat (go_big_quiet_step (first|with_reducible exact zP G1.out _|with_reducible exact zP G2.out _))
    refine wpQuiet_nil ?_;intro U I;have Z:=zx (ed U [true,false,b2] (by simp));have aA:=zx I;refine ⟨zR (some ⟨U.heap.size,0,none⟩) 3 3,U.alloc (zU #[.bool true,.bool false,.bool b2] 4),by go_simp,I.alloc _,?_⟩;go_wp2_with (refine Z.out.mono ?_;rintro e w9 ⟨rfl,O⟩)
    go_meet;exact ⟨rfl,zx ((aA.out.alloc _).trans O)⟩
  ·cases C with
   | none =>
    obtain rfl:b1=true:=J.out.symm.trans rfl;obtain rfl:b2=false:=M.out.symm;clear J M;simp only[aI];refine cP 28 (by kernel_rfl) (by kernel_rfl) rfl ?_;simp only[List.take_succ_cons,List.take_zero,List.drop_succ_cons,List.drop_zero];repeat (go_big_quiet_step (first|with_reducible exact zP G1.out _|with_reducible exact zP G2.out _))
    refine wpQuiet_nil ?_;intro U I;have Z:=zx (ed U [true,true,false] (by simp));have aA:=zx I;refine ⟨zR (some ⟨U.heap.size,0,none⟩) 3 3,U.alloc (zU #[.bool true,.bool true,.bool false] 4),by go_simp,I.alloc _,?_⟩;go_wp2_with (refine Z.out.mono ?_;rintro e w9 ⟨rfl,O⟩)
    go_meet;exact ⟨rfl,zx ((aA.out.alloc _).trans O)⟩
   | some k =>
    obtain rfl:b1=false:=J.out.symm.trans rfl;have a4:k<a.length:=(List.findIdx?_eq_some_iff_getElem.1 HC.out).1;have a1:a.getD k zC=a[k]:=by rw[zM,zI a4];rfl
    have a3:(KI != a[k].kind)=b2:=by rw[←a1];exact M.out
    have hl:=cq.out;obtain ⟨b4,o4,a9,_,es,a2⟩:=(HA.out.keep a8.out).open' (by omega) (by omega);subst a9;have ka:=a2 (k*2+1) _ (al a k a4).2;rw[←Nat.add_assoc] at ka;have en:(0:Int)≤(k:Int):=by omega
    have d3:(k:Int)<(a.length:Int):=by omega
    have d6:((k:Int)<0)=False:=eq_false (by omega);have d0:max (k:Int) 0=(k:Int):=by omega
    have em:b4<y2.heap.size:=zB _ _ ka;clear J M a1 a2 hl;generalize a[k].kind=KA at *;simp only[aI];refine cP 28 (by kernel_rfl) (by kernel_rfl) rfl ?_;simp only[List.take_succ_cons,List.take_zero,List.drop_succ_cons,List.drop_zero];repeat (go_big_quiet_step (first|with_reducible exact zP G1.out _|with_reducible exact zP G2.out _))
    refine wpQuiet_nil ?_;intro U I;have Z:=zx (ed U [true,false,b2] (by simp));have aA:=zx I;refine ⟨zR (some ⟨U.heap.size,0,none⟩) 3 3,U.alloc (zU #[.bool true,.bool false,.bool b2] 4),by go_simp,I.alloc _,?_⟩;go_wp2_with (refine Z.out.mono ?_;rintro e w9 ⟨rfl,O⟩)
    go_meet;exact ⟨rfl,zx ((aA.out.alloc _).trans O)⟩
  cases C with
  | none =>
   obtain rfl:b1=true:=J.out.symm.trans rfl;obtain rfl:b2=false:=M.out.symm;clear J M;simp only[aI];refine cP 28 (by kernel_rfl) (by kernel_rfl) rfl ?_;simp only[List.take_succ_cons,List.take_zero,List.drop_succ_cons,List.drop_zero];repeat (go_big_quiet_step (first|with_reducible exact zP G1.out _|with_reducible exact zP G2.out _))
   refine wpQuiet_nil ?_;intro U I;have Z:=zx (ed U [false,true,false] (by simp));have aA:=zx I;refine ⟨zR (some ⟨U.heap.size,0,none⟩) 3 3,U.alloc (zU #[.bool false,.bool true,.bool false] 4),by go_simp,I.alloc _,?_⟩;go_wp2_with (refine Z.out.mono ?_;rintro e w9 ⟨rfl,O⟩)
   go_meet;exact ⟨rfl,zx ((aA.out.alloc _).trans O)⟩
  | some k =>
   obtain rfl:b1=false:=J.out.symm.trans rfl;have a4:k<a.length:=(List.findIdx?_eq_some_iff_getElem.1 HC.out).1;have a1:a.getD k zC=a[k]:=by rw[zM,zI a4];rfl
   have a3:(KI != a[k].kind)=b2:=by rw[←a1];exact M.out
   have hl:=cq.out;obtain ⟨b4,o4,a9,_,es,a2⟩:=(HA.out.keep a8.out).open' (by omega) (by omega);subst a9;have ka:=a2 (k*2+1) _ (al a k a4).2;rw[←Nat.add_assoc] at ka;have en:(0:Int)≤(k:Int):=by omega
   have d3:(k:Int)<(a.length:Int):=by omega
   have d6:((k:Int)<0)=False:=eq_false (by omega);have d0:max (k:Int) 0=(k:Int):=by omega
   have em:b4<y2.heap.size:=zB _ _ ka;clear J M a1 a2 hl;generalize a[k].kind=KA at *;simp only[aI];refine cP 28 (by kernel_rfl) (by kernel_rfl) rfl ?_;simp only[List.take_succ_cons,List.take_zero,List.drop_succ_cons,List.drop_zero];repeat (go_big_quiet_step (first|with_reducible exact zP G1.out _|with_reducible exact zP G2.out _))
   refine wpQuiet_nil ?_;intro U I;have Z:=zx (ed U [false,false,b2] (by simp));have aA:=zx I;refine ⟨zR (some ⟨U.heap.size,0,none⟩) 3 3,U.alloc (zU #[.bool false,.bool false,.bool b2] 4),by go_simp,I.alloc _,?_⟩;go_wp2_with (refine Z.out.mono ?_;rintro e w9 ⟨rfl,O⟩)
   go_meet;exact ⟨rfl,zx ((aA.out.alloc _).trans O)⟩
 obtain ⟨rfl,cu⟩:=hcut;obtain ⟨y3,rfl⟩:∃ z:World,z=wc:=⟨_,rfl⟩
 generalize aI C=oc;clear c5 J M HC cq HCL;have bk:=zx (a8.out.trans cu.out);have er:=zx (c1.out.keep cu.out (by simp));have bj:=zx (bm.out.keep cu.out (by simp));obtain ⟨ir,d4,c2,c4,c3⟩:=info_parts yk;have f1:w.heap.size≤y3.heap.size:=bk.out.size;have cv:=zx (vU er.out d9.out);have fv:y3.cell? ⟨ba,0,none⟩=some (zR A a.length d):=(a7.out.keep cu.out (by simp)).cell 0
 cases hV:jp [b0,b1,b2] with
 | none =>
  have HF:Hid (R= .ok [a,a]):=zx (by rw[HR.out];unfold iT;rw[hV]);clear hV;simp only[aI];go_wp2;refine wp_loop_rounds 2 ?_;rw[rounds_succ];go_wp2_with (at_builtin;refine wpList_append_lies _ rfl _ _ 62 rfl w.heap.size 22 ir _ 1 24 Tryz.underlying62 d4 c2 c4 c3 rfl (by decide) _ 1 [zR A a.length d] rfl (cv.out.alloc _) ⟨y3.heap.size,0,none⟩ 1 1 [zR A a.length d] rfl rfl (zJ (heap_alloc_new _ _)) (by simp[Value.oneCell']) (by decide) (by decide) (by decide) (by simp;omega) _ rfl ?_;intro gw ep w8 ad D bb b3)
  have cp:=zx ((bk.out.alloc (zU #[zR A a.length d] 22)).grown D (fun g hg=> .inr (cv.out.lt g hg).1));have ct:=zx (nE ad);have cf:=zx (((zN [bo] y3).alloc (zU #[zR A a.length d] 22)).grown D (fun g hg=> .inl (by
   have:=Option.some.inj (show (some bo:Option Nat)=some g from hg);simp[this])):aa [bo] y3 w8)
  clear ad D bb b3;go_wp2;rw[rounds_succ];go_wp2;go_ret2
  exact ⟨by rw[HF.out];exact ⟨_,_,rfl,ct.out.1,ej (n:=2) (HA.out.keep cp.out) e9.out (fun j hj=>by match j,hj with
   | 0,_=>exact ct.out.2.1
   | 1,_=>exact ct.out.2.2)⟩,cp.out⟩
 | some i =>
  have hi:i<3:=n6 hV;have HF:Hid (R= .error ([1,7,13].getD i 0)):=zx (by rw[HR.out];unfold iT;rw[hV]);clear hV;simp only[aI];have fS:(0:Int)≤(i:Int):=by omega
  have fg:(i:Int)<3:=by omega
  have ff:((i:Int)<0)=False:=eq_false (by omega);go_wp2;refine wp_loop_rounds 2 ?_;rw[rounds_succ];go_wp2_with (at_builtin;refine wpList_append_lies _ rfl _ _ 62 rfl w.heap.size 22 ir _ 1 24 Tryz.underlying62 d4 c2 c4 c3 rfl (by decide) _ 1 [zR A a.length d] rfl (cv.out.alloc _) ⟨y3.heap.size,0,none⟩ 1 1 [zR A a.length d] rfl rfl (zJ (heap_alloc_new _ _)) (by simp[Value.oneCell']) (by decide) (by decide) (by decide) (by simp;omega) _ rfl ?_;intro gw ep w8 ad D bb b3)
  have cp:=zx ((bk.out.alloc (zU #[zR A a.length d] 22)).grown D (fun g hg=> .inr (cv.out.lt g hg).1));have ct:=zx (nE ad);have cf:=zx (((zN [bo] y3).alloc (zU #[zR A a.length d] 22)).grown D (fun g hg=> .inl (by
   have:=Option.some.inj (show (some bo:Option Nat)=some g from hg);simp[this])):aa [bo] y3 w8)
  clear ad D bb b3;go_wp2;rw[rounds_succ];go_upto_region 36 with (fail)
  have HE:Hid (∃ e,w8.cell? ⟨be,i,none⟩=some (zW zX e)∧R= .error e):=zx (by
   rw[HF.out]
   match i,hi with
   | 0,_=>exact ⟨_,(cf.out.cell_of (bj.out.cell 0) (by simpa using b5)),rfl⟩
   | 1,_=>exact ⟨_,(cf.out.cell_of (bj.out.cell 1) (by simpa using b5)),rfl⟩
   | 2,_=>exact ⟨_,(cf.out.cell_of (bj.out.cell 2) (by simpa using b5)),rfl⟩)
  obtain ⟨ev,he,_⟩:=HE.out;have fc:Hid (R= .error ev):=zx (by
   obtain ⟨e2,h1,h2⟩:=HE.out;rw[he] at h1;cases h1
   exact h2)
  have ft:be<w8.heap.size:=zB _ _ he;clear HE;refine aB (by kernel_rfl) (by kernel_rfl) ?_;repeat (go_big_quiet_step (fail))
  refine wpQuiet_nil ?_;intro w9 O;go_wp2;go_ret2;exact ⟨by rw[fc.out];rfl,cp.out.trans O⟩
theorem sN (at_ code O ln rk rn h:Int) (outs cols:List Bs) (op J lw rc B:Bs) (Ao:Option Addr) (co:Nat) (U:Option Addr) (ni ci:Nat) (Ac:Option Addr) (cc:Nat) (n:Nat) (AH:Option Addr) (ch:Nat) (w:World) (A:(aF code).1=0∨n≠(aF code).1∨outs.length≠(aF code).2) :
  Calls zy 32 #[.agg #[zW zX at_,zW zX code,zR Ao outs.length co,zR U ni ci,zR Ac cols.length cc,zQ (bs op),zQ (bs J),zW zX O,zW zX ln,zQ (bs lw),zQ (bs rc),zW zX rk,zW zX rn,zQ (bs B),zW zX h],zR AH n ch] w fun e w'=>dG (.error 1) e w'∧aa [] w w':=by
 have HS:=zx (fun W=>lP code W);obtain ⟨T,hT⟩:∃ T,(aF code).1=T:=⟨_,rfl⟩
 obtain ⟨M,Z⟩:∃ M,(aF code).2=M:=⟨_,rfl⟩
 rw[hT,Z] at HS A;clear hT Z;have I:=zx ((zN [] w).alloc (zU #[zW zX at_,zW zX code,zR Ao outs.length co,zR U ni ci,zR Ac cols.length cc,zQ (bs op),zQ (bs J),zW zX O,zW zX ln,zQ (bs lw),zQ (bs rc),zW zX rk,zW zX rn,zQ (bs B),zW zX h] 59));have D:(((T:Int)==0)=true)∨(((T:Int)==0)=false∧((n:Int) != (T:Int))=true)∨(((T:Int)==0)=false∧((n:Int) != (T:Int))=false∧((outs.length:Int) != (M:Int))=true):=by
  by_cases h1:T=0
  ·exact .inl (by rw[h1];rfl)
  have e1:((T:Int)==0)=false:=by rw[beq_eq_false_iff_ne];omega
  by_cases h2:n=T
  ·have e2:((n:Int) != (T:Int))=false:=by rw[h2];simp
   refine .inr (.inr ⟨e1,e2,?_⟩);rw[bne_iff_ne];omega
  exact .inr (.inl ⟨e1,by rw[bne_iff_ne];omega⟩)
 generalize outs.length=m at *;clear A;rcases D with t1|⟨t1,t2⟩|⟨t1,t2,t3⟩
 all_goals
  go_enter Tryz.func32,Tryz.ntmps32
  go_wp2_with ((with_reducible refine (HS.out _).mono ?_);rintro e w1 ⟨rfl,rfl⟩)
  go_ret2;exact ⟨rfl,I.out⟩
theorem sO (j:Jb) (Z:Option Addr) (U:Nat) (Ai:Option Addr) (ni ci:Nat) (O:Option Addr) (cc:Nat) (ins:List (List Cl)) (AH:Option Addr) (ch:Nat) (w:World) (hE:gH w) (hJ:fd w j Z U O cc) (hH:aW w AH ins) (bb:∀ l∈ins,l.length≤4294967) (a5:j.op.length≤1000000) (ba:j.left.val.word.length≤1000000000) (a4:j.right.val.word.length≤1000000000) (a9:j.code=7→((ins.getD 0 []).map (·.name)).Nodup) :
  Calls zy 32 #[gG j Z U Ai ni ci O cc,zR AH ins.length ch] w fun e w'=>dG (cA j ins) e w'∧aa [] w w':=by
 have a0:∀ k,(ins.getD k []).length≤4294967:=fun k=>by
  by_cases hk:k<ins.length
  ·rw[zM,zI hk]
   exact bb _ (zH hk)
  rw[zM,List.getElem?_eq_none (by omega)];simp
 have a1:=sd j (ins.getD 0 []);have a6:=se j (ins.getD 0 []);have a8:=sf j (ins.getD 0 []);obtain ⟨at_,code,outs,js,cols,op,⟨lc,lk,ln,lw⟩,⟨rc,rk,rn,I⟩,D⟩:=j;simp only at a5 ba a4 a9 a1 a6 a8;unfold cA;simp only;by_cases J:(aF code).1=0∨ins.length≠(aF code).1∨outs.length≠(aF code).2
 ·rw[if_pos J]
  exact sN at_ code lk ln rk rn D outs cols op lc lw rc I Z U Ai ni ci O cc ins.length AH ch w J
 rw[if_neg J];have hi:ins.length=(aF code).1:=Decidable.byContradiction fun h=>J (.inr (.inl h))
 have ho:outs.length=(aF code).2:=Decidable.byContradiction fun h=>J (.inr (.inr h))
 have h0:(aF code).1≠0:=fun h=>J (.inl h)
 clear J;have aA:code=1∨code=2∨code=3∨code=4∨code=5∨code=6∨code=7∨code=8∨code=9:=by
  unfold aF at h0;split at h0
  ·omega
  split at h0
  ·omega
  split at h0
  ·omega
  exact absurd rfl h0
 have ad:ins.length≤4294967296:=by
  rcases aA with rfl|rfl|rfl|rfl|rfl|rfl|rfl|rfl|rfl<;>rw[hi]<;>decide
 obtain ⟨b,o,A,d,rfl,hb,bj,hd,hA⟩:=hH.first (by omega) ad;have bd:=a0 0;have M:uT w O cols op lw I (ins.getD 0 []) b o A d:=⟨hE,hJ.cols,hJ.lc,a5,ba,a4,bj,hd,hA,bd⟩;have a7:=a0 1;show Calls _ _ #[.agg #[zW zX at_,zW zX code,zR Z outs.length U,zR Ai ni ci,zR O cols.length cc,zQ (bs op),zQ (bs lc),zW zX lk,zW zX ln,zQ (bs lw),zQ (bs rc),zW zX rk,zW zX rn,zQ (bs I),zW zX D],zR (some ⟨b,o,none⟩) ins.length ch] w _;rcases aA with rfl|rfl|rfl|rfl|rfl|rfl|rfl|rfl|rfl
 ·have hi':ins.length=1:=hi.trans (by decide)
  have ho':outs.length=1:=ho.trans (by decide);rw[if_pos (by decide)];rw[a1,hi',ho'];exact vW at_ lk ln rk rn D cols op lc lw rc I Z U Ai ni ci O cc (ins.getD 0 []) b o ch A d w M
 ·have hi':ins.length=1:=hi.trans (by decide)
  have ho':outs.length=1:=ho.trans (by decide);rw[if_neg (by decide),if_pos (by decide)];rw[a6,hi',ho'];exact vX at_ lk ln rk rn D cols op lc lw rc I Z U Ai ni ci O cc (ins.getD 0 []) b o ch A d w M
 ·have hi':ins.length=1:=hi.trans (by decide)
  have ho':outs.length=1:=ho.trans (by decide);rw[if_neg (by decide),if_neg (by decide),if_pos (by decide)];have hf:=vY at_ lk ln rk rn D cols op lc lw rc I Z U Ai ni ci O cc (ins.getD 0 []) b o ch A d w M outs js hJ ho';rw[hi',ho'];exact hf
 ·have hi':ins.length=1:=hi.trans (by decide)
  have ho':outs.length=1:=ho.trans (by decide);rw[if_neg (by decide),if_neg (by decide),if_pos (by decide)];have hf:=vZ at_ lk ln rk rn D cols op lc lw rc I Z U Ai ni ci O cc (ins.getD 0 []) b o ch A d w M outs js hJ ho';rw[hi',ho'];exact hf
 ·have hi':ins.length=2:=hi.trans (by decide)
  have ho':outs.length=1:=ho.trans (by decide);rw[if_neg (by decide),if_neg (by decide),if_neg (by decide),if_pos (by decide)];obtain ⟨B,d2,a2,a3,hB⟩:=hH.second (by omega) ad;have hf:=we at_ lk ln rk rn D cols op lc lw rc I Z U Ai ni ci O cc (ins.getD 0 []) b o ch A d w M (ins.getD 1 []) B d2 a2 a3 hB a7;have he:(if ins.getD 0 []≠ins.getD 1 [] then Except.error 13 else .ok [ins.getD 0 []]:Except Int (List (List Cl)))=iT [!decide (ins.getD 0 []=ins.getD 1 [])] [13] [ins.getD 0 []]:=by
   by_cases h:ins.getD 0 []=ins.getD 1 []
   ·rw[if_neg (fun hh=>hh h),decide_eq_true h]
    rfl
   rw[if_pos h,decide_eq_false h];rfl
  rw[he,hi',ho'];exact hf
 ·have hi':ins.length=1:=hi.trans (by decide)
  have ho':outs.length=1:=ho.trans (by decide);rw[if_neg (by decide),if_neg (by decide),if_neg (by decide),if_neg (by decide),if_neg (by decide),if_neg (by decide)];rw[hi',ho'];exact wh at_ lk ln rk rn D cols op lc lw rc I Z U Ai ni ci O cc (ins.getD 0 []) b o ch A d w M
 ·have hi':ins.length=2:=hi.trans (by decide)
  have ho':outs.length=1:=ho.trans (by decide);rw[if_neg (by decide),if_neg (by decide),if_neg (by decide),if_neg (by decide),if_pos (by decide)];obtain ⟨B,d2,a2,a3,hB⟩:=hH.second (by omega) ad;have hf:=wi at_ lk ln rk rn D cols op lc lw rc I Z U Ai ni ci O cc (ins.getD 0 []) b o ch A d w M outs js hJ ho' (ins.getD 1 []) B d2 a2 a3 hB a7 (a9 rfl);rw[hi',ho'];exact hf
 ·have hi':ins.length=1:=hi.trans (by decide)
  have ho':outs.length=1:=ho.trans (by decide);rw[if_neg (by decide),if_neg (by decide),if_neg (by decide),if_neg (by decide),if_neg (by decide),if_pos (by decide)];rw[a8,hi',ho'];exact wk at_ lk ln rk rn D cols op lc lw rc I Z U Ai ni ci O cc (ins.getD 0 []) b o ch A d w M
 have hi':ins.length=1:=hi.trans (by decide);have ho':outs.length=2:=ho.trans (by decide);rw[if_pos (by decide)];rw[a1,hi',ho'];exact wl at_ lk ln rk rn D cols op lc lw rc I Z U Ai ni ci O cc (ins.getD 0 []) b o ch A d w M
end
end Go.Proofs.YtpagiajlefejcaaGreatDoor
