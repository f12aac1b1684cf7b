/- The parser's body. The parser's job. Flows in memory. Slices of whatever elements in memory: one of them. Flows in memory, as what only reads them sees them. slices.IndexFunc and ContainsFunc over inputs and over jobs, with a predicate that is handed in by its contract. plan.maker and plan.Ready. plan.Order. plan.names. What each part of the parser leaves: plain. The parser's flow. -/
import Derived.Test.YtecpeogejjibaaaGreatDoorEmoM7
import Derived.Test.YtecpeogejjibaaaGreatDoorEmoM9
import Derived.Test.YtecpeogejjibaaaGreatDoorEmoM10
import Derived.Test.YtecpeogejjibaaaGreatDoorEmoM8
import Derived.Test.YtecpeogejjibaaaGreatDoorEmoM4
import Derived.Test.YtecpeogejjibaaaGreatDoorEmoM1
import Derived.Deep.CutBlock
import Derived.Test.YtecpeogejjibaaaGreatDoorEmoM3
set_option linter.unusedSimpArgs false
set_option linter.unusedVariables false
set_option maxRecDepth 100000
set_option maxHeartbeats 16000000
namespace Go.Proofs.YtecpeogejjibaaaGreatDoor
open Go.Lib renaming hid → Fx
open _root_.Nat renaming le_refl → Fy, le_trans → FD, zero_le → FF
open _root_.List renaming length_append → Fz, getElem_mem → FE, length_cons → FG
open Go.World renaming block_lt_of_cell? → FC, news_of_block → FI
open aa renaming refl → FK
open ao renaming new → FL
open Go.Value renaming string → FM, slice → FN, pointer → FO, int → FR
open Go.Ending renaming returned → FP
open Go.Obj renaming cells → FQ
open Go.IntKind renaming i64 → FS
section
open Go.RowKit Go.BigFrame
attribute [local go_sem] ag ab ae af
theorem zN {l:List Tk} {b jb lo:Nat} {v2 v3 v4:Value} (I code:Int) (outs ins cols:List Bs) (op:Bs) (left right:Ar) (D:Int) (w0 w:World) (hE:FB w0 lo) (J:lo≤b) (h:Ps w b l) (hk:aa [b] w0 w) (U:w0.heap.size≤jb) (hj:aV w w0.heap.size jb ⟨I,code,outs,ins,cols,op,left,right,D⟩ v2 v3 v4) (O:ins.length≤1000) (N:cols.length≤1000) (M:l.length≤1000000) :
  Calls Tryz.prog 122 #[FO (some ⟨b,0,none⟩),FO (some ⟨jb,0,none⟩)] w fun e w'=>gb (bH ⟨I,code,outs,ins,cols,op,left,right,D⟩ l) b w0.heap.size jb e w'∧aa [b] w0 w':=by
 have ad:=qg (aS l).text;by_cases Z:(aS l).kind=1
 ·obtain ⟨c,hc⟩:∃ c,bV (aS l).text=c:=⟨_,rfl⟩
  rw[hc] at ad;rcases c with _|_|_|_|_|_|_|_|_|_|c
  ·exact qh I code outs ins cols op left right D w0 w hE J h hk U hj O N M hc
  ·exact Ds I code outs ins cols op left right D w0 w hE J h hk U hj O N M hc Z
  ·exact Dv I code outs ins cols op left right D w0 w hE J h hk U hj O N M hc Z
  ·exact Dw I code outs ins cols op left right D w0 w hE J h hk U hj O N M hc Z
  ·exact Dx I code outs ins cols op left right D w0 w hE J h hk U hj O N M hc Z
  ·exact Dr I code outs ins cols op left right D w0 w hE J h hk U hj O N M hc Z
  ·exact Du I code outs ins cols op left right D w0 w hE J h hk U hj O N M hc Z
  ·exact Dq I code outs ins cols op left right D w0 w hE J h hk U hj O N M hc Z
  ·exact Dy I code outs ins cols op left right D w0 w hE J h hk U hj O N M hc Z
  ·exact Dt I code outs ins cols op left right D w0 w hE J h hk U hj O N M hc Z
  omega
 by_cases h0:bV (aS l).text=0
 ·exact qh I code outs ins cols op left right D w0 w hE J h hk U hj O N M h0
 exact xF I code outs ins cols op left right D w0 w hE J h hk U hj O N M rfl h0 Z
theorem nT:∀ (n:Nat) {l r:List Tk} {acc ns:List Bs},dW n l acc= .ok (ns,r)→r.length≤l.length
 | 0,l,r,acc,ns,h=>by
  injection h with h;injection h with _ h;rw[h];exact Fy _
 | n+1,l,r,acc,ns,h=>by
  unfold dW at h;split at h
  ·rcases D:aQ l.tail with x|⟨s,J⟩
   ·rw[D] at h;cases h
   rw[D,aq] at h;have:=nT n h;have I:=az D;rw[List.length_tail] at I;omega
  injection h with h;injection h with _ h;rw[h];exact Fy _
theorem lR {l r:List Tk} {ns:List Bs} (h:fk l= .ok (ns,r)):r.length≤l.length:=by
 unfold fk at h;rcases D:aQ l with x|⟨s,I⟩
 ·rw[D] at h;cases h
 rw[D,aq] at h;have:=nT _ h;have J:=az D;omega
structure zO (W:World) (base:Nat) (j:Jb) (v2 v3 v4:Value):Prop where
 o2:W.ownsRow base 9 1 v2 j.outs.length (strs j.outs)
 o3:W.ownsRow base 9 1 v3 j.ins.length (strs j.ins)
 o4:W.ownsRow base 9 1 v4 j.cols.length (strs j.cols)
def zP (R:Except (Int×Int) (Jb×List Tk)) (b base:Nat) (e:Ending) (w':World):Prop:=match R with
 | .ok (j,r)=>∃ I h D,e=FP (.agg (bK j I h D))∧zO w' base j I h D∧Ps w' b r
 | .error x=>bW x e w'
theorem wk {l:List Tk} {b lo:Nat} (w:World) (hE:FB w lo) (b1:lo≤b) (h:Ps w b l) (c9:l.length≤1000000) :
  Calls Tryz.prog 78 #[FO (some ⟨b,0,none⟩)] w fun e w'=>zP (kV l) b w.heap.size e w'∧aa [b] w w':=by
 obtain ⟨R,hR⟩:∃ R,kV l=R:=⟨_,rfl⟩
 rw[hR];unfold kV at hR;obtain ⟨ad,c1⟩:∃ ad,(aS l).at_=ad:=⟨_,rfl⟩
 rw[c1] at hR;have HR:=Fx hR;have c7:=Fx c9;have av:=Fx (Fy l.length);have dv:=Fx (Fy w.heap.size);have b3:=FL w 50 #[FR FS 0,FR FS 0,FN none 0 0,FN none 0 0,FN none 0 0,FM ⟨#[]⟩,FM ⟨#[]⟩,FR FS 0,FR FS 0,FM ⟨#[]⟩,FM ⟨#[]⟩,FR FS 0,FR FS 0,FM ⟨#[]⟩,FR FS 0];have br:=(FK [] w).alloc (FQ #[FR FS 0,FR FS 0,FN none 0 0,FN none 0 0,FN none 0 0,FM ⟨#[]⟩,FM ⟨#[]⟩,FR FS 0,FR FS 0,FM ⟨#[]⟩,FM ⟨#[]⟩,FR FS 0,FR FS 0,FM ⟨#[]⟩,FR FS 0] 50);have dq:=nk w (FQ #[FR FS 0,FR FS 0,FN none 0 0,FN none 0 0,FN none 0 0,FM ⟨#[]⟩,FM ⟨#[]⟩,FR FS 0,FR FS 0,FM ⟨#[]⟩,FM ⟨#[]⟩,FR FS 0,FR FS 0,FM ⟨#[]⟩,FR FS 0] 50);have ce:Hid (w.heap.size∉[b]):=Fx (by have:=h.lt;simp;omega);have cj:=hE.quiet br;have b8:=h.keep br;obtain ⟨O,bq⟩:∃ O,w.heap.size=O:=⟨_,rfl⟩
 rw[bq] at b3 ce;have dv:Hid (w.heap.size≤O):=Fx (by omega);have er:=Fx bq;clear hR c9 bq;go_enter Tryz.func78,Tryz.ntmps78
 go_upto_region 1 with (fail)
 obtain ⟨w0,d1⟩:∃ x,w.alloc (FQ #[FR FS 0,FR FS 0,FN none 0 0,FN none 0 0,FN none 0 0,FM ⟨#[]⟩,FM ⟨#[]⟩,FR FS 0,FR FS 0,FM ⟨#[]⟩,FM ⟨#[]⟩,FR FS 0,FR FS 0,FM ⟨#[]⟩,FR FS 0] 50)=x:=⟨_,rfl⟩
 rw[d1] at b3 br dq cj b8 ⊢;rw[er.out];have c5:=Fx b3;have a4:=Fx br;have HE:=Fx cj;have cn:=Fx b8;obtain ⟨g,o,c,c0,z0,lb,lg,-,hn,hc,d0,k0,k1,k2,-⟩:=b8.open';have c8:(0:Int)<(l.length:Int):=by omega
 clear b3 br dq cj b8 d1 h hE;rw[c1] at k2;go_upto_region 2 with (fail)
 have cd:=FL w0 50 #[FR FS ad,FR FS 0,FN none 0 0,FN none 0 0,FN none 0 0,FM ⟨#[]⟩,FM ⟨#[]⟩,FR FS 0,FR FS 0,FM ⟨#[]⟩,FM ⟨#[]⟩,FR FS 0,FR FS 0,FM ⟨#[]⟩,FR FS 0];have b9:=(FK [] w0).alloc (FQ #[FR FS ad,FR FS 0,FN none 0 0,FN none 0 0,FN none 0 0,FM ⟨#[]⟩,FM ⟨#[]⟩,FR FS 0,FR FS 0,FM ⟨#[]⟩,FM ⟨#[]⟩,FR FS 0,FR FS 0,FM ⟨#[]⟩,FR FS 0] 50);have co:=cn.out.keep b9;obtain ⟨y0,ds⟩:∃ x,w0.alloc (FQ #[FR FS ad,FR FS 0,FN none 0 0,FN none 0 0,FN none 0 0,FM ⟨#[]⟩,FM ⟨#[]⟩,FR FS 0,FR FS 0,FM ⟨#[]⟩,FM ⟨#[]⟩,FR FS 0,FR FS 0,FM ⟨#[]⟩,FR FS 0] 50)=x:=⟨_,rfl⟩
 rw[ds] at cd b9 co ⊢;obtain ⟨jb,cr⟩:∃ jb,w0.heap.size=jb:=⟨_,rfl⟩
 have N:Hid (aV y0 w0.heap.size jb ⟨ad,0,[],[],[],[],⟨[],zV⟩,⟨[],zV⟩,0⟩ (FN none 0 0) (FN none 0 0) (FN none 0 0)):=Fx (by
  rw[cr] at cd;exact ⟨cd,World.ownsRow_nil _ _ _ _,World.ownsRow_nil _ _ _ _,World.ownsRow_nil _ _ _ _,(fun g hg=>by cases hg),(fun g hg=>by cases hg),(fun g hg=>by cases hg)⟩)
 have HP:=Fx co;have U:Hid (aa [b] w0 y0):=Fx b9.of_nil;have cq:Hid (w0.heap.size≤jb):=Fx (by omega);rw[cr];clear cd b9 co ds cr c1 c0 z0 lb lg hn hc d0 k0 k1 k2 c8;rcases Z:aR [106,111,98] l with x|r1
 ·have M:=HR.out
  rw[Z,aw] at M;have HX:=Fx M.symm;have HC:=Fx (cO Z y0 HP.out);clear M Z;go_wp2_with fail
  refine HC.out.mono ?_;rintro ev w9 ⟨⟨gi,rfl,hb⟩,aA⟩;exact ⟨rfl,by rw[HX.out];exact ⟨gi,rfl,hb⟩,a4.out.of_nil.trans (U.out.trans aA)⟩
 have M:=HR.out;rw[Z,aq] at M;try dsimp only at M
 clear HR;have HR:=Fx M;clear M;have HC:=Fx (aT Z y0 HP.out);have bj:Hid (r1.length≤l.length):=Fx (by have:=av.out;have:=aF Z;omega);clear av;have av:=bj;clear bj;clear Z;go_wp2_with fail
 refine HC.out.mono ?_;rintro ev y1 ⟨rfl,hp,hk⟩;have HJ':=Fx (N.out.ps HP.out hk);have HK':=Fx (U.out.trans hk);clear HP N U HC;have HP:=Fx hp;have N:=HJ';have U:=HK';clear hp hk HJ' HK';have hc:=lP y1 HP.out (FD av.out c7.out);rcases Z:fk r1 with x|⟨a2,r2⟩
 ·have M:=HR.out
  rw[Z,aw] at M;have HX:=Fx M.symm;rw[Z] at hc;have cx:=Fx hc;clear M Z hc;go_wp2_with fail
  refine cx.out.mono ?_;rintro ev w9 ⟨⟨gi,rfl,hb⟩,aA⟩;exact ⟨rfl,by rw[HX.out];exact ⟨gi,rfl,hb⟩,a4.out.of_nil.trans (U.out.trans aA)⟩
 have M:=HR.out;rw[Z,aq] at M;try dsimp only at M
 clear HR;have HR:=Fx M;clear M;rw[Z] at hc;have bj:Hid (r2.length≤l.length):=Fx (FD (lR Z) av.out);have HC:=Fx hc;clear Z hc av;have av:=bj;clear bj;go_wp2_with fail
 refine HC.out.mono ?_;rintro ev y2 ⟨⟨v2,rfl,bv,hp⟩,hk⟩;obtain ⟨A2,c2,hv,-⟩:=ar bv;subst hv;have d5:=Fx bv;have d9:Hid (cD (FN A2 a2.length c2) (FN none 0 0)):=Fx (cD.new N.out.o3 (fun g hg=>(bv.lt g hg).1)).symm;have eb:Hid (cD (FN A2 a2.length c2) (FN none 0 0)):=Fx (cD.new N.out.o4 (fun g hg=>(bv.lt g hg).1)).symm;have eA:=Fx U.out.size;clear bv;have HJ':=Fx (N.out.ps HP.out hk);have HK':=Fx (U.out.trans hk);clear HP N U HC;have HP:=Fx hp;have N:=HJ';have U:=HK';clear hp hk HJ' HK';have d4:=N.out.blk.frozen 2;have dz:y2.cell? ⟨jb,2,none⟩=some ((FN none 0 0)):=N.out.blk.cell 2;have lj:=N.out.blk.lt;have ba:aa [jb] y2 (y2.setCell ⟨jb,2,none⟩ (FN A2 a2.length c2)):=(FK _ _).setCell (.inl (by simp)) _;have HJ':=Fx (N.out.put2 (cK d5.out eA.out) d9.out eb.out);have HP':=Fx (HP.out.box N.out ba);have HK':=Fx (U.out.box cq.out ba);clear ba;go_upto_region 4 with (fail)
 obtain ⟨y3,hy⟩:∃ x,(y2.setCell ⟨jb,2,none⟩ (FN A2 a2.length c2))=x:=⟨_,rfl⟩
 rw[hy] at HJ' HP' HK' ⊢;clear hy d4 dz lj N HP U;have N:=HJ';have HP:=HP';have U:=HK';clear HJ' HP' HK';obtain ⟨sb,ci⟩:∃ sb,bC [114,101,116,114,121] r2=sb:=⟨_,rfl⟩
 have hT:=fa [114,101,116,114,121] y3 HP.out;rw[ci] at hT;have HT:=Fx hT;have bk:=Fx ci;clear hT ci;go_wp2_with fail
 refine HT.out.mono ?_;rintro ev y4 ⟨rfl,hp,hk⟩;have HJ':=Fx (N.out.ps HP.out hk);have HK':=Fx (U.out.trans hk);clear HP N U HT;have HP:=Fx hp;have N:=HJ';have U:=HK';clear hp hk HJ' HK';go_upto_if 21 with (fail)
 go_cut [] (fun wx=>∃ n r,dZ r2= .ok (n,r)∧aV wx w0.heap.size jb (⟨ad,0,a2,[],[],[],⟨[],zV⟩,⟨[],zV⟩,n⟩:Jb) (FN A2 a2.length c2) (FN none 0 0) (FN none 0 0)∧Ps wx b r∧aa [b] w0 wx∧r.length≤l.length)
 case first =>
  cases sb with
  | false =>
   go_wp2;go_meet;exact ⟨0,r2,by unfold dZ;rw[bk.out];rfl,N.out,HP.out,U.out,av.out⟩
  | true =>
   obtain ⟨q,hq⟩:∃ q,r2.tail=q:=⟨_,rfl⟩
   have cv:Ps y4 b q:=by rw[←hq];exact HP.out
   have bX:=Fx cv;have b4:=Fx hq;have ey:Hid (q.length≤r2.length):=Fx (by rw[←hq,List.length_tail];omega);obtain ⟨kd,b6⟩:∃ kd,(aS q).kind=kd:=⟨_,rfl⟩
   obtain ⟨tx,b5⟩:∃ tx,(aS q).text=tx:=⟨_,rfl⟩
   obtain ⟨et,cg⟩:∃ ad,(aS q).at_=ad:=⟨_,rfl⟩
   have bm:=Fx b6;have cz:=Fx b5;obtain ⟨g,o,c,c0,z0,lb,lg,-,hn,hc,d0,k0,k1,k2,hw⟩:=cv.open';rw[b6] at k0;rw[b5] at k1;rw[cg] at k2;obtain ⟨cm,ca,-⟩:=hw;rw[b5] at cm ca;rw[b6] at ca;have cu:=Fx ca;have c8:(0:Int)<(q.length:Int):=by omega
   have a5:=Fx ((FK [] y4).alloc (FQ #[FR FS kd,FM (bs tx),FR FS et] 114));clear cv b6 b5 cg ca hq HP;by_cases b7:kd=2
   ·subst b7
    have eB:Hid (∀ c∈tx,iY c=true):=Fx (cu.out rfl);clear cu;rcases ha:Lib.atoiAll tx with n|_|_
    ·have ch:=jd ha eB.out
     have b0:=Fx (fun W hW=>nR ha cm W hW);by_cases h5:5<n
     ·have a8:dZ r2= .error (4,(aS q).at_):=by
       unfold dZ;rw[if_pos bk.out,b4.out,if_neg (by rw[bm.out];simp),cz.out,ha];exact if_pos h5
      have HX:Hid (R= .error (4,(aS q).at_)):=Fx (by
       have M:=HR.out;rw[a8,aw] at M;exact M.symm)
      clear a8;clear ha ch;go_wp2_with fail
      refine (b0.out _ (((HE.out.one b1 U.out).quiet a5.out).env)).mono ?_;rintro ev w3 ⟨rfl,a3⟩;have bb:=Fx (a5.out.trans a3);clear a3;go_wp2_with fail
      refine (bw 4 _ (bX.out.keep bb.out)).mono ?_;rintro ev w9 ⟨⟨gi,rfl,hb⟩,aA⟩;exact ⟨rfl,by rw[HX.out];exact ⟨gi,rfl,hb⟩,a4.out.of_nil.trans ((U.out.trans (bb.out).of_nil).trans aA.of_nil)⟩
     have d7:Hid (dZ r2= .ok (n,q.tail)):=Fx (by
      unfold dZ;rw[if_pos bk.out,b4.out,if_neg (by rw[bm.out];simp),cz.out,ha];show (if 5<n then _ else _)=_;rw[if_neg h5])
     have bo:(aS q).kind≠5:=by rw[bm.out];decide
     have hmore:=bX.out.more bo;have d3:(1:Int)≤(q.length:Int):=by omega
     have d2:(1:Int)<(c:Int):=by omega
     have dt:=Fx bo;clear ha ch bo hmore;go_wp2_with fail
     refine (b0.out _ (((HE.out.one b1 U.out).quiet a5.out).env)).mono ?_;rintro ev w3 ⟨rfl,a3⟩;have be:=Fx (N.out.keep (a5.out.trans a3));have ct:=Fx (bX.out.keep (a5.out.trans a3));have bb:=Fx (U.out.trans (a5.out.trans a3).of_nil);have jf:=be.out.blk.frozen 14;have jc:w3.cell? ⟨jb,14,none⟩=some (FR FS 0):=be.out.blk.cell 14;have lj:=be.out.blk.lt;have p0:w3.cell? ⟨b,0,none⟩=some (FN (some ⟨g,o,none⟩) q.length c):=(a5.out.trans a3).cell_of c0 (by simp);have pz:w3.frozen? ⟨b,0,none⟩=false:=((a5.out.trans a3).frozen lb (by simp)).trans z0;have f2:=FC _ _ p0;have ba:aa [jb] w3 (w3.setCell ⟨jb,14,none⟩ (FR FS n)):=(FK _ _).setCell (.inl (by simp)) _;have en:Hid (aV (w3.setCell ⟨jb,14,none⟩ (FR FS n)) w0.heap.size jb (⟨ad,0,a2,[],[],[],⟨[],zV⟩,⟨[],zV⟩,n⟩:Jb) (FN A2 a2.length c2) (FN none 0 0) (FN none 0 0)):=Fx (be.out.box ba ((be.out.blk.set 14 (FR FS n)).congr (by rfl)) rfl rfl rfl);have dr:=Fx (ct.out.box be.out ba);have d6:=Fx (bb.out.box cq.out ba);have dB:=be.out.blk.ty.ne ct.out.ty (by decide);have cn:Hid ((w3.setCell ⟨jb,14,none⟩ (FR FS n)).cell? ⟨b,0,none⟩=some (FN (some ⟨g,o,none⟩) q.length c)):=Fx (ba.cell_of p0 (by simpa using dB.symm));have es:=Fx (fun n' a d=> @Ps.step _ b g o c q dr.out cn.out dt.out n' a d);clear a3 ba ct bb be;go_wp2;go_meet;have cy:=es.out (q.length-1) ⟨g,o+3,none⟩ (c-1) rfl rfl rfl;exact ⟨n,q.tail,d7.out,en.out.ps dr.out cy.2,cy.1,d6.out.trans cy.2,by have:=av.out;have:=ey.out;rw[List.length_tail];omega⟩
    all_goals
     have a8:dZ r2= .error (4,(aS q).at_):=by
      unfold dZ;rw[if_pos bk.out,b4.out,if_neg (by rw[bm.out];simp),cz.out,ha];try rfl
     have HX:Hid (R= .error (4,(aS q).at_)):=Fx (by
      have M:=HR.out;rw[a8,aw] at M;exact M.symm)
     clear a8;have b0:=Fx (fun W hW=>lQ (s:=tx) (fun n h=>by rw[ha] at h;cases h) cm W hW);clear ha;go_wp2_with fail
     refine (b0.out _ (((HE.out.one b1 U.out).quiet a5.out).env)).mono ?_;rintro ev w3 ⟨⟨n0,g4,g8,rfl⟩,a3⟩;have bb:=Fx (a5.out.trans a3);clear a3;go_wp2_with fail
     refine (bw 4 _ (bX.out.keep bb.out)).mono ?_;rintro ev w9 ⟨⟨gi,rfl,hb⟩,aA⟩;exact ⟨rfl,by rw[HX.out];exact ⟨gi,rfl,hb⟩,a4.out.of_nil.trans ((U.out.trans (bb.out).of_nil).trans aA.of_nil)⟩
   have e2:(kd != 2)=true:=by rw[bne_iff_ne];exact b7
   have a8:dZ r2= .error (3,(aS q).at_):=by
    unfold dZ;rw[if_pos bk.out,b4.out,if_pos (by rw[bm.out];exact b7)];try rfl
   have HX:Hid (R= .error (3,(aS q).at_)):=Fx (by
    have M:=HR.out;rw[a8,aw] at M;exact M.symm)
   clear a8;clear b7 cu;go_wp2_with fail
   refine (bw 3 _ (bX.out.keep a5.out)).mono ?_;rintro ev w9 ⟨⟨gi,rfl,hb⟩,aA⟩;exact ⟨rfl,by rw[HX.out];exact ⟨gi,rfl,hb⟩,a4.out.of_nil.trans ((U.out.trans (a5.out).of_nil).trans aA.of_nil)⟩
 obtain ⟨n4,r4,a8,hj,hp,hk,c6⟩:=hcut;obtain ⟨yc,rfl⟩:∃ y:World,y=wc:=⟨_,rfl⟩
 have M:=HR.out;rw[a8,aq] at M;try dsimp only at M
 clear HP N U HR av bk;have HR:=Fx M;have HP:=Fx hp;have N:=Fx hj;have U:=Fx hk;have av:=Fx c6;clear hp hj hk M a8 c6;rcases Z:aR [61] r4 with x|r5
 ·have M:=HR.out
  rw[Z,aw] at M;have HX:=Fx M.symm;have HC:=Fx (cO Z yc HP.out);clear M Z;go_wp2_with fail
  refine HC.out.mono ?_;rintro ev w9 ⟨⟨gi,rfl,hb⟩,aA⟩;exact ⟨rfl,by rw[HX.out];exact ⟨gi,rfl,hb⟩,a4.out.of_nil.trans (U.out.trans aA)⟩
 have M:=HR.out;rw[Z,aq] at M;try dsimp only at M
 clear HR;have HR:=Fx M;clear M;have HC:=Fx (aT Z yc HP.out);have bj:Hid (r5.length≤l.length):=Fx (by have:=av.out;have:=aF Z;omega);clear av;have av:=bj;clear bj;clear Z;go_wp2_with fail
 refine HC.out.mono ?_;rintro ev y5 ⟨rfl,hp,hk⟩;have HJ':=Fx (N.out.ps HP.out hk);have HK':=Fx (U.out.trans hk);clear HP N U HC;have HP:=Fx hp;have N:=HJ';have U:=HK';clear hp hk HJ' HK';have hc:=zN ad 0 a2 [] [] [] ⟨[],zV⟩ ⟨[],zV⟩ n4 w0 y5 HE.out b1 HP.out U.out cq.out N.out (by simp) (by simp) (FD av.out c7.out);rcases Z:bH (⟨ad,0,a2,[],[],[],⟨[],zV⟩,⟨[],zV⟩,n4⟩:Jb) r5 with x|⟨jx,r6⟩
 ·have M:=HR.out
  rw[show BX ad a2 n4=(⟨ad,0,a2,[],[],[],⟨[],zV⟩,⟨[],zV⟩,n4⟩:Jb) from rfl,Z,aw] at M;have HX:=Fx M.symm;rw[Z] at hc;have cx:=Fx hc;clear M Z hc;go_wp2_with fail
  refine cx.out.mono ?_;rintro ev w9 ⟨⟨gi,rfl,hb⟩,aA⟩;exact ⟨rfl,by rw[HX.out];exact ⟨gi,rfl,hb⟩,a4.out.of_nil.trans aA⟩
 have M:=HR.out;rw[show BX ad a2 n4=(⟨ad,0,a2,[],[],[],⟨[],zV⟩,⟨[],zV⟩,n4⟩:Jb) from rfl,Z,aq] at M;try dsimp only at M
 clear HR;have HR:=Fx M;rw[Z] at hc;have HC:=Fx hc;clear M Z hc av;go_wp2_with fail
 refine HC.out.mono ?_;rintro ev y6 ⟨⟨rfl,⟨ht,g5,fz,hj⟩,hp⟩,hk⟩;clear HP N U HC;obtain ⟨bz,a7,a9,bc,a6,bZ,I,D,a1⟩:=jx;have HP:=Fx hp;have N:=Fx hj;have U:=Fx hk;clear hp hj hk;rcases Z:aR [59] r6 with x|r7
 ·have M:=HR.out
  rw[Z,aw] at M;have HX:=Fx M.symm;have HC:=Fx (cO Z y6 HP.out);clear M Z;go_wp2_with fail
  refine HC.out.mono ?_;rintro ev w9 ⟨⟨gi,rfl,hb⟩,aA⟩;exact ⟨rfl,by rw[HX.out];exact ⟨gi,rfl,hb⟩,a4.out.of_nil.trans (U.out.trans aA)⟩
 have M:=HR.out;rw[Z,aq] at M;try dsimp only at M
 clear HR;have HR:=Fx M;clear M;have HC:=Fx (aT Z y6 HP.out);clear Z;go_wp2_with fail
 refine HC.out.mono ?_;rintro ev y7 ⟨rfl,hp,hk⟩;have HJ':=Fx (N.out.ps HP.out hk);have HK':=Fx (U.out.trans hk);clear HP N U HC;have HP:=Fx hp;have N:=HJ';have U:=HK';clear hp hk HJ' HK';obtain ⟨A2,c2,d8,-⟩:=ar N.out.o2;obtain ⟨A3,c3,ez,-⟩:=ar N.out.o3;obtain ⟨A4,c4,el,-⟩:=ar N.out.o4;subst d8 ez el;have J:=Fx (c5.out.keep U.out ce.out);have HX:=Fx HR.out.symm;clear HR;have gk:y7.cell? ⟨jb,0,none⟩=some (FR FS bz):=N.out.blk.cell 0;have f7:y7.cell? ⟨O,0,none⟩=some (FR FS 0):=J.out.cell 0;have gl:=J.out.frozen 0;have f0:y7.cell? ⟨jb,1,none⟩=some (FR FS a7):=N.out.blk.cell 1;have g6:y7.cell? ⟨O,1,none⟩=some (FR FS 0):=J.out.cell 1;have g7:=J.out.frozen 1;have dz:y7.cell? ⟨jb,2,none⟩=some (FN A2 a9.length c2):=N.out.blk.cell 2;have hs:y7.cell? ⟨O,2,none⟩=some (FN none 0 0):=J.out.cell 2;have ho:=J.out.frozen 2;have hm:y7.cell? ⟨jb,3,none⟩=some (FN A3 bc.length c3):=N.out.blk.cell 3;have fs:y7.cell? ⟨O,3,none⟩=some (FN none 0 0):=J.out.cell 3;have hh:=J.out.frozen 3;have f5:y7.cell? ⟨jb,4,none⟩=some (FN A4 a6.length c4):=N.out.blk.cell 4;have f4:y7.cell? ⟨O,4,none⟩=some (FN none 0 0):=J.out.cell 4;have f8:=J.out.frozen 4;have he:y7.cell? ⟨jb,5,none⟩=some (FM (bs bZ)):=N.out.blk.cell 5;have g3:y7.cell? ⟨O,5,none⟩=some (FM ⟨#[]⟩):=J.out.cell 5;have g2:=J.out.frozen 5;have hf:y7.cell? ⟨jb,6,none⟩=some (FM (bs I.col)):=N.out.blk.cell 6;have gm:y7.cell? ⟨O,6,none⟩=some (FM ⟨#[]⟩):=J.out.cell 6;have fS:=J.out.frozen 6;have f3:y7.cell? ⟨jb,7,none⟩=some (FR FS I.val.kind):=N.out.blk.cell 7;have hi:y7.cell? ⟨O,7,none⟩=some (FR FS 0):=J.out.cell 7;have f1:=J.out.frozen 7;have g0:y7.cell? ⟨jb,8,none⟩=some (FR FS I.val.num):=N.out.blk.cell 8;have g1:y7.cell? ⟨O,8,none⟩=some (FR FS 0):=J.out.cell 8;have f9:=J.out.frozen 8;have f6:y7.cell? ⟨jb,9,none⟩=some (FM (bs I.val.word)):=N.out.blk.cell 9;have hu:y7.cell? ⟨O,9,none⟩=some (FM ⟨#[]⟩):=J.out.cell 9;have gz:=J.out.frozen 9;have e1:y7.cell? ⟨jb,10,none⟩=some (FM (bs D.col)):=N.out.blk.cell 10;have e5:y7.cell? ⟨O,10,none⟩=some (FM ⟨#[]⟩):=J.out.cell 10
 have e8:=J.out.frozen 10;have fr:y7.cell? ⟨jb,11,none⟩=some (FR FS D.val.kind):=N.out.blk.cell 11;have eY:y7.cell? ⟨O,11,none⟩=some (FR FS 0):=J.out.cell 11;have e4:=J.out.frozen 11;have e0:y7.cell? ⟨jb,12,none⟩=some (FR FS D.val.num):=N.out.blk.cell 12;have e9:y7.cell? ⟨O,12,none⟩=some (FR FS 0):=J.out.cell 12;have fc:=J.out.frozen 12;have fn:y7.cell? ⟨jb,13,none⟩=some (FM (bs D.val.word)):=N.out.blk.cell 13;have e7:y7.cell? ⟨O,13,none⟩=some (FM ⟨#[]⟩):=J.out.cell 13;have eX:=J.out.frozen 13;have e6:y7.cell? ⟨jb,14,none⟩=some (FR FS a1):=N.out.blk.cell 14;have ff:y7.cell? ⟨O,14,none⟩=some (FR FS 0):=J.out.cell 14;have fb:=J.out.frozen 14;have lj:=N.out.blk.lt;have lr:=J.out.lt;go_wp2;have a0:=(((((((((((((((J.out.set 0 (FR FS bz)).set 1 (FR FS a7)).set 2 (FN A2 a9.length c2)).set 3 (FN A3 bc.length c3)).set 4 (FN A4 a6.length c4)).set 5 (FM (bs bZ))).set 6 (FM (bs I.col))).set 7 (FR FS I.val.kind)).set 8 (FR FS I.val.num)).set 9 (FM (bs I.val.word))).set 10 (FM (bs D.col))).set 11 (FR FS D.val.kind)).set 12 (FR FS D.val.num)).set 13 (FM (bs D.val.word))).set 14 (FR FS a1));have y0':=a0.cell 0;have y1':=a0.cell 1;have y2':=a0.cell 2;have y3':=a0.cell 3;have y4':=a0.cell 4;have y5':=a0.cell 5;have y6':=a0.cell 6;have y7':=a0.cell 7;have y8':=a0.cell 8;have y9':=a0.cell 9;have y10':=a0.cell 10;have y11':=a0.cell 11;have y12':=a0.cell 12;have y13':=a0.cell 13;have y14':=a0.cell 14;refine bodyPost_ret (v:= .agg #[FR FS bz,FR FS a7,FN A2 a9.length c2,FN A3 bc.length c3,FN A4 a6.length c4,FM (bs bZ),FM (bs I.col),FR FS I.val.kind,FR FS I.val.num,FM (bs I.val.word),FM (bs D.col),FR FS D.val.kind,FR FS D.val.num,FM (bs D.val.word),FR FS a1]) (by simp[results,Tryz.results78,go_sem,y0',y1',y2',y3',y4',y5',y6',y7',y8',y9',y10',y11',y12',y13',y14']) rfl ⟨?_,?_⟩
 ·rw[HX.out]
  have bl:aa [O] y7 (((((((((((((((y7.setCell ⟨O,0,none⟩ (FR FS bz)).setCell ⟨O,1,none⟩ (FR FS a7)).setCell ⟨O,2,none⟩ (FN A2 a9.length c2)).setCell ⟨O,3,none⟩ (FN A3 bc.length c3)).setCell ⟨O,4,none⟩ (FN A4 a6.length c4)).setCell ⟨O,5,none⟩ (FM (bs bZ))).setCell ⟨O,6,none⟩ (FM (bs I.col))).setCell ⟨O,7,none⟩ (FR FS I.val.kind)).setCell ⟨O,8,none⟩ (FR FS I.val.num)).setCell ⟨O,9,none⟩ (FM (bs I.val.word))).setCell ⟨O,10,none⟩ (FM (bs D.col))).setCell ⟨O,11,none⟩ (FR FS D.val.kind)).setCell ⟨O,12,none⟩ (FR FS D.val.num)).setCell ⟨O,13,none⟩ (FM (bs D.val.word))).setCell ⟨O,14,none⟩ (FR FS a1)):=((((((((((((((((FK _ _).setCell (.inl (by simp)) _).setCell (.inl (by simp)) _).setCell (.inl (by simp)) _).setCell (.inl (by simp)) _).setCell (.inl (by simp)) _).setCell (.inl (by simp)) _).setCell (.inl (by simp)) _).setCell (.inl (by simp)) _).setCell (.inl (by simp)) _).setCell (.inl (by simp)) _).setCell (.inl (by simp)) _).setCell (.inl (by simp)) _).setCell (.inl (by simp)) _).setCell (.inl (by simp)) _).setCell (.inl (by simp)) _);have hL:∀ x∈[O],dP y7 x 50:=fun x hx=>by rw[List.mem_singleton.1 hx];exact J.out.ty
  exact ⟨_,_,_,rfl,⟨cA (cK N.out.o2 a4.out.size) bl hL (by decide),cA (cK N.out.o3 a4.out.size) bl hL (by decide),cA (cK N.out.o4 a4.out.size) bl hL (by decide)⟩,HP.out.far bl (fun x hx=>⟨50,hL x hx,by decide,by decide⟩)⟩
 have bl:aa [O] y7 (((((((((((((((y7.setCell ⟨O,0,none⟩ (FR FS bz)).setCell ⟨O,1,none⟩ (FR FS a7)).setCell ⟨O,2,none⟩ (FN A2 a9.length c2)).setCell ⟨O,3,none⟩ (FN A3 bc.length c3)).setCell ⟨O,4,none⟩ (FN A4 a6.length c4)).setCell ⟨O,5,none⟩ (FM (bs bZ))).setCell ⟨O,6,none⟩ (FM (bs I.col))).setCell ⟨O,7,none⟩ (FR FS I.val.kind)).setCell ⟨O,8,none⟩ (FR FS I.val.num)).setCell ⟨O,9,none⟩ (FM (bs I.val.word))).setCell ⟨O,10,none⟩ (FM (bs D.col))).setCell ⟨O,11,none⟩ (FR FS D.val.kind)).setCell ⟨O,12,none⟩ (FR FS D.val.num)).setCell ⟨O,13,none⟩ (FM (bs D.val.word))).setCell ⟨O,14,none⟩ (FR FS a1)):=((((((((((((((((FK _ _).setCell (.inl (by simp)) _).setCell (.inl (by simp)) _).setCell (.inl (by simp)) _).setCell (.inl (by simp)) _).setCell (.inl (by simp)) _).setCell (.inl (by simp)) _).setCell (.inl (by simp)) _).setCell (.inl (by simp)) _).setCell (.inl (by simp)) _).setCell (.inl (by simp)) _).setCell (.inl (by simp)) _).setCell (.inl (by simp)) _).setCell (.inl (by simp)) _).setCell (.inl (by simp)) _).setCell (.inl (by simp)) _);exact (a4.out.of_nil.trans U.out).trans' bl (fun x hx hl=>by rw[List.mem_singleton.1 hx] at hl;have:=dv.out;omega)
theorem cV {W W':World} {base n size:Nat} {e:TypeId} {u:Value} {xs:List Value} {L:List Nat} (h:W.ownsRow base e size u n xs) (D:aa L W W') (O:∀ x∈L,∃ t,dP W x t∧e≠t):W'.ownsRow base e size u n xs :=
 aC h D (fun g M J=>by
  obtain ⟨t,N,I⟩:=O g J;exact (aK h g M).ne N I rfl)
def cP {α:Type} (El:World→Nat→List Value→α→Prop) (e:TypeId) (size:Nat) (W:World) (base:Nat) (v:Value) (l:List α):Prop :=
 ∃ us:List (List Value),us.length=l.length∧W.ownsRow base e size v l.length us.flatten∧∀ j (h:j<l.length) (h':j<us.length),El W base us[j] l[j]
section
variable {α:Type} {El:World→Nat→List Value→α→Prop} {e:TypeId} {size base:Nat} {W W':World} {v u:Value} {l:List α} {L:List Nat}
theorem cP.nil:cP El e size W base (FN none 0 0) ([]:List α):=⟨[],rfl,World.ownsRow_nil _ _ _ _,fun j h=>absurd h (by simp)⟩
theorem cP.far (h:cP El e size W base v l) (D:aa L W W') (I:∀ x∈L,∃ t,dP W x t∧e≠t) (N:∀ cs x,El W base cs x→El W' base cs x):cP El e size W' base v l:=by
 obtain ⟨us,M,O,J⟩:=h;exact ⟨us,M,cV O D I,fun j h h'=>N _ _ (J j h h')⟩
theorem cP.snoc {us:List (List Value)} {cs:List Value} {x:α} (D:us.length=l.length) (I:∀ j (h:j<l.length) (h':j<us.length),El W base us[j] l[j]) (N:El W base cs x) (M:W.ownsRow base e size u (l.length+1) (us.flatten++cs)):cP El e size W base u (l++[x]):=by
 refine ⟨us++[cs],by simp[D],by simpa using M,fun j h h'=>?_⟩;by_cases J:j<l.length
 ·rw[List.getElem_append_left (by omega),List.getElem_append_left J]
  exact I j J (by omega)
 have hj':j=l.length:=by simp at h;omega
 subst hj';rw[List.getElem_append_right (by omega),List.getElem_append_right (Fy _)];simpa[D] using N
end
def je (W:World) (base:Nat) (cs:List Value) (x:In):Prop:=∃ v,cs=[FR FS x.at_,FM (bs x.name),v]∧W.ownsRow base 64 2 v x.cols.length (ai x.cols)
def jg (W:World) (base:Nat) (cs:List Value) (x:Jb):Prop:=∃ v2 h D,cs=(bK x v2 h D).toList∧zO W base x v2 h D
def xG (_:World) (_:Nat) (cs:List Value) (x:Pb):Prop:=cs=[FR FS x.at_,FM (bs x.name),FM (bs x.src)]
abbrev mB:=cP je 57 3
abbrev jh:=cP jg 50 15
abbrev ji:=cP xG 60 3
def qi:List TypeId:=[9,64,57,50,60,29,109]
def dI (S:List TypeId) (L:List Nat) (W W':World):Prop:=aa L W W'∧∀ x∈L,∃ t,dP W x t∧t∉S
theorem dI.ne {S:List TypeId} {L:List Nat} {W W':World} (h:dI S L W W') {e:TypeId} (I:e∈S):∀ x∈L,∃ t,dP W x t∧e≠t:=fun x M=>by
 obtain ⟨t,J,N⟩:=h.2 x M;exact ⟨t,J,fun D=>N (D ▸ I)⟩
theorem dI.mono {S D:List TypeId} {L:List Nat} {W W':World} (h:dI S L W W') (I:∀ e∈D,e∈S):dI D L W W' :=
 ⟨h.1,fun x N=>by obtain ⟨t,M,O⟩:=h.2 x N;exact ⟨t,M,fun J=>O (I t J)⟩⟩
theorem dI.blk {S:List TypeId} {L:List Nat} {W W':World} (h:dI S L W W') {e:TypeId} {g:Nat} {cs:Array Value} (D:ao W g e cs) (I:e∈S):ao W' g e cs :=
 D.keep h.1 (fun M=>by obtain ⟨t,J,N⟩:=h.ne I g M;exact D.ty.ne J N rfl)
section
variable {W W':World} {base:Nat} {L:List Nat} {S:List TypeId} {v:Value}
theorem je.far (h:dI S L W W') (D:64∈S):∀ cs x,je W base cs x→je W' base cs x:=fun _ _ ⟨v,I,J⟩=>⟨v,I,cV J h.1 (h.ne D)⟩
theorem jg.far (h:dI S L W W') (D:9∈S):∀ cs x,jg W base cs x→jg W' base cs x:=fun _ _ ⟨v2,J,M,N,I⟩=>⟨v2,J,M,N,⟨cV I.o2 h.1 (h.ne D),cV I.o3 h.1 (h.ne D),cV I.o4 h.1 (h.ne D)⟩⟩
theorem mB.far {l:List In} (J:mB W base v l) (h:dI S L W W') (I:64∈S) (D:57∈S):mB W' base v l:=cP.far J h.1 (h.ne D) (je.far h I)
theorem jh.far {l:List Jb} (J:jh W base v l) (h:dI S L W W') (I:9∈S) (D:50∈S):jh W' base v l:=cP.far J h.1 (h.ne D) (jg.far h I)
theorem ji.far {l:List Pb} (I:ji W base v l) (h:dI S L W W') (D:60∈S):ji W' base v l:=cP.far I h.1 (h.ne D) (fun _ _ h=>h)
end
structure dn (W:World) (base pb rb fb b:Nat) (v0 v1 v2:Value) (ins:List In) (jobs:List Jb) (outs:List Pb):Prop where
 pbk:ao W pb 109 #[FO (some ⟨b,0,none⟩)]
 rbk:ao W rb 29 #[FN none 0 0,FN none 0 0,FN none 0 0]
 fbk:ao W fb 29 #[v0,v1,v2]
 ne:rb≠fb
 lo:base≤fb
 i0:mB W base v0 ins
 i1:jh W base v1 jobs
 i2:ji W base v2 outs
section
variable {W W' W7:World} {base pb rb fb b k:Nat} {v0 v1 v2 u:Value} {ins:List In} {jobs:List Jb} {outs:List Pb} {L:List Nat} {l:List Tk} {o:Obj} {cs:List Value} {us:List (List Value)}
theorem dn.far (h:dn W base pb rb fb b v0 v1 v2 ins jobs outs) (D:dI qi L W W'):dn W' base pb rb fb b v0 v1 v2 ins jobs outs :=
 ⟨D.blk h.pbk (by decide),D.blk h.rbk (by decide),D.blk h.fbk (by decide),h.ne,h.lo,h.i0.far D (by decide) (by decide),h.i1.far D (by decide) (by decide),h.i2.far D (by decide)⟩
theorem dn.keep (h:dn W base pb rb fb b v0 v1 v2 ins jobs outs) (D:aa [] W W'):dn W' base pb rb fb b v0 v1 v2 ins jobs outs :=
 h.far ⟨D,fun x I=>by cases I⟩
theorem dn.ps (h:dn W base pb rb fb b v0 v1 v2 ins jobs outs) (J:Ps W b l) (D:aa [b] W W'):dn W' base pb rb fb b v0 v1 v2 ins jobs outs :=
 h.far ⟨D,fun x I=>⟨111,by rw[List.mem_singleton.1 I];exact J.ty,by decide⟩⟩
theorem jJ {e:TypeId} {S:List TypeId} (h:dn W base pb rb fb b v0 v1 v2 ins jobs outs) {D:Option Nat} (J:(W.alloc o).grownBy W7 D) (M:∀ x,D=some x→dP W x e) (N:e∉S) (O:29∉S) :
  dI S (D.toList++[fb]) W (W7.setCell ⟨fb,k,none⟩ u):=by
 refine ⟨(aa.grown ((FK _ W).alloc o) J (fun g J=> .inl (by rw[J];simp))).setCell (.inl (by simp)) _,fun x I=>?_⟩;rcases List.mem_append.1 I with I|I
 ·cases D with
  | none=>cases I
  | some y=>simp at I;exact ⟨e,M x (by rw[I]),N⟩
 rw[List.mem_singleton.1 I];exact ⟨_,h.fbk.ty,O⟩
theorem dn.fbk7 {e:TypeId} (h:dn W base pb rb fb b v0 v1 v2 ins jobs outs) {D:Option Nat} (N:(W.alloc o).grownBy W7 D) (I:∀ x,D=some x→dP W x e) (M:e≠29):ao W7 fb 29 #[v0,v1,v2] :=
 (N.block fb (h.fbk.alloc o).lt (fun J=>(I fb J.symm).ne h.fbk.ty M rfl)).trans (h.fbk.alloc o)
theorem dn.keeps7 {w:World} (h:dn W w.heap.size pb rb fb b v0 v1 v2 ins jobs outs) (I:aa [b] w W) {D:Option Nat} (N:(W.alloc o).grownBy W7 D) (J:∀ x,D=some x→w.heap.size≤x):aa [b] w (W7.setCell ⟨fb,k,none⟩ u) :=
 ((I.alloc o).grown N (fun x M=> .inr (J x M))).setCell (.inr h.lo) _
theorem nU {e:TypeId} {size n:Nat} {xs:List Value} (h:dn W base pb rb fb b v0 v1 v2 ins jobs outs) {I:Option Nat} (O:(W.alloc o).grownBy W7 I) (M:∀ x,I=some x→dP W x e) (J:e≠29) (D:W7.ownsRow base e size u n xs) {U:Value}:(W7.setCell ⟨fb,k,none⟩ U).ownsRow base e size u n xs :=
 cV (L:=[fb]) D ((FK _ _).setCell (.inl (by simp)) _) (fun x N=>by rw[List.mem_singleton.1 N];exact ⟨_,(h.fbk7 O M J).ty,J⟩)
theorem Fa {e:TypeId} (h:dn W base pb rb fb b v0 v1 v2 ins jobs outs) (Z:Ps W b l) {D:Option Nat} (hg:(W.alloc o).grownBy W7 D) (O:∀ x,D=some x→dP W x e) (I:e≠111) (J:e≠114):Ps (W7.setCell ⟨fb,k,none⟩ u) b l:=by
 have M:=jJ (S:=[111,114]) (k:=k) (u:=u) h hg O (by simp[I,J]) (by decide);exact Z.far M.1 (fun x hx=>by obtain ⟨t,U,N⟩:=M.2 x hx;exact ⟨t,U,fun e=>N (by simp[e]),fun e=>N (by simp[e])⟩)
theorem lS {W:World} {g:Nat} {e:TypeId} {a b c u:Value} (h:ao W g e #[a,b,c]):ao (W.setCell ⟨g,0,none⟩ u) g e #[u,b,c]:=(h.set 0 u).congr rfl
theorem kv {W:World} {g:Nat} {e:TypeId} {a b c u:Value} (h:ao W g e #[a,b,c]):ao (W.setCell ⟨g,1,none⟩ u) g e #[a,u,c]:=(h.set 1 u).congr rfl
theorem ky {W:World} {g:Nat} {e:TypeId} {a b c u:Value} (h:ao W g e #[a,b,c]):ao (W.setCell ⟨g,2,none⟩ u) g e #[a,b,u]:=(h.set 2 u).congr rfl
theorem dn.app0 {x:In} (h:dn W base pb rb fb b v0 v1 v2 ins jobs outs) (N:us.length=ins.length) (ho:W.ownsRow base 57 3 v0 ins.length us.flatten) (O:∀ j (h:j<ins.length) (h':j<us.length),je W base us[j] ins[j]) (hx:je W base cs x) (U:(W.alloc o).grownBy W7 v0.ownBlock) (I:W7.ownsRow base 57 3 u (ins.length+1) (us.flatten++cs)):dn (W7.setCell ⟨fb,0,none⟩ u) base pb rb fb b u v1 v2 (ins++[x]) jobs outs:=by
 have M:=aK ho;have D:=jJ (S:=[9,64,50,60,109]) (k:=0) (u:=u) h U M (by decide) (by decide);have Z:ao (W7.setCell ⟨fb,0,none⟩ u) rb 29 #[FN none 0 0,FN none 0 0,FN none 0 0]:=h.rbk.keep D.1 (fun J=>by
  rcases List.mem_append.1 J with J|J
  ·exact (M rb (by simpa using J)).ne h.rbk.ty (by decide) rfl
  exact h.ne (List.mem_singleton.1 J))
 exact ⟨D.blk h.pbk (by decide),Z,lS (h.fbk7 U M (by decide)),h.ne,h.lo,cP.snoc N (fun j h1 h2=>je.far D (by decide) _ _ (O j h1 h2)) (je.far D (by decide) _ _ hx) (nU h U M (by decide) I),h.i1.far D (by decide) (by decide),h.i2.far D (by decide)⟩
theorem dn.app1 {x:Jb} (h:dn W base pb rb fb b v0 v1 v2 ins jobs outs) (N:us.length=jobs.length) (ho:W.ownsRow base 50 15 v1 jobs.length us.flatten) (O:∀ j (h:j<jobs.length) (h':j<us.length),jg W base us[j] jobs[j]) (hx:jg W base cs x) (U:(W.alloc o).grownBy W7 v1.ownBlock) (I:W7.ownsRow base 50 15 u (jobs.length+1) (us.flatten++cs)):dn (W7.setCell ⟨fb,1,none⟩ u) base pb rb fb b v0 u v2 ins (jobs++[x]) outs:=by
 have M:=aK ho;have D:=jJ (S:=[9,64,57,60,109]) (k:=1) (u:=u) h U M (by decide) (by decide);have Z:ao (W7.setCell ⟨fb,1,none⟩ u) rb 29 #[FN none 0 0,FN none 0 0,FN none 0 0]:=h.rbk.keep D.1 (fun J=>by
  rcases List.mem_append.1 J with J|J
  ·exact (M rb (by simpa using J)).ne h.rbk.ty (by decide) rfl
  exact h.ne (List.mem_singleton.1 J))
 exact ⟨D.blk h.pbk (by decide),Z,kv (h.fbk7 U M (by decide)),h.ne,h.lo,h.i0.far D (by decide) (by decide),cP.snoc N (fun j h1 h2=>jg.far D (by decide) _ _ (O j h1 h2)) (jg.far D (by decide) _ _ hx) (nU h U M (by decide) I),h.i2.far D (by decide)⟩
theorem dn.app2 {x:Pb} (h:dn W base pb rb fb b v0 v1 v2 ins jobs outs) (N:us.length=outs.length) (ho:W.ownsRow base 60 3 v2 outs.length us.flatten) (O:∀ j (h:j<outs.length) (h':j<us.length),xG W base us[j] outs[j]) (hx:xG W base cs x) (U:(W.alloc o).grownBy W7 v2.ownBlock) (D:W7.ownsRow base 60 3 u (outs.length+1) (us.flatten++cs)):dn (W7.setCell ⟨fb,2,none⟩ u) base pb rb fb b v0 v1 u ins jobs (outs++[x]):=by
 have J:=aK ho;have M:=jJ (S:=[9,64,57,50,109]) (k:=2) (u:=u) h U J (by decide) (by decide);have Z:ao (W7.setCell ⟨fb,2,none⟩ u) rb 29 #[FN none 0 0,FN none 0 0,FN none 0 0]:=h.rbk.keep M.1 (fun I=>by
  rcases List.mem_append.1 I with I|I
  ·exact (J rb (by simpa using I)).ne h.rbk.ty (by decide) rfl
  exact h.ne (List.mem_singleton.1 I))
 exact ⟨M.blk h.pbk (by decide),Z,ky (h.fbk7 U J (by decide)),h.ne,h.lo,h.i0.far M (by decide) (by decide),h.i1.far M (by decide) (by decide),cP.snoc N (fun j h1 h2=>O j h1 h2) hx (nU h U J (by decide) D)⟩
end
def nV (a:List In) (b:List Jb) (p:List Pb×List Tk):Except (Int×Int) (Fl×List Tk):= .ok (⟨a,b,p.1⟩,p.2)
def nW (a:List In) (p:List Jb×List Tk):Except (Int×Int) (Fl×List Tk):=cS [111,117,116] mZ p.2.length p.2 [] >>= nV a p.1
def qj (p:List In×List Tk):Except (Int×Int) (Fl×List Tk):=cS [106,111,98] kV p.2.length p.2 [] >>= nW p.1
theorem sH (l:List Tk):qc l=cS [105,110] eI l.length l [] >>= qj:=by
 unfold qc;rcases cS [105,110] eI l.length l [] with x|⟨a,r⟩
 ·rfl
 rw[aq,aq];show _=cS [106,111,98] kV r.length r [] >>= nW a;dsimp only
 rcases cS [106,111,98] kV r.length r [] with x|⟨b,h⟩
 ·rfl
 rw[aq,aq];show _=cS [111,117,116] mZ h.length h [] >>= nV a b;dsimp only
 rcases cS [111,117,116] mZ h.length h [] with x|⟨c,D⟩<;>rfl
theorem rj {α:Type} {w:Bs} {D:List Tk→Except (Int×Int) (α×List Tk)} {n:Nat} {q:List Tk} {acc:List α} (h:bC w q=false):cS w D n q acc= .ok (acc,q):=by
 cases n with
 | zero=>rfl
 | succ n=>unfold cS;rw[h];rfl
theorem lT {α:Type} {w:Bs} {D:List Tk→Except (Int×Int) (α×List Tk)} {n:Nat} {q:List Tk} {acc:List α} (h:bC w q=true) (J:0<n) (I:acc.length=16):cS w D n q acc= .error (4,(aS q).at_):=by
 obtain ⟨n,rfl⟩:∃ m,n=m+1:=⟨n-1,by omega⟩
 unfold cS;rw[h,if_pos rfl,if_pos I];rfl
theorem fN {α:Type} {w:Bs} {D:List Tk→Except (Int×Int) (α×List Tk)} {n:Nat} {q:List Tk} {acc:List α} {x:Int×Int} (h:bC w q=true) (M:0<n) (J:acc.length≠16) (I:D q= .error x):cS w D n q acc= .error x:=by
 obtain ⟨n,rfl⟩:∃ m,n=m+1:=⟨n-1,by omega⟩
 unfold cS;rw[h,if_pos rfl,if_neg J,I];rfl
theorem rl {α:Type} {w:Bs} {D:List Tk→Except (Int×Int) (α×List Tk)} {n:Nat} {q r:List Tk} {acc:List α} {x:α} (h:bC w q=true) (M:0<n) (J:acc.length≠16) (I:D q= .ok (x,r)):cS w D n q acc=cS w D (n-1) r (acc++[x]):=by
 obtain ⟨n,rfl⟩:∃ m,n=m+1:=⟨n-1,by omega⟩
 conv=>lhs;unfold cS
 rw[h,if_pos rfl,if_neg J,I];rfl
def BY (R:Except (Int×Int) (Fl×List Tk)) (b base:Nat) (e:Ending) (w':World):Prop:=match R with
 | .ok (f,r)=>∃ v0 v1 v2,e=FP (.agg #[v0,v1,v2])∧mB w' base v0 f.ins∧jh w' base v1 f.jobs∧ji w' base v2 f.outs∧Ps w' b r
 | .error x=>bW x e w'
theorem nX {W:World} {pb b:Nat} {l:List Tk} (n:Nat) (I:ao W pb 109 #[FO (some ⟨b,0,none⟩)]) (h:Ps W b l) (N:n=16) :
  Calls Tryz.prog 75 #[FR FS n,FO (some ⟨pb,0,none⟩)] W fun e W'=>bW (4,(aS l).at_) e W'∧aa [] W W':=by
 have p0:W.cell? ⟨pb,0,none⟩=some (FO (some ⟨b,0,none⟩)):=I.cell 0;have M:=Fx (bw 4 W h);have Z:=I.lt;have U:((n:Int)==16)=true:=by rw[beq_iff_eq];omega
 clear I h N;go_enter Tryz.func75,Tryz.ntmps75
 go_wp2_with fail
 refine M.out.mono ?_;rintro ev w9 ⟨⟨O,rfl,J⟩,D⟩;exact ⟨rfl,⟨O,rfl,J⟩,D⟩
theorem rm {W:World} {pb b:Nat} {l:List Tk} (n:Nat) (h:ao W pb 109 #[FO (some ⟨b,0,none⟩)]) (I:Ps W b l) (D:n≠16) :
  Calls Tryz.prog 75 #[FR FS n,FO (some ⟨pb,0,none⟩)] W fun e W'=>e=FP (.tuple #[])∧W=W':=by
 have N:W.cell? ⟨pb,0,none⟩=some (FO (some ⟨b,0,none⟩)):=h.cell 0;have M:=h.lt;have J:((n:Int)==16)=false:=by rw[beq_eq_false_iff_ne];omega
 clear h I D;go_enter Tryz.func75,Tryz.ntmps75
 go_wp2;first|go_end0|refine bodyPost_ret (results_none rfl _ _ _) rfl ?_
 exact ⟨rfl,rfl⟩
end
section
open Go.RowKit Go.BigFrame
theorem nl {size:Nat}:∀ {us:List (List Value)} (_:∀ u∈us,u.length=size) (j:Nat) (h:j<us.length) (k:Nat),k<size→us.flatten[j*size+k]? = us[j][k]?
 | [],_,j,h,_,_=>absurd h (by simp)
 | u::us,D,0,_,k,J=>by
  have I:=D u (by simp);rw[List.flatten_cons,Nat.zero_mul,Nat.zero_add,List.getElem?_append_left (by omega)];rfl
 | u::us,D,j+1,h,k,J=>by
  have I:=D u (by simp);rw[List.flatten_cons,List.getElem?_append_right (by rw[I,Nat.succ_mul];omega),I,show (j+1)*size+k-size=j*size+k by rw[Nat.succ_mul];omega];exact nl (fun u M=>D u (List.mem_cons_of_mem _ M)) j (by simpa using h) k J
theorem Dz {α:Type} {N:World→Nat→List Value→α→Prop} {e:TypeId} {size base m c:Nat} {W:World} {A:Option Addr} {l:List α} (h:cP N e size W base (FN A m c) l) (hs:∀ cs x,N W base cs x→cs.length=size) (j:Nat) (Z:j<l.length) :
  ∃ g cs,A=some ⟨g,0,none⟩∧g<W.heap.size∧N W base cs l[j]∧∀ k u,cs[k]? = some u→W.cell? ⟨g,j*size+k,none⟩=some u:=by
 obtain ⟨us,h1,h2,O⟩:=h;obtain ⟨A',c',J,M⟩:=ar h2;injection J with J _ _;subst J;obtain ⟨g,rfl,hg,M⟩:=M (by omega);have hj':j<us.length:=by omega
 have D:∀ u∈us,u.length=size:=fun u I=>by
  obtain ⟨i,hi,rfl⟩:=List.getElem_of_mem I;exact hs _ _ (O i (by omega) hi)
 refine ⟨g,us[j],rfl,hg,O j Z hj',fun k u I=>M _ _ ?_⟩;have U:k<size:=by
  have:=(List.getElem?_eq_some_iff.1 I).1;rw[D _ (FE hj')] at this;exact this
 rw[nl D j hj' k U];exact I
theorem je.len {W:World} {base:Nat}:∀ cs x,je W base cs x→cs.length=3:=fun _ _ ⟨_,h,_⟩=>by rw[h];rfl
theorem jg.len {W:World} {base:Nat}:∀ cs x,jg W base cs x→cs.length=15:=fun _ _ ⟨_,_,_,h,_⟩=>by rw[h];rfl
theorem xG.len {W:World} {base:Nat}:∀ cs x,xG W base cs x→cs.length=3:=fun _ _ h=>by rw[h];rfl
theorem fA {w:World} {base:Nat} {e:TypeId} {size n:Nat} {v:Value} {xs:List Value} (h:w.ownsRow base e size v n xs):∃ A c,v=FN A n c∧n≤c∧Rd w [] size A n xs:=by
 rcases h.2 with ⟨rfl,rfl⟩|⟨g,cap,cur,rfl,hb,hh,N,r⟩
 ·refine ⟨none,0,rfl,Fy _,?_⟩
  have:xs=[]:=List.eq_nil_of_length_eq_zero (by rw[h.1];simp);rw[this];exact Rd.nil
 obtain ⟨A,c,I,O⟩:=ar h;injection I with I e2 e3;subst I e3;refine ⟨_,_,rfl,N,h.1,fun Z=>?_⟩;obtain ⟨g',D,U,J⟩:=O Z;injection D with D;injection D with D;subst D;exact ⟨_,rfl,by simp,U,fun j u M=>by rw[cJ,Nat.zero_add];exact J j u M⟩
def nZ (W:World) (v:Value) (l:List Bs):Prop:=l.length≤4294967296∧∃ A c,v=FN A l.length c∧l.length≤c∧Rd W [] 1 A l.length (strs l)
def jV (W:World) (v:Value) (l:List Cl):Prop:=l.length≤4294967296∧∃ A c,v=FN A l.length c∧l.length≤c∧Rd W [] 2 A l.length (ai l)
def uF (W:World) (cs:List Value) (x:In):Prop:=∃ v,cs=[FR FS x.at_,FM (bs x.name),v]∧jV W v x.cols
def iy (W:World) (cs:List Value) (x:Jb):Prop:=∃ I h D,cs=(bK x I h D).toList∧nZ W I x.outs∧nZ W h x.ins∧nZ W D x.cols
def Fc (_:World) (cs:List Value) (x:Pb):Prop:=cs=[FR FS x.at_,FM (bs x.name),FM (bs x.src)]
def fB {α:Type} (D:World→List Value→α→Prop) (size:Nat) (W:World) (v:Value) (l:List α):Prop :=
 l.length≤4294967296∧∃ A c,v=FN A l.length c∧l.length≤c∧∀ j (h:j<l.length),∃ g cs,A=some ⟨g,0,none⟩∧g<W.heap.size∧cs.length=size∧D W cs l[j]∧∀ k u,cs[k]? = some u→W.cell? ⟨g,j*size+k,none⟩=some u
structure jj (W:World) (v0 v1 v2:Value) (f:Fl):Prop where
 i0:fB uF 3 W v0 f.ins
 i1:fB iy 15 W v1 f.jobs
 i2:fB Fc 3 W v2 f.outs
section
variable {W W':World} {v:Value}
theorem nZ.keep {l:List Bs} (h:nZ W v l) (D:aa [] W W'):nZ W' v l:=by
 obtain ⟨J,A,c,M,N,I⟩:=h;exact ⟨J,A,c,M,N,I.keep D⟩
theorem jV.keep {l:List Cl} (h:jV W v l) (D:aa [] W W'):jV W' v l:=by
 obtain ⟨J,A,c,M,N,I⟩:=h;exact ⟨J,A,c,M,N,I.keep D⟩
theorem uF.keep {cs:List Value} {x:In} (h:uF W cs x) (D:aa [] W W'):uF W' cs x:=by
 obtain ⟨v,I,J⟩:=h;exact ⟨v,I,J.keep D⟩
theorem iy.keep {cs:List Value} {x:Jb} (h:iy W cs x) (D:aa [] W W'):iy W' cs x:=by
 obtain ⟨U,J,M,O,Z,N,I⟩:=h;exact ⟨U,J,M,O,Z.keep D,N.keep D,I.keep D⟩
theorem fB.keep {α:Type} {D:World→List Value→α→Prop} {size:Nat} {l:List α} (h:fB D size W v l) (J:aa [] W W') (U:∀ cs x,D W cs x→D W' cs x):fB D size W' v l:=by
 obtain ⟨h0,A,c,h1,I,Z⟩:=h;refine ⟨h0,A,c,h1,I,fun j M=>?_⟩;obtain ⟨g,cs,e,hg,hl,N,I⟩:=Z j M;exact ⟨g,cs,e,Nat.lt_of_lt_of_le hg J.size,hl,U _ _ N,fun k u O=>J.cell_of (I k u O) (by simp)⟩
theorem jj.keep {J M I:Value} {f:Fl} (h:jj W J M I f) (D:aa [] W W'):jj W' J M I f :=
 ⟨h.i0.keep D fun _ _ h=>h.keep D,h.i1.keep D fun _ _ h=>h.keep D,h.i2.keep D fun _ _ h=>h⟩
theorem fB.of {α:Type} {O:World→List Value→α→Prop} {D:World→Nat→List Value→α→Prop} {e:TypeId} {size base:Nat} {l:List α} (h:cP D e size W base v l) (N:∀ cs x,D W base cs x→cs.length=size) (hn:l.length≤4294967296) (Z:∀ cs x,x∈l→D W base cs x→O W cs x):fB O size W v l:=by
 have h':=h;obtain ⟨us,h1,h2,h3⟩:=h';obtain ⟨A,c,rfl,U,_⟩:=fA h2;refine ⟨hn,A,c,rfl,U,fun j J=>?_⟩;obtain ⟨g,cs,e,hg,M,I⟩:=Dz h N j J;exact ⟨g,cs,e,hg,N _ _ M,Z _ _ (FE J) M,I⟩
end
end
section
open Go.RowKit Go.BigFrame
attribute [local go_sem] ag ab ae af
def Da (k:Nat) (cap:Array Value) (p:In→Bool) (l:List In) (w:World):Prop :=
 ∀ x∈l,∀ W cs,aa [] w W→uF W cs x→Calls Tryz.prog k (#[.agg cs.toArray]++cap) W fun e W'=>e=FP (.bool (p x))∧aa [] W W'
theorem n3 (k:Nat) (cap:Array Value) (he:∀ args w,(callFunc k args).run Tryz.prog w= .ok (.enter k args) w) (p:In→Bool) (l:List In) (v:Value) (w:World) (hR:fB uF 3 w v l) (hf:Da k cap p l w) :
  Calls Tryz.prog 69 #[v,.func (.func k) #[] cap] w fun e w'=>e=FP (FR FS (bh p l))∧aa [] w w':=by
 have hR':=hR;obtain ⟨hl,A,c,rfl,a1,Z⟩:=hR;have HR:=Fx Z;have HF:=Fx hf;clear hR' hf Z;go_enter Tryz.func69,Tryz.ntmps69
 go_wp2;go_loopw [8] (fun i wr=>∃ n:Nat,n≤l.length∧i=FR FS n∧Hid (∀ j (I:j<n) (hl:j<l.length),p l[j]=false)∧Hid (aa [] w wr)) (fun i _=>l.length-(intOf i).toNat)
 case atStart=>exact ⟨0,FF _,rfl,fun j I=>absurd I (by omega),Fx (FK _ _)⟩
 obtain ⟨n,hn,rfl,J,O⟩:=hrel;by_cases M:n<l.length
 ·obtain ⟨g,cs,rfl,hg,a0,ad,av⟩:=HR.out n M
  have hEl':=ad.keep O.out;have HH:=HF.out l[n] (FE M) wr cs O.out hEl';have hc:∀ j u,cs[j]? = some u→wr.cell? ⟨g,n*3+j,none⟩=some u:=fun j u hu=>O.out.cell_of (av j u hu) (by simp)
  generalize hx:l[n]=x at *;have HX:=Fx hx;obtain ⟨vc,rfl,-⟩:=ad;have d0:=hc 0 _ rfl;have d1:=hc 1 _ rfl;have d2:=hc 2 _ rfl;rw[Nat.add_zero] at d0;have HH':Hid (Calls Tryz.prog k (#[.agg #[FR FS x.at_,FM (bs x.name),vc]]++cap) wr fun e W'=>e=FP (.bool (p x))∧aa [] wr W'):=Fx HH;clear HH hc hx av a0 hEl'
  cases U:p x with
  | true =>
   have D:bh p l=(n:Int):=dX M (fun j I=>J j I (by omega)) ((congrArg p HX.out).trans U);rw[U] at HH';have HP:=Fx D;clear D U;go_wp2_with fail
   refine HH'.out.mono ?_;rintro e W2 ⟨rfl,N⟩;go_wp2;go_ret;exact ⟨by rw[HP.out];rfl,O.out.trans N⟩
  | false =>
   have hno':Hid (∀ j (I:j<n+1) (hl:j<l.length),p l[j]=false):=fun j I hl=>by
    by_cases h:j<n
    ·exact J j h hl
    obtain rfl:j=n:=by omega
    exact (congrArg p HX.out).trans U
   rw[U] at HH';clear U;go_wp2_with fail
   refine HH'.out.mono ?_;rintro e W2 ⟨rfl,N⟩;have aA:=Fx (O.out.trans N);go_wp2;go_roundw
   case rel=>exact ⟨n+1,by omega,by go_num,hno',aA⟩
   case measure=>simp[intOf];omega
 have D:Hid (bh p l= -1):=dF fun j I=>J j (by omega) I
 go_wp2;go_ret;exact ⟨by rw[D.out];rfl,O.out⟩
theorem gd (k:Nat) (cap:Array Value) (N:∀ args w,(callFunc k args).run Tryz.prog w= .ok (.enter k args) w) (p:In→Bool) (l:List In) (v:Value) (w:World) (J:fB uF 3 w v l) (M:Da k cap p l w) :
  Calls Tryz.prog 30 #[v,.func (.func k) #[] cap] w fun e w'=>e=FP (.bool (l.any p))∧aa [] w w':=by
 have O:=Fx (n3 k cap N p l v w J M);clear M N;obtain ⟨Z,A,c,rfl,I,h⟩:=J;clear h;rw[←dY];go_enter Tryz.func30,Tryz.ntmps30
 go_wp2_with (go_at_call 69;refine O.out.mono ?_;rintro e U ⟨rfl,D⟩)
 go_ret;exact ⟨rfl,D⟩
def Db (k:Nat) (cap:Array Value) (p:Jb→Bool) (l:List Jb) (w:World):Prop :=
 ∀ x∈l,∀ W cs,aa [] w W→iy W cs x→Calls Tryz.prog k (#[.agg cs.toArray]++cap) W fun e W'=>e=FP (.bool (p x))∧aa [] W W'
theorem jk (k:Nat) (cap:Array Value) (he:∀ args w,(callFunc k args).run Tryz.prog w= .ok (.enter k args) w) (p:Jb→Bool) (l:List Jb) (v:Value) (w:World) (hR:fB iy 15 w v l) (hf:Db k cap p l w) :
  Calls Tryz.prog 70 #[v,.func (.func k) #[] cap] w fun e w'=>e=FP (FR FS (bh p l))∧aa [] w w':=by
 have hR':=hR;obtain ⟨hl,A,c,rfl,a2,ad⟩:=hR;have HR:=Fx ad;have HF:=Fx hf;clear hR' hf ad;go_enter Tryz.func70,Tryz.ntmps70
 go_wp2;go_loopw [8] (fun i wr=>∃ n:Nat,n≤l.length∧i=FR FS n∧Hid (∀ j (J:j<n) (hl:j<l.length),p l[j]=false)∧Hid (aa [] w wr)) (fun i _=>l.length-(intOf i).toNat)
 case atStart=>exact ⟨0,FF _,rfl,fun j J=>absurd J (by omega),Fx (FK _ _)⟩
 obtain ⟨n,hn,rfl,M,U⟩:=hrel;by_cases N:n<l.length
 ·obtain ⟨g,cs,rfl,hg,a1,av,aA⟩:=HR.out n N
  have hEl':=av.keep U.out;have HH:=HF.out l[n] (FE N) wr cs U.out hEl';have D:∀ j u,cs[j]? = some u→wr.cell? ⟨g,n*15+j,none⟩=some u:=fun j u hu=>U.out.cell_of (aA j u hu) (by simp)
  generalize hx:l[n]=x at *;have HX:=Fx hx;obtain ⟨v2,v3,v4,rfl,-,-,-⟩:=av;have d0:=D 0 _ rfl;have d1:=D 1 _ rfl;have d2:=D 2 _ rfl;have d3:=D 3 _ rfl;have d4:=D 4 _ rfl;have d5:=D 5 _ rfl;have d6:=D 6 _ rfl;have d7:=D 7 _ rfl;have d8:=D 8 _ rfl;have d9:=D 9 _ rfl;have a4:=D 10 _ rfl;have a3:=D 11 _ rfl;have a7:=D 12 _ rfl;have a5:=D 13 _ rfl;have a6:=D 14 _ rfl;rw[Nat.add_zero] at d0;have HH':Hid (Calls Tryz.prog k (#[.agg (bK x v2 v3 v4)]++cap) wr fun e W'=>e=FP (.bool (p x))∧aa [] wr W'):=Fx HH;clear HH D hx aA a1 hEl'
  cases Z:p x with
  | true =>
   have I:bh p l=(n:Int):=dX N (fun j J=>M j J (by omega)) ((congrArg p HX.out).trans Z);rw[Z] at HH';have HP:=Fx I;clear I Z;go_wp2_with fail
   refine HH'.out.mono ?_;rintro e W2 ⟨rfl,O⟩;go_wp2;go_ret;exact ⟨by rw[HP.out];rfl,U.out.trans O⟩
  | false =>
   have hno':Hid (∀ j (J:j<n+1) (hl:j<l.length),p l[j]=false):=fun j J hl=>by
    by_cases h:j<n
    ·exact M j h hl
    obtain rfl:j=n:=by omega
    exact (congrArg p HX.out).trans Z
   rw[Z] at HH';clear Z;go_wp2_with fail
   refine HH'.out.mono ?_;rintro e W2 ⟨rfl,O⟩;have a0:=Fx (U.out.trans O);go_wp2;go_roundw
   case rel=>exact ⟨n+1,by omega,by go_num,hno',a0⟩
   case measure=>simp[intOf];omega
 have I:Hid (bh p l= -1):=dF fun j J=>M j (by omega) J
 go_wp2;go_ret;exact ⟨by rw[I.out];rfl,U.out⟩
theorem k4 (k:Nat) (cap:Array Value) (N:∀ args w,(callFunc k args).run Tryz.prog w= .ok (.enter k args) w) (p:Jb→Bool) (l:List Jb) (v:Value) (w:World) (J:fB iy 15 w v l) (M:Db k cap p l w) :
  Calls Tryz.prog 32 #[v,.func (.func k) #[] cap] w fun e w'=>e=FP (.bool (l.any p))∧aa [] w w':=by
 have O:=Fx (jk k cap N p l v w J M);clear M N;obtain ⟨Z,A,c,rfl,I,h⟩:=J;clear h;rw[←dY];go_enter Tryz.func32,Tryz.ntmps32
 go_wp2_with (go_at_call 70;refine O.out.mono ?_;rintro e U ⟨rfl,D⟩)
 go_ret;exact ⟨rfl,D⟩
def fo (f:Fl) (n:Bs):Int:=if kA f n then -1 else bh (fun j:Jb=>j.outs.contains n) f.jobs
def jp (f:Fl) (n:Bs):Bool:=kA f n||decide (0≤bh (fun j:Jb=>j.outs.contains n) f.jobs)
theorem uJ (x:In) (D:Value) (n:Bs) (X:Nat) (W:World) (h:W.cell? ⟨X,0,none⟩=some (FM (bs n))) :
  Calls Tryz.prog 130 #[.agg #[FR FS x.at_,FM (bs x.name),D],FO (some ⟨X,0,none⟩)] W fun e W'=>e=FP (.bool (x.name==n))∧aa [] W W':=by
 have I:=FC _ _ h;go_enter Tryz.func130,Tryz.ntmps130
 go_wp2;go_ret;exact ⟨rfl,(FK _ _).alloc _⟩
theorem uK (x:Jb) (I U Z:Value) (n:Bs) (X:Nat) (W:World) (h:W.cell? ⟨X,0,none⟩=some (FM (bs n))) (N:nZ W I x.outs) :
  Calls Tryz.prog 131 #[.agg (bK x I U Z),FO (some ⟨X,0,none⟩)] W fun e W'=>e=FP (.bool (x.outs.contains n))∧aa [] W W':=by
 have hl:=FC _ _ h;obtain ⟨D,A,c,rfl,M,J⟩:=N;have O:Hid (∀ W',aa [] W W'→Calls Tryz.prog 34 #[FN A x.outs.length c,FM (bs n)] W' fun e w'=>e=FP (.bool (x.outs.contains n))∧W'=w'):=Fx fun W' z=>by
  have:=la n x.outs A c W' (J.keep z) D;rw[←List.contains_eq_any_beq] at this;exact this
 clear J M;generalize x.outs.contains n=R at *;unfold bK;go_enter Tryz.func131,Tryz.ntmps131
 go_wp2_with ((with_reducible refine (O.out _ ((FK _ _).alloc _)).mono ?_);rintro e w5 ⟨rfl,rfl⟩)
 go_ret;exact ⟨rfl,(FK _ _).alloc _⟩
theorem xN (f:Fl) (N J M:Value) (n:Bs) (w:World) (hF:jj w N J M f) :
  Calls Tryz.prog 88 #[.agg #[N,J,M],FM (bs n)] w fun e w'=>e=FP (.tuple #[FR FS (fo f n),.bool (jp f n)])∧aa [] w w':=by
 have I:aa [] w ((w.alloc (FQ #[N,J,M] 29)).alloc (FQ #[FM (bs n)] 9)):=((FK _ _).alloc _).alloc _;have O:=FL (w.alloc (FQ #[N,J,M] 29)) 9 #[FM (bs n)];have ad:=(FL w 29 #[N,J,M]).alloc (FQ #[FM (bs n)] 9);rw[nk] at O;have HI:Hid (∀ W,aa [] ((w.alloc (FQ #[N,J,M] 29)).alloc (FQ #[FM (bs n)] 9)) W→Calls Tryz.prog 30 #[N,.func (.func 130) #[] #[FO (some ⟨w.heap.size+1,0,none⟩)]] W fun e w'=>e=FP (.bool (kA f n))∧aa [] W w'):=Fx fun W z =>
  gd 130 _ (fun _ _=>by rfl) (fun x=>x.name==n) f.ins N W (hF.i0.keep (I.trans z) fun _ _ h=>h.keep (I.trans z)) (fun x hx W' cs z' U=>by
   obtain ⟨vc,rfl,_⟩:=U;exact uJ x vc n _ W' ((O.keep (z.trans z') (by simp)).cell 0))
 have HJ:Hid (∀ W,aa [] ((w.alloc (FQ #[N,J,M] 29)).alloc (FQ #[FM (bs n)] 9)) W→Calls Tryz.prog 70 #[J,.func (.func 131) #[] #[FO (some ⟨w.heap.size+1,0,none⟩)]] W fun e w'=>e=FP (FR FS (bh (fun j:Jb=>j.outs.contains n) f.jobs))∧aa [] W w'):=Fx fun W z =>
  jk 131 _ (fun _ _=>by rfl) (fun j=>j.outs.contains n) f.jobs J W (hF.i1.keep (I.trans z) fun _ _ h=>h.keep (I.trans z)) (fun x hx W' cs z' U=>by
   obtain ⟨M,v3,v4,rfl,h2,_,_⟩:=U;exact uK x M v3 v4 n _ W' ((O.keep (z.trans z') (by simp)).cell 0) h2)
 have hm:Hid (kA f n=true→fo f n= -1∧jp f n=true):=Fx fun h=>by unfold fo jp;rw[h];exact ⟨rfl,rfl⟩
 have Z:Hid (kA f n=false→fo f n=bh (fun j:Jb=>j.outs.contains n) f.jobs∧jp f n=decide (0≤bh (fun j:Jb=>j.outs.contains n) f.jobs)):=Fx fun h=>by unfold fo jp;rw[h];exact ⟨rfl,rfl⟩
 have aA:Hid (∀ W,aa [] ((w.alloc (FQ #[N,J,M] 29)).alloc (FQ #[FM (bs n)] 9)) W→W.cell? ⟨w.heap.size,1,none⟩=some J):=Fx fun W z=>(ad.keep z (by simp)).cell 1
 have av:=Fx I;clear hF ad O I;generalize bh (fun j:Jb=>j.outs.contains n) f.jobs=K at *
 cases D:kA f n with
 | true =>
  rw[D] at HI;obtain ⟨m1,m2⟩:=hm.out D;rw[m1,m2];clear m1 m2 hm Z HJ D;go_enter Tryz.func88,Tryz.ntmps88
  go_wp2_with ((with_reducible refine (HI.out _ (FK _ _)).mono ?_);rintro e w5 ⟨rfl,k5⟩)
  go_ret2;exact ⟨rfl,av.out.trans k5⟩
 | false =>
  rw[D] at HI;obtain ⟨m1,m2⟩:=Z.out D;rw[m1,m2];clear m1 m2 hm Z D;go_enter Tryz.func88,Tryz.ntmps88
  go_wp2_with (first|((with_reducible refine (HI.out _ (FK _ _)).mono ?_);rintro e w5 ⟨rfl,k5⟩;have b1:=aA.out _ k5)|((with_reducible refine (HJ.out _ k5).mono ?_);rintro e w6 ⟨rfl,k6⟩))
  go_ret2;exact ⟨rfl,av.out.trans (k5.trans k6)⟩
def dc (l:List Nat):List Int:=l.map fun k:Nat=>(k:Int)
theorem sQ (f:Fl) (n:Bs) (done:List Nat):(!jp f n||(decide (0≤fo f n) && !((dc done).any fun t=>fo f n==t)))= !eK f done n:=by
 have h:bh (fun j:Jb=>j.outs.contains n) f.jobs=match kB f n with|some i=>(i:Int)|none=> -1:=rfl
 unfold jp fo eK;rw[h]
 cases I:kA f n with
 | true=>simp
 | false =>
  cases D:kB f n with
  | none=>simp
  | some k =>
   have e:((dc done).any fun t=>(k:Int)==t)=done.contains k:=by
    rw[List.contains_eq_any_beq];unfold dc;rw[List.any_map];congr 1
    funext t
    rw[Bool.eq_iff_iff];simp;omega
   simp[e]
theorem uL (f:Fl) (N J I:Value) (n:Bs) (done:List Nat) (A:Option Addr) (c X Y:Nat) (w:World) (Z:jj w N J I f) (M:w.cell? ⟨X,0,none⟩=some N) (ad:w.cell? ⟨X,1,none⟩=some J) (av:w.cell? ⟨X,2,none⟩=some I)
  (hY:w.cell? ⟨Y,0,none⟩=some (FN A (dc done).length c)) (O:Rd w [] 1 A (dc done).length ((dc done).map (Value.int .i64))) (hl:(dc done).length≤4294967296) :
  Calls Tryz.prog 87 #[FM (bs n),FO (some ⟨X,0,none⟩),FO (some ⟨Y,0,none⟩)] w fun e w'=>e=FP (.bool (!eK f done n))∧aa [] w w':=by
 rw[←sQ];have D:=Fx (xN f N J I n w Z);have HC:Hid (∀ W,aa [] w W→Calls Tryz.prog 55 #[FN A (dc done).length c,FR FS (fo f n)] W fun e w'=>e=FP (.bool ((dc done).any fun t=>fo f n==t))∧W=w'):=Fx fun W z=>ld _ _ A c W (O.keep z) hl
 have HY:Hid (∀ W,aa [] w W→W.cell? ⟨Y,0,none⟩=some (FN A (dc done).length c)):=Fx fun W z=>z.cell_of hY (by simp)
 clear Z O hY;generalize ((dc done).any fun t=>fo f n==t)=Q at *;generalize fo f n=K at *;have l0:=FC _ _ M
 cases hB:jp f n with
 | false =>
  rw[hB] at D;go_enter Tryz.func87,Tryz.ntmps87
  go_wp2_with ((with_reducible refine D.out.mono ?_);rintro e w5 ⟨rfl,h⟩)
  go_ret;exact ⟨rfl,h⟩
 | true =>
  rw[hB] at D;by_cases U:0≤K
  ·rw[decide_eq_true U]
   go_enter Tryz.func87,Tryz.ntmps87
   go_wp2_with (first|((with_reducible refine D.out.mono ?_);rintro e w5 ⟨rfl,h⟩;have b1:=HY.out _ h)|((with_reducible refine (HC.out _ h).mono ?_);rintro e w6 ⟨rfl,rfl⟩))
   go_ret;exact ⟨by cases Q<;>rfl,h⟩
  rw[decide_eq_false U];go_enter Tryz.func87,Tryz.ntmps87
  go_wp2_with ((with_reducible refine D.out.mono ?_);rintro e w5 ⟨rfl,h⟩)
  go_ret;exact ⟨rfl,h⟩
theorem DK {W:World} {M:Value} {l:List Jb} (h:fB iy 15 W M l) (k:Nat) (N:k<l.length):∃ g c D I J,M=FN (some ⟨g,0,none⟩) l.length c∧l.length≤4294967296∧nZ W D l[k].outs∧nZ W I l[k].ins∧nZ W J l[k].cols∧∀ i u,(bK l[k] D I J).toList[i]? = some u→W.cell? ⟨g,k*15+i,none⟩=some u:=by
 obtain ⟨hl,A,c,rfl,_,h⟩:=h;obtain ⟨g,cs,rfl,hg,_,⟨D,I,J,rfl,U,h3,Z⟩,O⟩:=h k N;exact ⟨g,c,D,I,J,rfl,hl,U,h3,Z,O⟩
theorem xO (f:Fl) (M v1 I:Value) (k:Nat) (hk:k<f.jobs.length) (done:List Nat) (A:Option Addr) (c:Nat) (w:World) (hF:jj w M v1 I f) (hR:Rd w [] 1 A (dc done).length ((dc done).map (Value.int .i64))) (hl:(dc done).length≤4294967296) :
  Calls Tryz.prog 56 #[.agg #[M,v1,I],FR FS k,FN A (dc done).length c] w fun e w'=>e=FP (.bool (bL f done k))∧aa [] w w':=by
 obtain ⟨g,Z,u2,u3,u4,rfl,a2,h2,h3,h4,U⟩:=DK hF.i1 k hk;have h:aa [] w ((w.alloc (FQ #[M,FN (some ⟨g,0,none⟩) f.jobs.length Z,I] 29)).alloc (FQ #[FN A (dc done).length c] 77)):=((FK _ _).alloc _).alloc _;have J:=FL (w.alloc (FQ #[M,FN (some ⟨g,0,none⟩) f.jobs.length Z,I] 29)) 77 #[FN A (dc done).length c];have D:=(FL w 29 #[M,FN (some ⟨g,0,none⟩) f.jobs.length Z,I]).alloc (FQ #[FN A (dc done).length c] 77);rw[nk] at J;have aA:w.cell? ⟨g,k*15+3,none⟩=some u3:=U 3 _ rfl;have a1:=FC _ _ aA;obtain ⟨av,A3,c3,rfl,a0,O⟩:=h3;have hi:(k:Int)<(f.jobs.length:Int):=by omega
 have e1:bL f done k= !(f.jobs[k].ins.any fun n=> !eK f done n):=by
  unfold bL;rw[ee hk,List.all_eq_not_any_not]
 rw[e1];have HC:Hid (∀ W,aa [] ((w.alloc (FQ #[M,FN (some ⟨g,0,none⟩) f.jobs.length Z,I] 29)).alloc (FQ #[FN A (dc done).length c] 77)) W→Calls Tryz.prog 53 #[FN A3 f.jobs[k].ins.length c3,.func (.func 87) #[] #[FO (some ⟨w.heap.size,0,none⟩),FO (some ⟨w.heap.size+1,0,none⟩)]] W fun e w'=>e=FP (.bool (f.jobs[k].ins.any fun n=> !eK f done n))∧aa [] W w'):=Fx fun W z =>
  ge 87 _ (fun _ _=>by rfl) (fun n=> !eK f done n) f.jobs[k].ins A3 c3 W (O.keep (h.trans z)) av (fun n hn W' N=>uL f M _ I n done A c _ _ W' (hF.keep (h.trans (z.trans N))) ((D.keep (z.trans N) (by simp)).cell 0) ((D.keep (z.trans N) (by simp)).cell 1) ((D.keep (z.trans N) (by simp)).cell 2) ((J.keep (z.trans N) (by simp)).cell 0) (hR.keep (h.trans (z.trans N))) hl)
 have ad:=Fx h;generalize (f.jobs[k].ins.any fun n=> !eK f done n)=Q at *;generalize f.jobs[k].ins.length=m3 at *;clear hF D J h U hR hl O h2 h4 e1 a0;go_enter Tryz.func56,Tryz.ntmps56
 go_wp2_with ((with_reducible refine (HC.out _ (FK _ _)).mono ?_);rintro e w5 ⟨rfl,k5⟩)
 go_ret;exact ⟨rfl,ad.out.trans k5⟩
theorem EE:(Tryz.prog.info? 3).map (fun i=>(i.zero,i.size,i.bytes))=some (some (FR FS 0),1,8):=by kernel_rfl
def gQ (l:List Nat):List Value:=(dc l).map (Value.int .i64)
theorem fG (l:List Nat):(dc l).length=l.length:=by simp[dc]
theorem uM (l:List Nat) (k:Nat):gQ (l++[k])=gQ l++[FR FS k]:=by simp[gQ,dc]
theorem B7 (l:List Nat) (k:Nat):((dc l).any fun t=>(k:Int)==t)=l.contains k:=by
 rw[List.contains_eq_any_beq];unfold dc;rw[List.any_map];congr 1
 funext t
 rw[Bool.eq_iff_iff];simp;omega
def zU (R:Except (Int×Int) (List Nat)) (e:Ending) (w':World):Prop:=match R with
 | .ok l=>∃ A c,e=FP (.tuple #[FN A l.length c,.nilIface])∧l.length≤c∧Rd w' [] 1 A l.length (gQ l)
 | .error x=>∃ h,e=FP (.tuple #[FN none 0 0,.iface 73 (FO (some ⟨h,0,none⟩))])∧ao w' h 75 #[FR FS x.1,FR FS x.2]
theorem xP {f:Fl} {out:List Nat} {k:Nat} (N:k<f.jobs.length) (M:k∉out) (I:bL f out k=true) (O:∀ j,j<k→j∉out→bL f out j=false):dJ f out=some k:=by
 cases h:dJ f out with
 | none=>rw[n9 h k N M] at I;cases I
 | some J =>
  obtain ⟨a,b,c,d⟩:=kD h;rcases Nat.lt_trichotomy k J with D|rfl|D
  ·rw[d k D M] at I;cases I
  ·rfl
  rw[O J D b] at c;cases c
theorem uN {f:Fl} {out:List Nat} (I:∀ j,j<f.jobs.length→j∉out→bL f out j=false):dJ f out=none:=by
 cases h:dJ f out with
 | none=>rfl
 | some D =>
  obtain ⟨a,b,c,d⟩:=kD h;rw[I D a b] at c;cases c
theorem xQ {f:Fl} {out:List Nat} {k:Nat} (h:k<f.jobs.length) (J:k∉out) (I:∀ j,j<k→j∈out):wl f out=some k:=by
 unfold wl;rw[List.find?_eq_some_iff_getElem];refine ⟨by simpa using J,k,by simpa using h,by simp,fun j D=>?_⟩;simpa using I j D
theorem sR {f:Fl} {n k:Nat} {out:List Nat} (h:dJ f out=some k):cW f (n+1) out=cW f n (out++[k]):=by
 rw[cW,h]
theorem rA {f:Fl} {n:Nat} {out:List Nat} (h:dJ f out=none):cW f (n+1) out= .error (11,(jb f ((wl f out).getD 0)).at_):=by
 rw[cW,h]
def DL:Value→Nat
 | FN _ n _=>n
 | _=>0
theorem qo (f:Fl) (v0 v1 v2:Value) (w:World) (hF:jj w v0 v1 v2 f) :
  Calls Tryz.prog 21 #[.agg #[v0,v1,v2]] w fun e w'=>zU (cG f) e w'∧aa [] w w':=by
 obtain ⟨i0,b3,bm,b0,bk⟩:=info_parts EE;obtain ⟨R,hR⟩:∃ R,cG f=R:=⟨_,rfl⟩
 rw[hR];unfold cG at hR;have b7:=hF.i1;obtain ⟨ch,Aj,cj,rfl,cg,a3⟩:=b7;have a7:=FL w 29 #[v0,FN Aj f.jobs.length cj,v2];have av:aa [] w (w.alloc (FQ #[v0,FN Aj f.jobs.length cj,v2] 29)):=(FK _ _).alloc _;obtain ⟨y0,bb⟩:∃ z,w.alloc (FQ #[v0,FN Aj f.jobs.length cj,v2] 29)=z:=⟨_,rfl⟩
 have HF:=Fx hF;have HA:=Fx a3;have HR:=Fx hR;rw[bb] at a7 av;have HB:=Fx a7;have I:=Fx av;have ba:w.heap.size≤y0.heap.size:=av.size;have b5:=Fx ba;clear hF a3 a7 av hR ba;obtain ⟨X,hX⟩:∃ X,w.heap.size=X:=⟨_,rfl⟩
 rw[hX] at HB b5;go_enter Tryz.func21,Tryz.ntmps21
 go_upto_block 0 with (fail)
 clear bb hX;have a4:Hid (∀ W,aa [] y0 W→W.cell? ⟨X,0,none⟩=some v0∧W.cell? ⟨X,1,none⟩=some (FN Aj f.jobs.length cj)∧W.cell? ⟨X,2,none⟩=some v2∧X<W.heap.size):=Fx fun W z=>⟨(HB.out.keep z (by simp)).cell 0,(HB.out.keep z (by simp)).cell 1,(HB.out.keep z (by simp)).cell 2,(HB.out.keep z (by simp)).lt⟩
 go_wp2_with fail
 go_loopw [4] (fun u wr=>∃ out:List Nat,out.length≤f.jobs.length∧DL u=out.length∧Hid (wr.ownsRow y0.heap.size 3 1 u out.length (gQ out))∧Hid (cW f (f.jobs.length-out.length) out=R)∧Hid (aa [] y0 wr)) (fun u _=>f.jobs.length-DL u)
 case atStart=>exact ⟨[],FF _,rfl,Fx (World.ownsRow_nil _ _ _ _),HR,Fx (FK _ _)⟩
 obtain ⟨out,cd,ca,HO,HG,O⟩:=hrel;obtain ⟨y1,rfl⟩:∃ z:World,z=wr:=⟨_,rfl⟩
 obtain ⟨Ao,co,rfl,-,be⟩:=fA HO.out;have a5:=Fx be;obtain ⟨q0,q1,q2,ql⟩:=a4.out _ O.out;clear be;by_cases b6:out.length<f.jobs.length
 ·have a8:(out.length:Int)<(f.jobs.length:Int):=by omega
  have aA:Hid (∀ (j:Nat) W,aa [] y1 W→Calls Tryz.prog 55 #[FN Ao out.length co,FR FS j] W fun e w'=>e=FP (.bool (out.contains j))∧W=w'):=Fx fun j W z=>by
   have:=ld (j:Int) (dc out) Ao co W (by rw[fG];exact a5.out.keep z) (by rw[fG];omega);rw[B7,fG] at this;exact this
  have a9:Hid (∀ (j:Nat) W,j<f.jobs.length→aa [] y1 W→Calls Tryz.prog 56 #[.agg #[v0,FN Aj f.jobs.length cj,v2],FR FS j,FN Ao out.length co] W fun e w'=>e=FP (.bool (bL f out j))∧aa [] W w'):=Fx fun j W hj z=>by
   have:=xO f v0 _ v2 j hj out Ao co W (HF.out.keep (I.out.trans (O.out.trans z))) (by rw[fG];exact a5.out.keep z) (by rw[fG];omega);rw[fG] at this;exact this
  go_upto_block 2 with (fail)
  go_cut [5] (fun u wx=>(∃ k:Nat,k<f.jobs.length∧Hid (dJ f out=some k)∧u=FR FS k∨k=0∧Hid (dJ f out=none)∧u=FR FS (-1))∧Hid (aa [] y1 wx))
  case first =>
   go_wp2_with fail
   go_loopw [5,18] (fun u i wx=>∃ j:Nat,j≤f.jobs.length∧u=FR FS (-1)∧i=FR FS j∧Hid (∀ t,t<j→t∉out→bL f out t=false)∧Hid (aa [] y1 wx)) (fun _ i _=>f.jobs.length-(intOf i).toNat)
   case atStart=>exact ⟨0,FF _,rfl,rfl,Fx (fun t ht=>absurd ht (by omega)),Fx (FK _ _)⟩
   clear q0 q1 q2 ql;obtain ⟨j,hj,rfl,rfl,HN,D⟩:=hrel;obtain ⟨wj,rfl⟩:∃ z:World,z=wr:=⟨_,rfl⟩
   obtain ⟨q0,q1,q2,ql⟩:=a4.out _ (O.out.trans D.out);by_cases N:j<f.jobs.length
   ·have bc:(j:Int)<(f.jobs.length:Int):=by omega
    by_cases M:j∈out
    ·have HC:Hid (Calls Tryz.prog 55 #[FN Ao out.length co,FR FS j] wj fun e w'=>e=FP (.bool true)∧wj=w'):=Fx (by
      have:=aA.out j wj D.out;rw[List.contains_iff_mem.2 M] at this;exact this)
     have HN':Hid (∀ t,t<j+1→t∉out→bL f out t=false):=Fx fun t ht hn=>by
      by_cases h:t<j
      ·exact HN.out t h hn
      obtain rfl:t=j:=by omega
      exact absurd M hn
     clear M;go_wp2_with ((with_reducible refine HC.out.mono ?_);rintro e w5 ⟨rfl,rfl⟩)
     go_roundw
     case rel=>exact ⟨j+1,by omega,rfl,by go_num,HN',D⟩
     case measure=>simp[intOf];omega
    have HC:Hid (Calls Tryz.prog 55 #[FN Ao out.length co,FR FS j] wj fun e w'=>e=FP (.bool false)∧wj=w'):=Fx (by
     have:=aA.out j wj D.out;rw[show out.contains j=false by simpa using M] at this;exact this)
    have a1:=Fx (a9.out j wj N D.out)
    cases hr:bL f out j with
    | true =>
     have HN':=Fx (xP N M hr HN.out);rw[hr] at a1;clear M hr;go_wp2_with (first|((with_reducible refine HC.out.mono ?_);rintro e w5 ⟨rfl,rfl⟩)|((with_reducible refine a1.out.mono ?_);rintro e w6 ⟨rfl,k6⟩))
     go_meet
     case rel=>exact ⟨⟨j,.inl ⟨N,HN',rfl⟩⟩,Fx (D.out.trans k6)⟩
    | false =>
     have HN':Hid (∀ t,t<j+1→t∉out→bL f out t=false):=Fx fun t ht hn=>by
      by_cases h:t<j
      ·exact HN.out t h hn
      obtain rfl:t=j:=by omega
      exact hr
     rw[hr] at a1;clear M hr;go_wp2_with (first|((with_reducible refine HC.out.mono ?_);rintro e w5 ⟨rfl,rfl⟩)|((with_reducible refine a1.out.mono ?_);rintro e w6 ⟨rfl,k6⟩))
     have Z:=Fx (D.out.trans k6);go_roundw
     case rel=>exact ⟨j+1,by omega,rfl,by go_num,HN',Z⟩
     case measure=>simp[intOf];omega
   have HN':=Fx (uN fun t ht hn=>HN.out t (by omega) hn);have bc:¬(j:Int)<(f.jobs.length:Int):=by omega
   go_wp2;go_meet
   case rel=>exact ⟨⟨0,.inr ⟨rfl,HN',rfl⟩⟩,D⟩
  obtain ⟨⟨k,a6⟩,ad⟩:=hcut;clear q0 q1 q2 ql;obtain ⟨q0,q1,q2,ql⟩:=a4.out _ (O.out.trans ad.out);have J:=Fx (O.out.trans ad.out);rcases a6 with ⟨hk,a0,rfl⟩|⟨-,a0,rfl⟩
  ·have ce:¬(k:Int)<0:=by omega
   have HG':Hid (cW f (f.jobs.length-(out++[k]).length) (out++[k])=R):=Fx (by
    rw[←HG.out,Fz,List.length_singleton];rw[show f.jobs.length-out.length=(f.jobs.length-(out.length+1))+1 by omega,sR a0.out])
   have HO':Hid (wc.ownsRow y0.heap.size 3 1 (FN Ao out.length co) out.length (gQ out)):=Fx (aC HO.out ad.out (fun g hg hm=>by cases hm));have HS:=Fx (show y0.heap.size≤(wc.alloc (FQ #[FR FS (k:Int)] 3)).heap.size by have:=J.out.size;simp;omega);have HM:=Fx (show out.length+1≤maxLen∧(out.length+1)*8≤140737488355328 by simp only[maxLen];omega);go_wp2_with (at_builtin;refine wpList_append_own _ rfl _ _ 77 rfl y0.heap.size 3 i0 (FR FS 0) 1 8 Tryz.underlying77 b3 bm b0 bk rfl (by decide) _ _ _ rfl (HO'.out.alloc _) ⟨wc.heap.size,0,none⟩ 1 1 [FR FS k] rfl rfl (FI (heap_alloc_new _ _)) (by simp[Value.oneCell']) HM.out.1 HM.out.2 HS.out ?_)
   intro vv w2 hown' U b4;obtain ⟨g,cap,rfl⟩:∃ g cap,vv=FN (some ⟨g,0,none⟩) (out.length+1) cap:=by
    rcases hown'.2 with ⟨_,h0⟩|⟨g,cap,cur,hv,_⟩
    ·omega
    exact ⟨g,cap,hv⟩
   have b1:Hid (w2.ownsRow y0.heap.size 3 1 (FN (some ⟨g,0,none⟩) (out.length+1) cap) (out++[k]).length (gQ (out++[k]))):=Fx (by rw[uM,Fz,List.length_singleton];exact hown');have b8:=Fx ((J.out.alloc _).grown U (fun g hg=> .inr (HO'.out.lt g hg).1));clear hown' U b4;go_wp2;go_roundw
   case rel=>exact ⟨out++[k],by rw[Fz,List.length_singleton];omega,by rw[Fz,List.length_singleton];rfl,b1,HG',b8⟩
   case measure=>simp[DL];omega
  have bj:Hid (∀ j,j<f.jobs.length→j∉out→(∀ t,t<j→t∈out)→R= .error (11,(jb f j).at_)):=Fx fun j hj hn ht=>by
   rw[←HG.out,show f.jobs.length-out.length=(f.jobs.length-(out.length+1))+1 by omega,rA a0.out,xQ hj hn ht];rfl
  have bo:=Fx (oe b6);clear a0 a9 HG;go_wp2_with fail
  go_loopw [38] (fun i wx=>∃ j:Nat,j≤f.jobs.length∧i=FR FS j∧Hid (∀ t,t<j→t∈out)∧Hid (aa [] wc wx)) (fun i _=>f.jobs.length-(intOf i).toNat)
  case atStart=>exact ⟨0,FF _,rfl,Fx (fun t ht=>absurd ht (by omega)),Fx (FK _ _)⟩
  clear q0 q1 q2 ql;obtain ⟨j,hj,rfl,HN,D⟩:=hrel;obtain ⟨wj,rfl⟩:∃ z:World,z=wr:=⟨_,rfl⟩
  by_cases N:j<f.jobs.length
  ·have bc:(j:Int)<(f.jobs.length:Int):=by omega
   obtain ⟨g,cs,rfl,hg,-,⟨_,_,_,rfl,⟨-,A2,c2,rfl,-,-⟩,⟨-,A3,c3,rfl,-,-⟩,⟨-,A4,c4,rfl,-,-⟩⟩,M⟩:=HA.out j N;have d0:=(J.out.trans D.out).cell_of (I.out.cell_of (M 0 _ rfl) (by simp)) (by simp);have d1:=(J.out.trans D.out).cell_of (I.out.cell_of (M 1 _ rfl) (by simp)) (by simp);have d2:=(J.out.trans D.out).cell_of (I.out.cell_of (M 2 _ rfl) (by simp)) (by simp);have d3:=(J.out.trans D.out).cell_of (I.out.cell_of (M 3 _ rfl) (by simp)) (by simp);have d4:=(J.out.trans D.out).cell_of (I.out.cell_of (M 4 _ rfl) (by simp)) (by simp);have d5:=(J.out.trans D.out).cell_of (I.out.cell_of (M 5 _ rfl) (by simp)) (by simp);have d6:=(J.out.trans D.out).cell_of (I.out.cell_of (M 6 _ rfl) (by simp)) (by simp);have d7:=(J.out.trans D.out).cell_of (I.out.cell_of (M 7 _ rfl) (by simp)) (by simp);have d8:=(J.out.trans D.out).cell_of (I.out.cell_of (M 8 _ rfl) (by simp)) (by simp);have d9:=(J.out.trans D.out).cell_of (I.out.cell_of (M 9 _ rfl) (by simp)) (by simp);have bv:=(J.out.trans D.out).cell_of (I.out.cell_of (M 10 _ rfl) (by simp)) (by simp);have br:=(J.out.trans D.out).cell_of (I.out.cell_of (M 11 _ rfl) (by simp)) (by simp);have bq:=(J.out.trans D.out).cell_of (I.out.cell_of (M 12 _ rfl) (by simp)) (by simp);have bl:=(J.out.trans D.out).cell_of (I.out.cell_of (M 13 _ rfl) (by simp)) (by simp);have b9:=(J.out.trans D.out).cell_of (I.out.cell_of (M 14 _ rfl) (by simp)) (by simp);rw[Nat.add_zero] at d0;have a2:f.jobs[j].at_=(jb f j).at_:=by rw[ee N]
   obtain ⟨x,hx⟩:∃ x,f.jobs[j]=x:=⟨_,rfl⟩
   rw[hx] at d0 d1 d2 d3 d4 d5 d6 d7 d8 d9 bv br bq bl b9 a2;clear M hx;by_cases M:j∈out
   ·have HC:Hid (∀ W,aa [] wj W→Calls Tryz.prog 55 #[FN Ao out.length co,FR FS j] W fun e w'=>e=FP (.bool true)∧W=w'):=Fx fun W z=>(by
     have:=aA.out j W (ad.out.trans (D.out.trans z));rw[List.contains_iff_mem.2 M] at this;exact this)
    have HN':Hid (∀ t,t<j+1→t∈out):=Fx fun t ht=>by
     by_cases h:t<j
     ·exact HN.out t h
     obtain rfl:t=j:=by omega
     exact M
    have Z:=Fx (D.out.alloc (FQ (bK x (FN A2 x.outs.length c2) (FN A3 x.ins.length c3) (FN A4 x.cols.length c4)) 50));clear M a2;go_wp2_with ((with_reducible refine (HC.out _ ((FK _ _).alloc _)).mono ?_);rintro e w5 ⟨rfl,rfl⟩)
    go_roundw
    case rel=>exact ⟨j+1,by omega,by go_num,HN',Z⟩
    case measure=>simp[intOf];omega
   have HC:Hid (∀ W,aa [] wj W→Calls Tryz.prog 55 #[FN Ao out.length co,FR FS j] W fun e w'=>e=FP (.bool false)∧W=w'):=Fx fun W z=>(by
    have:=aA.out j W (ad.out.trans (D.out.trans z));rw[show out.contains j=false by simpa using M] at this;exact this)
   have HE:Hid (R= .error (11,x.at_)):=Fx (by rw[a2];exact bj.out j N M HN.out);have Z:=Fx (I.out.trans (J.out.trans (D.out.alloc (FQ (bK x (FN A2 x.outs.length c2) (FN A3 x.ins.length c3) (FN A4 x.cols.length c4)) 50))));clear M a2;go_wp2_with ((with_reducible refine (HC.out _ ((FK _ _).alloc _)).mono ?_);rintro e w5 ⟨rfl,rfl⟩)
   go_region
   all_goals
    go_wp2;go_ret2;exact ⟨by rw[HE.out];exact ⟨_,rfl,(ao.new' (wj.alloc _) _ _ _ (by simp)).drew⟩,(Z.out.alloc _).drew⟩
  obtain ⟨k,hk,hn⟩:=bo.out;exact absurd (HN.out k (by omega)) hn
 have a8:¬(out.length:Int)<(f.jobs.length:Int):=by omega
 have HE:Hid (R= .ok out):=Fx (by rw[←HG.out,show f.jobs.length-out.length=0 by omega];rfl);obtain ⟨A9,c9,e9,h9,bX⟩:=fA HO.out;injection e9 with bz _ bZ;subst bz bZ;have H9:=Fx h9;clear bX h9;go_wp2;go_ret2;exact ⟨by rw[HE.out];exact ⟨_,_,rfl,H9.out,a5.out⟩,I.out.trans O.out⟩
abbrev xR (w:World) (b:Nat) (s:List Bs):Prop:=de Tryz.prog 9 4 w b s.length s
theorem de.lookB {w:World} {b:Nat} {s:List Bs} (h:xR w b s) (k:Bs) (D:k.length≤1000):(Instr.lookup 125 (.map (some b)) (FM (bs k)) false).run Tryz.prog w= .ok (.bool (decide (k∈s))) w :=
 de.look h (T:=125) Tryz.underlying125 Tryz.underlying9 Tryz.underlying4 (by kernel_rfl) k (by simp only[maxLen];omega)
theorem de.storeB {w:World} {b:Nat} {s:List Bs} (h:xR w b s) (k:Bs) (D:k.length≤1000) (I:s.length≤1000000):∃ w',(Instr.mapUpdate 125 (.map (some b)) (FM (bs k)) (.bool true)).run Tryz.prog w= .ok () w'∧xR w' b (k::s)∧w.grownBy w' (some b) :=
 de.store h (T:=125) Tryz.underlying125 Tryz.underlying9 Tryz.underlying4 k (by simp only[maxLen];omega) (by simp only[maxLen];omega)
def qp (x:Int×Int) (e:Value) (w':World):Prop:=∃ h,e= .iface 73 (FO (some ⟨h,0,none⟩))∧ao w' h 75 #[FR FS x.1,FR FS x.2]
theorem qp.keep {x:Int×Int} {e:Value} {w w':World} (h:qp x e w) (D:aa [] w w'):qp x e w':=by
 obtain ⟨J,I,M⟩:=h;exact ⟨J,I,M.keep D (by simp)⟩
structure gR (w:World) (X b Y:Nat) (v0 v1 v2:Value) (s:List Bs) (W:World):Prop where
 k:aa [] w W
 fb:ao W X 29 #[v0,v1,v2]
 mb:ao W Y 125 #[.map (some b)]
 mp:xR W b s
 hb:w.heap.size≤b
 xb:X≠b
 yb:Y≠b
theorem gR.keep {w W W':World} {X b Y:Nat} {J M I:Value} {s:List Bs} (h:gR w X b Y J M I s W) (D:aa [] W W'):gR w X b Y J M I s W' :=
 ⟨h.k.trans D,h.fb.keep D (by simp),h.mb.keep D (by simp),h.mp.keep D (by simp),h.hb,h.xb,h.yb⟩
theorem gR.put {w W W':World} {X b Y:Nat} {M N J:Value} {s I:List Bs} (h:gR w X b Y M N J s W) (D:aa [b] W W') (O:xR W' b I):gR w X b Y M N J I W' :=
 ⟨h.k.trans' D (fun x U Z=>by rw[List.mem_singleton.1 U] at Z;exact absurd h.hb (by omega)),h.fb.keep D (by simpa using h.xb),h.mb.keep D (by simpa using h.yb),O,h.hb,h.xb,h.yb⟩
theorem sS {w W:World} {X b Y:Nat} {v0 v1 v2:Value} {s:List Bs} (h:gR w X b Y v0 v1 v2 s W) (n:Bs) (a:Int) (hn:n.length≤1000) (hs:s.length≤1000000) :
  Calls Tryz.prog 52 #[FM (bs n),FR FS a,FO (some ⟨Y,0,none⟩)] W fun e W'=>(n∈s∧(∃ u,e=FP u∧qp (9,a) u W')∧aa [] W W')∨(n∉s∧e=FP .nilIface∧gR w X b Y v0 v1 v2 (n::s) W'∧aa [b] W W'):=by
 have c0:W.cell? ⟨Y,0,none⟩=some (.map (some b)):=h.mb.cell 0;have hl:=h.mb.lt;have I:=h.mp.lookB n hn;by_cases D:n∈s
 ·rw[decide_eq_true D] at I
  have Z:=Fx D;clear D h;go_enter Tryz.func52,Tryz.ntmps52
  go_wp2;go_ret;exact .inl ⟨Z.out,⟨_,rfl,_,rfl,FL _ _ _⟩,(FK _ _).alloc _⟩
 rw[decide_eq_false D] at I;obtain ⟨W2,ad,N,M⟩:=h.mp.storeB n hn hs;have Z:=Fx D;have J:aa [b] W W2:=(FK [b] W).grown M (fun g U=> .inl (by injection U with U;simp[U]));have HS:=Fx (h.put J N);have O:=Fx J;clear D h N M J;go_enter Tryz.func52,Tryz.ntmps52
 go_wp2;go_ret;exact .inr ⟨Z.out,rfl,HS.out,O.out⟩
theorem zW {w W:World} {X b Y:Nat} {N I M:Value} {s:List Bs} (h:gR w X b Y N I M s W) (n:Bs) (J:n.length≤1000) :
  Calls Tryz.prog 54 #[FM (bs n),FO (some ⟨Y,0,none⟩)] W fun e W'=>e=FP (.bool (!decide (n∈s)))∧aa [] W W':=by
 have O:W.cell? ⟨Y,0,none⟩=some (.map (some b)):=h.mb.cell 0;have U:=h.mb.lt;have D:=h.mp.lookB n J;clear h;generalize decide (n∈s)=Q at *;go_enter Tryz.func54,Tryz.ntmps54
 go_wp2;go_ret;exact ⟨rfl,FK _ _⟩
def DN (R:Except (Int×Int) Unit) (e:Ending) (w':World):Prop:=match R with
 | .ok _=>e=FP .nilIface
 | .error x=>∃ u,e=FP u∧qp x u w'
structure om (f:Fl):Prop where
 outs:f.outs.length≤1000
 all:(bf f).length≤100000
 names:∀ n∈bf f,n.length≤1000
 ins:∀ j∈f.jobs,∀ n∈j.ins,n.length≤1000
 told:∀ x∈f.outs,x.name.length≤1000∧x.src.length≤1000
def K3 (f:Fl) (s:List Bs):Except (Int×Int) Unit:=cH s f.outs []
def K2 (f:Fl) (s:List Bs):Except (Int×Int) Unit:=match bF s f.jobs with
 | .ok _=>K3 f s
 | .error x=> .error x
def K1 (f:Fl) (s:List Bs):Except (Int×Int) Unit:=match bP (dk f.jobs) s with
 | .ok s=>K2 f s
 | .error x=> .error x
def gS {α β:Type} (r:Except (Int×Int) α) (k:α→Except (Int×Int) β):Except (Int×Int) β:=match r with
 | .ok a=>k a
 | .error x=> .error x
theorem xS (f:Fl):dK f=gS (bP (f.ins.map fun x=>(x.name,x.at_)) []) (fun s=>gS (bP (dk f.jobs) s) fun s=>gS (bF s f.jobs) fun _=>cH s f.outs []):=by
 unfold dK gS
 cases bP (f.ins.map fun x=>(x.name,x.at_)) [] with
 | error x=>rfl
 | ok s =>
  show (bP (dk f.jobs) s >>= _)=_;simp only
  cases bP (dk f.jobs) s with
  | error x=>rfl
  | ok h =>
   show (bF h f.jobs >>= _)=_;simp only
   cases bF h f.jobs with
   | error x=>rfl
   | ok u=>rfl
theorem mC (p:Bs×Int) (l:List (Bs×Int)) (s:List Bs):bP (p::l) s=if p.1∈s then .error (9,p.2) else bP l (p.1::s):=rfl
theorem rB (s:List Bs) (j:Jb) (h:List Jb):bF s (j::h)=if j.ins.any (fun n=> !decide (n∈s)) then .error (7,j.at_) else bF s h:=rfl
theorem sT (s:List Bs) (x:Pb) (l:List Pb) (t:List Bs):cH s (x::l) t=if x.src∉s then .error (7,x.at_) else if x.name∈t then .error (9,x.at_) else cH s l (x.name::t):=rfl
theorem sU (j:Jb) (h:List Jb):dk (j::h)=(j.outs.map fun n=>(n,j.at_))++dk h:=rfl
theorem pP (f:Fl) (v0 v1 v2:Value) (w:World) (hF:jj w v0 v1 v2 f) (hS:om f) :
  Calls Tryz.prog 20 #[.agg #[v0,v1,v2]] w fun e w'=>DN (dK f) e w'∧aa [] w w':=by
 have cg:= @run_makeMap Tryz.prog;obtain ⟨R,hR⟩:∃ R,dK f=R:=⟨_,rfl⟩
 rw[hR];rw[xS] at hR;have dv:=hF.i0;have c7:=hF.i1;have dr:=hF.i2;obtain ⟨eB,A0,c0,rfl,el,b0⟩:=dv;obtain ⟨eA,A1,c1,rfl,ev,b4⟩:=c7;obtain ⟨dB,A2,c2,rfl,ez,b1⟩:=dr;have H0:=Fx b0;have H1:=Fx b4;have H2:=Fx b1;have HR:=Fx hR;have HS:=Fx hS;have be:gR w w.heap.size (w.heap.size+1) (w.heap.size+1+1) (FN A0 f.ins.length c0) (FN A1 f.jobs.length c1) (FN A2 f.outs.length c2) [] (((w.alloc (FQ #[FN A0 f.ins.length c0,FN A1 f.jobs.length c1,FN A2 f.outs.length c2] 29)).alloc (.map #[] 0)).alloc (FQ #[.map (some (w.heap.size+1))] 125)):=by
  have hm:=de.made (P:=Tryz.prog) (S:=9) (E:=4) (w.alloc (FQ #[FN A0 f.ins.length c0,FN A1 f.jobs.length c1,FN A2 f.outs.length c2] 29));rw[nk] at hm;exact ⟨(((FK _ _).alloc _).alloc _).alloc _,((FL _ _ _).alloc _).alloc _,ao.new' ((w.alloc _).alloc _) _ _ _ (by rw[nk,nk]),hm.keep (L:=[]) ((FK _ _).alloc _) (by simp),by omega,by omega,by omega⟩
 have ba:=Fx be;clear hF hR hS b0 b4 b1 be;obtain ⟨X,hX⟩:∃ X,w.heap.size=X:=⟨_,rfl⟩
 go_enter Tryz.func20,Tryz.ntmps20
 go_upto_block 0 with (fail)
 rw[hX] at ba;generalize (((w.alloc (FQ #[FN A0 f.ins.length c0,FN A1 f.jobs.length c1,FN A2 f.outs.length c2] 29)).alloc (.map #[] 0)).alloc (FQ #[.map (some (X+1))] 125))=y0 at ba ⊢;generalize X+1+1=Y at ba ⊢;generalize X+1=b at ba ⊢;clear hX cg;go_cut [] (fun wx=>∃ s,Hid (gR w X b Y (FN A0 f.ins.length c0) (FN A1 f.jobs.length c1) (FN A2 f.outs.length c2) s wx)∧s.length≤f.ins.length∧Hid (gS (bP (dk f.jobs) s) (fun s=>gS (bF s f.jobs) fun _=>cH s f.outs [])=R))
 case first =>
  go_wp2_with fail
  go_loopw [23] (fun i wr=>∃ (j:Nat) (s:List Bs),j≤f.ins.length∧i=FR FS j∧s.length≤j∧Hid (gR w X b Y (FN A0 f.ins.length c0) (FN A1 f.jobs.length c1) (FN A2 f.outs.length c2) s wr)∧Hid (gS (bP ((f.ins.map fun x=>(x.name,x.at_)).drop j) s) (fun s=>gS (bP (dk f.jobs) s) fun s=>gS (bF s f.jobs) fun _=>cH s f.outs [])=R)) (fun i _=>f.ins.length-(intOf i).toNat)
  case atStart=>exact ⟨0,[],FF _,rfl,Fy _,ba,HR⟩
  obtain ⟨j,s,hj,rfl,a7,D,HG⟩:=hrel;obtain ⟨wj,rfl⟩:∃ z:World,z=wr:=⟨_,rfl⟩
  have ey:f.ins.length≤100000:=by
   have:=HS.out.all;unfold bf at this;rw[Fz,List.length_map] at this;omega
  by_cases U:j<f.ins.length
  ·have a9:(j:Int)<(f.ins.length:Int):=by omega
   obtain ⟨g,cs,rfl,hg,-,⟨vc,rfl,⟨-,Ac,cc,rfl,-,-⟩⟩,J⟩:=H0.out j U;have d0:=D.out.k.cell_of (J 0 _ rfl) (by simp);have d1:=D.out.k.cell_of (J 1 _ rfl) (by simp);have d2:=D.out.k.cell_of (J 2 _ rfl) (by simp);rw[Nat.add_zero] at d0;have hl:(f.ins[j]).name.length≤1000:=HS.out.names _ (by unfold bf;exact List.mem_append_left _ (List.mem_map.2 ⟨_,FE U,rfl⟩));have be:(f.ins.map fun x=>(x.name,x.at_)).drop j=(f.ins[j].name,f.ins[j].at_)::(f.ins.map fun x=>(x.name,x.at_)).drop (j+1):=by
    rw[List.drop_eq_getElem_cons (by simpa using U),List.getElem_map]
   have I:=HG.out;rw[be,mC] at I;obtain ⟨x,hx⟩:∃ x,f.ins[j]=x:=⟨_,rfl⟩
   rw[hx] at d0 d1 d2 hl I;have O:=Fx I;have HC:=Fx (sS (D.out.keep ((FK _ _).alloc (FQ #[FR FS x.at_,FM (bs x.name),FN Ac x.cols.length cc] 57))) x.name x.at_ hl (by omega));clear be I hx J hl;go_wp2_with fail
   refine HC.out.mono ?_;rintro e w5 (⟨M,⟨u,rfl,hu⟩,k5⟩|⟨M,rfl,bc,-⟩)
   ·have HE:Hid (R= .error (9,x.at_)):=Fx (by
     have:=O.out;rw[if_pos M] at this;exact this.symm)
    obtain ⟨gi,rfl,bj⟩:=hu;have bk:=Fx bj;have b7:=Fx ((D.out.k.alloc _).trans k5);clear M bj k5;go_wp2;go_ret;exact ⟨by rw[HE.out];exact ⟨_,rfl,_,rfl,bk.out⟩,b7.out⟩
   have N:Hid (gS (bP ((f.ins.map fun x=>(x.name,x.at_)).drop (j+1)) (x.name::s)) (fun s=>gS (bP (dk f.jobs) s) fun s=>gS (bF s f.jobs) fun _=>cH s f.outs [])=R):=Fx (by
    have:=O.out;rw[if_neg M] at this;exact this)
   have aA:=Fx bc;clear M bc;go_wp2;go_roundw
   case rel=>exact ⟨j+1,x.name::s,by omega,by go_num,by simp;omega,aA,N⟩
   case measure=>simp[intOf];omega
  have a9:¬(j:Int)<(f.ins.length:Int):=by omega
  have N:Hid (gS (bP (dk f.jobs) s) (fun s=>gS (bF s f.jobs) fun _=>cH s f.outs [])=R):=Fx (by
   have:=HG.out;rw[List.drop_of_length_le (by simp;omega)] at this;exact this)
  go_wp2;go_meet
  case rel=>exact ⟨s,D,by omega,N⟩
 obtain ⟨s,D,a7,HG⟩:=hcut;clear ba HR;have bl:=HS.out.all;unfold bf at bl;rw[Fz,List.length_map] at bl;have a6:wc.cell? ⟨X,1,none⟩=some (FN A1 f.jobs.length c1):=D.out.fb.cell 1;have a8:=D.out.fb.lt;go_upto_block 2 with (fail)
 go_cut [] (fun wx=>∃ s,Hid (gR w X b Y (FN A0 f.ins.length c0) (FN A1 f.jobs.length c1) (FN A2 f.outs.length c2) s wx)∧Hid (gS (bF s f.jobs) (fun _=>cH s f.outs [])=R))
 case first =>
  go_wp2_with fail
  go_loopw [40] (fun i wr=>∃ (j:Nat) (s:List Bs),j≤f.jobs.length∧i=FR FS j∧s.length+((f.jobs.drop j).flatMap (·.outs)).length≤100000∧Hid (gR w X b Y (FN A0 f.ins.length c0) (FN A1 f.jobs.length c1) (FN A2 f.outs.length c2) s wr)∧Hid (gS (bP (dk (f.jobs.drop j)) s) (fun s=>gS (bF s f.jobs) fun _=>cH s f.outs [])=R)) (fun i _=>f.jobs.length-(intOf i).toNat)
  case atStart=>exact ⟨0,s,FF _,rfl,by rw[List.drop_zero];omega,D,HG⟩
  clear D HG a7 a6 a8;obtain ⟨j,s,hj,rfl,a7,D,HG⟩:=hrel;obtain ⟨wj,rfl⟩:∃ z:World,z=wr:=⟨_,rfl⟩
  by_cases U:j<f.jobs.length
  ·have a9:(j:Int)<(f.jobs.length:Int):=by omega
   obtain ⟨g,cs,rfl,hg,-,⟨_,_,_,rfl,⟨dt,B2,e2,rfl,dq,b6⟩,⟨-,B3,e3,rfl,-,-⟩,⟨-,B4,e4,rfl,-,-⟩⟩,J⟩:=H1.out j U;have d0:=D.out.k.cell_of (J 0 _ rfl) (by simp);have d1:=D.out.k.cell_of (J 1 _ rfl) (by simp);have d2:=D.out.k.cell_of (J 2 _ rfl) (by simp);have d3:=D.out.k.cell_of (J 3 _ rfl) (by simp);have d4:=D.out.k.cell_of (J 4 _ rfl) (by simp);have d5:=D.out.k.cell_of (J 5 _ rfl) (by simp);have d6:=D.out.k.cell_of (J 6 _ rfl) (by simp);have d7:=D.out.k.cell_of (J 7 _ rfl) (by simp);have d8:=D.out.k.cell_of (J 8 _ rfl) (by simp);have d9:=D.out.k.cell_of (J 9 _ rfl) (by simp);have bv:=D.out.k.cell_of (J 10 _ rfl) (by simp);have br:=D.out.k.cell_of (J 11 _ rfl) (by simp);have bq:=D.out.k.cell_of (J 12 _ rfl) (by simp);have bm:=D.out.k.cell_of (J 13 _ rfl) (by simp);have bZ:=D.out.k.cell_of (J 14 _ rfl) (by simp);rw[Nat.add_zero] at d0;have av:∀ n∈f.jobs[j].outs,n.length≤1000:=fun n hn=>HS.out.names n (by unfold bf;exact List.mem_append_right _ (List.mem_flatMap.2 ⟨_,FE U,hn⟩))
   have I:=HG.out;rw[List.drop_eq_getElem_cons U] at I a7;rw[sU] at I;rw[List.flatMap_cons,Fz] at a7;obtain ⟨x,hx⟩:∃ x,f.jobs[j]=x:=⟨_,rfl⟩
   rw[hx] at d0 d1 d2 d3 d4 d5 d6 d7 d8 d9 bv br bq bm bZ av I a7 dt dq b6;have O:=Fx I;have c5:=Fx b6;have cv:=Fx av;have cy:=FL wj 50 (bK x (FN B2 x.outs.length e2) (FN B3 x.ins.length e3) (FN B4 x.cols.length e4));have Z:=Fx (D.out.keep ((FK _ _).alloc (FQ (bK x (FN B2 x.outs.length e2) (FN B3 x.ins.length e3) (FN B4 x.cols.length e4)) 50)));have c8:b<wj.heap.size:=D.out.mp.lt;clear I hx J b6 av;go_upto_block 4 with (fail)
   generalize ca:wj.alloc (FQ #[FR FS x.at_,FR FS x.code,FN B2 x.outs.length e2,FN B3 x.ins.length e3,FN B4 x.cols.length e4,FM (bs x.op),FM (bs x.left.col),FR FS x.left.val.kind,FR FS x.left.val.num,FM (bs x.left.val.word),FM (bs x.right.col),FR FS x.right.val.kind,FR FS x.right.val.num,FM (bs x.right.val.word),FR FS x.retry] 50)=y1 at *;generalize co:wj.heap.size=xb at *;have a5:Hid (ao y1 xb 50 (bK x (FN B2 x.outs.length e2) (FN B3 x.ins.length e3) (FN B4 x.cols.length e4))):=Fx (by rw[←ca,←co];exact FL _ _ _);have Z:Hid (gR w X b Y (FN A0 f.ins.length c0) (FN (some ⟨g,0,none⟩) f.jobs.length c1) (FN A2 f.outs.length c2) s y1):=Fx (by rw[←ca];exact D.out.keep ((FK _ _).alloc _));have b3:xb≠b:=by omega
   have cx:=Fx b3;clear ca co cy c8 b3 d0 d1 d2 d3 d4 d5 d6 d7 d8 d9 bv br bq bm bZ D HG;have p0:y1.cell? ⟨xb,0,none⟩=some (FR FS x.at_):=a5.out.cell 0;have p2:y1.cell? ⟨xb,2,none⟩=some (FN B2 x.outs.length e2):=a5.out.cell 2;have pl:=a5.out.lt;go_wp2_with fail
   go_loopw [47] (fun i wr=>∃ (m:Nat) (s:List Bs),m≤x.outs.length∧i=FR FS m∧s.length+(x.outs.length-m)+((f.jobs.drop (j+1)).flatMap (·.outs)).length≤100000∧Hid (gR w X b Y (FN A0 f.ins.length c0) (FN (some ⟨g,0,none⟩) f.jobs.length c1) (FN A2 f.outs.length c2) s wr)∧Hid (ao wr xb 50 (bK x (FN B2 x.outs.length e2) (FN B3 x.ins.length e3) (FN B4 x.cols.length e4)))∧Hid (gS (bP ((x.outs.map fun n=>(n,x.at_)).drop m++dk (f.jobs.drop (j+1))) s) (fun s=>gS (bF s f.jobs) fun _=>cH s f.outs [])=R)) (fun i _=>x.outs.length-(intOf i).toNat)
   case atStart=>exact ⟨0,s,FF _,rfl,by omega,Z,a5,O⟩
   clear p0 p2 pl Z a5 O a7;obtain ⟨m,s,hm,rfl,a7,D,a5,HG⟩:=hrel;obtain ⟨wm,rfl⟩:∃ z:World,z=wr:=⟨_,rfl⟩
   have p0:wm.cell? ⟨xb,0,none⟩=some (FR FS x.at_):=a5.out.cell 0;have pl:=a5.out.lt;by_cases cd:m<x.outs.length
   ·have c6:(m:Int)<(x.outs.length:Int):=by omega
    obtain ⟨bo,oo,rfl,-,er,cm⟩:=(c5.out.keep D.out.k).open' (by omega) (by omega);have q0:=cm m _ (cC x.outs m cd);have cq:=cv.out _ (FE cd);have I:=HG.out;rw[List.drop_eq_getElem_cons (by simpa using cd),List.getElem_map,List.cons_append,mC] at I;obtain ⟨n,hn⟩:∃ n,x.outs[m]=n:=⟨_,rfl⟩
    rw[hn] at q0 cq I;have O:=Fx I;have HC:=Fx (sS D.out n x.at_ cq (by omega));clear cm I hn;go_wp2_with fail
    refine HC.out.mono ?_;rintro e w5 (⟨M,⟨u,rfl,hu⟩,k5⟩|⟨M,rfl,bc,k5⟩)
    ·have HE:Hid (R= .error (9,x.at_)):=Fx (by
      have:=O.out;rw[if_pos M] at this;exact this.symm)
     obtain ⟨gi,rfl,bj⟩:=hu;have bk:=Fx bj;have b7:=Fx (D.out.k.trans k5);clear M bj k5;go_wp2;go_ret;exact ⟨by rw[HE.out];exact ⟨_,rfl,_,rfl,bk.out⟩,b7.out⟩
    have N:Hid (gS (bP ((x.outs.map fun n=>(n,x.at_)).drop (m+1)++dk (f.jobs.drop (j+1))) (n::s)) (fun s=>gS (bF s f.jobs) fun _=>cH s f.outs [])=R):=Fx (by
     have:=O.out;rw[if_neg M] at this;exact this)
    have aA:=Fx bc;have bk:=Fx (a5.out.keep k5 (by simpa using cx.out));clear M bc k5;go_wp2;go_roundw
    case rel=>exact ⟨m+1,n::s,by omega,by go_num,by simp only[FG];omega,aA,bk,N⟩
    case measure=>simp[intOf];omega
   have c6:¬(m:Int)<(x.outs.length:Int):=by omega
   have N:Hid (gS (bP (dk (f.jobs.drop (j+1))) s) (fun s=>gS (bF s f.jobs) fun _=>cH s f.outs [])=R):=Fx (by
    have:=HG.out;rw[List.drop_of_length_le (by simp;omega)] at this;exact this)
   go_wp2;go_roundw
   case rel=>exact ⟨j+1,s,by omega,by go_num,by omega,D,N⟩
   case measure=>simp[intOf];omega
  have a9:¬(j:Int)<(f.jobs.length:Int):=by omega
  have N:Hid (gS (bF s f.jobs) (fun _=>cH s f.outs [])=R):=Fx (by
   have:=HG.out;rw[List.drop_of_length_le (by omega)] at this;exact this)
  go_wp2;go_meet
  case rel=>exact ⟨s,D,N⟩
 obtain ⟨s,D,HG⟩:=hcut;clear a6 a8 bl a7;have a6:wc.cell? ⟨X,1,none⟩=some (FN A1 f.jobs.length c1):=D.out.fb.cell 1;have a8:=D.out.fb.lt;go_upto_block 6 with (fail)
 go_cut [] (fun wx=>Hid (gR w X b Y (FN A0 f.ins.length c0) (FN A1 f.jobs.length c1) (FN A2 f.outs.length c2) s wx)∧Hid (cH s f.outs []=R))
 case first =>
  go_wp2_with fail
  go_loopw [64] (fun i wr=>∃ j:Nat,j≤f.jobs.length∧i=FR FS j∧Hid (gR w X b Y (FN A0 f.ins.length c0) (FN A1 f.jobs.length c1) (FN A2 f.outs.length c2) s wr)∧Hid (gS (bF s (f.jobs.drop j)) (fun _=>cH s f.outs [])=R)) (fun i _=>f.jobs.length-(intOf i).toNat)
  case atStart=>exact ⟨0,FF _,rfl,D,HG⟩
  clear D HG a6 a8;obtain ⟨j,hj,rfl,D,HG⟩:=hrel;obtain ⟨wj,rfl⟩:∃ z:World,z=wr:=⟨_,rfl⟩
  by_cases U:j<f.jobs.length
  ·have a9:(j:Int)<(f.jobs.length:Int):=by omega
   obtain ⟨g,cs,rfl,hg,-,⟨_,_,_,rfl,⟨-,B2,e2,rfl,-,-⟩,⟨cj,B3,e3,rfl,ds,ce⟩,⟨-,B4,e4,rfl,-,-⟩⟩,J⟩:=H1.out j U;have d0:=D.out.k.cell_of (J 0 _ rfl) (by simp);have d1:=D.out.k.cell_of (J 1 _ rfl) (by simp);have d2:=D.out.k.cell_of (J 2 _ rfl) (by simp);have d3:=D.out.k.cell_of (J 3 _ rfl) (by simp);have d4:=D.out.k.cell_of (J 4 _ rfl) (by simp);have d5:=D.out.k.cell_of (J 5 _ rfl) (by simp);have d6:=D.out.k.cell_of (J 6 _ rfl) (by simp);have d7:=D.out.k.cell_of (J 7 _ rfl) (by simp);have d8:=D.out.k.cell_of (J 8 _ rfl) (by simp);have d9:=D.out.k.cell_of (J 9 _ rfl) (by simp);have bv:=D.out.k.cell_of (J 10 _ rfl) (by simp);have br:=D.out.k.cell_of (J 11 _ rfl) (by simp);have bq:=D.out.k.cell_of (J 12 _ rfl) (by simp);have bm:=D.out.k.cell_of (J 13 _ rfl) (by simp);have bZ:=D.out.k.cell_of (J 14 _ rfl) (by simp);rw[Nat.add_zero] at d0;have av:∀ n∈f.jobs[j].ins,n.length≤1000:=fun n hn=>HS.out.ins _ (FE U) n hn
   have I:=HG.out;rw[List.drop_eq_getElem_cons U,rB] at I;obtain ⟨x,hx⟩:∃ x,f.jobs[j]=x:=⟨_,rfl⟩
   rw[hx] at d0 d1 d2 d3 d4 d5 d6 d7 d8 d9 bv br bq bm bZ av I cj ds ce;have O:=Fx I;have Z:=Fx (D.out.keep ((FK _ _).alloc (FQ (bK x (FN B2 x.outs.length e2) (FN B3 x.ins.length e3) (FN B4 x.cols.length e4)) 50)));have HC:Hid (∀ W,aa [] wj W→Calls Tryz.prog 53 #[FN B3 x.ins.length e3,.func (.func 54) #[] #[FO (some ⟨Y,0,none⟩)]] W fun e w'=>e=FP (.bool (x.ins.any fun n=> !decide (n∈s)))∧aa [] W w'):=Fx fun W z =>
    ge 54 _ (fun _ _=>by rfl) (fun n=> !decide (n∈s)) x.ins B3 e3 W (ce.keep (D.out.k.trans z)) cj (fun n hn W' z'=>zW (D.out.keep (z.trans z')) n (av n hn))
   have cz:=Fx (D.out.k.alloc (FQ (bK x (FN B2 x.outs.length e2) (FN B3 x.ins.length e3) (FN B4 x.cols.length e4)) 50));clear I hx J ce av
   cases a0:(x.ins.any fun n=> !decide (n∈s)) with
   | true =>
    have HE:Hid (R= .error (7,x.at_)):=Fx (by
     have:=O.out;rw[if_pos a0] at this;exact this.symm)
    rw[a0] at HC;clear a0;go_wp2_with ((with_reducible refine (HC.out _ ((FK _ _).alloc _)).mono ?_);rintro e w5 ⟨rfl,k5⟩;have b5:w5.cell? ⟨wj.heap.size,0,none⟩=some (FR FS x.at_):=((FL wj 50 (bK x (FN B2 x.outs.length e2) (FN B3 x.ins.length e3) (FN B4 x.cols.length e4))).keep k5 (by simp)).cell 0;have eb:=((FL wj 50 (bK x (FN B2 x.outs.length e2) (FN B3 x.ins.length e3) (FN B4 x.cols.length e4))).keep k5 (by simp)).lt)
    go_ret;exact ⟨by rw[HE.out];exact ⟨_,rfl,_,rfl,FL _ _ _⟩,(cz.out.trans k5).alloc _⟩
   | false =>
    have N:Hid (gS (bF s (f.jobs.drop (j+1))) (fun _=>cH s f.outs [])=R):=Fx (by
     have:=O.out;rw[a0] at this;exact this)
    rw[a0] at HC;clear a0;go_wp2_with ((with_reducible refine (HC.out _ ((FK _ _).alloc _)).mono ?_);rintro e w5 ⟨rfl,k5⟩)
    have aA:=Fx (Z.out.keep k5);go_roundw
    case rel=>exact ⟨j+1,by omega,by go_num,aA,N⟩
    case measure=>simp[intOf];omega
  have a9:¬(j:Int)<(f.jobs.length:Int):=by omega
  have N:Hid (cH s f.outs []=R):=Fx (by
   have:=HG.out;rw[List.drop_of_length_le (by omega)] at this;exact this)
  go_wp2;go_meet
  case rel=>exact ⟨D,N⟩
 clear D HG a6 a8;obtain ⟨D,HG⟩:=hcut;obtain ⟨y5,rfl⟩:∃ z:World,z=wc:=⟨_,rfl⟩
 have a6:y5.cell? ⟨X,2,none⟩=some (FN A2 f.outs.length c2):=D.out.fb.cell 2;have a8:=D.out.fb.lt;have cg:= @run_makeMap Tryz.prog;have bX:=Fx (de.made (P:=Tryz.prog) (S:=9) (E:=4) y5);have aA:=Fx (D.out.keep ((FK _ _).alloc (.map #[] 0)));have b8:(y5.alloc (.map #[] 0)).cell? ⟨X,2,none⟩=some (FN A2 f.outs.length c2):=aA.out.fb.cell 2;have bz:y5.heap.size≠X∧y5.heap.size≠Y∧y5.heap.size≠b∧w.heap.size≤y5.heap.size:=by
  have a1:=D.out.fb.lt;have a2:=D.out.mb.lt;have a3:=D.out.mp.lt;have a4:=D.out.k.size;omega
 go_upto_block 8 with (fail)
 generalize hq:y5.alloc (.map #[] 0)=y6 at bX aA b8 ⊢;generalize cu:y5.heap.size=b2 at bX bz ⊢;clear hq cu cg a6 a8 D;have a6:=b8;have a8:=aA.out.fb.lt;go_wp2_with fail
 go_loopw [82] (fun i wr=>∃ (j:Nat) (told:List Bs),j≤f.outs.length∧i=FR FS j∧told.length≤j∧Hid (gR w X b Y (FN A0 f.ins.length c0) (FN A1 f.jobs.length c1) (FN A2 f.outs.length c2) s wr)∧Hid (xR wr b2 told)∧Hid (cH s (f.outs.drop j) told=R)) (fun i _=>f.outs.length-(intOf i).toNat)
 case atStart=>exact ⟨0,[],FF _,rfl,Fy _,aA,bX,HG⟩
 clear aA bX HG a6 b8 a8;obtain ⟨j,told,hj,rfl,es,D,c4,HG⟩:=hrel;obtain ⟨wj,rfl⟩:∃ z:World,z=wr:=⟨_,rfl⟩
 by_cases U:j<f.outs.length
 ·have a9:(j:Int)<(f.outs.length:Int):=by omega
  obtain ⟨g,cs,rfl,hg,-,ct,J⟩:=H2.out j U;obtain rfl:=ct;have d0:=D.out.k.cell_of (J 0 _ rfl) (by simp);have d1:=D.out.k.cell_of (J 1 _ rfl) (by simp);have d2:=D.out.k.cell_of (J 2 _ rfl) (by simp);rw[Nat.add_zero] at d0;have av:=HS.out.told _ (FE U);have et:=HS.out.outs;have I:=HG.out;rw[List.drop_eq_getElem_cons U,sT] at I;obtain ⟨x,hx⟩:∃ x,f.outs[j]=x:=⟨_,rfl⟩
  rw[hx] at d0 d1 d2 av I;have Z:=Fx (D.out.keep ((FK _ _).alloc (FQ #[FR FS x.at_,FM (bs x.name),FM (bs x.src)] 60)));have cr:=Fx (c4.out.keep (L:=[]) ((FK _ _).alloc (FQ #[FR FS x.at_,FM (bs x.name),FM (bs x.src)] 60)) (by simp));have m0:(wj.alloc (FQ #[FR FS x.at_,FM (bs x.name),FM (bs x.src)] 60)).cell? ⟨Y,0,none⟩=some (.map (some b)):=Z.out.mb.cell 0;have mY:=D.out.mb.lt;have en:Y≠wj.heap.size:=by omega
  have ch:=Z.out.mp.lookB x.src av.2;have b9:=cr.out.lookB x.name av.1;have O:=Fx I;clear I hx J;by_cases ad:x.src∈s
  ·rw[decide_eq_true ad] at ch
   by_cases M:x.name∈told
   ·rw[decide_eq_true M] at b9
    have HE:Hid (R= .error (9,x.at_)):=Fx (by
     have:=O.out;rw[if_neg (fun h=>h ad),if_pos M] at this;exact this.symm)
    clear ad M;go_wp2;go_ret;exact ⟨by rw[HE.out];exact ⟨_,rfl,_,rfl,ao.new' (wj.alloc _) _ _ _ (by rw[nk])⟩,Z.out.k.alloc _⟩
   rw[decide_eq_false M] at b9;obtain ⟨w7,dz,cn,ci⟩:=cr.out.storeB x.name av.1 (by omega);have bb:aa [b2] (wj.alloc (FQ #[FR FS x.at_,FM (bs x.name),FM (bs x.src)] 60)) w7:=(FK [b2] _).grown ci (fun g hg=> .inl (by injection hg with hg;simp[hg]));have c3:Hid (gR w X b Y (FN A0 f.ins.length c0) (FN A1 f.jobs.length c1) (FN (some ⟨g,0,none⟩) f.outs.length c2) s w7):=Fx ⟨Z.out.k.trans' bb (fun q hq hl=>by rw[List.mem_singleton.1 hq] at hl;omega),Z.out.fb.keep bb (by simpa using bz.1.symm),Z.out.mb.keep bb (by simpa using bz.2.1.symm),Z.out.mp.keep bb (by simpa using bz.2.2.1.symm),D.out.hb,D.out.xb,D.out.yb⟩;have c9:=Fx cn;have N:Hid (cH s (f.outs.drop (j+1)) (x.name::told)=R):=Fx (by
    have:=O.out;rw[if_neg (fun h=>h ad),if_neg M] at this;exact this)
   clear ad M cn ci bb;go_wp2;go_roundw
   case rel=>exact ⟨j+1,x.name::told,by omega,by go_num,by simp only[FG];omega,c3,c9,N⟩
   case measure=>simp[intOf];omega
  rw[decide_eq_false ad] at ch;have HE:Hid (R= .error (7,x.at_)):=Fx (by
   have:=O.out;rw[if_pos ad] at this;exact this.symm)
  clear ad b9;go_wp2;go_ret;exact ⟨by rw[HE.out];exact ⟨_,rfl,_,rfl,ao.new' (wj.alloc _) _ _ _ (by rw[nk])⟩,Z.out.k.alloc _⟩
 have a9:¬(j:Int)<(f.outs.length:Int):=by omega
 have HE:Hid (R= .ok ()):=Fx (by
  have:=HG.out;rw[List.drop_of_length_le (by omega)] at this;exact this.symm)
 go_wp2;go_ret;exact ⟨by rw[HE.out];rfl,D.out.k⟩
end
section
theorem aj {E α β:Type} {x:Except E α} {f:α→Except E β} {c:β} (h:(x >>= f)= .ok c):∃ a,x= .ok a∧f a= .ok c:=by
 rcases x with e|a
 ·cases h
 exact ⟨a,rfl,h⟩
theorem qR:∀ (n:Nat) {l r:List Tk} {acc cs:List Cl},dH n l acc= .ok (cs,r)→r.length≤l.length
 | 0,l,r,acc,cs,h=>by
  injection h with h;injection h with _ h;rw[h];exact Fy _
 | n+1,l,r,acc,cs,h=>by
  rw[fd] at h;obtain ⟨⟨s,M⟩,I,h⟩:=aj h;obtain ⟨⟨k,O⟩,D,h⟩:=aj h;dsimp only at h D
  have J:=az I;have N:=fe D;split at h
  ·have:=qR n h
   rw[List.length_tail] at this;omega
  injection h with h;injection h with _ h;subst h;omega
theorem Bi {j J:Jb} {l r:List Tk} (h:xz j l= .ok (J,r)):r.length≤l.length:=by
 unfold xz at h;obtain ⟨⟨Z,U⟩,D,h⟩:=aj h;try dsimp only at h
 have O:=az D;obtain ⟨q1,I,h⟩:=aj h;try dsimp only at h
 have N:=aF I;obtain ⟨⟨s2,q2⟩,M,h⟩:=aj h;try dsimp only at h
 have e2:=az M;injection h with h;injection h with _ h;subst h;first|omega|(simp only[List.length_tail] at *;omega)
theorem yW {j D:Jb} {l r:List Tk} (h:em j l= .ok (D,r)):r.length≤l.length:=by
 unfold em at h;obtain ⟨q0,J,h⟩:=aj h;try dsimp only at h
 have e0:=aF J;obtain ⟨⟨s1,q1⟩,M,h⟩:=aj h;try dsimp only at h
 have Z:=az M;obtain ⟨⟨s2,q2⟩,I,h⟩:=aj h;try dsimp only at h
 have U:=fe I;obtain ⟨⟨O,q3⟩,N,h⟩:=aj h;try dsimp only at h
 have e3:=jI N;injection h with h;injection h with _ h;subst h;first|omega|(simp only[List.length_tail] at *;omega)
theorem CC {j D:Jb} {l r:List Tk} (h:sC j l= .ok (D,r)):r.length≤l.length:=by
 unfold sC at h;obtain ⟨q0,M,h⟩:=aj h;try dsimp only at h
 have e0:=aF M;obtain ⟨⟨s1,q1⟩,N,h⟩:=aj h;try dsimp only at h
 have e1:=az N;obtain ⟨q2,I,h⟩:=aj h;try dsimp only at h
 have e2:=aF I;obtain ⟨⟨Z,q3⟩,O,h⟩:=aj h;try dsimp only at h
 have e3:=jI O;obtain ⟨⟨s4,q4⟩,J,h⟩:=aj h;try dsimp only at h
 have e4:=fe J;obtain ⟨⟨s5,q5⟩,U,h⟩:=aj h;try dsimp only at h
 have e5:=jI U;injection h with h;injection h with _ h;subst h;first|omega|(simp only[List.length_tail] at *;omega)
theorem Es {j J:Jb} {l r:List Tk} (h:zJ j l= .ok (J,r)):r.length≤l.length:=by
 unfold zJ at h;obtain ⟨O,D,h⟩:=aj h;try dsimp only at h
 have N:=aF D;obtain ⟨⟨U,q1⟩,I,h⟩:=aj h;try dsimp only at h
 have M:=lR I;injection h with h;injection h with _ h;subst h;first|omega|(simp only[List.length_tail] at *;omega)
theorem yX {j D:Jb} {l r:List Tk} (h:i6 j l= .ok (D,r)):r.length≤l.length:=by
 unfold i6 at h;obtain ⟨q0,J,h⟩:=aj h;try dsimp only at h
 have e0:=aF J;obtain ⟨⟨s1,q1⟩,M,h⟩:=aj h;try dsimp only at h
 have Z:=az M;obtain ⟨⟨s2,q2⟩,I,h⟩:=aj h;try dsimp only at h
 have U:=fe I;obtain ⟨⟨O,q3⟩,N,h⟩:=aj h;try dsimp only at h
 have e3:=az N;injection h with h;injection h with _ h;subst h;first|omega|(simp only[List.length_tail] at *;omega)
theorem Bj {j I:Jb} {l r:List Tk} (h:nL j l= .ok (I,r)):r.length≤l.length:=by
 unfold nL at h;obtain ⟨⟨s,N⟩,D,h⟩:=aj h;obtain ⟨U,J,h⟩:=aj h;have M:=Bi D;have O:=aF J;have e3:=Bi h;omega
theorem yY {j J:Jb} {l r:List Tk} (h:ku j l= .ok (J,r)):r.length≤l.length:=by
 unfold ku at h;obtain ⟨⟨Z,U⟩,D,h⟩:=aj h;try dsimp only at h
 have O:=az D;obtain ⟨q1,I,h⟩:=aj h;try dsimp only at h
 have N:=aF I;obtain ⟨⟨s2,q2⟩,M,h⟩:=aj h;try dsimp only at h
 have e2:=az M;injection h with h;injection h with _ h;subst h;first|omega|(simp only[List.length_tail] at *;omega)
theorem Bl {j D:Jb} {l r:List Tk} (h:j6 j l= .ok (D,r)):r.length≤l.length:=by
 unfold j6 at h;split at h
 ·exact yW h
 split at h
 ·exact CC h
 split at h
 ·exact Es h
 split at h
 ·exact yX h
 injection h with h;injection h with _ h;rw[h];exact Fy _
theorem Bm {j J:Jb} {l r:List Tk} (h:bH j l= .ok (J,r)):r.length≤l.length:=by
 unfold bH at h;have D:l.tail.length≤l.length:=by rw[List.length_tail];omega
 split at h
 ·cases h
 split at h
 ·exact FD (Bj h) D
 split at h
 ·exact FD (yY h) D
 obtain ⟨⟨s,N⟩,I,h⟩:=aj h;have M:=az I;have O:=Bl h;omega
theorem yZ {l r:List Tk} {n:Int} (h:dZ l= .ok (n,r)):r.length≤l.length:=by
 unfold dZ at h;split at h
 ·split at h
  ·cases h
  split at h
  ·split at h
   ·cases h
   injection h with h;injection h with _ h;rw[←h,List.length_tail,List.length_tail];omega
  cases h
 injection h with h;injection h with _ h;rw[h];exact Fy _
theorem ze {x:In} {l r:List Tk} (hl:0<l.length) (h:eI l= .ok (x,r)):r.length<l.length:=by
 unfold eI at h;obtain ⟨q0,J,h⟩:=aj h;try dsimp only at h
 have e0:=aF J;obtain ⟨⟨s1,q1⟩,M,h⟩:=aj h;try dsimp only at h
 have Z:=az M;obtain ⟨q2,D,h⟩:=aj h;try dsimp only at h
 have U:=aF D;obtain ⟨⟨O,q3⟩,N,h⟩:=aj h;try dsimp only at h
 have e3:=qR _ N;obtain ⟨q4,I,h⟩:=aj h;try dsimp only at h
 have e4:=aF I;injection h with h;injection h with _ h;subst h;first|omega|(simp only[List.length_tail] at *;omega)
theorem CE {x:Jb} {l r:List Tk} (hl:0<l.length) (h:kV l= .ok (x,r)):r.length<l.length:=by
 unfold kV at h;obtain ⟨q0,J,h⟩:=aj h;try dsimp only at h
 have e0:=aF J;obtain ⟨⟨s1,q1⟩,M,h⟩:=aj h;try dsimp only at h
 have Z:=lR M;obtain ⟨⟨s2,q2⟩,D,h⟩:=aj h;try dsimp only at h
 have U:=yZ D;obtain ⟨q3,N,h⟩:=aj h;try dsimp only at h
 have e3:=aF N;obtain ⟨⟨s4,q4⟩,I,h⟩:=aj h;try dsimp only at h
 have e4:=Bm I;obtain ⟨q5,O,h⟩:=aj h;try dsimp only at h
 have e5:=aF O;injection h with h;injection h with _ h;subst h;first|omega|(simp only[List.length_tail] at *;omega)
theorem CF {x:Pb} {l r:List Tk} (hl:0<l.length) (h:mZ l= .ok (x,r)):r.length<l.length:=by
 unfold mZ at h;obtain ⟨q0,J,h⟩:=aj h;try dsimp only at h
 have e0:=aF J;obtain ⟨⟨s1,q1⟩,M,h⟩:=aj h;try dsimp only at h
 have Z:=az M;obtain ⟨q2,D,h⟩:=aj h;try dsimp only at h
 have U:=aF D;obtain ⟨⟨O,q3⟩,N,h⟩:=aj h;try dsimp only at h
 have e3:=az N;obtain ⟨q4,I,h⟩:=aj h;try dsimp only at h
 have e4:=aF I;injection h with h;injection h with _ h;subst h;first|omega|(simp only[List.length_tail] at *;omega)
end
section
open Go.RowKit Go.BigFrame
attribute [local go_sem] ag ab ae af
theorem Fg:(Tryz.prog.info? 57).map (fun i=>(i.zero,i.size,i.bytes))=some (some (.agg #[FR FS 0,FM ⟨#[]⟩,FN none 0 0]),3,48):=by kernel_rfl
theorem Fh:(Tryz.prog.info? 50).map (fun i=>(i.zero,i.size,i.bytes))=some (some (.agg #[FR FS 0,FR FS 0,FN none 0 0,FN none 0 0,FN none 0 0,FM ⟨#[]⟩,FM ⟨#[]⟩,FR FS 0,FR FS 0,FM ⟨#[]⟩,FM ⟨#[]⟩,FR FS 0,FR FS 0,FM ⟨#[]⟩,FR FS 0]),15,208):=by kernel_rfl
theorem Fi:(Tryz.prog.info? 60).map (fun i=>(i.zero,i.size,i.bytes))=some (some (.agg #[FR FS 0,FM ⟨#[]⟩,FM ⟨#[]⟩]),3,40):=by kernel_rfl
theorem Bo {l:List Tk} {b lo:Nat} (w:World) (hE:FB w lo) (cx:lo≤b) (h:Ps w b l) (el:l.length≤1000000) :
  Calls Tryz.prog 43 #[FO (some ⟨b,0,none⟩)] w fun e w'=>BY (qc l) b w.heap.size e w'∧aa [b] w w':=by
 obtain ⟨i0,hi,d9,et,d8⟩:=info_parts Fg;obtain ⟨i1,hj,eB,e0,e2⟩:=info_parts Fh;obtain ⟨i2,hp,e8,e5,e7⟩:=info_parts Fi;obtain ⟨R,hR⟩:∃ R,qc l=R:=⟨_,rfl⟩
 rw[hR];rw[sH] at hR;have HR:=Fx hR;have cu:=Fx el;have HE:=Fx hE;have eb:=Fx h;have f7:∀ (fn:Fn) (first cap:Array Value) (w:World),(Instr.makeFunc fn first cap).run Tryz.prog w= .ok (.func fn first cap) w:=fun _ _ _ _=>rfl
 clear hR el hE h;go_enter Tryz.func43,Tryz.ntmps43
 go_upto_block 0 with (fail)
 obtain ⟨W1,ch⟩:∃ x,w.alloc (FQ #[FO (some ⟨b,0,none⟩)] 109)=x:=⟨_,rfl⟩
 have z1:W1.heap.size=w.heap.size+1:=by rw[←ch];exact nk _ _
 obtain ⟨W2,co⟩:∃ x,W1.alloc (FQ #[FN none 0 0,FN none 0 0,FN none 0 0] 29)=x:=⟨_,rfl⟩
 have z2:W2.heap.size=w.heap.size+1+1:=by rw[←co,nk,z1]
 obtain ⟨y0,cy⟩:∃ x,W2.alloc (FQ #[FN none 0 0,FN none 0 0,FN none 0 0] 29)=x:=⟨_,rfl⟩
 have k1:aa [] w W1:=by rw[←ch];exact (FK _ _).alloc _
 have k2:aa [] W1 W2:=by rw[←co];exact (FK _ _).alloc _
 have k3:aa [] W2 y0:=by rw[←cy];exact (FK _ _).alloc _
 have b1:ao W1 w.heap.size 109 #[FO (some ⟨b,0,none⟩)]:=by rw[←ch];exact FL _ _ _
 have b2:ao W2 (w.heap.size+1) 29 #[FN none 0 0,FN none 0 0,FN none 0 0]:=by rw[←co,←z1];exact FL _ _ _
 have b3:ao y0 (w.heap.size+1+1) 29 #[FN none 0 0,FN none 0 0,FN none 0 0]:=by rw[←cy,←z2];exact FL _ _ _
 rw[ch,co,cy];obtain ⟨fb,eY⟩:∃ x,w.heap.size+1+1=x:=⟨_,rfl⟩
 rw[eY] at b3 ⊢;obtain ⟨rb,er⟩:∃ x,w.heap.size+1=x:=⟨_,rfl⟩
 rw[er] at b2 ⊢;have J:Hid (dn y0 w.heap.size w.heap.size rb fb b (FN none 0 0) (FN none 0 0) (FN none 0 0) [] [] []):=Fx
  ⟨(b1.keep k2 (by simp)).keep k3 (by simp),b2.keep k3 (by simp),b3,by omega,by omega,cP.nil,cP.nil,cP.nil⟩
 have HK:Hid (aa [b] w y0):=Fx (k1.trans (k2.trans k3)).of_nil;have M:Hid (Ps y0 b l):=Fx (((eb.out.keep k1).keep k2).keep k3);have e6:Hid (w.heap.size≤rb):=Fx (by omega);clear eY er b1 b2 b3 k1 k2 k3 z1 z2 ch co cy eb;go_upto_block 0 with (fail)
 go_cut [] (fun wx=>∃ (v0:Value) (ins:List In) (q:List Tk),Hid (qj (ins,q)=R)∧Hid (q.length≤l.length)∧Hid (dn wx w.heap.size w.heap.size rb fb b v0 (FN none 0 0) (FN none 0 0) ins [] [])∧Hid (Ps wx b q)∧Hid (aa [b] w wx))
 case first =>
  go_wp2_with fail
  go_loopw [] (fun wx=>∃ (v0:Value) (ins:List In) (q:List Tk) (n:Nat),Hid (cS [105,110] eI n q ins >>= qj=R)∧q.length≤n∧Hid (q.length≤l.length)∧ins.length≤16∧Hid (dn wx w.heap.size w.heap.size rb fb b v0 (FN none 0 0) (FN none 0 0) ins [] [])∧Hid (Ps wx b q)∧Hid (aa [b] w wx)) (fun wx=>nN b wx)
  case atStart=>exact ⟨_,[],l,l.length,HR,Fy _,Fx (Fy _),by simp,J,M,HK⟩
  clear J M HK HR;obtain ⟨v0,ins,q,n,HR,br,bj,dr,J,M,HK⟩:=hrel;obtain ⟨y,rfl⟩:∃ y:World,y=wr:=⟨_,rfl⟩
  have bq:=M.out.endT.pos;have bX:0<n:=by omega
  have a4:=Fx bX;have cn:=Fx br;have ct:=Fx bq;have p0:y.cell? ⟨w.heap.size,0,none⟩=some (FO (some ⟨b,0,none⟩)):=J.out.pbk.cell 0;have lp:=J.out.pbk.lt;have lf:=J.out.fbk.lt;obtain ⟨us,bz,bc,bv⟩:=J.out.i0;obtain ⟨A,cv,rfl,-⟩:=ar bc;have a0:=Fx bc;have cj:=Fx bz;have ci:=Fx bv;have bo:=HK;have f0:y.cell? ⟨fb,0,none⟩=some (FN A ins.length cv):=J.out.fbk.cell 0;have HM:=Fx M.out.left;have HT:=kW [105,110] y M.out;clear bc bz bv bX br bq
  cases hs:bC [105,110] q with
  | false =>
   rw[hs] at HT;have aA:=Fx HT;have bm:Hid (qj (ins,q)=R):=Fx (by rw[←HR.out,rj hs];rfl);clear HT hs;go_wp2_with fail
   refine aA.out.mono ?_;rintro ev w3 ⟨rfl,rfl⟩;go_wp2;go_meet;exact ⟨_,ins,q,bm,bj,J,M,HK⟩
  | true =>
   rw[hs] at HT;have aA:=Fx HT;have a3:=Fx hs;clear HT hs;by_cases av:ins.length=16
   ·have HX:Hid (R= .error (4,(aS q).at_)):=Fx (by rw[←HR.out,lT a3.out a4.out av];rfl)
    have HF:=Fx (nX ins.length J.out.pbk M.out av);clear av;go_wp2_with fail
    refine aA.out.mono ?_;rintro ev w3 ⟨rfl,rfl⟩;go_wp2_with fail
    refine HF.out.mono ?_;rintro ev w9 ⟨⟨gi,rfl,hb⟩,a1⟩;exact ⟨rfl,by rw[HX.out];exact ⟨gi,rfl,hb⟩,HK.out.trans a1.of_nil⟩
   have HF:=Fx (rm ins.length J.out.pbk M.out av);have fS:y.cell? ⟨fb,0,none⟩=some (FN A ins.length cv)∧y.frozen? ⟨fb,0,none⟩=false:=⟨f0,J.out.fbk.frozen 0⟩;have a8:=Fx (show ins.length+1≤maxLen∧(ins.length+1)*48≤140737488355328 by simp only[maxLen];omega);have ca:Hid (fb∉[b]):=Fx (by have:=J.out.fbk.ty.ne M.out.ty (by decide);simpa using this);rcases hS:eI q with x|⟨x,r⟩
   ·have HX:Hid (R= .error x):=Fx (by rw[←HR.out,fN a3.out a4.out av hS];rfl)
    have HC:Hid (∀ W,aa [] y W→Calls Tryz.prog 77 #[FO (some ⟨b,0,none⟩)] W fun e w'=>bW x e w'∧aa [b] W w'):=Fx (fun W z=>by
     have h:=qe W (M.out.keep z) (FD bj.out cu.out);rw[hS] at h;exact h)
    clear hS av;go_wp2_with fail
    refine aA.out.mono ?_;rintro ev w3 ⟨rfl,rfl⟩;go_wp2_with fail
    refine HF.out.mono ?_;rintro ev w4 ⟨rfl,rfl⟩;go_wp2_with fail
    go_region_law (first|(refine step_append_lies _ (by rfl) _ _ _ (by rfl) w.heap.size 57 i0 _ 3 48 Tryz.underlying25 hi d9 et d8 rfl (by decide) (FN A ins.length cv) ins.length us.flatten (by rfl) ((cV a0.out ad.undrew (fun z hz=>⟨111,by rw[List.mem_singleton.1 hz];exact M.out.ty,by decide⟩)).alloc _) ⟨w6.heap.size,0,none⟩ 1 1 ([FR FS 0,FM (bs []),FN none 0 0]) (by rfl) rfl (FI (heap_alloc_new _ _)) (by simp[Value.oneCell']) (by decide) a8.out.1 a8.out.2 (by have:=bo.out.size;have:=ad.size;have h9:y.drew.heap.size=y.heap.size:=rfl;simp;omega) _ rfl ?_;intro gw cap w7 ba N cq cd;obtain ⟨d0,d1⟩:=aE N (aD ⟨bb,b0⟩ _) (fun e=>(aK a0.out fb e).ne J.out.fbk.ty (by decide) rfl))|(go_simp;go_at_call 77;refine (HC.out _ (FK [] y).drew).mono ?_;rintro e w6 ⟨⟨gi,rfl,hb⟩,ad⟩;obtain ⟨bb,b0⟩:=aI ad fS ca.out;have dz:fb<w6.heap.size:=FC w6 ⟨fb,0,none⟩ bb;dsimp only;(go_loud (refine cT ‹∀ (a:Act) (w:World),wpAny _ _ _ _ _ _ a w→_› (some 17) (.agg #[FR FS 0,FM (bs []),FN none 0 0]) ⟨rfl,by rw[HX.out];exact ⟨gi,rfl,hb⟩,HK.out.trans ad.undrew⟩ (fun hF=>?_)))))
    all_goals exact hF.out.elim
   have bm:Hid (cS [105,110] eI (n-1) r (ins++[x]) >>= qj=R):=Fx (by rw[←HR.out,rl a3.out a4.out av hS]);have HC:Hid (∀ W,aa [] y W→Calls Tryz.prog 77 #[FO (some ⟨b,0,none⟩)] W fun e w'=>(∃ v,e=FP (.agg #[FR FS x.at_,FM (bs x.name),v])∧w'.ownsRow y.heap.size 64 2 v x.cols.length (ai x.cols)∧Ps w' b r)∧aa [b] W w'):=Fx (fun W z=>by
    have h:=qe W (M.out.keep z) (FD bj.out cu.out);rw[hS] at h;refine h.mono (fun e w' h=>⟨?_,h.2⟩);have h2:=h.1;simp only[C8] at h2;obtain ⟨v,h3,h4,h5⟩:=h2;exact ⟨v,h3,cK h4 z.size,h5⟩)
   have be:=Fx (ze ct.out hS);have ce:Hid ((ins++[x]).length≤16):=Fx (by simp;omega);clear hS av;go_wp2_with fail
   refine aA.out.mono ?_;rintro ev w3 ⟨rfl,rfl⟩;go_wp2_with fail
   refine HF.out.mono ?_;rintro ev w4 ⟨rfl,rfl⟩;go_wp2_with fail
   go_region_law (first|(refine step_append_lies _ (by rfl) _ _ _ (by rfl) w.heap.size 57 i0 _ 3 48 Tryz.underlying25 hi d9 et d8 rfl (by decide) (FN A ins.length cv) ins.length us.flatten (by rfl) ((cV a0.out ad.undrew (fun z hz=>⟨111,by rw[List.mem_singleton.1 hz];exact M.out.ty,by decide⟩)).alloc _) ⟨w6.heap.size,0,none⟩ 1 1 ([FR FS x.at_,FM (bs x.name),FN Av x.cols.length e9]) (by rfl) rfl (FI (heap_alloc_new _ _)) (by simp[Value.oneCell']) (by decide) a8.out.1 a8.out.2 (by have:=bo.out.size;have:=ad.size;have h9:y.drew.heap.size=y.heap.size:=rfl;simp;omega) _ rfl ?_;intro gw cap w7 ba N cq cd;obtain ⟨d0,d1⟩:=aE N (aD ⟨bb,b0⟩ _) (fun e=>(aK a0.out fb e).ne J.out.fbk.ty (by decide) rfl))|(go_simp;go_at_call 77;refine (HC.out _ (FK [] y).drew).mono ?_;rintro e w6 ⟨⟨v,rfl,en,d6⟩,ad⟩;obtain ⟨Av,e9,rfl,-⟩:=ar en;obtain ⟨bb,b0⟩:=aI ad fS ca.out;have dz:fb<w6.heap.size:=FC w6 ⟨fb,0,none⟩ bb))
   all_goals
    have bk:=J.out.ps M.out ad.undrew;have a9:=(cV a0.out ad.undrew (fun z hz=>⟨111,by rw[List.mem_singleton.1 hz];exact M.out.ty,by decide⟩));have bZ:=fun j h1 h2=>je.far (S:=qi) ⟨ad.undrew,fun z hz=>⟨111,by rw[List.mem_singleton.1 hz];exact M.out.ty,by decide⟩⟩ (by decide) _ _ (ci.out j h1 h2)
    have b8:=aK a9;have cm:=HK.out.trans ad.undrew;have d2:=Fx (dn.app0 bk cj.out a9 bZ ⟨_,rfl,cK en bo.out.size⟩ N ba);have cr:=Fx (Fa (k:=0) (u:=FN (some ⟨gw,0,none⟩) (ins.length+1) cap) bk d6 N b8 (by decide) (by decide));have dB:=Fx (dn.keeps7 (k:=0) (u:=FN (some ⟨gw,0,none⟩) (ins.length+1) cap) bk cm N (fun z hz=>(a0.out.lt z hz).1));clear bk a9 bZ b8 cm;go_wp2;go_roundw
    case rel=>exact ⟨_,ins++[x],r,n-1,bm,by have:=be.out;have:=cn.out;omega,Fx (by have:=be.out;have:=bj.out;omega),ce.out,d2,cr,dB⟩
    case measure=>rw[cr.out.left,HM.out];exact be.out
 clear J M HK HR;obtain ⟨v0,ins,q1,HR,eX,J,M,HK⟩:=hcut;obtain ⟨y1,rfl⟩:∃ y:World,y=wc:=⟨_,rfl⟩
 go_upto_block 2 with (fail)
 go_cut [] (fun wx=>∃ (v1:Value) (D:List Jb) (q:List Tk),Hid (nW ins (D,q)=R)∧Hid (q.length≤l.length)∧Hid (dn wx w.heap.size w.heap.size rb fb b v0 v1 (FN none 0 0) ins D [])∧Hid (Ps wx b q)∧Hid (aa [b] w wx))
 case first =>
  go_wp2_with fail
  go_loopw [] (fun wx=>∃ (v1:Value) (D:List Jb) (q:List Tk) (n:Nat),Hid (cS [106,111,98] kV n q D >>= nW ins=R)∧q.length≤n∧Hid (q.length≤l.length)∧D.length≤16∧Hid (dn wx w.heap.size w.heap.size rb fb b v0 v1 (FN none 0 0) ins D [])∧Hid (Ps wx b q)∧Hid (aa [b] w wx)) (fun wx=>nN b wx)
  case atStart=>exact ⟨_,[],q1,q1.length,HR,Fy _,eX,by simp,J,M,HK⟩
  clear J M HK HR;obtain ⟨v1,D,q,n,HR,br,bj,dr,J,M,HK⟩:=hrel;obtain ⟨y,rfl⟩:∃ y:World,y=wr:=⟨_,rfl⟩
  have bq:=M.out.endT.pos;have bX:0<n:=by omega
  have a4:=Fx bX;have cn:=Fx br;have ct:=Fx bq;have p0:y.cell? ⟨w.heap.size,0,none⟩=some (FO (some ⟨b,0,none⟩)):=J.out.pbk.cell 0;have lp:=J.out.pbk.lt;have lf:=J.out.fbk.lt;obtain ⟨us,bz,bc,bv⟩:=J.out.i1;obtain ⟨A,cv,rfl,-⟩:=ar bc;have a0:=Fx bc;have cj:=Fx bz;have ci:=Fx bv;have bo:=HK;have f0:y.cell? ⟨fb,1,none⟩=some (FN A D.length cv):=J.out.fbk.cell 1;have HM:=Fx M.out.left;have HT:=kW [106,111,98] y M.out;clear bc bz bv bX br bq
  cases hs:bC [106,111,98] q with
  | false =>
   rw[hs] at HT;have aA:=Fx HT;have bm:Hid (nW ins (D,q)=R):=Fx (by rw[←HR.out,rj hs];rfl);clear HT hs;go_wp2_with fail
   refine aA.out.mono ?_;rintro ev w3 ⟨rfl,rfl⟩;go_wp2;go_meet;exact ⟨_,D,q,bm,bj,J,M,HK⟩
  | true =>
   rw[hs] at HT;have aA:=Fx HT;have a3:=Fx hs;clear HT hs;by_cases av:D.length=16
   ·have HX:Hid (R= .error (4,(aS q).at_)):=Fx (by rw[←HR.out,lT a3.out a4.out av];rfl)
    have HF:=Fx (nX D.length J.out.pbk M.out av);clear av;go_wp2_with fail
    refine aA.out.mono ?_;rintro ev w3 ⟨rfl,rfl⟩;go_wp2_with fail
    refine HF.out.mono ?_;rintro ev w9 ⟨⟨gi,rfl,hb⟩,a1⟩;exact ⟨rfl,by rw[HX.out];exact ⟨gi,rfl,hb⟩,HK.out.trans a1.of_nil⟩
   have HF:=Fx (rm D.length J.out.pbk M.out av);have fS:y.cell? ⟨fb,1,none⟩=some (FN A D.length cv)∧y.frozen? ⟨fb,1,none⟩=false:=⟨f0,J.out.fbk.frozen 1⟩;have a8:=Fx (show D.length+1≤maxLen∧(D.length+1)*208≤140737488355328 by simp only[maxLen];omega);have ca:Hid (fb∉[b]):=Fx (by have:=J.out.fbk.ty.ne M.out.ty (by decide);simpa using this);rcases hS:kV q with x|⟨x,r⟩
   ·have HX:Hid (R= .error x):=Fx (by rw[←HR.out,fN a3.out a4.out av hS];rfl)
    have HC:Hid (∀ W,aa [] y W→Calls Tryz.prog 78 #[FO (some ⟨b,0,none⟩)] W fun e w'=>bW x e w'∧aa [b] W w'):=Fx (fun W z=>by
     have h:=wk W ((HE.out.one cx HK.out).quiet z) cx (M.out.keep z) (FD bj.out cu.out);rw[hS] at h;exact h)
    clear hS av;go_wp2_with fail
    refine aA.out.mono ?_;rintro ev w3 ⟨rfl,rfl⟩;go_wp2_with fail
    refine HF.out.mono ?_;rintro ev w4 ⟨rfl,rfl⟩;go_wp2_with fail
    go_region_law (first|(refine step_append_lies _ (by rfl) _ _ _ (by rfl) w.heap.size 50 i1 _ 15 208 Tryz.underlying26 hj eB e0 e2 rfl (by decide) (FN A D.length cv) D.length us.flatten (by rfl) ((cV a0.out ad.undrew (fun z hz=>⟨111,by rw[List.mem_singleton.1 hz];exact M.out.ty,by decide⟩)).alloc _) ⟨w6.heap.size,0,none⟩ 1 1 ([FR FS 0,FR FS 0,FN none 0 0,FN none 0 0,FN none 0 0,FM (bs []),FM (bs []),FR FS 0,FR FS 0,FM (bs []),FM (bs []),FR FS 0,FR FS 0,FM (bs []),FR FS 0]) (by rfl) rfl (FI (heap_alloc_new _ _)) (by simp[Value.oneCell']) (by decide) a8.out.1 a8.out.2 (by have:=bo.out.size;have:=ad.size;have h9:y.drew.heap.size=y.heap.size:=rfl;simp;omega) _ rfl ?_;intro gw cap w7 ba N cq cd;obtain ⟨d0,d1⟩:=aE N (aD ⟨bb,b0⟩ _) (fun e=>(aK a0.out fb e).ne J.out.fbk.ty (by decide) rfl))|(go_simp;go_at_call 78;refine (HC.out _ (FK [] y).drew).mono ?_;rintro e w6 ⟨⟨gi,rfl,hb⟩,ad⟩;obtain ⟨bb,b0⟩:=aI ad fS ca.out;have dz:fb<w6.heap.size:=FC w6 ⟨fb,1,none⟩ bb;dsimp only;(go_loud (refine cT ‹∀ (a:Act) (w:World),wpAny _ _ _ _ _ _ a w→_› (some 31) (.agg #[FR FS 0,FR FS 0,FN none 0 0,FN none 0 0,FN none 0 0,FM (bs []),FM (bs []),FR FS 0,FR FS 0,FM (bs []),FM (bs []),FR FS 0,FR FS 0,FM (bs []),FR FS 0]) ⟨rfl,by rw[HX.out];exact ⟨gi,rfl,hb⟩,HK.out.trans ad.undrew⟩ (fun hF=>?_)))))
    all_goals exact hF.out.elim
   have bm:Hid (cS [106,111,98] kV (n-1) r (D++[x]) >>= nW ins=R):=Fx (by rw[←HR.out,rl a3.out a4.out av hS]);have HC:Hid (∀ W,aa [] y W→Calls Tryz.prog 78 #[FO (some ⟨b,0,none⟩)] W fun e w'=>(∃ w2 w3 w4,e=FP (.agg #[FR FS x.at_,FR FS x.code,w2,w3,w4,FM (bs x.op),FM (bs x.left.col),FR FS x.left.val.kind,FR FS x.left.val.num,FM (bs x.left.val.word),FM (bs x.right.col),FR FS x.right.val.kind,FR FS x.right.val.num,FM (bs x.right.val.word),FR FS x.retry])∧zO w' y.heap.size x w2 w3 w4∧Ps w' b r)∧aa [b] W w'):=Fx (fun W z=>by
    have h:=wk W ((HE.out.one cx HK.out).quiet z) cx (M.out.keep z) (FD bj.out cu.out);rw[hS] at h;refine h.mono (fun e w' h=>⟨?_,h.2⟩);have h2:=h.1;simp only[zP] at h2;obtain ⟨v2,v3,v4,h3,h4,h5⟩:=h2;exact ⟨v2,v3,v4,h3,⟨cK h4.o2 z.size,cK h4.o3 z.size,cK h4.o4 z.size⟩,h5⟩)
   have be:=Fx (CE ct.out hS);have ce:Hid ((D++[x]).length≤16):=Fx (by simp;omega);clear hS av;go_wp2_with fail
   refine aA.out.mono ?_;rintro ev w3 ⟨rfl,rfl⟩;go_wp2_with fail
   refine HF.out.mono ?_;rintro ev w4 ⟨rfl,rfl⟩;go_wp2_with fail
   go_region_law (first|(refine step_append_lies _ (by rfl) _ _ _ (by rfl) w.heap.size 50 i1 _ 15 208 Tryz.underlying26 hj eB e0 e2 rfl (by decide) (FN A D.length cv) D.length us.flatten (by rfl) ((cV a0.out ad.undrew (fun z hz=>⟨111,by rw[List.mem_singleton.1 hz];exact M.out.ty,by decide⟩)).alloc _) ⟨w6.heap.size,0,none⟩ 1 1 ([FR FS x.at_,FR FS x.code,FN A2 x.outs.length c2,FN A3 x.ins.length c3,FN A4 x.cols.length c4,FM (bs x.op),FM (bs x.left.col),FR FS x.left.val.kind,FR FS x.left.val.num,FM (bs x.left.val.word),FM (bs x.right.col),FR FS x.right.val.kind,FR FS x.right.val.num,FM (bs x.right.val.word),FR FS x.retry]) (by rfl) rfl (FI (heap_alloc_new _ _)) (by simp[Value.oneCell']) (by decide) a8.out.1 a8.out.2 (by have:=bo.out.size;have:=ad.size;have h9:y.drew.heap.size=y.heap.size:=rfl;simp;omega) _ rfl ?_;intro gw cap w7 ba N cq cd;obtain ⟨d0,d1⟩:=aE N (aD ⟨bb,b0⟩ _) (fun e=>(aK a0.out fb e).ne J.out.fbk.ty (by decide) rfl))|(go_simp;go_at_call 78;refine (HC.out _ (FK [] y).drew).mono ?_;rintro e w6 ⟨⟨w2,w3,w4,rfl,a7,d6⟩,ad⟩;obtain ⟨A2,c2,rfl,-⟩:=ar a7.o2;obtain ⟨A3,c3,rfl,-⟩:=ar a7.o3;obtain ⟨A4,c4,rfl,-⟩:=ar a7.o4;obtain ⟨bb,b0⟩:=aI ad fS ca.out;have dz:fb<w6.heap.size:=FC w6 ⟨fb,1,none⟩ bb))
   all_goals
    have bk:=J.out.ps M.out ad.undrew;have a9:=(cV a0.out ad.undrew (fun z hz=>⟨111,by rw[List.mem_singleton.1 hz];exact M.out.ty,by decide⟩));have bZ:=fun j h1 h2=>jg.far (S:=qi) ⟨ad.undrew,fun z hz=>⟨111,by rw[List.mem_singleton.1 hz];exact M.out.ty,by decide⟩⟩ (by decide) _ _ (ci.out j h1 h2)
    have b8:=aK a9;have cm:=HK.out.trans ad.undrew;have d2:=Fx (dn.app1 bk cj.out a9 bZ ⟨_,_,_,rfl,⟨cK a7.o2 bo.out.size,cK a7.o3 bo.out.size,cK a7.o4 bo.out.size⟩⟩ N ba);have cr:=Fx (Fa (k:=1) (u:=FN (some ⟨gw,0,none⟩) (D.length+1) cap) bk d6 N b8 (by decide) (by decide));have dB:=Fx (dn.keeps7 (k:=1) (u:=FN (some ⟨gw,0,none⟩) (D.length+1) cap) bk cm N (fun z hz=>(a0.out.lt z hz).1));clear bk a9 bZ b8 cm;go_wp2;go_roundw
    case rel=>exact ⟨_,D++[x],r,n-1,bm,by have:=be.out;have:=cn.out;omega,Fx (by have:=be.out;have:=bj.out;omega),ce.out,d2,cr,dB⟩
    case measure=>rw[cr.out.left,HM.out];exact be.out
 clear J M HK HR;obtain ⟨v1,D,q2,HR,eA,J,M,HK⟩:=hcut;obtain ⟨y2,rfl⟩:∃ y:World,y=wc:=⟨_,rfl⟩
 go_upto_block 4 with (fail)
 go_cut [] (fun wx=>∃ (v2:Value) (outs:List Pb) (q:List Tk),Hid (nV ins D (outs,q)=R)∧Hid (dn wx w.heap.size w.heap.size rb fb b v0 v1 v2 ins D outs)∧Hid (Ps wx b q)∧Hid (aa [b] w wx))
 case first =>
  go_wp2_with fail
  go_loopw [] (fun wx=>∃ (v2:Value) (outs:List Pb) (q:List Tk) (n:Nat),Hid (cS [111,117,116] mZ n q outs >>= nV ins D=R)∧q.length≤n∧Hid (q.length≤l.length)∧outs.length≤16∧Hid (dn wx w.heap.size w.heap.size rb fb b v0 v1 v2 ins D outs)∧Hid (Ps wx b q)∧Hid (aa [b] w wx)) (fun wx=>nN b wx)
  case atStart=>exact ⟨_,[],q2,q2.length,HR,Fy _,eA,by simp,J,M,HK⟩
  clear J M HK HR;obtain ⟨v2,outs,q,n,HR,br,bj,dr,J,M,HK⟩:=hrel;obtain ⟨y,rfl⟩:∃ y:World,y=wr:=⟨_,rfl⟩
  have bq:=M.out.endT.pos;have bX:0<n:=by omega
  have a4:=Fx bX;have cn:=Fx br;have ct:=Fx bq;have p0:y.cell? ⟨w.heap.size,0,none⟩=some (FO (some ⟨b,0,none⟩)):=J.out.pbk.cell 0;have lp:=J.out.pbk.lt;have lf:=J.out.fbk.lt;obtain ⟨us,bz,bc,bv⟩:=J.out.i2;obtain ⟨A,cv,rfl,-⟩:=ar bc;have a0:=Fx bc;have cj:=Fx bz;have ci:=Fx bv;have f0:y.cell? ⟨fb,2,none⟩=some (FN A outs.length cv):=J.out.fbk.cell 2;have HM:=Fx M.out.left;have HT:=kW [111,117,116] y M.out;clear bc bz bv bX br bq
  cases hs:bC [111,117,116] q with
  | false =>
   rw[hs] at HT;have aA:=Fx HT;have bm:Hid (nV ins D (outs,q)=R):=Fx (by rw[←HR.out,rj hs];rfl);clear HT hs;go_wp2_with fail
   refine aA.out.mono ?_;rintro ev w3 ⟨rfl,rfl⟩;go_wp2;go_meet;exact ⟨_,outs,q,bm,J,M,HK⟩
  | true =>
   rw[hs] at HT;have aA:=Fx HT;have a3:=Fx hs;clear HT hs;by_cases av:outs.length=16
   ·have HX:Hid (R= .error (4,(aS q).at_)):=Fx (by rw[←HR.out,lT a3.out a4.out av];rfl)
    have HF:=Fx (nX outs.length J.out.pbk M.out av);clear av;go_wp2_with fail
    refine aA.out.mono ?_;rintro ev w3 ⟨rfl,rfl⟩;go_wp2_with fail
    refine HF.out.mono ?_;rintro ev w9 ⟨⟨gi,rfl,hb⟩,a1⟩;exact ⟨rfl,by rw[HX.out];exact ⟨gi,rfl,hb⟩,HK.out.trans a1.of_nil⟩
   have HF:=Fx (rm outs.length J.out.pbk M.out av);have b4:=Fx av;have a8:=Fx (show outs.length+1≤maxLen∧(outs.length+1)*40≤140737488355328 by simp only[maxLen];omega);obtain ⟨bl,d4⟩:∃ a,(aS q).at_=a:=⟨_,rfl⟩
   obtain ⟨O,hO⟩:∃ O,mZ q=O:=⟨_,rfl⟩
   have b6:=Fx hO;unfold mZ at hO;rw[d4] at hO;have HO:=Fx hO;obtain ⟨g,o,c,c0,z0,lb,lg,-,hn,hc,fz,k0,k1,k2,-⟩:=M.out.open';rw[d4] at k2;have e4:(0:Int)<(q.length:Int):=by omega
   clear av hO d4;go_wp2_with fail
   refine aA.out.mono ?_;rintro ev w3 ⟨rfl,rfl⟩;go_wp2_with fail
   refine HF.out.mono ?_;rintro ev w4 ⟨rfl,rfl⟩;go_upto_region 12 with (fail)
   have cz:=FL y 60 #[FR FS bl,FM ⟨#[]⟩,FM ⟨#[]⟩];have c5:=(FK [] y).alloc (FQ #[FR FS bl,FM ⟨#[]⟩,FM ⟨#[]⟩] 60);have dv:=M.out.keep c5;obtain ⟨x0,c8⟩:∃ x,y.alloc (FQ #[FR FS bl,FM ⟨#[]⟩,FM ⟨#[]⟩] 60)=x:=⟨_,rfl⟩
   rw[c8] at cz c5 dv ⊢;have b7:Hid (y.heap.size∉[b]):=Fx (by have:=M.out.lt;simp;omega);have ds:Hid (y.heap.size≤y.heap.size):=Fx (Fy _);obtain ⟨xb,e1⟩:∃ x,y.heap.size=x:=⟨_,rfl⟩
   have ds:Hid (y.heap.size≤xb):=Fx (by omega);rw[e1] at cz b7 ⊢;have U:=Fx cz;have Z:=Fx dv;have I:Hid (aa [b] y x0):=Fx c5.of_nil;clear cz c5 dv c8 e1 c0 z0 lb lg hn hc fz k0 k1 k2 e4 p0 lp lf f0 aA HF;have p0:x0.cell? ⟨w.heap.size,0,none⟩=some (FO (some ⟨b,0,none⟩)):=(J.out.ps M.out I.out).pbk.cell 0;have lp:=(J.out.ps M.out I.out).pbk.lt;rcases hS:aR [111,117,116] q with x|r1
   ·have HX:Hid (R= .error x):=Fx (by
     have ho:=HO.out;rw[hS,aw] at ho;rw[←HR.out,fN a3.out a4.out b4.out (b6.out.trans ho.symm)];rfl)
    have HC:=Fx (cO hS x0 Z.out);clear hS;go_wp2_with fail
    refine HC.out.mono ?_;rintro ev w9 ⟨⟨gi,rfl,hb⟩,a1⟩;exact ⟨rfl,by rw[HX.out];exact ⟨gi,rfl,hb⟩,(HK.out.trans I.out).trans a1⟩
   have ho:=HO.out;rw[hS,aq] at ho;try dsimp only at ho
   clear HO;have HO:=Fx ho;clear ho;have HC:=Fx (aT hS x0 Z.out);clear hS;go_wp2_with fail
   refine HC.out.mono ?_;rintro ev x1 ⟨rfl,hp,hk⟩;have HXB':=Fx (U.out.keep hk b7.out);have HKX':=Fx (I.out.trans hk);clear Z I U HC p0 lp;have Z:=Fx hp;have U:=HXB';have I:=HKX';clear hp hk HXB' HKX';have p0:x1.cell? ⟨w.heap.size,0,none⟩=some (FO (some ⟨b,0,none⟩)):=(J.out.ps M.out I.out).pbk.cell 0;have lp:=(J.out.ps M.out I.out).pbk.lt;rcases hS:aQ r1 with x|⟨a2,r2⟩
   ·have HX:Hid (R= .error x):=Fx (by
     have ho:=HO.out;rw[hS,aw] at ho;rw[←HR.out,fN a3.out a4.out b4.out (b6.out.trans ho.symm)];rfl)
    have HC:=Fx (bR hS x1 Z.out);clear hS;go_wp2_with fail
    refine HC.out.mono ?_;rintro ev w9 ⟨⟨gi,rfl,hb⟩,a1⟩;exact ⟨rfl,by rw[HX.out];exact ⟨gi,rfl,hb⟩,(HK.out.trans I.out).trans a1⟩
   have ho:=HO.out;rw[hS,aq] at ho;try dsimp only at ho
   clear HO;have HO:=Fx ho;clear ho;have HC:=Fx (bi hS x1 Z.out);clear hS;go_wp2_with fail
   refine HC.out.mono ?_;rintro ev x2 ⟨rfl,hp,hk⟩;have HXB':=Fx (U.out.keep hk b7.out);have HKX':=Fx (I.out.trans hk);clear Z I U HC p0 lp;have Z:=Fx hp;have U:=HXB';have I:=HKX';clear hp hk HXB' HKX';have p0:x2.cell? ⟨w.heap.size,0,none⟩=some (FO (some ⟨b,0,none⟩)):=(J.out.ps M.out I.out).pbk.cell 0;have lp:=(J.out.ps M.out I.out).pbk.lt;have xf:=U.out.frozen 1;have xc:x2.cell? ⟨xb,1,none⟩=some (FM ⟨#[]⟩):=U.out.cell 1;have lx:=U.out.lt;have cg:aa [xb] x2 (x2.setCell ⟨xb,1,none⟩ (FM (bs a2))):=(FK _ _).setCell (.inl (by simp)) _;have HXB':=Fx (kv (u:=FM (bs a2)) U.out);have HPX':=Fx (Z.out.far cg (fun z hz=>⟨60,by rw[List.mem_singleton.1 hz];exact U.out.ty,by decide,by decide⟩));have HKX':Hid (aa [b] y (x2.setCell ⟨xb,1,none⟩ (FM (bs a2)))):=Fx (I.out.setCell (.inr ds.out) _);clear cg;go_upto_region 14 with (fail)
   obtain ⟨x3,hy⟩:∃ x,(x2.setCell ⟨xb,1,none⟩ (FM (bs a2)))=x:=⟨_,rfl⟩
   rw[hy] at HXB' HPX' HKX' ⊢;clear hy xf xc lx U Z I p0 lp;have U:=HXB';have Z:=HPX';have I:=HKX';clear HXB' HPX' HKX';have p0:x3.cell? ⟨w.heap.size,0,none⟩=some (FO (some ⟨b,0,none⟩)):=(J.out.ps M.out I.out).pbk.cell 0;have lp:=(J.out.ps M.out I.out).pbk.lt;rcases hS:aR [61] r2 with x|r4
   ·have HX:Hid (R= .error x):=Fx (by
     have ho:=HO.out;rw[hS,aw] at ho;rw[←HR.out,fN a3.out a4.out b4.out (b6.out.trans ho.symm)];rfl)
    have HC:=Fx (cO hS x3 Z.out);clear hS;go_wp2_with fail
    refine HC.out.mono ?_;rintro ev w9 ⟨⟨gi,rfl,hb⟩,a1⟩;exact ⟨rfl,by rw[HX.out];exact ⟨gi,rfl,hb⟩,(HK.out.trans I.out).trans a1⟩
   have ho:=HO.out;rw[hS,aq] at ho;try dsimp only at ho
   clear HO;have HO:=Fx ho;clear ho;have HC:=Fx (aT hS x3 Z.out);clear hS;go_wp2_with fail
   refine HC.out.mono ?_;rintro ev x4 ⟨rfl,hp,hk⟩;have HXB':=Fx (U.out.keep hk b7.out);have HKX':=Fx (I.out.trans hk);clear Z I U HC p0 lp;have Z:=Fx hp;have U:=HXB';have I:=HKX';clear hp hk HXB' HKX';have p0:x4.cell? ⟨w.heap.size,0,none⟩=some (FO (some ⟨b,0,none⟩)):=(J.out.ps M.out I.out).pbk.cell 0;have lp:=(J.out.ps M.out I.out).pbk.lt;rcases hS:aQ r4 with x|⟨a5,r5⟩
   ·have HX:Hid (R= .error x):=Fx (by
     have ho:=HO.out;rw[hS,aw] at ho;rw[←HR.out,fN a3.out a4.out b4.out (b6.out.trans ho.symm)];rfl)
    have HC:=Fx (bR hS x4 Z.out);clear hS;go_wp2_with fail
    refine HC.out.mono ?_;rintro ev w9 ⟨⟨gi,rfl,hb⟩,a1⟩;exact ⟨rfl,by rw[HX.out];exact ⟨gi,rfl,hb⟩,(HK.out.trans I.out).trans a1⟩
   have ho:=HO.out;rw[hS,aq] at ho;try dsimp only at ho
   clear HO;have HO:=Fx ho;clear ho;have HC:=Fx (bi hS x4 Z.out);clear hS;go_wp2_with fail
   refine HC.out.mono ?_;rintro ev x5 ⟨rfl,hp,hk⟩;have HXB':=Fx (U.out.keep hk b7.out);have HKX':=Fx (I.out.trans hk);clear Z I U HC p0 lp;have Z:=Fx hp;have U:=HXB';have I:=HKX';clear hp hk HXB' HKX';have p0:x5.cell? ⟨w.heap.size,0,none⟩=some (FO (some ⟨b,0,none⟩)):=(J.out.ps M.out I.out).pbk.cell 0;have lp:=(J.out.ps M.out I.out).pbk.lt;have xf:=U.out.frozen 2;have xc:x5.cell? ⟨xb,2,none⟩=some (FM ⟨#[]⟩):=U.out.cell 2;have lx:=U.out.lt;have cg:aa [xb] x5 (x5.setCell ⟨xb,2,none⟩ (FM (bs a5))):=(FK _ _).setCell (.inl (by simp)) _;have HXB':=Fx (ky (u:=FM (bs a5)) U.out);have HPX':=Fx (Z.out.far cg (fun z hz=>⟨60,by rw[List.mem_singleton.1 hz];exact U.out.ty,by decide,by decide⟩));have HKX':Hid (aa [b] y (x5.setCell ⟨xb,2,none⟩ (FM (bs a5)))):=Fx (I.out.setCell (.inr ds.out) _);clear cg;go_upto_region 16 with (fail)
   obtain ⟨x6,hy⟩:∃ x,(x5.setCell ⟨xb,2,none⟩ (FM (bs a5)))=x:=⟨_,rfl⟩
   rw[hy] at HXB' HPX' HKX' ⊢;clear hy xf xc lx U Z I p0 lp;have U:=HXB';have Z:=HPX';have I:=HKX';clear HXB' HPX' HKX';have p0:x6.cell? ⟨w.heap.size,0,none⟩=some (FO (some ⟨b,0,none⟩)):=(J.out.ps M.out I.out).pbk.cell 0;have lp:=(J.out.ps M.out I.out).pbk.lt;rcases hS:aR [59] r5 with x|r7
   ·have HX:Hid (R= .error x):=Fx (by
     have ho:=HO.out;rw[hS,aw] at ho;rw[←HR.out,fN a3.out a4.out b4.out (b6.out.trans ho.symm)];rfl)
    have HC:=Fx (cO hS x6 Z.out);clear hS;go_wp2_with fail
    refine HC.out.mono ?_;rintro ev w9 ⟨⟨gi,rfl,hb⟩,a1⟩;exact ⟨rfl,by rw[HX.out];exact ⟨gi,rfl,hb⟩,(HK.out.trans I.out).trans a1⟩
   have ho:=HO.out;rw[hS,aq] at ho;try dsimp only at ho
   clear HO;have HO:=Fx ho;clear ho;have HC:=Fx (aT hS x6 Z.out);clear hS;go_wp2_with fail
   refine HC.out.mono ?_;rintro ev x7 ⟨rfl,hp,hk⟩;have HXB':=Fx (U.out.keep hk b7.out);have HKX':=Fx (I.out.trans hk);clear Z I U HC p0 lp;have Z:=Fx hp;have U:=HXB';have I:=HKX';clear hp hk HXB' HKX';have p0:x7.cell? ⟨w.heap.size,0,none⟩=some (FO (some ⟨b,0,none⟩)):=(J.out.ps M.out I.out).pbk.cell 0;have lp:=(J.out.ps M.out I.out).pbk.lt;have HX:Hid (cS [111,117,116] mZ (n-1) r7 (outs++[⟨bl,a2,a5⟩]) >>= nV ins D=R):=Fx (by
    rw[←HR.out,rl a3.out a4.out b4.out (b6.out.trans HO.out.symm)])
   have be:=Fx (CF ct.out (b6.out.trans HO.out.symm));have ce:Hid ((outs++[⟨bl,a2,a5⟩]:List Pb).length≤16):=Fx (by have:=b4.out;simp;omega);have b5:=Fx (J.out.ps M.out I.out);have fS:x7.cell? ⟨fb,2,none⟩=some (FN A outs.length cv)∧x7.frozen? ⟨fb,2,none⟩=false:=⟨b5.out.fbk.cell 2,b5.out.fbk.frozen 2⟩;obtain ⟨fc,ff⟩:=fS;have c0':x7.cell? ⟨xb,0,none⟩=some (FR FS bl):=U.out.cell 0;have c1':x7.cell? ⟨xb,1,none⟩=some (FM (bs a2)):=U.out.cell 1;have c2':x7.cell? ⟨xb,2,none⟩=some (FM (bs a5)):=U.out.cell 2;have lx:=U.out.lt;have lf:=b5.out.fbk.lt;have a9:=Fx (cV a0.out I.out (fun z hz=>⟨111,by rw[List.mem_singleton.1 hz];exact M.out.ty,by decide⟩));have f4:=Fx (show w.heap.size≤x7.heap.size+1 from Nat.le_succ_of_le (HK.out.trans I.out).size);clear HO;go_wp2_with (at_builtin;refine wpList_append_lies _ rfl _ _ 27 rfl _ 60 i2 _ 3 40 Tryz.underlying27 hp e8 e5 e7 rfl (by decide) _ outs.length us.flatten rfl (a9.out.alloc _) ⟨x7.heap.size,0,none⟩ 1 1 [FR FS bl,FM (bs a2),FM (bs a5)] rfl rfl (FI (heap_alloc_new _ _)) (by simp[Value.oneCell']) (by decide) a8.out.1 a8.out.2 (by simp;exact f4.out) _ rfl ?_)
   intro gw dq w8 b9 a6 d7 es;obtain ⟨fr,gk⟩:=aE a6 (aD ⟨fc,ff⟩ _) (fun e=>(aK a9.out fb e).ne b5.out.fbk.ty (by decide) rfl);have f6:fb<w8.heap.size:=FC w8 ⟨fb,2,none⟩ fr;have ey:=aK a9.out;have fs:=Fx (dn.app2 (x:=⟨bl,a2,a5⟩) b5.out cj.out a9.out ci.out rfl a6 b9);have ez:=Fx (Fa (k:=2) (u:=FN (some ⟨gw,0,none⟩) (outs.length+1) dq) b5.out Z.out a6 ey (by decide) (by decide));have f3:=Fx (dn.keeps7 (k:=2) (u:=FN (some ⟨gw,0,none⟩) (outs.length+1) dq) b5.out (HK.out.trans I.out) a6 (fun z hz=>(a0.out.lt z hz).1));clear ey b9 a6 d7 es fc ff c0' c1' c2';go_wp2;go_roundw
   case rel=>exact ⟨_,outs++[⟨bl,a2,a5⟩],r7,n-1,HX,by have:=be.out;have:=cn.out;omega,Fx (by have:=be.out;have:=bj.out;omega),ce.out,fs,ez,f3⟩
   case measure=>rw[ez.out.left,HM.out];exact be.out
 clear J M HK HR;obtain ⟨v2,outs,q3,HR,J,M,HK⟩:=hcut;obtain ⟨y,rfl⟩:∃ y:World,y=wc:=⟨_,rfl⟩
 have HX:Hid (R= .ok (⟨ins,D,outs⟩,q3)):=Fx HR.out.symm;clear HR;have i0':=J.out.i0;have i1':=J.out.i1;have i2':=J.out.i2;obtain ⟨f8,_,c7,_⟩:=i0';obtain ⟨f5,_,c9,_⟩:=i1';obtain ⟨f9,_,c6,_⟩:=i2';obtain ⟨A0,c0,rfl,-⟩:=ar c7;obtain ⟨A1,c1,rfl,-⟩:=ar c9;obtain ⟨A2,c2,rfl,-⟩:=ar c6;have f0:y.cell? ⟨fb,0,none⟩=some (FN A0 ins.length c0):=J.out.fbk.cell 0;have f1:y.cell? ⟨fb,1,none⟩=some (FN A1 D.length c1):=J.out.fbk.cell 1;have f2:y.cell? ⟨fb,2,none⟩=some (FN A2 outs.length c2):=J.out.fbk.cell 2;have g0:y.cell? ⟨rb,0,none⟩=some (FN none 0 0):=J.out.rbk.cell 0;have g1:y.cell? ⟨rb,1,none⟩=some (FN none 0 0):=J.out.rbk.cell 1;have g2:y.cell? ⟨rb,2,none⟩=some (FN none 0 0):=J.out.rbk.cell 2;have z0:=J.out.rbk.frozen 0;have z1:=J.out.rbk.frozen 1;have z2:=J.out.rbk.frozen 2;have lf:=J.out.fbk.lt;have lr:=J.out.rbk.lt;clear c7 c9 c6;go_wp2;have d5:=ky (u:=FN A2 outs.length c2) (kv (u:=FN A1 D.length c1) (lS (u:=FN A0 ins.length c0) J.out.rbk));have y0':=d5.cell 0;have y1':=d5.cell 1;have y2':=d5.cell 2;have d3:aa [rb] y (((y.setCell ⟨rb,0,none⟩ (FN A0 ins.length c0)).setCell ⟨rb,1,none⟩ (FN A1 D.length c1)).setCell ⟨rb,2,none⟩ (FN A2 outs.length c2)):=(((FK _ _).setCell (.inl (by simp)) _).setCell (.inl (by simp)) _).setCell (.inl (by simp)) _;have dt:dI [9,64,57,50,60,109] [rb] y _:=⟨d3,fun z hz=>⟨29,by rw[List.mem_singleton.1 hz];exact J.out.rbk.ty,by decide⟩⟩;refine bodyPost_ret (v:= .agg #[FN A0 ins.length c0,FN A1 D.length c1,FN A2 outs.length c2]) (by simp[results,Tryz.results43,go_sem,y0',y1',y2']) rfl ⟨?_,?_⟩
 ·rw[HX.out]
  exact ⟨_,_,_,rfl,J.out.i0.far dt (by decide) (by decide),J.out.i1.far dt (by decide) (by decide),J.out.i2.far dt (by decide),M.out.far d3 (fun z hz=>⟨29,by rw[List.mem_singleton.1 hz];exact J.out.rbk.ty,by decide,by decide⟩)⟩
 exact HK.out.trans' d3 (fun x hx hl=>by rw[List.mem_singleton.1 hx] at hl;have:=e6.out;omega)
end
end Go.Proofs.YtecpeogejjibaaaGreatDoor
