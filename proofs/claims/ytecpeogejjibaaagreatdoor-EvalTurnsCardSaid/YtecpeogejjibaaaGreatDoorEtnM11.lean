/- The parser's body. The parser's job. Flows in memory. Slices of whatever elements in memory: one of them. Flows in memory, as what only reads them sees them. slices.IndexFunc and ContainsFunc over inputs and over jobs, with a predicate that is handed in by its contract. plan.maker and plan.Ready. plan.Order. plan.names. What each part of the parser leaves: plain. The parser's flow. -/
import Derived.Test.YtecpeogejjibaaaGreatDoorEtnM7
import Derived.Test.YtecpeogejjibaaaGreatDoorEtnM9
import Derived.Test.YtecpeogejjibaaaGreatDoorEtnM10
import Derived.Test.YtecpeogejjibaaaGreatDoorEtnM8
import Derived.Test.YtecpeogejjibaaaGreatDoorEtnM4
import Derived.Test.YtecpeogejjibaaaGreatDoorEtnM1
import Derived.Deep.CutBlock
import Derived.Test.YtecpeogejjibaaaGreatDoorEtnM3
set_option linter.unusedSimpArgs false
set_option linter.unusedVariables false
set_option maxRecDepth 100000
set_option maxHeartbeats 16000000
namespace Go.Proofs.YtecpeogejjibaaaGreatDoor
open Go.Lib renaming hid → Fk
open _root_.Nat renaming le_refl → Fm, le_trans → Ft, zero_le → Fu
open _root_.List renaming length_append → Fo, getElem_mem → Fs, length_cons → Fv
open Go.World renaming block_lt_of_cell? → Fq, news_of_block → Fx
open aa renaming refl → Fz
open ao renaming new → FA
open Go.Value renaming string → FC, slice → FD, pointer → FE, int → FH
open Go.Ending renaming returned → FF
open Go.Obj renaming cells → FG
open Go.IntKind renaming i64 → FI
section
open Go.RowKit Go.BigFrame
attribute [local go_sem] ag ab ae af
theorem zT {l:List Tk} {b jb lo:Nat} {v2 v3 v4:Value} (H code:Int) (outs ins cols:List Bs) (op:Bs) (left right:Ar) (D:Int) (w0 w:World) (V:FB w0 lo) (M:lo≤b) (h:Ps w b l) (Z:aa [b] w0 w) (O:w0.heap.size≤jb) (hj:aV w w0.heap.size jb ⟨H,code,outs,ins,cols,op,left,right,D⟩ v2 v3 v4) (J:ins.length≤1000) (I:cols.length≤1000) (N:l.length≤1000000) :
  Calls Tryz.prog 122 #[FE (some ⟨b,0,none⟩),FE (some ⟨jb,0,none⟩)] w fun e w'=>gb (bF ⟨H,code,outs,ins,cols,op,left,right,D⟩ l) b w0.heap.size jb e w'∧aa [b] w0 w':=by
 have ad:=qo (aS l).text;by_cases U:(aS l).kind=1
 ·obtain ⟨c,hc⟩:∃ c,bR (aS l).text=c:=⟨_,rfl⟩
  rw[hc] at ad;rcases c with _|_|_|_|_|_|_|_|_|_|c
  ·exact qp H code outs ins cols op left right D w0 w V M h Z O hj J I N hc
  ·exact Dr H code outs ins cols op left right D w0 w V M h Z O hj J I N hc U
  ·exact Du H code outs ins cols op left right D w0 w V M h Z O hj J I N hc U
  ·exact Dv H code outs ins cols op left right D w0 w V M h Z O hj J I N hc U
  ·exact Dw H code outs ins cols op left right D w0 w V M h Z O hj J I N hc U
  ·exact Dq H code outs ins cols op left right D w0 w V M h Z O hj J I N hc U
  ·exact Dt H code outs ins cols op left right D w0 w V M h Z O hj J I N hc U
  ·exact Dp H code outs ins cols op left right D w0 w V M h Z O hj J I N hc U
  ·exact Dx H code outs ins cols op left right D w0 w V M h Z O hj J I N hc U
  ·exact Ds H code outs ins cols op left right D w0 w V M h Z O hj J I N hc U
  omega
 by_cases h0:bR (aS l).text=0
 ·exact qp H code outs ins cols op left right D w0 w V M h Z O hj J I N h0
 exact xL H code outs ins cols op left right D w0 w V M h Z O hj J I N rfl h0 U
theorem nT:∀ (n:Nat) {l r:List Tk} {acc ns:List Bs},dU n l acc= .ok (ns,r)→r.length≤l.length
 | 0,l,r,acc,ns,h=>by
  injection h with h;injection h with _ h;rw[h];exact Fm _
 | n+1,l,r,acc,ns,h=>by
  unfold dU at h;split at h
  ·rcases D:aQ l.tail with x|⟨s,I⟩
   ·rw[D] at h;cases h
   rw[D,ar] at h;have:=nT n h;have H:=az D;rw[List.length_tail] at H;omega
  injection h with h;injection h with _ h;rw[h];exact Fm _
theorem lO {l r:List Tk} {ns:List Bs} (h:fh l= .ok (ns,r)):r.length≤l.length:=by
 unfold fh at h;rcases D:aQ l with x|⟨s,H⟩
 ·rw[D] at h;cases h
 rw[D,ar] at h;have:=nT _ h;have I:=az D;omega
structure zU (W:World) (base:Nat) (j:Jb) (v2 v3 v4:Value):Prop where
 o2:W.ownsRow base 9 1 v2 j.outs.length (strs j.outs)
 o3:W.ownsRow base 9 1 v3 j.ins.length (strs j.ins)
 o4:W.ownsRow base 9 1 v4 j.cols.length (strs j.cols)
def zW (R:Except (Int×Int) (Jb×List Tk)) (b base:Nat) (e:Ending) (w':World):Prop:=match R with
 | .ok (j,r)=>∃ h H D,e=FF (.agg (bY j h H D))∧zU w' base j h H D∧Ps w' b r
 | .error x=>bS x e w'
theorem wB {l:List Tk} {b lo:Nat} (w:World) (hE:FB w lo) (b1:lo≤b) (h:Ps w b l) (dr:l.length≤1000000) :
  Calls Tryz.prog 78 #[FE (some ⟨b,0,none⟩)] w fun e w'=>zW (kT l) b w.heap.size e w'∧aa [b] w w':=by
 obtain ⟨R,hR⟩:∃ R,kT l=R:=⟨_,rfl⟩
 rw[hR];unfold kT at hR;obtain ⟨av,cj⟩:∃ av,(aS l).at_=av:=⟨_,rfl⟩
 rw[cj] at hR;have HR:=Fk hR;have c1:=Fk dr;have ad:=Fk (Fm l.length);have c9:=Fk (Fm w.heap.size);have b9:=FA w 50 #[FH FI 0,FH FI 0,FD none 0 0,FD none 0 0,FD none 0 0,FC ⟨#[]⟩,FC ⟨#[]⟩,FH FI 0,FH FI 0,FC ⟨#[]⟩,FC ⟨#[]⟩,FH FI 0,FH FI 0,FC ⟨#[]⟩,FH FI 0];have bq:=(Fz [] w).alloc (FG #[FH FI 0,FH FI 0,FD none 0 0,FD none 0 0,FD none 0 0,FC ⟨#[]⟩,FC ⟨#[]⟩,FH FI 0,FH FI 0,FC ⟨#[]⟩,FC ⟨#[]⟩,FH FI 0,FH FI 0,FC ⟨#[]⟩,FH FI 0] 50);have dz:=pT w (FG #[FH FI 0,FH FI 0,FD none 0 0,FD none 0 0,FD none 0 0,FC ⟨#[]⟩,FC ⟨#[]⟩,FH FI 0,FH FI 0,FC ⟨#[]⟩,FC ⟨#[]⟩,FH FI 0,FH FI 0,FC ⟨#[]⟩,FH FI 0] 50);have ce:Hid (w.heap.size∉[b]):=Fk (by have:=h.lt;simp;omega);have cr:=hE.quiet bq;have ca:=h.keep bq;obtain ⟨N,bZ⟩:∃ N,w.heap.size=N:=⟨_,rfl⟩
 rw[bZ] at b9 ce;have c9:Hid (w.heap.size≤N):=Fk (by omega);have en:=Fk bZ;clear hR dr bZ;go_enter Tryz.func78,Tryz.ntmps78
 go_upto_region 1 with (fail)
 obtain ⟨w0,dB⟩:∃ x,w.alloc (FG #[FH FI 0,FH FI 0,FD none 0 0,FD none 0 0,FD none 0 0,FC ⟨#[]⟩,FC ⟨#[]⟩,FH FI 0,FH FI 0,FC ⟨#[]⟩,FC ⟨#[]⟩,FH FI 0,FH FI 0,FC ⟨#[]⟩,FH FI 0] 50)=x:=⟨_,rfl⟩
 rw[dB] at b9 bq dz cr ca ⊢;rw[en.out];have dt:=Fk b9;have a5:=Fk bq;have HE:=Fk cr;have cy:=Fk ca;obtain ⟨g,o,c,c0,z0,lb,lg,-,hn,hc,c7,k0,k1,k2,-⟩:=ca.open';have dq:(0:Int)<(l.length:Int):=by omega
 clear b9 bq dz cr ca dB h hE;rw[cj] at k2;go_upto_region 2 with (fail)
 have b4:=FA w0 50 #[FH FI av,FH FI 0,FD none 0 0,FD none 0 0,FD none 0 0,FC ⟨#[]⟩,FC ⟨#[]⟩,FH FI 0,FH FI 0,FC ⟨#[]⟩,FC ⟨#[]⟩,FH FI 0,FH FI 0,FC ⟨#[]⟩,FH FI 0];have cd:=(Fz [] w0).alloc (FG #[FH FI av,FH FI 0,FD none 0 0,FD none 0 0,FD none 0 0,FC ⟨#[]⟩,FC ⟨#[]⟩,FH FI 0,FH FI 0,FC ⟨#[]⟩,FC ⟨#[]⟩,FH FI 0,FH FI 0,FC ⟨#[]⟩,FH FI 0] 50);have co:=cy.out.keep cd;obtain ⟨y0,dv⟩:∃ x,w0.alloc (FG #[FH FI av,FH FI 0,FD none 0 0,FD none 0 0,FD none 0 0,FC ⟨#[]⟩,FC ⟨#[]⟩,FH FI 0,FH FI 0,FC ⟨#[]⟩,FC ⟨#[]⟩,FH FI 0,FH FI 0,FC ⟨#[]⟩,FH FI 0] 50)=x:=⟨_,rfl⟩
 rw[dv] at b4 cd co ⊢;obtain ⟨jb,cm⟩:∃ jb,w0.heap.size=jb:=⟨_,rfl⟩
 have M:Hid (aV y0 w0.heap.size jb ⟨av,0,[],[],[],[],⟨[],zV⟩,⟨[],zV⟩,0⟩ (FD none 0 0) (FD none 0 0) (FD none 0 0)):=Fk (by
  rw[cm] at b4;exact ⟨b4,World.ownsRow_nil _ _ _ _,World.ownsRow_nil _ _ _ _,World.ownsRow_nil _ _ _ _,(fun g hg=>by cases hg),(fun g hg=>by cases hg),(fun g hg=>by cases hg)⟩)
 have V:=Fk co;have O:Hid (aa [b] w0 y0):=Fk cd.of_nil;have cn:Hid (w0.heap.size≤jb):=Fk (by omega);rw[cm];clear b4 cd co dv cm cj c0 z0 lb lg hn hc c7 k0 k1 k2 dq;rcases U:aR [106,111,98] l with x|r1
 ·have J:=HR.out
  rw[U,au] at J;have HX:=Fk J.symm;have HC:=Fk (cO U y0 V.out);clear J U;go_wp2_with fail
  refine HC.out.mono ?_;rintro ev w9 ⟨⟨gi,rfl,hb⟩,aA⟩;exact ⟨rfl,by rw[HX.out];exact ⟨gi,rfl,hb⟩,a5.out.of_nil.trans (O.out.trans aA)⟩
 have J:=HR.out;rw[U,ar] at J;try dsimp only at J
 clear HR;have HR:=Fk J;clear J;have HC:=Fk (aT U y0 V.out);have bc:Hid (r1.length≤l.length):=Fk (by have:=ad.out;have:=aD U;omega);clear ad;have ad:=bc;clear bc;clear U;go_wp2_with fail
 refine HC.out.mono ?_;rintro ev y1 ⟨rfl,hp,hk⟩;have HJ':=Fk (M.out.ps V.out hk);have HK':=Fk (O.out.trans hk);clear V M O HC;have V:=Fk hp;have M:=HJ';have O:=HK';clear hp hk HJ' HK';have hc:=lM y1 V.out (Ft ad.out c1.out);rcases U:fh r1 with x|⟨a2,r2⟩
 ·have J:=HR.out
  rw[U,au] at J;have HX:=Fk J.symm;rw[U] at hc;have cx:=Fk hc;clear J U hc;go_wp2_with fail
  refine cx.out.mono ?_;rintro ev w9 ⟨⟨gi,rfl,hb⟩,aA⟩;exact ⟨rfl,by rw[HX.out];exact ⟨gi,rfl,hb⟩,a5.out.of_nil.trans (O.out.trans aA)⟩
 have J:=HR.out;rw[U,ar] at J;try dsimp only at J
 clear HR;have HR:=Fk J;clear J;rw[U] at hc;have bc:Hid (r2.length≤l.length):=Fk (Ft (lO U) ad.out);have HC:=Fk hc;clear U hc ad;have ad:=bc;clear bc;go_wp2_with fail
 refine HC.out.mono ?_;rintro ev y2 ⟨⟨v2,rfl,bt,hp⟩,hk⟩;obtain ⟨A2,c2,hv,-⟩:=aq bt;subst hv;have ex:=Fk bt;have el:Hid (cA (FD A2 a2.length c2) (FD none 0 0)):=Fk (cA.new M.out.o3 (fun g hg=>(bt.lt g hg).1)).symm;have d9:Hid (cA (FD A2 a2.length c2) (FD none 0 0)):=Fk (cA.new M.out.o4 (fun g hg=>(bt.lt g hg).1)).symm;have er:=Fk O.out.size;clear bt;have HJ':=Fk (M.out.ps V.out hk);have HK':=Fk (O.out.trans hk);clear V M O HC;have V:=Fk hp;have M:=HJ';have O:=HK';clear hp hk HJ' HK';have es:=M.out.blk.frozen 2;have ds:y2.cell? ⟨jb,2,none⟩=some ((FD none 0 0)):=M.out.blk.cell 2;have lj:=M.out.blk.lt;have ba:aa [jb] y2 (y2.setCell ⟨jb,2,none⟩ (FD A2 a2.length c2)):=(Fz _ _).setCell (.inl (by simp)) _;have HJ':=Fk (M.out.put2 (cG ex.out er.out) el.out d9.out);have HP':=Fk (V.out.box M.out ba);have HK':=Fk (O.out.box cn.out ba);clear ba;go_upto_region 4 with (fail)
 obtain ⟨y3,hy⟩:∃ x,(y2.setCell ⟨jb,2,none⟩ (FD A2 a2.length c2))=x:=⟨_,rfl⟩
 rw[hy] at HJ' HP' HK' ⊢;clear hy es ds lj M V O;have M:=HJ';have V:=HP';have O:=HK';clear HJ' HP' HK';obtain ⟨sb,ct⟩:∃ sb,bC [114,101,116,114,121] r2=sb:=⟨_,rfl⟩
 have hT:=eT [114,101,116,114,121] y3 V.out;rw[ct] at hT;have HT:=Fk hT;have bm:=Fk ct;clear hT ct;go_wp2_with fail
 refine HT.out.mono ?_;rintro ev y4 ⟨rfl,hp,hk⟩;have HJ':=Fk (M.out.ps V.out hk);have HK':=Fk (O.out.trans hk);clear V M O HT;have V:=Fk hp;have M:=HJ';have O:=HK';clear hp hk HJ' HK';go_upto_if 21 with (fail)
 go_cut [] (fun wx=>∃ n r,dW r2= .ok (n,r)∧aV wx w0.heap.size jb (⟨av,0,a2,[],[],[],⟨[],zV⟩,⟨[],zV⟩,n⟩:Jb) (FD A2 a2.length c2) (FD none 0 0) (FD none 0 0)∧Ps wx b r∧aa [b] w0 wx∧r.length≤l.length)
 case first =>
  cases sb with
  | false =>
   go_wp2;go_meet;exact ⟨0,r2,by unfold dW;rw[bm.out];rfl,M.out,V.out,O.out,ad.out⟩
  | true =>
   obtain ⟨q,hq⟩:∃ q,r2.tail=q:=⟨_,rfl⟩
   have cu:Ps y4 b q:=by rw[←hq];exact V.out
   have bX:=Fk cu;have b6:=Fk hq;have d4:Hid (q.length≤r2.length):=Fk (by rw[←hq,List.length_tail];omega);obtain ⟨kd,b0⟩:∃ kd,(aS q).kind=kd:=⟨_,rfl⟩
   obtain ⟨tx,b8⟩:∃ tx,(aS q).text=tx:=⟨_,rfl⟩
   obtain ⟨d6,cg⟩:∃ av,(aS q).at_=av:=⟨_,rfl⟩
   have bv:=Fk b0;have cq:=Fk b8;obtain ⟨g,o,c,c0,z0,lb,lg,-,hn,hc,c7,k0,k1,k2,hw⟩:=cu.open';rw[b0] at k0;rw[b8] at k1;rw[cg] at k2;obtain ⟨cv,b5,-⟩:=hw;rw[b8] at cv b5;rw[b0] at b5;have cz:=Fk b5;have dq:(0:Int)<(q.length:Int):=by omega
   have a4:=Fk ((Fz [] y4).alloc (FG #[FH FI kd,FC (bs tx),FH FI d6] 114));clear cu b0 b8 cg b5 hq V;by_cases b3:kd=2
   ·subst b3
    have et:Hid (∀ c∈tx,iZ c=true):=Fk (cz.out rfl);clear cz;rcases ha:Lib.atoiAll tx with n|_|_
    ·have ch:=je ha et.out
     have b7:=Fk (fun W hW=>nR ha cv W hW);by_cases h5:5<n
     ·have a7:dW r2= .error (4,(aS q).at_):=by
       unfold dW;rw[if_pos bm.out,b6.out,if_neg (by rw[bv.out];simp),cq.out,ha];exact if_pos h5
      have HX:Hid (R= .error (4,(aS q).at_)):=Fk (by
       have J:=HR.out;rw[a7,au] at J;exact J.symm)
      clear a7;clear ha ch;go_wp2_with fail
      refine (b7.out _ (((HE.out.one b1 O.out).quiet a4.out).env)).mono ?_;rintro ev w3 ⟨rfl,a3⟩;have be:=Fk (a4.out.trans a3);clear a3;go_wp2_with fail
      refine (bu 4 _ (bX.out.keep be.out)).mono ?_;rintro ev w9 ⟨⟨gi,rfl,hb⟩,aA⟩;exact ⟨rfl,by rw[HX.out];exact ⟨gi,rfl,hb⟩,a5.out.of_nil.trans ((O.out.trans (be.out).of_nil).trans aA.of_nil)⟩
     have d7:Hid (dW r2= .ok (n,q.tail)):=Fk (by
      unfold dW;rw[if_pos bm.out,b6.out,if_neg (by rw[bv.out];simp),cq.out,ha];show (if 5<n then _ else _)=_;rw[if_neg h5])
     have bz:(aS q).kind≠5:=by rw[bv.out];decide
     have hmore:=bX.out.more bz;have d2:(1:Int)≤(q.length:Int):=by omega
     have d1:(1:Int)<(c:Int):=by omega
     have c6:=Fk bz;clear ha ch bz hmore;go_wp2_with fail
     refine (b7.out _ (((HE.out.one b1 O.out).quiet a4.out).env)).mono ?_;rintro ev w3 ⟨rfl,a3⟩;have bj:=Fk (M.out.keep (a4.out.trans a3));have cD:=Fk (bX.out.keep (a4.out.trans a3));have be:=Fk (O.out.trans (a4.out.trans a3).of_nil);have jf:=bj.out.blk.frozen 14;have jc:w3.cell? ⟨jb,14,none⟩=some (FH FI 0):=bj.out.blk.cell 14;have lj:=bj.out.blk.lt;have p0:w3.cell? ⟨b,0,none⟩=some (FD (some ⟨g,o,none⟩) q.length c):=(a4.out.trans a3).cell_of c0 (by simp);have pz:w3.frozen? ⟨b,0,none⟩=false:=((a4.out.trans a3).frozen lb (by simp)).trans z0;have fS:=Fq _ _ p0;have ba:aa [jb] w3 (w3.setCell ⟨jb,14,none⟩ (FH FI n)):=(Fz _ _).setCell (.inl (by simp)) _;have ez:Hid (aV (w3.setCell ⟨jb,14,none⟩ (FH FI n)) w0.heap.size jb (⟨av,0,a2,[],[],[],⟨[],zV⟩,⟨[],zV⟩,n⟩:Jb) (FD A2 a2.length c2) (FD none 0 0) (FD none 0 0)):=Fk (bj.out.box ba ((bj.out.blk.set 14 (FH FI n)).congr (by rfl)) rfl rfl rfl);have c8:=Fk (cD.out.box bj.out ba);have ey:=Fk (be.out.box cn.out ba);have d0:=bj.out.blk.ty.ne cD.out.ty (by decide);have cy:Hid ((w3.setCell ⟨jb,14,none⟩ (FH FI n)).cell? ⟨b,0,none⟩=some (FD (some ⟨g,o,none⟩) q.length c)):=Fk (ba.cell_of p0 (by simpa using d0.symm));have eb:=Fk (fun n' a d=> @Ps.step _ b g o c q c8.out cy.out c6.out n' a d);clear a3 ba cD be bj;go_wp2;go_meet;have ci:=eb.out (q.length-1) ⟨g,o+3,none⟩ (c-1) rfl rfl rfl;exact ⟨n,q.tail,d7.out,ez.out.ps c8.out ci.2,ci.1,ey.out.trans ci.2,by have:=ad.out;have:=d4.out;rw[List.length_tail];omega⟩
    all_goals
     have a7:dW r2= .error (4,(aS q).at_):=by
      unfold dW;rw[if_pos bm.out,b6.out,if_neg (by rw[bv.out];simp),cq.out,ha];try rfl
     have HX:Hid (R= .error (4,(aS q).at_)):=Fk (by
      have J:=HR.out;rw[a7,au] at J;exact J.symm)
     clear a7;have b7:=Fk (fun W hW=>lN (s:=tx) (fun n h=>by rw[ha] at h;cases h) cv W hW);clear ha;go_wp2_with fail
     refine (b7.out _ (((HE.out.one b1 O.out).quiet a4.out).env)).mono ?_;rintro ev w3 ⟨⟨n0,g7,ff,rfl⟩,a3⟩;have be:=Fk (a4.out.trans a3);clear a3;go_wp2_with fail
     refine (bu 4 _ (bX.out.keep be.out)).mono ?_;rintro ev w9 ⟨⟨gi,rfl,hb⟩,aA⟩;exact ⟨rfl,by rw[HX.out];exact ⟨gi,rfl,hb⟩,a5.out.of_nil.trans ((O.out.trans (be.out).of_nil).trans aA.of_nil)⟩
   have e2:(kd != 2)=true:=by rw[bne_iff_ne];exact b3
   have a7:dW r2= .error (3,(aS q).at_):=by
    unfold dW;rw[if_pos bm.out,b6.out,if_pos (by rw[bv.out];exact b3)];try rfl
   have HX:Hid (R= .error (3,(aS q).at_)):=Fk (by
    have J:=HR.out;rw[a7,au] at J;exact J.symm)
   clear a7;clear b3 cz;go_wp2_with fail
   refine (bu 3 _ (bX.out.keep a4.out)).mono ?_;rintro ev w9 ⟨⟨gi,rfl,hb⟩,aA⟩;exact ⟨rfl,by rw[HX.out];exact ⟨gi,rfl,hb⟩,a5.out.of_nil.trans ((O.out.trans (a4.out).of_nil).trans aA.of_nil)⟩
 obtain ⟨n4,r4,a7,hj,hp,hk,c5⟩:=hcut;obtain ⟨yc,rfl⟩:∃ y:World,y=wc:=⟨_,rfl⟩
 have J:=HR.out;rw[a7,ar] at J;try dsimp only at J
 clear V M O HR ad bm;have HR:=Fk J;have V:=Fk hp;have M:=Fk hj;have O:=Fk hk;have ad:=Fk c5;clear hp hj hk J a7 c5;rcases U:aR [61] r4 with x|r5
 ·have J:=HR.out
  rw[U,au] at J;have HX:=Fk J.symm;have HC:=Fk (cO U yc V.out);clear J U;go_wp2_with fail
  refine HC.out.mono ?_;rintro ev w9 ⟨⟨gi,rfl,hb⟩,aA⟩;exact ⟨rfl,by rw[HX.out];exact ⟨gi,rfl,hb⟩,a5.out.of_nil.trans (O.out.trans aA)⟩
 have J:=HR.out;rw[U,ar] at J;try dsimp only at J
 clear HR;have HR:=Fk J;clear J;have HC:=Fk (aT U yc V.out);have bc:Hid (r5.length≤l.length):=Fk (by have:=ad.out;have:=aD U;omega);clear ad;have ad:=bc;clear bc;clear U;go_wp2_with fail
 refine HC.out.mono ?_;rintro ev y5 ⟨rfl,hp,hk⟩;have HJ':=Fk (M.out.ps V.out hk);have HK':=Fk (O.out.trans hk);clear V M O HC;have V:=Fk hp;have M:=HJ';have O:=HK';clear hp hk HJ' HK';have hc:=zT av 0 a2 [] [] [] ⟨[],zV⟩ ⟨[],zV⟩ n4 w0 y5 HE.out b1 V.out O.out cn.out M.out (by simp) (by simp) (Ft ad.out c1.out);rcases U:bF (⟨av,0,a2,[],[],[],⟨[],zV⟩,⟨[],zV⟩,n4⟩:Jb) r5 with x|⟨jx,r6⟩
 ·have J:=HR.out
  rw[show BW av a2 n4=(⟨av,0,a2,[],[],[],⟨[],zV⟩,⟨[],zV⟩,n4⟩:Jb) from rfl,U,au] at J;have HX:=Fk J.symm;rw[U] at hc;have cx:=Fk hc;clear J U hc;go_wp2_with fail
  refine cx.out.mono ?_;rintro ev w9 ⟨⟨gi,rfl,hb⟩,aA⟩;exact ⟨rfl,by rw[HX.out];exact ⟨gi,rfl,hb⟩,a5.out.of_nil.trans aA⟩
 have J:=HR.out;rw[show BW av a2 n4=(⟨av,0,a2,[],[],[],⟨[],zV⟩,⟨[],zV⟩,n4⟩:Jb) from rfl,U,ar] at J;try dsimp only at J
 clear HR;have HR:=Fk J;rw[U] at hc;have HC:=Fk hc;clear J U hc ad;go_wp2_with fail
 refine HC.out.mono ?_;rintro ev y6 ⟨⟨rfl,⟨gk,fz,gc,hj⟩,hp⟩,hk⟩;clear V M O HC;obtain ⟨bo,a8,a9,bb,a6,br,H,D,a1⟩:=jx;have V:=Fk hp;have M:=Fk hj;have O:=Fk hk;clear hp hj hk;rcases U:aR [59] r6 with x|r7
 ·have J:=HR.out
  rw[U,au] at J;have HX:=Fk J.symm;have HC:=Fk (cO U y6 V.out);clear J U;go_wp2_with fail
  refine HC.out.mono ?_;rintro ev w9 ⟨⟨gi,rfl,hb⟩,aA⟩;exact ⟨rfl,by rw[HX.out];exact ⟨gi,rfl,hb⟩,a5.out.of_nil.trans (O.out.trans aA)⟩
 have J:=HR.out;rw[U,ar] at J;try dsimp only at J
 clear HR;have HR:=Fk J;clear J;have HC:=Fk (aT U y6 V.out);clear U;go_wp2_with fail
 refine HC.out.mono ?_;rintro ev Z ⟨rfl,hp,hk⟩;have HJ':=Fk (M.out.ps V.out hk);have HK':=Fk (O.out.trans hk);clear V M O HC;have V:=Fk hp;have M:=HJ';have O:=HK';clear hp hk HJ' HK';obtain ⟨A2,c2,d8,-⟩:=aq M.out.o2;obtain ⟨A3,c3,d5,-⟩:=aq M.out.o3;obtain ⟨A4,c4,d3,-⟩:=aq M.out.o4;subst d8 d5 d3;have I:=Fk (dt.out.keep O.out ce.out);have HX:=Fk HR.out.symm;clear HR;have f7:Z.cell? ⟨jb,0,none⟩=some (FH FI bo):=M.out.blk.cell 0;have g0:Z.cell? ⟨N,0,none⟩=some (FH FI 0):=I.out.cell 0;have gm:=I.out.frozen 0;have g5:Z.cell? ⟨jb,1,none⟩=some (FH FI a8):=M.out.blk.cell 1;have gz:Z.cell? ⟨N,1,none⟩=some (FH FI 0):=I.out.cell 1;have gl:=I.out.frozen 1;have ds:Z.cell? ⟨jb,2,none⟩=some (FD A2 a9.length c2):=M.out.blk.cell 2;have g1:Z.cell? ⟨N,2,none⟩=some (FD none 0 0):=I.out.cell 2;have f4:=I.out.frozen 2;have f1:Z.cell? ⟨jb,3,none⟩=some (FD A3 bb.length c3):=M.out.blk.cell 3;have f6:Z.cell? ⟨N,3,none⟩=some (FD none 0 0):=I.out.cell 3;have f2:=I.out.frozen 3;have hf:Z.cell? ⟨jb,4,none⟩=some (FD A4 a6.length c4):=M.out.blk.cell 4;have fs:Z.cell? ⟨N,4,none⟩=some (FD none 0 0):=I.out.cell 4;have g3:=I.out.frozen 4;have fn:Z.cell? ⟨jb,5,none⟩=some (FC (bs br)):=M.out.blk.cell 5;have f9:Z.cell? ⟨N,5,none⟩=some (FC ⟨#[]⟩):=I.out.cell 5;have he:=I.out.frozen 5;have gf:Z.cell? ⟨jb,6,none⟩=some (FC (bs H.col)):=M.out.blk.cell 6;have g6:Z.cell? ⟨N,6,none⟩=some (FC ⟨#[]⟩):=I.out.cell 6;have hi:=I.out.frozen 6;have hh:Z.cell? ⟨jb,7,none⟩=some (FH FI H.val.kind):=M.out.blk.cell 7;have f8:Z.cell? ⟨N,7,none⟩=some (FH FI 0):=I.out.cell 7;have g4:=I.out.frozen 7;have f0:Z.cell? ⟨jb,8,none⟩=some (FH FI H.val.num):=M.out.blk.cell 8;have f5:Z.cell? ⟨N,8,none⟩=some (FH FI 0):=I.out.cell 8;have g2:=I.out.frozen 8;have g8:Z.cell? ⟨jb,9,none⟩=some (FC (bs H.val.word)):=M.out.blk.cell 9;have f3:Z.cell? ⟨N,9,none⟩=some (FC ⟨#[]⟩):=I.out.cell 9;have fr:=I.out.frozen 9;have fb:Z.cell? ⟨jb,10,none⟩=some (FC (bs D.col)):=M.out.blk.cell 10;have eB:Z.cell? ⟨N,10,none⟩=some (FC ⟨#[]⟩):=I.out.cell 10;have e4:=I.out.frozen 10
 have e3:Z.cell? ⟨jb,11,none⟩=some (FH FI D.val.kind):=M.out.blk.cell 11;have e5:Z.cell? ⟨N,11,none⟩=some (FH FI 0):=I.out.cell 11;have e1:=I.out.frozen 11;have e6:Z.cell? ⟨jb,12,none⟩=some (FH FI D.val.num):=M.out.blk.cell 12;have e9:Z.cell? ⟨N,12,none⟩=some (FH FI 0):=I.out.cell 12;have e7:=I.out.frozen 12;have eX:Z.cell? ⟨jb,13,none⟩=some (FC (bs D.val.word)):=M.out.blk.cell 13;have fc:Z.cell? ⟨N,13,none⟩=some (FC ⟨#[]⟩):=I.out.cell 13;have e0:=I.out.frozen 13;have eA:Z.cell? ⟨jb,14,none⟩=some (FH FI a1):=M.out.blk.cell 14;have e8:Z.cell? ⟨N,14,none⟩=some (FH FI 0):=I.out.cell 14;have eY:=I.out.frozen 14;have lj:=M.out.blk.lt;have lr:=I.out.lt;go_wp2;have a0:=(((((((((((((((I.out.set 0 (FH FI bo)).set 1 (FH FI a8)).set 2 (FD A2 a9.length c2)).set 3 (FD A3 bb.length c3)).set 4 (FD A4 a6.length c4)).set 5 (FC (bs br))).set 6 (FC (bs H.col))).set 7 (FH FI H.val.kind)).set 8 (FH FI H.val.num)).set 9 (FC (bs H.val.word))).set 10 (FC (bs D.col))).set 11 (FH FI D.val.kind)).set 12 (FH FI D.val.num)).set 13 (FC (bs D.val.word))).set 14 (FH FI a1));have y0':=a0.cell 0;have y1':=a0.cell 1;have y2':=a0.cell 2;have y3':=a0.cell 3;have y4':=a0.cell 4;have y5':=a0.cell 5;have y6':=a0.cell 6;have y7':=a0.cell 7;have y8':=a0.cell 8;have y9':=a0.cell 9;have y10':=a0.cell 10;have y11':=a0.cell 11;have y12':=a0.cell 12;have y13':=a0.cell 13;have y14':=a0.cell 14;refine bodyPost_ret (v:= .agg #[FH FI bo,FH FI a8,FD A2 a9.length c2,FD A3 bb.length c3,FD A4 a6.length c4,FC (bs br),FC (bs H.col),FH FI H.val.kind,FH FI H.val.num,FC (bs H.val.word),FC (bs D.col),FH FI D.val.kind,FH FI D.val.num,FC (bs D.val.word),FH FI a1]) (by simp[results,Tryz.results78,go_sem,y0',y1',y2',y3',y4',y5',y6',y7',y8',y9',y10',y11',y12',y13',y14']) rfl ⟨?_,?_⟩
 ·rw[HX.out]
  have bk:aa [N] Z (((((((((((((((Z.setCell ⟨N,0,none⟩ (FH FI bo)).setCell ⟨N,1,none⟩ (FH FI a8)).setCell ⟨N,2,none⟩ (FD A2 a9.length c2)).setCell ⟨N,3,none⟩ (FD A3 bb.length c3)).setCell ⟨N,4,none⟩ (FD A4 a6.length c4)).setCell ⟨N,5,none⟩ (FC (bs br))).setCell ⟨N,6,none⟩ (FC (bs H.col))).setCell ⟨N,7,none⟩ (FH FI H.val.kind)).setCell ⟨N,8,none⟩ (FH FI H.val.num)).setCell ⟨N,9,none⟩ (FC (bs H.val.word))).setCell ⟨N,10,none⟩ (FC (bs D.col))).setCell ⟨N,11,none⟩ (FH FI D.val.kind)).setCell ⟨N,12,none⟩ (FH FI D.val.num)).setCell ⟨N,13,none⟩ (FC (bs D.val.word))).setCell ⟨N,14,none⟩ (FH FI a1)):=((((((((((((((((Fz _ _).setCell (.inl (by simp)) _).setCell (.inl (by simp)) _).setCell (.inl (by simp)) _).setCell (.inl (by simp)) _).setCell (.inl (by simp)) _).setCell (.inl (by simp)) _).setCell (.inl (by simp)) _).setCell (.inl (by simp)) _).setCell (.inl (by simp)) _).setCell (.inl (by simp)) _).setCell (.inl (by simp)) _).setCell (.inl (by simp)) _).setCell (.inl (by simp)) _).setCell (.inl (by simp)) _).setCell (.inl (by simp)) _);have hL:∀ x∈[N],dP Z x 50:=fun x hx=>by rw[List.mem_singleton.1 hx];exact I.out.ty
  exact ⟨_,_,_,rfl,⟨cf (cG M.out.o2 a5.out.size) bk hL (by decide),cf (cG M.out.o3 a5.out.size) bk hL (by decide),cf (cG M.out.o4 a5.out.size) bk hL (by decide)⟩,V.out.far bk (fun x hx=>⟨50,hL x hx,by decide,by decide⟩)⟩
 have bk:aa [N] Z (((((((((((((((Z.setCell ⟨N,0,none⟩ (FH FI bo)).setCell ⟨N,1,none⟩ (FH FI a8)).setCell ⟨N,2,none⟩ (FD A2 a9.length c2)).setCell ⟨N,3,none⟩ (FD A3 bb.length c3)).setCell ⟨N,4,none⟩ (FD A4 a6.length c4)).setCell ⟨N,5,none⟩ (FC (bs br))).setCell ⟨N,6,none⟩ (FC (bs H.col))).setCell ⟨N,7,none⟩ (FH FI H.val.kind)).setCell ⟨N,8,none⟩ (FH FI H.val.num)).setCell ⟨N,9,none⟩ (FC (bs H.val.word))).setCell ⟨N,10,none⟩ (FC (bs D.col))).setCell ⟨N,11,none⟩ (FH FI D.val.kind)).setCell ⟨N,12,none⟩ (FH FI D.val.num)).setCell ⟨N,13,none⟩ (FC (bs D.val.word))).setCell ⟨N,14,none⟩ (FH FI a1)):=((((((((((((((((Fz _ _).setCell (.inl (by simp)) _).setCell (.inl (by simp)) _).setCell (.inl (by simp)) _).setCell (.inl (by simp)) _).setCell (.inl (by simp)) _).setCell (.inl (by simp)) _).setCell (.inl (by simp)) _).setCell (.inl (by simp)) _).setCell (.inl (by simp)) _).setCell (.inl (by simp)) _).setCell (.inl (by simp)) _).setCell (.inl (by simp)) _).setCell (.inl (by simp)) _).setCell (.inl (by simp)) _).setCell (.inl (by simp)) _);exact (a5.out.of_nil.trans O.out).trans' bk (fun x hx hl=>by rw[List.mem_singleton.1 hx] at hl;have:=c9.out;omega)
theorem cU {W W':World} {base n size:Nat} {e:TypeId} {u:Value} {xs:List Value} {L:List Nat} (h:W.ownsRow base e size u n xs) (D:aa L W W') (N:∀ x∈L,∃ t,dP W x t∧e≠t):W'.ownsRow base e size u n xs :=
 aE h D (fun g J M=>by
  obtain ⟨t,I,H⟩:=N g M;exact (aL h g J).ne I H rfl)
def cP {α:Type} (El:World→Nat→List Value→α→Prop) (e:TypeId) (size:Nat) (W:World) (base:Nat) (v:Value) (l:List α):Prop :=
 ∃ us:List (List Value),us.length=l.length∧W.ownsRow base e size v l.length us.flatten∧∀ j (h:j<l.length) (h':j<us.length),El W base us[j] l[j]
section
variable {α:Type} {El:World→Nat→List Value→α→Prop} {e:TypeId} {size base:Nat} {W W':World} {v u:Value} {l:List α} {L:List Nat}
theorem cP.nil:cP El e size W base (FD none 0 0) ([]:List α):=⟨[],rfl,World.ownsRow_nil _ _ _ _,fun j h=>absurd h (by simp)⟩
theorem cP.far (h:cP El e size W base v l) (J:aa L W W') (N:∀ x∈L,∃ t,dP W x t∧e≠t) (I:∀ cs x,El W base cs x→El W' base cs x):cP El e size W' base v l:=by
 obtain ⟨us,H,M,D⟩:=h;exact ⟨us,H,cU M J N,fun j h h'=>I _ _ (D j h h')⟩
theorem cP.snoc {us:List (List Value)} {cs:List Value} {x:α} (D:us.length=l.length) (H:∀ j (h:j<l.length) (h':j<us.length),El W base us[j] l[j]) (M:El W base cs x) (J:W.ownsRow base e size u (l.length+1) (us.flatten++cs)):cP El e size W base u (l++[x]):=by
 refine ⟨us++[cs],by simp[D],by simpa using J,fun j h h'=>?_⟩;by_cases I:j<l.length
 ·rw[List.getElem_append_left (by omega),List.getElem_append_left I]
  exact H j I (by omega)
 have hj':j=l.length:=by simp at h;omega
 subst hj';rw[List.getElem_append_right (by omega),List.getElem_append_right (Fm _)];simpa[D] using M
end
def jg (W:World) (base:Nat) (cs:List Value) (x:In):Prop:=∃ v,cs=[FH FI x.at_,FC (bs x.name),v]∧W.ownsRow base 64 2 v x.cols.length (ai x.cols)
def jh (W:World) (base:Nat) (cs:List Value) (x:Jb):Prop:=∃ v2 D h,cs=(bY x v2 D h).toList∧zU W base x v2 D h
def xM (_:World) (_:Nat) (cs:List Value) (x:Pb):Prop:=cs=[FH FI x.at_,FC (bs x.name),FC (bs x.src)]
abbrev mF:=cP jg 57 3
abbrev ji:=cP jh 50 15
abbrev jj:=cP xM 60 3
def qq:List TypeId:=[9,64,57,50,60,29,109]
def dE (S:List TypeId) (L:List Nat) (W W':World):Prop:=aa L W W'∧∀ x∈L,∃ t,dP W x t∧t∉S
theorem dE.ne {S:List TypeId} {L:List Nat} {W W':World} (h:dE S L W W') {e:TypeId} (M:e∈S):∀ x∈L,∃ t,dP W x t∧e≠t:=fun x J=>by
 obtain ⟨t,D,H⟩:=h.2 x J;exact ⟨t,D,fun I=>H (I ▸ M)⟩
theorem dE.mono {S D:List TypeId} {L:List Nat} {W W':World} (h:dE S L W W') (J:∀ e∈D,e∈S):dE D L W W' :=
 ⟨h.1,fun x M=>by obtain ⟨t,I,N⟩:=h.2 x M;exact ⟨t,I,fun H=>N (J t H)⟩⟩
theorem dE.blk {S:List TypeId} {L:List Nat} {W W':World} (h:dE S L W W') {e:TypeId} {g:Nat} {cs:Array Value} (D:ao W g e cs) (M:e∈S):ao W' g e cs :=
 D.keep h.1 (fun J=>by obtain ⟨t,H,I⟩:=h.ne M g J;exact D.ty.ne H I rfl)
section
variable {W W':World} {base:Nat} {L:List Nat} {S:List TypeId} {v:Value}
theorem jg.far (h:dE S L W W') (H:64∈S):∀ cs x,jg W base cs x→jg W' base cs x:=fun _ _ ⟨v,I,D⟩=>⟨v,I,cU D h.1 (h.ne H)⟩
theorem jh.far (h:dE S L W W') (D:9∈S):∀ cs x,jh W base cs x→jh W' base cs x:=fun _ _ ⟨v2,M,I,J,H⟩=>⟨v2,M,I,J,⟨cU H.o2 h.1 (h.ne D),cU H.o3 h.1 (h.ne D),cU H.o4 h.1 (h.ne D)⟩⟩
theorem mF.far {l:List In} (I:mF W base v l) (h:dE S L W W') (H:64∈S) (D:57∈S):mF W' base v l:=cP.far I h.1 (h.ne D) (jg.far h H)
theorem ji.far {l:List Jb} (I:ji W base v l) (h:dE S L W W') (H:9∈S) (D:50∈S):ji W' base v l:=cP.far I h.1 (h.ne D) (jh.far h H)
theorem jj.far {l:List Pb} (H:jj W base v l) (h:dE S L W W') (D:60∈S):jj W' base v l:=cP.far H h.1 (h.ne D) (fun _ _ h=>h)
end
structure dk (W:World) (base pb rb fb b:Nat) (v0 v1 v2:Value) (ins:List In) (jobs:List Jb) (outs:List Pb):Prop where
 pbk:ao W pb 109 #[FE (some ⟨b,0,none⟩)]
 rbk:ao W rb 29 #[FD none 0 0,FD none 0 0,FD none 0 0]
 fbk:ao W fb 29 #[v0,v1,v2]
 ne:rb≠fb
 lo:base≤fb
 i0:mF W base v0 ins
 i1:ji W base v1 jobs
 i2:jj W base v2 outs
section
variable {W W' W7:World} {base pb rb fb b k:Nat} {v0 v1 v2 u:Value} {ins:List In} {jobs:List Jb} {outs:List Pb} {L:List Nat} {l:List Tk} {o:Obj} {cs:List Value} {us:List (List Value)}
theorem dk.far (h:dk W base pb rb fb b v0 v1 v2 ins jobs outs) (D:dE qq L W W'):dk W' base pb rb fb b v0 v1 v2 ins jobs outs :=
 ⟨D.blk h.pbk (by decide),D.blk h.rbk (by decide),D.blk h.fbk (by decide),h.ne,h.lo,h.i0.far D (by decide) (by decide),h.i1.far D (by decide) (by decide),h.i2.far D (by decide)⟩
theorem dk.keep (h:dk W base pb rb fb b v0 v1 v2 ins jobs outs) (H:aa [] W W'):dk W' base pb rb fb b v0 v1 v2 ins jobs outs :=
 h.far ⟨H,fun x D=>by cases D⟩
theorem dk.ps (h:dk W base pb rb fb b v0 v1 v2 ins jobs outs) (H:Ps W b l) (D:aa [b] W W'):dk W' base pb rb fb b v0 v1 v2 ins jobs outs :=
 h.far ⟨D,fun x I=>⟨111,by rw[List.mem_singleton.1 I];exact H.ty,by decide⟩⟩
theorem jJ {e:TypeId} {S:List TypeId} (h:dk W base pb rb fb b v0 v1 v2 ins jobs outs) {D:Option Nat} (I:(W.alloc o).grownBy W7 D) (J:∀ x,D=some x→dP W x e) (M:e∉S) (N:29∉S) :
  dE S (D.toList++[fb]) W (W7.setCell ⟨fb,k,none⟩ u):=by
 refine ⟨(aa.grown ((Fz _ W).alloc o) I (fun g I=> .inl (by rw[I];simp))).setCell (.inl (by simp)) _,fun x H=>?_⟩;rcases List.mem_append.1 H with H|H
 ·cases D with
  | none=>cases H
  | some y=>simp at H;exact ⟨e,J x (by rw[H]),M⟩
 rw[List.mem_singleton.1 H];exact ⟨_,h.fbk.ty,N⟩
theorem dk.fbk7 {e:TypeId} (h:dk W base pb rb fb b v0 v1 v2 ins jobs outs) {D:Option Nat} (I:(W.alloc o).grownBy W7 D) (H:∀ x,D=some x→dP W x e) (M:e≠29):ao W7 fb 29 #[v0,v1,v2] :=
 (I.block fb (h.fbk.alloc o).lt (fun J=>(H fb J.symm).ne h.fbk.ty M rfl)).trans (h.fbk.alloc o)
theorem dk.keeps7 {w:World} (h:dk W w.heap.size pb rb fb b v0 v1 v2 ins jobs outs) (H:aa [b] w W) {D:Option Nat} (J:(W.alloc o).grownBy W7 D) (I:∀ x,D=some x→w.heap.size≤x):aa [b] w (W7.setCell ⟨fb,k,none⟩ u) :=
 ((H.alloc o).grown J (fun x M=> .inr (I x M))).setCell (.inr h.lo) _
theorem nU {e:TypeId} {size n:Nat} {xs:List Value} (h:dk W base pb rb fb b v0 v1 v2 ins jobs outs) {H:Option Nat} (J:(W.alloc o).grownBy W7 H) (M:∀ x,H=some x→dP W x e) (I:e≠29) (D:W7.ownsRow base e size u n xs) {N:Value}:(W7.setCell ⟨fb,k,none⟩ N).ownsRow base e size u n xs :=
 cU (L:=[fb]) D ((Fz _ _).setCell (.inl (by simp)) _) (fun x O=>by rw[List.mem_singleton.1 O];exact ⟨_,(h.fbk7 J M I).ty,I⟩)
theorem E4 {e:TypeId} (h:dk W base pb rb fb b v0 v1 v2 ins jobs outs) (O:Ps W b l) {D:Option Nat} (N:(W.alloc o).grownBy W7 D) (U:∀ x,D=some x→dP W x e) (H:e≠111) (I:e≠114):Ps (W7.setCell ⟨fb,k,none⟩ u) b l:=by
 have M:=jJ (S:=[111,114]) (k:=k) (u:=u) h N U (by simp[H,I]) (by decide);exact O.far M.1 (fun x V=>by obtain ⟨t,Z,J⟩:=M.2 x V;exact ⟨t,Z,fun e=>J (by simp[e]),fun e=>J (by simp[e])⟩)
theorem lP {W:World} {g:Nat} {e:TypeId} {a b c u:Value} (h:ao W g e #[a,b,c]):ao (W.setCell ⟨g,0,none⟩ u) g e #[u,b,c]:=(h.set 0 u).congr rfl
theorem kv {W:World} {g:Nat} {e:TypeId} {a b c u:Value} (h:ao W g e #[a,b,c]):ao (W.setCell ⟨g,1,none⟩ u) g e #[a,u,c]:=(h.set 1 u).congr rfl
theorem ky {W:World} {g:Nat} {e:TypeId} {a b c u:Value} (h:ao W g e #[a,b,c]):ao (W.setCell ⟨g,2,none⟩ u) g e #[a,b,u]:=(h.set 2 u).congr rfl
theorem dk.app0 {x:In} (h:dk W base pb rb fb b v0 v1 v2 ins jobs outs) (O:us.length=ins.length) (V:W.ownsRow base 57 3 v0 ins.length us.flatten) (M:∀ j (h:j<ins.length) (h':j<us.length),jg W base us[j] ins[j]) (hx:jg W base cs x) (N:(W.alloc o).grownBy W7 v0.ownBlock) (H:W7.ownsRow base 57 3 u (ins.length+1) (us.flatten++cs)):dk (W7.setCell ⟨fb,0,none⟩ u) base pb rb fb b u v1 v2 (ins++[x]) jobs outs:=by
 have J:=aL V;have D:=jJ (S:=[9,64,50,60,109]) (k:=0) (u:=u) h N J (by decide) (by decide);have U:ao (W7.setCell ⟨fb,0,none⟩ u) rb 29 #[FD none 0 0,FD none 0 0,FD none 0 0]:=h.rbk.keep D.1 (fun I=>by
  rcases List.mem_append.1 I with I|I
  ·exact (J rb (by simpa using I)).ne h.rbk.ty (by decide) rfl
  exact h.ne (List.mem_singleton.1 I))
 exact ⟨D.blk h.pbk (by decide),U,lP (h.fbk7 N J (by decide)),h.ne,h.lo,cP.snoc O (fun j Z h2=>jg.far D (by decide) _ _ (M j Z h2)) (jg.far D (by decide) _ _ hx) (nU h N J (by decide) H),h.i1.far D (by decide) (by decide),h.i2.far D (by decide)⟩
theorem dk.app1 {x:Jb} (h:dk W base pb rb fb b v0 v1 v2 ins jobs outs) (O:us.length=jobs.length) (V:W.ownsRow base 50 15 v1 jobs.length us.flatten) (M:∀ j (h:j<jobs.length) (h':j<us.length),jh W base us[j] jobs[j]) (hx:jh W base cs x) (N:(W.alloc o).grownBy W7 v1.ownBlock) (H:W7.ownsRow base 50 15 u (jobs.length+1) (us.flatten++cs)):dk (W7.setCell ⟨fb,1,none⟩ u) base pb rb fb b v0 u v2 ins (jobs++[x]) outs:=by
 have J:=aL V;have D:=jJ (S:=[9,64,57,60,109]) (k:=1) (u:=u) h N J (by decide) (by decide);have U:ao (W7.setCell ⟨fb,1,none⟩ u) rb 29 #[FD none 0 0,FD none 0 0,FD none 0 0]:=h.rbk.keep D.1 (fun I=>by
  rcases List.mem_append.1 I with I|I
  ·exact (J rb (by simpa using I)).ne h.rbk.ty (by decide) rfl
  exact h.ne (List.mem_singleton.1 I))
 exact ⟨D.blk h.pbk (by decide),U,kv (h.fbk7 N J (by decide)),h.ne,h.lo,h.i0.far D (by decide) (by decide),cP.snoc O (fun j Z h2=>jh.far D (by decide) _ _ (M j Z h2)) (jh.far D (by decide) _ _ hx) (nU h N J (by decide) H),h.i2.far D (by decide)⟩
theorem dk.app2 {x:Pb} (h:dk W base pb rb fb b v0 v1 v2 ins jobs outs) (O:us.length=outs.length) (V:W.ownsRow base 60 3 v2 outs.length us.flatten) (M:∀ j (h:j<outs.length) (h':j<us.length),xM W base us[j] outs[j]) (hx:xM W base cs x) (N:(W.alloc o).grownBy W7 v2.ownBlock) (D:W7.ownsRow base 60 3 u (outs.length+1) (us.flatten++cs)):dk (W7.setCell ⟨fb,2,none⟩ u) base pb rb fb b v0 v1 u ins jobs (outs++[x]):=by
 have I:=aL V;have J:=jJ (S:=[9,64,57,50,109]) (k:=2) (u:=u) h N I (by decide) (by decide);have U:ao (W7.setCell ⟨fb,2,none⟩ u) rb 29 #[FD none 0 0,FD none 0 0,FD none 0 0]:=h.rbk.keep J.1 (fun H=>by
  rcases List.mem_append.1 H with H|H
  ·exact (I rb (by simpa using H)).ne h.rbk.ty (by decide) rfl
  exact h.ne (List.mem_singleton.1 H))
 exact ⟨J.blk h.pbk (by decide),U,ky (h.fbk7 N I (by decide)),h.ne,h.lo,h.i0.far J (by decide) (by decide),h.i1.far J (by decide) (by decide),cP.snoc O (fun j Z h2=>M j Z h2) hx (nU h N I (by decide) D)⟩
end
def nV (a:List In) (b:List Jb) (p:List Pb×List Tk):Except (Int×Int) (Fl×List Tk):= .ok (⟨a,b,p.1⟩,p.2)
def nW (a:List In) (p:List Jb×List Tk):Except (Int×Int) (Fl×List Tk):=cR [111,117,116] ng p.2.length p.2 [] >>= nV a p.1
def qr (p:List In×List Tk):Except (Int×Int) (Fl×List Tk):=cR [106,111,98] kT p.2.length p.2 [] >>= nW p.1
theorem sK (l:List Tk):qj l=cR [105,110] eE l.length l [] >>= qr:=by
 unfold qj;rcases cR [105,110] eE l.length l [] with x|⟨a,r⟩
 ·rfl
 rw[ar,ar];show _=cR [106,111,98] kT r.length r [] >>= nW a;dsimp only
 rcases cR [106,111,98] kT r.length r [] with x|⟨b,h⟩
 ·rfl
 rw[ar,ar];show _=cR [111,117,116] ng h.length h [] >>= nV a b;dsimp only
 rcases cR [111,117,116] ng h.length h [] with x|⟨c,D⟩<;>rfl
theorem rq {α:Type} {w:Bs} {D:List Tk→Except (Int×Int) (α×List Tk)} {n:Nat} {q:List Tk} {acc:List α} (h:bC w q=false):cR w D n q acc= .ok (acc,q):=by
 cases n with
 | zero=>rfl
 | succ n=>unfold cR;rw[h];rfl
theorem lQ {α:Type} {w:Bs} {D:List Tk→Except (Int×Int) (α×List Tk)} {n:Nat} {q:List Tk} {acc:List α} (h:bC w q=true) (I:0<n) (H:acc.length=16):cR w D n q acc= .error (4,(aS q).at_):=by
 obtain ⟨n,rfl⟩:∃ m,n=m+1:=⟨n-1,by omega⟩
 unfold cR;rw[h,if_pos rfl,if_pos H];rfl
theorem fL {α:Type} {w:Bs} {D:List Tk→Except (Int×Int) (α×List Tk)} {n:Nat} {q:List Tk} {acc:List α} {x:Int×Int} (h:bC w q=true) (J:0<n) (I:acc.length≠16) (H:D q= .error x):cR w D n q acc= .error x:=by
 obtain ⟨n,rfl⟩:∃ m,n=m+1:=⟨n-1,by omega⟩
 unfold cR;rw[h,if_pos rfl,if_neg I,H];rfl
theorem ru {α:Type} {w:Bs} {D:List Tk→Except (Int×Int) (α×List Tk)} {n:Nat} {q r:List Tk} {acc:List α} {x:α} (h:bC w q=true) (J:0<n) (I:acc.length≠16) (H:D q= .ok (x,r)):cR w D n q acc=cR w D (n-1) r (acc++[x]):=by
 obtain ⟨n,rfl⟩:∃ m,n=m+1:=⟨n-1,by omega⟩
 conv=>lhs;unfold cR
 rw[h,if_pos rfl,if_neg I,H];rfl
def BX (R:Except (Int×Int) (Fl×List Tk)) (b base:Nat) (e:Ending) (w':World):Prop:=match R with
 | .ok (f,r)=>∃ v0 v1 v2,e=FF (.agg #[v0,v1,v2])∧mF w' base v0 f.ins∧ji w' base v1 f.jobs∧jj w' base v2 f.outs∧Ps w' b r
 | .error x=>bS x e w'
theorem nX {W:World} {pb b:Nat} {l:List Tk} (n:Nat) (H:ao W pb 109 #[FE (some ⟨b,0,none⟩)]) (h:Ps W b l) (N:n=16) :
  Calls Tryz.prog 75 #[FH FI n,FE (some ⟨pb,0,none⟩)] W fun e W'=>bS (4,(aS l).at_) e W'∧aa [] W W':=by
 have p0:W.cell? ⟨pb,0,none⟩=some (FE (some ⟨b,0,none⟩)):=H.cell 0;have M:=Fk (bu 4 W h);have O:=H.lt;have U:((n:Int)==16)=true:=by rw[beq_iff_eq];omega
 clear H h N;go_enter Tryz.func75,Tryz.ntmps75
 go_wp2_with fail
 refine M.out.mono ?_;rintro V Z ⟨⟨J,rfl,I⟩,D⟩;exact ⟨rfl,⟨J,rfl,I⟩,D⟩
theorem rx {W:World} {pb b:Nat} {l:List Tk} (n:Nat) (h:ao W pb 109 #[FE (some ⟨b,0,none⟩)]) (D:Ps W b l) (H:n≠16) :
  Calls Tryz.prog 75 #[FH FI n,FE (some ⟨pb,0,none⟩)] W fun e W'=>e=FF (.tuple #[])∧W=W':=by
 have M:W.cell? ⟨pb,0,none⟩=some (FE (some ⟨b,0,none⟩)):=h.cell 0;have I:=h.lt;have J:((n:Int)==16)=false:=by rw[beq_eq_false_iff_ne];omega
 clear h D H;go_enter Tryz.func75,Tryz.ntmps75
 go_wp2;first|go_end0|refine bodyPost_ret (results_none rfl _ _ _) rfl ?_
 exact ⟨rfl,rfl⟩
end
section
open Go.RowKit Go.BigFrame
theorem np {size:Nat}:∀ {us:List (List Value)} (_:∀ u∈us,u.length=size) (j:Nat) (h:j<us.length) (k:Nat),k<size→us.flatten[j*size+k]? = us[j][k]?
 | [],_,j,h,_,_=>absurd h (by simp)
 | u::us,D,0,_,k,I=>by
  have H:=D u (by simp);rw[List.flatten_cons,Nat.zero_mul,Nat.zero_add,List.getElem?_append_left (by omega)];rfl
 | u::us,D,j+1,h,k,I=>by
  have H:=D u (by simp);rw[List.flatten_cons,List.getElem?_append_right (by rw[H,Nat.succ_mul];omega),H,show (j+1)*size+k-size=j*size+k by rw[Nat.succ_mul];omega];exact np (fun u J=>D u (List.mem_cons_of_mem _ J)) j (by simpa using h) k I
theorem Dy {α:Type} {I:World→Nat→List Value→α→Prop} {e:TypeId} {size base m c:Nat} {W:World} {A:Option Addr} {l:List α} (h:cP I e size W base (FD A m c) l) (hs:∀ cs x,I W base cs x→cs.length=size) (j:Nat) (hj:j<l.length) :
  ∃ g cs,A=some ⟨g,0,none⟩∧g<W.heap.size∧I W base cs l[j]∧∀ k u,cs[k]? = some u→W.cell? ⟨g,j*size+k,none⟩=some u:=by
 obtain ⟨us,h1,V,N⟩:=h;obtain ⟨A',c',J,M⟩:=aq V;injection J with J _ _;subst J;obtain ⟨g,rfl,Z,M⟩:=M (by omega);have hj':j<us.length:=by omega
 have D:∀ u∈us,u.length=size:=fun u H=>by
  obtain ⟨i,O,rfl⟩:=List.getElem_of_mem H;exact hs _ _ (N i (by omega) O)
 refine ⟨g,us[j],rfl,Z,N j hj hj',fun k u H=>M _ _ ?_⟩;have U:k<size:=by
  have:=(List.getElem?_eq_some_iff.1 H).1;rw[D _ (Fs hj')] at this;exact this
 rw[np D j hj' k U];exact H
theorem jg.len {W:World} {base:Nat}:∀ cs x,jg W base cs x→cs.length=3:=fun _ _ ⟨_,h,_⟩=>by rw[h];rfl
theorem jh.len {W:World} {base:Nat}:∀ cs x,jh W base cs x→cs.length=15:=fun _ _ ⟨_,_,_,h,_⟩=>by rw[h];rfl
theorem xM.len {W:World} {base:Nat}:∀ cs x,xM W base cs x→cs.length=3:=fun _ _ h=>by rw[h];rfl
theorem fx {w:World} {base:Nat} {e:TypeId} {size n:Nat} {v:Value} {xs:List Value} (h:w.ownsRow base e size v n xs):∃ A c,v=FD A n c∧n≤c∧Rd w [] size A n xs:=by
 rcases h.2 with ⟨rfl,rfl⟩|⟨g,cap,cur,rfl,hb,Z,M,r⟩
 ·refine ⟨none,0,rfl,Fm _,?_⟩
  have:xs=[]:=List.eq_nil_of_length_eq_zero (by rw[h.1];simp);rw[this];exact Rd.nil
 obtain ⟨A,c,H,I⟩:=aq h;injection H with H e2 V;subst H V;refine ⟨_,_,rfl,M,h.1,fun N=>?_⟩;obtain ⟨g',D,J,O⟩:=I N;injection D with D;injection D with D;subst D;exact ⟨_,rfl,by simp,J,fun j u U=>by rw[cI,Nat.zero_add];exact O j u U⟩
def pU (W:World) (v:Value) (l:List Bs):Prop:=l.length≤4294967296∧∃ A c,v=FD A l.length c∧l.length≤c∧Rd W [] 1 A l.length (strs l)
def jX (W:World) (v:Value) (l:List Cl):Prop:=l.length≤4294967296∧∃ A c,v=FD A l.length c∧l.length≤c∧Rd W [] 2 A l.length (ai l)
def uM (W:World) (cs:List Value) (x:In):Prop:=∃ v,cs=[FH FI x.at_,FC (bs x.name),v]∧jX W v x.cols
def lS (W:World) (cs:List Value) (x:Jb):Prop:=∃ h H D,cs=(bY x h H D).toList∧pU W h x.outs∧pU W H x.ins∧pU W D x.cols
def E6 (_:World) (cs:List Value) (x:Pb):Prop:=cs=[FH FI x.at_,FC (bs x.name),FC (bs x.src)]
def iO {α:Type} (D:World→List Value→α→Prop) (size:Nat) (W:World) (v:Value) (l:List α):Prop :=
 l.length≤4294967296∧∃ A c,v=FD A l.length c∧l.length≤c∧∀ j (h:j<l.length),∃ g cs,A=some ⟨g,0,none⟩∧g<W.heap.size∧cs.length=size∧D W cs l[j]∧∀ k u,cs[k]? = some u→W.cell? ⟨g,j*size+k,none⟩=some u
structure lT (W:World) (v0 v1 v2:Value) (f:Fl):Prop where
 i0:iO uM 3 W v0 f.ins
 i1:iO lS 15 W v1 f.jobs
 i2:iO E6 3 W v2 f.outs
section
variable {W W':World} {v:Value}
theorem pU.keep {l:List Bs} (h:pU W v l) (I:aa [] W W'):pU W' v l:=by
 obtain ⟨D,A,c,M,J,H⟩:=h;exact ⟨D,A,c,M,J,H.keep I⟩
theorem jX.keep {l:List Cl} (h:jX W v l) (I:aa [] W W'):jX W' v l:=by
 obtain ⟨D,A,c,M,J,H⟩:=h;exact ⟨D,A,c,M,J,H.keep I⟩
theorem uM.keep {cs:List Value} {x:In} (h:uM W cs x) (H:aa [] W W'):uM W' cs x:=by
 obtain ⟨v,I,D⟩:=h;exact ⟨v,I,D.keep H⟩
theorem lS.keep {cs:List Value} {x:Jb} (h:lS W cs x) (D:aa [] W W'):lS W' cs x:=by
 obtain ⟨J,U,M,O,N,H,I⟩:=h;exact ⟨J,U,M,O,N.keep D,H.keep D,I.keep D⟩
theorem iO.keep {α:Type} {D:World→List Value→α→Prop} {size:Nat} {l:List α} (h:iO D size W v l) (I:aa [] W W') (J:∀ cs x,D W cs x→D W' cs x):iO D size W' v l:=by
 obtain ⟨U,A,c,N,H,M⟩:=h;refine ⟨U,A,c,N,H,fun j hj=>?_⟩;obtain ⟨g,cs,e,O,Z,V,H⟩:=M j hj;exact ⟨g,cs,e,Nat.lt_of_lt_of_le O I.size,Z,J _ _ V,fun k u hu=>I.cell_of (H k u hu) (by simp)⟩
theorem lT.keep {J I H:Value} {f:Fl} (h:lT W J I H f) (D:aa [] W W'):lT W' J I H f :=
 ⟨h.i0.keep D fun _ _ h=>h.keep D,h.i1.keep D fun _ _ h=>h.keep D,h.i2.keep D fun _ _ h=>h⟩
theorem iO.of {α:Type} {I:World→List Value→α→Prop} {D:World→Nat→List Value→α→Prop} {e:TypeId} {size base:Nat} {l:List α} (h:cP D e size W base v l) (M:∀ cs x,D W base cs x→cs.length=size) (hn:l.length≤4294967296) (O:∀ cs x,x∈l→D W base cs x→I W cs x):iO I size W v l:=by
 have h':=h;obtain ⟨us,h1,U,h3⟩:=h';obtain ⟨A,c,rfl,Z,_⟩:=fx U;refine ⟨hn,A,c,rfl,Z,fun j N=>?_⟩;obtain ⟨g,cs,e,V,J,H⟩:=Dy h M j N;exact ⟨g,cs,e,V,M _ _ J,O _ _ (Fs N) J,H⟩
end
end
section
open Go.RowKit Go.BigFrame
attribute [local go_sem] ag ab ae af
def C8 (k:Nat) (cap:Array Value) (p:In→Bool) (l:List In) (w:World):Prop :=
 ∀ x∈l,∀ W cs,aa [] w W→uM W cs x→Calls Tryz.prog k (#[.agg cs.toArray]++cap) W fun e W'=>e=FF (.bool (p x))∧aa [] W W'
theorem n6 (k:Nat) (cap:Array Value) (he:∀ args w,(callFunc k args).run Tryz.prog w= .ok (.enter k args) w) (p:In→Bool) (l:List In) (v:Value) (w:World) (hR:iO uM 3 w v l) (hf:C8 k cap p l w) :
  Calls Tryz.prog 69 #[v,.func (.func k) #[] cap] w fun e w'=>e=FF (FH FI (bh p l))∧aa [] w w':=by
 have hR':=hR;obtain ⟨hl,A,c,rfl,aA,V⟩:=hR;have HR:=Fk V;have HF:=Fk hf;clear hR' hf V;go_enter Tryz.func69,Tryz.ntmps69
 go_wp2;go_loopw [8] (fun i wr=>∃ n:Nat,n≤l.length∧i=FH FI n∧Hid (∀ j (H:j<n) (hl:j<l.length),p l[j]=false)∧Hid (aa [] w wr)) (fun i _=>l.length-(intOf i).toNat)
 case atStart=>exact ⟨0,Fu _,rfl,fun j H=>absurd H (by omega),Fk (Fz _ _)⟩
 obtain ⟨n,hn,rfl,J,N⟩:=hrel;by_cases I:n<l.length
 ·obtain ⟨g,cs,rfl,hg,ad,U,Z⟩:=HR.out n I
  have hEl':=U.keep N.out;have HH:=HF.out l[n] (Fs I) wr cs N.out hEl';have hc:∀ j u,cs[j]? = some u→wr.cell? ⟨g,n*3+j,none⟩=some u:=fun j u hu=>N.out.cell_of (Z j u hu) (by simp)
  generalize hx:l[n]=x at *;have HX:=Fk hx;obtain ⟨vc,rfl,-⟩:=U;have d0:=hc 0 _ rfl;have d1:=hc 1 _ rfl;have d2:=hc 2 _ rfl;rw[Nat.add_zero] at d0;have HH':Hid (Calls Tryz.prog k (#[.agg #[FH FI x.at_,FC (bs x.name),vc]]++cap) wr fun e W'=>e=FF (.bool (p x))∧aa [] wr W'):=Fk HH;clear HH hc hx Z ad hEl'
  cases O:p x with
  | true =>
   have D:bh p l=(n:Int):=dV I (fun j H=>J j H (by omega)) ((congrArg p HX.out).trans O);rw[O] at HH';have HP:=Fk D;clear D O;go_wp2_with fail
   refine HH'.out.mono ?_;rintro e W2 ⟨rfl,M⟩;go_wp2;go_ret;exact ⟨by rw[HP.out];rfl,N.out.trans M⟩
  | false =>
   have hno':Hid (∀ j (H:j<n+1) (hl:j<l.length),p l[j]=false):=fun j H hl=>by
    by_cases h:j<n
    ·exact J j h hl
    obtain rfl:j=n:=by omega
    exact (congrArg p HX.out).trans O
   rw[O] at HH';clear O;go_wp2_with fail
   refine HH'.out.mono ?_;rintro e W2 ⟨rfl,M⟩;have av:=Fk (N.out.trans M);go_wp2;go_roundw
   case rel=>exact ⟨n+1,by omega,by go_num,hno',av⟩
   case measure=>simp[intOf];omega
 have D:Hid (bh p l= -1):=dA fun j H=>J j (by omega) H
 go_wp2;go_ret;exact ⟨by rw[D.out];rfl,N.out⟩
theorem kY (k:Nat) (cap:Array Value) (I:∀ args w,(callFunc k args).run Tryz.prog w= .ok (.enter k args) w) (p:In→Bool) (l:List In) (v:Value) (w:World) (J:iO uM 3 w v l) (M:C8 k cap p l w) :
  Calls Tryz.prog 30 #[v,.func (.func k) #[] cap] w fun e w'=>e=FF (.bool (l.any p))∧aa [] w w':=by
 have N:=Fk (n6 k cap I p l v w J M);clear M I;obtain ⟨U,A,c,rfl,H,h⟩:=J;clear h;rw[←eD];go_enter Tryz.func30,Tryz.ntmps30
 go_wp2_with (go_at_call 69;refine N.out.mono ?_;rintro e O ⟨rfl,D⟩)
 go_ret;exact ⟨rfl,D⟩
def Eu (k:Nat) (cap:Array Value) (p:Jb→Bool) (l:List Jb) (w:World):Prop :=
 ∀ x∈l,∀ W cs,aa [] w W→lS W cs x→Calls Tryz.prog k (#[.agg cs.toArray]++cap) W fun e W'=>e=FF (.bool (p x))∧aa [] W W'
theorem n9 (k:Nat) (cap:Array Value) (he:∀ args w,(callFunc k args).run Tryz.prog w= .ok (.enter k args) w) (p:Jb→Bool) (l:List Jb) (v:Value) (w:World) (hR:iO lS 15 w v l) (hf:Eu k cap p l w) :
  Calls Tryz.prog 70 #[v,.func (.func k) #[] cap] w fun e w'=>e=FF (FH FI (bh p l))∧aa [] w w':=by
 have hR':=hR;obtain ⟨hl,A,c,rfl,a0,Z⟩:=hR;have HR:=Fk Z;have HF:=Fk hf;clear hR' hf Z;go_enter Tryz.func70,Tryz.ntmps70
 go_wp2;go_loopw [8] (fun i wr=>∃ n:Nat,n≤l.length∧i=FH FI n∧Hid (∀ j (I:j<n) (hl:j<l.length),p l[j]=false)∧Hid (aa [] w wr)) (fun i _=>l.length-(intOf i).toNat)
 case atStart=>exact ⟨0,Fu _,rfl,fun j I=>absurd I (by omega),Fk (Fz _ _)⟩
 obtain ⟨n,hn,rfl,M,O⟩:=hrel;by_cases J:n<l.length
 ·obtain ⟨g,cs,rfl,hg,av,V,ad⟩:=HR.out n J
  have hEl':=V.keep O.out;have HH:=HF.out l[n] (Fs J) wr cs O.out hEl';have D:∀ j u,cs[j]? = some u→wr.cell? ⟨g,n*15+j,none⟩=some u:=fun j u hu=>O.out.cell_of (ad j u hu) (by simp)
  generalize hx:l[n]=x at *;have HX:=Fk hx;obtain ⟨v2,v3,v4,rfl,-,-,-⟩:=V;have d0:=D 0 _ rfl;have d1:=D 1 _ rfl;have d2:=D 2 _ rfl;have d3:=D 3 _ rfl;have d4:=D 4 _ rfl;have d5:=D 5 _ rfl;have d6:=D 6 _ rfl;have d7:=D 7 _ rfl;have d8:=D 8 _ rfl;have d9:=D 9 _ rfl;have a2:=D 10 _ rfl;have a3:=D 11 _ rfl;have a1:=D 12 _ rfl;have a5:=D 13 _ rfl;have a4:=D 14 _ rfl;rw[Nat.add_zero] at d0;have HH':Hid (Calls Tryz.prog k (#[.agg (bY x v2 v3 v4)]++cap) wr fun e W'=>e=FF (.bool (p x))∧aa [] wr W'):=Fk HH;clear HH D hx ad av hEl'
  cases U:p x with
  | true =>
   have H:bh p l=(n:Int):=dV J (fun j I=>M j I (by omega)) ((congrArg p HX.out).trans U);rw[U] at HH';have HP:=Fk H;clear H U;go_wp2_with fail
   refine HH'.out.mono ?_;rintro e W2 ⟨rfl,N⟩;go_wp2;go_ret;exact ⟨by rw[HP.out];rfl,O.out.trans N⟩
  | false =>
   have hno':Hid (∀ j (I:j<n+1) (hl:j<l.length),p l[j]=false):=fun j I hl=>by
    by_cases h:j<n
    ·exact M j h hl
    obtain rfl:j=n:=by omega
    exact (congrArg p HX.out).trans U
   rw[U] at HH';clear U;go_wp2_with fail
   refine HH'.out.mono ?_;rintro e W2 ⟨rfl,N⟩;have aA:=Fk (O.out.trans N);go_wp2;go_roundw
   case rel=>exact ⟨n+1,by omega,by go_num,hno',aA⟩
   case measure=>simp[intOf];omega
 have H:Hid (bh p l= -1):=dA fun j I=>M j (by omega) I
 go_wp2;go_ret;exact ⟨by rw[H.out];rfl,O.out⟩
def fj (f:Fl) (n:Bs):Int:=if nZ f n then -1 else bh (fun j:Jb=>j.outs.contains n) f.jobs
def jm (f:Fl) (n:Bs):Bool:=nZ f n||decide (0≤bh (fun j:Jb=>j.outs.contains n) f.jobs)
theorem uO (x:In) (D:Value) (n:Bs) (X:Nat) (W:World) (h:W.cell? ⟨X,0,none⟩=some (FC (bs n))) :
  Calls Tryz.prog 130 #[.agg #[FH FI x.at_,FC (bs x.name),D],FE (some ⟨X,0,none⟩)] W fun e W'=>e=FF (.bool (x.name==n))∧aa [] W W':=by
 have H:=Fq _ _ h;go_enter Tryz.func130,Tryz.ntmps130
 go_wp2;go_ret;exact ⟨rfl,(Fz _ _).alloc _⟩
theorem uP (x:Jb) (H U N:Value) (n:Bs) (X:Nat) (W:World) (h:W.cell? ⟨X,0,none⟩=some (FC (bs n))) (M:pU W H x.outs) :
  Calls Tryz.prog 131 #[.agg (bY x H U N),FE (some ⟨X,0,none⟩)] W fun e W'=>e=FF (.bool (x.outs.contains n))∧aa [] W W':=by
 have V:=Fq _ _ h;obtain ⟨D,A,c,rfl,O,I⟩:=M;have J:Hid (∀ W',aa [] W W'→Calls Tryz.prog 34 #[FD A x.outs.length c,FC (bs n)] W' fun e w'=>e=FF (.bool (x.outs.contains n))∧W'=w'):=Fk fun W' z=>by
  have:=rC n x.outs A c W' (I.keep z) D;rw[←List.contains_eq_any_beq] at this;exact this
 clear I O;generalize x.outs.contains n=R at *;unfold bY;go_enter Tryz.func131,Tryz.ntmps131
 go_wp2_with ((with_reducible refine (J.out _ ((Fz _ _).alloc _)).mono ?_);rintro e Z ⟨rfl,rfl⟩)
 go_ret;exact ⟨rfl,(Fz _ _).alloc _⟩
theorem xR (f:Fl) (M I J:Value) (n:Bs) (w:World) (hF:lT w M I J f) :
  Calls Tryz.prog 88 #[.agg #[M,I,J],FC (bs n)] w fun e w'=>e=FF (.tuple #[FH FI (fj f n),.bool (jm f n)])∧aa [] w w':=by
 have H:aa [] w ((w.alloc (FG #[M,I,J] 29)).alloc (FG #[FC (bs n)] 9)):=((Fz _ _).alloc _).alloc _;have N:=FA (w.alloc (FG #[M,I,J] 29)) 9 #[FC (bs n)];have V:=(FA w 29 #[M,I,J]).alloc (FG #[FC (bs n)] 9);rw[pT] at N;have HI:Hid (∀ W,aa [] ((w.alloc (FG #[M,I,J] 29)).alloc (FG #[FC (bs n)] 9)) W→Calls Tryz.prog 30 #[M,.func (.func 130) #[] #[FE (some ⟨w.heap.size+1,0,none⟩)]] W fun e w'=>e=FF (.bool (nZ f n))∧aa [] W w'):=Fk fun W z =>
  kY 130 _ (fun _ _=>by rfl) (fun x=>x.name==n) f.ins M W (hF.i0.keep (H.trans z) fun _ _ h=>h.keep (H.trans z)) (fun x hx W' cs z' O=>by
   obtain ⟨vc,rfl,_⟩:=O;exact uO x vc n _ W' ((N.keep (z.trans z') (by simp)).cell 0))
 have HJ:Hid (∀ W,aa [] ((w.alloc (FG #[M,I,J] 29)).alloc (FG #[FC (bs n)] 9)) W→Calls Tryz.prog 70 #[I,.func (.func 131) #[] #[FE (some ⟨w.heap.size+1,0,none⟩)]] W fun e w'=>e=FF (FH FI (bh (fun j:Jb=>j.outs.contains n) f.jobs))∧aa [] W w'):=Fk fun W z =>
  n9 131 _ (fun _ _=>by rfl) (fun j=>j.outs.contains n) f.jobs I W (hF.i1.keep (H.trans z) fun _ _ h=>h.keep (H.trans z)) (fun x hx W' cs z' O=>by
   obtain ⟨J,v3,v4,rfl,h2,_,_⟩:=O;exact uP x J v3 v4 n _ W' ((N.keep (z.trans z') (by simp)).cell 0) h2)
 have hm:Hid (nZ f n=true→fj f n= -1∧jm f n=true):=Fk fun h=>by unfold fj jm;rw[h];exact ⟨rfl,rfl⟩
 have U:Hid (nZ f n=false→fj f n=bh (fun j:Jb=>j.outs.contains n) f.jobs∧jm f n=decide (0≤bh (fun j:Jb=>j.outs.contains n) f.jobs)):=Fk fun h=>by unfold fj jm;rw[h];exact ⟨rfl,rfl⟩
 have ad:Hid (∀ W,aa [] ((w.alloc (FG #[M,I,J] 29)).alloc (FG #[FC (bs n)] 9)) W→W.cell? ⟨w.heap.size,1,none⟩=some I):=Fk fun W z=>(V.keep z (by simp)).cell 1
 have Z:=Fk H;clear hF V N H;generalize bh (fun j:Jb=>j.outs.contains n) f.jobs=K at *
 cases D:nZ f n with
 | true =>
  rw[D] at HI;obtain ⟨m1,m2⟩:=hm.out D;rw[m1,m2];clear m1 m2 hm U HJ D;go_enter Tryz.func88,Tryz.ntmps88
  go_wp2_with ((with_reducible refine (HI.out _ (Fz _ _)).mono ?_);rintro e w5 ⟨rfl,k5⟩)
  go_ret2;exact ⟨rfl,Z.out.trans k5⟩
 | false =>
  rw[D] at HI;obtain ⟨m1,m2⟩:=U.out D;rw[m1,m2];clear m1 m2 hm U D;go_enter Tryz.func88,Tryz.ntmps88
  go_wp2_with (first|((with_reducible refine (HI.out _ (Fz _ _)).mono ?_);rintro e w5 ⟨rfl,k5⟩;have b1:=ad.out _ k5)|((with_reducible refine (HJ.out _ k5).mono ?_);rintro e w6 ⟨rfl,k6⟩))
  go_ret2;exact ⟨rfl,Z.out.trans (k5.trans k6)⟩
def db (l:List Nat):List Int:=l.map fun k:Nat=>(k:Int)
theorem sU (f:Fl) (n:Bs) (done:List Nat):(!jm f n||(decide (0≤fj f n) && !((db done).any fun t=>fj f n==t)))= !gA f done n:=by
 have h:bh (fun j:Jb=>j.outs.contains n) f.jobs=match n3 f n with|some i=>(i:Int)|none=> -1:=rfl
 unfold jm fj gA;rw[h]
 cases D:nZ f n with
 | true=>simp
 | false =>
  cases H:n3 f n with
  | none=>simp
  | some k =>
   have e:((db done).any fun t=>(k:Int)==t)=done.contains k:=by
    rw[List.contains_eq_any_beq];unfold db;rw[List.any_map];congr 1
    funext t
    rw[Bool.eq_iff_iff];simp;omega
   simp[e]
theorem uQ (f:Fl) (I M H:Value) (n:Bs) (done:List Nat) (A:Option Addr) (c X Y:Nat) (w:World) (O:lT w I M H f) (J:w.cell? ⟨X,0,none⟩=some I) (ad:w.cell? ⟨X,1,none⟩=some M) (av:w.cell? ⟨X,2,none⟩=some H)
  (U:w.cell? ⟨Y,0,none⟩=some (FD A (db done).length c)) (V:Rd w [] 1 A (db done).length ((db done).map (Value.int .i64))) (hl:(db done).length≤4294967296) :
  Calls Tryz.prog 87 #[FC (bs n),FE (some ⟨X,0,none⟩),FE (some ⟨Y,0,none⟩)] w fun e w'=>e=FF (.bool (!gA f done n))∧aa [] w w':=by
 rw[←sU];have D:=Fk (xR f I M H n w O);have HC:Hid (∀ W,aa [] w W→Calls Tryz.prog 55 #[FD A (db done).length c,FH FI (fj f n)] W fun e w'=>e=FF (.bool ((db done).any fun t=>fj f n==t))∧W=w'):=Fk fun W z=>kZ _ _ A c W (V.keep z) hl
 have HY:Hid (∀ W,aa [] w W→W.cell? ⟨Y,0,none⟩=some (FD A (db done).length c)):=Fk fun W z=>z.cell_of U (by simp)
 clear O V U;generalize ((db done).any fun t=>fj f n==t)=Q at *;generalize fj f n=K at *;have l0:=Fq _ _ J
 cases N:jm f n with
 | false =>
  rw[N] at D;go_enter Tryz.func87,Tryz.ntmps87
  go_wp2_with ((with_reducible refine D.out.mono ?_);rintro e w5 ⟨rfl,h⟩)
  go_ret;exact ⟨rfl,h⟩
 | true =>
  rw[N] at D;by_cases Z:0≤K
  ·rw[decide_eq_true Z]
   go_enter Tryz.func87,Tryz.ntmps87
   go_wp2_with (first|((with_reducible refine D.out.mono ?_);rintro e w5 ⟨rfl,h⟩;have b1:=HY.out _ h)|((with_reducible refine (HC.out _ h).mono ?_);rintro e w6 ⟨rfl,rfl⟩))
   go_ret;exact ⟨by cases Q<;>rfl,h⟩
  rw[decide_eq_false Z];go_enter Tryz.func87,Tryz.ntmps87
  go_wp2_with ((with_reducible refine D.out.mono ?_);rintro e w5 ⟨rfl,h⟩)
  go_ret;exact ⟨rfl,h⟩
theorem DE {W:World} {J:Value} {l:List Jb} (h:iO lS 15 W J l) (k:Nat) (M:k<l.length):∃ g c D I H,J=FD (some ⟨g,0,none⟩) l.length c∧l.length≤4294967296∧pU W D l[k].outs∧pU W I l[k].ins∧pU W H l[k].cols∧∀ i u,(bY l[k] D I H).toList[i]? = some u→W.cell? ⟨g,k*15+i,none⟩=some u:=by
 obtain ⟨V,A,c,rfl,_,h⟩:=h;obtain ⟨g,cs,rfl,hg,_,⟨D,I,H,rfl,N,U,Z⟩,O⟩:=h k M;exact ⟨g,c,D,I,H,rfl,V,N,U,Z,O⟩
theorem xS (f:Fl) (I v1 H:Value) (k:Nat) (hk:k<f.jobs.length) (done:List Nat) (A:Option Addr) (c:Nat) (w:World) (V:lT w I v1 H f) (hR:Rd w [] 1 A (db done).length ((db done).map (Value.int .i64))) (hl:(db done).length≤4294967296) :
  Calls Tryz.prog 56 #[.agg #[I,v1,H],FH FI k,FD A (db done).length c] w fun e w'=>e=FF (.bool (cL f done k))∧aa [] w w':=by
 obtain ⟨g,U,u2,u3,u4,rfl,a1,h2,h3,h4,O⟩:=DE V.i1 k hk;have h:aa [] w ((w.alloc (FG #[I,FD (some ⟨g,0,none⟩) f.jobs.length U,H] 29)).alloc (FG #[FD A (db done).length c] 77)):=((Fz _ _).alloc _).alloc _;have J:=FA (w.alloc (FG #[I,FD (some ⟨g,0,none⟩) f.jobs.length U,H] 29)) 77 #[FD A (db done).length c];have D:=(FA w 29 #[I,FD (some ⟨g,0,none⟩) f.jobs.length U,H]).alloc (FG #[FD A (db done).length c] 77);rw[pT] at J;have ad:w.cell? ⟨g,k*15+3,none⟩=some u3:=O 3 _ rfl;have a0:=Fq _ _ ad;obtain ⟨aA,A3,c3,rfl,av,N⟩:=h3;have hi:(k:Int)<(f.jobs.length:Int):=by omega
 have e1:cL f done k= !(f.jobs[k].ins.any fun n=> !gA f done n):=by
  unfold cL;rw[ea hk,List.all_eq_not_any_not]
 rw[e1];have HC:Hid (∀ W,aa [] ((w.alloc (FG #[I,FD (some ⟨g,0,none⟩) f.jobs.length U,H] 29)).alloc (FG #[FD A (db done).length c] 77)) W→Calls Tryz.prog 53 #[FD A3 f.jobs[k].ins.length c3,.func (.func 87) #[] #[FE (some ⟨w.heap.size,0,none⟩),FE (some ⟨w.heap.size+1,0,none⟩)]] W fun e w'=>e=FF (.bool (f.jobs[k].ins.any fun n=> !gA f done n))∧aa [] W w'):=Fk fun W z =>
  gd 87 _ (fun _ _=>by rfl) (fun n=> !gA f done n) f.jobs[k].ins A3 c3 W (N.keep (h.trans z)) aA (fun n hn W' M=>uQ f I _ H n done A c _ _ W' (V.keep (h.trans (z.trans M))) ((D.keep (z.trans M) (by simp)).cell 0) ((D.keep (z.trans M) (by simp)).cell 1) ((D.keep (z.trans M) (by simp)).cell 2) ((J.keep (z.trans M) (by simp)).cell 0) (hR.keep (h.trans (z.trans M))) hl)
 have Z:=Fk h;generalize (f.jobs[k].ins.any fun n=> !gA f done n)=Q at *;generalize f.jobs[k].ins.length=m3 at *;clear V D J h O hR hl N h2 h4 e1 av;go_enter Tryz.func56,Tryz.ntmps56
 go_wp2_with ((with_reducible refine (HC.out _ (Fz _ _)).mono ?_);rintro e w5 ⟨rfl,k5⟩)
 go_ret;exact ⟨rfl,Z.out.trans k5⟩
theorem Ex:(Tryz.prog.info? 3).map (fun i=>(i.zero,i.size,i.bytes))=some (some (FH FI 0),1,8):=by kernel_rfl
def gQ (l:List Nat):List Value:=(db l).map (Value.int .i64)
theorem fC (l:List Nat):(db l).length=l.length:=by simp[db]
theorem uR (l:List Nat) (k:Nat):gQ (l++[k])=gQ l++[FH FI k]:=by simp[gQ,db]
theorem B5 (l:List Nat) (k:Nat):((db l).any fun t=>(k:Int)==t)=l.contains k:=by
 rw[List.contains_eq_any_beq];unfold db;rw[List.any_map];congr 1
 funext t
 rw[Bool.eq_iff_iff];simp;omega
def zZ (R:Except (Int×Int) (List Nat)) (e:Ending) (w':World):Prop:=match R with
 | .ok l=>∃ A c,e=FF (.tuple #[FD A l.length c,.nilIface])∧l.length≤c∧Rd w' [] 1 A l.length (gQ l)
 | .error x=>∃ h,e=FF (.tuple #[FD none 0 0,.iface 73 (FE (some ⟨h,0,none⟩))])∧ao w' h 75 #[FH FI x.1,FH FI x.2]
theorem xT {f:Fl} {out:List Nat} {k:Nat} (N:k<f.jobs.length) (J:k∉out) (H:cL f out k=true) (M:∀ j,j<k→j∉out→cL f out j=false):eW f out=some k:=by
 cases h:eW f out with
 | none=>rw[oe h k N J] at H;cases H
 | some I =>
  obtain ⟨a,b,c,d⟩:=kB h;rcases Nat.lt_trichotomy k I with D|rfl|D
  ·rw[d k D J] at H;cases H
  ·rfl
  rw[M I D b] at c;cases c
theorem uS {f:Fl} {out:List Nat} (D:∀ j,j<f.jobs.length→j∉out→cL f out j=false):eW f out=none:=by
 cases h:eW f out with
 | none=>rfl
 | some H =>
  obtain ⟨a,b,c,d⟩:=kB h;rw[D H a b] at c;cases c
theorem xU {f:Fl} {out:List Nat} {k:Nat} (D:k<f.jobs.length) (I:k∉out) (h:∀ j,j<k→j∈out):wD f out=some k:=by
 unfold wD;rw[List.find?_eq_some_iff_getElem];refine ⟨by simpa using I,k,by simpa using D,by simp,fun j H=>?_⟩;simpa using h j H
theorem sV {f:Fl} {n k:Nat} {out:List Nat} (h:eW f out=some k):dL f (n+1) out=dL f n (out++[k]):=by
 rw[dL,h]
theorem rE {f:Fl} {n:Nat} {out:List Nat} (h:eW f out=none):dL f (n+1) out= .error (11,(jb f ((wD f out).getD 0)).at_):=by
 rw[dL,h]
def DF:Value→Nat
 | FD _ n _=>n
 | _=>0
theorem qx (f:Fl) (v0 v1 v2:Value) (w:World) (hF:lT w v0 v1 v2 f) :
  Calls Tryz.prog 21 #[.agg #[v0,v1,v2]] w fun e w'=>zZ (cM f) e w'∧aa [] w w':=by
 obtain ⟨i0,b3,b1,b8,bq⟩:=info_parts Ex;obtain ⟨R,hR⟩:∃ R,cM f=R:=⟨_,rfl⟩
 rw[hR];unfold cM at hR;have bz:=hF.i1;obtain ⟨b9,Aj,cj,rfl,cd,a2⟩:=bz;have a3:=FA w 29 #[v0,FD Aj f.jobs.length cj,v2];have aA:aa [] w (w.alloc (FG #[v0,FD Aj f.jobs.length cj,v2] 29)):=(Fz _ _).alloc _;obtain ⟨y0,bc⟩:∃ z,w.alloc (FG #[v0,FD Aj f.jobs.length cj,v2] 29)=z:=⟨_,rfl⟩
 have HF:=Fk hF;have HA:=Fk a2;have HR:=Fk hR;rw[bc] at a3 aA;have HB:=Fk a3;have I:=Fk aA;have be:w.heap.size≤y0.heap.size:=aA.size;have bo:=Fk be;clear hF a2 a3 aA hR be;obtain ⟨X,hX⟩:∃ X,w.heap.size=X:=⟨_,rfl⟩
 rw[hX] at HB bo;go_enter Tryz.func21,Tryz.ntmps21
 go_upto_block 0 with (fail)
 clear bc hX;have a4:Hid (∀ W,aa [] y0 W→W.cell? ⟨X,0,none⟩=some v0∧W.cell? ⟨X,1,none⟩=some (FD Aj f.jobs.length cj)∧W.cell? ⟨X,2,none⟩=some v2∧X<W.heap.size):=Fk fun W z=>⟨(HB.out.keep z (by simp)).cell 0,(HB.out.keep z (by simp)).cell 1,(HB.out.keep z (by simp)).cell 2,(HB.out.keep z (by simp)).lt⟩
 go_wp2_with fail
 go_loopw [4] (fun u wr=>∃ out:List Nat,out.length≤f.jobs.length∧DF u=out.length∧Hid (wr.ownsRow y0.heap.size 3 1 u out.length (gQ out))∧Hid (dL f (f.jobs.length-out.length) out=R)∧Hid (aa [] y0 wr)) (fun u _=>f.jobs.length-DF u)
 case atStart=>exact ⟨[],Fu _,rfl,Fk (World.ownsRow_nil _ _ _ _),HR,Fk (Fz _ _)⟩
 obtain ⟨out,cg,ca,HO,HG,N⟩:=hrel;obtain ⟨y1,rfl⟩:∃ z:World,z=wr:=⟨_,rfl⟩
 obtain ⟨Ao,co,rfl,-,a9⟩:=fx HO.out;have a5:=Fk a9;obtain ⟨q0,q1,q2,ql⟩:=a4.out _ N.out;clear a9;by_cases b4:out.length<f.jobs.length
 ·have a7:(out.length:Int)<(f.jobs.length:Int):=by omega
  have av:Hid (∀ (j:Nat) W,aa [] y1 W→Calls Tryz.prog 55 #[FD Ao out.length co,FH FI j] W fun e w'=>e=FF (.bool (out.contains j))∧W=w'):=Fk fun j W z=>by
   have:=kZ (j:Int) (db out) Ao co W (by rw[fC];exact a5.out.keep z) (by rw[fC];omega);rw[B5,fC] at this;exact this
  have ba:Hid (∀ (j:Nat) W,j<f.jobs.length→aa [] y1 W→Calls Tryz.prog 56 #[.agg #[v0,FD Aj f.jobs.length cj,v2],FH FI j,FD Ao out.length co] W fun e w'=>e=FF (.bool (cL f out j))∧aa [] W w'):=Fk fun j W hj z=>by
   have:=xS f v0 _ v2 j hj out Ao co W (HF.out.keep (I.out.trans (N.out.trans z))) (by rw[fC];exact a5.out.keep z) (by rw[fC];omega);rw[fC] at this;exact this
  go_upto_block 2 with (fail)
  go_cut [5] (fun u wx=>(∃ k:Nat,k<f.jobs.length∧Hid (eW f out=some k)∧u=FH FI k∨k=0∧Hid (eW f out=none)∧u=FH FI (-1))∧Hid (aa [] y1 wx))
  case first =>
   go_wp2_with fail
   go_loopw [5,18] (fun u i wx=>∃ j:Nat,j≤f.jobs.length∧u=FH FI (-1)∧i=FH FI j∧Hid (∀ t,t<j→t∉out→cL f out t=false)∧Hid (aa [] y1 wx)) (fun _ i _=>f.jobs.length-(intOf i).toNat)
   case atStart=>exact ⟨0,Fu _,rfl,rfl,Fk (fun t ht=>absurd ht (by omega)),Fk (Fz _ _)⟩
   clear q0 q1 q2 ql;obtain ⟨j,hj,rfl,rfl,HN,D⟩:=hrel;obtain ⟨V,rfl⟩:∃ z:World,z=wr:=⟨_,rfl⟩
   obtain ⟨q0,q1,q2,ql⟩:=a4.out _ (N.out.trans D.out);by_cases M:j<f.jobs.length
   ·have a8:(j:Int)<(f.jobs.length:Int):=by omega
    by_cases J:j∈out
    ·have HC:Hid (Calls Tryz.prog 55 #[FD Ao out.length co,FH FI j] V fun e w'=>e=FF (.bool true)∧V=w'):=Fk (by
      have:=av.out j V D.out;rw[List.contains_iff_mem.2 J] at this;exact this)
     have HN':Hid (∀ t,t<j+1→t∉out→cL f out t=false):=Fk fun t ht hn=>by
      by_cases h:t<j
      ·exact HN.out t h hn
      obtain rfl:t=j:=by omega
      exact absurd J hn
     clear J;go_wp2_with ((with_reducible refine HC.out.mono ?_);rintro e w5 ⟨rfl,rfl⟩)
     go_roundw
     case rel=>exact ⟨j+1,by omega,rfl,by go_num,HN',D⟩
     case measure=>simp[intOf];omega
    have HC:Hid (Calls Tryz.prog 55 #[FD Ao out.length co,FH FI j] V fun e w'=>e=FF (.bool false)∧V=w'):=Fk (by
     have:=av.out j V D.out;rw[show out.contains j=false by simpa using J] at this;exact this)
    have a1:=Fk (ba.out j V M D.out)
    cases hr:cL f out j with
    | true =>
     have HN':=Fk (xT M J hr HN.out);rw[hr] at a1;clear J hr;go_wp2_with (first|((with_reducible refine HC.out.mono ?_);rintro e w5 ⟨rfl,rfl⟩)|((with_reducible refine a1.out.mono ?_);rintro e w6 ⟨rfl,k6⟩))
     go_meet
     case rel=>exact ⟨⟨j,.inl ⟨M,HN',rfl⟩⟩,Fk (D.out.trans k6)⟩
    | false =>
     have HN':Hid (∀ t,t<j+1→t∉out→cL f out t=false):=Fk fun t ht hn=>by
      by_cases h:t<j
      ·exact HN.out t h hn
      obtain rfl:t=j:=by omega
      exact hr
     rw[hr] at a1;clear J hr;go_wp2_with (first|((with_reducible refine HC.out.mono ?_);rintro e w5 ⟨rfl,rfl⟩)|((with_reducible refine a1.out.mono ?_);rintro e w6 ⟨rfl,k6⟩))
     have O:=Fk (D.out.trans k6);go_roundw
     case rel=>exact ⟨j+1,by omega,rfl,by go_num,HN',O⟩
     case measure=>simp[intOf];omega
   have HN':=Fk (uS fun t ht hn=>HN.out t (by omega) hn);have a8:¬(j:Int)<(f.jobs.length:Int):=by omega
   go_wp2;go_meet
   case rel=>exact ⟨⟨0,.inr ⟨rfl,HN',rfl⟩⟩,D⟩
  obtain ⟨⟨k,a6⟩,Z⟩:=hcut;clear q0 q1 q2 ql;obtain ⟨q0,q1,q2,ql⟩:=a4.out _ (N.out.trans Z.out);have H:=Fk (N.out.trans Z.out);rcases a6 with ⟨hk,a0,rfl⟩|⟨-,a0,rfl⟩
  ·have ce:¬(k:Int)<0:=by omega
   have HG':Hid (dL f (f.jobs.length-(out++[k]).length) (out++[k])=R):=Fk (by
    rw[←HG.out,Fo,List.length_singleton];rw[show f.jobs.length-out.length=(f.jobs.length-(out.length+1))+1 by omega,sV a0.out])
   have HO':Hid (wc.ownsRow y0.heap.size 3 1 (FD Ao out.length co) out.length (gQ out)):=Fk (aE HO.out Z.out (fun g hg hm=>by cases hm));have HS:=Fk (show y0.heap.size≤(wc.alloc (FG #[FH FI (k:Int)] 3)).heap.size by have:=H.out.size;simp;omega);have HM:=Fk (show out.length+1≤maxLen∧(out.length+1)*8≤140737488355328 by simp only[maxLen];omega);go_wp2_with (at_builtin;refine wpList_append_own _ rfl _ _ 77 rfl y0.heap.size 3 i0 (FH FI 0) 1 8 Tryz.underlying77 b3 b1 b8 bq rfl (by decide) _ _ _ rfl (HO'.out.alloc _) ⟨wc.heap.size,0,none⟩ 1 1 [FH FI k] rfl rfl (Fx (heap_alloc_new _ _)) (by simp[Value.oneCell']) HM.out.1 HM.out.2 HS.out ?_)
   intro vv w2 hown' U bZ;obtain ⟨g,cap,rfl⟩:∃ g cap,vv=FD (some ⟨g,0,none⟩) (out.length+1) cap:=by
    rcases hown'.2 with ⟨_,h0⟩|⟨g,cap,cur,hv,_⟩
    ·omega
    exact ⟨g,cap,hv⟩
   have br:Hid (w2.ownsRow y0.heap.size 3 1 (FD (some ⟨g,0,none⟩) (out.length+1) cap) (out++[k]).length (gQ (out++[k]))):=Fk (by rw[uR,Fo,List.length_singleton];exact hown');have b0:=Fk ((H.out.alloc _).grown U (fun g hg=> .inr (HO'.out.lt g hg).1));clear hown' U bZ;go_wp2;go_roundw
   case rel=>exact ⟨out++[k],by rw[Fo,List.length_singleton];omega,by rw[Fo,List.length_singleton];rfl,br,HG',b0⟩
   case measure=>simp[DF];omega
  have bb:Hid (∀ j,j<f.jobs.length→j∉out→(∀ t,t<j→t∈out)→R= .error (11,(jb f j).at_)):=Fk fun j hj hn ht=>by
   rw[←HG.out,show f.jobs.length-out.length=(f.jobs.length-(out.length+1))+1 by omega,rE a0.out,xU hj hn ht];rfl
  have bt:=Fk (oh b4);clear a0 ba HG;go_wp2_with fail
  go_loopw [38] (fun i wx=>∃ j:Nat,j≤f.jobs.length∧i=FH FI j∧Hid (∀ t,t<j→t∈out)∧Hid (aa [] wc wx)) (fun i _=>f.jobs.length-(intOf i).toNat)
  case atStart=>exact ⟨0,Fu _,rfl,Fk (fun t ht=>absurd ht (by omega)),Fk (Fz _ _)⟩
  clear q0 q1 q2 ql;obtain ⟨j,hj,rfl,HN,D⟩:=hrel;obtain ⟨V,rfl⟩:∃ z:World,z=wr:=⟨_,rfl⟩
  by_cases M:j<f.jobs.length
  ·have a8:(j:Int)<(f.jobs.length:Int):=by omega
   obtain ⟨g,cs,rfl,hg,-,⟨_,_,_,rfl,⟨-,A2,c2,rfl,-,-⟩,⟨-,A3,c3,rfl,-,-⟩,⟨-,A4,c4,rfl,-,-⟩⟩,J⟩:=HA.out j M;have d0:=(H.out.trans D.out).cell_of (I.out.cell_of (J 0 _ rfl) (by simp)) (by simp);have d1:=(H.out.trans D.out).cell_of (I.out.cell_of (J 1 _ rfl) (by simp)) (by simp);have d2:=(H.out.trans D.out).cell_of (I.out.cell_of (J 2 _ rfl) (by simp)) (by simp);have d3:=(H.out.trans D.out).cell_of (I.out.cell_of (J 3 _ rfl) (by simp)) (by simp);have d4:=(H.out.trans D.out).cell_of (I.out.cell_of (J 4 _ rfl) (by simp)) (by simp);have d5:=(H.out.trans D.out).cell_of (I.out.cell_of (J 5 _ rfl) (by simp)) (by simp);have d6:=(H.out.trans D.out).cell_of (I.out.cell_of (J 6 _ rfl) (by simp)) (by simp);have d7:=(H.out.trans D.out).cell_of (I.out.cell_of (J 7 _ rfl) (by simp)) (by simp);have d8:=(H.out.trans D.out).cell_of (I.out.cell_of (J 8 _ rfl) (by simp)) (by simp);have d9:=(H.out.trans D.out).cell_of (I.out.cell_of (J 9 _ rfl) (by simp)) (by simp);have bk:=(H.out.trans D.out).cell_of (I.out.cell_of (J 10 _ rfl) (by simp)) (by simp);have bv:=(H.out.trans D.out).cell_of (I.out.cell_of (J 11 _ rfl) (by simp)) (by simp);have bm:=(H.out.trans D.out).cell_of (I.out.cell_of (J 12 _ rfl) (by simp)) (by simp);have b7:=(H.out.trans D.out).cell_of (I.out.cell_of (J 13 _ rfl) (by simp)) (by simp);have bX:=(H.out.trans D.out).cell_of (I.out.cell_of (J 14 _ rfl) (by simp)) (by simp);rw[Nat.add_zero] at d0;have ad:f.jobs[j].at_=(jb f j).at_:=by rw[ea M]
   obtain ⟨x,hx⟩:∃ x,f.jobs[j]=x:=⟨_,rfl⟩
   rw[hx] at d0 d1 d2 d3 d4 d5 d6 d7 d8 d9 bk bv bm b7 bX ad;clear J hx;by_cases J:j∈out
   ·have HC:Hid (∀ W,aa [] V W→Calls Tryz.prog 55 #[FD Ao out.length co,FH FI j] W fun e w'=>e=FF (.bool true)∧W=w'):=Fk fun W z=>(by
     have:=av.out j W (Z.out.trans (D.out.trans z));rw[List.contains_iff_mem.2 J] at this;exact this)
    have HN':Hid (∀ t,t<j+1→t∈out):=Fk fun t ht=>by
     by_cases h:t<j
     ·exact HN.out t h
     obtain rfl:t=j:=by omega
     exact J
    have O:=Fk (D.out.alloc (FG (bY x (FD A2 x.outs.length c2) (FD A3 x.ins.length c3) (FD A4 x.cols.length c4)) 50));clear J ad;go_wp2_with ((with_reducible refine (HC.out _ ((Fz _ _).alloc _)).mono ?_);rintro e w5 ⟨rfl,rfl⟩)
    go_roundw
    case rel=>exact ⟨j+1,by omega,by go_num,HN',O⟩
    case measure=>simp[intOf];omega
   have HC:Hid (∀ W,aa [] V W→Calls Tryz.prog 55 #[FD Ao out.length co,FH FI j] W fun e w'=>e=FF (.bool false)∧W=w'):=Fk fun W z=>(by
    have:=av.out j W (Z.out.trans (D.out.trans z));rw[show out.contains j=false by simpa using J] at this;exact this)
   have HE:Hid (R= .error (11,x.at_)):=Fk (by rw[ad];exact bb.out j M J HN.out);have O:=Fk (I.out.trans (H.out.trans (D.out.alloc (FG (bY x (FD A2 x.outs.length c2) (FD A3 x.ins.length c3) (FD A4 x.cols.length c4)) 50))));clear J ad;go_wp2_with ((with_reducible refine (HC.out _ ((Fz _ _).alloc _)).mono ?_);rintro e w5 ⟨rfl,rfl⟩)
   go_region
   all_goals
    go_wp2;go_ret2;exact ⟨by rw[HE.out];exact ⟨_,rfl,(ao.new' (V.alloc _) _ _ _ (by simp)).drew⟩,(O.out.alloc _).drew⟩
  obtain ⟨k,hk,hn⟩:=bt.out;exact absurd (HN.out k (by omega)) hn
 have a7:¬(out.length:Int)<(f.jobs.length:Int):=by omega
 have HE:Hid (R= .ok out):=Fk (by rw[←HG.out,show f.jobs.length-out.length=0 by omega];rfl);obtain ⟨A9,c9,e9,h9,bj⟩:=fx HO.out;injection e9 with b5 _ b6;subst b5 b6;have H9:=Fk h9;clear bj h9;go_wp2;go_ret2;exact ⟨by rw[HE.out];exact ⟨_,_,rfl,H9.out,a5.out⟩,I.out.trans N.out⟩
abbrev xV (w:World) (b:Nat) (s:List Bs):Prop:=dc Tryz.prog 9 4 w b s.length s
theorem dc.lookB {w:World} {b:Nat} {s:List Bs} (h:xV w b s) (k:Bs) (D:k.length≤1000):(Instr.lookup 125 (.map (some b)) (FC (bs k)) false).run Tryz.prog w= .ok (.bool (decide (k∈s))) w :=
 dc.look h (T:=125) Tryz.underlying125 Tryz.underlying9 Tryz.underlying4 (by kernel_rfl) k (by simp only[maxLen];omega)
theorem dc.storeB {w:World} {b:Nat} {s:List Bs} (h:xV w b s) (k:Bs) (D:k.length≤1000) (H:s.length≤1000000):∃ w',(Instr.mapUpdate 125 (.map (some b)) (FC (bs k)) (.bool true)).run Tryz.prog w= .ok () w'∧xV w' b (k::s)∧w.grownBy w' (some b) :=
 dc.store h (T:=125) Tryz.underlying125 Tryz.underlying9 Tryz.underlying4 k (by simp only[maxLen];omega) (by simp only[maxLen];omega)
def qy (x:Int×Int) (e:Value) (w':World):Prop:=∃ h,e= .iface 73 (FE (some ⟨h,0,none⟩))∧ao w' h 75 #[FH FI x.1,FH FI x.2]
theorem qy.keep {x:Int×Int} {e:Value} {w w':World} (h:qy x e w) (D:aa [] w w'):qy x e w':=by
 obtain ⟨H,J,I⟩:=h;exact ⟨H,J,I.keep D (by simp)⟩
structure gR (w:World) (X b Y:Nat) (v0 v1 v2:Value) (s:List Bs) (W:World):Prop where
 k:aa [] w W
 fb:ao W X 29 #[v0,v1,v2]
 mb:ao W Y 125 #[.map (some b)]
 mp:xV W b s
 hb:w.heap.size≤b
 xb:X≠b
 yb:Y≠b
theorem gR.keep {w W W':World} {X b Y:Nat} {J I H:Value} {s:List Bs} (h:gR w X b Y J I H s W) (D:aa [] W W'):gR w X b Y J I H s W' :=
 ⟨h.k.trans D,h.fb.keep D (by simp),h.mb.keep D (by simp),h.mp.keep D (by simp),h.hb,h.xb,h.yb⟩
theorem gR.put {w W W':World} {X b Y:Nat} {M J H:Value} {s I:List Bs} (h:gR w X b Y M J H s W) (D:aa [b] W W') (N:xV W' b I):gR w X b Y M J H I W' :=
 ⟨h.k.trans' D (fun x O U=>by rw[List.mem_singleton.1 O] at U;exact absurd h.hb (by omega)),h.fb.keep D (by simpa using h.xb),h.mb.keep D (by simpa using h.yb),N,h.hb,h.xb,h.yb⟩
theorem sW {w W:World} {X b Y:Nat} {Z v1 V:Value} {s:List Bs} (h:gR w X b Y Z v1 V s W) (n:Bs) (a:Int) (hn:n.length≤1000) (hs:s.length≤1000000) :
  Calls Tryz.prog 52 #[FC (bs n),FH FI a,FE (some ⟨Y,0,none⟩)] W fun e W'=>(n∈s∧(∃ u,e=FF u∧qy (9,a) u W')∧aa [] W W')∨(n∉s∧e=FF .nilIface∧gR w X b Y Z v1 V (n::s) W'∧aa [b] W W'):=by
 have c0:W.cell? ⟨Y,0,none⟩=some (.map (some b)):=h.mb.cell 0;have hl:=h.mb.lt;have H:=h.mp.lookB n hn;by_cases D:n∈s
 ·rw[decide_eq_true D] at H
  have O:=Fk D;clear D h;go_enter Tryz.func52,Tryz.ntmps52
  go_wp2;go_ret;exact .inl ⟨O.out,⟨_,rfl,_,rfl,FA _ _ _⟩,(Fz _ _).alloc _⟩
 rw[decide_eq_false D] at H;obtain ⟨W2,ad,J,M⟩:=h.mp.storeB n hn hs;have O:=Fk D;have I:aa [b] W W2:=(Fz [b] W).grown M (fun g U=> .inl (by injection U with U;simp[U]));have HS:=Fk (h.put I J);have N:=Fk I;clear D h J M I;go_enter Tryz.func52,Tryz.ntmps52
 go_wp2;go_ret;exact .inr ⟨O.out,rfl,HS.out,N.out⟩
theorem Aa {w W:World} {X b Y:Nat} {M J I:Value} {s:List Bs} (h:gR w X b Y M J I s W) (n:Bs) (H:n.length≤1000) :
  Calls Tryz.prog 54 #[FC (bs n),FE (some ⟨Y,0,none⟩)] W fun e W'=>e=FF (.bool (!decide (n∈s)))∧aa [] W W':=by
 have O:W.cell? ⟨Y,0,none⟩=some (.map (some b)):=h.mb.cell 0;have N:=h.mb.lt;have D:=h.mp.lookB n H;clear h;generalize decide (n∈s)=Q at *;go_enter Tryz.func54,Tryz.ntmps54
 go_wp2;go_ret;exact ⟨rfl,Fz _ _⟩
def DH (R:Except (Int×Int) Unit) (e:Ending) (w':World):Prop:=match R with
 | .ok _=>e=FF .nilIface
 | .error x=>∃ u,e=FF u∧qy x u w'
structure rF (f:Fl):Prop where
 outs:f.outs.length≤1000
 all:(aW f).length≤100000
 names:∀ n∈aW f,n.length≤1000
 ins:∀ j∈f.jobs,∀ n∈j.ins,n.length≤1000
 told:∀ x∈f.outs,x.name.length≤1000∧x.src.length≤1000
def K3 (f:Fl) (s:List Bs):Except (Int×Int) Unit:=cE s f.outs []
def K2 (f:Fl) (s:List Bs):Except (Int×Int) Unit:=match bD s f.jobs with
 | .ok _=>K3 f s
 | .error x=> .error x
def K1 (f:Fl) (s:List Bs):Except (Int×Int) Unit:=match bL (dh f.jobs) s with
 | .ok s=>K2 f s
 | .error x=> .error x
def gS {α β:Type} (r:Except (Int×Int) α) (k:α→Except (Int×Int) β):Except (Int×Int) β:=match r with
 | .ok a=>k a
 | .error x=> .error x
theorem xW (f:Fl):dF f=gS (bL (f.ins.map fun x=>(x.name,x.at_)) []) (fun s=>gS (bL (dh f.jobs) s) fun s=>gS (bD s f.jobs) fun _=>cE s f.outs []):=by
 unfold dF gS
 cases bL (f.ins.map fun x=>(x.name,x.at_)) [] with
 | error x=>rfl
 | ok s =>
  show (bL (dh f.jobs) s >>= _)=_;simp only
  cases bL (dh f.jobs) s with
  | error x=>rfl
  | ok h =>
   show (bD h f.jobs >>= _)=_;simp only
   cases bD h f.jobs with
   | error x=>rfl
   | ok u=>rfl
theorem mH (p:Bs×Int) (l:List (Bs×Int)) (s:List Bs):bL (p::l) s=if p.1∈s then .error (9,p.2) else bL l (p.1::s):=rfl
theorem rG (s:List Bs) (j:Jb) (h:List Jb):bD s (j::h)=if j.ins.any (fun n=> !decide (n∈s)) then .error (7,j.at_) else bD s h:=rfl
theorem sX (s:List Bs) (x:Pb) (l:List Pb) (t:List Bs):cE s (x::l) t=if x.src∉s then .error (7,x.at_) else if x.name∈t then .error (9,x.at_) else cE s l (x.name::t):=rfl
theorem sY (j:Jb) (h:List Jb):dh (j::h)=(j.outs.map fun n=>(n,j.at_))++dh h:=rfl
theorem pV (f:Fl) (v0 v1 v2:Value) (w:World) (hF:lT w v0 v1 v2 f) (hS:rF f) :
  Calls Tryz.prog 20 #[.agg #[v0,v1,v2]] w fun e w'=>DH (dF f) e w'∧aa [] w w':=by
 have b8:= @run_makeMap Tryz.prog;obtain ⟨R,hR⟩:∃ R,dF f=R:=⟨_,rfl⟩
 rw[hR];rw[xW] at hR;have c4:=hF.i0;have cy:=hF.i1;have c7:=hF.i2;obtain ⟨et,A0,c0,rfl,ex,b0⟩:=c4;obtain ⟨ev,A1,c1,rfl,dz,bZ⟩:=cy;obtain ⟨en,A2,c2,rfl,dt,b1⟩:=c7;have H0:=Fk b0;have H1:=Fk bZ;have H2:=Fk b1;have HR:=Fk hR;have HS:=Fk hS;have a9:gR w w.heap.size (w.heap.size+1) (w.heap.size+1+1) (FD A0 f.ins.length c0) (FD A1 f.jobs.length c1) (FD A2 f.outs.length c2) [] (((w.alloc (FG #[FD A0 f.ins.length c0,FD A1 f.jobs.length c1,FD A2 f.outs.length c2] 29)).alloc (.map #[] 0)).alloc (FG #[.map (some (w.heap.size+1))] 125)):=by
  have hm:=dc.made (P:=Tryz.prog) (S:=9) (E:=4) (w.alloc (FG #[FD A0 f.ins.length c0,FD A1 f.jobs.length c1,FD A2 f.outs.length c2] 29));rw[pT] at hm;exact ⟨(((Fz _ _).alloc _).alloc _).alloc _,((FA _ _ _).alloc _).alloc _,ao.new' ((w.alloc _).alloc _) _ _ _ (by rw[pT,pT]),hm.keep (L:=[]) ((Fz _ _).alloc _) (by simp),by omega,by omega,by omega⟩
 have a8:=Fk a9;clear hF hR hS b0 bZ b1 a9;obtain ⟨X,hX⟩:∃ X,w.heap.size=X:=⟨_,rfl⟩
 go_enter Tryz.func20,Tryz.ntmps20
 go_upto_block 0 with (fail)
 rw[hX] at a8;generalize (((w.alloc (FG #[FD A0 f.ins.length c0,FD A1 f.jobs.length c1,FD A2 f.outs.length c2] 29)).alloc (.map #[] 0)).alloc (FG #[.map (some (X+1))] 125))=y0 at a8 ⊢;generalize X+1+1=Y at a8 ⊢;generalize X+1=b at a8 ⊢;clear hX b8;go_cut [] (fun wx=>∃ s,Hid (gR w X b Y (FD A0 f.ins.length c0) (FD A1 f.jobs.length c1) (FD A2 f.outs.length c2) s wx)∧s.length≤f.ins.length∧Hid (gS (bL (dh f.jobs) s) (fun s=>gS (bD s f.jobs) fun _=>cE s f.outs [])=R))
 case first =>
  go_wp2_with fail
  go_loopw [23] (fun i wr=>∃ (j:Nat) (s:List Bs),j≤f.ins.length∧i=FH FI j∧s.length≤j∧Hid (gR w X b Y (FD A0 f.ins.length c0) (FD A1 f.jobs.length c1) (FD A2 f.outs.length c2) s wr)∧Hid (gS (bL ((f.ins.map fun x=>(x.name,x.at_)).drop j) s) (fun s=>gS (bL (dh f.jobs) s) fun s=>gS (bD s f.jobs) fun _=>cE s f.outs [])=R)) (fun i _=>f.ins.length-(intOf i).toNat)
  case atStart=>exact ⟨0,[],Fu _,rfl,Fm _,a8,HR⟩
  obtain ⟨j,s,hj,rfl,a0,D,HG⟩:=hrel;obtain ⟨wj,rfl⟩:∃ z:World,z=wr:=⟨_,rfl⟩
  have el:f.ins.length≤100000:=by
   have:=HS.out.all;unfold aW at this;rw[Fo,List.length_map] at this;omega
  by_cases N:j<f.ins.length
  ·have a7:(j:Int)<(f.ins.length:Int):=by omega
   obtain ⟨g,cs,rfl,hg,-,⟨vc,rfl,⟨-,Ac,cc,rfl,-,-⟩⟩,I⟩:=H0.out j N;have d0:=D.out.k.cell_of (I 0 _ rfl) (by simp);have d1:=D.out.k.cell_of (I 1 _ rfl) (by simp);have d2:=D.out.k.cell_of (I 2 _ rfl) (by simp);rw[Nat.add_zero] at d0;have hl:(f.ins[j]).name.length≤1000:=HS.out.names _ (by unfold aW;exact List.mem_append_left _ (List.mem_map.2 ⟨_,Fs N,rfl⟩));have a9:(f.ins.map fun x=>(x.name,x.at_)).drop j=(f.ins[j].name,f.ins[j].at_)::(f.ins.map fun x=>(x.name,x.at_)).drop (j+1):=by
    rw[List.drop_eq_getElem_cons (by simpa using N),List.getElem_map]
   have H:=HG.out;rw[a9,mH] at H;obtain ⟨x,hx⟩:∃ x,f.ins[j]=x:=⟨_,rfl⟩
   rw[hx] at d0 d1 d2 hl H;have O:=Fk H;have HC:=Fk (sW (D.out.keep ((Fz _ _).alloc (FG #[FH FI x.at_,FC (bs x.name),FD Ac x.cols.length cc] 57))) x.name x.at_ hl (by omega));clear a9 H hx I hl;go_wp2_with fail
   refine HC.out.mono ?_;rintro e w5 (⟨J,⟨u,rfl,hu⟩,k5⟩|⟨J,rfl,bc,-⟩)
   ·have HE:Hid (R= .error (9,x.at_)):=Fk (by
     have:=O.out;rw[if_pos J] at this;exact this.symm)
    obtain ⟨gi,rfl,bj⟩:=hu;have ba:=Fk bj;have b7:=Fk ((D.out.k.alloc _).trans k5);clear J bj k5;go_wp2;go_ret;exact ⟨by rw[HE.out];exact ⟨_,rfl,_,rfl,ba.out⟩,b7.out⟩
   have M:Hid (gS (bL ((f.ins.map fun x=>(x.name,x.at_)).drop (j+1)) (x.name::s)) (fun s=>gS (bL (dh f.jobs) s) fun s=>gS (bD s f.jobs) fun _=>cE s f.outs [])=R):=Fk (by
    have:=O.out;rw[if_neg J] at this;exact this)
   have ad:=Fk bc;clear J bc;go_wp2;go_roundw
   case rel=>exact ⟨j+1,x.name::s,by omega,by go_num,by simp;omega,ad,M⟩
   case measure=>simp[intOf];omega
  have a7:¬(j:Int)<(f.ins.length:Int):=by omega
  have M:Hid (gS (bL (dh f.jobs) s) (fun s=>gS (bD s f.jobs) fun _=>cE s f.outs [])=R):=Fk (by
   have:=HG.out;rw[List.drop_of_length_le (by simp;omega)] at this;exact this)
  go_wp2;go_meet
  case rel=>exact ⟨s,D,by omega,M⟩
 obtain ⟨s,D,a0,HG⟩:=hcut;clear a8 HR;have bb:=HS.out.all;unfold aW at bb;rw[Fo,List.length_map] at bb;have a6:wc.cell? ⟨X,1,none⟩=some (FD A1 f.jobs.length c1):=D.out.fb.cell 1;have aA:=D.out.fb.lt;go_upto_block 2 with (fail)
 go_cut [] (fun wx=>∃ s,Hid (gR w X b Y (FD A0 f.ins.length c0) (FD A1 f.jobs.length c1) (FD A2 f.outs.length c2) s wx)∧Hid (gS (bD s f.jobs) (fun _=>cE s f.outs [])=R))
 case first =>
  go_wp2_with fail
  go_loopw [40] (fun i wr=>∃ (j:Nat) (s:List Bs),j≤f.jobs.length∧i=FH FI j∧s.length+((f.jobs.drop j).flatMap (·.outs)).length≤100000∧Hid (gR w X b Y (FD A0 f.ins.length c0) (FD A1 f.jobs.length c1) (FD A2 f.outs.length c2) s wr)∧Hid (gS (bL (dh (f.jobs.drop j)) s) (fun s=>gS (bD s f.jobs) fun _=>cE s f.outs [])=R)) (fun i _=>f.jobs.length-(intOf i).toNat)
  case atStart=>exact ⟨0,s,Fu _,rfl,by rw[List.drop_zero];omega,D,HG⟩
  clear D HG a0 a6 aA;obtain ⟨j,s,hj,rfl,a0,D,HG⟩:=hrel;obtain ⟨wj,rfl⟩:∃ z:World,z=wr:=⟨_,rfl⟩
  by_cases N:j<f.jobs.length
  ·have a7:(j:Int)<(f.jobs.length:Int):=by omega
   obtain ⟨g,cs,rfl,hg,-,⟨_,_,_,rfl,⟨dq,B2,e2,rfl,cz,b6⟩,⟨-,B3,e3,rfl,-,-⟩,⟨-,B4,e4,rfl,-,-⟩⟩,I⟩:=H1.out j N;have d0:=D.out.k.cell_of (I 0 _ rfl) (by simp);have d1:=D.out.k.cell_of (I 1 _ rfl) (by simp);have d2:=D.out.k.cell_of (I 2 _ rfl) (by simp);have d3:=D.out.k.cell_of (I 3 _ rfl) (by simp);have d4:=D.out.k.cell_of (I 4 _ rfl) (by simp);have d5:=D.out.k.cell_of (I 5 _ rfl) (by simp);have d6:=D.out.k.cell_of (I 6 _ rfl) (by simp);have d7:=D.out.k.cell_of (I 7 _ rfl) (by simp);have d8:=D.out.k.cell_of (I 8 _ rfl) (by simp);have d9:=D.out.k.cell_of (I 9 _ rfl) (by simp);have bm:=D.out.k.cell_of (I 10 _ rfl) (by simp);have bt:=D.out.k.cell_of (I 11 _ rfl) (by simp);have br:=D.out.k.cell_of (I 12 _ rfl) (by simp);have bz:=D.out.k.cell_of (I 13 _ rfl) (by simp);have bv:=D.out.k.cell_of (I 14 _ rfl) (by simp);rw[Nat.add_zero] at d0;have Z:∀ n∈f.jobs[j].outs,n.length≤1000:=fun n hn=>HS.out.names n (by unfold aW;exact List.mem_append_right _ (List.mem_flatMap.2 ⟨_,Fs N,hn⟩))
   have H:=HG.out;rw[List.drop_eq_getElem_cons N] at H a0;rw[sY] at H;rw[List.flatMap_cons,Fo] at a0;obtain ⟨x,hx⟩:∃ x,f.jobs[j]=x:=⟨_,rfl⟩
   rw[hx] at d0 d1 d2 d3 d4 d5 d6 d7 d8 d9 bm bt br bz bv Z H a0 dq cz b6;have O:=Fk H;have cu:=Fk b6;have c6:=Fk Z;have cr:=FA wj 50 (bY x (FD B2 x.outs.length e2) (FD B3 x.ins.length e3) (FD B4 x.cols.length e4));have U:=Fk (D.out.keep ((Fz _ _).alloc (FG (bY x (FD B2 x.outs.length e2) (FD B3 x.ins.length e3) (FD B4 x.cols.length e4)) 50)));have cv:b<wj.heap.size:=D.out.mp.lt;clear H hx I b6 Z;go_upto_block 4 with (fail)
   generalize b4:wj.alloc (FG #[FH FI x.at_,FH FI x.code,FD B2 x.outs.length e2,FD B3 x.ins.length e3,FD B4 x.cols.length e4,FC (bs x.op),FC (bs x.left.col),FH FI x.left.val.kind,FH FI x.left.val.num,FC (bs x.left.val.word),FC (bs x.right.col),FH FI x.right.val.kind,FH FI x.right.val.num,FC (bs x.right.val.word),FH FI x.retry] 50)=y1 at *;generalize ch:wj.heap.size=xb at *;have a5:Hid (ao y1 xb 50 (bY x (FD B2 x.outs.length e2) (FD B3 x.ins.length e3) (FD B4 x.cols.length e4))):=Fk (by rw[←b4,←ch];exact FA _ _ _);have U:Hid (gR w X b Y (FD A0 f.ins.length c0) (FD (some ⟨g,0,none⟩) f.jobs.length c1) (FD A2 f.outs.length c2) s y1):=Fk (by rw[←b4];exact D.out.keep ((Fz _ _).alloc _));have bX:xb≠b:=by omega
   have cq:=Fk bX;clear b4 ch cr cv bX d0 d1 d2 d3 d4 d5 d6 d7 d8 d9 bm bt br bz bv D HG;have p0:y1.cell? ⟨xb,0,none⟩=some (FH FI x.at_):=a5.out.cell 0;have p2:y1.cell? ⟨xb,2,none⟩=some (FD B2 x.outs.length e2):=a5.out.cell 2;have pl:=a5.out.lt;go_wp2_with fail
   go_loopw [47] (fun i wr=>∃ (m:Nat) (s:List Bs),m≤x.outs.length∧i=FH FI m∧s.length+(x.outs.length-m)+((f.jobs.drop (j+1)).flatMap (·.outs)).length≤100000∧Hid (gR w X b Y (FD A0 f.ins.length c0) (FD (some ⟨g,0,none⟩) f.jobs.length c1) (FD A2 f.outs.length c2) s wr)∧Hid (ao wr xb 50 (bY x (FD B2 x.outs.length e2) (FD B3 x.ins.length e3) (FD B4 x.cols.length e4)))∧Hid (gS (bL ((x.outs.map fun n=>(n,x.at_)).drop m++dh (f.jobs.drop (j+1))) s) (fun s=>gS (bD s f.jobs) fun _=>cE s f.outs [])=R)) (fun i _=>x.outs.length-(intOf i).toNat)
   case atStart=>exact ⟨0,s,Fu _,rfl,by omega,U,a5,O⟩
   clear p0 p2 pl U a5 O a0;obtain ⟨m,s,hm,rfl,a0,D,a5,HG⟩:=hrel;obtain ⟨wm,rfl⟩:∃ z:World,z=wr:=⟨_,rfl⟩
   have p0:wm.cell? ⟨xb,0,none⟩=some (FH FI x.at_):=a5.out.cell 0;have pl:=a5.out.lt;by_cases cd:m<x.outs.length
   ·have dr:(m:Int)<(x.outs.length:Int):=by omega
    obtain ⟨bo,oo,rfl,-,dB,cj⟩:=(cu.out.keep D.out.k).open' (by omega) (by omega);have q0:=cj m _ (cw x.outs m cd);have co:=c6.out _ (Fs cd);have H:=HG.out;rw[List.drop_eq_getElem_cons (by simpa using cd),List.getElem_map,List.cons_append,mH] at H;obtain ⟨n,hn⟩:∃ n,x.outs[m]=n:=⟨_,rfl⟩
    rw[hn] at q0 co H;have O:=Fk H;have HC:=Fk (sW D.out n x.at_ co (by omega));clear cj H hn;go_wp2_with fail
    refine HC.out.mono ?_;rintro e w5 (⟨J,⟨u,rfl,hu⟩,k5⟩|⟨J,rfl,bc,k5⟩)
    ·have HE:Hid (R= .error (9,x.at_)):=Fk (by
      have:=O.out;rw[if_pos J] at this;exact this.symm)
     obtain ⟨gi,rfl,bj⟩:=hu;have ba:=Fk bj;have b7:=Fk (D.out.k.trans k5);clear J bj k5;go_wp2;go_ret;exact ⟨by rw[HE.out];exact ⟨_,rfl,_,rfl,ba.out⟩,b7.out⟩
    have M:Hid (gS (bL ((x.outs.map fun n=>(n,x.at_)).drop (m+1)++dh (f.jobs.drop (j+1))) (n::s)) (fun s=>gS (bD s f.jobs) fun _=>cE s f.outs [])=R):=Fk (by
     have:=O.out;rw[if_neg J] at this;exact this)
    have ad:=Fk bc;have ba:=Fk (a5.out.keep k5 (by simpa using cq.out));clear J bc k5;go_wp2;go_roundw
    case rel=>exact ⟨m+1,n::s,by omega,by go_num,by simp only[Fv];omega,ad,ba,M⟩
    case measure=>simp[intOf];omega
   have dr:¬(m:Int)<(x.outs.length:Int):=by omega
   have M:Hid (gS (bL (dh (f.jobs.drop (j+1))) s) (fun s=>gS (bD s f.jobs) fun _=>cE s f.outs [])=R):=Fk (by
    have:=HG.out;rw[List.drop_of_length_le (by simp;omega)] at this;exact this)
   go_wp2;go_roundw
   case rel=>exact ⟨j+1,s,by omega,by go_num,by omega,D,M⟩
   case measure=>simp[intOf];omega
  have a7:¬(j:Int)<(f.jobs.length:Int):=by omega
  have M:Hid (gS (bD s f.jobs) (fun _=>cE s f.outs [])=R):=Fk (by
   have:=HG.out;rw[List.drop_of_length_le (by omega)] at this;exact this)
  go_wp2;go_meet
  case rel=>exact ⟨s,D,M⟩
 obtain ⟨s,D,HG⟩:=hcut;clear a6 aA bb a0;have a6:wc.cell? ⟨X,1,none⟩=some (FD A1 f.jobs.length c1):=D.out.fb.cell 1;have aA:=D.out.fb.lt;go_upto_block 6 with (fail)
 go_cut [] (fun wx=>Hid (gR w X b Y (FD A0 f.ins.length c0) (FD A1 f.jobs.length c1) (FD A2 f.outs.length c2) s wx)∧Hid (cE s f.outs []=R))
 case first =>
  go_wp2_with fail
  go_loopw [64] (fun i wr=>∃ j:Nat,j≤f.jobs.length∧i=FH FI j∧Hid (gR w X b Y (FD A0 f.ins.length c0) (FD A1 f.jobs.length c1) (FD A2 f.outs.length c2) s wr)∧Hid (gS (bD s (f.jobs.drop j)) (fun _=>cE s f.outs [])=R)) (fun i _=>f.jobs.length-(intOf i).toNat)
  case atStart=>exact ⟨0,Fu _,rfl,D,HG⟩
  clear D HG a6 aA;obtain ⟨j,hj,rfl,D,HG⟩:=hrel;obtain ⟨wj,rfl⟩:∃ z:World,z=wr:=⟨_,rfl⟩
  by_cases N:j<f.jobs.length
  ·have a7:(j:Int)<(f.jobs.length:Int):=by omega
   obtain ⟨g,cs,rfl,hg,-,⟨_,_,_,rfl,⟨-,B2,e2,rfl,-,-⟩,⟨cg,B3,e3,rfl,cx,ca⟩,⟨-,B4,e4,rfl,-,-⟩⟩,I⟩:=H1.out j N;have d0:=D.out.k.cell_of (I 0 _ rfl) (by simp);have d1:=D.out.k.cell_of (I 1 _ rfl) (by simp);have d2:=D.out.k.cell_of (I 2 _ rfl) (by simp);have d3:=D.out.k.cell_of (I 3 _ rfl) (by simp);have d4:=D.out.k.cell_of (I 4 _ rfl) (by simp);have d5:=D.out.k.cell_of (I 5 _ rfl) (by simp);have d6:=D.out.k.cell_of (I 6 _ rfl) (by simp);have d7:=D.out.k.cell_of (I 7 _ rfl) (by simp);have d8:=D.out.k.cell_of (I 8 _ rfl) (by simp);have d9:=D.out.k.cell_of (I 9 _ rfl) (by simp);have bm:=D.out.k.cell_of (I 10 _ rfl) (by simp);have bt:=D.out.k.cell_of (I 11 _ rfl) (by simp);have br:=D.out.k.cell_of (I 12 _ rfl) (by simp);have bz:=D.out.k.cell_of (I 13 _ rfl) (by simp);have bv:=D.out.k.cell_of (I 14 _ rfl) (by simp);rw[Nat.add_zero] at d0;have Z:∀ n∈f.jobs[j].ins,n.length≤1000:=fun n hn=>HS.out.ins _ (Fs N) n hn
   have H:=HG.out;rw[List.drop_eq_getElem_cons N,rG] at H;obtain ⟨x,hx⟩:∃ x,f.jobs[j]=x:=⟨_,rfl⟩
   rw[hx] at d0 d1 d2 d3 d4 d5 d6 d7 d8 d9 bm bt br bz bv Z H cg cx ca;have O:=Fk H;have U:=Fk (D.out.keep ((Fz _ _).alloc (FG (bY x (FD B2 x.outs.length e2) (FD B3 x.ins.length e3) (FD B4 x.cols.length e4)) 50)));have HC:Hid (∀ W,aa [] wj W→Calls Tryz.prog 53 #[FD B3 x.ins.length e3,.func (.func 54) #[] #[FE (some ⟨Y,0,none⟩)]] W fun e w'=>e=FF (.bool (x.ins.any fun n=> !decide (n∈s)))∧aa [] W w'):=Fk fun W z =>
    gd 54 _ (fun _ _=>by rfl) (fun n=> !decide (n∈s)) x.ins B3 e3 W (ca.keep (D.out.k.trans z)) cg (fun n hn W' z'=>Aa (D.out.keep (z.trans z')) n (Z n hn))
   have c5:=Fk (D.out.k.alloc (FG (bY x (FD B2 x.outs.length e2) (FD B3 x.ins.length e3) (FD B4 x.cols.length e4)) 50));clear H hx I ca Z
   cases av:(x.ins.any fun n=> !decide (n∈s)) with
   | true =>
    have HE:Hid (R= .error (7,x.at_)):=Fk (by
     have:=O.out;rw[if_pos av] at this;exact this.symm)
    rw[av] at HC;clear av;go_wp2_with ((with_reducible refine (HC.out _ ((Fz _ _).alloc _)).mono ?_);rintro e w5 ⟨rfl,k5⟩;have b5:w5.cell? ⟨wj.heap.size,0,none⟩=some (FH FI x.at_):=((FA wj 50 (bY x (FD B2 x.outs.length e2) (FD B3 x.ins.length e3) (FD B4 x.cols.length e4))).keep k5 (by simp)).cell 0;have er:=((FA wj 50 (bY x (FD B2 x.outs.length e2) (FD B3 x.ins.length e3) (FD B4 x.cols.length e4))).keep k5 (by simp)).lt)
    go_ret;exact ⟨by rw[HE.out];exact ⟨_,rfl,_,rfl,FA _ _ _⟩,(c5.out.trans k5).alloc _⟩
   | false =>
    have M:Hid (gS (bD s (f.jobs.drop (j+1))) (fun _=>cE s f.outs [])=R):=Fk (by
     have:=O.out;rw[av] at this;exact this)
    rw[av] at HC;clear av;go_wp2_with ((with_reducible refine (HC.out _ ((Fz _ _).alloc _)).mono ?_);rintro e w5 ⟨rfl,k5⟩)
    have ad:=Fk (U.out.keep k5);go_roundw
    case rel=>exact ⟨j+1,by omega,by go_num,ad,M⟩
    case measure=>simp[intOf];omega
  have a7:¬(j:Int)<(f.jobs.length:Int):=by omega
  have M:Hid (cE s f.outs []=R):=Fk (by
   have:=HG.out;rw[List.drop_of_length_le (by omega)] at this;exact this)
  go_wp2;go_meet
  case rel=>exact ⟨D,M⟩
 clear D HG a6 aA;obtain ⟨D,HG⟩:=hcut;obtain ⟨y5,rfl⟩:∃ z:World,z=wc:=⟨_,rfl⟩
 have a6:y5.cell? ⟨X,2,none⟩=some (FD A2 f.outs.length c2):=D.out.fb.cell 2;have aA:=D.out.fb.lt;have b8:= @run_makeMap Tryz.prog;have bq:=Fk (dc.made (P:=Tryz.prog) (S:=9) (E:=4) y5);have ad:=Fk (D.out.keep ((Fz _ _).alloc (.map #[] 0)));have b9:(y5.alloc (.map #[] 0)).cell? ⟨X,2,none⟩=some (FD A2 f.outs.length c2):=ad.out.fb.cell 2;have bk:y5.heap.size≠X∧y5.heap.size≠Y∧y5.heap.size≠b∧w.heap.size≤y5.heap.size:=by
  have a1:=D.out.fb.lt;have a2:=D.out.mb.lt;have a3:=D.out.mp.lt;have a4:=D.out.k.size;omega
 go_upto_block 8 with (fail)
 generalize hq:y5.alloc (.map #[] 0)=y6 at bq ad b9 ⊢;generalize c9:y5.heap.size=b2 at bq bk ⊢;clear hq c9 b8 a6 aA D;have a6:=b9;have aA:=ad.out.fb.lt;go_wp2_with fail
 go_loopw [82] (fun i wr=>∃ (j:Nat) (told:List Bs),j≤f.outs.length∧i=FH FI j∧told.length≤j∧Hid (gR w X b Y (FD A0 f.ins.length c0) (FD A1 f.jobs.length c1) (FD A2 f.outs.length c2) s wr)∧Hid (xV wr b2 told)∧Hid (cE s (f.outs.drop j) told=R)) (fun i _=>f.outs.length-(intOf i).toNat)
 case atStart=>exact ⟨0,[],Fu _,rfl,Fm _,ad,bq,HG⟩
 clear ad bq HG a6 b9 aA;obtain ⟨j,told,hj,rfl,dv,D,ct,HG⟩:=hrel;obtain ⟨wj,rfl⟩:∃ z:World,z=wr:=⟨_,rfl⟩
 by_cases N:j<f.outs.length
 ·have a7:(j:Int)<(f.outs.length:Int):=by omega
  obtain ⟨g,cs,rfl,hg,-,cD,I⟩:=H2.out j N;obtain rfl:=cD;have d0:=D.out.k.cell_of (I 0 _ rfl) (by simp);have d1:=D.out.k.cell_of (I 1 _ rfl) (by simp);have d2:=D.out.k.cell_of (I 2 _ rfl) (by simp);rw[Nat.add_zero] at d0;have Z:=HS.out.told _ (Fs N);have eb:=HS.out.outs;have H:=HG.out;rw[List.drop_eq_getElem_cons N,sX] at H;obtain ⟨x,hx⟩:∃ x,f.outs[j]=x:=⟨_,rfl⟩
  rw[hx] at d0 d1 d2 Z H;have U:=Fk (D.out.keep ((Fz _ _).alloc (FG #[FH FI x.at_,FC (bs x.name),FC (bs x.src)] 60)));have ce:=Fk (ct.out.keep (L:=[]) ((Fz _ _).alloc (FG #[FH FI x.at_,FC (bs x.name),FC (bs x.src)] 60)) (by simp));have m0:(wj.alloc (FG #[FH FI x.at_,FC (bs x.name),FC (bs x.src)] 60)).cell? ⟨Y,0,none⟩=some (.map (some b)):=U.out.mb.cell 0;have mY:=D.out.mb.lt;have es:Y≠wj.heap.size:=by omega
  have cm:=U.out.mp.lookB x.src Z.2;have b3:=ce.out.lookB x.name Z.1;have O:=Fk H;clear H hx I;by_cases V:x.src∈s
  ·rw[decide_eq_true V] at cm
   by_cases J:x.name∈told
   ·rw[decide_eq_true J] at b3
    have HE:Hid (R= .error (9,x.at_)):=Fk (by
     have:=O.out;rw[if_neg (fun h=>h V),if_pos J] at this;exact this.symm)
    clear V J;go_wp2;go_ret;exact ⟨by rw[HE.out];exact ⟨_,rfl,_,rfl,ao.new' (wj.alloc _) _ _ _ (by rw[pT])⟩,U.out.k.alloc _⟩
   rw[decide_eq_false J] at b3;obtain ⟨w7,ds,cn,ci⟩:=ce.out.storeB x.name Z.1 (by omega);have be:aa [b2] (wj.alloc (FG #[FH FI x.at_,FC (bs x.name),FC (bs x.src)] 60)) w7:=(Fz [b2] _).grown ci (fun g hg=> .inl (by injection hg with hg;simp[hg]));have c3:Hid (gR w X b Y (FD A0 f.ins.length c0) (FD A1 f.jobs.length c1) (FD (some ⟨g,0,none⟩) f.outs.length c2) s w7):=Fk ⟨U.out.k.trans' be (fun q hq hl=>by rw[List.mem_singleton.1 hq] at hl;omega),U.out.fb.keep be (by simpa using bk.1.symm),U.out.mb.keep be (by simpa using bk.2.1.symm),U.out.mp.keep be (by simpa using bk.2.2.1.symm),D.out.hb,D.out.xb,D.out.yb⟩;have c8:=Fk cn;have M:Hid (cE s (f.outs.drop (j+1)) (x.name::told)=R):=Fk (by
    have:=O.out;rw[if_neg (fun h=>h V),if_neg J] at this;exact this)
   clear V J cn ci be;go_wp2;go_roundw
   case rel=>exact ⟨j+1,x.name::told,by omega,by go_num,by simp only[Fv];omega,c3,c8,M⟩
   case measure=>simp[intOf];omega
  rw[decide_eq_false V] at cm;have HE:Hid (R= .error (7,x.at_)):=Fk (by
   have:=O.out;rw[if_pos V] at this;exact this.symm)
  clear V b3;go_wp2;go_ret;exact ⟨by rw[HE.out];exact ⟨_,rfl,_,rfl,ao.new' (wj.alloc _) _ _ _ (by rw[pT])⟩,U.out.k.alloc _⟩
 have a7:¬(j:Int)<(f.outs.length:Int):=by omega
 have HE:Hid (R= .ok ()):=Fk (by
  have:=HG.out;rw[List.drop_of_length_le (by omega)] at this;exact this.symm)
 go_wp2;go_ret;exact ⟨by rw[HE.out];rfl,D.out.k⟩
end
section
theorem aj {E α β:Type} {x:Except E α} {f:α→Except E β} {c:β} (h:(x >>= f)= .ok c):∃ a,x= .ok a∧f a= .ok c:=by
 rcases x with e|a
 ·cases h
 exact ⟨a,rfl,h⟩
theorem qT:∀ (n:Nat) {l r:List Tk} {acc cs:List Cl},dD n l acc= .ok (cs,r)→r.length≤l.length
 | 0,l,r,acc,cs,h=>by
  injection h with h;injection h with _ h;rw[h];exact Fm _
 | n+1,l,r,acc,cs,h=>by
  rw[eU] at h;obtain ⟨⟨s,N⟩,H,h⟩:=aj h;obtain ⟨⟨k,J⟩,D,h⟩:=aj h;dsimp only at h D
  have I:=az H;have M:=eV D;split at h
  ·have:=qT n h
   rw[List.length_tail] at this;omega
  injection h with h;injection h with _ h;subst h;omega
theorem Bm {j I:Jb} {l r:List Tk} (h:xG j l= .ok (I,r)):r.length≤l.length:=by
 unfold xG at h;obtain ⟨⟨N,O⟩,D,h⟩:=aj h;try dsimp only at h
 have U:=az D;obtain ⟨Z,J,h⟩:=aj h;try dsimp only at h
 have M:=aD J;obtain ⟨⟨s2,q2⟩,H,h⟩:=aj h;try dsimp only at h
 have V:=az H;injection h with h;injection h with _ h;subst h;first|omega|(simp only[List.length_tail] at *;omega)
theorem zf {j I:Jb} {l r:List Tk} (h:ei j l= .ok (I,r)):r.length≤l.length:=by
 unfold ei at h;obtain ⟨N,J,h⟩:=aj h;try dsimp only at h
 have U:=aD J;obtain ⟨⟨V,q1⟩,H,h⟩:=aj h;try dsimp only at h
 have e1:=az H;obtain ⟨⟨s2,q2⟩,D,h⟩:=aj h;try dsimp only at h
 have e2:=eV D;obtain ⟨⟨O,Z⟩,M,h⟩:=aj h;try dsimp only at h
 have e3:=jI M;injection h with h;injection h with _ h;subst h;first|omega|(simp only[List.length_tail] at *;omega)
theorem CB {j J:Jb} {l r:List Tk} (h:sF j l= .ok (J,r)):r.length≤l.length:=by
 unfold sF at h;obtain ⟨U,M,h⟩:=aj h;try dsimp only at h
 have Z:=aD M;obtain ⟨⟨s1,q1⟩,I,h⟩:=aj h;try dsimp only at h
 have e1:=az I;obtain ⟨q2,H,h⟩:=aj h;try dsimp only at h
 have e2:=aD H;obtain ⟨⟨V,q3⟩,N,h⟩:=aj h;try dsimp only at h
 have e3:=jI N;obtain ⟨⟨s4,q4⟩,O,h⟩:=aj h;try dsimp only at h
 have e4:=eV O;obtain ⟨⟨s5,q5⟩,D,h⟩:=aj h;try dsimp only at h
 have e5:=jI D;injection h with h;injection h with _ h;subst h;first|omega|(simp only[List.length_tail] at *;omega)
theorem Eg {j H:Jb} {l r:List Tk} (h:zP j l= .ok (H,r)):r.length≤l.length:=by
 unfold zP at h;obtain ⟨M,D,h⟩:=aj h;try dsimp only at h
 have N:=aD D;obtain ⟨⟨O,U⟩,I,h⟩:=aj h;try dsimp only at h
 have J:=lO I;injection h with h;injection h with _ h;subst h;first|omega|(simp only[List.length_tail] at *;omega)
theorem zg {j I:Jb} {l r:List Tk} (h:i7 j l= .ok (I,r)):r.length≤l.length:=by
 unfold i7 at h;obtain ⟨N,J,h⟩:=aj h;try dsimp only at h
 have U:=aD J;obtain ⟨⟨V,q1⟩,H,h⟩:=aj h;try dsimp only at h
 have e1:=az H;obtain ⟨⟨s2,q2⟩,D,h⟩:=aj h;try dsimp only at h
 have e2:=eV D;obtain ⟨⟨O,Z⟩,M,h⟩:=aj h;try dsimp only at h
 have e3:=az M;injection h with h;injection h with _ h;subst h;first|omega|(simp only[List.length_tail] at *;omega)
theorem Bn {j H:Jb} {l r:List Tk} (h:nL j l= .ok (H,r)):r.length≤l.length:=by
 unfold nL at h;obtain ⟨⟨s,O⟩,I,h⟩:=aj h;obtain ⟨M,D,h⟩:=aj h;have J:=Bm I;have N:=aD D;have U:=Bm h;omega
theorem zh {j I:Jb} {l r:List Tk} (h:ku j l= .ok (I,r)):r.length≤l.length:=by
 unfold ku at h;obtain ⟨⟨N,O⟩,D,h⟩:=aj h;try dsimp only at h
 have U:=az D;obtain ⟨Z,J,h⟩:=aj h;try dsimp only at h
 have M:=aD J;obtain ⟨⟨s2,q2⟩,H,h⟩:=aj h;try dsimp only at h
 have V:=az H;injection h with h;injection h with _ h;subst h;first|omega|(simp only[List.length_tail] at *;omega)
theorem Bo {j D:Jb} {l r:List Tk} (h:j7 j l= .ok (D,r)):r.length≤l.length:=by
 unfold j7 at h;split at h
 ·exact zf h
 split at h
 ·exact CB h
 split at h
 ·exact Eg h
 split at h
 ·exact zg h
 injection h with h;injection h with _ h;rw[h];exact Fm _
theorem Bp {j H:Jb} {l r:List Tk} (h:bF j l= .ok (H,r)):r.length≤l.length:=by
 unfold bF at h;have D:l.tail.length≤l.length:=by rw[List.length_tail];omega
 split at h
 ·cases h
 split at h
 ·exact Ft (Bn h) D
 split at h
 ·exact Ft (zh h) D
 obtain ⟨⟨s,N⟩,I,h⟩:=aj h;have J:=az I;have M:=Bo h;omega
theorem zi {l r:List Tk} {n:Int} (h:dW l= .ok (n,r)):r.length≤l.length:=by
 unfold dW at h;split at h
 ·split at h
  ·cases h
  split at h
  ·split at h
   ·cases h
   injection h with h;injection h with _ h;rw[←h,List.length_tail,List.length_tail];omega
  cases h
 injection h with h;injection h with _ h;rw[h];exact Fm _
theorem zj {x:In} {l r:List Tk} (hl:0<l.length) (h:eE l= .ok (x,r)):r.length<l.length:=by
 unfold eE at h;obtain ⟨N,I,h⟩:=aj h;try dsimp only at h
 have U:=aD I;obtain ⟨⟨Z,q1⟩,H,h⟩:=aj h;try dsimp only at h
 have e1:=az H;obtain ⟨q2,D,h⟩:=aj h;try dsimp only at h
 have e2:=aD D;obtain ⟨⟨O,q3⟩,J,h⟩:=aj h;try dsimp only at h
 have e3:=qT _ J;obtain ⟨V,M,h⟩:=aj h;try dsimp only at h
 have e4:=aD M;injection h with h;injection h with _ h;subst h;first|omega|(simp only[List.length_tail] at *;omega)
theorem CC {x:Jb} {l r:List Tk} (hl:0<l.length) (h:kT l= .ok (x,r)):r.length<l.length:=by
 unfold kT at h;obtain ⟨O,J,h⟩:=aj h;try dsimp only at h
 have U:=aD J;obtain ⟨⟨s1,q1⟩,I,h⟩:=aj h;try dsimp only at h
 have e1:=lO I;obtain ⟨⟨s2,q2⟩,H,h⟩:=aj h;try dsimp only at h
 have e2:=zi H;obtain ⟨q3,M,h⟩:=aj h;try dsimp only at h
 have e3:=aD M;obtain ⟨⟨s4,V⟩,N,h⟩:=aj h;try dsimp only at h
 have e4:=Bp N;obtain ⟨q5,D,h⟩:=aj h;try dsimp only at h
 have Z:=aD D;injection h with h;injection h with _ h;subst h;first|omega|(simp only[List.length_tail] at *;omega)
theorem CE {x:Pb} {l r:List Tk} (hl:0<l.length) (h:ng l= .ok (x,r)):r.length<l.length:=by
 unfold ng at h;obtain ⟨N,I,h⟩:=aj h;try dsimp only at h
 have U:=aD I;obtain ⟨⟨Z,q1⟩,H,h⟩:=aj h;try dsimp only at h
 have e1:=az H;obtain ⟨q2,D,h⟩:=aj h;try dsimp only at h
 have e2:=aD D;obtain ⟨⟨O,q3⟩,J,h⟩:=aj h;try dsimp only at h
 have e3:=az J;obtain ⟨V,M,h⟩:=aj h;try dsimp only at h
 have e4:=aD M;injection h with h;injection h with _ h;subst h;first|omega|(simp only[List.length_tail] at *;omega)
end
section
open Go.RowKit Go.BigFrame
attribute [local go_sem] ag ab ae af
theorem E9:(Tryz.prog.info? 57).map (fun i=>(i.zero,i.size,i.bytes))=some (some (.agg #[FH FI 0,FC ⟨#[]⟩,FD none 0 0]),3,48):=by kernel_rfl
theorem Fa:(Tryz.prog.info? 50).map (fun i=>(i.zero,i.size,i.bytes))=some (some (.agg #[FH FI 0,FH FI 0,FD none 0 0,FD none 0 0,FD none 0 0,FC ⟨#[]⟩,FC ⟨#[]⟩,FH FI 0,FH FI 0,FC ⟨#[]⟩,FC ⟨#[]⟩,FH FI 0,FH FI 0,FC ⟨#[]⟩,FH FI 0]),15,208):=by kernel_rfl
theorem Fb:(Tryz.prog.info? 60).map (fun i=>(i.zero,i.size,i.bytes))=some (some (.agg #[FH FI 0,FC ⟨#[]⟩,FC ⟨#[]⟩]),3,40):=by kernel_rfl
theorem Bw {l:List Tk} {b lo:Nat} (w:World) (hE:FB w lo) (cu:lo≤b) (h:Ps w b l) (er:l.length≤1000000) :
  Calls Tryz.prog 43 #[FE (some ⟨b,0,none⟩)] w fun e w'=>BX (qj l) b w.heap.size e w'∧aa [b] w w':=by
 obtain ⟨i0,hi,et,eY,d6⟩:=info_parts E9;obtain ⟨i1,hj,eB,el,d5⟩:=info_parts Fa;obtain ⟨i2,hp,e8,e6,e9⟩:=info_parts Fb;obtain ⟨R,hR⟩:∃ R,qj l=R:=⟨_,rfl⟩
 rw[hR];rw[sK] at hR;have HR:=Fk hR;have ct:=Fk er;have HE:=Fk hE;have eA:=Fk h;have fs:∀ (fn:Fn) (first cap:Array Value) (w:World),(Instr.makeFunc fn first cap).run Tryz.prog w= .ok (.func fn first cap) w:=fun _ _ _ _=>rfl
 clear hR er hE h;go_enter Tryz.func43,Tryz.ntmps43
 go_upto_block 0 with (fail)
 obtain ⟨W1,co⟩:∃ x,w.alloc (FG #[FE (some ⟨b,0,none⟩)] 109)=x:=⟨_,rfl⟩
 have z1:W1.heap.size=w.heap.size+1:=by rw[←co];exact pT _ _
 obtain ⟨W2,cn⟩:∃ x,W1.alloc (FG #[FD none 0 0,FD none 0 0,FD none 0 0] 29)=x:=⟨_,rfl⟩
 have z2:W2.heap.size=w.heap.size+1+1:=by rw[←cn,pT,z1]
 obtain ⟨y0,cy⟩:∃ x,W2.alloc (FG #[FD none 0 0,FD none 0 0,FD none 0 0] 29)=x:=⟨_,rfl⟩
 have k1:aa [] w W1:=by rw[←co];exact (Fz _ _).alloc _
 have k2:aa [] W1 W2:=by rw[←cn];exact (Fz _ _).alloc _
 have k3:aa [] W2 y0:=by rw[←cy];exact (Fz _ _).alloc _
 have b1:ao W1 w.heap.size 109 #[FE (some ⟨b,0,none⟩)]:=by rw[←co];exact FA _ _ _
 have b2:ao W2 (w.heap.size+1) 29 #[FD none 0 0,FD none 0 0,FD none 0 0]:=by rw[←cn,←z1];exact FA _ _ _
 have b3:ao y0 (w.heap.size+1+1) 29 #[FD none 0 0,FD none 0 0,FD none 0 0]:=by rw[←cy,←z2];exact FA _ _ _
 rw[co,cn,cy];obtain ⟨fb,eb⟩:∃ x,w.heap.size+1+1=x:=⟨_,rfl⟩
 rw[eb] at b3 ⊢;obtain ⟨rb,ey⟩:∃ x,w.heap.size+1=x:=⟨_,rfl⟩
 rw[ey] at b2 ⊢;have I:Hid (dk y0 w.heap.size w.heap.size rb fb b (FD none 0 0) (FD none 0 0) (FD none 0 0) [] [] []):=Fk
  ⟨(b1.keep k2 (by simp)).keep k3 (by simp),b2.keep k3 (by simp),b3,by omega,by omega,cP.nil,cP.nil,cP.nil⟩
 have HK:Hid (aa [b] w y0):=Fk (k1.trans (k2.trans k3)).of_nil;have J:Hid (Ps y0 b l):=Fk (((eA.out.keep k1).keep k2).keep k3);have e1:Hid (w.heap.size≤rb):=Fk (by omega);clear eb ey b1 b2 b3 k1 k2 k3 z1 z2 co cn cy eA;go_upto_block 0 with (fail)
 go_cut [] (fun wx=>∃ (v0:Value) (ins:List In) (q:List Tk),Hid (qr (ins,q)=R)∧Hid (q.length≤l.length)∧Hid (dk wx w.heap.size w.heap.size rb fb b v0 (FD none 0 0) (FD none 0 0) ins [] [])∧Hid (Ps wx b q)∧Hid (aa [b] w wx))
 case first =>
  go_wp2_with fail
  go_loopw [] (fun wx=>∃ (v0:Value) (ins:List In) (q:List Tk) (n:Nat),Hid (cR [105,110] eE n q ins >>= qr=R)∧q.length≤n∧Hid (q.length≤l.length)∧ins.length≤16∧Hid (dk wx w.heap.size w.heap.size rb fb b v0 (FD none 0 0) (FD none 0 0) ins [] [])∧Hid (Ps wx b q)∧Hid (aa [b] w wx)) (fun wx=>nN b wx)
  case atStart=>exact ⟨_,[],l,l.length,HR,Fm _,Fk (Fm _),by simp,I,J,HK⟩
  clear I J HK HR;obtain ⟨v0,ins,q,n,HR,bt,a9,c6,I,J,HK⟩:=hrel;obtain ⟨y,rfl⟩:∃ y:World,y=wr:=⟨_,rfl⟩
  have bq:=J.out.endT.pos;have bX:0<n:=by omega
  have a3:=Fk bX;have ca:=Fk bt;have cd:=Fk bq;have p0:y.cell? ⟨w.heap.size,0,none⟩=some (FE (some ⟨b,0,none⟩)):=I.out.pbk.cell 0;have lp:=I.out.pbk.lt;have lf:=I.out.fbk.lt;obtain ⟨us,br,bb,bv⟩:=I.out.i0;obtain ⟨A,cv,rfl,-⟩:=aq bb;have aA:=Fk bb;have cq:=Fk br;have cr:=Fk bv;have bk:=HK;have f0:y.cell? ⟨fb,0,none⟩=some (FD A ins.length cv):=I.out.fbk.cell 0;have HM:=Fk J.out.left;have HT:=kU [105,110] y J.out;clear bb br bv bX bt bq
  cases hs:bC [105,110] q with
  | false =>
   rw[hs] at HT;have av:=Fk HT;have bo:Hid (qr (ins,q)=R):=Fk (by rw[←HR.out,rq hs];rfl);clear HT hs;go_wp2_with fail
   refine av.out.mono ?_;rintro ev w3 ⟨rfl,rfl⟩;go_wp2;go_meet;exact ⟨_,ins,q,bo,a9,I,J,HK⟩
  | true =>
   rw[hs] at HT;have av:=Fk HT;have a1:=Fk hs;clear HT hs;by_cases ad:ins.length=16
   ·have HX:Hid (R= .error (4,(aS q).at_)):=Fk (by rw[←HR.out,lQ a1.out a3.out ad];rfl)
    have HF:=Fk (nX ins.length I.out.pbk J.out ad);clear ad;go_wp2_with fail
    refine av.out.mono ?_;rintro ev w3 ⟨rfl,rfl⟩;go_wp2_with fail
    refine HF.out.mono ?_;rintro ev w9 ⟨⟨gi,rfl,hb⟩,a0⟩;exact ⟨rfl,by rw[HX.out];exact ⟨gi,rfl,hb⟩,HK.out.trans a0.of_nil⟩
   have HF:=Fk (rx ins.length I.out.pbk J.out ad);have fS:y.cell? ⟨fb,0,none⟩=some (FD A ins.length cv)∧y.frozen? ⟨fb,0,none⟩=false:=⟨f0,I.out.fbk.frozen 0⟩;have a8:=Fk (show ins.length+1≤maxLen∧(ins.length+1)*48≤140737488355328 by simp only[maxLen];omega);have b8:Hid (fb∉[b]):=Fk (by have:=I.out.fbk.ty.ne J.out.ty (by decide);simpa using this);rcases Z:eE q with x|⟨x,r⟩
   ·have HX:Hid (R= .error x):=Fk (by rw[←HR.out,fL a1.out a3.out ad Z];rfl)
    have HC:Hid (∀ W,aa [] y W→Calls Tryz.prog 77 #[FE (some ⟨b,0,none⟩)] W fun e w'=>bS x e w'∧aa [b] W w'):=Fk (fun W z=>by
     have h:=qm W (J.out.keep z) (Ft a9.out ct.out);rw[Z] at h;exact h)
    clear Z ad;go_wp2_with fail
    refine av.out.mono ?_;rintro ev w3 ⟨rfl,rfl⟩;go_wp2_with fail
    refine HF.out.mono ?_;rintro ev w4 ⟨rfl,rfl⟩;go_wp2_with fail
    go_region_law (first|(refine step_append_lies _ (by rfl) _ _ _ (by rfl) w.heap.size 57 i0 _ 3 48 Tryz.underlying25 hi et eY d6 rfl (by decide) (FD A ins.length cv) ins.length us.flatten (by rfl) ((cU aA.out V.undrew (fun z hz=>⟨111,by rw[List.mem_singleton.1 hz];exact J.out.ty,by decide⟩)).alloc _) ⟨w6.heap.size,0,none⟩ 1 1 ([FH FI 0,FC (bs []),FD none 0 0]) (by rfl) rfl (Fx (heap_alloc_new _ _)) (by simp[Value.oneCell']) (by decide) a8.out.1 a8.out.2 (by have:=bk.out.size;have:=V.size;have h9:y.drew.heap.size=y.heap.size:=rfl;simp;omega) _ rfl ?_;intro gw cap w7 be M b9 cg;obtain ⟨dr,d1⟩:=aC M (aB ⟨ba,b0⟩ _) (fun e=>(aL aA.out fb e).ne I.out.fbk.ty (by decide) rfl))|(go_simp;go_at_call 77;refine (HC.out _ (Fz [] y).drew).mono ?_;rintro e w6 ⟨⟨gi,rfl,hb⟩,V⟩;obtain ⟨ba,b0⟩:=aH V fS b8.out;have d4:fb<w6.heap.size:=Fq w6 ⟨fb,0,none⟩ ba;dsimp only;(go_loud (refine cS ‹∀ (a:Act) (w:World),wpAny _ _ _ _ _ _ a w→_› (some 17) (.agg #[FH FI 0,FC (bs []),FD none 0 0]) ⟨rfl,by rw[HX.out];exact ⟨gi,rfl,hb⟩,HK.out.trans V.undrew⟩ (fun hF=>?_)))))
    all_goals exact hF.out.elim
   have bo:Hid (cR [105,110] eE (n-1) r (ins++[x]) >>= qr=R):=Fk (by rw[←HR.out,ru a1.out a3.out ad Z]);have HC:Hid (∀ W,aa [] y W→Calls Tryz.prog 77 #[FE (some ⟨b,0,none⟩)] W fun e w'=>(∃ v,e=FF (.agg #[FH FI x.at_,FC (bs x.name),v])∧w'.ownsRow y.heap.size 64 2 v x.cols.length (ai x.cols)∧Ps w' b r)∧aa [b] W w'):=Fk (fun W z=>by
    have h:=qm W (J.out.keep z) (Ft a9.out ct.out);rw[Z] at h;refine h.mono (fun e w' h=>⟨?_,h.2⟩);have h2:=h.1;simp only[C6] at h2;obtain ⟨v,h3,h4,h5⟩:=h2;exact ⟨v,h3,cG h4 z.size,h5⟩)
   have bc:=Fk (zj cd.out Z);have b7:Hid ((ins++[x]).length≤16):=Fk (by simp;omega);clear Z ad;go_wp2_with fail
   refine av.out.mono ?_;rintro ev w3 ⟨rfl,rfl⟩;go_wp2_with fail
   refine HF.out.mono ?_;rintro ev w4 ⟨rfl,rfl⟩;go_wp2_with fail
   go_region_law (first|(refine step_append_lies _ (by rfl) _ _ _ (by rfl) w.heap.size 57 i0 _ 3 48 Tryz.underlying25 hi et eY d6 rfl (by decide) (FD A ins.length cv) ins.length us.flatten (by rfl) ((cU aA.out V.undrew (fun z hz=>⟨111,by rw[List.mem_singleton.1 hz];exact J.out.ty,by decide⟩)).alloc _) ⟨w6.heap.size,0,none⟩ 1 1 ([FH FI x.at_,FC (bs x.name),FD Av x.cols.length e5]) (by rfl) rfl (Fx (heap_alloc_new _ _)) (by simp[Value.oneCell']) (by decide) a8.out.1 a8.out.2 (by have:=bk.out.size;have:=V.size;have h9:y.drew.heap.size=y.heap.size:=rfl;simp;omega) _ rfl ?_;intro gw cap w7 be M b9 cg;obtain ⟨dr,d1⟩:=aC M (aB ⟨ba,b0⟩ _) (fun e=>(aL aA.out fb e).ne I.out.fbk.ty (by decide) rfl))|(go_simp;go_at_call 77;refine (HC.out _ (Fz [] y).drew).mono ?_;rintro e w6 ⟨⟨v,rfl,d8,dz⟩,V⟩;obtain ⟨Av,e5,rfl,-⟩:=aq d8;obtain ⟨ba,b0⟩:=aH V fS b8.out;have d4:fb<w6.heap.size:=Fq w6 ⟨fb,0,none⟩ ba))
   all_goals
    have bj:=I.out.ps J.out V.undrew;have a7:=(cU aA.out V.undrew (fun z hz=>⟨111,by rw[List.mem_singleton.1 hz];exact J.out.ty,by decide⟩));have bz:=fun j h1 h2=>jg.far (S:=qq) ⟨V.undrew,fun z hz=>⟨111,by rw[List.mem_singleton.1 hz];exact J.out.ty,by decide⟩⟩ (by decide) _ _ (cr.out j h1 h2)
    have cj:=aL a7;have ch:=HK.out.trans V.undrew;have d3:=Fk (dk.app0 bj cq.out a7 bz ⟨_,rfl,cG d8 bk.out.size⟩ M be);have ce:=Fk (E4 (k:=0) (u:=FD (some ⟨gw,0,none⟩) (ins.length+1) cap) bj dz M cj (by decide) (by decide));have d2:=Fk (dk.keeps7 (k:=0) (u:=FD (some ⟨gw,0,none⟩) (ins.length+1) cap) bj ch M (fun z hz=>(aA.out.lt z hz).1));clear bj a7 bz cj ch;go_wp2;go_roundw
    case rel=>exact ⟨_,ins++[x],r,n-1,bo,by have:=bc.out;have:=ca.out;omega,Fk (by have:=bc.out;have:=a9.out;omega),b7.out,d3,ce,d2⟩
    case measure=>rw[ce.out.left,HM.out];exact bc.out
 clear I J HK HR;obtain ⟨v0,ins,q1,HR,d9,I,J,HK⟩:=hcut;obtain ⟨y1,rfl⟩:∃ y:World,y=wc:=⟨_,rfl⟩
 go_upto_block 2 with (fail)
 go_cut [] (fun wx=>∃ (v1:Value) (D:List Jb) (q:List Tk),Hid (nW ins (D,q)=R)∧Hid (q.length≤l.length)∧Hid (dk wx w.heap.size w.heap.size rb fb b v0 v1 (FD none 0 0) ins D [])∧Hid (Ps wx b q)∧Hid (aa [b] w wx))
 case first =>
  go_wp2_with fail
  go_loopw [] (fun wx=>∃ (v1:Value) (D:List Jb) (q:List Tk) (n:Nat),Hid (cR [106,111,98] kT n q D >>= nW ins=R)∧q.length≤n∧Hid (q.length≤l.length)∧D.length≤16∧Hid (dk wx w.heap.size w.heap.size rb fb b v0 v1 (FD none 0 0) ins D [])∧Hid (Ps wx b q)∧Hid (aa [b] w wx)) (fun wx=>nN b wx)
  case atStart=>exact ⟨_,[],q1,q1.length,HR,Fm _,d9,by simp,I,J,HK⟩
  clear I J HK HR;obtain ⟨v1,D,q,n,HR,bt,a9,c6,I,J,HK⟩:=hrel;obtain ⟨y,rfl⟩:∃ y:World,y=wr:=⟨_,rfl⟩
  have bq:=J.out.endT.pos;have bX:0<n:=by omega
  have a3:=Fk bX;have ca:=Fk bt;have cd:=Fk bq;have p0:y.cell? ⟨w.heap.size,0,none⟩=some (FE (some ⟨b,0,none⟩)):=I.out.pbk.cell 0;have lp:=I.out.pbk.lt;have lf:=I.out.fbk.lt;obtain ⟨us,br,bb,bv⟩:=I.out.i1;obtain ⟨A,cv,rfl,-⟩:=aq bb;have aA:=Fk bb;have cq:=Fk br;have cr:=Fk bv;have bk:=HK;have f0:y.cell? ⟨fb,1,none⟩=some (FD A D.length cv):=I.out.fbk.cell 1;have HM:=Fk J.out.left;have HT:=kU [106,111,98] y J.out;clear bb br bv bX bt bq
  cases hs:bC [106,111,98] q with
  | false =>
   rw[hs] at HT;have av:=Fk HT;have bo:Hid (nW ins (D,q)=R):=Fk (by rw[←HR.out,rq hs];rfl);clear HT hs;go_wp2_with fail
   refine av.out.mono ?_;rintro ev w3 ⟨rfl,rfl⟩;go_wp2;go_meet;exact ⟨_,D,q,bo,a9,I,J,HK⟩
  | true =>
   rw[hs] at HT;have av:=Fk HT;have a1:=Fk hs;clear HT hs;by_cases ad:D.length=16
   ·have HX:Hid (R= .error (4,(aS q).at_)):=Fk (by rw[←HR.out,lQ a1.out a3.out ad];rfl)
    have HF:=Fk (nX D.length I.out.pbk J.out ad);clear ad;go_wp2_with fail
    refine av.out.mono ?_;rintro ev w3 ⟨rfl,rfl⟩;go_wp2_with fail
    refine HF.out.mono ?_;rintro ev w9 ⟨⟨gi,rfl,hb⟩,a0⟩;exact ⟨rfl,by rw[HX.out];exact ⟨gi,rfl,hb⟩,HK.out.trans a0.of_nil⟩
   have HF:=Fk (rx D.length I.out.pbk J.out ad);have fS:y.cell? ⟨fb,1,none⟩=some (FD A D.length cv)∧y.frozen? ⟨fb,1,none⟩=false:=⟨f0,I.out.fbk.frozen 1⟩;have a8:=Fk (show D.length+1≤maxLen∧(D.length+1)*208≤140737488355328 by simp only[maxLen];omega);have b8:Hid (fb∉[b]):=Fk (by have:=I.out.fbk.ty.ne J.out.ty (by decide);simpa using this);rcases Z:kT q with x|⟨x,r⟩
   ·have HX:Hid (R= .error x):=Fk (by rw[←HR.out,fL a1.out a3.out ad Z];rfl)
    have HC:Hid (∀ W,aa [] y W→Calls Tryz.prog 78 #[FE (some ⟨b,0,none⟩)] W fun e w'=>bS x e w'∧aa [b] W w'):=Fk (fun W z=>by
     have h:=wB W ((HE.out.one cu HK.out).quiet z) cu (J.out.keep z) (Ft a9.out ct.out);rw[Z] at h;exact h)
    clear Z ad;go_wp2_with fail
    refine av.out.mono ?_;rintro ev w3 ⟨rfl,rfl⟩;go_wp2_with fail
    refine HF.out.mono ?_;rintro ev w4 ⟨rfl,rfl⟩;go_wp2_with fail
    go_region_law (first|(refine step_append_lies _ (by rfl) _ _ _ (by rfl) w.heap.size 50 i1 _ 15 208 Tryz.underlying26 hj eB el d5 rfl (by decide) (FD A D.length cv) D.length us.flatten (by rfl) ((cU aA.out V.undrew (fun z hz=>⟨111,by rw[List.mem_singleton.1 hz];exact J.out.ty,by decide⟩)).alloc _) ⟨w6.heap.size,0,none⟩ 1 1 ([FH FI 0,FH FI 0,FD none 0 0,FD none 0 0,FD none 0 0,FC (bs []),FC (bs []),FH FI 0,FH FI 0,FC (bs []),FC (bs []),FH FI 0,FH FI 0,FC (bs []),FH FI 0]) (by rfl) rfl (Fx (heap_alloc_new _ _)) (by simp[Value.oneCell']) (by decide) a8.out.1 a8.out.2 (by have:=bk.out.size;have:=V.size;have h9:y.drew.heap.size=y.heap.size:=rfl;simp;omega) _ rfl ?_;intro gw cap w7 be M b9 cg;obtain ⟨dr,d1⟩:=aC M (aB ⟨ba,b0⟩ _) (fun e=>(aL aA.out fb e).ne I.out.fbk.ty (by decide) rfl))|(go_simp;go_at_call 78;refine (HC.out _ (Fz [] y).drew).mono ?_;rintro e w6 ⟨⟨gi,rfl,hb⟩,V⟩;obtain ⟨ba,b0⟩:=aH V fS b8.out;have d4:fb<w6.heap.size:=Fq w6 ⟨fb,1,none⟩ ba;dsimp only;(go_loud (refine cS ‹∀ (a:Act) (w:World),wpAny _ _ _ _ _ _ a w→_› (some 31) (.agg #[FH FI 0,FH FI 0,FD none 0 0,FD none 0 0,FD none 0 0,FC (bs []),FC (bs []),FH FI 0,FH FI 0,FC (bs []),FC (bs []),FH FI 0,FH FI 0,FC (bs []),FH FI 0]) ⟨rfl,by rw[HX.out];exact ⟨gi,rfl,hb⟩,HK.out.trans V.undrew⟩ (fun hF=>?_)))))
    all_goals exact hF.out.elim
   have bo:Hid (cR [106,111,98] kT (n-1) r (D++[x]) >>= nW ins=R):=Fk (by rw[←HR.out,ru a1.out a3.out ad Z]);have HC:Hid (∀ W,aa [] y W→Calls Tryz.prog 78 #[FE (some ⟨b,0,none⟩)] W fun e w'=>(∃ w2 w3 w4,e=FF (.agg #[FH FI x.at_,FH FI x.code,w2,w3,w4,FC (bs x.op),FC (bs x.left.col),FH FI x.left.val.kind,FH FI x.left.val.num,FC (bs x.left.val.word),FC (bs x.right.col),FH FI x.right.val.kind,FH FI x.right.val.num,FC (bs x.right.val.word),FH FI x.retry])∧zU w' y.heap.size x w2 w3 w4∧Ps w' b r)∧aa [b] W w'):=Fk (fun W z=>by
    have h:=wB W ((HE.out.one cu HK.out).quiet z) cu (J.out.keep z) (Ft a9.out ct.out);rw[Z] at h;refine h.mono (fun e w' h=>⟨?_,h.2⟩);have h2:=h.1;simp only[zW] at h2;obtain ⟨v2,v3,v4,h3,h4,h5⟩:=h2;exact ⟨v2,v3,v4,h3,⟨cG h4.o2 z.size,cG h4.o3 z.size,cG h4.o4 z.size⟩,h5⟩)
   have bc:=Fk (CC cd.out Z);have b7:Hid ((D++[x]).length≤16):=Fk (by simp;omega);clear Z ad;go_wp2_with fail
   refine av.out.mono ?_;rintro ev w3 ⟨rfl,rfl⟩;go_wp2_with fail
   refine HF.out.mono ?_;rintro ev w4 ⟨rfl,rfl⟩;go_wp2_with fail
   go_region_law (first|(refine step_append_lies _ (by rfl) _ _ _ (by rfl) w.heap.size 50 i1 _ 15 208 Tryz.underlying26 hj eB el d5 rfl (by decide) (FD A D.length cv) D.length us.flatten (by rfl) ((cU aA.out V.undrew (fun z hz=>⟨111,by rw[List.mem_singleton.1 hz];exact J.out.ty,by decide⟩)).alloc _) ⟨w6.heap.size,0,none⟩ 1 1 ([FH FI x.at_,FH FI x.code,FD A2 x.outs.length c2,FD A3 x.ins.length c3,FD A4 x.cols.length c4,FC (bs x.op),FC (bs x.left.col),FH FI x.left.val.kind,FH FI x.left.val.num,FC (bs x.left.val.word),FC (bs x.right.col),FH FI x.right.val.kind,FH FI x.right.val.num,FC (bs x.right.val.word),FH FI x.retry]) (by rfl) rfl (Fx (heap_alloc_new _ _)) (by simp[Value.oneCell']) (by decide) a8.out.1 a8.out.2 (by have:=bk.out.size;have:=V.size;have h9:y.drew.heap.size=y.heap.size:=rfl;simp;omega) _ rfl ?_;intro gw cap w7 be M b9 cg;obtain ⟨dr,d1⟩:=aC M (aB ⟨ba,b0⟩ _) (fun e=>(aL aA.out fb e).ne I.out.fbk.ty (by decide) rfl))|(go_simp;go_at_call 78;refine (HC.out _ (Fz [] y).drew).mono ?_;rintro e w6 ⟨⟨w2,w3,w4,rfl,a6,dz⟩,V⟩;obtain ⟨A2,c2,rfl,-⟩:=aq a6.o2;obtain ⟨A3,c3,rfl,-⟩:=aq a6.o3;obtain ⟨A4,c4,rfl,-⟩:=aq a6.o4;obtain ⟨ba,b0⟩:=aH V fS b8.out;have d4:fb<w6.heap.size:=Fq w6 ⟨fb,1,none⟩ ba))
   all_goals
    have bj:=I.out.ps J.out V.undrew;have a7:=(cU aA.out V.undrew (fun z hz=>⟨111,by rw[List.mem_singleton.1 hz];exact J.out.ty,by decide⟩));have bz:=fun j h1 h2=>jh.far (S:=qq) ⟨V.undrew,fun z hz=>⟨111,by rw[List.mem_singleton.1 hz];exact J.out.ty,by decide⟩⟩ (by decide) _ _ (cr.out j h1 h2)
    have cj:=aL a7;have ch:=HK.out.trans V.undrew;have d3:=Fk (dk.app1 bj cq.out a7 bz ⟨_,_,_,rfl,⟨cG a6.o2 bk.out.size,cG a6.o3 bk.out.size,cG a6.o4 bk.out.size⟩⟩ M be);have ce:=Fk (E4 (k:=1) (u:=FD (some ⟨gw,0,none⟩) (D.length+1) cap) bj dz M cj (by decide) (by decide));have d2:=Fk (dk.keeps7 (k:=1) (u:=FD (some ⟨gw,0,none⟩) (D.length+1) cap) bj ch M (fun z hz=>(aA.out.lt z hz).1));clear bj a7 bz cj ch;go_wp2;go_roundw
    case rel=>exact ⟨_,D++[x],r,n-1,bo,by have:=bc.out;have:=ca.out;omega,Fk (by have:=bc.out;have:=a9.out;omega),b7.out,d3,ce,d2⟩
    case measure=>rw[ce.out.left,HM.out];exact bc.out
 clear I J HK HR;obtain ⟨v1,D,q2,HR,ex,I,J,HK⟩:=hcut;obtain ⟨y2,rfl⟩:∃ y:World,y=wc:=⟨_,rfl⟩
 go_upto_block 4 with (fail)
 go_cut [] (fun wx=>∃ (v2:Value) (outs:List Pb) (q:List Tk),Hid (nV ins D (outs,q)=R)∧Hid (dk wx w.heap.size w.heap.size rb fb b v0 v1 v2 ins D outs)∧Hid (Ps wx b q)∧Hid (aa [b] w wx))
 case first =>
  go_wp2_with fail
  go_loopw [] (fun wx=>∃ (v2:Value) (outs:List Pb) (q:List Tk) (n:Nat),Hid (cR [111,117,116] ng n q outs >>= nV ins D=R)∧q.length≤n∧Hid (q.length≤l.length)∧outs.length≤16∧Hid (dk wx w.heap.size w.heap.size rb fb b v0 v1 v2 ins D outs)∧Hid (Ps wx b q)∧Hid (aa [b] w wx)) (fun wx=>nN b wx)
  case atStart=>exact ⟨_,[],q2,q2.length,HR,Fm _,ex,by simp,I,J,HK⟩
  clear I J HK HR;obtain ⟨v2,outs,q,n,HR,bt,a9,c6,I,J,HK⟩:=hrel;obtain ⟨y,rfl⟩:∃ y:World,y=wr:=⟨_,rfl⟩
  have bq:=J.out.endT.pos;have bX:0<n:=by omega
  have a3:=Fk bX;have ca:=Fk bt;have cd:=Fk bq;have p0:y.cell? ⟨w.heap.size,0,none⟩=some (FE (some ⟨b,0,none⟩)):=I.out.pbk.cell 0;have lp:=I.out.pbk.lt;have lf:=I.out.fbk.lt;obtain ⟨us,br,bb,bv⟩:=I.out.i2;obtain ⟨A,cv,rfl,-⟩:=aq bb;have aA:=Fk bb;have cq:=Fk br;have cr:=Fk bv;have f0:y.cell? ⟨fb,2,none⟩=some (FD A outs.length cv):=I.out.fbk.cell 2;have HM:=Fk J.out.left;have HT:=kU [111,117,116] y J.out;clear bb br bv bX bt bq
  cases hs:bC [111,117,116] q with
  | false =>
   rw[hs] at HT;have av:=Fk HT;have bo:Hid (nV ins D (outs,q)=R):=Fk (by rw[←HR.out,rq hs];rfl);clear HT hs;go_wp2_with fail
   refine av.out.mono ?_;rintro ev w3 ⟨rfl,rfl⟩;go_wp2;go_meet;exact ⟨_,outs,q,bo,I,J,HK⟩
  | true =>
   rw[hs] at HT;have av:=Fk HT;have a1:=Fk hs;clear HT hs;by_cases ad:outs.length=16
   ·have HX:Hid (R= .error (4,(aS q).at_)):=Fk (by rw[←HR.out,lQ a1.out a3.out ad];rfl)
    have HF:=Fk (nX outs.length I.out.pbk J.out ad);clear ad;go_wp2_with fail
    refine av.out.mono ?_;rintro ev w3 ⟨rfl,rfl⟩;go_wp2_with fail
    refine HF.out.mono ?_;rintro ev w9 ⟨⟨gi,rfl,hb⟩,a0⟩;exact ⟨rfl,by rw[HX.out];exact ⟨gi,rfl,hb⟩,HK.out.trans a0.of_nil⟩
   have HF:=Fk (rx outs.length I.out.pbk J.out ad);have b4:=Fk ad;have a8:=Fk (show outs.length+1≤maxLen∧(outs.length+1)*40≤140737488355328 by simp only[maxLen];omega);obtain ⟨bm,ds⟩:∃ a,(aS q).at_=a:=⟨_,rfl⟩
   obtain ⟨O,hO⟩:∃ O,ng q=O:=⟨_,rfl⟩
   have b5:=Fk hO;unfold ng at hO;rw[ds] at hO;have HO:=Fk hO;obtain ⟨g,o,c,c0,z0,lb,lg,-,hn,hc,e2,k0,k1,k2,-⟩:=J.out.open';rw[ds] at k2;have e7:(0:Int)<(q.length:Int):=by omega
   clear ad hO ds;go_wp2_with fail
   refine av.out.mono ?_;rintro ev w3 ⟨rfl,rfl⟩;go_wp2_with fail
   refine HF.out.mono ?_;rintro ev w4 ⟨rfl,rfl⟩;go_upto_region 12 with (fail)
   have cx:=FA y 60 #[FH FI bm,FC ⟨#[]⟩,FC ⟨#[]⟩];have cz:=(Fz [] y).alloc (FG #[FH FI bm,FC ⟨#[]⟩,FC ⟨#[]⟩] 60);have dB:=J.out.keep cz;obtain ⟨x0,c5⟩:∃ x,y.alloc (FG #[FH FI bm,FC ⟨#[]⟩,FC ⟨#[]⟩] 60)=x:=⟨_,rfl⟩
   rw[c5] at cx cz dB ⊢;have b6:Hid (y.heap.size∉[b]):=Fk (by have:=J.out.lt;simp;omega);have dv:Hid (y.heap.size≤y.heap.size):=Fk (Fm _);obtain ⟨xb,d7⟩:∃ x,y.heap.size=x:=⟨_,rfl⟩
   have dv:Hid (y.heap.size≤xb):=Fk (by omega);rw[d7] at cx b6 ⊢;have N:=Fk cx;have U:=Fk dB;have H:Hid (aa [b] y x0):=Fk cz.of_nil;clear cx cz dB c5 d7 c0 z0 lb lg hn hc e2 k0 k1 k2 e7 p0 lp lf f0 av HF;have p0:x0.cell? ⟨w.heap.size,0,none⟩=some (FE (some ⟨b,0,none⟩)):=(I.out.ps J.out H.out).pbk.cell 0;have lp:=(I.out.ps J.out H.out).pbk.lt;rcases Z:aR [111,117,116] q with x|r1
   ·have HX:Hid (R= .error x):=Fk (by
     have ho:=HO.out;rw[Z,au] at ho;rw[←HR.out,fL a1.out a3.out b4.out (b5.out.trans ho.symm)];rfl)
    have HC:=Fk (cO Z x0 U.out);clear Z;go_wp2_with fail
    refine HC.out.mono ?_;rintro ev w9 ⟨⟨gi,rfl,hb⟩,a0⟩;exact ⟨rfl,by rw[HX.out];exact ⟨gi,rfl,hb⟩,(HK.out.trans H.out).trans a0⟩
   have ho:=HO.out;rw[Z,ar] at ho;try dsimp only at ho
   clear HO;have HO:=Fk ho;clear ho;have HC:=Fk (aT Z x0 U.out);clear Z;go_wp2_with fail
   refine HC.out.mono ?_;rintro ev x1 ⟨rfl,hp,hk⟩;have HXB':=Fk (N.out.keep hk b6.out);have HKX':=Fk (H.out.trans hk);clear U H N HC p0 lp;have U:=Fk hp;have N:=HXB';have H:=HKX';clear hp hk HXB' HKX';have p0:x1.cell? ⟨w.heap.size,0,none⟩=some (FE (some ⟨b,0,none⟩)):=(I.out.ps J.out H.out).pbk.cell 0;have lp:=(I.out.ps J.out H.out).pbk.lt;rcases Z:aQ r1 with x|⟨a2,r2⟩
   ·have HX:Hid (R= .error x):=Fk (by
     have ho:=HO.out;rw[Z,au] at ho;rw[←HR.out,fL a1.out a3.out b4.out (b5.out.trans ho.symm)];rfl)
    have HC:=Fk (bN Z x1 U.out);clear Z;go_wp2_with fail
    refine HC.out.mono ?_;rintro ev w9 ⟨⟨gi,rfl,hb⟩,a0⟩;exact ⟨rfl,by rw[HX.out];exact ⟨gi,rfl,hb⟩,(HK.out.trans H.out).trans a0⟩
   have ho:=HO.out;rw[Z,ar] at ho;try dsimp only at ho
   clear HO;have HO:=Fk ho;clear ho;have HC:=Fk (bi Z x1 U.out);clear Z;go_wp2_with fail
   refine HC.out.mono ?_;rintro ev x2 ⟨rfl,hp,hk⟩;have HXB':=Fk (N.out.keep hk b6.out);have HKX':=Fk (H.out.trans hk);clear U H N HC p0 lp;have U:=Fk hp;have N:=HXB';have H:=HKX';clear hp hk HXB' HKX';have p0:x2.cell? ⟨w.heap.size,0,none⟩=some (FE (some ⟨b,0,none⟩)):=(I.out.ps J.out H.out).pbk.cell 0;have lp:=(I.out.ps J.out H.out).pbk.lt;have xf:=N.out.frozen 1;have xc:x2.cell? ⟨xb,1,none⟩=some (FC ⟨#[]⟩):=N.out.cell 1;have lx:=N.out.lt;have ci:aa [xb] x2 (x2.setCell ⟨xb,1,none⟩ (FC (bs a2))):=(Fz _ _).setCell (.inl (by simp)) _;have HXB':=Fk (kv (u:=FC (bs a2)) N.out);have HPX':=Fk (U.out.far ci (fun z hz=>⟨60,by rw[List.mem_singleton.1 hz];exact N.out.ty,by decide,by decide⟩));have HKX':Hid (aa [b] y (x2.setCell ⟨xb,1,none⟩ (FC (bs a2)))):=Fk (H.out.setCell (.inr dv.out) _);clear ci;go_upto_region 14 with (fail)
   obtain ⟨x3,hy⟩:∃ x,(x2.setCell ⟨xb,1,none⟩ (FC (bs a2)))=x:=⟨_,rfl⟩
   rw[hy] at HXB' HPX' HKX' ⊢;clear hy xf xc lx N U H p0 lp;have N:=HXB';have U:=HPX';have H:=HKX';clear HXB' HPX' HKX';have p0:x3.cell? ⟨w.heap.size,0,none⟩=some (FE (some ⟨b,0,none⟩)):=(I.out.ps J.out H.out).pbk.cell 0;have lp:=(I.out.ps J.out H.out).pbk.lt;rcases Z:aR [61] r2 with x|r4
   ·have HX:Hid (R= .error x):=Fk (by
     have ho:=HO.out;rw[Z,au] at ho;rw[←HR.out,fL a1.out a3.out b4.out (b5.out.trans ho.symm)];rfl)
    have HC:=Fk (cO Z x3 U.out);clear Z;go_wp2_with fail
    refine HC.out.mono ?_;rintro ev w9 ⟨⟨gi,rfl,hb⟩,a0⟩;exact ⟨rfl,by rw[HX.out];exact ⟨gi,rfl,hb⟩,(HK.out.trans H.out).trans a0⟩
   have ho:=HO.out;rw[Z,ar] at ho;try dsimp only at ho
   clear HO;have HO:=Fk ho;clear ho;have HC:=Fk (aT Z x3 U.out);clear Z;go_wp2_with fail
   refine HC.out.mono ?_;rintro ev x4 ⟨rfl,hp,hk⟩;have HXB':=Fk (N.out.keep hk b6.out);have HKX':=Fk (H.out.trans hk);clear U H N HC p0 lp;have U:=Fk hp;have N:=HXB';have H:=HKX';clear hp hk HXB' HKX';have p0:x4.cell? ⟨w.heap.size,0,none⟩=some (FE (some ⟨b,0,none⟩)):=(I.out.ps J.out H.out).pbk.cell 0;have lp:=(I.out.ps J.out H.out).pbk.lt;rcases Z:aQ r4 with x|⟨a5,r5⟩
   ·have HX:Hid (R= .error x):=Fk (by
     have ho:=HO.out;rw[Z,au] at ho;rw[←HR.out,fL a1.out a3.out b4.out (b5.out.trans ho.symm)];rfl)
    have HC:=Fk (bN Z x4 U.out);clear Z;go_wp2_with fail
    refine HC.out.mono ?_;rintro ev w9 ⟨⟨gi,rfl,hb⟩,a0⟩;exact ⟨rfl,by rw[HX.out];exact ⟨gi,rfl,hb⟩,(HK.out.trans H.out).trans a0⟩
   have ho:=HO.out;rw[Z,ar] at ho;try dsimp only at ho
   clear HO;have HO:=Fk ho;clear ho;have HC:=Fk (bi Z x4 U.out);clear Z;go_wp2_with fail
   refine HC.out.mono ?_;rintro ev x5 ⟨rfl,hp,hk⟩;have HXB':=Fk (N.out.keep hk b6.out);have HKX':=Fk (H.out.trans hk);clear U H N HC p0 lp;have U:=Fk hp;have N:=HXB';have H:=HKX';clear hp hk HXB' HKX';have p0:x5.cell? ⟨w.heap.size,0,none⟩=some (FE (some ⟨b,0,none⟩)):=(I.out.ps J.out H.out).pbk.cell 0;have lp:=(I.out.ps J.out H.out).pbk.lt;have xf:=N.out.frozen 2;have xc:x5.cell? ⟨xb,2,none⟩=some (FC ⟨#[]⟩):=N.out.cell 2;have lx:=N.out.lt;have ci:aa [xb] x5 (x5.setCell ⟨xb,2,none⟩ (FC (bs a5))):=(Fz _ _).setCell (.inl (by simp)) _;have HXB':=Fk (ky (u:=FC (bs a5)) N.out);have HPX':=Fk (U.out.far ci (fun z hz=>⟨60,by rw[List.mem_singleton.1 hz];exact N.out.ty,by decide,by decide⟩));have HKX':Hid (aa [b] y (x5.setCell ⟨xb,2,none⟩ (FC (bs a5)))):=Fk (H.out.setCell (.inr dv.out) _);clear ci;go_upto_region 16 with (fail)
   obtain ⟨x6,hy⟩:∃ x,(x5.setCell ⟨xb,2,none⟩ (FC (bs a5)))=x:=⟨_,rfl⟩
   rw[hy] at HXB' HPX' HKX' ⊢;clear hy xf xc lx N U H p0 lp;have N:=HXB';have U:=HPX';have H:=HKX';clear HXB' HPX' HKX';have p0:x6.cell? ⟨w.heap.size,0,none⟩=some (FE (some ⟨b,0,none⟩)):=(I.out.ps J.out H.out).pbk.cell 0;have lp:=(I.out.ps J.out H.out).pbk.lt;rcases Z:aR [59] r5 with x|r7
   ·have HX:Hid (R= .error x):=Fk (by
     have ho:=HO.out;rw[Z,au] at ho;rw[←HR.out,fL a1.out a3.out b4.out (b5.out.trans ho.symm)];rfl)
    have HC:=Fk (cO Z x6 U.out);clear Z;go_wp2_with fail
    refine HC.out.mono ?_;rintro ev w9 ⟨⟨gi,rfl,hb⟩,a0⟩;exact ⟨rfl,by rw[HX.out];exact ⟨gi,rfl,hb⟩,(HK.out.trans H.out).trans a0⟩
   have ho:=HO.out;rw[Z,ar] at ho;try dsimp only at ho
   clear HO;have HO:=Fk ho;clear ho;have HC:=Fk (aT Z x6 U.out);clear Z;go_wp2_with fail
   refine HC.out.mono ?_;rintro ev x7 ⟨rfl,hp,hk⟩;have HXB':=Fk (N.out.keep hk b6.out);have HKX':=Fk (H.out.trans hk);clear U H N HC p0 lp;have U:=Fk hp;have N:=HXB';have H:=HKX';clear hp hk HXB' HKX';have p0:x7.cell? ⟨w.heap.size,0,none⟩=some (FE (some ⟨b,0,none⟩)):=(I.out.ps J.out H.out).pbk.cell 0;have lp:=(I.out.ps J.out H.out).pbk.lt;have HX:Hid (cR [111,117,116] ng (n-1) r7 (outs++[⟨bm,a2,a5⟩]) >>= nV ins D=R):=Fk (by
    rw[←HR.out,ru a1.out a3.out b4.out (b5.out.trans HO.out.symm)])
   have bc:=Fk (CE cd.out (b5.out.trans HO.out.symm));have b7:Hid ((outs++[⟨bm,a2,a5⟩]:List Pb).length≤16):=Fk (by have:=b4.out;simp;omega);have bZ:=Fk (I.out.ps J.out H.out);have fS:x7.cell? ⟨fb,2,none⟩=some (FD A outs.length cv)∧x7.frozen? ⟨fb,2,none⟩=false:=⟨bZ.out.fbk.cell 2,bZ.out.fbk.frozen 2⟩;obtain ⟨fc,ff⟩:=fS;have c0':x7.cell? ⟨xb,0,none⟩=some (FH FI bm):=N.out.cell 0;have c1':x7.cell? ⟨xb,1,none⟩=some (FC (bs a2)):=N.out.cell 1;have c2':x7.cell? ⟨xb,2,none⟩=some (FC (bs a5)):=N.out.cell 2;have lx:=N.out.lt;have lf:=bZ.out.fbk.lt;have a7:=Fk (cU aA.out H.out (fun z hz=>⟨111,by rw[List.mem_singleton.1 hz];exact J.out.ty,by decide⟩));have e0:=Fk (show w.heap.size≤x7.heap.size+1 from Nat.le_succ_of_le (HK.out.trans H.out).size);clear HO;go_wp2_with (at_builtin;refine wpList_append_lies _ rfl _ _ 27 rfl _ 60 i2 _ 3 40 Tryz.underlying27 hp e8 e6 e9 rfl (by decide) _ outs.length us.flatten rfl (a7.out.alloc _) ⟨x7.heap.size,0,none⟩ 1 1 [FH FI bm,FC (bs a2),FC (bs a5)] rfl rfl (Fx (heap_alloc_new _ _)) (by simp[Value.oneCell']) (by decide) a8.out.1 a8.out.2 (by simp;exact e0.out) _ rfl ?_)
   intro gw c9 w8 cm a4 es eX;obtain ⟨e4,f5⟩:=aC a4 (aB ⟨fc,ff⟩ _) (fun e=>(aL a7.out fb e).ne bZ.out.fbk.ty (by decide) rfl);have fz:fb<w8.heap.size:=Fq w8 ⟨fb,2,none⟩ e4;have ez:=aL a7.out;have fr:=Fk (dk.app2 (x:=⟨bm,a2,a5⟩) bZ.out cq.out a7.out cr.out rfl a4 cm);have en:=Fk (E4 (k:=2) (u:=FD (some ⟨gw,0,none⟩) (outs.length+1) c9) bZ.out U.out a4 ez (by decide) (by decide));have e3:=Fk (dk.keeps7 (k:=2) (u:=FD (some ⟨gw,0,none⟩) (outs.length+1) c9) bZ.out (HK.out.trans H.out) a4 (fun z hz=>(aA.out.lt z hz).1));clear ez cm a4 es eX fc ff c0' c1' c2';go_wp2;go_roundw
   case rel=>exact ⟨_,outs++[⟨bm,a2,a5⟩],r7,n-1,HX,by have:=bc.out;have:=ca.out;omega,Fk (by have:=bc.out;have:=a9.out;omega),b7.out,fr,en,e3⟩
   case measure=>rw[en.out.left,HM.out];exact bc.out
 clear I J HK HR;obtain ⟨v2,outs,q3,HR,I,J,HK⟩:=hcut;obtain ⟨y,rfl⟩:∃ y:World,y=wc:=⟨_,rfl⟩
 have HX:Hid (R= .ok (⟨ins,D,outs⟩,q3)):=Fk HR.out.symm;clear HR;have i0':=I.out.i0;have i1':=I.out.i1;have i2':=I.out.i2;obtain ⟨f6,_,c7,_⟩:=i0';obtain ⟨f3,_,c8,_⟩:=i1';obtain ⟨f4,_,cD,_⟩:=i2';obtain ⟨A0,c0,rfl,-⟩:=aq c7;obtain ⟨A1,c1,rfl,-⟩:=aq c8;obtain ⟨A2,c2,rfl,-⟩:=aq cD;have f0:y.cell? ⟨fb,0,none⟩=some (FD A0 ins.length c0):=I.out.fbk.cell 0;have f1:y.cell? ⟨fb,1,none⟩=some (FD A1 D.length c1):=I.out.fbk.cell 1;have f2:y.cell? ⟨fb,2,none⟩=some (FD A2 outs.length c2):=I.out.fbk.cell 2;have g0:y.cell? ⟨rb,0,none⟩=some (FD none 0 0):=I.out.rbk.cell 0;have g1:y.cell? ⟨rb,1,none⟩=some (FD none 0 0):=I.out.rbk.cell 1;have g2:y.cell? ⟨rb,2,none⟩=some (FD none 0 0):=I.out.rbk.cell 2;have z0:=I.out.rbk.frozen 0;have z1:=I.out.rbk.frozen 1;have z2:=I.out.rbk.frozen 2;have lf:=I.out.fbk.lt;have lr:=I.out.rbk.lt;clear c7 c8 cD;go_wp2;have d0:=ky (u:=FD A2 outs.length c2) (kv (u:=FD A1 D.length c1) (lP (u:=FD A0 ins.length c0) I.out.rbk));have y0':=d0.cell 0;have y1':=d0.cell 1;have y2':=d0.cell 2;have dq:aa [rb] y (((y.setCell ⟨rb,0,none⟩ (FD A0 ins.length c0)).setCell ⟨rb,1,none⟩ (FD A1 D.length c1)).setCell ⟨rb,2,none⟩ (FD A2 outs.length c2)):=(((Fz _ _).setCell (.inl (by simp)) _).setCell (.inl (by simp)) _).setCell (.inl (by simp)) _;have dt:dE [9,64,57,50,60,109] [rb] y _:=⟨dq,fun z hz=>⟨29,by rw[List.mem_singleton.1 hz];exact I.out.rbk.ty,by decide⟩⟩;refine bodyPost_ret (v:= .agg #[FD A0 ins.length c0,FD A1 D.length c1,FD A2 outs.length c2]) (by simp[results,Tryz.results43,go_sem,y0',y1',y2']) rfl ⟨?_,?_⟩
 ·rw[HX.out]
  exact ⟨_,_,_,rfl,I.out.i0.far dt (by decide) (by decide),I.out.i1.far dt (by decide) (by decide),I.out.i2.far dt (by decide),J.out.far dq (fun z hz=>⟨29,by rw[List.mem_singleton.1 hz];exact I.out.rbk.ty,by decide,by decide⟩)⟩
 exact HK.out.trans' dq (fun x hx hl=>by rw[List.mem_singleton.1 hx] at hl;have:=e1.out;omega)
end
end Go.Proofs.YtecpeogejjibaaaGreatDoor
