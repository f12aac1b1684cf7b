/- The reference's body. The reference's job. A flow that is being read by the reference's reader, in memory. The reference's Parse. -/
import Derived.Test.YtpagiajlefejcaaGreatDoorPfiM12
import Derived.Test.YtpagiajlefejcaaGreatDoorPfiM14
import Derived.Test.YtpagiajlefejcaaGreatDoorPfiM15
import Derived.Test.YtpagiajlefejcaaGreatDoorPfiM16
import Derived.Test.YtpagiajlefejcaaGreatDoorPfiM8
import Derived.Test.YtpagiajlefejcaaGreatDoorPfiM11
import Derived.Test.YtpagiajlefejcaaGreatDoorPfiM3
import Derived.Test.YtpagiajlefejcaaGreatDoorPfiM6
import Derived.Deep.CutBlock
set_option linter.unusedSimpArgs false
set_option linter.unusedVariables false
set_option maxRecDepth 100000
set_option maxHeartbeats 16000000
namespace Go.Proofs.YtpagiajlefejcaaGreatDoor
open Go.Lib renaming hid → zx
open Go.Proofs.Tryz renaming prog → zy
open _root_.Nat renaming le_refl → zz, le_trans → zA, zero_le → zE
open Go.World renaming block_lt_of_cell? → zB, news_of_block → zJ
open _root_.List renaming mem_singleton → zD, length_tail → zL
open aa renaming refl → zN
open ap renaming new → zO
open Go.Value renaming string → zQ, slice → zR, pointer → zS, int → zW
open Go.Ending renaming returned → zT
open Go.Obj renaming cells → zU
open Go.IntKind renaming i64 → zX
section
open Go.RowKit Go.BigFrame
theorem sx {l:List Tk} {b jb lo:Nat} {v2:Value} (at_:Int) (outs:List Bs) (A:Int) (w0 w:World) (O:RB w0 lo) (J:lo≤b) (h:aE w b l none) (M:aa [b] w0 w) (I:w0.heap.size≤jb) (U:ar w w0.heap.size jb (aM at_ outs A) v2 (zR none 0 0) (zR none 0 0)) (D:l.length≤1000000) :
  Calls zy 150 #[zS (some ⟨b,0,none⟩),zS (some ⟨jb,0,none⟩)] w fun e w'=>e=zT (.tuple #[])∧bQ (am (aM at_ outs A)) l b jb w0 w':=by
 have Z:=fQ (ax l).text;obtain ⟨c,B⟩:∃ c,aQ (ax l).text=c:=⟨_,rfl⟩
 rw[B] at Z
 match c,B,Z with
 | 0,B,_=>exact vA at_ outs A w0 w O J h M I U D B
 | 1,B,_=>exact vB at_ outs A w0 w O J h M I U D B
 | 2,B,_=>exact vC at_ outs A w0 w O J h M I U D B
 | 3,B,_=>exact vD at_ outs A w0 w O J h M I U D B
 | 4,B,_=>exact vE at_ outs A w0 w O J h M I U D B
 | 5,B,_=>exact vF at_ outs A w0 w O J h M I U D B
 | 6,B,_=>exact vG at_ outs A w0 w O J h M I U D B
 | 7,B,_=>exact vH at_ outs A w0 w O J h M I U D B
 | 8,B,_=>exact vI at_ outs A w0 w O J h M I U D B
 | 9,B,_=>exact vJ at_ outs A w0 w O J h M I U D B
end
section
open Go.RowKit Go.BigFrame
attribute [local go_sem] ag ab ae af
def yd (j:Jb):List Tk→Except (Int×Int) (Jb×List Tk):=fun r=>aq [59] r >>= fun r=> .ok (j,r)
def yK (at_:Int) (os:List Bs) (n:Int):List Tk→Except (Int×Int) (Jb×List Tk):=fun r=>am (aM at_ os n) r >>= fun p=>yd p.1 p.2
def ye (at_:Int) (os:List Bs) (n:Int):List Tk→Except (Int×Int) (Jb×List Tk):=fun r=>aq [61] r >>= yK at_ os n
def yf (at_:Int) (os:List Bs):List Tk→Except (Int×Int) (Jb×List Tk):=fun r=>bF r >>= fun p=>ye at_ os p.1 p.2
def yL (at_:Int):List Tk→Except (Int×Int) (Jb×List Tk):=fun r=>bR r >>= fun p=>yf at_ p.1 p.2
theorem uo {l:List Tk} {b lo:Nat} {x:Option (Int×Int)} (w:World) (hE:RB w lo) (bb:lo≤b) (h:aE w b l x) (fv:l.length≤1000000) :
  Calls zy 99 #[zS (some ⟨b,0,none⟩)] w fun e w'=>∃ j v2 v3 v4 Z x',e=zT (.agg (bZ j v2 v3 v4))∧oH w' w.heap.size j v2 v3 v4∧aE w' b Z x'∧Rl dL l x j Z x'∧Z.length≤l.length∧(x=none→aG [106,111,98] l=true→Z.length<l.length)∧aa [b] w w':=by
 have cf:=zx fv;have O:=zx (zz l.length);obtain ⟨at_,fg⟩:∃ at_,(ax l).at_=at_:=⟨_,rfl⟩
 have ad:Hid (∀ i Z x',Rl (fun r=>aq [106,111,98] r >>= yL at_) l x i Z x'→Rl dL l x i Z x'):=zx (fun i Z x' hq=>Rl.congr (by rw[←fg];rfl) hq);have dq:=zO w 59 #[zW zX 0,zW zX 0,zR none 0 0,zR none 0 0,zR none 0 0,zQ ⟨#[]⟩,zQ ⟨#[]⟩,zW zX 0,zW zX 0,zQ ⟨#[]⟩,zQ ⟨#[]⟩,zW zX 0,zW zX 0,zQ ⟨#[]⟩,zW zX 0];have c7:=(zN [] w).alloc (zU #[zW zX 0,zW zX 0,zR none 0 0,zR none 0 0,zR none 0 0,zQ ⟨#[]⟩,zQ ⟨#[]⟩,zW zX 0,zW zX 0,zQ ⟨#[]⟩,zQ ⟨#[]⟩,zW zX 0,zW zX 0,zQ ⟨#[]⟩,zW zX 0] 59);have d6:Hid (w.heap.size∉[b]):=zx (by have:=h.lt;simp;omega);have k5:Hid (b<w.heap.size):=zx h.lt;have ek:=hE.quiet c7;have dv:=h.keep c7;obtain ⟨rb,cp⟩:∃ rb,w.heap.size=rb:=⟨_,rfl⟩
 rw[cp] at dq d6;have hJ:Hid (w.heap.size≤rb):=zx (by omega);have hz:=zx cp;clear fv cp;go_enter Tryz.func99,Tryz.ntmps99
 go_upto_region 1 with (fail)
 obtain ⟨w0,gs⟩:∃ x,w.alloc (zU #[zW zX 0,zW zX 0,zR none 0 0,zR none 0 0,zR none 0 0,zQ ⟨#[]⟩,zQ ⟨#[]⟩,zW zX 0,zW zX 0,zQ ⟨#[]⟩,zQ ⟨#[]⟩,zW zX 0,zW zX 0,zQ ⟨#[]⟩,zW zX 0] 59)=x:=⟨_,rfl⟩
 rw[gs] at dq c7 ek dv ⊢;rw[hz.out];have gb:=zx dq;have d4:=zx c7;have cu:=zx ek;have hi:=zx dv;obtain ⟨g,o,c,c0,c1,c2,-,lb,lg,-,hn,hc,d3,k0,k1,k2,-⟩:=dv.open';have fn:(0:Int)<(l.length:Int):=by omega
 clear dq c7 ek dv gs h hE;rw[fg] at k2;go_upto_region 2 with (fail)
 have dB:=zO w0 59 #[zW zX at_,zW zX 0,zR none 0 0,zR none 0 0,zR none 0 0,zQ ⟨#[]⟩,zQ ⟨#[]⟩,zW zX 0,zW zX 0,zQ ⟨#[]⟩,zQ ⟨#[]⟩,zW zX 0,zW zX 0,zQ ⟨#[]⟩,zW zX 0];have c5:=(zN [] w0).alloc (zU #[zW zX at_,zW zX 0,zR none 0 0,zR none 0 0,zR none 0 0,zQ ⟨#[]⟩,zQ ⟨#[]⟩,zW zX 0,zW zX 0,zQ ⟨#[]⟩,zQ ⟨#[]⟩,zW zX 0,zW zX 0,zQ ⟨#[]⟩,zW zX 0] 59);have er:=hi.out.keep c5;have e3:=cu.out.quiet c5;obtain ⟨y0,gw⟩:∃ x,w0.alloc (zU #[zW zX at_,zW zX 0,zR none 0 0,zR none 0 0,zR none 0 0,zQ ⟨#[]⟩,zQ ⟨#[]⟩,zW zX 0,zW zX 0,zQ ⟨#[]⟩,zQ ⟨#[]⟩,zW zX 0,zW zX 0,zQ ⟨#[]⟩,zW zX 0] 59)=x:=⟨_,rfl⟩
 rw[gw] at dB c5 er e3 ⊢;obtain ⟨jb,em⟩:∃ jb,w0.heap.size=jb:=⟨_,rfl⟩
 have M:Hid (ar y0 w0.heap.size jb (⟨at_,0,[],[],[],[],⟨[],zV⟩,⟨[],zV⟩,0⟩:Jb) (zR none 0 0) (zR none 0 0) (zR none 0 0)):=zx (by
  rw[em] at dB;exact ⟨dB,World.ownsRow_nil _ _ _ _,World.ownsRow_nil _ _ _ _,World.ownsRow_nil _ _ _ _,(fun g hg=>by cases hg),(fun g hg=>by cases hg),(fun g hg=>by cases hg)⟩)
 have HP:=zx er;have HE:=zx e3;have HK:Hid (aa [b] w0 y0):=zx c5.of_nil;have ez:Hid (w0.heap.size≤jb):=zx (by omega);rw[em];clear dB c5 er e3 gw em fg c0 c1 c2 lb lg hn hc d3 k0 k1 k2 fn;have HC:=zx (aJ [106,111,98] y0 HE.out.fine (HE.out.fne bb) HP.out);go_wp2_with fail
 refine HC.out.mono ?_;rintro ev y1 ⟨rfl,⟨q1,x1,hp,hr,U⟩,B⟩;have hu:Hid (x=none→aG [106,111,98] l=true→q1.length<l.length):=zx (fun e hs=>by
  subst e;rw[(cI hr hs).1,zL];have:=HP.out.endT.pos;omega)
 have HIM':Hid (∀ i Z x',Rl (yL at_) q1 x1 i Z x'→Rl dL l x i Z x'):=zx (fun i Z x' hq=>ad.out i Z x' (Rl.must hr hq));clear ad hr;have ad:=HIM';clear HIM';have HJ':=zx (M.out.rd HP.out B);have HK':=zx (HK.out.trans B);have HE':=zx (HE.out.one bb B);have HP':=zx hp;clear M HK HE HP B hp HC;have M:=HJ';have HK:=HK';have HE:=HE';have HP:=HP';clear HJ' HK' HE' HP';have a9:=zx (zA U O.out);clear U O;have O:=a9;clear a9;have fu:=O;have d7:=zx (zA O.out cf.out);clear O;have O:Hid (q1.length≤q1.length):=zx (zz _);have hO:=cf;clear cf;have cf:=d7;clear d7;have HC:=zx (jI y1 HE.out.fine (Nat.lt_of_lt_of_le HE.out.flt bb) HP.out (zA O.out cf.out));go_wp2_with fail
 refine HC.out.mono ?_;rintro ev y2 ⟨a2,v2,q2,x2,rfl,cx,hp,hr,hs,U,B⟩;clear hs;obtain ⟨A2,c2,hv,-⟩:=ao cx;subst hv;have gj:=zx cx;have gl:=zx HK.out.size;have f3:Hid (aT (zR A2 a2.length c2) (zR none 0 0)):=zx (aT.new M.out.o3 (fun g hg=>(cx.lt g hg).1)).symm;have ft:Hid (aT (zR A2 a2.length c2) (zR none 0 0)):=zx (aT.new M.out.o4 (fun g hg=>(cx.lt g hg).1)).symm;clear cx;have HIM':Hid (∀ i Z x',Rl (yf at_ a2) q2 x2 i Z x'→Rl dL l x i Z x'):=zx (fun i Z x' hq=>ad.out i Z x' (Rl.bind (Q:=fun a=>yf at_ a) hr hq));clear ad hr;have ad:=HIM';clear HIM';have HJ':=zx (M.out.rd HP.out B);have HK':=zx (HK.out.trans B);have HE':=zx (HE.out.one bb B);have HP':=zx hp;clear M HK HE HP B hp HC;have M:=HJ';have HK:=HK';have HE:=HE';have HP:=HP';clear HJ' HK' HE' HP';have a9:=zx (zA U O.out);clear U O;have O:=a9;clear a9;have hh:=M.out.blk.frozen 2;have fz:y2.cell? ⟨jb,2,none⟩=some (zR none 0 0):=M.out.blk.cell 2;have lj:=M.out.blk.lt;have bA:aa [jb] y2 (y2.setCell ⟨jb,2,none⟩ (zR A2 a2.length c2)):=(zN _ _).setCell (.inl (by simp)) _;have HJ':=zx (M.out.put2 (bg gj.out gl.out) f3.out ft.out);have HP':=zx (HP.out.box M.out bA);have HK':=zx (HK.out.box ez.out bA);have HE':=zx (cu.out.one bb HK'.out);clear bA;go_upto_region 4 with (fail)
 obtain ⟨y3,hy⟩:∃ x,(y2.setCell ⟨jb,2,none⟩ (zR A2 a2.length c2))=x:=⟨_,rfl⟩
 rw[hy] at HJ' HP' HK' HE' ⊢;clear hy hh fz lj M HP HK HE gj gl f3 ft;have M:=HJ';have HP:=HP';have HK:=HK';have HE:=HE';clear HJ' HP' HK' HE';obtain ⟨sb,en⟩:∃ sb,(x2.isNone&&aG [114,101,116,114,121] q2)=sb:=⟨_,rfl⟩
 have hT:=fX [114,101,116,114,121] y3 HE.out.fine HP.out;rw[en] at hT;have HT:=zx hT;have ds:=zx en;clear hT en;go_wp2_with fail
 refine HT.out.mono ?_;rintro ev y4 ⟨rfl,hp,B⟩;have HJ':=zx (M.out.rd HP.out B);have HK':=zx (HK.out.trans B);have HE':=zx (HE.out.one bb B);clear HP M HK HE HT;have HP:=zx hp;have M:=HJ';have HK:=HK';have HE:=HE';clear hp B HJ' HK' HE';go_upto_if 21 with (fail)
 go_cut [] (fun wx=>∃ n r x',Rl bF q2 x2 n r x'∧ar wx w0.heap.size jb (⟨at_,0,a2,[],[],[],⟨[],zV⟩,⟨[],zV⟩,n⟩:Jb) (zR A2 a2.length c2) (zR none 0 0) (zR none 0 0)∧aE wx b r x'∧aa [b] w0 wx∧r.length≤q2.length)
 case first =>
  cases sb with
  | false =>
   have hp:aE y4 b q2 x2:=HP.out;go_wp2;go_meet;exact ⟨0,q2,x2,Rl.stay (fun e=>by
    subst e;unfold bF;have hs:aG [114,101,116,114,121] q2=false:=ds.out;rw[hs];rfl),M.out,hp,HK.out,zz _⟩
  | true =>
   have g5:x2=none∧aG [114,101,116,114,121] q2=true:=by
    have:=ds.out
    cases hx:x2 with
    | some y=>rw[hx] at this;cases this
    | none=>rw[hx] at this;exact ⟨rfl,this⟩
   obtain ⟨rfl,ga⟩:=g5;have co:=zx ga;clear ga ds;obtain ⟨q,hq⟩:∃ q,q2.tail=q:=⟨_,rfl⟩
   have ff:aE y4 b q none:=by rw[←hq];exact HP.out
   have f7:=zx ff;have c8:=zx hq;have cj:Hid (q.length≤q2.length):=zx (by rw[←hq,zL];omega);obtain ⟨kd,c9⟩:∃ kd,(ax q).kind=kd:=⟨_,rfl⟩
   obtain ⟨tx,ct⟩:∃ tx,(ax q).text=tx:=⟨_,rfl⟩
   obtain ⟨e9,d9⟩:∃ at_,(ax q).at_=at_:=⟨_,rfl⟩
   have cg:=zx c9;have e0:=zx ct;obtain ⟨g,o,c,c0,c1,c2,-,lb,lg,-,hn,hc,d3,k0,k1,k2,hw⟩:=ff.open';rw[c9] at k0;rw[ct] at k1;rw[d9] at k2;have ch:tx.length≤1000000:=by rw[←ct];exact hw.1.1.1
   have fn:(0:Int)<(q.length:Int):=by omega
   have b6:Hid (∀ e,bF q2= .error (e,(ax q).at_)→Rl bF q2 none 0 q (cr none e q)):=zx (fun e h=>h);have b5:kd=2→∀ c∈tx,dk c=true:=by rw[←ct,←c9];exact hw.1.1.2.1
   have g2:=zx b5;clear ff c9 ct d9 hq HP hw b5;have b4:=zO y4 177 #[zW zX kd,zQ (bs tx),zW zX e9];have c6:=(zN [] y4).alloc (zU #[zW zX kd,zQ (bs tx),zW zX e9] 177);have bj:=zx (f7.out.keep c6);have bd:=zx (M.out.keep c6);have bl:=zx (HK.out.trans c6.of_nil);have a3:=zx (HE.out.quiet c6);go_upto_region 6 with (fail)
   obtain ⟨T,hT⟩:∃ T,y4.heap.size=T:=⟨_,rfl⟩
   rw[hT] at b4 ⊢;obtain ⟨y5,hy⟩:∃ z,y4.alloc (zU #[zW zX kd,zQ (bs tx),zW zX e9] 177)=z:=⟨_,rfl⟩
   rw[hy] at b4 bj bd bl a3 ⊢;have a5:=zx b4;have t0:y5.cell? ⟨T,0,none⟩=some (zW zX kd):=b4.cell 0;have t1:y5.cell? ⟨T,1,none⟩=some (zQ (bs tx)):=b4.cell 1;have lt:=b4.lt;clear c6 hT hy b4 c0 c1 c2 lb lg hn hc d3 k0 k1 k2 fn f7 M HK HE;by_cases b7:kd=2
   ·subst b7
    have b5:=g2.out rfl;rcases ha:Lib.atoiAll tx with n|_|_
    ·have d5:=eY ha b5
     by_cases h5:5<n
     ·have bB:Hid (Rl bF q2 none 0 q (cr none 4 q)):=zx (b6.out 4 (by
       unfold bF;rw[if_pos co.out,c8.out,if_neg (by rw[cg.out];simp),e0.out,ha];exact if_pos h5))
      have ba:=zx (fun W hW=>eZ ha ch W hW);clear ha d5 b5;go_wp2_with fail
      refine (ba.out _ a3.out.fb.env).mono ?_;rintro ev w3 ⟨rfl,B⟩;have a0:=zx (bj.out.keep B);have a1:=zx (bd.out.keep B);have bm:=zx (bl.out.trans B.of_nil);have b0:=zx (a3.out.quiet B);have t0':w3.cell? ⟨T,0,none⟩=some (zW zX 2):=(a5.out.keep B (by simp)).cell 0;have lt':=(a5.out.keep B (by simp)).lt;clear B t0 t1 lt bj bd bl a3 a5 ba;go_wp2_with fail
      refine (aY 4 (by decide) w3 b0.out.fine a0.out).mono ?_;rintro ev w4 ⟨rfl,hp,B⟩;have bq:=zx (a1.out.rd a0.out B);have bo:=zx (bm.out.trans B);have bn:=zx hp;clear hp B t0' lt';go_wp2;go_meet;exact ⟨0,q,cr none 4 q,bB.out,bq.out,bn.out,bo.out,cj.out⟩
     have bB:Hid (Rl bF q2 none n q.tail none):=zx ⟨rfl,by
      unfold bF;rw[if_pos co.out,c8.out,if_neg (by rw[cg.out];simp),e0.out,ha];show (if 5<n then _ else _)=_;rw[if_neg h5]⟩
     have ba:=zx (fun W hW=>eZ ha ch W hW);clear ha d5 b5;go_wp2_with fail
     refine (ba.out _ a3.out.fb.env).mono ?_;rintro ev w3 ⟨rfl,B⟩;have a0:=zx (bj.out.keep B);have a1:=zx (bd.out.keep B);have bm:=zx (bl.out.trans B.of_nil);have b0:=zx (a3.out.quiet B);have t0':w3.cell? ⟨T,0,none⟩=some (zW zX 2):=(a5.out.keep B (by simp)).cell 0;have lt':=(a5.out.keep B (by simp)).lt;clear B t0 t1 lt bj bd bl a3 a5 ba;have ci:(ax q).kind≠5:=by rw[cg.out];decide
     have f6:=zx ci;obtain ⟨g,o,c,d0,d1,d2,⟨z0,-⟩,lb,lg,-,hn,hc,d3,-⟩:=a0.out.open';have hmore:1<q.length:=by have:=(a0.out.endT.tail ci).pos;rw[zL] at this;omega
     have ix:(1:Int)≤(q.length:Int):=by omega
     have ks:(1:Int)<(c:Int):=by omega
     have jf:=a1.out.blk.frozen 14;have jc:w3.cell? ⟨jb,14,none⟩=some (zW zX 0):=a1.out.blk.cell 14;have lj:=a1.out.blk.lt;have bA:aa [jb] w3 (w3.setCell ⟨jb,14,none⟩ (zW zX n)):=(zN _ _).setCell (.inl (by simp)) _;have bq:Hid (ar (w3.setCell ⟨jb,14,none⟩ (zW zX n)) w0.heap.size jb (⟨at_,0,a2,[],[],[],⟨[],zV⟩,⟨[],zV⟩,n⟩:Jb) (zR A2 a2.length c2) (zR none 0 0) (zR none 0 0)):=zx (a1.out.box bA ((a1.out.blk.set 14 (zW zX n)).congr (by rfl)) rfl rfl rfl);have bn:=zx (a0.out.box a1.out bA);have bo:=zx (bm.out.box ez.out bA);have f2:=a1.out.blk.ty.ne a0.out.ty (by decide);have ho:Hid ((w3.setCell ⟨jb,14,none⟩ (zW zX n)).cell? ⟨b,0,none⟩=some (zR (some ⟨g,o,none⟩) q.length c)):=zx (bA.cell_of d0 (by simpa using f2.symm));have gk:=zx (fun n' a d=> @aE.step _ b q none g o c bn.out ho.out f6.out n' a d);clear ci hmore bA a0 bm a1 d1 d2;go_wp2;go_meet;have e4:=gk.out (q.length-1) ⟨g,o+3,none⟩ (c-1) rfl rfl rfl;exact ⟨n,q.tail,none,bB.out,bq.out.rd bn.out e4.2,e4.1,bo.out.trans e4.2,by have:=cj.out;rw[zL];omega⟩
    all_goals
     have bB:Hid (Rl bF q2 none 0 q (cr none 4 q)):=zx (b6.out 4 (by
      unfold bF;rw[if_pos co.out,c8.out,if_neg (by rw[cg.out];simp),e0.out,ha];try rfl))
     have ba:=zx (fun W hW=>eQ (s:=tx) (fun n h=>by rw[ha] at h;cases h) ch W hW);clear ha b5;go_wp2_with fail
     refine (ba.out _ a3.out.fb.env).mono ?_;rintro ev w3 ⟨⟨n0,et,ep,rfl⟩,B⟩;have a0:=zx (bj.out.keep B);have a1:=zx (bd.out.keep B);have bm:=zx (bl.out.trans B.of_nil);have b0:=zx (a3.out.quiet B);have t0':w3.cell? ⟨T,0,none⟩=some (zW zX 2):=(a5.out.keep B (by simp)).cell 0;have lt':=(a5.out.keep B (by simp)).lt;clear B t0 t1 lt bj bd bl a3 a5 ba;go_wp2_with fail
     refine (aY 4 (by decide) w3 b0.out.fine a0.out).mono ?_;rintro ev w4 ⟨rfl,hp,B⟩;have bq:=zx (a1.out.rd a0.out B);have bo:=zx (bm.out.trans B);have bn:=zx hp;clear hp B t0' lt';go_wp2;go_meet;exact ⟨0,q,cr none 4 q,bB.out,bq.out,bn.out,bo.out,cj.out⟩
   have e2:(kd != 2)=true:=by rw[bne_iff_ne];exact b7
   rcases ha:Lib.atoiAll tx with n|_|_
   ·have bB:Hid (Rl bF q2 none 0 q (cr none 3 q)):=zx (b6.out 3 (by unfold bF;rw[if_pos co.out,c8.out,if_pos (by rw[cg.out];exact b7)];rfl))
    have ba:=zx (fun W hW=>eZ ha ch W hW);clear ha b7;go_wp2_with fail
    refine (ba.out _ a3.out.fb.env).mono ?_;rintro ev w3 ⟨rfl,B⟩;have a0:=zx (bj.out.keep B);have a1:=zx (bd.out.keep B);have bm:=zx (bl.out.trans B.of_nil);have b0:=zx (a3.out.quiet B);have t0':w3.cell? ⟨T,0,none⟩=some (zW zX kd):=(a5.out.keep B (by simp)).cell 0;have lt':=(a5.out.keep B (by simp)).lt;clear B t0 t1 lt bj bd bl a3 a5 ba;go_wp2_with fail
    refine (aY 3 (by decide) w3 b0.out.fine a0.out).mono ?_;rintro ev w4 ⟨rfl,hp,B⟩;have bq:=zx (a1.out.rd a0.out B);have bo:=zx (bm.out.trans B);have bn:=zx hp;clear hp B t0' lt';go_wp2;go_meet;exact ⟨0,q,cr none 3 q,bB.out,bq.out,bn.out,bo.out,cj.out⟩
   all_goals
    have bB:Hid (Rl bF q2 none 0 q (cr none 3 q)):=zx (b6.out 3 (by unfold bF;rw[if_pos co.out,c8.out,if_pos (by rw[cg.out];exact b7)];rfl));have ba:=zx (fun W hW=>eQ (s:=tx) (fun n h=>by rw[ha] at h;cases h) ch W hW);clear ha b7;go_wp2_with fail
    refine (ba.out _ a3.out.fb.env).mono ?_;rintro ev w3 ⟨⟨n0,et,ep,rfl⟩,B⟩;have a0:=zx (bj.out.keep B);have a1:=zx (bd.out.keep B);have bm:=zx (bl.out.trans B.of_nil);have b0:=zx (a3.out.quiet B);have t0':w3.cell? ⟨T,0,none⟩=some (zW zX kd):=(a5.out.keep B (by simp)).cell 0;have lt':=(a5.out.keep B (by simp)).lt;clear B t0 t1 lt bj bd bl a3 a5 ba;go_wp2_with fail
    refine (aY 3 (by decide) w3 b0.out.fine a0.out).mono ?_;rintro ev w4 ⟨rfl,hp,B⟩;have bq:=zx (a1.out.rd a0.out B);have bo:=zx (bm.out.trans B);have bn:=zx hp;clear hp B t0' lt';go_wp2;go_meet;exact ⟨0,q,cr none 3 q,bB.out,bq.out,bn.out,bo.out,cj.out⟩
 obtain ⟨n4,r4,x4,hr,hj,hp,B,U⟩:=hcut;obtain ⟨yc,rfl⟩:∃ y:World,y=wc:=⟨_,rfl⟩
 have HIM':Hid (∀ i Z x',Rl (ye at_ a2 n4) r4 x4 i Z x'→Rl dL l x i Z x'):=zx (fun i Z x' hq=>ad.out i Z x' (Rl.bind (Q:=fun a=>ye at_ a2 a) hr hq));clear ad hr HP M HK HE ds;have ad:=HIM';have HP:=zx hp;have M:=zx hj;have HK:=zx B;have HE:=zx (cu.out.one bb B);clear hp hj B HIM';have a9:=zx (zA U O.out);clear U O;have O:=a9;clear a9;have HC:=zx (aJ [61] yc HE.out.fine (HE.out.fne bb) HP.out);go_wp2_with fail
 refine HC.out.mono ?_;rintro ev hD ⟨rfl,⟨f0,eb,hp,hr,U⟩,B⟩;have HIM':Hid (∀ i Z x',Rl (yK at_ a2 n4) f0 eb i Z x'→Rl dL l x i Z x'):=zx (fun i Z x' hq=>ad.out i Z x' (Rl.must hr hq));clear ad hr;have ad:=HIM';clear HIM';have HJ':=zx (M.out.rd HP.out B);have HK':=zx (HK.out.trans B);have HE':=zx (HE.out.one bb B);have HP':=zx hp;clear M HK HE HP B hp HC;have M:=HJ';have HK:=HK';have HE:=HE';have HP:=HP';clear HJ' HK' HE' HP';have a9:=zx (zA U O.out);clear U O;have O:=a9;clear a9;obtain ⟨bx,e5⟩:∃ bx,eb.isNone=bx:=⟨_,rfl⟩
 have hC:=aN hD HE.out.fine HP.out;rw[e5] at hC;have HC:=zx hC;have fc:=zx e5;clear hC e5;go_wp2_with fail
 refine HC.out.mono ?_;rintro ev g7 ⟨rfl,B⟩;have HJ':=zx (M.out.keep B);have HK':=zx (HK.out.trans B.of_nil);have HE':=zx (HE.out.quiet B);have HP':=zx (HP.out.keep B);clear M HK HE HP B HC;have M:=HJ';have HK:=HK';have HE:=HE';have HP:=HP';clear HJ' HK' HE' HP';go_upto_if 60 with (fail)
 go_cut [] (fun wx=>∃ j v2 v3 v4 r x',Hid (ar wx w0.heap.size jb j v2 v3 v4)∧Hid (aE wx b r x')∧Hid (∀ i Z cv,Rl (yd j) r x' i Z cv→Rl dL l x i Z cv)∧Hid (aa [b] w0 wx)∧Hid (r.length≤q1.length))
 case first =>
  cases eb with
  | some y =>
   have hb:bx=false:=fc.out.symm;subst hb;have HD:Hid (∀ i Z,Rl dL l x i Z (some y)):=zx (fun i Z=>ad.out i Z _ rfl);go_wp2;go_meet;exact ⟨_,_,_,_,f0,some y,M,HP,zx (fun i Z cv hq=>by have:=Rl.dead hq;subst this;exact HD.out i Z),HK,O⟩
  | none =>
   have hb:bx=true:=fc.out.symm;subst hb;have HB:=zx (sx at_ a2 n4 w0 g7 cu.out bb HP.out HK.out ez.out M.out (zA O.out cf.out));go_wp2_with fail
   refine HB.out.mono ?_;rintro ev h9 ⟨rfl,j,gi,fS,f5,r,x',hj,hp,hr,f1,B⟩;have hm:=zx hj;have g3:=zx hp;have hB:=zx B;have g4:=zx hr;have hA:=zx (zA f1 O.out);clear hj hp B hr f1 HB;go_wp2;go_meet;exact ⟨j,gi,fS,f5,r,x',hm,g3,zx (fun i Z cv hq=>ad.out i Z cv (Rl.bind (Q:=fun a=>yd a) g4.out hq)),hB,hA⟩
 obtain ⟨⟨b1,a4,a6,bk,a7,b3,D,A,aA⟩,gi,fS,f5,r,x',HJ',HP',HIM',HK',d8⟩:=hcut;obtain ⟨hG,rfl⟩:∃ y:World,y=wc:=⟨_,rfl⟩
 clear M HP ad HK O HE fc;have M:=HJ';have HP:=HP';have ad:=HIM';have HK:=HK';have O:=d8;have HE:=zx (cu.out.one bb HK.out);clear HJ' HP' HIM' HK' d8;have HC:=zx (aJ [59] hG HE.out.fine (HE.out.fne bb) HP.out);go_wp2_with fail
 refine HC.out.mono ?_;rintro ev I ⟨rfl,⟨es,el,hp,hr,U⟩,B⟩;have HIM':Hid (∀ i Z x',Rl (fun r=> .ok ((⟨b1,a4,a6,bk,a7,b3,D,A,aA⟩:Jb),r)) es el i Z x'→Rl dL l x i Z x'):=zx (fun i Z x' hq=>ad.out i Z x' (Rl.must hr hq));clear ad hr;have ad:=HIM';clear HIM';have HJ':=zx (M.out.rd HP.out B);have HK':=zx (HK.out.trans B);have HE':=zx (HE.out.one bb B);have HP':=zx hp;clear M HK HE HP B hp HC;have M:=HJ';have HK:=HK';have HE:=HE';have HP:=HP';clear HJ' HK' HE' HP';have a9:=zx (zA U O.out);clear U O;have O:=a9;clear a9;have gm:Hid (Rl dL l x (⟨b1,a4,a6,bk,a7,b3,D,A,aA⟩:Jb) es el):=zx (ad.out _ _ _ (Rl.stay (fun _=>rfl)));obtain ⟨A2,c2,he,-⟩:=ao M.out.o2;obtain ⟨A3,c3,hH,-⟩:=ao M.out.o3;obtain ⟨A4,c4,hF,-⟩:=ao M.out.o4;subst he hH hF;have J:=zx (gb.out.keep HK.out d6.out);have jx:I.cell? ⟨jb,0,none⟩=some (zW zX b1):=M.out.blk.cell 0;have i4:I.cell? ⟨rb,0,none⟩=some (zW zX 0):=J.out.cell 0;have ic:=J.out.frozen 0;have ih:I.cell? ⟨jb,1,none⟩=some (zW zX a4):=M.out.blk.cell 1;have kz:I.cell? ⟨rb,1,none⟩=some (zW zX 0):=J.out.cell 1;have j3:=J.out.frozen 1;have fz:I.cell? ⟨jb,2,none⟩=some (zR A2 a6.length c2):=M.out.blk.cell 2;have i5:I.cell? ⟨rb,2,none⟩=some (zR none 0 0):=J.out.cell 2;have h6:=J.out.frozen 2;have j2:I.cell? ⟨jb,3,none⟩=some (zR A3 bk.length c3):=M.out.blk.cell 3;have it:I.cell? ⟨rb,3,none⟩=some (zR none 0 0):=J.out.cell 3;have js:=J.out.frozen 3;have j1:I.cell? ⟨jb,4,none⟩=some (zR A4 a7.length c4):=M.out.blk.cell 4;have i3:I.cell? ⟨rb,4,none⟩=some (zR none 0 0):=J.out.cell 4;have h8:=J.out.frozen 4;have ie:I.cell? ⟨jb,5,none⟩=some (zQ (bs b3)):=M.out.blk.cell 5;have kx:I.cell? ⟨rb,5,none⟩=some (zQ ⟨#[]⟩):=J.out.cell 5;have ka:=J.out.frozen 5;have h7:I.cell? ⟨jb,6,none⟩=some (zQ (bs D.col)):=M.out.blk.cell 6;have k3:I.cell? ⟨rb,6,none⟩=some (zQ ⟨#[]⟩):=J.out.cell 6;have ir:=J.out.frozen 6;have h3:I.cell? ⟨jb,7,none⟩=some (zW zX D.val.kind):=M.out.blk.cell 7;have kv:I.cell? ⟨rb,7,none⟩=some (zW zX 0):=J.out.cell 7;have i9:=J.out.frozen 7;have km:I.cell? ⟨jb,8,none⟩=some (zW zX D.val.num):=M.out.blk.cell 8
 have kb:I.cell? ⟨rb,8,none⟩=some (zW zX 0):=J.out.cell 8;have j4:=J.out.frozen 8;have il:I.cell? ⟨jb,9,none⟩=some (zQ (bs D.val.word)):=M.out.blk.cell 9;have h4:I.cell? ⟨rb,9,none⟩=some (zQ ⟨#[]⟩):=J.out.cell 9;have kl:=J.out.frozen 9;have hZ:I.cell? ⟨jb,10,none⟩=some (zQ (bs A.col)):=M.out.blk.cell 10;have h1:I.cell? ⟨rb,10,none⟩=some (zQ ⟨#[]⟩):=J.out.cell 10;have hP:=J.out.frozen 10;have hX:I.cell? ⟨jb,11,none⟩=some (zW zX A.val.kind):=M.out.blk.cell 11;have hN:I.cell? ⟨rb,11,none⟩=some (zW zX 0):=J.out.cell 11;have hS:=J.out.frozen 11;have hU:I.cell? ⟨jb,12,none⟩=some (zW zX A.val.num):=M.out.blk.cell 12;have h0:I.cell? ⟨rb,12,none⟩=some (zW zX 0):=J.out.cell 12;have hQ:=J.out.frozen 12;have h2:I.cell? ⟨jb,13,none⟩=some (zQ (bs A.val.word)):=M.out.blk.cell 13;have hM:I.cell? ⟨rb,13,none⟩=some (zQ ⟨#[]⟩):=J.out.cell 13;have hV:=J.out.frozen 13;have hY:I.cell? ⟨jb,14,none⟩=some (zW zX aA):=M.out.blk.cell 14;have hR:I.cell? ⟨rb,14,none⟩=some (zW zX 0):=J.out.cell 14;have hK:=J.out.frozen 14;have lj:=M.out.blk.lt;have lr:=J.out.lt;go_wp2;have a8:=(((((((((((((((J.out.set 0 (zW zX b1)).set 1 (zW zX a4)).set 2 (zR A2 a6.length c2)).set 3 (zR A3 bk.length c3)).set 4 (zR A4 a7.length c4)).set 5 (zQ (bs b3))).set 6 (zQ (bs D.col))).set 7 (zW zX D.val.kind)).set 8 (zW zX D.val.num)).set 9 (zQ (bs D.val.word))).set 10 (zQ (bs A.col))).set 11 (zW zX A.val.kind)).set 12 (zW zX A.val.num)).set 13 (zQ (bs A.val.word))).set 14 (zW zX aA));have z0:=a8.cell 0;have z1:=a8.cell 1;have z2:=a8.cell 2;have z3:=a8.cell 3;have z4:=a8.cell 4;have z5:=a8.cell 5;have z6:=a8.cell 6;have z7:=a8.cell 7;have z8:=a8.cell 8;have z9:=a8.cell 9;have g0:=a8.cell 10;have ht:=a8.cell 11;have hf:=a8.cell 12;have g1:=a8.cell 13;have g6:=a8.cell 14;refine bodyPost_ret (v:= .agg #[zW zX b1,zW zX a4,zR A2 a6.length c2,zR A3 bk.length c3,zR A4 a7.length c4,zQ (bs b3),zQ (bs D.col),zW zX D.val.kind,zW zX D.val.num,zQ (bs D.val.word),zQ (bs A.col),zW zX A.val.kind,zW zX A.val.num,zQ (bs A.val.word),zW zX aA]) (by simp[results,Tryz.results99,go_sem,z0,z1,z2,z3,z4,z5,z6,z7,z8,z9,g0,ht,hf,g1,g6]) rfl ?_
 have cq:aa [rb] I (((((((((((((((I.setCell ⟨rb,0,none⟩ (zW zX b1)).setCell ⟨rb,1,none⟩ (zW zX a4)).setCell ⟨rb,2,none⟩ (zR A2 a6.length c2)).setCell ⟨rb,3,none⟩ (zR A3 bk.length c3)).setCell ⟨rb,4,none⟩ (zR A4 a7.length c4)).setCell ⟨rb,5,none⟩ (zQ (bs b3))).setCell ⟨rb,6,none⟩ (zQ (bs D.col))).setCell ⟨rb,7,none⟩ (zW zX D.val.kind)).setCell ⟨rb,8,none⟩ (zW zX D.val.num)).setCell ⟨rb,9,none⟩ (zQ (bs D.val.word))).setCell ⟨rb,10,none⟩ (zQ (bs A.col))).setCell ⟨rb,11,none⟩ (zW zX A.val.kind)).setCell ⟨rb,12,none⟩ (zW zX A.val.num)).setCell ⟨rb,13,none⟩ (zQ (bs A.val.word))).setCell ⟨rb,14,none⟩ (zW zX aA)):=(((((((((((((((zN [rb] I).setCell (.inl (by simp)) _).setCell (.inl (by simp)) _).setCell (.inl (by simp)) _).setCell (.inl (by simp)) _).setCell (.inl (by simp)) _).setCell (.inl (by simp)) _).setCell (.inl (by simp)) _).setCell (.inl (by simp)) _).setCell (.inl (by simp)) _).setCell (.inl (by simp)) _).setCell (.inl (by simp)) _).setCell (.inl (by simp)) _).setCell (.inl (by simp)) _).setCell (.inl (by simp)) _).setCell (.inl (by simp)) _;have hL:∀ x∈[rb],cD I x 59:=fun x hx=>by rw[zD.1 hx];exact J.out.ty
 exact ⟨(⟨b1,a4,a6,bk,a7,b3,D,A,aA⟩:Jb),_,_,_,es,el,rfl,⟨bf (bg M.out.o2 d4.out.size) cq hL (by decide),bf (bg M.out.o3 d4.out.size) cq hL (by decide),bf (bg M.out.o4 d4.out.size) cq hL (by decide)⟩,HP.out.far cq (fun x hx=>⟨59,hL x hx,by decide,by decide⟩),gm.out,zA O.out fu.out,fun e1 e2=>Nat.lt_of_le_of_lt O.out (hu.out e1 e2),(d4.out.of_nil.trans HK.out).trans' cq (fun x hx hl=>by rw[zD.1 hx] at hl;have:=hJ.out;omega)⟩
def qA:List TypeId:=[9,109,173,59,179,79,47]
structure cH (W:World) (base qb rb fb:Nat) (v0 v1 v2:Value) (ins:List In) (jobs:List Jb) (outs:List Pb):Prop where
 rbk:ap W rb 79 #[zR none 0 0,zR none 0 0,zR none 0 0]
 qbk:ap W qb 47 #[zW zX 0,zW zX 0]
 fbk:ap W fb 79 #[v0,v1,v2]
 ne:rb≠fb
 lo:base≤fb
 i0:iB W base v0 ins
 i1:fH W base v1 jobs
 i2:fI W base v2 outs
section
variable {W W' W7:World} {base qb rb fb b k:Nat} {v0 v1 v2 u:Value} {ins:List In} {jobs:List Jb} {outs:List Pb} {L:List Nat} {l:List Tk} {x:Option (Int×Int)} {o:Obj} {cs:List Value} {us:List (List Value)}
theorem cH.far (h:cH W base qb rb fb v0 v1 v2 ins jobs outs) (A:cT qA L W W'):cH W' base qb rb fb v0 v1 v2 ins jobs outs :=
 ⟨A.blk h.rbk (by decide),A.blk h.qbk (by decide),A.blk h.fbk (by decide),h.ne,h.lo,h.i0.far A (by decide) (by decide),h.i1.far A (by decide) (by decide),h.i2.far A (by decide)⟩
theorem cH.keep (h:cH W base qb rb fb v0 v1 v2 ins jobs outs) (A:aa [] W W'):cH W' base qb rb fb v0 v1 v2 ins jobs outs :=
 h.far ⟨A,fun x B=>by cases B⟩
theorem cH.rd (h:cH W base qb rb fb v0 v1 v2 ins jobs outs) (A:aE W b l x) (B:aa [b] W W'):cH W' base qb rb fb v0 v1 v2 ins jobs outs :=
 h.far ⟨B,fun x D=>⟨170,by rw[zD.1 D];exact A.ty,by decide⟩⟩
theorem gv {e:TypeId} {S:List TypeId} (h:cH W base qb rb fb v0 v1 v2 ins jobs outs) {A:Option Nat} (D:(W.alloc o).grownBy W7 A) (M:∀ x,A=some x→cD W x e) (J:e∉S) (I:79∉S) :
  cT S (A.toList++[fb]) W (W7.setCell ⟨fb,k,none⟩ u):=by
 refine ⟨(aa.grown ((zN _ W).alloc o) D (fun g D=> .inl (by rw[D];simp))).setCell (.inl (by simp)) _,fun x B=>?_⟩;rcases List.mem_append.1 B with B|B
 ·cases A with
  | none=>cases B
  | some y=>simp at B;exact ⟨e,M x (by rw[B]),J⟩
 rw[zD.1 B];exact ⟨_,h.fbk.ty,I⟩
theorem cH.fbk7 {e:TypeId} (h:cH W base qb rb fb v0 v1 v2 ins jobs outs) {A:Option Nat} (I:(W.alloc o).grownBy W7 A) (D:∀ x,A=some x→cD W x e) (B:e≠79):ap W7 fb 79 #[v0,v1,v2] :=
 (I.block fb (h.fbk.alloc o).lt (fun e'=>(D fb e'.symm).ne h.fbk.ty B rfl)).trans (h.fbk.alloc o)
theorem cH.keeps7 {w:World} (h:cH W w.heap.size qb rb fb v0 v1 v2 ins jobs outs) (B:aa [b] w W) {A:Option Nat} (I:(W.alloc o).grownBy W7 A) (D:∀ x,A=some x→w.heap.size≤x):aa [b] w (W7.setCell ⟨fb,k,none⟩ u) :=
 ((B.alloc o).grown I (fun x J=> .inr (D x J))).setCell (.inr h.lo) _
theorem jN {e:TypeId} {size n:Nat} {xs:List Value} (h:cH W base qb rb fb v0 v1 v2 ins jobs outs) {B:Option Nat} (M:(W.alloc o).grownBy W7 B) (J:∀ x,B=some x→cD W x e) (D:e≠79) (A:W7.ownsRow base e size u n xs) {I:Value}:(W7.setCell ⟨fb,k,none⟩ I).ownsRow base e size u n xs :=
 bw (L:=[fb]) A ((zN _ _).setCell (.inl (by simp)) _) (fun x O=>by rw[zD.1 O];exact ⟨_,(h.fbk7 M J D).ty,D⟩)
theorem zj {e:TypeId} (h:cH W base qb rb fb v0 v1 v2 ins jobs outs) (M:aE W b l x) {A:Option Nat} (Z:(W.alloc o).grownBy W7 A) (O:∀ x,A=some x→cD W x e) (D:e≠170) (B:e≠177):aE (W7.setCell ⟨fb,k,none⟩ u) b l x:=by
 have I:=gv (S:=[170,177]) (k:=k) (u:=u) h Z O (by simp[D,B]) (by decide);exact M.far I.1 (fun x hx=>by obtain ⟨t,U,J⟩:=I.2 x hx;exact ⟨t,U,fun e=>J (by simp[e]),fun e=>J (by simp[e])⟩)
theorem cH.pub {m c xb:Nat} {A:Option Addr} (h:cH W base qb rb fb v0 v1 (zR A m c) ins jobs outs) (U:cD W xb 179) (hn:∀ g,(Value.slice A m c).ownBlock=some g→g≠xb) (M:aa [xb] W W'):cH W' base qb rb fb v0 v1 (zR A m c) ins jobs outs:=by
 have B:cT [9,109,173,59,79,47] [xb] W W':=⟨M,fun x hx=>⟨179,by rw[zD.1 hx];exact U,by decide⟩⟩;obtain ⟨us,D,J,I⟩:=h.i2;exact ⟨B.blk h.rbk (by decide),B.blk h.qbk (by decide),B.blk h.fbk (by decide),h.ne,h.lo,h.i0.far B (by decide) (by decide),h.i1.far B (by decide) (by decide),us,D,bh J M (fun g Z O=>hn g Z (zD.1 O)),I⟩
theorem cH.app0 {x:In} (h:cH W base qb rb fb v0 v1 v2 ins jobs outs) (J:us.length=ins.length) (Z:W.ownsRow base 173 3 v0 ins.length us.flatten) (M:∀ j (h:j<ins.length) (h':j<us.length),fo W base us[j] ins[j]) (hx:fo W base cs x) (U:(W.alloc o).grownBy W7 v0.ownBlock) (D:W7.ownsRow base 173 3 u (ins.length+1) (us.flatten++cs)):cH (W7.setCell ⟨fb,0,none⟩ u) base qb rb fb u v1 v2 (ins++[x]) jobs outs:=by
 have I:=av Z;have A:=gv (S:=[9,109,59,179,47]) (k:=0) (u:=u) h U I (by decide) (by decide);have O:ap (W7.setCell ⟨fb,0,none⟩ u) rb 79 #[zR none 0 0,zR none 0 0,zR none 0 0]:=h.rbk.keep A.1 (fun B=>by
  rcases List.mem_append.1 B with B|B
  ·exact (I rb (by simpa using B)).ne h.rbk.ty (by decide) rfl
  exact h.ne (zD.1 B))
 exact ⟨O,A.blk h.qbk (by decide),e6 (h.fbk7 U I (by decide)),h.ne,h.lo,bX.snoc J (fun j h1 h2=>fo.far A (by decide) _ _ (M j h1 h2)) (fo.far A (by decide) _ _ hx) (jN h U I (by decide) D),h.i1.far A (by decide) (by decide),h.i2.far A (by decide)⟩
theorem cH.app1 {x:Jb} (h:cH W base qb rb fb v0 v1 v2 ins jobs outs) (J:us.length=jobs.length) (Z:W.ownsRow base 59 15 v1 jobs.length us.flatten) (M:∀ j (h:j<jobs.length) (h':j<us.length),fp W base us[j] jobs[j]) (hx:fp W base cs x) (U:(W.alloc o).grownBy W7 v1.ownBlock) (D:W7.ownsRow base 59 15 u (jobs.length+1) (us.flatten++cs)):cH (W7.setCell ⟨fb,1,none⟩ u) base qb rb fb v0 u v2 ins (jobs++[x]) outs:=by
 have I:=av Z;have A:=gv (S:=[9,109,173,179,47]) (k:=1) (u:=u) h U I (by decide) (by decide);have O:ap (W7.setCell ⟨fb,1,none⟩ u) rb 79 #[zR none 0 0,zR none 0 0,zR none 0 0]:=h.rbk.keep A.1 (fun B=>by
  rcases List.mem_append.1 B with B|B
  ·exact (I rb (by simpa using B)).ne h.rbk.ty (by decide) rfl
  exact h.ne (zD.1 B))
 exact ⟨O,A.blk h.qbk (by decide),eh (h.fbk7 U I (by decide)),h.ne,h.lo,h.i0.far A (by decide) (by decide),bX.snoc J (fun j h1 h2=>fp.far A (by decide) _ _ (M j h1 h2)) (fp.far A (by decide) _ _ hx) (jN h U I (by decide) D),h.i2.far A (by decide)⟩
theorem cH.app2 {x:Pb} (h:cH W base qb rb fb v0 v1 v2 ins jobs outs) (J:us.length=outs.length) (Z:W.ownsRow base 179 3 v2 outs.length us.flatten) (M:∀ j (h:j<outs.length) (h':j<us.length),oI W base us[j] outs[j]) (hx:oI W base cs x) (U:(W.alloc o).grownBy W7 v2.ownBlock) (B:W7.ownsRow base 179 3 u (outs.length+1) (us.flatten++cs)):cH (W7.setCell ⟨fb,2,none⟩ u) base qb rb fb v0 v1 u ins jobs (outs++[x]):=by
 have I:=av Z;have D:=gv (S:=[9,109,173,59,47]) (k:=2) (u:=u) h U I (by decide) (by decide);have O:ap (W7.setCell ⟨fb,2,none⟩ u) rb 79 #[zR none 0 0,zR none 0 0,zR none 0 0]:=h.rbk.keep D.1 (fun A=>by
  rcases List.mem_append.1 A with A|A
  ·exact (I rb (by simpa using A)).ne h.rbk.ty (by decide) rfl
  exact h.ne (zD.1 A))
 exact ⟨O,D.blk h.qbk (by decide),ei (h.fbk7 U I (by decide)),h.ne,h.lo,h.i0.far D (by decide) (by decide),h.i1.far D (by decide) (by decide),bX.snoc J (fun j h1 h2=>M j h1 h2) hx (jN h U I (by decide) B)⟩
end
theorem vN {y:World} {base:Nat} {v:Value} {l:List Tk} (h:y.ownsRow base 177 3 v l.length (bY l)) (J:fP l) (hw:tZ l):aE (y.alloc (zU #[v,zW zX 0,zW zX (-1)] 170)) y.heap.size l none:=by
 rcases h.2 with ⟨_,h0⟩|⟨g,B,ad,rfl,hb,O,h1,U,h3,h4⟩
 ·have:=J.pos;omega
 have Z:g<y.heap.size:=(Array.getElem?_eq_some_iff.1 O).1;have M:=(zN [] y).alloc (zU #[zR (some ⟨g,0,none⟩) l.length B,zW zX 0,zW zX (-1)] 170);obtain ⟨A,c,e,I⟩:=ao h;injection e with e1 e2 e3;subst e1 e3;obtain ⟨g',D,_,I⟩:=I J.pos;injection D with D;injection D with D;subst D;exact ⟨g,0,B,zO _ _ _,⟨cD.keep ⟨_,_,O⟩ M (by simp),Z⟩,h1,U,J,hw,(fun z hz=>by cases hz),fun j u hu=>by rw[Nat.zero_add];exact M.cell_of (I j u hu) (by simp)⟩
theorem yN (a b:Int) (W:World):(binOp .neq 47 (.agg #[zW zX a,zW zX b]) (.agg #[zW zX 0,zW zX (-1)])).run zy W= .ok (.bool (!(decide (a=0)&&decide (b= -1)))) W:=by
 simp[go_sem];by_cases A:a=0<;>by_cases h:b= -1<;>simp[A,h,go_sem]
theorem sC:∀ (f:Nat) (s:Bs) (i:Nat) (A:List Tk) (x:Int×Int),cQ f s i A= .error x→0<x.1:=by
 intro f
 induction f with
 | zero=>intro s i A x h;cases h
 | succ f ih =>
  intro s i A x h
  cases s with
  | nil=>cases h
  | cons c t =>
   rw[iN] at h;split at h
   ·exact ih _ _ _ _ h
   split at h
   ·injection h with h;rw[←h];exact (by decide:(0:Int)<3)
   split at h
   ·injection h with h;rw[←h];exact (by decide:(0:Int)<4)
   exact ih _ _ _ _ h
theorem iO {α β:Type} {w:Bs} {A:List Tk→Except (Int×Int) (α×List Tk)} {n:Nat} {q:List Tk} {B:List α} (F:List α×List Tk→Except (Int×Int) (β×List Tk)) (h:aG w q=true) (I:0<n) (D:B.length≠16):(bp w A n q B >>= F)=(A q >>= fun p=>bp w A (n-1) p.2 (B++[p.1]) >>= F):=by
 obtain ⟨n,rfl⟩:∃ m,n=m+1:=⟨n-1,by omega⟩
 conv=>lhs;arg 1;unfold bp
 rw[h,if_pos rfl,if_neg D];rcases A q with x|⟨a,r⟩<;>rfl
def yg (R:Except (Int×Int) Fl) (base:Nat) (e:Ending) (w':World):Prop:=match R with
 | .ok f=>∃ v0 v1 v2,e=zT (.tuple #[.agg #[v0,v1,v2],.agg #[zW zX 0,zW zX (-1)]])∧iB w' base v0 f.ins∧fH w' base v1 f.jobs∧fI w' base v2 f.outs
 | .error x=>e=zT (.tuple #[.agg #[zR none 0 0,zR none 0 0,zR none 0 0],.agg #[zW zX x.1,zW zX x.2]])
theorem ot (h:Array Value) (rb qb:Nat) (W:World) (a b c:Value) (d e:Int) (D:h[2]? = some (zS (some ⟨rb,0,none⟩))) (J:h[3]? = some (zS (some ⟨qb,0,none⟩)))
  (M:W.cell? ⟨rb,0,none⟩=some a) (z1:W.cell? ⟨rb,1,none⟩=some b) (A:W.cell? ⟨rb,2,none⟩=some c) (I:W.cell? ⟨qb,0,none⟩=some (zW zX d)) (B:W.cell? ⟨qb,1,none⟩=some (zW zX e)) :
  (results Tryz.f37 h).run zy W= .ok (.tuple #[.agg #[a,b,c],.agg #[zW zX d,zW zX e]]) W:=by
 simp[results,Tryz.results37,go_sem,D,J,M,z1,A,I,B]
def vO (at_:Int) (a b:Bs):List Tk→Except (Int×Int) (Pb×List Tk):=fun r=>aq [59] r >>= fun r=> .ok (⟨at_,a,b⟩,r)
def yO (at_:Int) (a:Bs):List Tk→Except (Int×Int) (Pb×List Tk):=fun r=>aj r >>= fun p=>vO at_ a p.1 p.2
def yh (at_:Int) (a:Bs):List Tk→Except (Int×Int) (Pb×List Tk):=fun r=>aq [61] r >>= yO at_ a
def yP (at_:Int):List Tk→Except (Int×Int) (Pb×List Tk):=fun r=>aj r >>= fun p=>yh at_ p.1 p.2
def zk (R:Except (Int×Int) Fl) (f:Fl):Option (Int×Int)→Prop
 | none=>R= .ok f
 | some y=>R= .error y
theorem sD {l:List Tk} {f:Fl} {q:List Tk} {x:Option (Int×Int)} (h:Rl cY l none f q x):zk (dX l) f (if (ax q).kind≠5 then cr x 3 q else x):=by
 cases x with
 | some y =>
  have B:cY l= .error y:=h;have e:(if (ax q).kind≠5 then cr (some y) 3 q else some y)=some y:=by split<;>rfl
  rw[e];show dX l= .error y;unfold dX;rw[B];rfl
 | none =>
  by_cases A:(ax q).kind≠5
  ·rw[if_pos A]
   show dX l= .error (3,(ax q).at_);unfold dX;rw[h.2];exact if_pos A
  rw[if_neg A];show dX l= .ok f;unfold dX;rw[h.2];exact if_neg A
theorem qB (s:Bs) (hs:s.length≤1000000) (w:World) (hE:iv w) (hR:gH w) :
  Calls zy 37 #[zQ (bs s)] w fun e w'=>yg (fE s) w.heap.size e w'∧aa [] w w':=by
 obtain ⟨i0,hi,l0,lh,ln⟩:=info_parts yA;obtain ⟨i1,hj,gb,lv,k5⟩:=info_parts yB;obtain ⟨i2,hp,lX,fz,lu⟩:=info_parts yC;obtain ⟨R,f3⟩:∃ R,fE s=R:=⟨_,rfl⟩
 rw[f3];unfold fE at f3;have HR:=zx f3;have hU:RB w w.heap.size:=⟨w,hE,hR,zN _ _,zz _⟩;have b7:=zx hU;have fv:=(zO w 79 #[zR none 0 0,zR none 0 0,zR none 0 0]).alloc (zU #[zW zX 0,zW zX 0] 47);have fn:=zO (w.alloc (zU #[zR none 0 0,zR none 0 0,zR none 0 0] 79)) 47 #[zW zX 0,zW zX 0];rw[gh] at fn;have ga:=((zN [] w).alloc (zU #[zR none 0 0,zR none 0 0,zR none 0 0] 79)).alloc (zU #[zW zX 0,zW zX 0] 47);have j3:((w.alloc (zU #[zR none 0 0,zR none 0 0,zR none 0 0] 79)).alloc (zU #[zW zX 0,zW zX 0] 47)).heap.size=w.heap.size+1+1:=by rw[gh,gh]
 clear f3 hE hR hU;go_enter Tryz.func37,Tryz.ntmps37
 go_upto_region 1 with (fail)
 obtain ⟨W2,js⟩:∃ z,(w.alloc (zU #[zR none 0 0,zR none 0 0,zR none 0 0] 79)).alloc (zU #[zW zX 0,zW zX 0] 47)=z:=⟨_,rfl⟩
 rw[js] at fv fn ga j3 ⊢;obtain ⟨qb,kl⟩:∃ z,w.heap.size+1=z:=⟨_,rfl⟩
 rw[kl] at fn ⊢;obtain ⟨rb,g6⟩:∃ z,w.heap.size=z:=⟨_,rfl⟩
 have hY:w.heap.size≤rb∧w.heap.size≤qb∧rb≠qb∧w.heap.size≤W2.heap.size:=by omega
 have aA:=zx hY;have lo:Hid (rb<W2.heap.size∧qb<W2.heap.size):=zx ⟨by omega,by omega⟩;rw[g6] at fv;try rw[g6]
 have i3:=zx fv;have j1:=zx fn;have kb:=zx ga;have HC:=zx (py s hs W2 (b7.out.quiet ga).renv);clear fv fn ga j3 js kl hY g6;go_wp2_with fail
 refine HC.out.mono ?_;rintro ev w3 ⟨ht,d6⟩;have ct:=zx (i3.out.keep d6 (by simp));have c7:=zx (j1.out.keep d6 (by simp));have hm:=zx (kb.out.trans d6);clear i3 j1 kb HC;rcases hL:kn s with x|l
 ·skip
  rw[hL] at ht;have cq:ev=zT (.tuple #[zR none 0 0,.agg #[zW zX x.1,zW zX x.2]]):=ht;subst cq;have HX:Hid (R= .error x):=zx (by rw[←HR.out,hL];rfl);have fz:0<x.1:=sC _ _ _ _ _ hL;obtain ⟨x1,x2⟩:=x;have f5:=yN x1 x2;rw[decide_eq_false (show ¬x1=0 by have:0<x1:=fz;omega)] at f5;have l5:∀ W,(binOp .neq 47 (.agg #[zW zX x1,zW zX x2]) (.agg #[zW zX 0,zW zX (-1)])).run zy W= .ok (.bool true) W:=f5
  clear ht hL fz f5;have h5:=zO w3 47 #[zW zX x1,zW zX x2];have co:aa [] w3 (w3.alloc (zU #[zW zX x1,zW zX x2] 47)):=(zN _ _).alloc _;have a5:=zx (ct.out.keep co (by simp));have ba:=zx (c7.out.keep co (by simp));have b3:=zx (hm.out.trans co);obtain ⟨T,hT⟩:∃ T,w3.heap.size=T:=⟨_,rfl⟩
  go_upto_region 2 with (fail)
  rw[hT] at h5;try rw[hT]
  obtain ⟨w4,d9⟩:∃ z,w3.alloc (zU #[zW zX x1,zW zX x2] 47)=z:=⟨_,rfl⟩
  rw[d9] at h5 a5 ba b3 ⊢;have mB:=zx h5;have t0:w4.cell? ⟨T,0,none⟩=some (zW zX x1):=h5.cell 0;have t1:w4.cell? ⟨T,1,none⟩=some (zW zX x2):=h5.cell 1;have lt:=h5.lt;obtain ⟨q0,q1⟩:=(b7.out.quiet b3.out).fine;have lq:=zB _ _ q0;have r0:w4.cell? ⟨rb,0,none⟩=some (zR none 0 0):=a5.out.cell 0;have r1:w4.cell? ⟨rb,1,none⟩=some (zR none 0 0):=a5.out.cell 1;have r2:w4.cell? ⟨rb,2,none⟩=some (zR none 0 0):=a5.out.cell 2;have h8:=a5.out.frozen 0;have j2:=a5.out.frozen 1;have hQ:=a5.out.frozen 2;have lr:=a5.out.lt;have p0:w4.cell? ⟨qb,0,none⟩=some (zW zX 0):=ba.out.cell 0;have p1:w4.cell? ⟨qb,1,none⟩=some (zW zX 0):=ba.out.cell 1;have j4:=ba.out.frozen 0;have jx:=ba.out.frozen 1;have lp:=ba.out.lt;have bb:=aA.out.2.2.1;have hZ:¬T=rb∧¬rb=T∧¬T=qb∧¬qb=T:=by have:=lo.out;have:=ct.out.lt;have:=c7.out.lt;omega
  obtain ⟨hZ,mA,m0,mY⟩:=hZ;clear co hT h5 d9 ct c7 d6;have hG:Hid (ap w4.drew rb 79 #[zR none 0 0,zR none 0 0,zR none 0 0]):=zx a5.out;have mU:Hid (ap w4.drew qb 47 #[zW zX 0,zW zX 0]):=zx ba.out;have mK:Hid (aa [] w w4.drew):=zx (b3.out.trans (zN [] w4).drew);go_upto_region 3 with (fail)
  go_region_law (fail)
  all_goals
   go_wp2;have bj:=ea (((ei (u:=zR none 0 0) (eh (u:=zR none 0 0) (e6 (u:=zR none 0 0) a5.out))).far (p:=⟨qb,0,none⟩) aA.out.2.2.1 (zW zX x1)).far (p:=⟨qb,1,none⟩) aA.out.2.2.1 (zW zX x2));have cu:=ea (((((ba.out.far (p:=⟨rb,0,none⟩) (Ne.symm aA.out.2.2.1) (zR none 0 0)).far (p:=⟨rb,1,none⟩) (Ne.symm aA.out.2.2.1) (zR none 0 0)).far (p:=⟨rb,2,none⟩) (Ne.symm aA.out.2.2.1) (zR none 0 0)).set 0 (zW zX x1)).set 1 (zW zX x2));refine bodyPost_ret (v:= .tuple #[.agg #[zR none 0 0,zR none 0 0,zR none 0 0],.agg #[zW zX x1,zW zX x2]]) (ot _ rb qb _ (zR none 0 0) (zR none 0 0) (zR none 0 0) (x1) (x2) rfl rfl (bj.cell 0) (bj.cell 1) (bj.cell 2) (cu.cell 0) (cu.cell 1)) rfl ?_;exact ⟨by rw[HX.out];rfl,(dS (dS (dS (dS (dS b3.out aA.out.1 _) aA.out.1 _) aA.out.1 _) aA.out.2.1 _) aA.out.2.1 _).drew⟩
 rw[hL] at ht;obtain ⟨A,cv,cq,gk⟩:=ht;subst cq;have gj:=zx gk;clear gk;have l1:Hid (dX l=R):=zx (by rw[←HR.out,hL];rfl);have he:=(i7 hs hL).1;have hw:=ua hs hL;have hX:l.length≤401:=(i7 hs hL).2.2;have lc:Hid (l.length≤1000000):=zx (by omega);have f5:∀ W,(binOp .neq 47 (.agg #[zW zX 0,zW zX (-1)]) (.agg #[zW zX 0,zW zX (-1)])).run zy W= .ok (.bool false) W:=fun W=>yN 0 (-1) W
 have h5:=zO w3 47 #[zW zX 0,zW zX (-1)];have co:aa [] w3 (w3.alloc (zU #[zW zX 0,zW zX (-1)] 47)):=(zN _ _).alloc _;have a5:=zx (ct.out.keep co (by simp));have ba:=zx (c7.out.keep co (by simp));have b3:=zx (hm.out.trans co);have ha:=zx (bg (gj.out.alloc (zU #[zW zX 0,zW zX (-1)] 47)) aA.out.2.2.2);obtain ⟨T,hT⟩:∃ T,w3.heap.size=T:=⟨_,rfl⟩
 go_upto_region 2 with (fail)
 rw[hT] at h5;try rw[hT]
 obtain ⟨w4,d9⟩:∃ z,w3.alloc (zU #[zW zX 0,zW zX (-1)] 47)=z:=⟨_,rfl⟩
 rw[d9] at h5 a5 ba b3 ha ⊢;have ih:=zx (b7.out.quiet b3.out);have t0:w4.cell? ⟨T,0,none⟩=some (zW zX 0):=h5.cell 0;have t1:w4.cell? ⟨T,1,none⟩=some (zW zX (-1)):=h5.cell 1;have lt:=h5.lt;obtain ⟨q0,q1⟩:=ih.out.fine;have lq:=zB _ _ q0;have hG:=zx (vN ha.out he hw);have g3:aa [] w4 (w4.alloc (zU #[zR A l.length cv,zW zX 0,zW zX (-1)] 170)):=(zN _ _).alloc _;have gm:=g3.alloc (zU #[zR none 0 0,zR none 0 0,zR none 0 0] 79);have g5:=gh w4 (zU #[zR A l.length cv,zW zX 0,zW zX (-1)] 170);have hK:=zO (w4.alloc (zU #[zR A l.length cv,zW zX 0,zW zX (-1)] 170)) 79 #[zR none 0 0,zR none 0 0,zR none 0 0];rw[g5] at hK;have il:=zx hK;have dB:=zx gm;have i5:=zx d6;clear co hT h5 d9 d6 hL he hw hX hK g3 gm g5;go_upto_block 0 with (fail)
 have M:Hid (aE ((w4.alloc (zU #[zR A l.length cv,zW zX 0,zW zX (-1)] 170)).alloc (zU #[zR none 0 0,zR none 0 0,zR none 0 0] 79)) w4.heap.size l none):=zx (hG.out.keep ((zN _ _).alloc _));have D:Hid (cH ((w4.alloc (zU #[zR A l.length cv,zW zX 0,zW zX (-1)] 170)).alloc (zU #[zR none 0 0,zR none 0 0,zR none 0 0] 79)) w.heap.size qb rb (w4.heap.size+1) (zR none 0 0) (zR none 0 0) (zR none 0 0) [] [] []):=zx ⟨a5.out.keep dB.out (by simp),ba.out.keep dB.out (by simp),il.out,by have:=a5.out.lt;omega,by have:=b3.out.size;omega,bX.nil,bX.nil,bX.nil⟩;have HK:Hid (aa [w4.heap.size] w ((w4.alloc (zU #[zR A l.length cv,zW zX 0,zW zX (-1)] 170)).alloc (zU #[zR none 0 0,zR none 0 0,zR none 0 0] 79))):=zx (b3.out.trans dB.out).of_nil;have f6:w.heap.size≤w4.heap.size:=b3.out.size;obtain ⟨y0,gb⟩:∃ z,(w4.alloc (zU #[zR A l.length cv,zW zX 0,zW zX (-1)] 170)).alloc (zU #[zR none 0 0,zR none 0 0,zR none 0 0] 79)=z:=⟨_,rfl⟩
 rw[gb] at M D HK ⊢;obtain ⟨fb,gi⟩:∃ z,w4.heap.size+1=z:=⟨_,rfl⟩
 rw[gi] at D ⊢;obtain ⟨b,hF⟩:∃ z,w4.heap.size=z:=⟨_,rfl⟩
 rw[hF] at M HK f6;try rw[hF]
 have km:=zx f6;have a8:w.heap.size≤b:=f6;have O:Hid (∀ f I J,Rl (fun r=>bp [105,110] bc r.length r [] >>= fU) l none f I J→Rl cY l none f I J):=zx (fun f I J hq=>Rl.congr (kS l) hq);clear hG dB il i5 gj gb gi hF t0 t1 lt q0 q1 lq a5 ba b3 ha ih ct c7 hm f6;go_upto_block 0 with (fail)
 go_cut [] (fun wx=>∃ (v0:Value) (ins:List In) (q:List Tk) (x1:Option (Int×Int)),Hid (∀ f I J,Rl (fun r=>fU (ins,r)) q x1 f I J→Rl cY l none f I J)∧Hid (q.length≤1000000)∧Hid (cH wx w.heap.size qb rb fb v0 (zR none 0 0) (zR none 0 0) ins [] [])∧Hid (aE wx b q x1)∧Hid (aa [b] w wx))
 case first =>
  go_wp2_with fail
  go_loopw [] (fun wx=>∃ (v0:Value) (ins:List In) (q:List Tk) (n:Nat) (x1:Option (Int×Int)),Hid (∀ f I J,Rl (fun r=>bp [105,110] bc n r ins >>= fU) q x1 f I J→Rl cY l none f I J)∧Hid (q.length≤n)∧Hid (q.length≤1000000)∧Hid (ins.length≤16)∧Hid (cH wx w.heap.size qb rb fb v0 (zR none 0 0) (zR none 0 0) ins [] [])∧Hid (aE wx b q x1)∧Hid (aa [b] w wx)) (fun wx=>fw b wx)
  case atStart=>exact ⟨_,[],l,l.length,none,O,zx (zz _),lc,zx (by simp),D,M,HK⟩
  clear D M HK O;obtain ⟨v0,ins,q,n,x1,O,c8,b4,d7,D,M,HK⟩:=hrel;obtain ⟨y,rfl⟩:∃ y:World,y=wr:=⟨_,rfl⟩
  have HM:=zx M.out.left;have bd:=zx (b7.out.one a8 HK.out);have HT:=cL [105,110] y bd.out.fine M.out
  cases hs:(x1.isNone&&aG [105,110] q) with
  | false =>
   rw[hs] at HT;have bl:=zx HT;have cf:Hid (∀ f I J,Rl (fun r=>fU (ins,r)) q x1 f I J→Rl cY l none f I J):=zx (fun f I J hq=>O.out f I J (by
    cases x1 with
    | some y=>have:=Rl.dead hq;subst this;exact rfl
    | none =>
     have hs':aG [105,110] q=false:=hs;exact Rl.congr (by rw[ij hs'];rfl) hq))
   clear HT hs;go_wp2_with fail
   refine bl.out.mono ?_;rintro ev w3 ⟨rfl,U⟩;have b0:=zx (D.out.keep U);have b1:=zx (M.out.keep U);have bB:=zx (HK.out.trans U.of_nil);clear U bl;go_wp2;go_meet;exact ⟨_,ins,q,x1,cf,b4,b0,b1,bB⟩
  | true =>
   rw[hs] at HT;have bl:=zx HT;have cg:x1=none∧aG [105,110] q=true:=by
    cases x1 with
    | some y=>cases hs
    | none=>exact ⟨rfl,hs⟩
   obtain ⟨rfl,c6⟩:=cg;have b6:=zx c6;clear HT hs c6;go_wp2_with fail
   refine bl.out.mono ?_;rintro ev w3 ⟨rfl,U⟩;have Z:=zx (D.out.keep U);have HP':=zx (M.out.keep U);have HK':=zx (HK.out.trans U.of_nil);have HE':=zx (bd.out.quiet U);clear D M HK bd bl U;have D:=Z;have M:=HP';have HK:=HK';have bd:=HE';clear Z HP' HK' HE';obtain ⟨y,rfl⟩:∃ y:World,y=w3:=⟨_,rfl⟩
   have es:=M.out.endT.pos;have c3:Hid (0<n):=zx (by have:=c8.out;omega);have lf:=D.out.fbk.lt;obtain ⟨us,b5,bA,ch⟩:=D.out.i0;obtain ⟨A,cv,rfl,-⟩:=ao bA;have bk:=zx bA;have d0:=zx b5;have ep:=zx ch;have c9:=HK;have f0:y.cell? ⟨fb,0,none⟩=some (zR A ins.length cv):=D.out.fbk.cell 0;have cx:=d7.out;clear bA b5 ch es;by_cases bq:ins.length=16
   ·have ez:(16:Int)≤(ins.length:Int):=by omega
    have HX:Hid (∀ f I J,Rl (fun r=>fU (ins,r)) q (cr none 4 q) f I J→Rl cY l none f I J):=zx (fun f I J hq=>O.out f I J (by
     have:=Rl.dead hq;subst this;show (bp [105,110] bc n q ins >>= _)=_;rw[eR b6.out c3.out bq];rfl))
    clear bq cx;go_wp2_with fail
    refine (aY 4 (by decide) y bd.out.fine M.out).mono ?_;rintro ev w4 ⟨rfl,hp,U⟩;have b0:=zx (D.out.rd M.out U);have bB:=zx (HK.out.trans U);have b1:=zx hp;clear hp U;go_wp2;go_meet;exact ⟨_,ins,q,_,HX,b4,b0,b1,bB⟩
   have ez:¬(16:Int)≤(ins.length:Int):=by omega
   have fS:y.cell? ⟨fb,0,none⟩=some (zR A ins.length cv)∧y.frozen? ⟨fb,0,none⟩=false:=⟨f0,D.out.fbk.frozen 0⟩;have c4:=zx (show ins.length+1≤maxLen∧(ins.length+1)*48≤140737488355328 by simp only[maxLen];omega);have hh:Hid (fb∉[b]):=zx (by have:=D.out.fbk.ty.ne M.out.ty (by decide);simpa using this);have cf:Hid (∀ x r x2,Rl bc q none x r x2→(∀ f I J,Rl (fun r=>bp [105,110] bc (n-1) r (ins++[x]) >>= fU) r x2 f I J→Rl cY l none f I J)):=zx (fun x r x2 ci f I J hq=>O.out f I J (Rl.congr (iO _ b6.out c3.out bq) (Rl.bind (Q:=fun x r=>bp [105,110] bc (n-1) r (ins++[x]) >>= fU) ci hq)));have HC:Hid (∀ W,aa [] y W→Calls zy 98 #[zS (some ⟨b,0,none⟩)] W fun e w'=>(∃ (x:In) (v:Value) (I:List Tk) (J:Option (Int×Int)),e=zT (.agg #[zW zX x.at_,zQ (bs x.name),v])∧w'.ownsRow w.heap.size 109 2 v x.cols.length (ah x.cols)∧aE w' b I J∧Rl bc q none x I J∧I.length<q.length)∧aa [b] W w'):=zx (fun W z=>(qx W (bd.out.quiet z) a8 (M.out.keep z) (b4.out)).mono (fun e w' ⟨x,v,I,J,h1,h2,h3,h4,h5,h6,h7⟩=>⟨⟨x,v,I,J,h1,bg h2 (zA c9.out.size z.size),h3,h4,h6 rfl b6.out⟩,h7⟩));have fg:Hid (∀ x,(ins++[x]).length≤16):=zx (fun x=>by simp;omega);clear bq cx;go_upto_region 9 with (fail)
   go_region_law (first|(refine step_append_lies _ (by rfl) _ _ _ (by rfl) w.heap.size 173 i0 _ 3 48 Tryz.underlying75 hi l0 lh ln rfl (by decide) (zR A ins.length cv) ins.length us.flatten (by rfl) ((bw bk.out a9.undrew (fun z hz=>⟨170,by rw[zD.1 hz];exact M.out.ty,by decide⟩)).alloc _) ⟨w6.heap.size,0,none⟩ 1 1 ([zW zX x.at_,zQ (bs x.name),zR Av x.cols.length ks]) (by rfl) rfl (zJ (heap_alloc_new _ _)) (by simp[Value.oneCell']) (by decide) c4.out.1 c4.out.2 (by have:=c9.out.size;have:=a9.size;have h9:y.drew.heap.size=y.heap.size:=rfl;simp;omega) _ rfl ?_;intro gw em w7 dq a4 ix hS;obtain ⟨hH,lm⟩:=az a4 (ay ⟨ek,g7⟩ _) (fun e=>(av (bw bk.out a9.undrew (fun z hz=>⟨170,by rw[zD.1 hz];exact M.out.ty,by decide⟩)) fb e).ne (D.out.rd M.out a9.undrew).fbk.ty (by decide) rfl);have l3:fb<w7.heap.size:=zB w7 ⟨fb,0,none⟩ hH)|(go_simp;go_at_call 98;refine (HC.out _ (zN [] y).drew).mono ?_;rintro e w6 ⟨⟨x,v,r,x2,rfl,i9,hB,ci,er⟩,a9⟩;obtain ⟨Av,ks,rfl,-⟩:=ao i9;obtain ⟨ek,g7⟩:=aC a9 fS hh.out;have lw:fb<w6.heap.size:=zB w6 ⟨fb,0,none⟩ ek))
   all_goals
    have cp:=D.out.rd M.out a9.undrew;have ds:=(bw bk.out a9.undrew (fun z hz=>⟨170,by rw[zD.1 hz];exact M.out.ty,by decide⟩));have c5:=fun j h1 h2=>fo.far (S:=qA) ⟨a9.undrew,fun z hz=>⟨170,by rw[zD.1 hz];exact M.out.ty,by decide⟩⟩ (by decide) _ _ (ep.out j h1 h2)
    have bj:=av ds;have el:=HK.out.trans a9.undrew;have hD:=zx (cH.app0 cp d0.out ds c5 ⟨_,rfl,i9⟩ a4 dq);have en:=zx (zj (k:=0) (u:=zR (some ⟨gw,0,none⟩) (ins.length+1) em) cp hB a4 bj (by decide) (by decide));have hM:=zx (cH.keeps7 (k:=0) (u:=zR (some ⟨gw,0,none⟩) (ins.length+1) em) cp el a4 (fun z hz=>(bk.out.lt z hz).1));have e4:=zx (cf.out _ _ _ ci);have dv:=zx er;clear cp ds c5 bj el;go_wp2;go_roundw
    case rel=>exact ⟨_,ins++[x],r,n-1,x2,e4,zx (by have:=dv.out;have:=c8.out;omega),zx (by have:=dv.out;have:=b4.out;omega),zx (fg.out x),hD,en,hM⟩
    case measure=>rw[en.out.left,HM.out];exact dv.out
 clear D M HK O;obtain ⟨v0,ins,q1,x1,O,i4,D,M,HK⟩:=hcut;obtain ⟨y1,rfl⟩:∃ y:World,y=wc:=⟨_,rfl⟩
 go_upto_block 2 with (fail)
 go_cut [] (fun wx=>∃ (v1:Value) (B:List Jb) (q:List Tk) (x1:Option (Int×Int)),Hid (∀ f I J,Rl (fun r=>fT ins (B,r)) q x1 f I J→Rl cY l none f I J)∧Hid (q.length≤1000000)∧Hid (cH wx w.heap.size qb rb fb v0 v1 (zR none 0 0) ins B [])∧Hid (aE wx b q x1)∧Hid (aa [b] w wx))
 case first =>
  go_wp2_with fail
  go_loopw [] (fun wx=>∃ (v1:Value) (B:List Jb) (q:List Tk) (n:Nat) (x1:Option (Int×Int)),Hid (∀ f I J,Rl (fun r=>bp [106,111,98] dL n r B >>= fT ins) q x1 f I J→Rl cY l none f I J)∧Hid (q.length≤n)∧Hid (q.length≤1000000)∧Hid (B.length≤16)∧Hid (cH wx w.heap.size qb rb fb v0 v1 (zR none 0 0) ins B [])∧Hid (aE wx b q x1)∧Hid (aa [b] w wx)) (fun wx=>fw b wx)
  case atStart=>exact ⟨_,[],q1,q1.length,x1,zx (fun f I J hq=>O.out f I J (Rl.congr rfl hq)),zx (zz _),i4,zx (by simp),D,M,HK⟩
  clear D M HK O;obtain ⟨v1,B,q,n,x1,O,c8,b4,d7,D,M,HK⟩:=hrel;obtain ⟨y,rfl⟩:∃ y:World,y=wr:=⟨_,rfl⟩
  have HM:=zx M.out.left;have bd:=zx (b7.out.one a8 HK.out);have HT:=cL [106,111,98] y bd.out.fine M.out
  cases hs:(x1.isNone&&aG [106,111,98] q) with
  | false =>
   rw[hs] at HT;have bl:=zx HT;have cf:Hid (∀ f I J,Rl (fun r=>fT ins (B,r)) q x1 f I J→Rl cY l none f I J):=zx (fun f I J hq=>O.out f I J (by
    cases x1 with
    | some y=>have:=Rl.dead hq;subst this;exact rfl
    | none =>
     have hs':aG [106,111,98] q=false:=hs;exact Rl.congr (by rw[ij hs'];rfl) hq))
   clear HT hs;go_wp2_with fail
   refine bl.out.mono ?_;rintro ev w3 ⟨rfl,U⟩;have b0:=zx (D.out.keep U);have b1:=zx (M.out.keep U);have bB:=zx (HK.out.trans U.of_nil);clear U bl;go_wp2;go_meet;exact ⟨_,B,q,x1,cf,b4,b0,b1,bB⟩
  | true =>
   rw[hs] at HT;have bl:=zx HT;have cg:x1=none∧aG [106,111,98] q=true:=by
    cases x1 with
    | some y=>cases hs
    | none=>exact ⟨rfl,hs⟩
   obtain ⟨rfl,c6⟩:=cg;have b6:=zx c6;clear HT hs c6;go_wp2_with fail
   refine bl.out.mono ?_;rintro ev w3 ⟨rfl,U⟩;have Z:=zx (D.out.keep U);have HP':=zx (M.out.keep U);have HK':=zx (HK.out.trans U.of_nil);have HE':=zx (bd.out.quiet U);clear D M HK bd bl U;have D:=Z;have M:=HP';have HK:=HK';have bd:=HE';clear Z HP' HK' HE';obtain ⟨y,rfl⟩:∃ y:World,y=w3:=⟨_,rfl⟩
   have es:=M.out.endT.pos;have c3:Hid (0<n):=zx (by have:=c8.out;omega);have lf:=D.out.fbk.lt;obtain ⟨us,b5,bA,ch⟩:=D.out.i1;obtain ⟨A,cv,rfl,-⟩:=ao bA;have bk:=zx bA;have d0:=zx b5;have ep:=zx ch;have c9:=HK;have f0:y.cell? ⟨fb,1,none⟩=some (zR A B.length cv):=D.out.fbk.cell 1;have cx:=d7.out;clear bA b5 ch es;by_cases bq:B.length=16
   ·have ez:(16:Int)≤(B.length:Int):=by omega
    have HX:Hid (∀ f I J,Rl (fun r=>fT ins (B,r)) q (cr none 4 q) f I J→Rl cY l none f I J):=zx (fun f I J hq=>O.out f I J (by
     have:=Rl.dead hq;subst this;show (bp [106,111,98] dL n q B >>= _)=_;rw[eR b6.out c3.out bq];rfl))
    clear bq cx;go_wp2_with fail
    refine (aY 4 (by decide) y bd.out.fine M.out).mono ?_;rintro ev w4 ⟨rfl,hp,U⟩;have b0:=zx (D.out.rd M.out U);have bB:=zx (HK.out.trans U);have b1:=zx hp;clear hp U;go_wp2;go_meet;exact ⟨_,B,q,_,HX,b4,b0,b1,bB⟩
   have ez:¬(16:Int)≤(B.length:Int):=by omega
   have fS:y.cell? ⟨fb,1,none⟩=some (zR A B.length cv)∧y.frozen? ⟨fb,1,none⟩=false:=⟨f0,D.out.fbk.frozen 1⟩;have c4:=zx (show B.length+1≤maxLen∧(B.length+1)*208≤140737488355328 by simp only[maxLen];omega);have hh:Hid (fb∉[b]):=zx (by have:=D.out.fbk.ty.ne M.out.ty (by decide);simpa using this);have cf:Hid (∀ x r x2,Rl dL q none x r x2→(∀ f I J,Rl (fun r=>bp [106,111,98] dL (n-1) r (B++[x]) >>= fT ins) r x2 f I J→Rl cY l none f I J)):=zx (fun x r x2 ci f I J hq=>O.out f I J (Rl.congr (iO _ b6.out c3.out bq) (Rl.bind (Q:=fun x r=>bp [106,111,98] dL (n-1) r (B++[x]) >>= fT ins) ci hq)));have HC:Hid (∀ W,aa [] y W→Calls zy 99 #[zS (some ⟨b,0,none⟩)] W fun e w'=>(∃ (x:Jb) (w2 w3 w4:Value) (I:List Tk) (J:Option (Int×Int)),e=zT (.agg #[zW zX x.at_,zW zX x.code,w2,w3,w4,zQ (bs x.op),zQ (bs x.left.col),zW zX x.left.val.kind,zW zX x.left.val.num,zQ (bs x.left.val.word),zQ (bs x.right.col),zW zX x.right.val.kind,zW zX x.right.val.num,zQ (bs x.right.val.word),zW zX x.retry])∧oH w' w.heap.size x w2 w3 w4∧aE w' b I J∧Rl dL q none x I J∧I.length<q.length)∧aa [b] W w'):=zx (fun W z=>(uo W (bd.out.quiet z) a8 (M.out.keep z) (b4.out)).mono (fun e w' ⟨x,v2,v3,v4,I,J,h1,h2,h3,h4,h5,h6,h7⟩=>⟨⟨x,v2,v3,v4,I,J,h1,⟨bg h2.o2 (zA c9.out.size z.size),bg h2.o3 (zA c9.out.size z.size),bg h2.o4 (zA c9.out.size z.size)⟩,h3,h4,h6 rfl b6.out⟩,h7⟩));have fg:Hid (∀ x,(B++[x]).length≤16):=zx (fun x=>by simp;omega);clear bq cx;go_upto_region 13 with (fail)
   go_region_law (first|(refine step_append_lies _ (by rfl) _ _ _ (by rfl) w.heap.size 59 i1 _ 15 208 Tryz.underlying76 hj gb lv k5 rfl (by decide) (zR A B.length cv) B.length us.flatten (by rfl) ((bw bk.out a9.undrew (fun z hz=>⟨170,by rw[zD.1 hz];exact M.out.ty,by decide⟩)).alloc _) ⟨w6.heap.size,0,none⟩ 1 1 ([zW zX x.at_,zW zX x.code,zR B2 x.outs.length d2,zR B3 x.ins.length d3,zR B4 x.cols.length d4,zQ (bs x.op),zQ (bs x.left.col),zW zX x.left.val.kind,zW zX x.left.val.num,zQ (bs x.left.val.word),zQ (bs x.right.col),zW zX x.right.val.kind,zW zX x.right.val.num,zQ (bs x.right.val.word),zW zX x.retry]) (by rfl) rfl (zJ (heap_alloc_new _ _)) (by simp[Value.oneCell']) (by decide) c4.out.1 c4.out.2 (by have:=c9.out.size;have:=a9.size;have h9:y.drew.heap.size=y.heap.size:=rfl;simp;omega) _ rfl ?_;intro gw em w7 dq a4 ix hS;obtain ⟨hH,lm⟩:=az a4 (ay ⟨ek,g7⟩ _) (fun e=>(av (bw bk.out a9.undrew (fun z hz=>⟨170,by rw[zD.1 hz];exact M.out.ty,by decide⟩)) fb e).ne (D.out.rd M.out a9.undrew).fbk.ty (by decide) rfl);have l3:fb<w7.heap.size:=zB w7 ⟨fb,1,none⟩ hH)|(go_simp;go_at_call 99;refine (HC.out _ (zN [] y).drew).mono ?_;rintro e w6 ⟨⟨x,w2,w3,w4,r,x2,rfl,cj,hB,ci,er⟩,a9⟩;obtain ⟨B2,d2,rfl,-⟩:=ao cj.o2;obtain ⟨B3,d3,rfl,-⟩:=ao cj.o3;obtain ⟨B4,d4,rfl,-⟩:=ao cj.o4;obtain ⟨ek,g7⟩:=aC a9 fS hh.out;have lw:fb<w6.heap.size:=zB w6 ⟨fb,1,none⟩ ek))
   all_goals
    have cp:=D.out.rd M.out a9.undrew;have ds:=(bw bk.out a9.undrew (fun z hz=>⟨170,by rw[zD.1 hz];exact M.out.ty,by decide⟩));have c5:=fun j h1 h2=>fp.far (S:=qA) ⟨a9.undrew,fun z hz=>⟨170,by rw[zD.1 hz];exact M.out.ty,by decide⟩⟩ (by decide) _ _ (ep.out j h1 h2)
    have bj:=av ds;have el:=HK.out.trans a9.undrew;have hD:=zx (cH.app1 cp d0.out ds c5 ⟨_,_,_,rfl,cj⟩ a4 dq);have en:=zx (zj (k:=1) (u:=zR (some ⟨gw,0,none⟩) (B.length+1) em) cp hB a4 bj (by decide) (by decide));have hM:=zx (cH.keeps7 (k:=1) (u:=zR (some ⟨gw,0,none⟩) (B.length+1) em) cp el a4 (fun z hz=>(bk.out.lt z hz).1));have e4:=zx (cf.out _ _ _ ci);have dv:=zx er;clear cp ds c5 bj el;go_wp2;go_roundw
    case rel=>exact ⟨_,B++[x],r,n-1,x2,e4,zx (by have:=dv.out;have:=c8.out;omega),zx (by have:=dv.out;have:=b4.out;omega),zx (fg.out x),hD,en,hM⟩
    case measure=>rw[en.out.left,HM.out];exact dv.out
 clear D M HK O;obtain ⟨v1,B,q2,x2,O,ir,D,M,HK⟩:=hcut;obtain ⟨y2,rfl⟩:∃ y:World,y=wc:=⟨_,rfl⟩
 go_upto_block 4 with (fail)
 go_cut [] (fun wx=>∃ (v2:Value) (outs:List Pb) (q:List Tk) (x1:Option (Int×Int)),Hid (∀ f I J,Rl (fun r=>fR ins B (outs,r)) q x1 f I J→Rl cY l none f I J)∧Hid (cH wx w.heap.size qb rb fb v0 v1 v2 ins B outs)∧Hid (aE wx b q x1)∧Hid (aa [b] w wx))
 case first =>
  go_wp2_with fail
  go_loopw [] (fun wx=>∃ (v2:Value) (outs:List Pb) (q:List Tk) (n:Nat) (x1:Option (Int×Int)),Hid (∀ f I J,Rl (fun r=>bp [111,117,116] ef n r outs >>= fR ins B) q x1 f I J→Rl cY l none f I J)∧Hid (q.length≤n)∧Hid (q.length≤1000000)∧Hid (outs.length≤16)∧Hid (cH wx w.heap.size qb rb fb v0 v1 v2 ins B outs)∧Hid (aE wx b q x1)∧Hid (aa [b] w wx)) (fun wx=>fw b wx)
  case atStart=>exact ⟨_,[],q2,q2.length,x2,zx (fun f I J hq=>O.out f I J (Rl.congr rfl hq)),zx (zz _),ir,zx (by simp),D,M,HK⟩
  clear D M HK O;obtain ⟨v2,outs,q,n,x1,O,c8,b4,d7,D,M,HK⟩:=hrel;obtain ⟨y,rfl⟩:∃ y:World,y=wr:=⟨_,rfl⟩
  have HM:=zx M.out.left;have bd:=zx (b7.out.one a8 HK.out);have HT:=cL [111,117,116] y bd.out.fine M.out
  cases hs:(x1.isNone&&aG [111,117,116] q) with
  | false =>
   rw[hs] at HT;have bl:=zx HT;have cf:Hid (∀ f I J,Rl (fun r=>fR ins B (outs,r)) q x1 f I J→Rl cY l none f I J):=zx (fun f I J hq=>O.out f I J (by
    cases x1 with
    | some y=>have:=Rl.dead hq;subst this;exact rfl
    | none =>
     have hs':aG [111,117,116] q=false:=hs;exact Rl.congr (by rw[ij hs'];rfl) hq))
   clear HT hs;go_wp2_with fail
   refine bl.out.mono ?_;rintro ev w3 ⟨rfl,U⟩;have b0:=zx (D.out.keep U);have b1:=zx (M.out.keep U);have bB:=zx (HK.out.trans U.of_nil);clear U bl;go_wp2;go_meet;exact ⟨_,outs,q,x1,cf,b0,b1,bB⟩
  | true =>
   rw[hs] at HT;have bl:=zx HT;have cg:x1=none∧aG [111,117,116] q=true:=by
    cases x1 with
    | some y=>cases hs
    | none=>exact ⟨rfl,hs⟩
   obtain ⟨rfl,c6⟩:=cg;have b6:=zx c6;clear HT hs c6;go_wp2_with fail
   refine bl.out.mono ?_;rintro ev w3 ⟨rfl,U⟩;have Z:=zx (D.out.keep U);have HP':=zx (M.out.keep U);have HK':=zx (HK.out.trans U.of_nil);have HE':=zx (bd.out.quiet U);clear D M HK bd bl U;have D:=Z;have M:=HP';have HK:=HK';have HE:=HE';clear Z HP' HK' HE';obtain ⟨y,rfl⟩:∃ y:World,y=w3:=⟨_,rfl⟩
   have es:=M.out.endT.pos;have c3:Hid (0<n):=zx (by have:=c8.out;omega);have lf:=D.out.fbk.lt;obtain ⟨us,b5,bA,ch⟩:=D.out.i2;obtain ⟨A,cv,rfl,-⟩:=ao bA;have bk:=zx bA;have d0:=zx b5;have f0:y.cell? ⟨fb,2,none⟩=some (zR A outs.length cv):=D.out.fbk.cell 2;have cx:=d7.out;clear bA b5 ch es;by_cases bq:outs.length=16
   ·have ez:(16:Int)≤(outs.length:Int):=by omega
    have HX:Hid (∀ f I J,Rl (fun r=>fR ins B (outs,r)) q (cr none 4 q) f I J→Rl cY l none f I J):=zx (fun f I J hq=>O.out f I J (by
     have:=Rl.dead hq;subst this;show (bp [111,117,116] ef n q outs >>= _)=_;rw[eR b6.out c3.out bq];rfl))
    clear bq cx;go_wp2_with fail
    refine (aY 4 (by decide) y HE.out.fine M.out).mono ?_;rintro ev w4 ⟨rfl,hp,U⟩;have b0:=zx (D.out.rd M.out U);have bB:=zx (HK.out.trans U);have b1:=zx hp;clear hp U;go_wp2;go_meet;exact ⟨_,outs,q,_,HX,b0,b1,bB⟩
   have ez:¬(16:Int)≤(outs.length:Int):=by omega
   have c4:=zx (show outs.length+1≤maxLen∧(outs.length+1)*40≤140737488355328 by simp only[maxLen];omega);have cf:Hid (∀ x r x2,Rl ef q none x r x2→(∀ f I J,Rl (fun r=>bp [111,117,116] ef (n-1) r (outs++[x]) >>= fR ins B) r x2 f I J→Rl cY l none f I J)):=zx (fun x r x2 ci f I J hq=>O.out f I J (Rl.congr (iO _ b6.out c3.out bq) (Rl.bind (Q:=fun x r=>bp [111,117,116] ef (n-1) r (outs++[x]) >>= fR ins B) ci hq)));have fg:Hid (∀ x,(outs++[x]).length≤16):=zx (fun x=>by simp;omega);obtain ⟨at_,hN⟩:∃ a,(ax q).at_=a:=⟨_,rfl⟩
   have mb:=O;clear O;have O:Hid (∀ i I J,Rl (fun r=>aq [111,117,116] r >>= yP at_) q none i I J→Rl ef q none i I J):=zx (fun i I J hq=>Rl.congr (by rw[←hN];rfl) hq);obtain ⟨g,o,c,c0,c1,c2,-,lb,lg,-,hn,hc,e9,k0,k1,k2,-⟩:=M.out.open';rw[hN] at k2;have ft:(0:Int)<(q.length:Int):=by omega
   clear bq cx hN;go_upto_region 18 with (fail)
   have cg:=zO y 179 #[zW zX at_,zQ ⟨#[]⟩,zQ ⟨#[]⟩];have et:=(zN [] y).alloc (zU #[zW zX at_,zQ ⟨#[]⟩,zQ ⟨#[]⟩] 179);have HP':=zx (M.out.keep et);have Z:=zx (D.out.keep et);have HK':=zx (HK.out.trans et.of_nil);have HE':=zx (HE.out.quiet et);have fu:Hid (w.heap.size≤y.heap.size∧fb≠y.heap.size∧rb≠y.heap.size∧qb≠y.heap.size∧∀ g,(Value.slice A outs.length cv).ownBlock=some g→g<y.heap.size):=zx ⟨HK.out.size,by omega,by have:=D.out.rbk.lt;omega,by have:=D.out.qbk.lt;omega,fun g hg=>(bk.out.lt g hg).2⟩;obtain ⟨xb,hV⟩:∃ x,y.heap.size=x:=⟨_,rfl⟩
   rw[hV] at cg fu ⊢;obtain ⟨z0,gs⟩:∃ x,y.alloc (zU #[zW zX at_,zQ ⟨#[]⟩,zQ ⟨#[]⟩] 179)=x:=⟨_,rfl⟩
   rw[gs] at cg HP' Z HK' HE' ⊢;have ad:=zx cg;clear cg et gs hV c0 c1 c2 lb lg hn hc e9 k0 k1 k2 ft lf f0 M D HK HE;have M:=HP';have D:=Z;have HK:=HK';have HE:=HE';clear HP' Z HK' HE';have a0:=zx (zz q.length);have HC:=zx (aJ [111,117,116] z0 HE.out.fine (HE.out.fne a8) M.out);go_wp2_with fail
   refine HC.out.mono ?_;rintro ev z1 ⟨rfl,⟨r1,o1,hp,hr,a7⟩,U⟩;have hu:Hid (r1.length<q.length):=zx (by
    rw[(cI hr b6.out).1,zL];have:=M.out.endT.pos;omega)
   have HIM':Hid (∀ i I J,Rl (yP at_) r1 o1 i I J→Rl ef q none i I J):=zx (fun i I J hq=>O.out i I J (Rl.must hr hq));clear O hr;have O:=HIM';clear HIM';have HXB':=zx (bG M.out U ad.out (by decide));have Z:=zx (D.out.rd M.out U);have HK':=zx (HK.out.trans U);have HE':=zx (HE.out.one a8 U);have HP':=zx hp;clear ad D HK HE M U hp HC;have ad:=HXB';have D:=Z;have HK:=HK';have HE:=HE';have M:=HP';clear HXB' Z HK' HE' HP';have bm:=zx (zA a7 a0.out);clear a7 a0;have a0:=bm;clear bm;have l4:=a0;clear a0;have a0:Hid (r1.length≤r1.length):=zx (zz _);have HC:=zx (aS z1 HE.out.fine (HE.out.fne a8) M.out);go_wp2_with fail
   refine HC.out.mono ?_;rintro ev y2 ⟨a2,q2,x2,rfl,hp,hr,hs,a7,U⟩;clear hs;have HIM':Hid (∀ i I J,Rl (yh at_ a2) q2 x2 i I J→Rl ef q none i I J):=zx (fun i I J hq=>O.out i I J (Rl.bind (Q:=fun a=>yh at_ a) hr hq));clear O hr;have O:=HIM';clear HIM';have HXB':=zx (bG M.out U ad.out (by decide));have Z:=zx (D.out.rd M.out U);have HK':=zx (HK.out.trans U);have HE':=zx (HE.out.one a8 U);have HP':=zx hp;clear ad D HK HE M U hp HC;have ad:=HXB';have D:=Z;have HK:=HK';have HE:=HE';have M:=HP';clear HXB' Z HK' HE' HP';have bm:=zx (zA a7 a0.out);clear a7 a0;have a0:=bm;clear bm;have ie:Hid (∀ g,(Value.slice A outs.length cv).ownBlock=some g→g≠xb):=zx (fun g hg=>Nat.ne_of_lt (fu.out.2.2.2.2 g hg));have e0:y2.cell? ⟨xb,1,none⟩=some (zQ ⟨#[]⟩):=ad.out.cell 1;have e1:=ad.out.frozen 1;have e2:=ad.out.lt;have e3:aa [xb] y2 (y2.setCell ⟨xb,1,none⟩ (zQ (bs a2))):=(zN _ _).setCell (.inl (by simp)) _;have hW:=zx ad.out.ty;have HXB':=zx (eh (u:=(zQ (bs a2))) ad.out);have HP':=zx (M.out.set ad.out (i:=1) (by decide) (by decide) (zQ (bs a2)));have Z:=zx (cH.pub D.out hW.out ie.out e3);have HK':=zx (HK.out.setCell (p:=⟨xb,1,none⟩) (.inr fu.out.1) (zQ (bs a2)));have HE':=zx (b7.out.one a8 HK'.out);clear e3 hW;go_upto_region 20 with (fail)
   obtain ⟨z3,hy⟩:∃ x,(y2.setCell ⟨xb,1,none⟩ (zQ (bs a2)))=x:=⟨_,rfl⟩
   rw[hy] at HXB' HP' Z HK' HE' ⊢;clear hy e0 e1 e2 ad M D HK HE;have ad:=HXB';have M:=HP';have D:=Z;have HK:=HK';have HE:=HE';clear HXB' HP' Z HK' HE';have HC:=zx (aJ [61] z3 HE.out.fine (HE.out.fne a8) M.out);go_wp2_with fail
   refine HC.out.mono ?_;rintro ev y4 ⟨rfl,⟨q4,x4,hp,hr,a7⟩,U⟩;have HIM':Hid (∀ i I J,Rl (yO at_ a2) q4 x4 i I J→Rl ef q none i I J):=zx (fun i I J hq=>O.out i I J (Rl.must hr hq));clear O hr;have O:=HIM';clear HIM';have HXB':=zx (bG M.out U ad.out (by decide));have Z:=zx (D.out.rd M.out U);have HK':=zx (HK.out.trans U);have HE':=zx (HE.out.one a8 U);have HP':=zx hp;clear ad D HK HE M U hp HC;have ad:=HXB';have D:=Z;have HK:=HK';have HE:=HE';have M:=HP';clear HXB' Z HK' HE' HP';have bm:=zx (zA a7 a0.out);clear a7 a0;have a0:=bm;clear bm;obtain ⟨bx,hA⟩:∃ bx,x4.isNone=bx:=⟨_,rfl⟩
   have hC:=aN y4 HE.out.fine M.out;rw[hA] at hC;have HC:=zx hC;have hJ:=zx hA;clear hC hA;go_wp2_with fail
   refine HC.out.mono ?_;rintro ev z5 ⟨rfl,U⟩;have HXB':=zx (ad.out.keep U (by simp));have Z:=zx (D.out.keep U);have HK':=zx (HK.out.trans U.of_nil);have HE':=zx (HE.out.quiet U);have HP':=zx (M.out.keep U);clear ad D HK HE M U HC;have ad:=HXB';have D:=Z;have HK:=HK';have HE:=HE';have M:=HP';clear HXB' Z HK' HE' HP';go_upto_if 77 with (fail)
   go_cut [] (fun wx=>∃ (bn:Bs) (r:List Tk) (J:Option (Int×Int)),Hid (ap wx xb 179 #[zW zX at_,zQ (bs a2),zQ (bs bn)])∧Hid (cH wx w.heap.size qb rb fb v0 v1 (zR A outs.length cv) ins B outs)∧Hid (aE wx b r J)∧Hid (∀ i I hv,Rl (vO at_ a2 bn) r J i I hv→Rl ef q none i I hv)∧Hid (aa [b] w wx)∧Hid (r.length≤r1.length))
   case first =>
    cases x4 with
    | some y =>
     have hb:bx=false:=hJ.out.symm;subst hb;have HD:Hid (∀ i I,Rl ef q none i I (some y)):=zx (fun i I=>O.out i I _ rfl);go_wp2;go_meet;exact ⟨[],q4,some y,ad,D,M,zx (fun i I hv hq=>by have:=Rl.dead hq;subst this;exact HD.out i I),HK,a0⟩
    | none =>
     have hb:bx=true:=hJ.out.symm;subst hb;have HC:=zx (aS z5 HE.out.fine (HE.out.fne a8) M.out);go_wp2_with fail
     refine HC.out.mono ?_;rintro ev y6 ⟨a6,q6,x6,rfl,hp,hr,hs,a7,U⟩;clear hs;have HIM':Hid (∀ i I J,Rl (vO at_ a2 a6) q6 x6 i I J→Rl ef q none i I J):=zx (fun i I J hq=>O.out i I J (Rl.bind (Q:=fun a=>vO at_ a2 a) hr hq));clear O hr;have O:=HIM';clear HIM';have HXB':=zx (bG M.out U ad.out (by decide));have Z:=zx (D.out.rd M.out U);have HK':=zx (HK.out.trans U);have HE':=zx (HE.out.one a8 U);have HP':=zx hp;clear ad D HK HE M U hp HC;have ad:=HXB';have D:=Z;have HK:=HK';have HE:=HE';have M:=HP';clear HXB' Z HK' HE' HP';have bm:=zx (zA a7 a0.out);clear a7 a0;have a0:=bm;clear bm;have e0:y6.cell? ⟨xb,2,none⟩=some (zQ ⟨#[]⟩):=ad.out.cell 2;have e1:=ad.out.frozen 2;have e2:=ad.out.lt;have e3:aa [xb] y6 (y6.setCell ⟨xb,2,none⟩ (zQ (bs a6))):=(zN _ _).setCell (.inl (by simp)) _;have HXB':=zx (ei (u:=zQ (bs a6)) ad.out);have HP':=zx (M.out.set ad.out (i:=2) (by decide) (by decide) (zQ (bs a6)));have Z:=zx (cH.pub D.out ad.out.ty ie.out e3);have HK':=zx (HK.out.setCell (p:=⟨xb,2,none⟩) (.inr fu.out.1) (zQ (bs a6)));clear e3;go_wp2;go_meet;exact ⟨a6,q6,x6,HXB',Z,HP',O,HK',a0⟩
   obtain ⟨bn,r5,x5,HXB',Z,HP',HIM',HK',g1⟩:=hcut;obtain ⟨z7,rfl⟩:∃ y:World,y=wc:=⟨_,rfl⟩
   clear ad D M O HK HE a0 hJ;have ad:=HXB';have D:=Z;have M:=HP';have O:=HIM';have HK:=HK';have a0:=g1;have HE:=zx (b7.out.one a8 HK.out);clear HXB' Z HP' HIM' HK' g1;have HC:=zx (aJ [59] z7 HE.out.fine (HE.out.fne a8) M.out);go_wp2_with fail
   refine HC.out.mono ?_;rintro ev y8 ⟨rfl,⟨q8,x8,hp,hr,a7⟩,U⟩;have HIM':Hid (∀ i I J,Rl (fun r=> .ok ((⟨at_,a2,bn⟩:Pb),r)) q8 x8 i I J→Rl ef q none i I J):=zx (fun i I J hq=>O.out i I J (Rl.must hr hq));clear O hr;have O:=HIM';clear HIM';have HXB':=zx (bG M.out U ad.out (by decide));have Z:=zx (D.out.rd M.out U);have HK':=zx (HK.out.trans U);have HE':=zx (HE.out.one a8 U);have HP':=zx hp;clear ad D HK HE M U hp HC;have ad:=HXB';have D:=Z;have HK:=HK';have HE:=HE';have M:=HP';clear HXB' Z HK' HE' HP';have bm:=zx (zA a7 a0.out);clear a7 a0;have a0:=bm;clear bm;have ka:Hid (Rl ef q none (⟨at_,a2,bn⟩:Pb) q8 x8):=zx (O.out _ _ _ (Rl.stay (fun _=>rfl)));have e4:=zx (cf.out _ _ _ ka.out);obtain ⟨us,b5,bA,ch⟩:=D.out.i2;have bk:=zx bA;have d0:=zx b5;have ep:=zx ch;clear bA b5 ch;have fc:y8.cell? ⟨fb,2,none⟩=some (zR A outs.length cv):=D.out.fbk.cell 2;have ff:=D.out.fbk.frozen 2;have lf:=D.out.fbk.lt;have c0':y8.cell? ⟨xb,0,none⟩=some (zW zX at_):=ad.out.cell 0;have c1':y8.cell? ⟨xb,1,none⟩=some (zQ (bs a2)):=ad.out.cell 1;have c2':y8.cell? ⟨xb,2,none⟩=some (zQ (bs bn)):=ad.out.cell 2;have lx:=ad.out.lt;have k8:=zx (show w.heap.size≤y8.heap.size+1 from Nat.le_succ_of_le HK.out.size);go_wp2_with (at_builtin;refine wpList_append_lies _ rfl _ _ 77 rfl _ 179 i2 _ 3 40 Tryz.underlying77 hp lX fz lu rfl (by decide) _ outs.length us.flatten rfl (bk.out.alloc _) ⟨y8.heap.size,0,none⟩ 1 1 [zW zX at_,zQ (bs a2),zQ (bs bn)] rfl rfl (zJ (heap_alloc_new _ _)) (by simp[Value.oneCell']) (by decide) c4.out.1 c4.out.2 (by simp;exact k8.out) _ rfl ?_)
   intro gw g0 w8 d8 bo jc it;obtain ⟨k6,m2⟩:=az bo (ay ⟨fc,ff⟩ _) (fun e=>(av bk.out fb e).ne D.out.fbk.ty (by decide) rfl);have mt:fb<w8.heap.size:=zB w8 ⟨fb,2,none⟩ k6;have ic:=av bk.out;have k9:=zx (cH.app2 (x:=⟨at_,a2,bn⟩) D.out d0.out bk.out ep.out rfl bo d8);have h0:=zx (zj (k:=2) (u:=zR (some ⟨gw,0,none⟩) (outs.length+1) g0) D.out M.out bo ic (by decide) (by decide));have k7:=zx (cH.keeps7 (k:=2) (u:=zR (some ⟨gw,0,none⟩) (outs.length+1) g0) D.out HK.out bo (fun z hz=>(bk.out.lt z hz).1));clear ic d8 bo jc it fc ff c0' c1' c2';go_wp2;go_roundw
   case rel=>exact ⟨_,outs++[⟨at_,a2,bn⟩],q8,n-1,x8,e4,zx (by have:=a0.out;have:=hu.out;have:=c8.out;omega),zx (by have:=a0.out;have:=hu.out;have:=b4.out;omega),zx (fg.out _),k9,h0,k7⟩
   case measure=>have:=a0.out;have:=hu.out;rw[h0.out.left,HM.out];omega
 clear D M HK O;obtain ⟨v2,outs,q3,x3,O,D,M,HK⟩:=hcut;obtain ⟨y3,rfl⟩:∃ y:World,y=wc:=⟨_,rfl⟩
 have jf:=zx (O.out ⟨ins,B,outs⟩ q3 x3 (Rl.stay (fun _=>rfl)));have f7:=sD jf.out;rw[l1.out] at f7;obtain ⟨kd,hf⟩:∃ kd,(ax q3).kind=kd:=⟨_,rfl⟩
 rw[hf] at f7;have eb:=zx f7;clear O jf f7;have HE:=zx (b7.out.one a8 HK.out);obtain ⟨g,o,c,c0,c1,c2,-,lb,lg,-,hn,hc,e9,k0,k1,k2,-⟩:=M.out.open';rw[hf] at k0;have ft:(0:Int)<(q3.length:Int):=by omega
 clear hf;go_upto_if 96 with (fail)
 go_cut [] (fun wx=>Hid (aE wx b q3 (if kd≠5 then cr x3 3 q3 else x3))∧Hid (cH wx w.heap.size qb rb fb v0 v1 v2 ins B outs)∧Hid (aa [b] w wx))
 case first =>
  by_cases d5:kd=5
  ·have e5:(kd != 5)=false:=by rw[d5];rfl
   have HZ:Hid (aE y3 b q3 (if kd≠5 then cr x3 3 q3 else x3)):=zx (by rw[if_neg (fun h=>h d5)];exact M.out);rw[e5];clear d5 c0 c1 c2 lb lg hn hc e9 k0 k1 k2 ft;go_wp2;go_meet;exact ⟨HZ,D,HK⟩
  have e5:(kd != 5)=true:=by rw[bne_iff_ne];exact d5
  have HF:=zx (aY 3 (by decide) y3 HE.out.fine M.out);have l2:Hid ((if kd≠5 then cr x3 3 q3 else x3)=cr x3 3 q3):=zx (if_pos d5);rw[e5];clear d5 c0 c1 c2 lb lg hn hc e9 k0 k1 k2 ft;go_wp2_with fail
  refine HF.out.mono ?_;rintro ev kz ⟨rfl,hp,U⟩;have HZ:Hid (aE kz b q3 (if kd≠5 then cr x3 3 q3 else x3)):=zx (by rw[l2.out];exact hp);have b0:=zx (D.out.rd M.out U);have bB:=zx (HK.out.trans U);clear hp U;go_wp2;go_meet;exact ⟨HZ,b0,bB⟩
 obtain ⟨HP',Z,HK'⟩:=hcut;obtain ⟨y4,rfl⟩:∃ y:World,y=wc:=⟨_,rfl⟩
 clear M D HK HE c0 c1 c2 lb lg hn hc e9 k0 k1 k2 ft;obtain ⟨x4,hP⟩:∃ x4,(if kd≠5 then cr x3 3 q3 else x3)=x4:=⟨_,rfl⟩
 rw[hP] at HP' eb;clear hP;have HE:=zx (b7.out.one a8 HK'.out);have HO:=zx (aN y4 HE.out.fine HP'.out)
 cases x4 with
 | some z =>
  have HX:Hid (R= .error z):=zx eb.out;go_wp2_with fail
  refine HO.out.mono ?_;rintro ev y5 ⟨cq,U⟩;have hev':ev=zT (.bool false):=cq;subst hev';have M:=zx (HP'.out.keep U);have D:=zx (Z.out.keep U);have HK:=zx (((zN [] w).trans' HK'.out (fun x hx hl=>by rw[zD.1 hx] at hl;have:=km.out;omega)).trans U);clear cq U HP' Z HK' HE HO eb;obtain ⟨g,o,c,c0,c1,c2,-,lb,lg,-⟩:=M.out.open';obtain ⟨z1,z2⟩:=z;have d1:y5.cell? ⟨b,1,none⟩=some (zW zX z1):=c1;have d2:y5.cell? ⟨b,2,none⟩=some (zW zX z2):=c2;have bb:=aA.out.2.2.1;have hO:¬b=rb∧¬rb=b∧¬b=qb∧¬qb=b:=by
   have a1:=D.out.rbk.ty.ne M.out.ty (by decide);have a2:=D.out.qbk.ty.ne M.out.ty (by decide);omega
  obtain ⟨hO,lk,kv,ls⟩:=hO;have r0:y5.cell? ⟨rb,0,none⟩=some (zR none 0 0):=D.out.rbk.cell 0;have r1:y5.cell? ⟨rb,1,none⟩=some (zR none 0 0):=D.out.rbk.cell 1;have r2:y5.cell? ⟨rb,2,none⟩=some (zR none 0 0):=D.out.rbk.cell 2;have h8:=D.out.rbk.frozen 0;have j2:=D.out.rbk.frozen 1;have hQ:=D.out.rbk.frozen 2;have lr:=D.out.rbk.lt;have p0:y5.cell? ⟨qb,0,none⟩=some (zW zX 0):=D.out.qbk.cell 0;have p1:y5.cell? ⟨qb,1,none⟩=some (zW zX 0):=D.out.qbk.cell 1;have j4:=D.out.qbk.frozen 0;have jx:=D.out.qbk.frozen 1;have lp:=D.out.qbk.lt;clear c0 c1 c2 lg;go_upto_region 28 with (fail)
  go_region_law (fail)
  all_goals
   go_wp2;have bj:=ea (((ei (u:=zR none 0 0) (eh (u:=zR none 0 0) (e6 (u:=zR none 0 0) D.out.rbk))).far (p:=⟨qb,0,none⟩) bb (zW zX z1)).far (p:=⟨qb,1,none⟩) bb (zW zX z2));have cu:=ea (((((D.out.qbk.far (p:=⟨rb,0,none⟩) (Ne.symm bb) (zR none 0 0)).far (p:=⟨rb,1,none⟩) (Ne.symm bb) (zR none 0 0)).far (p:=⟨rb,2,none⟩) (Ne.symm bb) (zR none 0 0)).set 0 (zW zX z1)).set 1 (zW zX z2));refine bodyPost_ret (v:= .tuple #[.agg #[zR none 0 0,zR none 0 0,zR none 0 0],.agg #[zW zX z1,zW zX z2]]) (ot _ rb qb _ (zR none 0 0) (zR none 0 0) (zR none 0 0) (z1) (z2) rfl rfl (bj.cell 0) (bj.cell 1) (bj.cell 2) (cu.cell 0) (cu.cell 1)) rfl ?_;exact ⟨by rw[HX.out];rfl,(dS (dS (dS (dS (dS HK.out aA.out.1 _) aA.out.1 _) aA.out.1 _) aA.out.2.1 _) aA.out.2.1 _).drew⟩
 | none =>
  have HX:Hid (R= .ok ⟨ins,B,outs⟩):=zx eb.out;go_wp2_with fail
  refine HO.out.mono ?_;rintro ev y5 ⟨cq,U⟩;have hev':ev=zT (.bool true):=cq;subst hev';have D:=zx (Z.out.keep U);have HK:=zx (((zN [] w).trans' HK'.out (fun x hx hl=>by rw[zD.1 hx] at hl;have:=km.out;omega)).trans U);have kx:=zx (HE.out.quiet U);clear cq U HP' Z HK' HE HO eb;obtain ⟨mn,_,g4,_⟩:=D.out.i0;obtain ⟨m1,_,g2,_⟩:=D.out.i1;obtain ⟨mE,_,gl,_⟩:=D.out.i2;obtain ⟨A0,n0,rfl,-⟩:=ao g4;obtain ⟨A1,n1,rfl,-⟩:=ao g2;obtain ⟨A2,n2,rfl,-⟩:=ao gl;clear g4 g2 gl;obtain ⟨q0,q1⟩:=kx.out.fine;have lq:=zB _ _ q0;have mp:=b7.out.flt;have bb:=aA.out.2.2.1;have lj:¬fb=rb∧¬rb=fb∧¬fb=qb∧¬qb=fb∧¬rb=0∧¬qb=0:=by
   have a1:=D.out.ne;have a2:=D.out.fbk.ty.ne D.out.qbk.ty (by decide);have a3:=aA.out;omega
  obtain ⟨hO,lk,kv,ls,mx,mI⟩:=lj;have f0:y5.cell? ⟨fb,0,none⟩=some (zR A0 ins.length n0):=D.out.fbk.cell 0;have f1:y5.cell? ⟨fb,1,none⟩=some (zR A1 B.length n1):=D.out.fbk.cell 1;have f2:y5.cell? ⟨fb,2,none⟩=some (zR A2 outs.length n2):=D.out.fbk.cell 2;have lf:=D.out.fbk.lt;have r0:y5.cell? ⟨rb,0,none⟩=some (zR none 0 0):=D.out.rbk.cell 0;have r1:y5.cell? ⟨rb,1,none⟩=some (zR none 0 0):=D.out.rbk.cell 1;have r2:y5.cell? ⟨rb,2,none⟩=some (zR none 0 0):=D.out.rbk.cell 2;have h8:=D.out.rbk.frozen 0;have j2:=D.out.rbk.frozen 1;have hQ:=D.out.rbk.frozen 2;have lr:=D.out.rbk.lt;have p0:y5.cell? ⟨qb,0,none⟩=some (zW zX 0):=D.out.qbk.cell 0;have p1:y5.cell? ⟨qb,1,none⟩=some (zW zX 0):=D.out.qbk.cell 1;have j4:=D.out.qbk.frozen 0;have jx:=D.out.qbk.frozen 1;have lp:=D.out.qbk.lt;go_upto_region 29 with (fail)
  go_region_law (fail)
  all_goals
   go_wp2;have bj:=ea (((ei (u:=zR A2 outs.length n2) (eh (u:=zR A1 B.length n1) (e6 (u:=zR A0 ins.length n0) D.out.rbk))).far (p:=⟨qb,0,none⟩) bb (zW zX 0)).far (p:=⟨qb,1,none⟩) bb (zW zX (-1)));have cu:=ea (((((D.out.qbk.far (p:=⟨rb,0,none⟩) (Ne.symm bb) (zR A0 ins.length n0)).far (p:=⟨rb,1,none⟩) (Ne.symm bb) (zR A1 B.length n1)).far (p:=⟨rb,2,none⟩) (Ne.symm bb) (zR A2 outs.length n2)).set 0 (zW zX 0)).set 1 (zW zX (-1)));refine bodyPost_ret (v:= .tuple #[.agg #[zR A0 ins.length n0,zR A1 B.length n1,zR A2 outs.length n2],.agg #[zW zX 0,zW zX (-1)]]) (ot _ rb qb _ (zR A0 ins.length n0) (zR A1 B.length n1) (zR A2 outs.length n2) (0) ((-1)) rfl rfl (bj.cell 0) (bj.cell 1) (bj.cell 2) (cu.cell 0) (cu.cell 1)) rfl ?_;have k3:aa [rb,qb] y5 (((((y5.setCell ⟨rb,0,none⟩ (zR A0 ins.length n0)).setCell ⟨rb,1,none⟩ (zR A1 B.length n1)).setCell ⟨rb,2,none⟩ (zR A2 outs.length n2)).setCell ⟨qb,0,none⟩ (zW zX 0)).setCell ⟨qb,1,none⟩ (zW zX (-1))).drew:=((((((zN [rb,qb] y5)).setCell (.inl (by simp)) _).setCell (.inl (by simp)) _).setCell (.inl (by simp)) _).setCell (.inl (by simp)) _).setCell (.inl (by simp)) _ |>.drew;have ho:cT [9,109,173,59,179] [rb,qb] y5 _:=⟨k3,fun z hz=>by
    rcases List.mem_cons.1 hz with rfl|hz
    ·exact ⟨79,D.out.rbk.ty,by decide⟩
    rw[zD.1 hz];exact ⟨47,D.out.qbk.ty,by decide⟩⟩
   exact ⟨by rw[HX.out];exact ⟨_,_,_,rfl,D.out.i0.far ho (by decide) (by decide),D.out.i1.far ho (by decide) (by decide),D.out.i2.far ho (by decide)⟩,(dS (dS (dS (dS (dS HK.out aA.out.1 _) aA.out.1 _) aA.out.1 _) aA.out.2.1 _) aA.out.2.1 _).drew⟩
end
section
open Go.RowKit Go.BigFrame
theorem sF {R:Except (Int×Int) Fl} {A:Nat} {e:Ending} {w':World} (h:yg R A e w') :
  ∃ I U O B n1 D M n2 J,e=zT (.tuple #[.agg #[zR I U O,zR B n1 D,zR M n2 J],.agg #[zW zX (pd R).2.1,zW zX (pd R).2.2]])∧fq w' A (zR I U O) (zR B n1 D) (zR M n2 J) (pd R).1:=by
 cases R with
 | ok f =>
  obtain ⟨v0,v1,v2,rfl,h0,h1,h2⟩:=h;have Z:fq w' A v0 v1 v2 f:=⟨h0,h1,h2⟩;obtain ⟨I,O,B,D,M,J,rfl,rfl,rfl⟩:=Z.forms;exact ⟨_,_,_,_,_,_,_,_,_,rfl,Z⟩
 | error x=>exact ⟨_,_,_,_,_,_,_,_,_,h,fq.nil _ _⟩
end
section
open Go.RowKit Go.BigFrame
attribute [local go_sem] ag ab ae af KW.cell
theorem fq.flt {W D:World} {A I:Nat} {O M J:Value} {f:Fl} {cs:Array Value} (h:fq W A O M J f) (Z:ap W I 47 cs) (U:aa [I] W D):fq D A O M J f:=by
 have B:cT kQ [I] W D:=⟨U,fun x hx=>by rw[zD.1 hx];exact ⟨_,Z.ty,by decide⟩⟩;exact ⟨h.i0.far B (by decide) (by decide),h.i1.far B (by decide) (by decide),h.i2.far B (by decide)⟩
theorem lN {α β:Type}:∀ {l:List (Bs×α)} {m:List (Bs×β)},l.map (·.1)=m.map (·.1)→mi l=mi m
 | [],[],_=>rfl
 | [],_::_,h=>by cases h
 | _::_,[],h=>by cases h
 | x::l,y::m,h=>by
  rw[List.map_cons,List.map_cons] at h;injection h with B A;have e:(l.lookup x.1).isSome=(m.lookup y.1).isSome:=by
   rw[Bool.eq_iff_iff,iA,iA,B,A]
  unfold mi;rw[e,lN A]
theorem pA:∀ {l:List In} {m:Cm} {x:Int×Int},f9 l m= .error x→x.1=3
 | [],m,x,h=>by cases h
 | a::l,m,x,h=>by
  rw[jD] at h;split at h
  ·exact pA h
  cases h;rfl
theorem iP:∀ {l:List (Bs×Int)} {s:List Bs} {x:Int×Int},aK l s= .error x→x.1=9
 | [],s,x,h=>by cases h
 | a::l,s,x,h=>by
  rw[dR] at h;split at h
  ·cases h;rfl
  exact iP h
theorem j9:∀ {l:List Jb} {s:List Bs} {x:Int×Int},aV s l= .error x→x.1=7
 | [],s,x,h=>by cases h
 | a::l,s,x,h=>by
  rw[gq] at h;split at h
  ·cases h;rfl
  exact j9 h
theorem lO:∀ {l:List Pb} {s t:List Bs} {x:Int×Int},bu s l t= .error x→x.1=7∨x.1=9
 | [],s,t,x,h=>by cases h
 | a::l,s,t,x,h=>by
  rw[gT] at h;split at h
  ·cases h;exact .inl rfl
  split at h
  ·cases h;exact .inr rfl
  exact lO h
theorem nB {f:Fl}:∀ {B:List Nat} {m:Cm} {x:Int×Int},cR f B m= .error x→x.1≠0∧x.1≠11
 | [],m,x,h=>by cases h
 | k::B,m,x,h=>by
  rw[iK] at h;unfold g8 at h;split at h
  ·rename_i e A
   cases h
   exact ⟨nr A,pa A⟩
  exact nB h
theorem qC {f:Fl} {x:Int×Int} (h:eg f= .error x):x.1≠0∧(x.1=11→bO f= .error x∧(f.jobs.flatMap (·.outs)).Nodup):=by
 rw[og] at h;unfold dl at h
 cases I:f9 f.ins [] with
 | error y =>
  rw[I] at h;cases h
  have:=pA I;exact ⟨by omega,fun e=>by omega⟩
 | ok m =>
  rw[I] at h;simp only at h
  cases B:aK (f.ins.map fun x=>(x.name,x.at_)) [] with
  | error y =>
   rw[B] at h;cases h
   have:=iP B;exact ⟨by omega,fun e=>by omega⟩
  | ok s =>
   rw[B] at h;simp only at h
   cases A:aK (aZ f.jobs) s with
   | error y =>
    rw[A] at h;cases h
    have:=iP A;exact ⟨by omega,fun e=>by omega⟩
   | ok U =>
    rw[A] at h;simp only at h;have M:(f.jobs.flatMap (·.outs)).Nodup:=by rw[←gt];exact jF A
    cases D:aV U f.jobs with
    | error y =>
     rw[D] at h;cases h
     have:=j9 D;exact ⟨by omega,fun e=>by omega⟩
    | ok u =>
     rw[D] at h;simp only at h
     cases J:bu U f.outs [] with
     | error y =>
      rw[J] at h;cases h
      have:=lO J;exact ⟨by omega,fun e=>by omega⟩
     | ok Z =>
      rw[J] at h;simp only at h
      cases O:bO f with
      | error y =>
       rw[O] at h;cases h
       have:=lD O;exact ⟨by omega,fun _=>⟨rfl,M⟩⟩
      | ok l =>
       rw[O] at h;have:=nB h;exact ⟨this.1,fun e=>absurd e this.2⟩
theorem qD {f:Fl} {m:Cm} (h:eg f= .ok m):(∃ l,bO f= .ok l)∧(f.jobs.flatMap (·.outs)).Nodup:=by
 rw[og] at h;unfold dl at h
 cases M:f9 f.ins [] with
 | error y=>rw[M] at h;cases h
 | ok m =>
  rw[M] at h;simp only at h
  cases D:aK (f.ins.map fun x=>(x.name,x.at_)) [] with
  | error y=>rw[D] at h;cases h
  | ok s =>
   rw[D] at h;simp only at h
   cases A:aK (aZ f.jobs) s with
   | error y=>rw[A] at h;cases h
   | ok I =>
    rw[A] at h;simp only at h;have B:(f.jobs.flatMap (·.outs)).Nodup:=by rw[←gt];exact jF A
    cases J:aV I f.jobs with
    | error y=>rw[J] at h;cases h
    | ok u =>
     rw[J] at h;simp only at h
     cases O:bu I f.outs [] with
     | error y=>rw[O] at h;cases h
     | ok Z =>
      rw[O] at h;simp only at h
      cases U:bO f with
      | error y=>rw[U] at h;cases h
      | ok l=>exact ⟨⟨l,rfl⟩,B⟩
theorem nC {a:Ar} (h:rJ a):a.val.word.length≤1000000000:=by
 rcases h with h|⟨_,h⟩|⟨_,h⟩
 ·rw[h];decide
 ·rw[h];decide
 obtain ⟨B,A,D⟩:=uX h;omega
theorem pS.shortJ {f:Fl} (h:pS f):tL f:=fun j B=>by
 have A:=h.jobs j B;have D:=A.op;exact ⟨by omega,nC A.left,nC A.right⟩
theorem pS.inCols {f:Fl} (h:pS f):∀ x∈f.ins,x.cols.length≤1000000∧∀ c∈x.cols,c.name.length≤1000000:=fun x D=>by
 have A:=h.ins x D;have I:=A.len;exact ⟨by omega,fun c B=>zA (A.cols c B).1.len (by decide)⟩
theorem jm (l:List Nat) (A B:Option Addr) (c d:Nat) (w:World) (U:Rd w [] 1 A l.length (cO l)) (O:Rd w [] 1 B l.length (cO l)) (hl:l.length≤4294967296) :
  Calls zy 43 #[zR A l.length c,zR B l.length d] w fun e w'=>e=zT (.bool true)∧aa [] w w':=by
 have HA:=zx U;have HB:=zx O;clear U O;go_enter Tryz.func43,Tryz.ntmps43
 go_wp2_with fail
 go_loopw [5] (fun i wr=>∃ n:Nat,n≤l.length∧i=zW zX n∧Hid (aa [] w wr)) (fun i _=>l.length-(intOf i).toNat)
 case atStart=>exact ⟨0,zE _,rfl,zx (zN _ _)⟩
 obtain ⟨n,hn,rfl,I⟩:=hrel;obtain ⟨z,rfl⟩:∃ z:World,z=wr:=⟨_,rfl⟩
 by_cases h:n<l.length
 ·have J:(n:Int)<(l.length:Int):=by omega
  have aA:(0:Int)≤(n:Int):=by omega
  obtain ⟨g,o,rfl,_,hg,Z⟩:=(HA.out.keep I.out).open' (by omega) (by decide);obtain ⟨g2,o2,rfl,_,a0,D⟩:=(HB.out.keep I.out).open' (by omega) (by decide);have d1:=Z n _ (gZ l n h);have d2:=D n _ (gZ l n h);have lg:g<z.heap.size:=zB _ _ d1;have ad:g2<z.heap.size:=zB _ _ d2;generalize l[n]=x at *;clear Z D;go_upto_region 6 with (fail)
  refine aB (by kernel_rfl) (by kernel_rfl) ?_;repeat (go_big_quiet_step (fail))
  refine wpQuiet_nil ?_;intro wx kx;have M:=zx (I.out.trans kx);go_wp2;go_roundw
  case rel=>exact ⟨n+1,by omega,by go_num,M⟩
  case measure=>simp[intOf];omega
 have J:¬(n:Int)<(l.length:Int):=by omega
 go_wp2;go_ret;exact ⟨rfl,I.out⟩
end
end Go.Proofs.YtpagiajlefejcaaGreatDoor
