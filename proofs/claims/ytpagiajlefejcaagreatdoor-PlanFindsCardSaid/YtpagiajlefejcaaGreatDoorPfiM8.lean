/- The parser's body. The parser's job. Flows in memory. Slices of whatever elements in memory: one of them. Flows in memory, as what only reads them sees them. -/
import Derived.Test.YtpagiajlefejcaaGreatDoorPfiM5
import Derived.Test.YtpagiajlefejcaaGreatDoorPfiM3
import Derived.Test.YtpagiajlefejcaaGreatDoorPfiM1
import Derived.Test.YtpagiajlefejcaaGreatDoorPfiM2
import Derived.Test.YtpagiajlefejcaaGreatDoorPfiM6
import Derived.Deep.CutBlock
set_option linter.unusedSimpArgs false
set_option linter.unusedVariables false
set_option maxRecDepth 100000
set_option maxHeartbeats 16000000
namespace Go.Proofs.YtpagiajlefejcaaGreatDoor
open Go.Lib renaming hid → zx
open Go.Proofs.Tryz renaming prog → zy
open _root_.Nat renaming le_refl → zz, le_trans → zA, zero_le → zE
open Go.World renaming block_lt_of_cell? → zB, news_of_block → zJ
open _root_.List renaming mem_singleton → zD, length_append → zF, length_cons → zG, getElem_mem → zH, getElem?_eq_getElem → zI, length_nil → zK, length_tail → zL, getD_eq_getElem?_getD → zM
open aa renaming refl → zN
open ap renaming new → zO
open Go.Value renaming string → zQ, slice → zR, pointer → zS, int → zW
open Go.Ending renaming returned → zT
open Go.Obj renaming cells → zU
open Go.IntKind renaming i64 → zX
section
open Go.RowKit Go.BigFrame
attribute [local go_sem] ag ab ae af
theorem tt {l:List Tk} {b jb lo:Nat} {v2 v3 v4:Value} (at_ code:Int) (outs ins cols:List Bs) (op:Bs) (left right:Ar) (A:Int) (w0 w:World) (Z:FB w0 lo) (M:lo≤b) (h:Ps w b l) (U:aa [b] w0 w) (D:w0.heap.size≤jb) (hj:ar w w0.heap.size jb ⟨at_,code,outs,ins,cols,op,left,right,A⟩ v2 v3 v4) (J:ins.length≤1000) (I:cols.length≤1000) (B:l.length≤1000000) :
  Calls zy 206 #[zS (some ⟨b,0,none⟩),zS (some ⟨jb,0,none⟩)] w fun e w'=>fx (am ⟨at_,code,outs,ins,cols,op,left,right,A⟩ l) b w0.heap.size jb e w'∧aa [b] w0 w':=by
 have ad:=fQ (ax l).text;by_cases O:(ax l).kind=1
 ·obtain ⟨c,hc⟩:∃ c,aQ (ax l).text=c:=⟨_,rfl⟩
  rw[hc] at ad;rcases c with _|_|_|_|_|_|_|_|_|_|c
  ·exact mR at_ code outs ins cols op left right A w0 w Z M h U D hj J I B hc
  ·exact xe at_ code outs ins cols op left right A w0 w Z M h U D hj J I B hc O
  ·exact xi at_ code outs ins cols op left right A w0 w Z M h U D hj J I B hc O
  ·exact xj at_ code outs ins cols op left right A w0 w Z M h U D hj J I B hc O
  ·exact xm at_ code outs ins cols op left right A w0 w Z M h U D hj J I B hc O
  ·exact wZ at_ code outs ins cols op left right A w0 w Z M h U D hj J I B hc O
  ·exact xh at_ code outs ins cols op left right A w0 w Z M h U D hj J I B hc O
  ·exact wY at_ code outs ins cols op left right A w0 w Z M h U D hj J I B hc O
  ·exact xp at_ code outs ins cols op left right A w0 w Z M h U D hj J I B hc O
  ·exact xg at_ code outs ins cols op left right A w0 w Z M h U D hj J I B hc O
  omega
 by_cases h0:aQ (ax l).text=0
 ·exact mR at_ code outs ins cols op left right A w0 w Z M h U D hj J I B h0
 exact rI at_ code outs ins cols op left right A w0 w Z M h U D hj J I B rfl h0 O
theorem kP:∀ (n:Nat) {l r:List Tk} {A ns:List Bs},bz n l A= .ok (ns,r)→r.length≤l.length
 | 0,l,r,A,ns,h=>by
  injection h with h;injection h with _ h;rw[h];exact zz _
 | n+1,l,r,A,ns,h=>by
  unfold bz at h;split at h
  ·rcases B:aj l.tail with x|⟨s,I⟩
   ·rw[B] at h;cases h
   rw[B,au] at h;have:=kP n h;have D:=aH B;rw[zL] at D;omega
  injection h with h;injection h with _ h;rw[h];exact zz _
theorem jy {l r:List Tk} {ns:List Bs} (h:bR l= .ok (ns,r)):r.length≤l.length:=by
 unfold bR at h;rcases A:aj l with x|⟨s,D⟩
 ·rw[A] at h;cases h
 rw[A,au] at h;have:=kP _ h;have B:=aH A;omega
structure oH (W:World) (base:Nat) (j:Jb) (v2 v3 v4:Value):Prop where
 o2:W.ownsRow base 9 1 v2 j.outs.length (strs j.outs)
 o3:W.ownsRow base 9 1 v3 j.ins.length (strs j.ins)
 o4:W.ownsRow base 9 1 v4 j.cols.length (strs j.cols)
def tu (R:Except (Int×Int) (Jb×List Tk)) (b h:Nat) (e:Ending) (w':World):Prop:=match R with
 | .ok (j,r)=>∃ B A D,e=zT (.agg (bZ j B A D))∧oH w' h j B A D∧Ps w' b r
 | .error x=>bV x e w'
theorem qX {l:List Tk} {b lo:Nat} (w:World) (hE:FB w lo) (b7:lo≤b) (h:Ps w b l) (ek:l.length≤1000000) :
  Calls zy 155 #[zS (some ⟨b,0,none⟩)] w fun e w'=>tu (dL l) b w.heap.size e w'∧aa [b] w w':=by
 obtain ⟨R,hR⟩:∃ R,dL l=R:=⟨_,rfl⟩
 rw[hR];unfold dL at hR;obtain ⟨at_,d1⟩:∃ at_,(ax l).at_=at_:=⟨_,rfl⟩
 rw[d1] at hR;have HR:=zx hR;have em:=zx ek;have ad:=zx (zz l.length);have d9:=zx (zz w.heap.size);have co:=zO w 59 #[zW zX 0,zW zX 0,zR none 0 0,zR none 0 0,zR none 0 0,zQ ⟨#[]⟩,zQ ⟨#[]⟩,zW zX 0,zW zX 0,zQ ⟨#[]⟩,zQ ⟨#[]⟩,zW zX 0,zW zX 0,zQ ⟨#[]⟩,zW zX 0];have bq:=(zN [] w).alloc (zU #[zW zX 0,zW zX 0,zR none 0 0,zR none 0 0,zR none 0 0,zQ ⟨#[]⟩,zQ ⟨#[]⟩,zW zX 0,zW zX 0,zQ ⟨#[]⟩,zQ ⟨#[]⟩,zW zX 0,zW zX 0,zQ ⟨#[]⟩,zW zX 0] 59);have d2:=gh w (zU #[zW zX 0,zW zX 0,zR none 0 0,zR none 0 0,zR none 0 0,zQ ⟨#[]⟩,zQ ⟨#[]⟩,zW zX 0,zW zX 0,zQ ⟨#[]⟩,zQ ⟨#[]⟩,zW zX 0,zW zX 0,zQ ⟨#[]⟩,zW zX 0] 59);have cu:Hid (w.heap.size∉[b]):=zx (by have:=h.lt;simp;omega);have c6:=hE.quiet bq;have cp:=h.keep bq;obtain ⟨M,b3⟩:∃ M,w.heap.size=M:=⟨_,rfl⟩
 rw[b3] at co cu;have d9:Hid (w.heap.size≤M):=zx (by omega);have et:=zx b3;clear hR ek b3;go_enter Tryz.func155,Tryz.ntmps155
 go_upto_region 1 with (fail)
 obtain ⟨w0,d7⟩:∃ x,w.alloc (zU #[zW zX 0,zW zX 0,zR none 0 0,zR none 0 0,zR none 0 0,zQ ⟨#[]⟩,zQ ⟨#[]⟩,zW zX 0,zW zX 0,zQ ⟨#[]⟩,zQ ⟨#[]⟩,zW zX 0,zW zX 0,zQ ⟨#[]⟩,zW zX 0] 59)=x:=⟨_,rfl⟩
 rw[d7] at co bq d2 c6 cp ⊢;rw[et.out];have en:=zx co;have a5:=zx bq;have HE:=zx c6;have c5:=zx cp;obtain ⟨g,o,c,c0,z0,lb,lg,-,hn,hc,d6,k0,k1,k2,-⟩:=cp.open';have ep:(0:Int)<(l.length:Int):=by omega
 clear co bq d2 c6 cp d7 h hE;rw[d1] at k2;go_upto_region 2 with (fail)
 have b6:=zO w0 59 #[zW zX at_,zW zX 0,zR none 0 0,zR none 0 0,zR none 0 0,zQ ⟨#[]⟩,zQ ⟨#[]⟩,zW zX 0,zW zX 0,zQ ⟨#[]⟩,zQ ⟨#[]⟩,zW zX 0,zW zX 0,zQ ⟨#[]⟩,zW zX 0];have cj:=(zN [] w0).alloc (zU #[zW zX at_,zW zX 0,zR none 0 0,zR none 0 0,zR none 0 0,zQ ⟨#[]⟩,zQ ⟨#[]⟩,zW zX 0,zW zX 0,zQ ⟨#[]⟩,zQ ⟨#[]⟩,zW zX 0,zW zX 0,zQ ⟨#[]⟩,zW zX 0] 59);have dB:=c5.out.keep cj;obtain ⟨y0,d8⟩:∃ x,w0.alloc (zU #[zW zX at_,zW zX 0,zR none 0 0,zR none 0 0,zR none 0 0,zQ ⟨#[]⟩,zQ ⟨#[]⟩,zW zX 0,zW zX 0,zQ ⟨#[]⟩,zQ ⟨#[]⟩,zW zX 0,zW zX 0,zQ ⟨#[]⟩,zW zX 0] 59)=x:=⟨_,rfl⟩
 rw[d8] at b6 cj dB ⊢;obtain ⟨jb,ds⟩:∃ jb,w0.heap.size=jb:=⟨_,rfl⟩
 have J:Hid (ar y0 w0.heap.size jb ⟨at_,0,[],[],[],[],⟨[],zV⟩,⟨[],zV⟩,0⟩ (zR none 0 0) (zR none 0 0) (zR none 0 0)):=zx (by
  rw[ds] at b6;exact ⟨b6,World.ownsRow_nil _ _ _ _,World.ownsRow_nil _ _ _ _,World.ownsRow_nil _ _ _ _,(fun g hg=>by cases hg),(fun g hg=>by cases hg),(fun g hg=>by cases hg)⟩)
 have HP:=zx dB;have O:Hid (aa [b] w0 y0):=zx cj.of_nil;have cv:Hid (w0.heap.size≤jb):=zx (by omega);rw[ds];clear b6 cj dB d8 ds d1 c0 z0 lb lg hn hc d6 k0 k1 k2 ep;rcases U:aq [106,111,98] l with x|r1
 ·have I:=HR.out
  rw[U,aD] at I;have HX:=zx I.symm;have HC:=zx (cE U y0 HP.out);clear I U;go_wp2_with fail
  refine HC.out.mono ?_;rintro ev w9 ⟨⟨gi,rfl,hb⟩,aA⟩;exact ⟨rfl,by rw[HX.out];exact ⟨gi,rfl,hb⟩,a5.out.of_nil.trans (O.out.trans aA)⟩
 have I:=HR.out;rw[U,au] at I;try dsimp only at I
 clear HR;have HR:=zx I;clear I;have HC:=zx (aX U y0 HP.out);have bd:Hid (r1.length≤l.length):=zx (by have:=ad.out;have:=aL U;omega);clear ad;have ad:=bd;clear bd;clear U;go_wp2_with fail
 refine HC.out.mono ?_;rintro ev y1 ⟨rfl,hp,hk⟩;have HJ':=zx (J.out.ps HP.out hk);have HK':=zx (O.out.trans hk);clear HP J O HC;have HP:=zx hp;have J:=HJ';have O:=HK';clear hp hk HJ' HK';have hc:=jw y1 HP.out (zA ad.out em.out);rcases U:bR r1 with x|⟨a2,r2⟩
 ·have I:=HR.out
  rw[U,aD] at I;have HX:=zx I.symm;rw[U] at hc;have dq:=zx hc;clear I U hc;go_wp2_with fail
  refine dq.out.mono ?_;rintro ev w9 ⟨⟨gi,rfl,hb⟩,aA⟩;exact ⟨rfl,by rw[HX.out];exact ⟨gi,rfl,hb⟩,a5.out.of_nil.trans (O.out.trans aA)⟩
 have I:=HR.out;rw[U,au] at I;try dsimp only at I
 clear HR;have HR:=zx I;clear I;rw[U] at hc;have bd:Hid (r2.length≤l.length):=zx (zA (jy U) ad.out);have HC:=zx hc;clear U hc ad;have ad:=bd;clear bd;go_wp2_with fail
 refine HC.out.mono ?_;rintro ev y2 ⟨⟨v2,rfl,bo,hp⟩,hk⟩;obtain ⟨A2,c2,hv,-⟩:=ao bo;subst hv;have e3:=zx bo;have ff:Hid (aT (zR A2 a2.length c2) (zR none 0 0)):=zx (aT.new J.out.o3 (fun g hg=>(bo.lt g hg).1)).symm;have e0:Hid (aT (zR A2 a2.length c2) (zR none 0 0)):=zx (aT.new J.out.o4 (fun g hg=>(bo.lt g hg).1)).symm;have fc:=zx O.out.size;clear bo;have HJ':=zx (J.out.ps HP.out hk);have HK':=zx (O.out.trans hk);clear HP J O HC;have HP:=zx hp;have J:=HJ';have O:=HK';clear hp hk HJ' HK';have fv:=J.out.blk.frozen 2;have el:y2.cell? ⟨jb,2,none⟩=some ((zR none 0 0)):=J.out.blk.cell 2;have lj:=J.out.blk.lt;have ba:aa [jb] y2 (y2.setCell ⟨jb,2,none⟩ (zR A2 a2.length c2)):=(zN _ _).setCell (.inl (by simp)) _;have HJ':=zx (J.out.put2 (bg e3.out fc.out) ff.out e0.out);have HP':=zx (HP.out.box J.out ba);have HK':=zx (O.out.box cv.out ba);clear ba;go_upto_region 4 with (fail)
 obtain ⟨y3,hy⟩:∃ x,(y2.setCell ⟨jb,2,none⟩ (zR A2 a2.length c2))=x:=⟨_,rfl⟩
 rw[hy] at HJ' HP' HK' ⊢;clear hy fv el lj J HP O;have J:=HJ';have HP:=HP';have O:=HK';clear HJ' HP' HK';obtain ⟨sb,dv⟩:∃ sb,aG [114,101,116,114,121] r2=sb:=⟨_,rfl⟩
 have hT:=ey [114,101,116,114,121] y3 HP.out;rw[dv] at hT;have HT:=zx hT;have bm:=zx dv;clear hT dv;go_wp2_with fail
 refine HT.out.mono ?_;rintro ev y4 ⟨rfl,hp,hk⟩;have HJ':=zx (J.out.ps HP.out hk);have HK':=zx (O.out.trans hk);clear HP J O HT;have HP:=zx hp;have J:=HJ';have O:=HK';clear hp hk HJ' HK';go_upto_if 21 with (fail)
 go_cut [] (fun wx=>∃ n r,bF r2= .ok (n,r)∧ar wx w0.heap.size jb (⟨at_,0,a2,[],[],[],⟨[],zV⟩,⟨[],zV⟩,n⟩:Jb) (zR A2 a2.length c2) (zR none 0 0) (zR none 0 0)∧Ps wx b r∧aa [b] w0 wx∧r.length≤l.length)
 case first =>
  cases sb with
  | false =>
   go_wp2;go_meet;exact ⟨0,r2,by unfold bF;rw[bm.out];rfl,J.out,HP.out,O.out,ad.out⟩
  | true =>
   obtain ⟨q,hq⟩:∃ q,r2.tail=q:=⟨_,rfl⟩
   have d0:Ps y4 b q:=by rw[←hq];exact HP.out
   have bA:=zx d0;have ch:=zx hq;have ez:Hid (q.length≤r2.length):=zx (by rw[←hq,zL];omega);obtain ⟨kd,ci⟩:∃ kd,(ax q).kind=kd:=⟨_,rfl⟩
   obtain ⟨tx,b5⟩:∃ tx,(ax q).text=tx:=⟨_,rfl⟩
   obtain ⟨fb,cq⟩:∃ at_,(ax q).at_=at_:=⟨_,rfl⟩
   have b1:=zx ci;have c7:=zx b5;obtain ⟨g,o,c,c0,z0,lb,lg,-,hn,hc,d6,k0,k1,k2,hw⟩:=d0.open';rw[ci] at k0;rw[b5] at k1;rw[cq] at k2;obtain ⟨c1,b4,-⟩:=hw;rw[b5] at c1 b4;rw[ci] at b4;have cx:=zx b4;have ep:(0:Int)<(q.length:Int):=by omega
   have a3:=zx ((zN [] y4).alloc (zU #[zW zX kd,zQ (bs tx),zW zX fb] 193));clear d0 ci b5 cq b4 hq HP;by_cases cf:kd=2
   ·subst cf
    have e4:Hid (∀ c∈tx,dk c=true):=zx (cx.out rfl);clear cx;rcases ha:Lib.atoiAll tx with n|_|_
    ·have ct:=eY ha e4.out
     have cg:=zx (fun W hW=>eZ ha c1 W hW);by_cases h5:5<n
     ·have a8:bF r2= .error (4,(ax q).at_):=by
       unfold bF;rw[if_pos bm.out,ch.out,if_neg (by rw[b1.out];simp),c7.out,ha];exact if_pos h5
      have HX:Hid (R= .error (4,(ax q).at_)):=zx (by
       have I:=HR.out;rw[a8,aD] at I;exact I.symm)
      clear a8;clear ha ct;go_wp2_with fail
      refine (cg.out _ (((HE.out.one b7 O.out).quiet a3.out).env)).mono ?_;rintro ev w3 ⟨rfl,a4⟩;have bj:=zx (a3.out.trans a4);clear a4;go_wp2_with fail
      refine (bD 4 _ (bA.out.keep bj.out)).mono ?_;rintro ev w9 ⟨⟨gi,rfl,hb⟩,aA⟩;exact ⟨rfl,by rw[HX.out];exact ⟨gi,rfl,hb⟩,a5.out.of_nil.trans ((O.out.trans (bj.out).of_nil).trans aA.of_nil)⟩
     have e9:Hid (bF r2= .ok (n,q.tail)):=zx (by
      unfold bF;rw[if_pos bm.out,ch.out,if_neg (by rw[b1.out];simp),c7.out,ha];show (if 5<n then _ else _)=_;rw[if_neg h5])
     have bB:(ax q).kind≠5:=by rw[b1.out];decide
     have hmore:=bA.out.more bB;have er:(1:Int)≤(q.length:Int):=by omega
     have es:(1:Int)<(c:Int):=by omega
     have eb:=zx bB;clear ha ct bB hmore;go_wp2_with fail
     refine (cg.out _ (((HE.out.one b7 O.out).quiet a3.out).env)).mono ?_;rintro ev w3 ⟨rfl,a4⟩;have bk:=zx (J.out.keep (a3.out.trans a4));have c9:=zx (bA.out.keep (a3.out.trans a4));have bj:=zx (O.out.trans (a3.out.trans a4).of_nil);have jf:=bk.out.blk.frozen 14;have jc:w3.cell? ⟨jb,14,none⟩=some (zW zX 0):=bk.out.blk.cell 14;have lj:=bk.out.blk.lt;have p0:w3.cell? ⟨b,0,none⟩=some (zR (some ⟨g,o,none⟩) q.length c):=(a3.out.trans a4).cell_of c0 (by simp);have pz:w3.frozen? ⟨b,0,none⟩=false:=((a3.out.trans a4).frozen lb (by simp)).trans z0;have hs:=zB _ _ p0;have ba:aa [jb] w3 (w3.setCell ⟨jb,14,none⟩ (zW zX n)):=(zN _ _).setCell (.inl (by simp)) _;have fu:Hid (ar (w3.setCell ⟨jb,14,none⟩ (zW zX n)) w0.heap.size jb (⟨at_,0,a2,[],[],[],⟨[],zV⟩,⟨[],zV⟩,n⟩:Jb) (zR A2 a2.length c2) (zR none 0 0) (zR none 0 0)):=zx (bk.out.box ba ((bk.out.blk.set 14 (zW zX n)).congr (by rfl)) rfl rfl rfl);have d4:=zx (c9.out.box bk.out ba);have ft:=zx (bj.out.box cv.out ba);have d5:=bk.out.blk.ty.ne c9.out.ty (by decide);have c5:Hid ((w3.setCell ⟨jb,14,none⟩ (zW zX n)).cell? ⟨b,0,none⟩=some (zR (some ⟨g,o,none⟩) q.length c)):=zx (ba.cell_of p0 (by simpa using d5.symm));have fz:=zx (fun n' a d=> @Ps.step _ b g o c q d4.out c5.out eb.out n' a d);clear a4 ba c9 bj bk;go_wp2;go_meet;have c8:=fz.out (q.length-1) ⟨g,o+3,none⟩ (c-1) rfl rfl rfl;exact ⟨n,q.tail,e9.out,fu.out.ps d4.out c8.2,c8.1,ft.out.trans c8.2,by have:=ad.out;have:=ez.out;rw[zL];omega⟩
    all_goals
     have a8:bF r2= .error (4,(ax q).at_):=by
      unfold bF;rw[if_pos bm.out,ch.out,if_neg (by rw[b1.out];simp),c7.out,ha];try rfl
     have HX:Hid (R= .error (4,(ax q).at_)):=zx (by
      have I:=HR.out;rw[a8,aD] at I;exact I.symm)
     clear a8;have cg:=zx (fun W hW=>eQ (s:=tx) (fun n h=>by rw[ha] at h;cases h) c1 W hW);clear ha;go_wp2_with fail
     refine (cg.out _ (((HE.out.one b7 O.out).quiet a3.out).env)).mono ?_;rintro ev w3 ⟨⟨n0,t0',g7,rfl⟩,a4⟩;have bj:=zx (a3.out.trans a4);clear a4;go_wp2_with fail
     refine (bD 4 _ (bA.out.keep bj.out)).mono ?_;rintro ev w9 ⟨⟨gi,rfl,hb⟩,aA⟩;exact ⟨rfl,by rw[HX.out];exact ⟨gi,rfl,hb⟩,a5.out.of_nil.trans ((O.out.trans (bj.out).of_nil).trans aA.of_nil)⟩
   have e2:(kd != 2)=true:=by rw[bne_iff_ne];exact cf
   have a8:bF r2= .error (3,(ax q).at_):=by
    unfold bF;rw[if_pos bm.out,ch.out,if_pos (by rw[b1.out];exact cf)];try rfl
   have HX:Hid (R= .error (3,(ax q).at_)):=zx (by
    have I:=HR.out;rw[a8,aD] at I;exact I.symm)
   clear a8;clear cf cx;go_wp2_with fail
   refine (bD 3 _ (bA.out.keep a3.out)).mono ?_;rintro ev w9 ⟨⟨gi,rfl,hb⟩,aA⟩;exact ⟨rfl,by rw[HX.out];exact ⟨gi,rfl,hb⟩,a5.out.of_nil.trans ((O.out.trans (a3.out).of_nil).trans aA.of_nil)⟩
 obtain ⟨n4,r4,a8,hj,hp,hk,d3⟩:=hcut;obtain ⟨yc,rfl⟩:∃ y:World,y=wc:=⟨_,rfl⟩
 have I:=HR.out;rw[a8,au] at I;try dsimp only at I
 clear HP J O HR ad bm;have HR:=zx I;have HP:=zx hp;have J:=zx hj;have O:=zx hk;have ad:=zx d3;clear hp hj hk I a8 d3;rcases U:aq [61] r4 with x|r5
 ·have I:=HR.out
  rw[U,aD] at I;have HX:=zx I.symm;have HC:=zx (cE U yc HP.out);clear I U;go_wp2_with fail
  refine HC.out.mono ?_;rintro ev w9 ⟨⟨gi,rfl,hb⟩,aA⟩;exact ⟨rfl,by rw[HX.out];exact ⟨gi,rfl,hb⟩,a5.out.of_nil.trans (O.out.trans aA)⟩
 have I:=HR.out;rw[U,au] at I;try dsimp only at I
 clear HR;have HR:=zx I;clear I;have HC:=zx (aX U yc HP.out);have bd:Hid (r5.length≤l.length):=zx (by have:=ad.out;have:=aL U;omega);clear ad;have ad:=bd;clear bd;clear U;go_wp2_with fail
 refine HC.out.mono ?_;rintro ev y5 ⟨rfl,hp,hk⟩;have HJ':=zx (J.out.ps HP.out hk);have HK':=zx (O.out.trans hk);clear HP J O HC;have HP:=zx hp;have J:=HJ';have O:=HK';clear hp hk HJ' HK';have hc:=tt at_ 0 a2 [] [] [] ⟨[],zV⟩ ⟨[],zV⟩ n4 w0 y5 HE.out b7 HP.out O.out cv.out J.out (by simp) (by simp) (zA ad.out em.out);rcases U:am (⟨at_,0,a2,[],[],[],⟨[],zV⟩,⟨[],zV⟩,n4⟩:Jb) r5 with x|⟨jx,r6⟩
 ·have I:=HR.out
  rw[show aM at_ a2 n4=(⟨at_,0,a2,[],[],[],⟨[],zV⟩,⟨[],zV⟩,n4⟩:Jb) from rfl,U,aD] at I;have HX:=zx I.symm;rw[U] at hc;have dq:=zx hc;clear I U hc;go_wp2_with fail
  refine dq.out.mono ?_;rintro ev w9 ⟨⟨gi,rfl,hb⟩,aA⟩;exact ⟨rfl,by rw[HX.out];exact ⟨gi,rfl,hb⟩,a5.out.of_nil.trans aA⟩
 have I:=HR.out;rw[show aM at_ a2 n4=(⟨at_,0,a2,[],[],[],⟨[],zV⟩,⟨[],zV⟩,n4⟩:Jb) from rfl,U,au] at I;try dsimp only at I
 clear HR;have HR:=zx I;rw[U] at hc;have HC:=zx hc;clear I U hc ad;go_wp2_with fail
 refine HC.out.mono ?_;rintro ev y6 ⟨⟨rfl,⟨hO,hQ,hM,hj⟩,hp⟩,hk⟩;clear HP J O HC;obtain ⟨bn,a9,a7,bb,a6,b0,B,A,a1⟩:=jx;have HP:=zx hp;have J:=zx hj;have O:=zx hk;clear hp hj hk;rcases U:aq [59] r6 with x|r7
 ·have I:=HR.out
  rw[U,aD] at I;have HX:=zx I.symm;have HC:=zx (cE U y6 HP.out);clear I U;go_wp2_with fail
  refine HC.out.mono ?_;rintro ev w9 ⟨⟨gi,rfl,hb⟩,aA⟩;exact ⟨rfl,by rw[HX.out];exact ⟨gi,rfl,hb⟩,a5.out.of_nil.trans (O.out.trans aA)⟩
 have I:=HR.out;rw[U,au] at I;try dsimp only at I
 clear HR;have HR:=zx I;clear I;have HC:=zx (aX U y6 HP.out);clear U;go_wp2_with fail
 refine HC.out.mono ?_;rintro ev Z ⟨rfl,hp,hk⟩;have HJ':=zx (J.out.ps HP.out hk);have HK':=zx (O.out.trans hk);clear HP J O HC;have HP:=zx hp;have J:=HJ';have O:=HK';clear hp hk HJ' HK';obtain ⟨A2,c2,fg,-⟩:=ao J.out.o2;obtain ⟨A3,c3,fn,-⟩:=ao J.out.o3;obtain ⟨A4,c4,e5,-⟩:=ao J.out.o4;subst fg fn e5;have D:=zx (en.out.keep O.out cu.out);have HX:=zx HR.out.symm;clear HR;have hP:Z.cell? ⟨jb,0,none⟩=some (zW zX bn):=J.out.blk.cell 0;have g5:Z.cell? ⟨M,0,none⟩=some (zW zX 0):=D.out.cell 0;have g6:=D.out.frozen 0;have ho:Z.cell? ⟨jb,1,none⟩=some (zW zX a9):=J.out.blk.cell 1;have hF:Z.cell? ⟨M,1,none⟩=some (zW zX 0):=D.out.cell 1;have g2:=D.out.frozen 1;have el:Z.cell? ⟨jb,2,none⟩=some (zR A2 a7.length c2):=J.out.blk.cell 2;have hm:Z.cell? ⟨M,2,none⟩=some (zR none 0 0):=D.out.cell 2;have g4:=D.out.frozen 2;have g1:Z.cell? ⟨jb,3,none⟩=some (zR A3 bb.length c3):=J.out.blk.cell 3;have hK:Z.cell? ⟨M,3,none⟩=some (zR none 0 0):=D.out.cell 3;have hN:=D.out.frozen 3;have hU:Z.cell? ⟨jb,4,none⟩=some (zR A4 a6.length c4):=J.out.blk.cell 4;have g3:Z.cell? ⟨M,4,none⟩=some (zR none 0 0):=D.out.cell 4;have hJ:=D.out.frozen 4;have hh:Z.cell? ⟨jb,5,none⟩=some (zQ (bs b0)):=J.out.blk.cell 5;have hC:Z.cell? ⟨M,5,none⟩=some (zQ ⟨#[]⟩):=D.out.cell 5;have hf:=D.out.frozen 5;have hD:Z.cell? ⟨jb,6,none⟩=some (zQ (bs B.col)):=J.out.blk.cell 6;have hH:Z.cell? ⟨M,6,none⟩=some (zQ ⟨#[]⟩):=D.out.cell 6;have hG:=D.out.frozen 6;have gw:Z.cell? ⟨jb,7,none⟩=some (zW zX B.val.kind):=J.out.blk.cell 7;have hB:Z.cell? ⟨M,7,none⟩=some (zW zX 0):=D.out.cell 7;have hA:=D.out.frozen 7;have hz:Z.cell? ⟨jb,8,none⟩=some (zW zX B.val.num):=J.out.blk.cell 8;have hi:Z.cell? ⟨M,8,none⟩=some (zW zX 0):=D.out.cell 8;have he:=D.out.frozen 8;have ht:Z.cell? ⟨jb,9,none⟩=some (zQ (bs B.val.word)):=J.out.blk.cell 9;have g0:Z.cell? ⟨M,9,none⟩=some (zQ ⟨#[]⟩):=D.out.cell 9;have hu:=D.out.frozen 9;have f6:Z.cell? ⟨jb,10,none⟩=some (zQ (bs A.col)):=J.out.blk.cell 10;have gj:Z.cell? ⟨M,10,none⟩=some (zQ ⟨#[]⟩):=D.out.cell 10;have gs:=D.out.frozen 10
 have f3:Z.cell? ⟨jb,11,none⟩=some (zW zX A.val.kind):=J.out.blk.cell 11;have gk:Z.cell? ⟨M,11,none⟩=some (zW zX 0):=D.out.cell 11;have fS:=D.out.frozen 11;have f2:Z.cell? ⟨jb,12,none⟩=some (zW zX A.val.num):=J.out.blk.cell 12;have ga:Z.cell? ⟨M,12,none⟩=some (zW zX 0):=D.out.cell 12;have f0:=D.out.frozen 12;have gm:Z.cell? ⟨jb,13,none⟩=some (zQ (bs A.val.word)):=J.out.blk.cell 13;have f7:Z.cell? ⟨M,13,none⟩=some (zQ ⟨#[]⟩):=D.out.cell 13;have gl:=D.out.frozen 13;have f5:Z.cell? ⟨jb,14,none⟩=some (zW zX a1):=J.out.blk.cell 14;have gb:Z.cell? ⟨M,14,none⟩=some (zW zX 0):=D.out.cell 14;have f1:=D.out.frozen 14;have lj:=J.out.blk.lt;have lr:=D.out.lt;go_wp2;have a0:=(((((((((((((((D.out.set 0 (zW zX bn)).set 1 (zW zX a9)).set 2 (zR A2 a7.length c2)).set 3 (zR A3 bb.length c3)).set 4 (zR A4 a6.length c4)).set 5 (zQ (bs b0))).set 6 (zQ (bs B.col))).set 7 (zW zX B.val.kind)).set 8 (zW zX B.val.num)).set 9 (zQ (bs B.val.word))).set 10 (zQ (bs A.col))).set 11 (zW zX A.val.kind)).set 12 (zW zX A.val.num)).set 13 (zQ (bs A.val.word))).set 14 (zW zX a1));have y0':=a0.cell 0;have y1':=a0.cell 1;have y2':=a0.cell 2;have y3':=a0.cell 3;have y4':=a0.cell 4;have y5':=a0.cell 5;have y6':=a0.cell 6;have y7':=a0.cell 7;have y8':=a0.cell 8;have y9':=a0.cell 9;have y10':=a0.cell 10;have y11':=a0.cell 11;have y12':=a0.cell 12;have y13':=a0.cell 13;have y14':=a0.cell 14;refine bodyPost_ret (v:= .agg #[zW zX bn,zW zX a9,zR A2 a7.length c2,zR A3 bb.length c3,zR A4 a6.length c4,zQ (bs b0),zQ (bs B.col),zW zX B.val.kind,zW zX B.val.num,zQ (bs B.val.word),zQ (bs A.col),zW zX A.val.kind,zW zX A.val.num,zQ (bs A.val.word),zW zX a1]) (by simp[results,Tryz.results155,go_sem,y0',y1',y2',y3',y4',y5',y6',y7',y8',y9',y10',y11',y12',y13',y14']) rfl ⟨?_,?_⟩
 ·rw[HX.out]
  have bl:aa [M] Z (((((((((((((((Z.setCell ⟨M,0,none⟩ (zW zX bn)).setCell ⟨M,1,none⟩ (zW zX a9)).setCell ⟨M,2,none⟩ (zR A2 a7.length c2)).setCell ⟨M,3,none⟩ (zR A3 bb.length c3)).setCell ⟨M,4,none⟩ (zR A4 a6.length c4)).setCell ⟨M,5,none⟩ (zQ (bs b0))).setCell ⟨M,6,none⟩ (zQ (bs B.col))).setCell ⟨M,7,none⟩ (zW zX B.val.kind)).setCell ⟨M,8,none⟩ (zW zX B.val.num)).setCell ⟨M,9,none⟩ (zQ (bs B.val.word))).setCell ⟨M,10,none⟩ (zQ (bs A.col))).setCell ⟨M,11,none⟩ (zW zX A.val.kind)).setCell ⟨M,12,none⟩ (zW zX A.val.num)).setCell ⟨M,13,none⟩ (zQ (bs A.val.word))).setCell ⟨M,14,none⟩ (zW zX a1)):=((((((((((((((((zN _ _).setCell (.inl (by simp)) _).setCell (.inl (by simp)) _).setCell (.inl (by simp)) _).setCell (.inl (by simp)) _).setCell (.inl (by simp)) _).setCell (.inl (by simp)) _).setCell (.inl (by simp)) _).setCell (.inl (by simp)) _).setCell (.inl (by simp)) _).setCell (.inl (by simp)) _).setCell (.inl (by simp)) _).setCell (.inl (by simp)) _).setCell (.inl (by simp)) _).setCell (.inl (by simp)) _).setCell (.inl (by simp)) _);have hL:∀ x∈[M],cD Z x 59:=fun x hx=>by rw[zD.1 hx];exact D.out.ty
  exact ⟨_,_,_,rfl,⟨bf (bg J.out.o2 a5.out.size) bl hL (by decide),bf (bg J.out.o3 a5.out.size) bl hL (by decide),bf (bg J.out.o4 a5.out.size) bl hL (by decide)⟩,HP.out.far bl (fun x hx=>⟨59,hL x hx,by decide,by decide⟩)⟩
 have bl:aa [M] Z (((((((((((((((Z.setCell ⟨M,0,none⟩ (zW zX bn)).setCell ⟨M,1,none⟩ (zW zX a9)).setCell ⟨M,2,none⟩ (zR A2 a7.length c2)).setCell ⟨M,3,none⟩ (zR A3 bb.length c3)).setCell ⟨M,4,none⟩ (zR A4 a6.length c4)).setCell ⟨M,5,none⟩ (zQ (bs b0))).setCell ⟨M,6,none⟩ (zQ (bs B.col))).setCell ⟨M,7,none⟩ (zW zX B.val.kind)).setCell ⟨M,8,none⟩ (zW zX B.val.num)).setCell ⟨M,9,none⟩ (zQ (bs B.val.word))).setCell ⟨M,10,none⟩ (zQ (bs A.col))).setCell ⟨M,11,none⟩ (zW zX A.val.kind)).setCell ⟨M,12,none⟩ (zW zX A.val.num)).setCell ⟨M,13,none⟩ (zQ (bs A.val.word))).setCell ⟨M,14,none⟩ (zW zX a1)):=((((((((((((((((zN _ _).setCell (.inl (by simp)) _).setCell (.inl (by simp)) _).setCell (.inl (by simp)) _).setCell (.inl (by simp)) _).setCell (.inl (by simp)) _).setCell (.inl (by simp)) _).setCell (.inl (by simp)) _).setCell (.inl (by simp)) _).setCell (.inl (by simp)) _).setCell (.inl (by simp)) _).setCell (.inl (by simp)) _).setCell (.inl (by simp)) _).setCell (.inl (by simp)) _).setCell (.inl (by simp)) _).setCell (.inl (by simp)) _);exact (a5.out.of_nil.trans O.out).trans' bl (fun x hx hl=>by rw[zD.1 hx] at hl;have:=d9.out;omega)
theorem bw {W W':World} {base n size:Nat} {e:TypeId} {u:Value} {xs:List Value} {L:List Nat} (h:W.ownsRow base e size u n xs) (D:aa L W W') (J:∀ x∈L,∃ t,cD W x t∧e≠t):W'.ownsRow base e size u n xs :=
 bh h D (fun g B M=>by
  obtain ⟨t,I,A⟩:=J g M;exact (av h g B).ne I A rfl)
def bX {α:Type} (El:World→Nat→List Value→α→Prop) (e:TypeId) (size:Nat) (W:World) (base:Nat) (v:Value) (l:List α):Prop :=
 ∃ us:List (List Value),us.length=l.length∧W.ownsRow base e size v l.length us.flatten∧∀ j (h:j<l.length) (h':j<us.length),El W base us[j] l[j]
section
variable {α:Type} {El:World→Nat→List Value→α→Prop} {e:TypeId} {size base:Nat} {W W':World} {v u:Value} {l:List α} {L:List Nat}
theorem bX.nil:bX El e size W base (zR none 0 0) ([]:List α):=⟨[],rfl,World.ownsRow_nil _ _ _ _,fun j h=>absurd h (by simp)⟩
theorem bX.far (h:bX El e size W base v l) (B:aa L W W') (M:∀ x∈L,∃ t,cD W x t∧e≠t) (A:∀ cs x,El W base cs x→El W' base cs x):bX El e size W' base v l:=by
 obtain ⟨us,I,D,J⟩:=h;exact ⟨us,I,bw D B M,fun j h h'=>A _ _ (J j h h')⟩
theorem bX.snoc {us:List (List Value)} {cs:List Value} {x:α} (A:us.length=l.length) (B:∀ j (h:j<l.length) (h':j<us.length),El W base us[j] l[j]) (J:El W base cs x) (I:W.ownsRow base e size u (l.length+1) (us.flatten++cs)):bX El e size W base u (l++[x]):=by
 refine ⟨us++[cs],by simp[A],by simpa using I,fun j h h'=>?_⟩;by_cases D:j<l.length
 ·rw[List.getElem_append_left (by omega),List.getElem_append_left D]
  exact B j D (by omega)
 have hj':j=l.length:=by simp at h;omega
 subst hj';rw[List.getElem_append_right (by omega),List.getElem_append_right (zz _)];simpa[A] using J
end
def fo (W:World) (base:Nat) (cs:List Value) (x:In):Prop:=∃ v,cs=[zW zX x.at_,zQ (bs x.name),v]∧W.ownsRow base 109 2 v x.cols.length (ah x.cols)
def fp (W:World) (base:Nat) (cs:List Value) (x:Jb):Prop:=∃ v2 h A,cs=(bZ x v2 h A).toList∧oH W base x v2 h A
def oI (_:World) (_:Nat) (cs:List Value) (x:Pb):Prop:=cs=[zW zX x.at_,zQ (bs x.name),zQ (bs x.src)]
abbrev iB:=bX fo 173 3
abbrev fH:=bX fp 59 15
abbrev fI:=bX oI 179 3
def kQ:List TypeId:=[9,109,173,59,179,79,188]
def cT (S:List TypeId) (L:List Nat) (W W':World):Prop:=aa L W W'∧∀ x∈L,∃ t,cD W x t∧t∉S
theorem cT.ne {S:List TypeId} {L:List Nat} {W W':World} (h:cT S L W W') {e:TypeId} (A:e∈S):∀ x∈L,∃ t,cD W x t∧e≠t:=fun x I=>by
 obtain ⟨t,D,B⟩:=h.2 x I;exact ⟨t,D,fun e'=>B (e' ▸ A)⟩
theorem cT.mono {S A:List TypeId} {L:List Nat} {W W':World} (h:cT S L W W') (J:∀ e∈A,e∈S):cT A L W W' :=
 ⟨h.1,fun x M=>by obtain ⟨t,D,B⟩:=h.2 x M;exact ⟨t,D,fun I=>B (J t I)⟩⟩
theorem cT.blk {S:List TypeId} {L:List Nat} {W W':World} (h:cT S L W W') {e:TypeId} {g:Nat} {cs:Array Value} (A:ap W g e cs) (D:e∈S):ap W' g e cs :=
 A.keep h.1 (fun B=>by obtain ⟨t,J,I⟩:=h.ne D g B;exact A.ty.ne J I rfl)
section
variable {W W':World} {base:Nat} {L:List Nat} {S:List TypeId} {v:Value}
theorem fo.far (h:cT S L W W') (D:109∈S):∀ cs x,fo W base cs x→fo W' base cs x:=fun _ _ ⟨v,B,A⟩=>⟨v,B,bw A h.1 (h.ne D)⟩
theorem fp.far (h:cT S L W W') (B:9∈S):∀ cs x,fp W base cs x→fp W' base cs x:=fun _ _ ⟨v2,D,J,I,A⟩=>⟨v2,D,J,I,⟨bw A.o2 h.1 (h.ne B),bw A.o3 h.1 (h.ne B),bw A.o4 h.1 (h.ne B)⟩⟩
theorem iB.far {l:List In} (B:iB W base v l) (h:cT S L W W') (D:109∈S) (A:173∈S):iB W' base v l:=bX.far B h.1 (h.ne A) (fo.far h D)
theorem fH.far {l:List Jb} (B:fH W base v l) (h:cT S L W W') (D:9∈S) (A:59∈S):fH W' base v l:=bX.far B h.1 (h.ne A) (fp.far h D)
theorem fI.far {l:List Pb} (B:fI W base v l) (h:cT S L W W') (A:179∈S):fI W' base v l:=bX.far B h.1 (h.ne A) (fun _ _ h=>h)
end
structure da (W:World) (base pb rb fb b:Nat) (v0 v1 v2:Value) (ins:List In) (jobs:List Jb) (outs:List Pb):Prop where
 pbk:ap W pb 188 #[zS (some ⟨b,0,none⟩)]
 rbk:ap W rb 79 #[zR none 0 0,zR none 0 0,zR none 0 0]
 fbk:ap W fb 79 #[v0,v1,v2]
 ne:rb≠fb
 lo:base≤fb
 i0:iB W base v0 ins
 i1:fH W base v1 jobs
 i2:fI W base v2 outs
section
variable {W W' W7:World} {base pb rb fb b k:Nat} {v0 v1 v2 u:Value} {ins:List In} {jobs:List Jb} {outs:List Pb} {L:List Nat} {l:List Tk} {o:Obj} {cs:List Value} {us:List (List Value)}
theorem da.far (h:da W base pb rb fb b v0 v1 v2 ins jobs outs) (A:cT kQ L W W'):da W' base pb rb fb b v0 v1 v2 ins jobs outs :=
 ⟨A.blk h.pbk (by decide),A.blk h.rbk (by decide),A.blk h.fbk (by decide),h.ne,h.lo,h.i0.far A (by decide) (by decide),h.i1.far A (by decide) (by decide),h.i2.far A (by decide)⟩
theorem da.keep (h:da W base pb rb fb b v0 v1 v2 ins jobs outs) (A:aa [] W W'):da W' base pb rb fb b v0 v1 v2 ins jobs outs :=
 h.far ⟨A,fun x B=>by cases B⟩
theorem da.ps (h:da W base pb rb fb b v0 v1 v2 ins jobs outs) (A:Ps W b l) (B:aa [b] W W'):da W' base pb rb fb b v0 v1 v2 ins jobs outs :=
 h.far ⟨B,fun x D=>⟨190,by rw[zD.1 D];exact A.ty,by decide⟩⟩
theorem ii {e:TypeId} {S:List TypeId} (h:da W base pb rb fb b v0 v1 v2 ins jobs outs) {A:Option Nat} (D:(W.alloc o).grownBy W7 A) (M:∀ x,A=some x→cD W x e) (J:e∉S) (I:79∉S) :
  cT S (A.toList++[fb]) W (W7.setCell ⟨fb,k,none⟩ u):=by
 refine ⟨(aa.grown ((zN _ W).alloc o) D (fun g D=> .inl (by rw[D];simp))).setCell (.inl (by simp)) _,fun x B=>?_⟩;rcases List.mem_append.1 B with B|B
 ·cases A with
  | none=>cases B
  | some y=>simp at B;exact ⟨e,M x (by rw[B]),J⟩
 rw[zD.1 B];exact ⟨_,h.fbk.ty,I⟩
theorem da.fbk7 {e:TypeId} (h:da W base pb rb fb b v0 v1 v2 ins jobs outs) {A:Option Nat} (I:(W.alloc o).grownBy W7 A) (D:∀ x,A=some x→cD W x e) (B:e≠79):ap W7 fb 79 #[v0,v1,v2] :=
 (I.block fb (h.fbk.alloc o).lt (fun e'=>(D fb e'.symm).ne h.fbk.ty B rfl)).trans (h.fbk.alloc o)
theorem da.keeps7 {w:World} (h:da W w.heap.size pb rb fb b v0 v1 v2 ins jobs outs) (B:aa [b] w W) {A:Option Nat} (I:(W.alloc o).grownBy W7 A) (D:∀ x,A=some x→w.heap.size≤x):aa [b] w (W7.setCell ⟨fb,k,none⟩ u) :=
 ((B.alloc o).grown I (fun x J=> .inr (D x J))).setCell (.inr h.lo) _
theorem kR {e:TypeId} {size n:Nat} {xs:List Value} (h:da W base pb rb fb b v0 v1 v2 ins jobs outs) {B:Option Nat} (M:(W.alloc o).grownBy W7 B) (J:∀ x,B=some x→cD W x e) (D:e≠79) (A:W7.ownsRow base e size u n xs) {I:Value}:(W7.setCell ⟨fb,k,none⟩ I).ownsRow base e size u n xs :=
 bw (L:=[fb]) A ((zN _ _).setCell (.inl (by simp)) _) (fun x O=>by rw[zD.1 O];exact ⟨_,(h.fbk7 M J D).ty,D⟩)
theorem yX {e:TypeId} (h:da W base pb rb fb b v0 v1 v2 ins jobs outs) (M:Ps W b l) {A:Option Nat} (Z:(W.alloc o).grownBy W7 A) (O:∀ x,A=some x→cD W x e) (D:e≠190) (B:e≠193):Ps (W7.setCell ⟨fb,k,none⟩ u) b l:=by
 have I:=ii (S:=[190,193]) (k:=k) (u:=u) h Z O (by simp[D,B]) (by decide);exact M.far I.1 (fun x hx=>by obtain ⟨t,U,J⟩:=I.2 x hx;exact ⟨t,U,fun e=>J (by simp[e]),fun e=>J (by simp[e])⟩)
theorem e6 {W:World} {g:Nat} {e:TypeId} {a b c u:Value} (h:ap W g e #[a,b,c]):ap (W.setCell ⟨g,0,none⟩ u) g e #[u,b,c]:=(h.set 0 u).congr rfl
theorem eh {W:World} {g:Nat} {e:TypeId} {a b c u:Value} (h:ap W g e #[a,b,c]):ap (W.setCell ⟨g,1,none⟩ u) g e #[a,u,c]:=(h.set 1 u).congr rfl
theorem ei {W:World} {g:Nat} {e:TypeId} {a b c u:Value} (h:ap W g e #[a,b,c]):ap (W.setCell ⟨g,2,none⟩ u) g e #[a,b,u]:=(h.set 2 u).congr rfl
theorem da.app0 {x:In} (h:da W base pb rb fb b v0 v1 v2 ins jobs outs) (J:us.length=ins.length) (Z:W.ownsRow base 173 3 v0 ins.length us.flatten) (M:∀ j (h:j<ins.length) (h':j<us.length),fo W base us[j] ins[j]) (hx:fo W base cs x) (U:(W.alloc o).grownBy W7 v0.ownBlock) (D:W7.ownsRow base 173 3 u (ins.length+1) (us.flatten++cs)):da (W7.setCell ⟨fb,0,none⟩ u) base pb rb fb b u v1 v2 (ins++[x]) jobs outs:=by
 have I:=av Z;have A:=ii (S:=[9,109,59,179,188]) (k:=0) (u:=u) h U I (by decide) (by decide);have O:ap (W7.setCell ⟨fb,0,none⟩ u) rb 79 #[zR none 0 0,zR none 0 0,zR none 0 0]:=h.rbk.keep A.1 (fun B=>by
  rcases List.mem_append.1 B with B|B
  ·exact (I rb (by simpa using B)).ne h.rbk.ty (by decide) rfl
  exact h.ne (zD.1 B))
 exact ⟨A.blk h.pbk (by decide),O,e6 (h.fbk7 U I (by decide)),h.ne,h.lo,bX.snoc J (fun j h1 h2=>fo.far A (by decide) _ _ (M j h1 h2)) (fo.far A (by decide) _ _ hx) (kR h U I (by decide) D),h.i1.far A (by decide) (by decide),h.i2.far A (by decide)⟩
theorem da.app1 {x:Jb} (h:da W base pb rb fb b v0 v1 v2 ins jobs outs) (J:us.length=jobs.length) (Z:W.ownsRow base 59 15 v1 jobs.length us.flatten) (M:∀ j (h:j<jobs.length) (h':j<us.length),fp W base us[j] jobs[j]) (hx:fp W base cs x) (U:(W.alloc o).grownBy W7 v1.ownBlock) (D:W7.ownsRow base 59 15 u (jobs.length+1) (us.flatten++cs)):da (W7.setCell ⟨fb,1,none⟩ u) base pb rb fb b v0 u v2 ins (jobs++[x]) outs:=by
 have I:=av Z;have A:=ii (S:=[9,109,173,179,188]) (k:=1) (u:=u) h U I (by decide) (by decide);have O:ap (W7.setCell ⟨fb,1,none⟩ u) rb 79 #[zR none 0 0,zR none 0 0,zR none 0 0]:=h.rbk.keep A.1 (fun B=>by
  rcases List.mem_append.1 B with B|B
  ·exact (I rb (by simpa using B)).ne h.rbk.ty (by decide) rfl
  exact h.ne (zD.1 B))
 exact ⟨A.blk h.pbk (by decide),O,eh (h.fbk7 U I (by decide)),h.ne,h.lo,h.i0.far A (by decide) (by decide),bX.snoc J (fun j h1 h2=>fp.far A (by decide) _ _ (M j h1 h2)) (fp.far A (by decide) _ _ hx) (kR h U I (by decide) D),h.i2.far A (by decide)⟩
theorem da.app2 {x:Pb} (h:da W base pb rb fb b v0 v1 v2 ins jobs outs) (J:us.length=outs.length) (Z:W.ownsRow base 179 3 v2 outs.length us.flatten) (M:∀ j (h:j<outs.length) (h':j<us.length),oI W base us[j] outs[j]) (hx:oI W base cs x) (U:(W.alloc o).grownBy W7 v2.ownBlock) (B:W7.ownsRow base 179 3 u (outs.length+1) (us.flatten++cs)):da (W7.setCell ⟨fb,2,none⟩ u) base pb rb fb b v0 v1 u ins jobs (outs++[x]):=by
 have I:=av Z;have D:=ii (S:=[9,109,173,59,188]) (k:=2) (u:=u) h U I (by decide) (by decide);have O:ap (W7.setCell ⟨fb,2,none⟩ u) rb 79 #[zR none 0 0,zR none 0 0,zR none 0 0]:=h.rbk.keep D.1 (fun A=>by
  rcases List.mem_append.1 A with A|A
  ·exact (I rb (by simpa using A)).ne h.rbk.ty (by decide) rfl
  exact h.ne (zD.1 A))
 exact ⟨D.blk h.pbk (by decide),O,ei (h.fbk7 U I (by decide)),h.ne,h.lo,h.i0.far D (by decide) (by decide),h.i1.far D (by decide) (by decide),bX.snoc J (fun j h1 h2=>M j h1 h2) hx (kR h U I (by decide) B)⟩
end
def fR (a:List In) (b:List Jb) (p:List Pb×List Tk):Except (Int×Int) (Fl×List Tk):= .ok (⟨a,b,p.1⟩,p.2)
def fT (a:List In) (p:List Jb×List Tk):Except (Int×Int) (Fl×List Tk):=bp [111,117,116] ef p.2.length p.2 [] >>= fR a p.1
def fU (p:List In×List Tk):Except (Int×Int) (Fl×List Tk):=bp [106,111,98] dL p.2.length p.2 [] >>= fT p.1
theorem kS (l:List Tk):cY l=bp [105,110] bc l.length l [] >>= fU:=by
 unfold cY;rcases bp [105,110] bc l.length l [] with x|⟨a,r⟩
 ·rfl
 rw[au,au];show _=bp [106,111,98] dL r.length r [] >>= fT a;dsimp only
 rcases bp [106,111,98] dL r.length r [] with x|⟨b,h⟩
 ·rfl
 rw[au,au];show _=bp [111,117,116] ef h.length h [] >>= fR a b;dsimp only
 rcases bp [111,117,116] ef h.length h [] with x|⟨c,A⟩<;>rfl
theorem ij {α:Type} {w:Bs} {B:List Tk→Except (Int×Int) (α×List Tk)} {n:Nat} {q:List Tk} {A:List α} (h:aG w q=false):bp w B n q A= .ok (A,q):=by
 cases n with
 | zero=>rfl
 | succ n=>unfold bp;rw[h];rfl
theorem eR {α:Type} {w:Bs} {B:List Tk→Except (Int×Int) (α×List Tk)} {n:Nat} {q:List Tk} {A:List α} (h:aG w q=true) (I:0<n) (D:A.length=16):bp w B n q A= .error (4,(ax q).at_):=by
 obtain ⟨n,rfl⟩:∃ m,n=m+1:=⟨n-1,by omega⟩
 unfold bp;rw[h,if_pos rfl,if_pos D];rfl
theorem e7 {α:Type} {w:Bs} {A:List Tk→Except (Int×Int) (α×List Tk)} {n:Nat} {q:List Tk} {B:List α} {x:Int×Int} (h:aG w q=true) (J:0<n) (I:B.length≠16) (D:A q= .error x):bp w A n q B= .error x:=by
 obtain ⟨n,rfl⟩:∃ m,n=m+1:=⟨n-1,by omega⟩
 unfold bp;rw[h,if_pos rfl,if_neg I,D];rfl
theorem nR {α:Type} {w:Bs} {A:List Tk→Except (Int×Int) (α×List Tk)} {n:Nat} {q r:List Tk} {B:List α} {x:α} (h:aG w q=true) (J:0<n) (I:B.length≠16) (D:A q= .ok (x,r)):bp w A n q B=bp w A (n-1) r (B++[x]):=by
 obtain ⟨n,rfl⟩:∃ m,n=m+1:=⟨n-1,by omega⟩
 conv=>lhs;unfold bp
 rw[h,if_pos rfl,if_neg I,D];rfl
def uW (R:Except (Int×Int) (Fl×List Tk)) (b base:Nat) (e:Ending) (w':World):Prop:=match R with
 | .ok (f,r)=>∃ v0 v1 v2,e=zT (.agg #[v0,v1,v2])∧iB w' base v0 f.ins∧fH w' base v1 f.jobs∧fI w' base v2 f.outs∧Ps w' b r
 | .error x=>bV x e w'
theorem kT {W:World} {pb b:Nat} {l:List Tk} (n:Nat) (A:ap W pb 188 #[zS (some ⟨b,0,none⟩)]) (h:Ps W b l) (J:n=16) :
  Calls zy 152 #[zW zX n,zS (some ⟨pb,0,none⟩)] W fun e W'=>bV (4,(ax l).at_) e W'∧aa [] W W':=by
 have p0:W.cell? ⟨pb,0,none⟩=some (zS (some ⟨b,0,none⟩)):=A.cell 0;have I:=zx (bD 4 W h);have U:=A.lt;have Z:((n:Int)==16)=true:=by rw[beq_iff_eq];omega
 clear A h J;go_enter Tryz.func152,Tryz.ntmps152
 go_wp2_with fail
 refine I.out.mono ?_;rintro O w9 ⟨⟨M,rfl,D⟩,B⟩;exact ⟨rfl,⟨M,rfl,D⟩,B⟩
theorem nS {W:World} {pb b:Nat} {l:List Tk} (n:Nat) (h:ap W pb 188 #[zS (some ⟨b,0,none⟩)]) (A:Ps W b l) (B:n≠16) :
  Calls zy 152 #[zW zX n,zS (some ⟨pb,0,none⟩)] W fun e W'=>e=zT (.tuple #[])∧W=W':=by
 have I:W.cell? ⟨pb,0,none⟩=some (zS (some ⟨b,0,none⟩)):=h.cell 0;have J:=h.lt;have D:((n:Int)==16)=false:=by rw[beq_eq_false_iff_ne];omega
 clear h A B;go_enter Tryz.func152,Tryz.ntmps152
 go_wp2;first|go_end0|refine bodyPost_ret (results_none rfl _ _ _) rfl ?_
 exact ⟨rfl,rfl⟩
end
section
open Go.RowKit Go.BigFrame
theorem qY {size:Nat}:∀ {A:List (List Value)} (_:∀ u∈A,u.length=size) (j:Nat) (h:j<A.length) (k:Nat),k<size→A.flatten[j*size+k]? = A[j][k]?
 | [],_,j,h,_,_=>absurd h (by simp)
 | u::A,B,0,_,k,I=>by
  have D:=B u (by simp);rw[List.flatten_cons,Nat.zero_mul,Nat.zero_add,List.getElem?_append_left (by omega)];rfl
 | u::A,B,j+1,h,k,I=>by
  have D:=B u (by simp);rw[List.flatten_cons,List.getElem?_append_right (by rw[D,Nat.succ_mul];omega),D,show (j+1)*size+k-size=j*size+k by rw[Nat.succ_mul];omega];exact qY (fun u J=>B u (List.mem_cons_of_mem _ J)) j (by simpa using h) k I
theorem xr {α:Type} {J:World→Nat→List Value→α→Prop} {e:TypeId} {size B m c:Nat} {W:World} {A:Option Addr} {l:List α} (h:bX J e size W B (zR A m c) l) (hs:∀ cs x,J W B cs x→cs.length=size) (j:Nat) (hj:j<l.length) :
  ∃ g cs,A=some ⟨g,0,none⟩∧g<W.heap.size∧J W B cs l[j]∧∀ k u,cs[k]? = some u→W.cell? ⟨g,j*size+k,none⟩=some u:=by
 obtain ⟨O,h1,Z,U⟩:=h;obtain ⟨A',c',e1,M⟩:=ao Z;injection e1 with e1 _ _;subst e1;obtain ⟨g,rfl,hg,M⟩:=M (by omega);have hj':j<O.length:=by omega
 have D:∀ u∈O,u.length=size:=fun u I=>by
  obtain ⟨i,hi,rfl⟩:=List.getElem_of_mem I;exact hs _ _ (U i (by omega) hi)
 refine ⟨g,O[j],rfl,hg,U j hj hj',fun k u I=>M _ _ ?_⟩;have hk:k<size:=by
  have:=(List.getElem?_eq_some_iff.1 I).1;rw[D _ (zH hj')] at this;exact this
 rw[qY D j hj' k hk];exact I
theorem fo.len {W:World} {A:Nat}:∀ cs x,fo W A cs x→cs.length=3:=fun _ _ ⟨_,h,_⟩=>by rw[h];rfl
theorem fp.len {W:World} {A:Nat}:∀ cs x,fp W A cs x→cs.length=15:=fun _ _ ⟨_,_,_,h,_⟩=>by rw[h];rfl
theorem oI.len {W:World} {A:Nat}:∀ cs x,oI W A cs x→cs.length=3:=fun _ _ h=>by rw[h];rfl
theorem dH {w:World} {B:Nat} {e:TypeId} {size n:Nat} {v:Value} {xs:List Value} (h:w.ownsRow B e size v n xs):∃ A c,v=zR A n c∧n≤c∧Rd w [] size A n xs:=by
 rcases h.2 with ⟨rfl,rfl⟩|⟨g,M,O,rfl,hb,hh,hc,r⟩
 ·refine ⟨none,0,rfl,zz _,?_⟩
  have:xs=[]:=List.eq_nil_of_length_eq_zero (by rw[h.1];simp);rw[this];exact Rd.nil
 obtain ⟨A,c,e1,I⟩:=ao h;injection e1 with e1 e2 e3;subst e1 e3;refine ⟨_,_,rfl,hc,h.1,fun hn=>?_⟩;obtain ⟨g',D,J,Z⟩:=I hn;injection D with D;injection D with D;subst D;exact ⟨_,rfl,by simp,J,fun j u U=>by rw[dU,Nat.zero_add];exact Z j u U⟩
def mm (W:World) (v:Value) (l:List Bs):Prop:=l.length≤4294967296∧∃ A c,v=zR A l.length c∧l.length≤c∧Rd W [] 1 A l.length (strs l)
def e8 (W:World) (v:Value) (l:List Cl):Prop:=l.length≤4294967296∧∃ A c,v=zR A l.length c∧l.length≤c∧Rd W [] 2 A l.length (ah l)
def pT (W:World) (cs:List Value) (x:In):Prop:=∃ v,cs=[zW zX x.at_,zQ (bs x.name),v]∧e8 W v x.cols
def pU (W:World) (cs:List Value) (x:Jb):Prop:=∃ A h B,cs=(bZ x A h B).toList∧mm W A x.outs∧mm W h x.ins∧mm W B x.cols
def yZ (_:World) (cs:List Value) (x:Pb):Prop:=cs=[zW zX x.at_,zQ (bs x.name),zQ (bs x.src)]
def iI {α:Type} (B:World→List Value→α→Prop) (size:Nat) (W:World) (v:Value) (l:List α):Prop :=
 l.length≤4294967296∧∃ A c,v=zR A l.length c∧l.length≤c∧∀ j (h:j<l.length),∃ g cs,A=some ⟨g,0,none⟩∧g<W.heap.size∧cs.length=size∧B W cs l[j]∧∀ k u,cs[k]? = some u→W.cell? ⟨g,j*size+k,none⟩=some u
structure iw (W:World) (v0 v1 v2:Value) (f:Fl):Prop where
 i0:iI pT 3 W v0 f.ins
 i1:iI pU 15 W v1 f.jobs
 i2:iI yZ 3 W v2 f.outs
section
variable {W W':World} {v:Value}
theorem mm.keep {l:List Bs} (h:mm W v l) (B:aa [] W W'):mm W' v l:=by
 obtain ⟨J,A,c,I,D,M⟩:=h;exact ⟨J,A,c,I,D,M.keep B⟩
theorem e8.keep {l:List Cl} (h:e8 W v l) (B:aa [] W W'):e8 W' v l:=by
 obtain ⟨J,A,c,I,D,M⟩:=h;exact ⟨J,A,c,I,D,M.keep B⟩
theorem pT.keep {cs:List Value} {x:In} (h:pT W cs x) (A:aa [] W W'):pT W' cs x:=by
 obtain ⟨v,D,B⟩:=h;exact ⟨v,D,B.keep A⟩
theorem pU.keep {cs:List Value} {x:Jb} (h:pU W cs x) (A:aa [] W W'):pU W' cs x:=by
 obtain ⟨J,I,U,M,B,O,D⟩:=h;exact ⟨J,I,U,M,B.keep A,O.keep A,D.keep A⟩
theorem iI.keep {α:Type} {B:World→List Value→α→Prop} {size:Nat} {l:List α} (h:iI B size W v l) (I:aa [] W W') (Z:∀ cs x,B W cs x→B W' cs x):iI B size W' v l:=by
 obtain ⟨M,A,c,U,D,J⟩:=h;refine ⟨M,A,c,U,D,fun j hj=>?_⟩;obtain ⟨g,cs,e,O,hl,hx,D⟩:=J j hj;exact ⟨g,cs,e,Nat.lt_of_lt_of_le O I.size,hl,Z _ _ hx,fun k u hu=>I.cell_of (D k u hu) (by simp)⟩
theorem iw.keep {I D B:Value} {f:Fl} (h:iw W I D B f) (A:aa [] W W'):iw W' I D B f :=
 ⟨h.i0.keep A fun _ _ h=>h.keep A,h.i1.keep A fun _ _ h=>h.keep A,h.i2.keep A fun _ _ h=>h⟩
theorem iI.of {α:Type} {J:World→List Value→α→Prop} {D:World→Nat→List Value→α→Prop} {e:TypeId} {size B:Nat} {l:List α} (h:bX D e size W B v l) (M:∀ cs x,D W B cs x→cs.length=size) (hn:l.length≤4294967296) (hE:∀ cs x,x∈l→D W B cs x→J W cs x):iI J size W v l:=by
 have h':=h;obtain ⟨us,h1,Z,h3⟩:=h';obtain ⟨A,c,rfl,hc,_⟩:=dH Z;refine ⟨hn,A,c,rfl,hc,fun j U=>?_⟩;obtain ⟨g,cs,e,hg,O,I⟩:=xr h M j U;exact ⟨g,cs,e,hg,M _ _ O,hE _ _ (zH U) O,I⟩
end
end
section
open Go.RowKit Go.BigFrame
attribute [local go_sem] ag ab ae af
def wK (k:Nat) (h:Array Value) (p:In→Bool) (l:List In) (w:World):Prop :=
 ∀ x∈l,∀ W cs,aa [] w W→pT W cs x→Calls zy k (#[.agg cs.toArray]++h) W fun e A=>e=zT (.bool (p x))∧aa [] W A
theorem kX (k:Nat) (O:Array Value) (he:∀ args w,(callFunc k args).run zy w= .ok (.enter k args) w) (p:In→Bool) (l:List In) (v:Value) (w:World) (hR:iI pT 3 w v l) (hf:wK k O p l w) :
  Calls zy 210 #[v,.func (.func k) #[] O] w fun e w'=>e=zT (zW zX (bS p l))∧aa [] w w':=by
 have hR':=hR;obtain ⟨hl,A,c,rfl,a3,aA⟩:=hR;have HR:=zx aA;have HF:=zx hf;clear hR' hf aA;go_enter Tryz.func210,Tryz.ntmps210
 go_wp2;go_loopw [8] (fun i wr=>∃ n:Nat,n≤l.length∧i=zW zX n∧Hid (∀ j (D:j<n) (hl:j<l.length),p l[j]=false)∧Hid (aa [] w wr)) (fun i _=>l.length-(intOf i).toNat)
 case atStart=>exact ⟨0,zE _,rfl,fun j D=>absurd D (by omega),zx (zN _ _)⟩
 obtain ⟨n,hn,rfl,I,U⟩:=hrel;by_cases J:n<l.length
 ·obtain ⟨g,cs,rfl,hg,a2,a0,ad⟩:=HR.out n J
  have hEl':=a0.keep U.out;have HH:=HF.out l[n] (zH J) wr cs U.out hEl';have hc:∀ j u,cs[j]? = some u→wr.cell? ⟨g,n*3+j,none⟩=some u:=fun j u hu=>U.out.cell_of (ad j u hu) (by simp)
  generalize hx:l[n]=x at *;have HX:=zx hx;obtain ⟨vc,rfl,-⟩:=a0;have d0:=hc 0 _ rfl;have d1:=hc 1 _ rfl;have d2:=hc 2 _ rfl;rw[Nat.add_zero] at d0;have HH':Hid (Calls zy k (#[.agg #[zW zX x.at_,zQ (bs x.name),vc]]++O) wr fun e W'=>e=zT (.bool (p x))∧aa [] wr W'):=zx HH;clear HH hc hx ad a2 hEl'
  cases Z:p x with
  | true =>
   have B:bS p l=(n:Int):=fa J (fun j D=>I j D (by omega)) ((congrArg p HX.out).trans Z);rw[Z] at HH';have HP:=zx B;clear B Z;go_wp2_with fail
   refine HH'.out.mono ?_;rintro e W2 ⟨rfl,M⟩;go_wp2;go_ret;exact ⟨by rw[HP.out];rfl,U.out.trans M⟩
  | false =>
   have hno':Hid (∀ j (D:j<n+1) (hl:j<l.length),p l[j]=false):=fun j D hl=>by
    by_cases h:j<n
    ·exact I j h hl
    obtain rfl:j=n:=by omega
    exact (congrArg p HX.out).trans Z
   rw[Z] at HH';clear Z;go_wp2_with fail
   refine HH'.out.mono ?_;rintro e W2 ⟨rfl,M⟩;have a1:=zx (U.out.trans M);go_wp2;go_roundw
   case rel=>exact ⟨n+1,by omega,by go_num,hno',a1⟩
   case measure=>simp[intOf];omega
 have B:Hid (bS p l= -1):=eB fun j D=>I j (by omega) D
 go_wp2;go_ret;exact ⟨by rw[B.out];rfl,U.out⟩
theorem jd (k:Nat) (h:Array Value) (M:∀ args w,(callFunc k args).run zy w= .ok (.enter k args) w) (p:In→Bool) (l:List In) (v:Value) (w:World) (O:iI pT 3 w v l) (J:wK k h p l w) :
  Calls zy 163 #[v,.func (.func k) #[] h] w fun e w'=>e=zT (.bool (l.any p))∧aa [] w w':=by
 have U:=zx (kX k h M p l v w O J);clear J M;obtain ⟨Z,A,c,rfl,I,D⟩:=O;clear D;rw[←gp];go_enter Tryz.func163,Tryz.ntmps163
 go_wp2_with (go_at_call 210;refine U.out.mono ?_;rintro e W2 ⟨rfl,B⟩)
 go_ret;exact ⟨rfl,B⟩
def yu (k:Nat) (h:Array Value) (p:Jb→Bool) (l:List Jb) (w:World):Prop :=
 ∀ x∈l,∀ W cs,aa [] w W→pU W cs x→Calls zy k (#[.agg cs.toArray]++h) W fun e A=>e=zT (.bool (p x))∧aa [] W A
theorem kY (k:Nat) (U:Array Value) (he:∀ args w,(callFunc k args).run zy w= .ok (.enter k args) w) (p:Jb→Bool) (l:List Jb) (v:Value) (w:World) (hR:iI pU 15 w v l) (hf:yu k U p l w) :
  Calls zy 165 #[v,.func (.func k) #[] U] w fun e w'=>e=zT (zW zX (bS p l))∧aa [] w w':=by
 have hR':=hR;obtain ⟨hl,A,c,rfl,a3,aA⟩:=hR;have HR:=zx aA;have HF:=zx hf;clear hR' hf aA;go_enter Tryz.func165,Tryz.ntmps165
 go_wp2;go_loopw [8] (fun i wr=>∃ n:Nat,n≤l.length∧i=zW zX n∧Hid (∀ j (I:j<n) (hl:j<l.length),p l[j]=false)∧Hid (aa [] w wr)) (fun i _=>l.length-(intOf i).toNat)
 case atStart=>exact ⟨0,zE _,rfl,fun j I=>absurd I (by omega),zx (zN _ _)⟩
 obtain ⟨n,hn,rfl,J,Z⟩:=hrel;by_cases M:n<l.length
 ·obtain ⟨g,cs,rfl,hg,a2,a0,ad⟩:=HR.out n M
  have hEl':=a0.keep Z.out;have HH:=HF.out l[n] (zH M) wr cs Z.out hEl';have B:∀ j u,cs[j]? = some u→wr.cell? ⟨g,n*15+j,none⟩=some u:=fun j u hu=>Z.out.cell_of (ad j u hu) (by simp)
  generalize hx:l[n]=x at *;have HX:=zx hx;obtain ⟨v2,v3,v4,rfl,-,-,-⟩:=a0;have d0:=B 0 _ rfl;have d1:=B 1 _ rfl;have d2:=B 2 _ rfl;have d3:=B 3 _ rfl;have d4:=B 4 _ rfl;have d5:=B 5 _ rfl;have d6:=B 6 _ rfl;have d7:=B 7 _ rfl;have d8:=B 8 _ rfl;have d9:=B 9 _ rfl;have a8:=B 10 _ rfl;have a7:=B 11 _ rfl;have a6:=B 12 _ rfl;have a5:=B 13 _ rfl;have a4:=B 14 _ rfl;rw[Nat.add_zero] at d0;have HH':Hid (Calls zy k (#[.agg (bZ x v2 v3 v4)]++U) wr fun e W'=>e=zT (.bool (p x))∧aa [] wr W'):=zx HH;clear HH B hx ad a2 hEl'
  cases hp:p x with
  | true =>
   have D:bS p l=(n:Int):=fa M (fun j I=>J j I (by omega)) ((congrArg p HX.out).trans hp);rw[hp] at HH';have HP:=zx D;clear D hp;go_wp2_with fail
   refine HH'.out.mono ?_;rintro e W2 ⟨rfl,O⟩;go_wp2;go_ret;exact ⟨by rw[HP.out];rfl,Z.out.trans O⟩
  | false =>
   have hno':Hid (∀ j (I:j<n+1) (hl:j<l.length),p l[j]=false):=fun j I hl=>by
    by_cases h:j<n
    ·exact J j h hl
    obtain rfl:j=n:=by omega
    exact (congrArg p HX.out).trans hp
   rw[hp] at HH';clear hp;go_wp2_with fail
   refine HH'.out.mono ?_;rintro e W2 ⟨rfl,O⟩;have a1:=zx (Z.out.trans O);go_wp2;go_roundw
   case rel=>exact ⟨n+1,by omega,by go_num,hno',a1⟩
   case measure=>simp[intOf];omega
 have D:Hid (bS p l= -1):=eB fun j I=>J j (by omega) I
 go_wp2;go_ret;exact ⟨by rw[D.out];rfl,Z.out⟩
def eG (f:Fl) (n:Bs):Int:=if iV f n then -1 else bS (fun j:Jb=>j.outs.contains n) f.jobs
def gR (f:Fl) (n:Bs):Bool:=iV f n||decide (0≤bS (fun j:Jb=>j.outs.contains n) f.jobs)
theorem pW (x:In) (A:Value) (n:Bs) (X:Nat) (W:World) (h:W.cell? ⟨X,0,none⟩=some (zQ (bs n))) :
  Calls zy 164 #[.agg #[zW zX x.at_,zQ (bs x.name),A],zS (some ⟨X,0,none⟩)] W fun e B=>e=zT (.bool (x.name==n))∧aa [] W B:=by
 have D:=zB _ _ h;go_enter Tryz.func164,Tryz.ntmps164
 go_wp2;go_ret;exact ⟨rfl,(zN _ _).alloc _⟩
theorem pX (x:Jb) (I O v4:Value) (n:Bs) (X:Nat) (W:World) (h:W.cell? ⟨X,0,none⟩=some (zQ (bs n))) (M:mm W I x.outs) :
  Calls zy 166 #[.agg (bZ x I O v4),zS (some ⟨X,0,none⟩)] W fun e B=>e=zT (.bool (x.outs.contains n))∧aa [] W B:=by
 have hl:=zB _ _ h;obtain ⟨D,A,c,rfl,U,J⟩:=M;have Z:Hid (∀ B,aa [] W B→Calls zy 131 #[zR A x.outs.length c,zQ (bs n)] B fun e w'=>e=zT (.bool (x.outs.contains n))∧B=w'):=zx fun B z=>by
  have:=nW n x.outs A c B (J.keep z) D;rw[←List.contains_eq_any_beq] at this;exact this
 clear J U;generalize x.outs.contains n=R at *;unfold bZ;go_enter Tryz.func166,Tryz.ntmps166
 go_wp2_with ((with_reducible refine (Z.out _ ((zN _ _).alloc _)).mono ?_);rintro e w5 ⟨rfl,rfl⟩)
 go_ret;exact ⟨rfl,(zN _ _).alloc _⟩
theorem rN (f:Fl) (J D I:Value) (n:Bs) (w:World) (hF:iw w J D I f) :
  Calls zy 112 #[.agg #[J,D,I],zQ (bs n)] w fun e w'=>e=zT (.tuple #[zW zX (eG f n),.bool (gR f n)])∧aa [] w w':=by
 have B:aa [] w ((w.alloc (zU #[J,D,I] 79)).alloc (zU #[zQ (bs n)] 9)):=((zN _ _).alloc _).alloc _;have M:=zO (w.alloc (zU #[J,D,I] 79)) 9 #[zQ (bs n)];have ad:=(zO w 79 #[J,D,I]).alloc (zU #[zQ (bs n)] 9);rw[gh] at M;have HI:Hid (∀ W,aa [] ((w.alloc (zU #[J,D,I] 79)).alloc (zU #[zQ (bs n)] 9)) W→Calls zy 163 #[J,.func (.func 164) #[] #[zS (some ⟨w.heap.size+1,0,none⟩)]] W fun e w'=>e=zT (.bool (iV f n))∧aa [] W w'):=zx fun W z =>
  jd 164 _ (fun _ _=>by rfl) (fun x=>x.name==n) f.ins J W (hF.i0.keep (B.trans z) fun _ _ h=>h.keep (B.trans z)) (fun x hx W' cs z' U=>by
   obtain ⟨vc,rfl,_⟩:=U;exact pW x vc n _ W' ((M.keep (z.trans z') (by simp)).cell 0))
 have HJ:Hid (∀ W,aa [] ((w.alloc (zU #[J,D,I] 79)).alloc (zU #[zQ (bs n)] 9)) W→Calls zy 165 #[D,.func (.func 166) #[] #[zS (some ⟨w.heap.size+1,0,none⟩)]] W fun e w'=>e=zT (zW zX (bS (fun j:Jb=>j.outs.contains n) f.jobs))∧aa [] W w'):=zx fun W z =>
  kY 166 _ (fun _ _=>by rfl) (fun j=>j.outs.contains n) f.jobs D W (hF.i1.keep (B.trans z) fun _ _ h=>h.keep (B.trans z)) (fun x hx W' cs z' U=>by
   obtain ⟨I,v3,v4,rfl,h2,_,_⟩:=U;exact pX x I v3 v4 n _ W' ((M.keep (z.trans z') (by simp)).cell 0) h2)
 have hm:Hid (iV f n=true→eG f n= -1∧gR f n=true):=zx fun h=>by unfold eG gR;rw[h];exact ⟨rfl,rfl⟩
 have O:Hid (iV f n=false→eG f n=bS (fun j:Jb=>j.outs.contains n) f.jobs∧gR f n=decide (0≤bS (fun j:Jb=>j.outs.contains n) f.jobs)):=zx fun h=>by unfold eG gR;rw[h];exact ⟨rfl,rfl⟩
 have a0:Hid (∀ W,aa [] ((w.alloc (zU #[J,D,I] 79)).alloc (zU #[zQ (bs n)] 9)) W→W.cell? ⟨w.heap.size,1,none⟩=some D):=zx fun W z=>(ad.keep z (by simp)).cell 1
 have aA:=zx B;clear hF ad M B;generalize bS (fun j:Jb=>j.outs.contains n) f.jobs=K at *
 cases A:iV f n with
 | true =>
  rw[A] at HI;obtain ⟨m1,Z⟩:=hm.out A;rw[m1,Z];clear m1 Z hm O HJ A;go_enter Tryz.func112,Tryz.ntmps112
  go_wp2_with ((with_reducible refine (HI.out _ (zN _ _)).mono ?_);rintro e w5 ⟨rfl,k5⟩)
  go_ret2;exact ⟨rfl,aA.out.trans k5⟩
 | false =>
  rw[A] at HI;obtain ⟨m1,Z⟩:=O.out A;rw[m1,Z];clear m1 Z hm O A;go_enter Tryz.func112,Tryz.ntmps112
  go_wp2_with (first|((with_reducible refine (HI.out _ (zN _ _)).mono ?_);rintro e w5 ⟨rfl,k5⟩;have b1:=a0.out _ k5)|((with_reducible refine (HJ.out _ k5).mono ?_);rintro e w6 ⟨rfl,k6⟩))
  go_ret2;exact ⟨rfl,aA.out.trans (k5.trans k6)⟩
def cn (l:List Nat):List Int:=l.map fun k:Nat=>(k:Int)
theorem oM (f:Fl) (n:Bs) (done:List Nat):(!gR f n||(decide (0≤eG f n) && !((cn done).any fun t=>eG f n==t)))= !cM f done n:=by
 have h:bS (fun j:Jb=>j.outs.contains n) f.jobs=match mh f n with|some i=>(i:Int)|none=> -1:=rfl
 unfold gR eG cM;rw[h]
 cases A:iV f n with
 | true=>simp
 | false =>
  cases B:mh f n with
  | none=>simp
  | some k =>
   have e:((cn done).any fun t=>(k:Int)==t)=done.contains k:=by
    rw[List.contains_eq_any_beq];unfold cn;rw[List.any_map];congr 1
    funext t
    rw[Bool.eq_iff_iff];simp;omega
   simp[e]
theorem pY (f:Fl) (M I J:Value) (n:Bs) (done:List Nat) (A:Option Addr) (c X Y:Nat) (w:World) (U:iw w M I J f) (D:w.cell? ⟨X,0,none⟩=some M) (ad:w.cell? ⟨X,1,none⟩=some I) (aA:w.cell? ⟨X,2,none⟩=some J)
  (Z:w.cell? ⟨Y,0,none⟩=some (zR A (cn done).length c)) (hR:Rd w [] 1 A (cn done).length ((cn done).map (Value.int .i64))) (hl:(cn done).length≤4294967296) :
  Calls zy 111 #[zQ (bs n),zS (some ⟨X,0,none⟩),zS (some ⟨Y,0,none⟩)] w fun e w'=>e=zT (.bool (!cM f done n))∧aa [] w w':=by
 rw[←oM];have B:=zx (rN f M I J n w U);have HC:Hid (∀ W,aa [] w W→Calls zy 109 #[zR A (cn done).length c,zW zX (eG f n)] W fun e w'=>e=zT (.bool ((cn done).any fun t=>eG f n==t))∧W=w'):=zx fun W z=>je _ _ A c W (hR.keep z) hl
 have HY:Hid (∀ W,aa [] w W→W.cell? ⟨Y,0,none⟩=some (zR A (cn done).length c)):=zx fun W z=>z.cell_of Z (by simp)
 clear U hR Z;generalize ((cn done).any fun t=>eG f n==t)=Q at *;generalize eG f n=K at *;have l0:=zB _ _ D
 cases hB:gR f n with
 | false =>
  rw[hB] at B;go_enter Tryz.func111,Tryz.ntmps111
  go_wp2_with ((with_reducible refine B.out.mono ?_);rintro e w5 ⟨rfl,h⟩)
  go_ret;exact ⟨rfl,h⟩
 | true =>
  rw[hB] at B;by_cases O:0≤K
  ·rw[decide_eq_true O]
   go_enter Tryz.func111,Tryz.ntmps111
   go_wp2_with (first|((with_reducible refine B.out.mono ?_);rintro e w5 ⟨rfl,h⟩;have b1:=HY.out _ h)|((with_reducible refine (HC.out _ h).mono ?_);rintro e w6 ⟨rfl,rfl⟩))
   go_ret;exact ⟨by cases Q<;>rfl,h⟩
  rw[decide_eq_false O];go_enter Tryz.func111,Tryz.ntmps111
  go_wp2_with ((with_reducible refine B.out.mono ?_);rintro e w5 ⟨rfl,h⟩)
  go_ret;exact ⟨rfl,h⟩
theorem xv {W:World} {J:Value} {l:List Jb} (h:iI pU 15 W J l) (k:Nat) (O:k<l.length):∃ g c D B I,J=zR (some ⟨g,0,none⟩) l.length c∧l.length≤4294967296∧mm W D l[k].outs∧mm W B l[k].ins∧mm W I l[k].cols∧∀ i u,(bZ l[k] D B I).toList[i]? = some u→W.cell? ⟨g,k*15+i,none⟩=some u:=by
 obtain ⟨Z,A,c,rfl,_,h⟩:=h;obtain ⟨g,cs,rfl,hg,_,⟨D,B,I,rfl,M,h3,U⟩,hc⟩:=h k O;exact ⟨g,c,D,B,I,rfl,Z,M,h3,U,hc⟩
theorem mS (f:Fl) (J v1 D:Value) (k:Nat) (hk:k<f.jobs.length) (done:List Nat) (A:Option Addr) (c:Nat) (w:World) (hF:iw w J v1 D f) (hR:Rd w [] 1 A (cn done).length ((cn done).map (Value.int .i64))) (hl:(cn done).length≤4294967296) :
  Calls zy 44 #[.agg #[J,v1,D],zW zX k,zR A (cn done).length c] w fun e w'=>e=zT (.bool (br f done k))∧aa [] w w':=by
 obtain ⟨g,Z,u2,u3,u4,rfl,a2,h2,h3,h4,U⟩:=xv hF.i1 k hk;have h:aa [] w ((w.alloc (zU #[J,zR (some ⟨g,0,none⟩) f.jobs.length Z,D] 79)).alloc (zU #[zR A (cn done).length c] 90)):=((zN _ _).alloc _).alloc _;have I:=zO (w.alloc (zU #[J,zR (some ⟨g,0,none⟩) f.jobs.length Z,D] 79)) 90 #[zR A (cn done).length c];have B:=(zO w 79 #[J,zR (some ⟨g,0,none⟩) f.jobs.length Z,D]).alloc (zU #[zR A (cn done).length c] 90);rw[gh] at I;have a0:w.cell? ⟨g,k*15+3,none⟩=some u3:=U 3 _ rfl;have a3:=zB _ _ a0;obtain ⟨aA,A3,c3,rfl,a1,O⟩:=h3;have hi:(k:Int)<(f.jobs.length:Int):=by omega
 have e1:br f done k= !(f.jobs[k].ins.any fun n=> !cM f done n):=by
  unfold br;rw[eI hk,List.all_eq_not_any_not]
 rw[e1];have HC:Hid (∀ W,aa [] ((w.alloc (zU #[J,zR (some ⟨g,0,none⟩) f.jobs.length Z,D] 79)).alloc (zU #[zR A (cn done).length c] 90)) W→Calls zy 110 #[zR A3 f.jobs[k].ins.length c3,.func (.func 111) #[] #[zS (some ⟨w.heap.size,0,none⟩),zS (some ⟨w.heap.size+1,0,none⟩)]] W fun e w'=>e=zT (.bool (f.jobs[k].ins.any fun n=> !cM f done n))∧aa [] W w'):=zx fun W z =>
  fy 111 _ (fun _ _=>by rfl) (fun n=> !cM f done n) f.jobs[k].ins A3 c3 W (O.keep (h.trans z)) aA (fun n hn W' M=>pY f J _ D n done A c _ _ W' (hF.keep (h.trans (z.trans M))) ((B.keep (z.trans M) (by simp)).cell 0) ((B.keep (z.trans M) (by simp)).cell 1) ((B.keep (z.trans M) (by simp)).cell 2) ((I.keep (z.trans M) (by simp)).cell 0) (hR.keep (h.trans (z.trans M))) hl)
 have ad:=zx h;generalize (f.jobs[k].ins.any fun n=> !cM f done n)=Q at *;generalize f.jobs[k].ins.length=m3 at *;clear hF B I h U hR hl O h2 h4 e1 a1;go_enter Tryz.func44,Tryz.ntmps44
 go_wp2_with ((with_reducible refine (HC.out _ (zN _ _)).mono ?_);rintro e w5 ⟨rfl,k5⟩)
 go_ret;exact ⟨rfl,ad.out.trans k5⟩
theorem wM:(Tryz.prog.info? 3).map (fun i=>(i.zero,i.size,i.bytes))=some (some (zW zX 0),1,8):=by kernel_rfl
def cO (l:List Nat):List Value:=(cn l).map (Value.int .i64)
theorem rO (l:List Nat):(cO l).length=l.length:=by simp[cO,cn]
theorem dw (l:List Nat):(cn l).length=l.length:=by simp[cn]
theorem k4 (l:List Nat) (k:Nat):cO (l++[k])=cO l++[zW zX k]:=by simp[cO,cn]
theorem uZ (l:List Nat) (k:Nat):((cn l).any fun t=>(k:Int)==t)=l.contains k:=by
 rw[List.contains_eq_any_beq];unfold cn;rw[List.any_map];congr 1
 funext t
 rw[Bool.eq_iff_iff];simp;omega
def tz (R:Except (Int×Int) (List Nat)) (e:Ending) (w':World):Prop:=match R with
 | .ok l=>∃ A c,e=zT (.tuple #[zR A l.length c,.nilIface])∧l.length≤c∧Rd w' [] 1 A l.length (cO l)
 | .error x=>∃ h,e=zT (.tuple #[zR none 0 0,.iface 136 (zS (some ⟨h,0,none⟩))])∧ap w' h 137 #[zW zX x.1,zW zX x.2]
theorem mT {f:Fl} {out:List Nat} {k:Nat} (J:k<f.jobs.length) (D:k∉out) (B:br f out k=true) (M:∀ j,j<k→j∉out→br f out j=false):dO f out=some k:=by
 cases h:dO f out with
 | none=>rw[pO h k J D] at B;cases B
 | some I =>
  obtain ⟨a,b,c,d⟩:=gd h;rcases Nat.lt_trichotomy k I with A|rfl|A
  ·rw[d k A D] at B;cases B
  ·rfl
  rw[M I A b] at c;cases c
theorem ld {f:Fl} {out:List Nat} (A:∀ j,j<f.jobs.length→j∉out→br f out j=false):dO f out=none:=by
 cases h:dO f out with
 | none=>rfl
 | some B =>
  obtain ⟨a,b,c,d⟩:=gd h;rw[A B a b] at c;cases c
theorem mV {f:Fl} {out:List Nat} {k:Nat} (h:k<f.jobs.length) (B:k∉out) (D:∀ j,j<k→j∈out):oz f out=some k:=by
 unfold oz;rw[List.find?_eq_some_iff_getElem];refine ⟨by simpa using B,k,by simpa using h,by simp,fun j A=>?_⟩;simpa using D j A
theorem jV {f:Fl} {n k:Nat} {out:List Nat} (h:dO f out=some k):cW f (n+1) out=cW f n (out++[k]):=by
 rw[cW,h]
theorem jg {f:Fl} {n:Nat} {out:List Nat} (h:dO f out=none):cW f (n+1) out= .error (11,(jb f ((oz f out).getD 0)).at_):=by
 rw[cW,h]
def rP:Value→Nat
 | zR _ n _=>n
 | _=>0
theorem jA (f:Fl) (v0 v1 v2:Value) (w:World) (hF:iw w v0 v1 v2 f) :
  Calls zy 42 #[.agg #[v0,v1,v2]] w fun e w'=>tz (bO f) e w'∧aa [] w w':=by
 obtain ⟨i0,cg,bB,ci,b6⟩:=info_parts wM;obtain ⟨R,hR⟩:∃ R,bO f=R:=⟨_,rfl⟩
 rw[hR];unfold bO at hR;have b4:=hF.i1;obtain ⟨c5,Aj,cj,rfl,cu,a5⟩:=b4;have a6:=zO w 79 #[v0,zR Aj f.jobs.length cj,v2];have a0:aa [] w (w.alloc (zU #[v0,zR Aj f.jobs.length cj,v2] 79)):=(zN _ _).alloc _;obtain ⟨y0,bm⟩:∃ z,w.alloc (zU #[v0,zR Aj f.jobs.length cj,v2] 79)=z:=⟨_,rfl⟩
 have HF:=zx hF;have HA:=zx a5;have HR:=zx hR;rw[bm] at a6 a0;have HB:=zx a6;have D:=zx a0;have ba:w.heap.size≤y0.heap.size:=a0.size;have cf:=zx ba;clear hF a5 a6 a0 hR ba;obtain ⟨X,hX⟩:∃ X,w.heap.size=X:=⟨_,rfl⟩
 rw[hX] at HB cf;go_enter Tryz.func42,Tryz.ntmps42
 go_upto_block 0 with (fail)
 clear bm hX;have a7:Hid (∀ W,aa [] y0 W→W.cell? ⟨X,0,none⟩=some v0∧W.cell? ⟨X,1,none⟩=some (zR Aj f.jobs.length cj)∧W.cell? ⟨X,2,none⟩=some v2∧X<W.heap.size):=zx fun W z=>⟨(HB.out.keep z (by simp)).cell 0,(HB.out.keep z (by simp)).cell 1,(HB.out.keep z (by simp)).cell 2,(HB.out.keep z (by simp)).lt⟩
 go_wp2_with fail
 go_loopw [4] (fun u wr=>∃ out:List Nat,out.length≤f.jobs.length∧rP u=out.length∧Hid (wr.ownsRow y0.heap.size 3 1 u out.length (cO out))∧Hid (cW f (f.jobs.length-out.length) out=R)∧Hid (aa [] y0 wr)) (fun u _=>f.jobs.length-rP u)
 case atStart=>exact ⟨[],zE _,rfl,zx (World.ownsRow_nil _ _ _ _),HR,zx (zN _ _)⟩
 obtain ⟨out,c0,c1,HO,HG,M⟩:=hrel;obtain ⟨y1,rfl⟩:∃ z:World,z=wr:=⟨_,rfl⟩
 obtain ⟨Ao,co,rfl,-,bd⟩:=dH HO.out;have a8:=zx bd;obtain ⟨q0,q1,q2,ql⟩:=a7.out _ M.out;clear bd;by_cases bA:out.length<f.jobs.length
 ·have bk:(out.length:Int)<(f.jobs.length:Int):=by omega
  have a4:Hid (∀ (j:Nat) W,aa [] y1 W→Calls zy 109 #[zR Ao out.length co,zW zX j] W fun e w'=>e=zT (.bool (out.contains j))∧W=w'):=zx fun j W z=>by
   have:=je (j:Int) (cn out) Ao co W (by rw[dw];exact a8.out.keep z) (by rw[dw];omega);rw[uZ,dw] at this;exact this
  have bj:Hid (∀ (j:Nat) W,j<f.jobs.length→aa [] y1 W→Calls zy 44 #[.agg #[v0,zR Aj f.jobs.length cj,v2],zW zX j,zR Ao out.length co] W fun e w'=>e=zT (.bool (br f out j))∧aa [] W w'):=zx fun j W hj z=>by
   have:=mS f v0 _ v2 j hj out Ao co W (HF.out.keep (D.out.trans (M.out.trans z))) (by rw[dw];exact a8.out.keep z) (by rw[dw];omega);rw[dw] at this;exact this
  go_upto_block 2 with (fail)
  go_cut [5] (fun u wx=>(∃ k:Nat,k<f.jobs.length∧Hid (dO f out=some k)∧u=zW zX k∨k=0∧Hid (dO f out=none)∧u=zW zX (-1))∧Hid (aa [] y1 wx))
  case first =>
   go_wp2_with fail
   go_loopw [5,18] (fun u i wx=>∃ j:Nat,j≤f.jobs.length∧u=zW zX (-1)∧i=zW zX j∧Hid (∀ t,t<j→t∉out→br f out t=false)∧Hid (aa [] y1 wx)) (fun _ i _=>f.jobs.length-(intOf i).toNat)
   case atStart=>exact ⟨0,zE _,rfl,rfl,zx (fun t ht=>absurd ht (by omega)),zx (zN _ _)⟩
   clear q0 q1 q2 ql;obtain ⟨j,hj,rfl,rfl,HN,A⟩:=hrel;obtain ⟨O,rfl⟩:∃ z:World,z=wr:=⟨_,rfl⟩
   obtain ⟨q0,q1,q2,ql⟩:=a7.out _ (M.out.trans A.out);by_cases J:j<f.jobs.length
   ·have bl:(j:Int)<(f.jobs.length:Int):=by omega
    by_cases I:j∈out
    ·have HC:Hid (Calls zy 109 #[zR Ao out.length co,zW zX j] O fun e w'=>e=zT (.bool true)∧O=w'):=zx (by
      have:=a4.out j O A.out;rw[List.contains_iff_mem.2 I] at this;exact this)
     have HN':Hid (∀ t,t<j+1→t∉out→br f out t=false):=zx fun t ht hn=>by
      by_cases h:t<j
      ·exact HN.out t h hn
      obtain rfl:t=j:=by omega
      exact absurd I hn
     clear I;go_wp2_with ((with_reducible refine HC.out.mono ?_);rintro e w5 ⟨rfl,rfl⟩)
     go_roundw
     case rel=>exact ⟨j+1,by omega,rfl,by go_num,HN',A⟩
     case measure=>simp[intOf];omega
    have HC:Hid (Calls zy 109 #[zR Ao out.length co,zW zX j] O fun e w'=>e=zT (.bool false)∧O=w'):=zx (by
     have:=a4.out j O A.out;rw[show out.contains j=false by simpa using I] at this;exact this)
    have a1:=zx (bj.out j O J A.out)
    cases hr:br f out j with
    | true =>
     have HN':=zx (mT J I hr HN.out);rw[hr] at a1;clear I hr;go_wp2_with (first|((with_reducible refine HC.out.mono ?_);rintro e w5 ⟨rfl,rfl⟩)|((with_reducible refine a1.out.mono ?_);rintro e w6 ⟨rfl,k6⟩))
     go_meet
     case rel=>exact ⟨⟨j,.inl ⟨J,HN',rfl⟩⟩,zx (A.out.trans k6)⟩
    | false =>
     have HN':Hid (∀ t,t<j+1→t∉out→br f out t=false):=zx fun t ht hn=>by
      by_cases h:t<j
      ·exact HN.out t h hn
      obtain rfl:t=j:=by omega
      exact hr
     rw[hr] at a1;clear I hr;go_wp2_with (first|((with_reducible refine HC.out.mono ?_);rintro e w5 ⟨rfl,rfl⟩)|((with_reducible refine a1.out.mono ?_);rintro e w6 ⟨rfl,k6⟩))
     have Z:=zx (A.out.trans k6);go_roundw
     case rel=>exact ⟨j+1,by omega,rfl,by go_num,HN',Z⟩
     case measure=>simp[intOf];omega
   have HN':=zx (ld fun t ht hn=>HN.out t (by omega) hn);have bl:¬(j:Int)<(f.jobs.length:Int):=by omega
   go_wp2;go_meet
   case rel=>exact ⟨⟨0,.inr ⟨rfl,HN',rfl⟩⟩,A⟩
  obtain ⟨⟨k,a9⟩,ad⟩:=hcut;clear q0 q1 q2 ql;obtain ⟨q0,q1,q2,ql⟩:=a7.out _ (M.out.trans ad.out);have B:=zx (M.out.trans ad.out);rcases a9 with ⟨hk,a2,rfl⟩|⟨-,a2,rfl⟩
  ·have cx:¬(k:Int)<0:=by omega
   have HG':Hid (cW f (f.jobs.length-(out++[k]).length) (out++[k])=R):=zx (by
    rw[←HG.out,zF,List.length_singleton];rw[show f.jobs.length-out.length=(f.jobs.length-(out.length+1))+1 by omega,jV a2.out])
   have HO':Hid (wc.ownsRow y0.heap.size 3 1 (zR Ao out.length co) out.length (cO out)):=zx (bh HO.out ad.out (fun g hg hm=>by cases hm));have HS:=zx (show y0.heap.size≤(wc.alloc (zU #[zW zX (k:Int)] 3)).heap.size by have:=B.out.size;simp;omega);have HM:=zx (show out.length+1≤maxLen∧(out.length+1)*8≤140737488355328 by simp only[maxLen];omega);go_wp2_with (at_builtin;refine wpList_append_own _ rfl _ _ 90 rfl y0.heap.size 3 i0 (zW zX 0) 1 8 Tryz.underlying90 cg bB ci b6 rfl (by decide) _ _ _ rfl (HO'.out.alloc _) ⟨wc.heap.size,0,none⟩ 1 1 [zW zX k] rfl rfl (zJ (heap_alloc_new _ _)) (by simp[Value.oneCell']) HM.out.1 HM.out.2 HS.out ?_)
   intro vv w2 hown' U cq;obtain ⟨g,aA,rfl⟩:∃ g aA,vv=zR (some ⟨g,0,none⟩) (out.length+1) aA:=by
    rcases hown'.2 with ⟨_,h0⟩|⟨g,aA,cv,hv,_⟩
    ·omega
    exact ⟨g,aA,hv⟩
   have b1:Hid (w2.ownsRow y0.heap.size 3 1 (zR (some ⟨g,0,none⟩) (out.length+1) aA) (out++[k]).length (cO (out++[k]))):=zx (by rw[k4,zF,List.length_singleton];exact hown');have b5:=zx ((B.out.alloc _).grown U (fun g hg=> .inr (HO'.out.lt g hg).1));clear hown' U cq;go_wp2;go_roundw
   case rel=>exact ⟨out++[k],by rw[zF,List.length_singleton];omega,by rw[zF,List.length_singleton];rfl,b1,HG',b5⟩
   case measure=>simp[rP];omega
  have bb:Hid (∀ j,j<f.jobs.length→j∉out→(∀ t,t<j→t∈out)→R= .error (11,(jb f j).at_)):=zx fun j hj hn ht=>by
   rw[←HG.out,show f.jobs.length-out.length=(f.jobs.length-(out.length+1))+1 by omega,jg a2.out,mV hj hn ht];rfl
  have b7:=zx (kF bA);clear a2 bj HG;go_wp2_with fail
  go_loopw [38] (fun i wx=>∃ j:Nat,j≤f.jobs.length∧i=zW zX j∧Hid (∀ t,t<j→t∈out)∧Hid (aa [] wc wx)) (fun i _=>f.jobs.length-(intOf i).toNat)
  case atStart=>exact ⟨0,zE _,rfl,zx (fun t ht=>absurd ht (by omega)),zx (zN _ _)⟩
  clear q0 q1 q2 ql;obtain ⟨j,hj,rfl,HN,A⟩:=hrel;obtain ⟨O,rfl⟩:∃ z:World,z=wr:=⟨_,rfl⟩
  by_cases J:j<f.jobs.length
  ·have bl:(j:Int)<(f.jobs.length:Int):=by omega
   obtain ⟨g,cs,rfl,hg,-,⟨_,_,_,rfl,⟨-,A2,c2,rfl,-,-⟩,⟨-,A3,c3,rfl,-,-⟩,⟨-,A4,c4,rfl,-,-⟩⟩,I⟩:=HA.out j J;have d0:=(B.out.trans A.out).cell_of (D.out.cell_of (I 0 _ rfl) (by simp)) (by simp);have d1:=(B.out.trans A.out).cell_of (D.out.cell_of (I 1 _ rfl) (by simp)) (by simp);have d2:=(B.out.trans A.out).cell_of (D.out.cell_of (I 2 _ rfl) (by simp)) (by simp);have d3:=(B.out.trans A.out).cell_of (D.out.cell_of (I 3 _ rfl) (by simp)) (by simp);have d4:=(B.out.trans A.out).cell_of (D.out.cell_of (I 4 _ rfl) (by simp)) (by simp);have d5:=(B.out.trans A.out).cell_of (D.out.cell_of (I 5 _ rfl) (by simp)) (by simp);have d6:=(B.out.trans A.out).cell_of (D.out.cell_of (I 6 _ rfl) (by simp)) (by simp);have d7:=(B.out.trans A.out).cell_of (D.out.cell_of (I 7 _ rfl) (by simp)) (by simp);have d8:=(B.out.trans A.out).cell_of (D.out.cell_of (I 8 _ rfl) (by simp)) (by simp);have d9:=(B.out.trans A.out).cell_of (D.out.cell_of (I 9 _ rfl) (by simp)) (by simp);have ct:=(B.out.trans A.out).cell_of (D.out.cell_of (I 10 _ rfl) (by simp)) (by simp);have bo:=(B.out.trans A.out).cell_of (D.out.cell_of (I 11 _ rfl) (by simp)) (by simp);have ch:=(B.out.trans A.out).cell_of (D.out.cell_of (I 12 _ rfl) (by simp)) (by simp);have bn:=(B.out.trans A.out).cell_of (D.out.cell_of (I 13 _ rfl) (by simp)) (by simp);have b3:=(B.out.trans A.out).cell_of (D.out.cell_of (I 14 _ rfl) (by simp)) (by simp);rw[Nat.add_zero] at d0;have a3:f.jobs[j].at_=(jb f j).at_:=by rw[eI J]
   obtain ⟨x,hx⟩:∃ x,f.jobs[j]=x:=⟨_,rfl⟩
   rw[hx] at d0 d1 d2 d3 d4 d5 d6 d7 d8 d9 ct bo ch bn b3 a3;clear I hx;by_cases I:j∈out
   ·have HC:Hid (∀ W,aa [] O W→Calls zy 109 #[zR Ao out.length co,zW zX j] W fun e w'=>e=zT (.bool true)∧W=w'):=zx fun W z=>(by
     have:=a4.out j W (ad.out.trans (A.out.trans z));rw[List.contains_iff_mem.2 I] at this;exact this)
    have HN':Hid (∀ t,t<j+1→t∈out):=zx fun t ht=>by
     by_cases h:t<j
     ·exact HN.out t h
     obtain rfl:t=j:=by omega
     exact I
    have Z:=zx (A.out.alloc (zU (bZ x (zR A2 x.outs.length c2) (zR A3 x.ins.length c3) (zR A4 x.cols.length c4)) 59));clear I a3;go_wp2_with ((with_reducible refine (HC.out _ ((zN _ _).alloc _)).mono ?_);rintro e w5 ⟨rfl,rfl⟩)
    go_roundw
    case rel=>exact ⟨j+1,by omega,by go_num,HN',Z⟩
    case measure=>simp[intOf];omega
   have HC:Hid (∀ W,aa [] O W→Calls zy 109 #[zR Ao out.length co,zW zX j] W fun e w'=>e=zT (.bool false)∧W=w'):=zx fun W z=>(by
    have:=a4.out j W (ad.out.trans (A.out.trans z));rw[show out.contains j=false by simpa using I] at this;exact this)
   have HE:Hid (R= .error (11,x.at_)):=zx (by rw[a3];exact bb.out j J I HN.out);have Z:=zx (D.out.trans (B.out.trans (A.out.alloc (zU (bZ x (zR A2 x.outs.length c2) (zR A3 x.ins.length c3) (zR A4 x.cols.length c4)) 59))));clear I a3;go_wp2_with ((with_reducible refine (HC.out _ ((zN _ _).alloc _)).mono ?_);rintro e w5 ⟨rfl,rfl⟩)
   go_region
   all_goals
    go_wp2;go_ret2;exact ⟨by rw[HE.out];exact ⟨_,rfl,(ap.new' (O.alloc _) _ _ _ (by simp)).drew⟩,(Z.out.alloc _).drew⟩
  obtain ⟨k,hk,hn⟩:=b7.out;exact absurd (HN.out k (by omega)) hn
 have bk:¬(out.length:Int)<(f.jobs.length:Int):=by omega
 have HE:Hid (R= .ok out):=zx (by rw[←HG.out,show f.jobs.length-out.length=0 by omega];rfl);obtain ⟨A9,c9,e9,h9,cp⟩:=dH HO.out;injection e9 with b0 _ bq;subst b0 bq;have H9:=zx h9;clear cp h9;go_wp2;go_ret2;exact ⟨by rw[HE.out];exact ⟨_,_,rfl,H9.out,a8.out⟩,D.out.trans M.out⟩
abbrev rQ (w:World) (b:Nat) (s:List Bs):Prop:=db zy 9 4 w b s.length s
theorem db.lookB {w:World} {b:Nat} {s:List Bs} (h:rQ w b s) (k:Bs) (A:k.length≤1000):(Instr.lookup 234 (.map (some b)) (zQ (bs k)) false).run zy w= .ok (.bool (decide (k∈s))) w :=
 db.look h (T:=234) Tryz.underlying234 Tryz.underlying9 Tryz.underlying4 (by kernel_rfl) k (by simp only[maxLen];omega)
theorem db.storeB {w:World} {b:Nat} {s:List Bs} (h:rQ w b s) (k:Bs) (A:k.length≤1000) (B:s.length≤1000000):∃ w',(Instr.mapUpdate 234 (.map (some b)) (zQ (bs k)) (.bool true)).run zy w= .ok () w'∧rQ w' b (k::s)∧w.grownBy w' (some b) :=
 db.store h (T:=234) Tryz.underlying234 Tryz.underlying9 Tryz.underlying4 k (by simp only[maxLen];omega) (by simp only[maxLen];omega)
def mW (x:Int×Int) (e:Value) (w':World):Prop:=∃ h,e= .iface 136 (zS (some ⟨h,0,none⟩))∧ap w' h 137 #[zW zX x.1,zW zX x.2]
theorem mW.keep {x:Int×Int} {e:Value} {w w':World} (h:mW x e w) (A:aa [] w w'):mW x e w':=by
 obtain ⟨I,D,B⟩:=h;exact ⟨I,D,B.keep A (by simp)⟩
structure fV (w:World) (X b Y:Nat) (v0 v1 v2:Value) (s:List Bs) (W:World):Prop where
 k:aa [] w W
 fb:ap W X 79 #[v0,v1,v2]
 mb:ap W Y 234 #[.map (some b)]
 mp:rQ W b s
 hb:w.heap.size≤b
 xb:X≠b
 yb:Y≠b
theorem fV.keep {w W J:World} {X b Y:Nat} {I D B:Value} {s:List Bs} (h:fV w X b Y I D B s W) (A:aa [] W J):fV w X b Y I D B s J :=
 ⟨h.k.trans A,h.fb.keep A (by simp),h.mb.keep A (by simp),h.mp.keep A (by simp),h.hb,h.xb,h.yb⟩
theorem fV.put {w W B:World} {X b Y:Nat} {M J I:Value} {s D:List Bs} (h:fV w X b Y M J I s W) (A:aa [b] W B) (U:rQ B b D):fV w X b Y M J I D B :=
 ⟨h.k.trans' A (fun x Z O=>by rw[zD.1 Z] at O;exact absurd h.hb (by omega)),h.fb.keep A (by simpa using h.xb),h.mb.keep A (by simpa using h.yb),U,h.hb,h.xb,h.yb⟩
theorem oN {w W:World} {X b Y:Nat} {v0 v1 v2:Value} {s:List Bs} (h:fV w X b Y v0 v1 v2 s W) (n:Bs) (a:Int) (hn:n.length≤1000) (hs:s.length≤1000000) :
  Calls zy 158 #[zQ (bs n),zW zX a,zS (some ⟨Y,0,none⟩)] W fun e M=>(n∈s∧(∃ u,e=zT u∧mW (9,a) u M)∧aa [] W M)∨(n∉s∧e=zT .nilIface∧fV w X b Y v0 v1 v2 (n::s) M∧aa [b] W M):=by
 have c0:W.cell? ⟨Y,0,none⟩=some (.map (some b)):=h.mb.cell 0;have hl:=h.mb.lt;have B:=h.mp.lookB n hn;by_cases A:n∈s
 ·rw[decide_eq_true A] at B
  have Z:=zx A;clear A h;go_enter Tryz.func158,Tryz.ntmps158
  go_wp2;go_ret;exact .inl ⟨Z.out,⟨_,rfl,_,rfl,zO _ _ _⟩,(zN _ _).alloc _⟩
 rw[decide_eq_false A] at B;obtain ⟨W2,ad,J,I⟩:=h.mp.storeB n hn hs;have Z:=zx A;have D:aa [b] W W2:=(zN [b] W).grown I (fun g O=> .inl (by injection O with O;simp[O]));have HS:=zx (h.put D J);have U:=zx D;clear A h J I D;go_enter Tryz.func158,Tryz.ntmps158
 go_wp2;go_ret;exact .inr ⟨Z.out,rfl,HS.out,U.out⟩
theorem tB {w W:World} {X b Y:Nat} {I D B:Value} {s:List Bs} (h:fV w X b Y I D B s W) (n:Bs) (M:n.length≤1000) :
  Calls zy 159 #[zQ (bs n),zS (some ⟨Y,0,none⟩)] W fun e J=>e=zT (.bool (!decide (n∈s)))∧aa [] W J:=by
 have U:W.cell? ⟨Y,0,none⟩=some (.map (some b)):=h.mb.cell 0;have O:=h.mb.lt;have A:=h.mp.lookB n M;clear h;generalize decide (n∈s)=Q at *;go_enter Tryz.func159,Tryz.ntmps159
 go_wp2;go_ret;exact ⟨rfl,zN _ _⟩
def xw (R:Except (Int×Int) Unit) (e:Ending) (w':World):Prop:=match R with
 | .ok _=>e=zT .nilIface
 | .error x=>∃ u,e=zT u∧mW x u w'
structure gS (f:Fl):Prop where
 outs:f.outs.length≤1000
 all:(cG f).length≤100000
 names:∀ n∈cG f,n.length≤1000
 ins:∀ j∈f.jobs,∀ n∈j.ins,n.length≤1000
 told:∀ x∈f.outs,x.name.length≤1000∧x.src.length≤1000
def K3 (f:Fl) (s:List Bs):Except (Int×Int) Unit:=bu s f.outs []
def K2 (f:Fl) (s:List Bs):Except (Int×Int) Unit:=match aV s f.jobs with
 | .ok _=>K3 f s
 | .error x=> .error x
def K1 (f:Fl) (s:List Bs):Except (Int×Int) Unit:=match aK (aZ f.jobs) s with
 | .ok s=>K2 f s
 | .error x=> .error x
def dl {α β:Type} (r:Except (Int×Int) α) (k:α→Except (Int×Int) β):Except (Int×Int) β:=match r with
 | .ok a=>k a
 | .error x=> .error x
theorem mX (f:Fl):dn f=dl (aK (f.ins.map fun x=>(x.name,x.at_)) []) (fun s=>dl (aK (aZ f.jobs) s) fun s=>dl (aV s f.jobs) fun _=>bu s f.outs []):=by
 unfold dn dl
 cases aK (f.ins.map fun x=>(x.name,x.at_)) [] with
 | error x=>rfl
 | ok s =>
  show (aK (aZ f.jobs) s >>= _)=_;simp only
  cases aK (aZ f.jobs) s with
  | error x=>rfl
  | ok h =>
   show (aV h f.jobs >>= _)=_;simp only
   cases aV h f.jobs with
   | error x=>rfl
   | ok u=>rfl
theorem dR (p:Bs×Int) (l:List (Bs×Int)) (s:List Bs):aK (p::l) s=if p.1∈s then .error (9,p.2) else aK l (p.1::s):=rfl
theorem gq (s:List Bs) (j:Jb) (h:List Jb):aV s (j::h)=if j.ins.any (fun n=> !decide (n∈s)) then .error (7,j.at_) else aV s h:=rfl
theorem gT (s:List Bs) (x:Pb) (l:List Pb) (t:List Bs):bu s (x::l) t=if x.src∉s then .error (7,x.at_) else if x.name∈t then .error (9,x.at_) else bu s l (x.name::t):=rfl
theorem gU (j:Jb) (h:List Jb):aZ (j::h)=(j.outs.map fun n=>(n,j.at_))++aZ h:=rfl
theorem mw (f:Fl) (v0 v1 v2:Value) (w:World) (hF:iw w v0 v1 v2 f) (hS:gS f) :
  Calls zy 107 #[.agg #[v0,v1,v2]] w fun e w'=>xw (dn f) e w'∧aa [] w w':=by
 have co:= @run_makeMap zy;obtain ⟨R,hR⟩:∃ R,dn f=R:=⟨_,rfl⟩
 rw[hR];rw[mX] at hR;have c9:=hF.i0;have ep:=hF.i1;have e0:=hF.i2;obtain ⟨ft,A0,c0,rfl,fu,b6⟩:=c9;obtain ⟨e9,A1,c1,rfl,f1,b4⟩:=ep;obtain ⟨f0,A2,c2,rfl,fn,cf⟩:=e0;have H0:=zx b6;have H1:=zx b4;have H2:=zx cf;have HR:=zx hR;have HS:=zx hS;have bd:fV w w.heap.size (w.heap.size+1) (w.heap.size+1+1) (zR A0 f.ins.length c0) (zR A1 f.jobs.length c1) (zR A2 f.outs.length c2) [] (((w.alloc (zU #[zR A0 f.ins.length c0,zR A1 f.jobs.length c1,zR A2 f.outs.length c2] 79)).alloc (.map #[] 0)).alloc (zU #[.map (some (w.heap.size+1))] 234)):=by
  have hm:=db.made (P:=zy) (S:=9) (E:=4) (w.alloc (zU #[zR A0 f.ins.length c0,zR A1 f.jobs.length c1,zR A2 f.outs.length c2] 79));rw[gh] at hm;exact ⟨(((zN _ _).alloc _).alloc _).alloc _,((zO _ _ _).alloc _).alloc _,ap.new' ((w.alloc _).alloc _) _ _ _ (by rw[gh,gh]),hm.keep (L:=[]) ((zN _ _).alloc _) (by simp),by omega,by omega,by omega⟩
 have ba:=zx bd;clear hF hR hS b6 b4 cf bd;obtain ⟨X,hX⟩:∃ X,w.heap.size=X:=⟨_,rfl⟩
 go_enter Tryz.func107,Tryz.ntmps107
 go_upto_block 0 with (fail)
 rw[hX] at ba;generalize (((w.alloc (zU #[zR A0 f.ins.length c0,zR A1 f.jobs.length c1,zR A2 f.outs.length c2] 79)).alloc (.map #[] 0)).alloc (zU #[.map (some (X+1))] 234))=y0 at ba ⊢;generalize X+1+1=Y at ba ⊢;generalize X+1=b at ba ⊢;clear hX co;go_cut [] (fun wx=>∃ s,Hid (fV w X b Y (zR A0 f.ins.length c0) (zR A1 f.jobs.length c1) (zR A2 f.outs.length c2) s wx)∧s.length≤f.ins.length∧Hid (dl (aK (aZ f.jobs) s) (fun s=>dl (aV s f.jobs) fun _=>bu s f.outs [])=R))
 case first =>
  go_wp2_with fail
  go_loopw [23] (fun i wr=>∃ (j:Nat) (s:List Bs),j≤f.ins.length∧i=zW zX j∧s.length≤j∧Hid (fV w X b Y (zR A0 f.ins.length c0) (zR A1 f.jobs.length c1) (zR A2 f.outs.length c2) s wr)∧Hid (dl (aK ((f.ins.map fun x=>(x.name,x.at_)).drop j) s) (fun s=>dl (aK (aZ f.jobs) s) fun s=>dl (aV s f.jobs) fun _=>bu s f.outs [])=R)) (fun i _=>f.ins.length-(intOf i).toNat)
  case atStart=>exact ⟨0,[],zE _,rfl,zz _,ba,HR⟩
  obtain ⟨j,s,hj,rfl,a7,A,HG⟩:=hrel;obtain ⟨wj,rfl⟩:∃ z:World,z=wr:=⟨_,rfl⟩
  have fS:f.ins.length≤100000:=by
   have:=HS.out.all;unfold cG at this;rw[zF,List.length_map] at this;omega
  by_cases J:j<f.ins.length
  ·have a9:(j:Int)<(f.ins.length:Int):=by omega
   obtain ⟨g,cs,rfl,hg,-,⟨vc,rfl,⟨-,Ac,cc,rfl,-,-⟩⟩,D⟩:=H0.out j J;have d0:=A.out.k.cell_of (D 0 _ rfl) (by simp);have d1:=A.out.k.cell_of (D 1 _ rfl) (by simp);have d2:=A.out.k.cell_of (D 2 _ rfl) (by simp);rw[Nat.add_zero] at d0;have hl:(f.ins[j]).name.length≤1000:=HS.out.names _ (by unfold cG;exact List.mem_append_left _ (List.mem_map.2 ⟨_,zH J,rfl⟩));have bd:(f.ins.map fun x=>(x.name,x.at_)).drop j=(f.ins[j].name,f.ins[j].at_)::(f.ins.map fun x=>(x.name,x.at_)).drop (j+1):=by
    rw[List.drop_eq_getElem_cons (by simpa using J),List.getElem_map]
   have B:=HG.out;rw[bd,dR] at B;obtain ⟨x,hx⟩:∃ x,f.ins[j]=x:=⟨_,rfl⟩
   rw[hx] at d0 d1 d2 hl B;have M:=zx B;have HC:=zx (oN (A.out.keep ((zN _ _).alloc (zU #[zW zX x.at_,zQ (bs x.name),zR Ac x.cols.length cc] 173))) x.name x.at_ hl (by omega));clear bd B hx D hl;go_wp2_with fail
   refine HC.out.mono ?_;rintro e w5 (⟨I,⟨u,rfl,hu⟩,k5⟩|⟨I,rfl,bj,-⟩)
   ·have HE:Hid (R= .error (9,x.at_)):=zx (by
     have:=M.out;rw[if_pos I] at this;exact this.symm)
    obtain ⟨gi,rfl,bm⟩:=hu;have bl:=zx bm;have cj:=zx ((A.out.k.alloc _).trans k5);clear I bm k5;go_wp2;go_ret;exact ⟨by rw[HE.out];exact ⟨_,rfl,_,rfl,bl.out⟩,cj.out⟩
   have O:Hid (dl (aK ((f.ins.map fun x=>(x.name,x.at_)).drop (j+1)) (x.name::s)) (fun s=>dl (aK (aZ f.jobs) s) fun s=>dl (aV s f.jobs) fun _=>bu s f.outs [])=R):=zx (by
    have:=M.out;rw[if_neg I] at this;exact this)
   have aA:=zx bj;clear I bj;go_wp2;go_roundw
   case rel=>exact ⟨j+1,x.name::s,by omega,by go_num,by simp;omega,aA,O⟩
   case measure=>simp[intOf];omega
  have a9:¬(j:Int)<(f.ins.length:Int):=by omega
  have O:Hid (dl (aK (aZ f.jobs) s) (fun s=>dl (aV s f.jobs) fun _=>bu s f.outs [])=R):=zx (by
   have:=HG.out;rw[List.drop_of_length_le (by simp;omega)] at this;exact this)
  go_wp2;go_meet
  case rel=>exact ⟨s,A,by omega,O⟩
 obtain ⟨s,A,a7,HG⟩:=hcut;clear ba HR;have bk:=HS.out.all;unfold cG at bk;rw[zF,List.length_map] at bk;have a5:wc.cell? ⟨X,1,none⟩=some (zR A1 f.jobs.length c1):=A.out.fb.cell 1;have a6:=A.out.fb.lt;go_upto_block 2 with (fail)
 go_cut [] (fun wx=>∃ s,Hid (fV w X b Y (zR A0 f.ins.length c0) (zR A1 f.jobs.length c1) (zR A2 f.outs.length c2) s wx)∧Hid (dl (aV s f.jobs) (fun _=>bu s f.outs [])=R))
 case first =>
  go_wp2_with fail
  go_loopw [40] (fun i wr=>∃ (j:Nat) (s:List Bs),j≤f.jobs.length∧i=zW zX j∧s.length+((f.jobs.drop j).flatMap (·.outs)).length≤100000∧Hid (fV w X b Y (zR A0 f.ins.length c0) (zR A1 f.jobs.length c1) (zR A2 f.outs.length c2) s wr)∧Hid (dl (aK (aZ (f.jobs.drop j)) s) (fun s=>dl (aV s f.jobs) fun _=>bu s f.outs [])=R)) (fun i _=>f.jobs.length-(intOf i).toNat)
  case atStart=>exact ⟨0,s,zE _,rfl,by rw[List.drop_zero];omega,A,HG⟩
  clear A HG a7 a5 a6;obtain ⟨j,s,hj,rfl,a7,A,HG⟩:=hrel;obtain ⟨wj,rfl⟩:∃ z:World,z=wr:=⟨_,rfl⟩
  by_cases J:j<f.jobs.length
  ·have a9:(j:Int)<(f.jobs.length:Int):=by omega
   obtain ⟨g,cs,rfl,hg,-,⟨_,_,_,rfl,⟨es,B2,e2,rfl,ek,cp⟩,⟨-,B3,e3,rfl,-,-⟩,⟨-,B4,e4,rfl,-,-⟩⟩,D⟩:=H1.out j J;have d0:=A.out.k.cell_of (D 0 _ rfl) (by simp);have d1:=A.out.k.cell_of (D 1 _ rfl) (by simp);have d2:=A.out.k.cell_of (D 2 _ rfl) (by simp);have d3:=A.out.k.cell_of (D 3 _ rfl) (by simp);have d4:=A.out.k.cell_of (D 4 _ rfl) (by simp);have d5:=A.out.k.cell_of (D 5 _ rfl) (by simp);have d6:=A.out.k.cell_of (D 6 _ rfl) (by simp);have d7:=A.out.k.cell_of (D 7 _ rfl) (by simp);have d8:=A.out.k.cell_of (D 8 _ rfl) (by simp);have d9:=A.out.k.cell_of (D 9 _ rfl) (by simp);have b3:=A.out.k.cell_of (D 10 _ rfl) (by simp);have bq:=A.out.k.cell_of (D 11 _ rfl) (by simp);have b1:=A.out.k.cell_of (D 12 _ rfl) (by simp);have bn:=A.out.k.cell_of (D 13 _ rfl) (by simp);have b0:=A.out.k.cell_of (D 14 _ rfl) (by simp);rw[Nat.add_zero] at d0;have ad:∀ n∈f.jobs[j].outs,n.length≤1000:=fun n hn=>HS.out.names n (by unfold cG;exact List.mem_append_right _ (List.mem_flatMap.2 ⟨_,zH J,hn⟩))
   have B:=HG.out;rw[List.drop_eq_getElem_cons J] at B a7;rw[gU] at B;rw[List.flatMap_cons,zF] at a7;obtain ⟨x,hx⟩:∃ x,f.jobs[j]=x:=⟨_,rfl⟩
   rw[hx] at d0 d1 d2 d3 d4 d5 d6 d7 d8 d9 b3 bq b1 bn b0 ad B a7 es ek cp;have M:=zx B;have et:=zx cp;have dB:=zx ad;have dv:=zO wj 59 (bZ x (zR B2 x.outs.length e2) (zR B3 x.ins.length e3) (zR B4 x.cols.length e4));have U:=zx (A.out.keep ((zN _ _).alloc (zU (bZ x (zR B2 x.outs.length e2) (zR B3 x.ins.length e3) (zR B4 x.cols.length e4)) 59)));have en:b<wj.heap.size:=A.out.mp.lt;clear B hx D cp ad;go_upto_block 4 with (fail)
   generalize cq:wj.alloc (zU #[zW zX x.at_,zW zX x.code,zR B2 x.outs.length e2,zR B3 x.ins.length e3,zR B4 x.cols.length e4,zQ (bs x.op),zQ (bs x.left.col),zW zX x.left.val.kind,zW zX x.left.val.num,zQ (bs x.left.val.word),zQ (bs x.right.col),zW zX x.right.val.kind,zW zX x.right.val.num,zQ (bs x.right.val.word),zW zX x.retry] 59)=y1 at *;generalize c5:wj.heap.size=xb at *;have a8:Hid (ap y1 xb 59 (bZ x (zR B2 x.outs.length e2) (zR B3 x.ins.length e3) (zR B4 x.cols.length e4))):=zx (by rw[←cq,←c5];exact zO _ _ _);have U:Hid (fV w X b Y (zR A0 f.ins.length c0) (zR (some ⟨g,0,none⟩) f.jobs.length c1) (zR A2 f.outs.length c2) s y1):=zx (by rw[←cq];exact A.out.keep ((zN _ _).alloc _));have b7:xb≠b:=by omega
   have ev:=zx b7;clear cq c5 dv en b7 d0 d1 d2 d3 d4 d5 d6 d7 d8 d9 b3 bq b1 bn b0 A HG;have p0:y1.cell? ⟨xb,0,none⟩=some (zW zX x.at_):=a8.out.cell 0;have p2:y1.cell? ⟨xb,2,none⟩=some (zR B2 x.outs.length e2):=a8.out.cell 2;have pl:=a8.out.lt;go_wp2_with fail
   go_loopw [47] (fun i wr=>∃ (m:Nat) (s:List Bs),m≤x.outs.length∧i=zW zX m∧s.length+(x.outs.length-m)+((f.jobs.drop (j+1)).flatMap (·.outs)).length≤100000∧Hid (fV w X b Y (zR A0 f.ins.length c0) (zR (some ⟨g,0,none⟩) f.jobs.length c1) (zR A2 f.outs.length c2) s wr)∧Hid (ap wr xb 59 (bZ x (zR B2 x.outs.length e2) (zR B3 x.ins.length e3) (zR B4 x.cols.length e4)))∧Hid (dl (aK ((x.outs.map fun n=>(n,x.at_)).drop m++aZ (f.jobs.drop (j+1))) s) (fun s=>dl (aV s f.jobs) fun _=>bu s f.outs [])=R)) (fun i _=>x.outs.length-(intOf i).toNat)
   case atStart=>exact ⟨0,s,zE _,rfl,by omega,U,a8,M⟩
   clear p0 p2 pl U a8 M a7;obtain ⟨m,s,hm,rfl,a7,A,a8,HG⟩:=hrel;obtain ⟨wm,rfl⟩:∃ z:World,z=wr:=⟨_,rfl⟩
   have p0:wm.cell? ⟨xb,0,none⟩=some (zW zX x.at_):=a8.out.cell 0;have pl:=a8.out.lt;by_cases cg:m<x.outs.length
   ·have er:(m:Int)<(x.outs.length:Int):=by omega
    obtain ⟨bo,oo,rfl,-,fg,cu⟩:=(et.out.keep A.out.k).open' (by omega) (by omega);have q0:=cu m _ (b9 x.outs m cg);have cv:=dB.out _ (zH cg);have B:=HG.out;rw[List.drop_eq_getElem_cons (by simpa using cg),List.getElem_map,List.cons_append,dR] at B;obtain ⟨n,hn⟩:∃ n,x.outs[m]=n:=⟨_,rfl⟩
    rw[hn] at q0 cv B;have M:=zx B;have HC:=zx (oN A.out n x.at_ cv (by omega));clear cu B hn;go_wp2_with fail
    refine HC.out.mono ?_;rintro e w5 (⟨I,⟨u,rfl,hu⟩,k5⟩|⟨I,rfl,bj,k5⟩)
    ·have HE:Hid (R= .error (9,x.at_)):=zx (by
      have:=M.out;rw[if_pos I] at this;exact this.symm)
     obtain ⟨gi,rfl,bm⟩:=hu;have bl:=zx bm;have cj:=zx (A.out.k.trans k5);clear I bm k5;go_wp2;go_ret;exact ⟨by rw[HE.out];exact ⟨_,rfl,_,rfl,bl.out⟩,cj.out⟩
    have O:Hid (dl (aK ((x.outs.map fun n=>(n,x.at_)).drop (m+1)++aZ (f.jobs.drop (j+1))) (n::s)) (fun s=>dl (aV s f.jobs) fun _=>bu s f.outs [])=R):=zx (by
     have:=M.out;rw[if_neg I] at this;exact this)
    have aA:=zx bj;have bl:=zx (a8.out.keep k5 (by simpa using ev.out));clear I bj k5;go_wp2;go_roundw
    case rel=>exact ⟨m+1,n::s,by omega,by go_num,by simp only[zG];omega,aA,bl,O⟩
    case measure=>simp[intOf];omega
   have er:¬(m:Int)<(x.outs.length:Int):=by omega
   have O:Hid (dl (aK (aZ (f.jobs.drop (j+1))) s) (fun s=>dl (aV s f.jobs) fun _=>bu s f.outs [])=R):=zx (by
    have:=HG.out;rw[List.drop_of_length_le (by simp;omega)] at this;exact this)
   go_wp2;go_roundw
   case rel=>exact ⟨j+1,s,by omega,by go_num,by omega,A,O⟩
   case measure=>simp[intOf];omega
  have a9:¬(j:Int)<(f.jobs.length:Int):=by omega
  have O:Hid (dl (aV s f.jobs) (fun _=>bu s f.outs [])=R):=zx (by
   have:=HG.out;rw[List.drop_of_length_le (by omega)] at this;exact this)
  go_wp2;go_meet
  case rel=>exact ⟨s,A,O⟩
 obtain ⟨s,A,HG⟩:=hcut;clear a5 a6 bk a7;have a5:wc.cell? ⟨X,1,none⟩=some (zR A1 f.jobs.length c1):=A.out.fb.cell 1;have a6:=A.out.fb.lt;go_upto_block 6 with (fail)
 go_cut [] (fun wx=>Hid (fV w X b Y (zR A0 f.ins.length c0) (zR A1 f.jobs.length c1) (zR A2 f.outs.length c2) s wx)∧Hid (bu s f.outs []=R))
 case first =>
  go_wp2_with fail
  go_loopw [64] (fun i wr=>∃ j:Nat,j≤f.jobs.length∧i=zW zX j∧Hid (fV w X b Y (zR A0 f.ins.length c0) (zR A1 f.jobs.length c1) (zR A2 f.outs.length c2) s wr)∧Hid (dl (aV s (f.jobs.drop j)) (fun _=>bu s f.outs [])=R)) (fun i _=>f.jobs.length-(intOf i).toNat)
  case atStart=>exact ⟨0,zE _,rfl,A,HG⟩
  clear A HG a5 a6;obtain ⟨j,hj,rfl,A,HG⟩:=hrel;obtain ⟨wj,rfl⟩:∃ z:World,z=wr:=⟨_,rfl⟩
  by_cases J:j<f.jobs.length
  ·have a9:(j:Int)<(f.jobs.length:Int):=by omega
   obtain ⟨g,cs,rfl,hg,-,⟨_,_,_,rfl,⟨-,B2,e2,rfl,-,-⟩,⟨cx,B3,e3,rfl,dq,ct⟩,⟨-,B4,e4,rfl,-,-⟩⟩,D⟩:=H1.out j J;have d0:=A.out.k.cell_of (D 0 _ rfl) (by simp);have d1:=A.out.k.cell_of (D 1 _ rfl) (by simp);have d2:=A.out.k.cell_of (D 2 _ rfl) (by simp);have d3:=A.out.k.cell_of (D 3 _ rfl) (by simp);have d4:=A.out.k.cell_of (D 4 _ rfl) (by simp);have d5:=A.out.k.cell_of (D 5 _ rfl) (by simp);have d6:=A.out.k.cell_of (D 6 _ rfl) (by simp);have d7:=A.out.k.cell_of (D 7 _ rfl) (by simp);have d8:=A.out.k.cell_of (D 8 _ rfl) (by simp);have d9:=A.out.k.cell_of (D 9 _ rfl) (by simp);have b3:=A.out.k.cell_of (D 10 _ rfl) (by simp);have bq:=A.out.k.cell_of (D 11 _ rfl) (by simp);have b1:=A.out.k.cell_of (D 12 _ rfl) (by simp);have bn:=A.out.k.cell_of (D 13 _ rfl) (by simp);have b0:=A.out.k.cell_of (D 14 _ rfl) (by simp);rw[Nat.add_zero] at d0;have ad:∀ n∈f.jobs[j].ins,n.length≤1000:=fun n hn=>HS.out.ins _ (zH J) n hn
   have B:=HG.out;rw[List.drop_eq_getElem_cons J,gq] at B;obtain ⟨x,hx⟩:∃ x,f.jobs[j]=x:=⟨_,rfl⟩
   rw[hx] at d0 d1 d2 d3 d4 d5 d6 d7 d8 d9 b3 bq b1 bn b0 ad B cx dq ct;have M:=zx B;have U:=zx (A.out.keep ((zN _ _).alloc (zU (bZ x (zR B2 x.outs.length e2) (zR B3 x.ins.length e3) (zR B4 x.cols.length e4)) 59)));have HC:Hid (∀ W,aa [] wj W→Calls zy 110 #[zR B3 x.ins.length e3,.func (.func 159) #[] #[zS (some ⟨Y,0,none⟩)]] W fun e w'=>e=zT (.bool (x.ins.any fun n=> !decide (n∈s)))∧aa [] W w'):=zx fun W z =>
    fy 159 _ (fun _ _=>by rfl) (fun n=> !decide (n∈s)) x.ins B3 e3 W (ct.keep (A.out.k.trans z)) cx (fun n hn W' z'=>tB (A.out.keep (z.trans z')) n (ad n hn))
   have c8:=zx (A.out.k.alloc (zU (bZ x (zR B2 x.outs.length e2) (zR B3 x.ins.length e3) (zR B4 x.cols.length e4)) 59));clear B hx D ct ad
   cases a0:(x.ins.any fun n=> !decide (n∈s)) with
   | true =>
    have HE:Hid (R= .error (7,x.at_)):=zx (by
     have:=M.out;rw[if_pos a0] at this;exact this.symm)
    rw[a0] at HC;clear a0;go_wp2_with ((with_reducible refine (HC.out _ ((zN _ _).alloc _)).mono ?_);rintro e w5 ⟨rfl,k5⟩;have b5:w5.cell? ⟨wj.heap.size,0,none⟩=some (zW zX x.at_):=((zO wj 59 (bZ x (zR B2 x.outs.length e2) (zR B3 x.ins.length e3) (zR B4 x.cols.length e4))).keep k5 (by simp)).cell 0;have fv:=((zO wj 59 (bZ x (zR B2 x.outs.length e2) (zR B3 x.ins.length e3) (zR B4 x.cols.length e4))).keep k5 (by simp)).lt)
    go_ret;exact ⟨by rw[HE.out];exact ⟨_,rfl,_,rfl,zO _ _ _⟩,(c8.out.trans k5).alloc _⟩
   | false =>
    have O:Hid (dl (aV s (f.jobs.drop (j+1))) (fun _=>bu s f.outs [])=R):=zx (by
     have:=M.out;rw[a0] at this;exact this)
    rw[a0] at HC;clear a0;go_wp2_with ((with_reducible refine (HC.out _ ((zN _ _).alloc _)).mono ?_);rintro e w5 ⟨rfl,k5⟩)
    have aA:=zx (U.out.keep k5);go_roundw
    case rel=>exact ⟨j+1,by omega,by go_num,aA,O⟩
    case measure=>simp[intOf];omega
  have a9:¬(j:Int)<(f.jobs.length:Int):=by omega
  have O:Hid (bu s f.outs []=R):=zx (by
   have:=HG.out;rw[List.drop_of_length_le (by omega)] at this;exact this)
  go_wp2;go_meet
  case rel=>exact ⟨A,O⟩
 clear A HG a5 a6;obtain ⟨A,HG⟩:=hcut;obtain ⟨y5,rfl⟩:∃ z:World,z=wc:=⟨_,rfl⟩
 have a5:y5.cell? ⟨X,2,none⟩=some (zR A2 f.outs.length c2):=A.out.fb.cell 2;have a6:=A.out.fb.lt;have co:= @run_makeMap zy;have bA:=zx (db.made (P:=zy) (S:=9) (E:=4) y5);have aA:=zx (A.out.keep ((zN _ _).alloc (.map #[] 0)));have ch:(y5.alloc (.map #[] 0)).cell? ⟨X,2,none⟩=some (zR A2 f.outs.length c2):=aA.out.fb.cell 2;have bB:y5.heap.size≠X∧y5.heap.size≠Y∧y5.heap.size≠b∧w.heap.size≤y5.heap.size:=by
  have a1:=A.out.fb.lt;have a2:=A.out.mb.lt;have a3:=A.out.mp.lt;have a4:=A.out.k.size;omega
 go_upto_block 8 with (fail)
 generalize hq:y5.alloc (.map #[] 0)=y6 at bA aA ch ⊢;generalize el:y5.heap.size=b2 at bA bB ⊢;clear hq el co a5 a6 A;have a5:=ch;have a6:=aA.out.fb.lt;go_wp2_with fail
 go_loopw [82] (fun i wr=>∃ (j:Nat) (told:List Bs),j≤f.outs.length∧i=zW zX j∧told.length≤j∧Hid (fV w X b Y (zR A0 f.ins.length c0) (zR A1 f.jobs.length c1) (zR A2 f.outs.length c2) s wr)∧Hid (rQ wr b2 told)∧Hid (bu s (f.outs.drop j) told=R)) (fun i _=>f.outs.length-(intOf i).toNat)
 case atStart=>exact ⟨0,[],zE _,rfl,zz _,aA,bA,HG⟩
 clear aA bA HG a5 ch a6;obtain ⟨j,told,hj,rfl,fz,A,ds,HG⟩:=hrel;obtain ⟨wj,rfl⟩:∃ z:World,z=wr:=⟨_,rfl⟩
 by_cases J:j<f.outs.length
 ·have a9:(j:Int)<(f.outs.length:Int):=by omega
  obtain ⟨g,cs,rfl,hg,-,eb,D⟩:=H2.out j J;obtain rfl:=eb;have d0:=A.out.k.cell_of (D 0 _ rfl) (by simp);have d1:=A.out.k.cell_of (D 1 _ rfl) (by simp);have d2:=A.out.k.cell_of (D 2 _ rfl) (by simp);rw[Nat.add_zero] at d0;have ad:=HS.out.told _ (zH J);have ff:=HS.out.outs;have B:=HG.out;rw[List.drop_eq_getElem_cons J,gT] at B;obtain ⟨x,hx⟩:∃ x,f.outs[j]=x:=⟨_,rfl⟩
  rw[hx] at d0 d1 d2 ad B;have U:=zx (A.out.keep ((zN _ _).alloc (zU #[zW zX x.at_,zQ (bs x.name),zQ (bs x.src)] 179)));have c3:=zx (ds.out.keep (L:=[]) ((zN _ _).alloc (zU #[zW zX x.at_,zQ (bs x.name),zQ (bs x.src)] 179)) (by simp));have m0:(wj.alloc (zU #[zW zX x.at_,zQ (bs x.name),zQ (bs x.src)] 179)).cell? ⟨Y,0,none⟩=some (.map (some b)):=U.out.mb.cell 0;have mY:=A.out.mb.lt;have fc:Y≠wj.heap.size:=by omega
  have c7:=U.out.mp.lookB x.src ad.2;have ci:=c3.out.lookB x.name ad.1;have M:=zx B;clear B hx D;by_cases Z:x.src∈s
  ·rw[decide_eq_true Z] at c7
   by_cases I:x.name∈told
   ·rw[decide_eq_true I] at ci
    have HE:Hid (R= .error (9,x.at_)):=zx (by
     have:=M.out;rw[if_neg (fun h=>h Z),if_pos I] at this;exact this.symm)
    clear Z I;go_wp2;go_ret;exact ⟨by rw[HE.out];exact ⟨_,rfl,_,rfl,ap.new' (wj.alloc _) _ _ _ (by rw[gh])⟩,U.out.k.alloc _⟩
   rw[decide_eq_false I] at ci;obtain ⟨w7,e5,c6,c4⟩:=c3.out.storeB x.name ad.1 (by omega);have bb:aa [b2] (wj.alloc (zU #[zW zX x.at_,zQ (bs x.name),zQ (bs x.src)] 179)) w7:=(zN [b2] _).grown c4 (fun g hg=> .inl (by injection hg with hg;simp[hg]));have em:Hid (fV w X b Y (zR A0 f.ins.length c0) (zR A1 f.jobs.length c1) (zR (some ⟨g,0,none⟩) f.outs.length c2) s w7):=zx ⟨U.out.k.trans' bb (fun q hq hl=>by rw[zD.1 hq] at hl;omega),U.out.fb.keep bb (by simpa using bB.1.symm),U.out.mb.keep bb (by simpa using bB.2.1.symm),U.out.mp.keep bb (by simpa using bB.2.2.1.symm),A.out.hb,A.out.xb,A.out.yb⟩;have ez:=zx c6;have O:Hid (bu s (f.outs.drop (j+1)) (x.name::told)=R):=zx (by
    have:=M.out;rw[if_neg (fun h=>h Z),if_neg I] at this;exact this)
   clear Z I c6 c4 bb;go_wp2;go_roundw
   case rel=>exact ⟨j+1,x.name::told,by omega,by go_num,by simp only[zG];omega,em,ez,O⟩
   case measure=>simp[intOf];omega
  rw[decide_eq_false Z] at c7;have HE:Hid (R= .error (7,x.at_)):=zx (by
   have:=M.out;rw[if_pos Z] at this;exact this.symm)
  clear Z ci;go_wp2;go_ret;exact ⟨by rw[HE.out];exact ⟨_,rfl,_,rfl,ap.new' (wj.alloc _) _ _ _ (by rw[gh])⟩,U.out.k.alloc _⟩
 have a9:¬(j:Int)<(f.outs.length:Int):=by omega
 have HE:Hid (R= .ok ()):=zx (by
  have:=HG.out;rw[List.drop_of_length_le (by omega)] at this;exact this.symm)
 go_wp2;go_ret;exact ⟨by rw[HE.out];rfl,A.out.k⟩
def jo (W:World):List (Bs×Value)→Cm→Prop
 | [],[]=>True
 | p::mv,q::m=>p.1=q.1∧e8 W p.2 q.2∧jo W mv m
 | _,_=>False
theorem jo.keep {W B:World} (A:aa [] W B):∀ {mv:List (Bs×Value)} {m:Cm},jo W mv m→jo B mv m
 | [],[],_=>trivial
 | _::_,_::_,h=>⟨h.1,h.2.1.keep A,jo.keep A h.2.2⟩
theorem jo.len {W:World}:∀ {mv:List (Bs×Value)} {m:Cm},jo W mv m→mv.length=m.length
 | [],[],_=>rfl
 | _::_,_::_,h=>congrArg (· + 1) h.2.2.len
theorem jo.fst {W:World}:∀ {mv:List (Bs×Value)} {m:Cm},jo W mv m→mv.map (·.1)=m.map (·.1)
 | [],[],_=>rfl
 | p::mv,q::m,h=>by rw[List.map_cons,List.map_cons,h.1,h.2.2.fst]
theorem jo.look {W:World} (n:Bs):∀ {mv:List (Bs×Value)} {m:Cm},jo W mv m→(mv.lookup n=none∧m.lookup n=none)∨∃ v c,mv.lookup n=some v∧m.lookup n=some c∧e8 W v c
 | [],[],_=> .inl ⟨rfl,rfl⟩
 | p::mv,q::m,h=>by
  obtain ⟨p1,I⟩:=p;obtain ⟨J,q2⟩:=q;obtain ⟨e,D,B⟩:=h;simp only at e;subst e;rw[List.lookup_cons,List.lookup_cons];by_cases A:n=p1
  ·subst A
   simp only[beq_self_eq_true];exact .inr ⟨_,_,rfl,rfl,D⟩
  have:(n==p1)=false:=by simpa using A
  rw[this];exact jo.look n B
theorem e8.nil (W:World):e8 W (zR none 0 0) []:=⟨by simp,none,0,rfl,zz _,Rd.nil⟩
theorem jo.get {W:World} {mv:List (Bs×Value)} {m:Cm} (h:jo W mv m) (n:Bs):e8 W ((mv.lookup n).getD (zR none 0 0)) (ce m n):=by
 unfold ce;rcases h.look n with ⟨B,A⟩|⟨v,c,B,A,D⟩
 ·rw[B,A];exact e8.nil W
 rw[B,A];exact D
structure lA (w:World) (X b:Nat) (v0 v1 v2:Value) (mv:List (Bs×Value)) (m:Cm) (W:World):Prop where
 k:aa [] w W
 fb:ap W X 79 #[v0,v1,v2]
 mp:cz zy 9 W b mv
 cv:jo W mv m
 hb:w.heap.size≤b
 xb:X≠b
theorem n3 {W:World} {b o:Nat} {h:Array MapEntry} {cl:Nat} {v:Value} (A:W.heap[b]? = some (.map h cl)):W.cell? ⟨b,o,none⟩≠some v:=by
 unfold World.cell?;rw[A];simp
theorem Rd.keepM {W O:World} {b size n:Nat} {A:Option Addr} {xs:List Value} {es:Array MapEntry} {cl:Nat} (Z:W.heap[b]? = some (.map es cl)) (J:aa [b] W O) (M:0<size) (h:Rd W [] size A n xs):Rd O [] size A n xs:=by
 refine ⟨h.1,fun D=>?_⟩;obtain ⟨ad,e,h1,I,h3⟩:=h.2 D;have U:0<xs.length:=by rw[h.1];exact Nat.mul_pos D M
 obtain ⟨b2,o2,e2,_,_,h4⟩:=Rd.open' h D M;rw[e] at e2;injection e2 with e2;subst e2;have B:b2≠b:=fun hh=>by
  subst hh;exact n3 Z (h4 0 _ (zI U))
 exact ⟨_,e,h1,Nat.lt_of_lt_of_le I J.size,fun j u hu=>(J.cell (by rw[dt];exact I) (by rw[dt];simpa using B)).trans (h3 j u hu)⟩
theorem e8.keepM {W B:World} {b:Nat} {v:Value} {l:List Cl} {M:Array MapEntry} {cl:Nat} (U:W.heap[b]? = some (.map M cl)) (D:aa [b] W B) (h:e8 W v l):e8 B v l:=by
 obtain ⟨O,A,c,J,I,Z⟩:=h;exact ⟨O,A,c,J,I,Z.keepM U D (by decide)⟩
theorem jo.keepM {W D:World} {b:Nat} {I:Array MapEntry} {cl:Nat} (B:W.heap[b]? = some (.map I cl)) (A:aa [b] W D):∀ {mv:List (Bs×Value)} {m:Cm},jo W mv m→jo D mv m
 | [],[],_=>trivial
 | _::_,_::_,h=>⟨h.1,h.2.1.keepM B A,jo.keepM B A h.2.2⟩
theorem cz.isM {W:World} {b:Nat} {mv:List (Bs×Value)} (h:cz zy 9 W b mv):∃ A cl,W.heap[b]? = some (.map A cl):=by
 obtain ⟨D,⟨A,cl,B,_⟩,_⟩:=h;exact ⟨A,cl,B⟩
theorem lA.keep {w W J:World} {X b:Nat} {I D B:Value} {mv:List (Bs×Value)} {m:Cm} (h:lA w X b I D B mv m W) (A:aa [] W J):lA w X b I D B mv m J :=
 ⟨h.k.trans A,h.fb.keep A (by simp),h.mp.keep A (by simp),h.cv.keep A,h.hb,h.xb⟩
theorem cz.get {w:World} {b:Nat} {mv:List (Bs×Value)} (h:cz zy 9 w b mv) (k:Bs) (A:k.length≤1000):(Instr.lookup 84 (.map (some b)) (zQ (bs k)) false).run zy w= .ok ((mv.lookup k).getD (zR none 0 0)) w :=
 cz.look0 h (T:=84) (E:=22) Tryz.underlying84 Tryz.underlying9 (by kernel_rfl) k (by simp only[maxLen];omega)
theorem cz.put {w:World} {b:Nat} {mv:List (Bs×Value)} (h:cz zy 9 w b mv) (k:Bs) (v:Value) (A:k.length≤1000) (B:mv.length≤1000000000000000):∃ w',(Instr.mapUpdate 84 (.map (some b)) (zQ (bs k)) v).run zy w= .ok () w'∧cz zy 9 w' b ((k,v)::mv)∧w.grownBy w' (some b) :=
 cz.store h (T:=84) (E:=22) Tryz.underlying84 Tryz.underlying9 k v (by simp only[maxLen];omega) (by simp only[maxLen];omega)
theorem lA.put {w W B:World} {X b:Nat} {M I J:Value} {mv:List (Bs×Value)} {m:Cm} (h:lA w X b M I J mv m W) {n:Bs} {v:Value} {c:List Cl} (hv:e8 W v c) (U:cz zy 9 B b ((n,v)::mv)) (A:aa [b] W B):lA w X b M I J ((n,v)::mv) ((n,c)::m) B:=by
 obtain ⟨es,cl,D⟩:=h.mp.isM;exact ⟨h.k.trans' A (fun x Z O=>by rw[zD.1 Z] at O;exact absurd h.hb (by omega)),h.fb.keep A (by simpa using h.xb),U,⟨rfl,hv.keepM D A,h.cv.keepM D A⟩,h.hb,h.xb⟩
def tG (R:Except (Int×Int) Cm) (h:Nat) (e:Ending) (w':World):Prop:=match R with
 | .ok m=>∃ b mv,e=zT (.tuple #[.map (some b),.nilIface])∧cz zy 9 w' b mv∧jo w' mv m∧h≤b
 | .error x=>∃ u,e=zT (.tuple #[.map none,u])∧mW x u w'
theorem nn (f:Fl):eg f=dl (f9 f.ins []) fun m=>dl (dn f) fun _=>dl (bO f) fun l=>cR f l m:=by
 unfold eg dl
 cases f9 f.ins [] with
 | error x=>rfl
 | ok m =>
  show (dn f >>= _)=_;simp only
  cases dn f with
  | error x=>rfl
  | ok u =>
   show (bO f >>= _)=_;simp only
   cases bO f with
   | error x=>rfl
   | ok l=>rfl
theorem jD (x:In) (l:List In) (m:Cm):f9 (x::l) m=if cN x.cols then f9 l ((x.name,x.cols)::m) else .error (3,x.at_):=rfl
theorem gZ (l:List Nat) (t:Nat) (h:t<l.length):(cO l)[t]? = some (zW zX (l[t]:Nat)):=by simp[cO,cn,h]
theorem re {A:List Jb} {j:Jb} (h:j∈A):j.outs.length≤(A.flatMap (·.outs)).length:=by
 induction A with
 | nil=>cases h
 | cons q A ih =>
  rw[List.flatMap_cons,zF];rcases List.mem_cons.1 h with rfl|h
  ·omega
  have:=ih h;omega
def g8 (f:Fl) (h:List Nat) (x:Jb) (m:Cm) (r:Except Int (List (List Cl))):Except (Int×Int) Cm:=match r with
 | .error e=> .error (e,x.at_)
 | .ok cs=>cR f h (eT x.outs cs m)
theorem iK (f:Fl) (k:Nat) (h:List Nat) (m:Cm):cR f (k::h) m=g8 f h (jb f k) m (cA (jb f k) ((jb f k).ins.map (ce m))):=by
 unfold g8;rw[cR];cases cA (jb f k) (List.map (ce m) (jb f k).ins)<;>rfl
theorem no (ns:List Bs) (cs:List (List Cl)) (q:Nat) (h:q<ns.length) (h':q<cs.length) (m:Cm):eT (ns.drop q) (cs.drop q) m=eT (ns.drop (q+1)) (cs.drop (q+1)) ((ns[q],cs[q])::m):=by
 rw[List.drop_eq_getElem_cons h,List.drop_eq_getElem_cons h'];rfl
theorem o8 (ns:List Bs) (cs:List (List Cl)) (q:Nat) (h:ns.length≤q) (m:Cm):eT (ns.drop q) (cs.drop q) m=m:=by
 rw[List.drop_of_length_le h];unfold eT;rfl
def sa (D W:World) (A:Nat) (u:Value) (cs:List (List Cl)):Prop:=∃ B:List Value,B.length=cs.length∧W.ownsRow A 22 1 u cs.length B∧∀ i (h:i<B.length) (h':i<cs.length),e8 D B[i] cs[i]
theorem sa.nil (B W:World) (A:Nat):sa B W A (zR none 0 0) []:=⟨[],rfl,World.ownsRow_nil _ _ _ _,fun i h=>absurd h (by simp)⟩
theorem sa.heads {I W:World} {D:Nat} {u:Value} {cs:List (List Cl)} (h:sa I W D u cs) (M:aa [] I W):∃ A c,u=zR A cs.length c∧aW W A cs:=by
 obtain ⟨us,O,J,Z⟩:=h;obtain ⟨A,c,rfl,hc,U⟩:=dH J;exact ⟨A,c,rfl,us,O,U,fun i hi hi'=>by
  obtain ⟨-,B,d,e,hd,hB⟩:=Z i hi hi';exact ⟨B,d,e,hd,hB.keep M⟩⟩
theorem tH:(Tryz.prog.info? 22).map (fun i=>(i.zero,i.size,i.bytes))=some (some (zR none 0 0),1,24):=by kernel_rfl
theorem aW.keepM {W M:World} {b:Nat} {A:Option Addr} {I:List (List Cl)} {Z:Array MapEntry} {cl:Nat} (D:W.heap[b]? = some (.map Z cl)) (J:aa [b] W M) (h:aW W A I):aW M A I:=by
 obtain ⟨us,U,O,h3⟩:=h;exact ⟨us,U,O.keepM D J (by decide),fun i hi hi'=>by
  obtain ⟨B,d,e,hd,hB⟩:=h3 i hi hi';exact ⟨B,d,e,hd,hB.keepM D J (by decide)⟩⟩
theorem sc (f:Fl) (v0 v1 v2:Value) (w:World) (hF:iw w v0 v1 v2 f) (hS:gS f) (hE:nY w) (hT:gY w) (ci:∀ x∈f.ins,∀ c∈x.cols,c.name.length≤1000000000) :
  Calls zy 40 #[.agg #[v0,v1,v2]] w fun e w'=>tG (eg f) w.heap.size e w'∧aa [] w w':=by
 have j4:= @run_makeMap zy;obtain ⟨i0,hY,jf,ic,i5⟩:=info_parts tH;obtain ⟨R,hR⟩:∃ R,eg f=R:=⟨_,rfl⟩
 rw[hR];rw[nn] at hR;have HF:=zx hF;have h3:=hF.i0;have j1:=hF.i1;have h2:=hF.i2;obtain ⟨lo,A0,c0,rfl,k2,c4⟩:=h3;obtain ⟨lc,A1,c1,rfl,lb,c7⟩:=j1;obtain ⟨lq,A2,c2,rfl,lm,hD⟩:=h2;have H0:=zx c4;have H1:=zx c7;have HR:=zx hR;have HS:=zx hS;have HE:=zx hE;have HT:=zx hT;have HCL:=zx ci;have hC:lA w w.heap.size (w.heap.size+1) (zR A0 f.ins.length c0) (zR A1 f.jobs.length c1) (zR A2 f.outs.length c2) [] [] ((w.alloc (zU #[zR A0 f.ins.length c0,zR A1 f.jobs.length c1,zR A2 f.outs.length c2] 79)).alloc (.map #[] 0)):=by
  have hm:=cz.made (P:=zy) (S:=9) (w.alloc (zU #[zR A0 f.ins.length c0,zR A1 f.jobs.length c1,zR A2 f.outs.length c2] 79));rw[gh] at hm;exact ⟨((zN _ _).alloc _).alloc _,(zO _ _ _).alloc _,hm,trivial,by omega,by omega⟩
 have bA:=zx hC;clear hF hR hS c4 c7 hD hC hE hT ci;obtain ⟨X,hX⟩:∃ X,w.heap.size=X:=⟨_,rfl⟩
 go_enter Tryz.func40,Tryz.ntmps40
 go_upto_block 0 with (fail)
 rw[hX] at bA;generalize ((w.alloc (zU #[zR A0 f.ins.length c0,zR A1 f.jobs.length c1,zR A2 f.outs.length c2] 79)).alloc (.map #[] 0))=y0 at bA ⊢;generalize k9:X+1=b at bA ⊢;have i4:X≤b:=by omega
 clear j4;go_cut [] (fun wx=>∃ mv m,Hid (lA w X b (zR A0 f.ins.length c0) (zR A1 f.jobs.length c1) (zR A2 f.outs.length c2) mv m wx)∧m.length≤f.ins.length∧Hid (uR m)∧Hid (dl (dn f) (fun _=>dl (bO f) fun l=>cR f l m)=R))
 case first =>
  have hZ:f.ins.length≤100000:=by
   have:=HS.out.all;unfold cG at this;rw[zF,List.length_map] at this;omega
  go_wp2_with fail
  go_loopw [24] (fun i wr=>∃ (j:Nat) (mv:List (Bs×Value)) (m:Cm),j≤f.ins.length∧i=zW zX j∧m.length≤j∧Hid (uR m)∧Hid (lA w X b (zR A0 f.ins.length c0) (zR A1 f.jobs.length c1) (zR A2 f.outs.length c2) mv m wr)∧Hid (dl (f9 (f.ins.drop j) m) (fun m=>dl (dn f) fun _=>dl (bO f) fun l=>cR f l m)=R)) (fun i _=>f.ins.length-(intOf i).toNat)
  case atStart=>exact ⟨0,[],[],zE _,rfl,zz _,zx (fun q hq=>by cases hq),bA,HR⟩
  obtain ⟨j,mv,m,hj,rfl,f6,Z,A,HG⟩:=hrel;obtain ⟨wj,rfl⟩:∃ z:World,z=wr:=⟨_,rfl⟩
  by_cases cx:j<f.ins.length
  ·have h7:(j:Int)<(f.ins.length:Int):=by omega
   obtain ⟨g,cs,rfl,hg,-,⟨vc,rfl,b0⟩,M⟩:=H0.out j cx;have bd:=b0;obtain ⟨ci,Ac,cc,rfl,g3,ba⟩:=b0;have d0:=A.out.k.cell_of (M 0 _ rfl) (by simp);have d1:=A.out.k.cell_of (M 1 _ rfl) (by simp);have d2:=A.out.k.cell_of (M 2 _ rfl) (by simp);rw[Nat.add_zero] at d0;have hl:(f.ins[j]).name.length≤1000:=HS.out.names _ (by unfold cG;exact List.mem_append_left _ (List.mem_map.2 ⟨_,zH cx,rfl⟩));have ff:=HCL.out _ (zH cx);have O:=HG.out;rw[List.drop_eq_getElem_cons cx,jD] at O;obtain ⟨x,hx⟩:∃ x,f.ins[j]=x:=⟨_,rfl⟩
   rw[hx] at d0 d1 d2 hl O ci g3 ba ff bd;have a4:=zx O;have ir:=zx bd;have HC:Hid (∀ W,aa [] wj W→Calls zy 10 #[zR Ac x.cols.length cc] W fun e w'=>e=zT (.bool (cN x.cols))∧aa [] W w'):=zx fun W z=>mu x.cols Ac cc W (ba.keep (A.out.k.trans z)) g3 ff ci
   have dv:=A.out.cv.len;clear O hx M ba ff bd
   cases a2:cN x.cols with
   | true =>
    have a9:Hid (dl (f9 (f.ins.drop (j+1)) ((x.name,x.cols)::m)) (fun m=>dl (dn f) fun _=>dl (bO f) fun l=>cR f l m)=R):=zx (by
     have:=a4.out;rw[if_pos a2] at this;exact this)
    have bj:Hid (uR ((x.name,x.cols)::m)):=zx (Z.out.put (nl.1 a2).2.1);rw[a2] at HC;clear a2;go_wp2_with fail
    refine (HC.out _ ((zN _ _).alloc _)).mono ?_;rintro e w5 ⟨rfl,k5⟩;have b5:=(zO wj 173 #[zW zX x.at_,zQ (bs x.name),zR Ac x.cols.length cc]).keep k5 (by simp);have e1:w5.cell? ⟨wj.heap.size,1,none⟩=some (zQ (bs x.name)):=b5.cell 1;have e2:w5.cell? ⟨wj.heap.size,2,none⟩=some (zR Ac x.cols.length cc):=b5.cell 2;have el:=b5.lt;have J:=zx (A.out.keep (((zN _ _).alloc (zU #[zW zX x.at_,zQ (bs x.name),zR Ac x.cols.length cc] 173)).trans k5));obtain ⟨w6,hP,hL,gs⟩:=J.out.mp.put x.name (zR Ac x.cols.length cc) hl (by rw[dv];omega);have aA:=zx (J.out.put (ir.out.keep J.out.k) hL ((zN [b] _).grown gs (fun g hg=> .inl (by injection hg with hg;simp[hg]))));clear b5 k5 hL gs;go_wp2;go_roundw
    case rel=>exact ⟨j+1,_,_,by omega,by go_num,by simp only[zG];omega,bj,aA,a9⟩
    case measure=>simp[intOf];omega
   | false =>
    have ad:Hid (R= .error (3,x.at_)):=zx (by
     have:=a4.out;rw[a2] at this;exact this.symm)
    rw[a2] at HC;clear a2;go_wp2_with fail
    refine (HC.out _ ((zN _ _).alloc _)).mono ?_;rintro e w5 ⟨rfl,k5⟩;have b5:=(zO wj 173 #[zW zX x.at_,zQ (bs x.name),zR Ac x.cols.length cc]).keep k5 (by simp);have e0:w5.cell? ⟨wj.heap.size,0,none⟩=some (zW zX x.at_):=b5.cell 0;have el:=b5.lt;have bq:=zx ((A.out.k.alloc _).trans k5);clear b5 k5;go_wp2;go_region
    all_goals
     go_wp2;go_ret2;exact ⟨by rw[ad.out];exact ⟨_,rfl,_,rfl,(zO _ _ _).drew⟩,(bq.out.alloc _).drew⟩
  have h7:¬(j:Int)<(f.ins.length:Int):=by omega
  have a9:Hid (dl (dn f) (fun _=>dl (bO f) fun l=>cR f l m)=R):=zx (by
   have:=HG.out;rw[List.drop_of_length_le (by omega)] at this;exact this)
  go_wp2;go_meet
  case rel=>exact ⟨mv,m,A,by omega,Z,a9⟩
 obtain ⟨mv,m,A,f6,Z,HG⟩:=hcut;clear bA HR;have p0:wc.cell? ⟨X,0,none⟩=some (zR A0 f.ins.length c0):=A.out.fb.cell 0;have p1:wc.cell? ⟨X,1,none⟩=some (zR A1 f.jobs.length c1):=A.out.fb.cell 1;have p2:wc.cell? ⟨X,2,none⟩=some (zR A2 f.outs.length c2):=A.out.fb.cell 2;have pl:=A.out.fb.lt;have bn:=zx (mw f _ _ _ wc (HF.out.keep A.out.k) HS.out)
 cases a8:dn f with
 | error x =>
  rw[a8] at bn;have ad:Hid (R= .error x):=zx (by
   have:=HG.out;rw[a8] at this;exact this.symm)
  clear a8 HG;go_wp2_with fail
  refine bn.out.mono ?_;rintro e w5 ⟨⟨u,rfl,gi,rfl,bm⟩,k5⟩;have f2:=zx bm;have bq:=zx (A.out.k.trans k5);clear bm k5;go_wp2;go_ret2;exact ⟨by rw[ad.out];exact ⟨_,rfl,_,rfl,f2.out⟩,bq.out⟩
 | ok uu =>
  rw[a8] at bn;have ct:Hid (dl (bO f) (fun l=>cR f l m)=R):=zx (by
   have:=HG.out;rw[a8] at this;exact this)
  clear a8 HG;go_wp2_with fail
  refine bn.out.mono ?_;rintro e w5 ⟨he,k5⟩;obtain rfl:e=zT .nilIface:=he;have J:=zx (A.out.keep k5);clear A k5 p0 p1 p2 pl bn;have p0:w5.cell? ⟨X,0,none⟩=some (zR A0 f.ins.length c0):=J.out.fb.cell 0;have p1:w5.cell? ⟨X,1,none⟩=some (zR A1 f.jobs.length c1):=J.out.fb.cell 1;have p2:w5.cell? ⟨X,2,none⟩=some (zR A2 f.outs.length c2):=J.out.fb.cell 2;have pl:=J.out.fb.lt;have bb:=zx (jA f _ _ _ w5 (HF.out.keep J.out.k))
  cases a3:bO f with
  | error x =>
   rw[a3] at bb;have ad:Hid (R= .error x):=zx (by
    have:=ct.out;rw[a3] at this;exact this.symm)
   clear a3 ct;go_wp2_with fail
   refine bb.out.mono ?_;rintro e w6 ⟨⟨gi,rfl,bm⟩,k6⟩;have f2:=zx bm;have bq:=zx (J.out.k.trans k6);clear bm k6;go_wp2;go_ret2;exact ⟨by rw[ad.out];exact ⟨_,rfl,_,rfl,f2.out⟩,bq.out⟩
  | ok l =>
   rw[a3] at bb;have a4:Hid (cR f l m=R):=zx (by
    have:=ct.out;rw[a3] at this;exact this)
   obtain ⟨g2,k3⟩:=fO a3;have jc:=zx g2.lt;clear a3 ct g2;go_wp2_with fail
   refine bb.out.mono ?_;rintro e w6 ⟨⟨Al,cl,rfl,ln,hB⟩,k6⟩;have aA:=zx (J.out.keep k6);have bo:=zx hB;have lh:=zx k6;have lj:Hid (w.heap.size≤w6.heap.size):=zx aA.out.k.size;clear k6 hB p0 p1 p2 pl bb J;have p0:w6.cell? ⟨X,0,none⟩=some (zR A0 f.ins.length c0):=aA.out.fb.cell 0;have p1:w6.cell? ⟨X,1,none⟩=some (zR A1 f.jobs.length c1):=aA.out.fb.cell 1;have pl:=aA.out.fb.lt;have hZ:f.ins.length≤100000:=by
    have:=HS.out.all;unfold cG at this;rw[zF,List.length_map] at this;omega
   go_wp2_with fail
   go_loopw [58] (fun i wr=>∃ (t:Nat) (mv:List (Bs×Value)) (m:Cm),t≤l.length∧i=zW zX t∧m.length≤100000+t*100000∧Hid (uR m)∧Hid (lA w X b (zR A0 f.ins.length c0) (zR A1 f.jobs.length c1) (zR A2 f.outs.length c2) mv m wr)∧Hid (Rd wr [] 1 Al l.length (cO l))∧Hid (cR f (l.drop t) m=R)) (fun i _=>l.length-(intOf i).toNat)
   case atStart=>exact ⟨0,mv,m,zE _,rfl,by omega,Z,aA,bo,a4⟩
   clear p0 p1 pl aA a4 bo f6 Z;obtain ⟨t,mv,m,ht,rfl,f6,Z,A,bo,HG⟩:=hrel;obtain ⟨I,rfl⟩:∃ z:World,z=wr:=⟨_,rfl⟩
   have p1:I.cell? ⟨X,1,none⟩=some (zR A1 f.jobs.length c1):=A.out.fb.cell 1;have pl:=A.out.fb.lt;by_cases en:t<l.length
   ·have kb:(t:Int)<(l.length:Int):=by omega
    have kl:t<f.jobs.length:=by omega
    have ks:(t:Int)<(f.jobs.length:Int):=by omega
    obtain ⟨bl,ol,rfl,-,k1,c8⟩:=bo.out.open' (by omega) (by omega);have q0:I.cell? ⟨bl,ol+t,none⟩=some (zW zX (l[t]:Nat)):=c8 t _ (gZ l t en);have hk:=jc.out _ (zH en);have O:=HG.out;rw[List.drop_eq_getElem_cons en,iK] at O;obtain ⟨k,hN⟩:∃ k,l[t]=k:=⟨_,rfl⟩
    rw[hN] at q0 hk O;have k0:(k:Int)<(f.jobs.length:Int):=by omega
    obtain ⟨g,cs,rfl,hg,-,⟨_,_,_,rfl,⟨hr,B2,e2,rfl,hO,f1⟩,⟨il,B3,e3,rfl,fg,fv⟩,⟨c9,B4,e4,rfl,eb,cf⟩⟩,M⟩:=H1.out k hk;have d0:=A.out.k.cell_of (M 0 _ rfl) (by simp);have d1:=A.out.k.cell_of (M 1 _ rfl) (by simp);have d2:=A.out.k.cell_of (M 2 _ rfl) (by simp);have d3:=A.out.k.cell_of (M 3 _ rfl) (by simp);have d4:=A.out.k.cell_of (M 4 _ rfl) (by simp);have d5:=A.out.k.cell_of (M 5 _ rfl) (by simp);have d6:=A.out.k.cell_of (M 6 _ rfl) (by simp);have d7:=A.out.k.cell_of (M 7 _ rfl) (by simp);have d8:=A.out.k.cell_of (M 8 _ rfl) (by simp);have d9:=A.out.k.cell_of (M 9 _ rfl) (by simp);have gj:=A.out.k.cell_of (M 10 _ rfl) (by simp);have ep:=A.out.k.cell_of (M 11 _ rfl) (by simp);have ft:=A.out.k.cell_of (M 12 _ rfl) (by simp);have em:=A.out.k.cell_of (M 13 _ rfl) (by simp);have f7:=A.out.k.cell_of (M 14 _ rfl) (by simp);rw[Nat.add_zero] at d0;rw[eI hk] at O;have et:∀ n∈f.jobs[k].ins,n.length≤1000:=fun n hn=>HS.out.ins _ (zH hk) n hn
    have fS:∀ n∈f.jobs[k].outs,n.length≤1000:=fun n hn=>HS.out.names n (by unfold cG;exact List.mem_append_right _ (List.mem_flatMap.2 ⟨_,zH hk,hn⟩))
    have it:f.jobs[k].outs.length≤100000:=by
     have h1:=re (zH hk);have:=HS.out.all;unfold cG at this;rw[zF] at this;omega
    obtain ⟨x,hx⟩:∃ x,f.jobs[k]=x:=⟨_,rfl⟩
    rw[hx] at d0 d1 d2 d3 d4 d5 d6 d7 d8 d9 gj ep ft em f7 et fS it O hr hO f1 il fg fv c9 eb cf;have a4:=zx O;have hU:=zx et;have js:=zx fS;have g4:=zx f1;have j2:=zx fv;have ix:=zx cf;have dv:=A.out.cv.len;clear c8 O hN hx M et fS f1 fv cf hk;go_upto_block 4 with (fail)
    go_cut [13,15] (fun u _ wx=>Hid (sa (I.alloc (zU #[zW zX x.at_,zW zX x.code,zR B2 x.outs.length e2,zR B3 x.ins.length e3,zR B4 x.cols.length e4,zQ (bs x.op),zQ (bs x.left.col),zW zX x.left.val.kind,zW zX x.left.val.num,zQ (bs x.left.val.word),zQ (bs x.right.col),zW zX x.right.val.kind,zW zX x.right.val.num,zQ (bs x.right.val.word),zW zX x.retry] 59)) wx (I.alloc (zU #[zW zX x.at_,zW zX x.code,zR B2 x.outs.length e2,zR B3 x.ins.length e3,zR B4 x.cols.length e4,zQ (bs x.op),zQ (bs x.left.col),zW zX x.left.val.kind,zW zX x.left.val.num,zQ (bs x.left.val.word),zQ (bs x.right.col),zW zX x.right.val.kind,zW zX x.right.val.num,zQ (bs x.right.val.word),zW zX x.retry] 59)).heap.size u (x.ins.map (ce m)))∧Hid (aa [] (I.alloc (zU #[zW zX x.at_,zW zX x.code,zR B2 x.outs.length e2,zR B3 x.ins.length e3,zR B4 x.cols.length e4,zQ (bs x.op),zQ (bs x.left.col),zW zX x.left.val.kind,zW zX x.left.val.num,zQ (bs x.left.val.word),zQ (bs x.right.col),zW zX x.right.val.kind,zW zX x.right.val.num,zQ (bs x.right.val.word),zW zX x.retry] 59)) wx))
    case first =>
     have cq:ap (I.alloc (zU #[zW zX x.at_,zW zX x.code,zR B2 x.outs.length e2,zR B3 x.ins.length e3,zR B4 x.cols.length e4,zQ (bs x.op),zQ (bs x.left.col),zW zX x.left.val.kind,zW zX x.left.val.num,zQ (bs x.left.val.word),zQ (bs x.right.col),zW zX x.right.val.kind,zW zX x.right.val.num,zQ (bs x.right.val.word),zW zX x.retry] 59)) I.heap.size 59 #[zW zX x.at_,zW zX x.code,zR B2 x.outs.length e2,zR B3 x.ins.length e3,zR B4 x.cols.length e4,zQ (bs x.op),zQ (bs x.left.col),zW zX x.left.val.kind,zW zX x.left.val.num,zQ (bs x.left.val.word),zQ (bs x.right.col),zW zX x.right.val.kind,zW zX x.right.val.num,zQ (bs x.right.val.word),zW zX x.retry]:=zO _ _ _;have ez:=A.out.keep ((zN _ _).alloc (zU #[zW zX x.at_,zW zX x.code,zR B2 x.outs.length e2,zR B3 x.ins.length e3,zR B4 x.cols.length e4,zQ (bs x.op),zQ (bs x.left.col),zW zX x.left.val.kind,zW zX x.left.val.num,zQ (bs x.left.val.word),zQ (bs x.right.col),zW zX x.right.val.kind,zW zX x.right.val.num,zQ (bs x.right.val.word),zW zX x.retry] 59));clear d0 d1 d2 d3 d4 d5 d6 d7 d8 d9 gj ep ft em f7;generalize g1:(I.alloc (zU #[zW zX x.at_,zW zX x.code,zR B2 x.outs.length e2,zR B3 x.ins.length e3,zR B4 x.cols.length e4,zQ (bs x.op),zQ (bs x.left.col),zW zX x.left.val.kind,zW zX x.left.val.num,zQ (bs x.left.val.word),zQ (bs x.right.col),zW zX x.right.val.kind,zW zX x.right.val.num,zQ (bs x.right.val.word),zW zX x.retry] 59))=y1 at cq ez ⊢;have hM:=zx g1;clear g1;have hw:=zx ez;have x3:y1.cell? ⟨I.heap.size,3,none⟩=some (zR B3 x.ins.length e3):=cq.cell 3;have xl:=cq.lt;clear cq ez;go_wp2_with fail
     go_loopw [13,15,70] (fun u _ i wr=>∃ q:Nat,q≤x.ins.length∧i=zW zX q∧Hid (sa y1 wr y1.heap.size u ((x.ins.take q).map (ce m)))∧Hid (aa [] y1 wr)) (fun _ _ i _=>x.ins.length-(intOf i).toNat)
     case atStart=>exact ⟨0,zE _,rfl,zx (sa.nil _ _ _),zx (zN _ _)⟩
     clear x3 xl;obtain ⟨q,hq,rfl,HH,cj⟩:=hrel;obtain ⟨wq,rfl⟩:∃ z:World,z=wr:=⟨_,rfl⟩
     by_cases a5:q<x.ins.length
     ·have fu:(q:Int)<(x.ins.length:Int):=by omega
      have hp:=zx (hw.out.keep cj.out);obtain ⟨b6,o6,rfl,-,h5,cg⟩:=(j2.out.keep hp.out.k).open' (by omega) (by omega);have s0:=cg q _ (b9 x.ins q a5);have bB:=hU.out _ (zH a5);have e9:(x.ins.take (q+1)).map (ce m)=(x.ins.take q).map (ce m)++[ce m x.ins[q]]:=by rw[List.take_succ_eq_append_getElem a5,List.map_append];rfl
      obtain ⟨n,hn⟩:∃ n,x.ins[q]=n:=⟨_,rfl⟩
      rw[hn] at s0 bB e9;have lk:=hp.out.mp.get n bB;have hh:=hw.out.cv.get n;have ha:=zx hh;obtain ⟨kz,Av,cv,ev,gm,gw⟩:=hh;rw[ev] at lk ha;have ih:=zx e9;obtain ⟨us,b4,a0,bk⟩:=HH.out;have cp:((x.ins.take q).map (ce m)).length=q:=by rw[List.length_map,List.length_take,Nat.min_eq_left hq]
      rw[cp] at b4 a0;obtain ⟨Au,cu,rfl,-⟩:=ao a0;have hf:=zx a0;have jx:=zx bk;have h8:=zx (show y1.heap.size≤(wq.alloc (zU #[zR Av (ce m n).length cv] 22)).heap.size by have:=cj.out.size;simp;omega);have hu:=zx (show q+1≤maxLen∧(q+1)*24≤140737488355328 by simp only[maxLen];omega);clear cg hn e9 gm gw ev a0 bk HH;go_wp2_with (at_builtin;refine wpList_append_own _ rfl _ _ 62 rfl y1.heap.size 22 i0 (zR none 0 0) 1 24 Tryz.underlying62 hY jf ic i5 rfl (by decide) _ _ _ rfl (hf.out.alloc _) ⟨wq.heap.size,0,none⟩ 1 1 [zR Av (ce m n).length cv] rfl rfl (zJ (heap_alloc_new _ _)) (by simp[Value.oneCell']) hu.out.1 hu.out.2 h8.out ?_)
      intro vv w7 a1 a6 ho;have gb:=zx ((cj.out.alloc _).grown a6 (fun g hg=> .inr (hf.out.lt g hg).1));have f5:Hid (sa y1 w7 y1.heap.size vv ((x.ins.take (q+1)).map (ce m))):=zx (by
       rw[ih.out];refine ⟨us++[zR Av (ce m n).length cv],by rw[zF,zF,b4,cp];rfl,by rw[zF,cp];exact a1,fun i hi hi'=>?_⟩;by_cases lp:i<q
       ·rw[List.getElem_append_left (by omega),List.getElem_append_left (by omega)]
        exact jx.out i (by omega) (by omega)
       have fg:i=q:=by simp at hi;omega
       subst fg;rw[List.getElem_append_right (by omega),List.getElem_append_right (by omega)];simpa[b4,cp] using ha.out)
      obtain ⟨g7,a7,rfl⟩:∃ g7 a7,vv=zR (some ⟨g7,0,none⟩) (q+1) a7:=by
       rcases a1.2 with ⟨_,h0⟩|⟨g7,a7,kx,hv,_⟩
       ·omega
       exact ⟨g7,a7,hv⟩
      clear a1 a6 ho;go_wp2;go_roundw
      case rel=>exact ⟨q+1,by omega,by go_num,f5,gb⟩
      case measure=>simp[intOf];omega
     have fu:¬(q:Int)<(x.ins.length:Int):=by omega
     have f5:Hid (sa y1 wq y1.heap.size u13 (x.ins.map (ce m))):=zx (by
      have:=HH.out;rw[List.take_of_length_le (by omega)] at this;exact this)
     go_wp2;go_meet
     case rel=>exact ⟨by rw[hM.out];exact f5,by rw[hM.out];exact cj⟩
    obtain ⟨HH,co⟩:=hcut;clear d0 d1 d2 d3 d4 d5 d6 d7 d8 d9 gj ep ft em f7;obtain ⟨yc,rfl⟩:∃ z:World,z=wc:=⟨_,rfl⟩
    have D:Hid (ap yc I.heap.size 59 #[zW zX x.at_,zW zX x.code,zR B2 x.outs.length e2,zR B3 x.ins.length e3,zR B4 x.cols.length e4,zQ (bs x.op),zQ (bs x.left.col),zW zX x.left.val.kind,zW zX x.left.val.num,zQ (bs x.left.val.word),zQ (bs x.right.col),zW zX x.right.val.kind,zW zX x.right.val.num,zQ (bs x.right.val.word),zW zX x.retry]):=zx ((zO _ _ _).keep co.out (by simp));have U:=zx (A.out.keep (((zN _ _).alloc (zU #[zW zX x.at_,zW zX x.code,zR B2 x.outs.length e2,zR B3 x.ins.length e3,zR B4 x.cols.length e4,zQ (bs x.op),zQ (bs x.left.col),zW zX x.left.val.kind,zW zX x.left.val.num,zQ (bs x.left.val.word),zQ (bs x.right.col),zW zX x.right.val.kind,zW zX x.right.val.num,zQ (bs x.right.val.word),zW zX x.retry] 59)).trans co.out));obtain ⟨Ah,ch,rfl,b3⟩:=HH.out.heads co.out;have dB:∀ q∈x.ins.map (ce m),q.length≤4294967:=fun q hq=>by
     obtain ⟨n,_,rfl⟩:=List.mem_map.1 hq;exact zA (Z.out.get n) (by decide)
    have f0:Hid (Calls zy 33 #[.agg #[zW zX x.at_,zW zX x.code,zR B2 x.outs.length e2,zR B3 x.ins.length e3,zR B4 x.cols.length e4,zQ (bs x.op),zQ (bs x.left.col),zW zX x.left.val.kind,zW zX x.left.val.num,zQ (bs x.left.val.word),zQ (bs x.right.col),zW zX x.right.val.kind,zW zX x.right.val.num,zQ (bs x.right.val.word),zW zX x.retry],zR Ah x.ins.length ch] yc fun e w'=>aP (cA x (x.ins.map (ce m))) e w'∧aa [] yc w'):=zx (by
     have g5:=rX x B2 e2 B3 x.ins.length e3 B4 e4 (x.ins.map (ce m)) Ah ch yc (HE.out.quiet U.out.k) ⟨g4.out.keep U.out.k,hO,ix.out.keep U.out.k,eb,hr,c9⟩ b3 dB;rw[List.length_map] at g5;exact g5)
    have c5:=zx (fun cs (h:cA x (x.ins.map (ce m))= .ok cs)=>mN h (fun q hq=>by
     obtain ⟨n,_,rfl⟩:=List.mem_map.1 hq;exact Z.out.get n))
    have ek:=zx (fun cs (h:cA x (x.ins.map (ce m))= .ok cs)=>ib h);clear b3 dB;have y0:yc.cell? ⟨I.heap.size,0,none⟩=some (zW zX x.at_):=D.out.cell 0;have y1:yc.cell? ⟨I.heap.size,1,none⟩=some (zW zX x.code):=D.out.cell 1;have y2:yc.cell? ⟨I.heap.size,2,none⟩=some (zR B2 x.outs.length e2):=D.out.cell 2;have y3:yc.cell? ⟨I.heap.size,3,none⟩=some (zR B3 x.ins.length e3):=D.out.cell 3;have y4:yc.cell? ⟨I.heap.size,4,none⟩=some (zR B4 x.cols.length e4):=D.out.cell 4;have y5:yc.cell? ⟨I.heap.size,5,none⟩=some (zQ (bs x.op)):=D.out.cell 5;have y6:yc.cell? ⟨I.heap.size,6,none⟩=some (zQ (bs x.left.col)):=D.out.cell 6;have y7:yc.cell? ⟨I.heap.size,7,none⟩=some (zW zX x.left.val.kind):=D.out.cell 7;have y8:yc.cell? ⟨I.heap.size,8,none⟩=some (zW zX x.left.val.num):=D.out.cell 8;have y9:yc.cell? ⟨I.heap.size,9,none⟩=some (zQ (bs x.left.val.word)):=D.out.cell 9;have hz:yc.cell? ⟨I.heap.size,10,none⟩=some (zQ (bs x.right.col)):=D.out.cell 10;have g6:yc.cell? ⟨I.heap.size,11,none⟩=some (zW zX x.right.val.kind):=D.out.cell 11;have gk:yc.cell? ⟨I.heap.size,12,none⟩=some (zW zX x.right.val.num):=D.out.cell 12;have g0:yc.cell? ⟨I.heap.size,13,none⟩=some (zQ (bs x.right.val.word)):=D.out.cell 13;have gl:yc.cell? ⟨I.heap.size,14,none⟩=some (zW zX x.retry):=D.out.cell 14;have yl:=D.out.lt;generalize ba:cA x (x.ins.map (ce m))=CR at f0 c5 ek;have a9:Hid (g8 f (l.drop (t+1)) x m CR=R):=zx (by
     have:=a4.out;rw[ba] at this;exact this)
    clear ba
    cases CR with
    | error er =>
     have ad:Hid (R= .error (er,x.at_)):=zx a9.out.symm;go_wp2_with fail
     refine f0.out.mono ?_;rintro e w7 ⟨i9,k7⟩;obtain rfl:e=zT (.tuple #[zR none 0 0,.iface 34 (zW zX er)]):=i9;have j3:Hid (∀ W,aa [] w7 W→Calls zy 108 #[.iface 34 (zW zX er)] W fun ev W'=>ev=zT (zW zX er)∧aa [] W W'):=zx fun W z=>qk er W (HT.out.keep (U.out.k.trans (k7.trans z)) (by simp))
     have z0:∀ W,aa [] w7 W→W.cell? ⟨I.heap.size,0,none⟩=some (zW zX x.at_):=fun W z=>(D.out.keep (k7.trans z) (by simp)).cell 0
     have gb:=zx (U.out.k.trans k7);clear k7 y0 y1 y2 y3 y4 y5 y6 y7 y8 y9 hz g6 gk g0 gl;go_upto_region 27 with (fail)
     go_region_held3 (fun W=>aa [] w7 W) (first|exact (zN [] w7).drew|exact (zN [] w7).drew.trans k8|exact aa.alloc ‹_› _) (first|((with_reducible refine (j3.out _ (zN [] w7).drew).mono ?_);rintro e w8 ⟨rfl,k8⟩))
     all_goals
      go_wp2;go_ret2;exact ⟨by rw[ad.out];exact ⟨_,rfl,_,rfl,zO _ _ _⟩,(gb.out.trans ((zN [] w7).drew.trans k8)).alloc _⟩
    | ok out =>
     have h4:Hid (cR f (l.drop (t+1)) (eT x.outs out m)=R):=a9;have km:=ek.out out rfl;have bj:=zx (c5.out out rfl);go_wp2_with fail
     refine f0.out.mono ?_;rintro e w7 ⟨⟨B,d,rfl,lf,b3⟩,k7⟩;have ie:=zx b3;have hV:=zx (U.out.keep k7);have ka:=zx (bo.out.keep (((zN _ _).alloc (zU #[zW zX x.at_,zW zX x.code,zR B2 x.outs.length e2,zR B3 x.ins.length e3,zR B4 x.cols.length e4,zQ (bs x.op),zQ (bs x.left.col),zW zX x.left.val.kind,zW zX x.left.val.num,zQ (bs x.left.val.word),zQ (bs x.right.col),zW zX x.right.val.kind,zW zX x.right.val.num,zQ (bs x.right.val.word),zW zX x.retry] 59)).trans (co.out.trans k7)));have z2:w7.cell? ⟨I.heap.size,2,none⟩=some (zR B2 x.outs.length e2):=(D.out.keep k7 (by simp)).cell 2;have zl:=(D.out.keep k7 (by simp)).lt;clear k7 y0 y1 y2 y3 y4 y5 y6 y7 y8 y9 hz g6 gk g0 gl yl b3;go_wp2_with fail
     go_loopw [18,19,99] (fun _ _ i wr=>∃ (q:Nat) (f3:List (Bs×Value)) (m':Cm),q≤x.outs.length∧i=zW zX q∧m'.length≤m.length+q∧Hid (uR m')∧Hid (lA w X b (zR A0 f.ins.length c0) (zR (some ⟨g,0,none⟩) f.jobs.length c1) (zR A2 f.outs.length c2) f3 m' wr)∧Hid (Rd wr [] 1 (some ⟨bl,ol,none⟩) l.length (cO l))∧Hid (aW wr B out)∧Hid (eT (x.outs.drop q) (out.drop q) m'=eT x.outs out m)) (fun _ _ i _=>x.outs.length-(intOf i).toNat)
     case atStart=>exact ⟨0,mv,m,zE _,rfl,zz _,Z,hV,ka,ie,zx rfl⟩
     clear z2 zl;obtain ⟨q,f3,m',hq,rfl,kv,ds,HN',hb,c6,hs⟩:=hrel;obtain ⟨wq,rfl⟩:∃ z:World,z=wr:=⟨_,rfl⟩
     by_cases a5:q<x.outs.length
     ·have fu:(q:Int)<(x.outs.length:Int):=by omega
      have fn:q<out.length:=by omega
      obtain ⟨b6,o6,rfl,-,h5,cg⟩:=(g4.out.keep HN'.out.k).open' (by omega) (by omega);have s0:=cg q _ (b9 x.outs q a5);have bB:=js.out _ (zH a5);obtain ⟨us,b4,a0,bk⟩:=c6.out;have ga:q<us.length:=by omega
      obtain ⟨Bq,dq,hK,fz,e5⟩:=bk q ga fn;obtain ⟨b7,o7,rfl,-,lr,hA⟩:=a0.open' (by omega) (by omega);have s1:=hA q us[q] (zI ga);rw[hK] at s1;have h6:=bj.out _ (zH fn);have b1:=no x.outs out q a5 fn m';rw[hs.out] at b1;have kd:(q:Int)<(out.length:Int):=by omega
      obtain ⟨n,hn⟩:∃ n,x.outs[q]=n:=⟨_,rfl⟩
      obtain ⟨c,M⟩:∃ c,out[q]=c:=⟨_,rfl⟩
      rw[hn] at s0 bB b1;rw[M] at s1 fz e5 h6 b1;have h9:=zx b1.symm;have b0:e8 wq (zR Bq c.length dq) c:=⟨by omega,_,_,rfl,fz,e5⟩;obtain ⟨w8,hP,hG,hy⟩:=HN'.out.mp.put n (zR Bq c.length dq) bB (by have:=HN'.out.cv.len;omega);have c3:aa [b] wq w8:=(zN [b] _).grown hy (fun g hg=> .inl (by injection hg with hg;simp[hg]));obtain ⟨es,lg,fc⟩:=HN'.out.mp.isM;have i3:=zx (HN'.out.put b0 hG c3);have hW:=zx (hb.out.keepM fc c3 (by decide));have hH:=zx (c6.out.keepM fc c3);have hJ:=zx (ds.out.put (n:=n) h6);clear cg hA b4 a0 bk hK fz e5 h6 b1 hn M b0 hG hy c3 fc ga;go_wp2;go_roundw
      case rel=>exact ⟨q+1,_,_,by omega,by go_num,by simp only[zG];omega,hJ,i3,hW,hH,h9⟩
      case measure=>simp[intOf];omega
     have fu:¬(q:Int)<(x.outs.length:Int):=by omega
     have hQ:Hid (cR f (l.drop (t+1)) m'=R):=zx (by
      rw[←h4.out,←hs.out,o8 _ _ _ (by omega)])
     go_wp2;go_roundw
     case rel=>exact ⟨t+1,f3,m',by omega,by go_num,by omega,ds,HN',hb,hQ⟩
     case measure=>simp[intOf];omega
   have kb:¬(t:Int)<(l.length:Int):=by omega
   have ad:Hid (R= .ok m):=zx (by
    have:=HG.out;rw[List.drop_of_length_le (by omega)] at this;exact this.symm)
   go_wp2;go_ret2;exact ⟨by rw[ad.out];exact ⟨_,_,rfl,A.out.mp,A.out.cv,i4⟩,A.out.k⟩
end
section
theorem o9 (l:List Cl) (n:Bs):aw l n=none↔n∉l.map (·.name):=by
 unfold aw;rw[List.findIdx?_eq_none_iff];constructor
 ·intro h B
  obtain ⟨c,A,rfl⟩:=List.mem_map.1 B;have:=h c A;simp at this
 intro h c A;rw[beq_eq_false_iff_ne];rintro rfl;exact h (List.mem_map.2 ⟨c,A,rfl⟩)
theorem jE {l:List Cl} {n:Bs} {k:Nat} (h:aw l n=some k):k<l.length∧(l.getD k zC).name=n:=by
 obtain ⟨A,B,_⟩:=List.findIdx?_eq_some_iff_getElem.1 h;refine ⟨A,?_⟩;rw[zM,zI A];simpa using B
abbrev sh (l:List Cl):Prop:=(l.map (·.name)).Nodup
theorem np {a:List Cl}:∀ {ns seen:List Bs} {A out:List Cl},bK a seen ns A= .ok out→A.map (·.name)=seen→sh A→sh out
 | [],seen,A,out,h,_,D=>by
  unfold bK at h;cases h
  exact D
 | n::ns,seen,A,out,h,M,D=>by
  unfold bK at h;split at h
  ·cases h
  rename_i k O;split at h
  ·cases h
  rename_i U;have B:=(jE O).2;refine np h (by rw[List.map_append,List.map_singleton,M,B]) ?_;show (List.map _ _).Nodup;rw[List.map_append,List.map_singleton,B,List.nodup_append];refine ⟨D,by simp,fun x J y I=>?_⟩;rw[zD] at I;subst I;rintro rfl;rw[M] at J;exact U J
theorem vg {l:List Cl} (h:fk l=false):sh l:=by
 unfold fk at h;rw[List.any_eq_false] at h;show (List.map _ l).Nodup;rw[List.nodup_iff_pairwise_ne,List.pairwise_iff_getElem];intro i j J A D e;rw[List.length_map] at J A;rw[List.getElem_map,List.getElem_map] at e;have I:=h j (List.mem_range.2 A);apply I
 cases B:aw (l.take j) (l.getD j zC).name with
 | some k=>rfl
 | none =>
  rw[o9] at B;exfalso
  apply B;rw[zM,zI A,Option.getD_some,←e];exact List.mem_map.2 ⟨l[i],List.mem_iff_getElem.2 ⟨i,by rw[List.length_take];omega,by rw[List.getElem_take]⟩,rfl⟩
theorem rf {ins:List (List Cl)} (A:∀ l∈ins,sh l) (k:Nat):sh (ins.getD k []):=by
 by_cases h:k<ins.length
 ·rw[zM,zI h]
  exact A _ (zH h)
 rw[zM,List.getElem?_eq_none (by omega)];exact List.nodup_nil
theorem tK {j:Jb} {ins cs:List (List Cl)} (h:cA j ins= .ok cs) (hi:∀ l∈ins,sh l):∀ c∈cs,sh c:=by
 have B:=rf hi 0;have A:∀ {q:List Cl},sh q→∀ c∈[q],sh c:=fun U c J=>by rw[zD.1 J];exact U
 unfold cA at h;split at h
 ·cases h
 split at h
 ·unfold bM at h
  split at h
  ·cases h
  split at h
  ·cases h
  split at h
  ·cases h
  cases h
  intro c J;rw[List.eq_of_mem_replicate J];exact B
 split at h
 ·unfold iU at h
  split at h
  ·cases h
  split at h
  ·cases h
  split at h
  ·cases h
  cases h;exact A B
 split at h
 ·unfold bT at h
  split at h
  ·cases h
  split at h
  ·cases h
  rename_i out Z;cases h
  refine A ?_;split
  ·exact B
  exact np Z rfl List.nodup_nil
 split at h
 ·split at h
  ·cases h
  cases h;exact A B
 split at h
 ·unfold cy at h
  split at h
  ·cases h
  split at h
  ·split at h
   ·cases h
   split at h
   ·cases h
   rename_i hd;split at h
   ·cases h
   cases h
   exact A (vg (by simpa using hd))
  cases h
 split at h
 ·unfold cC at h
  split at h
  ·cases h
  split at h
  ·rename_i k m D M
   split at h
   ·cases h
   split at h
   ·cases h
   rename_i I;cases h
   refine A ?_;obtain ⟨k1,k2⟩:=jE D;obtain ⟨m1,O⟩:=jE M;show (List.map (fun c:Cl=>c.name) _).Nodup;rw[List.map_cons,List.map_cons,List.map_nil,List.nodup_cons];refine ⟨?_,by simp⟩;rw[zD,k2,O];intro e;rw[e,M] at D;injection D with D;exact I D.symm
  cases h
 cases h;exact A B
def n9 (m:Cm):Prop:=∀ q∈m,q.2.length≤6∧sh q.2
theorem n9.get {m:Cm} (h:n9 m) (n:Bs):(ce m n).length≤6∧sh (ce m n):=by
 unfold ce
 induction m with
 | nil=>exact ⟨by simp,List.nodup_nil⟩
 | cons q m ih =>
  obtain ⟨a,c⟩:=q;rw[List.lookup_cons]
  cases n==a with
  | true=>exact h (a,c) (List.mem_cons_self ..)
  | false=>exact ih fun q A=>h q (List.mem_cons_of_mem _ A)
theorem n9.put {m:Cm} (h:n9 m) {n:Bs} {c:List Cl} (B:c.length≤6) (hd:sh c):n9 ((n,c)::m):=fun q A=>by
 rcases List.mem_cons.1 A with rfl|A
 ·exact ⟨B,hd⟩
 exact h q A
def oa:List In→Cm→Cm
 | [],m=>m
 | x::l,m=>oa l ((x.name,x.cols)::m)
theorem nq (x:In) (l:List In) (m:Cm):oa (x::l) m=oa l ((x.name,x.cols)::m):=rfl
theorem jZ {f:Fl}:∀ {n:Nat} {out:List Nat} {x:Int×Int},cW f n out= .error x→x.1=11
 | 0,out,x,h=>by cases h
 | n+1,out,x,h=>by
  rw[cW] at h
  cases A:dO f out with
  | some k=>rw[A] at h;exact jZ h
  | none=>rw[A] at h;cases h;rfl
theorem lD {f:Fl} {x:Int×Int} (h:bO f= .error x):x.1=11:=jZ h
theorem nr {j:Jb} {ins:List (List Cl)} {e:Int} (h:cA j ins= .error e):e≠0:=by
 unfold cA at h;split at h
 ·cases h;decide
 split at h
 ·unfold bM at h
  split at h
  ·cases h;decide
  split at h
  ·cases h;decide
  split at h
  ·cases h;decide
  cases h
 split at h
 ·unfold iU at h
  split at h
  ·cases h;decide
  split at h
  ·cases h;decide
  split at h
  ·cases h;decide
  cases h
 split at h
 ·unfold bT at h
  split at h
  ·cases h;decide
  split at h
  ·rename_i e' D
   cases h
   have B:∀ (ns seen:List Bs) (A:List Cl) (e:Int),bK (ins.getD 0 []) seen ns A= .error e→e≠0:=by
    intro ns
    induction ns with
    | nil=>intro seen A e h;unfold bK at h;cases h
    | cons n ns ih =>
     intro seen A e h;unfold bK at h;split at h
     ·cases h;decide
     split at h
     ·cases h;decide
     exact ih _ _ _ h
   exact B _ _ _ _ D
  cases h
 split at h
 ·split at h
  ·cases h;decide
  cases h
 split at h
 ·unfold cy at h
  split at h
  ·cases h;decide
  split at h
  ·split at h
   ·cases h;decide
   split at h
   ·cases h;decide
   split at h
   ·cases h;decide
   cases h
  cases h;decide
 split at h
 ·unfold cC at h
  split at h
  ·cases h;decide
  split at h
  ·split at h
   ·cases h;decide
   split at h
   ·cases h;decide
   cases h
  cases h;decide
 cases h
theorem pa {j:Jb} {ins:List (List Cl)} {e:Int} (h:cA j ins= .error e):e≠11:=by
 unfold cA at h;split at h
 ·cases h;decide
 split at h
 ·unfold bM at h
  split at h
  ·cases h;decide
  split at h
  ·cases h;decide
  split at h
  ·cases h;decide
  cases h
 split at h
 ·unfold iU at h
  split at h
  ·cases h;decide
  split at h
  ·cases h;decide
  split at h
  ·cases h;decide
  cases h
 split at h
 ·unfold bT at h
  split at h
  ·cases h;decide
  split at h
  ·rename_i e' D
   cases h
   have B:∀ (ns seen:List Bs) (A:List Cl) (e:Int),bK (ins.getD 0 []) seen ns A= .error e→e≠11:=by
    intro ns
    induction ns with
    | nil=>intro seen A e h;unfold bK at h;cases h
    | cons n ns ih =>
     intro seen A e h;unfold bK at h;split at h
     ·cases h;decide
     split at h
     ·cases h;decide
     exact ih _ _ _ h
   exact B _ _ _ _ D
  cases h
 split at h
 ·split at h
  ·cases h;decide
  cases h
 split at h
 ·unfold cy at h
  split at h
  ·cases h;decide
  split at h
  ·split at h
   ·cases h;decide
   split at h
   ·cases h;decide
   split at h
   ·cases h;decide
   cases h
  cases h;decide
 split at h
 ·unfold cC at h
  split at h
  ·cases h;decide
  split at h
  ·split at h
   ·cases h;decide
   split at h
   ·cases h;decide
   cases h
  cases h;decide
 cases h
theorem gt (h:List Jb):(aZ h).map (·.1)=h.flatMap (·.outs):=by
 unfold aZ;rw[List.map_flatMap];congr 1
 funext j
 rw[List.map_map];exact List.map_id _
theorem jF {l:List (Bs×Int)} {seen s:List Bs} (h:aK l seen= .ok s):(l.map (·.1)).Nodup:=((eU l seen).1 ⟨s,h,eV l seen s h⟩).1
def eM (s:List Bs) (n:Bs):Nat:=if n∈s then 1 else 0
theorem od {s:List Bs} {n:Bs} (h:n∈s):eM s n=1:=if_pos h
theorem oe {s:List Bs} {n:Bs} (h:n∉s):eM s n=0:=if_neg h
theorem si {s:List Bs} {n:Bs}:(fun x=>if x=n then 1 else eM s x)=eM (n::s):=by
 funext x
 unfold eM;by_cases h:x=n
 ·rw[if_pos h,if_pos (by simp[h])]
 rw[if_neg h];by_cases A:x∈s
 ·rw[if_pos A,if_pos (by simp[A])]
 rw[if_neg A,if_neg (by simp[h,A])]
theorem og (f:Fl):eg f=dl (f9 f.ins []) fun m=>dl (aK (f.ins.map fun x=>(x.name,x.at_)) []) fun s=>dl (aK (aZ f.jobs) s) fun s=>dl (aV s f.jobs) fun _=>dl (bu s f.outs []) fun _=>dl (bO f) fun l=>cR f l m:=by
 rw[nn];congr 1
 funext m
 rw[mX];unfold dl
 cases aK (f.ins.map fun x=>(x.name,x.at_)) [] with
 | error x=>rfl
 | ok s =>
  simp only
  cases aK (aZ f.jobs) s with
  | error x=>rfl
  | ok h =>
   simp only
   cases aV h f.jobs with
   | error x=>rfl
   | ok u=>rfl
def tL (f:Fl):Prop:=∀ j∈f.jobs,j.op.length≤1000000∧j.left.val.word.length≤1000000000∧j.right.val.word.length≤1000000000
theorem ak {E α β:Type} {x:Except E α} {f:α→Except E β} {c:β} (h:(x >>= f)= .ok c):∃ a,x= .ok a∧f a= .ok c:=by
 rcases x with e|a
 ·cases h
 exact ⟨a,rfl,h⟩
theorem nt:∀ (n:Nat) {l r:List Tk} {A cs:List Cl},b8 n l A= .ok (cs,r)→r.length≤l.length
 | 0,l,r,A,cs,h=>by
  injection h with h;injection h with _ h;rw[h];exact zz _
 | n+1,l,r,A,cs,h=>by
  rw[dP] at h;obtain ⟨⟨s,J⟩,D,h⟩:=ak h;obtain ⟨⟨k,I⟩,B,h⟩:=ak h;dsimp only at h B
  have e1:=aH D;have e2:=dZ B;split at h
  ·have:=nt n h
   rw[zL] at this;omega
  injection h with h;injection h with _ h;subst h;omega
theorem tM {j I:Jb} {l r:List Tk} (h:pN j l= .ok (I,r)):r.length≤l.length:=by
 unfold pN at h;obtain ⟨⟨Z,M⟩,D,h⟩:=ak h;try dsimp only at h
 have J:=aH D;obtain ⟨U,B,h⟩:=ak h;try dsimp only at h
 have e1:=aL B;obtain ⟨⟨O,q2⟩,A,h⟩:=ak h;try dsimp only at h
 have e2:=aH A;injection h with h;injection h with _ h;subst h;first|omega|(simp only[zL] at *;omega)
theorem sj {j J:Jb} {l r:List Tk} (h:dJ j l= .ok (J,r)):r.length≤l.length:=by
 unfold dJ at h;obtain ⟨O,B,h⟩:=ak h;try dsimp only at h
 have M:=aL B;obtain ⟨⟨s1,Z⟩,D,h⟩:=ak h;try dsimp only at h
 have e1:=aH D;obtain ⟨⟨U,q2⟩,A,h⟩:=ak h;try dsimp only at h
 have e2:=dZ A;obtain ⟨⟨s3,q3⟩,I,h⟩:=ak h;try dsimp only at h
 have e3:=ig I;injection h with h;injection h with _ h;subst h;first|omega|(simp only[zL] at *;omega)
theorem vh {j O:Jb} {l r:List Tk} (h:nI j l= .ok (O,r)):r.length≤l.length:=by
 unfold nI at h;obtain ⟨q0,B,h⟩:=ak h;try dsimp only at h
 have U:=aL B;obtain ⟨⟨s1,q1⟩,I,h⟩:=ak h;try dsimp only at h
 have e1:=aH I;obtain ⟨q2,A,h⟩:=ak h;try dsimp only at h
 have e2:=aL A;obtain ⟨⟨s3,q3⟩,M,h⟩:=ak h;try dsimp only at h
 have e3:=ig M;obtain ⟨⟨s4,q4⟩,D,h⟩:=ak h;try dsimp only at h
 have e4:=dZ D;obtain ⟨⟨s5,q5⟩,J,h⟩:=ak h;try dsimp only at h
 have Z:=ig J;injection h with h;injection h with _ h;subst h;first|omega|(simp only[zL] at *;omega)
theorem xM {j D:Jb} {l r:List Tk} (h:td j l= .ok (D,r)):r.length≤l.length:=by
 unfold td at h;obtain ⟨J,B,h⟩:=ak h;try dsimp only at h
 have I:=aL B;obtain ⟨⟨O,M⟩,A,h⟩:=ak h;try dsimp only at h
 have e1:=jy A;injection h with h;injection h with _ h;subst h;first|omega|(simp only[zL] at *;omega)
theorem sk {j J:Jb} {l r:List Tk} (h:f8 j l= .ok (J,r)):r.length≤l.length:=by
 unfold f8 at h;obtain ⟨O,B,h⟩:=ak h;try dsimp only at h
 have M:=aL B;obtain ⟨⟨s1,Z⟩,D,h⟩:=ak h;try dsimp only at h
 have e1:=aH D;obtain ⟨⟨U,q2⟩,A,h⟩:=ak h;try dsimp only at h
 have e2:=dZ A;obtain ⟨⟨s3,q3⟩,I,h⟩:=ak h;try dsimp only at h
 have e3:=aH I;injection h with h;injection h with _ h;subst h;first|omega|(simp only[zL] at *;omega)
theorem tN {j D:Jb} {l r:List Tk} (h:iz j l= .ok (D,r)):r.length≤l.length:=by
 unfold iz at h;obtain ⟨⟨s,M⟩,B,h⟩:=ak h;obtain ⟨I,A,h⟩:=ak h;have e1:=tM B;have e2:=aL A;have J:=tM h;omega
theorem sl {j I:Jb} {l r:List Tk} (h:gJ j l= .ok (I,r)):r.length≤l.length:=by
 unfold gJ at h;obtain ⟨⟨Z,M⟩,D,h⟩:=ak h;try dsimp only at h
 have J:=aH D;obtain ⟨U,B,h⟩:=ak h;try dsimp only at h
 have e1:=aL B;obtain ⟨⟨O,q2⟩,A,h⟩:=ak h;try dsimp only at h
 have e2:=aH A;injection h with h;injection h with _ h;subst h;first|omega|(simp only[zL] at *;omega)
theorem tP {j A:Jb} {l r:List Tk} (h:gK j l= .ok (A,r)):r.length≤l.length:=by
 unfold gK at h;split at h
 ·exact sj h
 split at h
 ·exact vh h
 split at h
 ·exact xM h
 split at h
 ·exact sk h
 injection h with h;injection h with _ h;rw[h];exact zz _
theorem tQ {j D:Jb} {l r:List Tk} (h:am j l= .ok (D,r)):r.length≤l.length:=by
 unfold am at h;have A:l.tail.length≤l.length:=by rw[zL];omega
 split at h
 ·cases h
 split at h
 ·exact zA (tN h) A
 split at h
 ·exact zA (sl h) A
 obtain ⟨⟨s,I⟩,B,h⟩:=ak h;have e1:=aH B;have e2:=tP h;omega
theorem sn {l r:List Tk} {n:Int} (h:bF l= .ok (n,r)):r.length≤l.length:=by
 unfold bF at h;split at h
 ·split at h
  ·cases h
  split at h
  ·split at h
   ·cases h
   injection h with h;injection h with _ h;rw[←h,zL,zL];omega
  cases h
 injection h with h;injection h with _ h;rw[h];exact zz _
theorem so {x:In} {l r:List Tk} (hl:0<l.length) (h:bc l= .ok (x,r)):r.length<l.length:=by
 unfold bc at h;obtain ⟨O,B,h⟩:=ak h;try dsimp only at h
 have M:=aL B;obtain ⟨⟨s1,U⟩,I,h⟩:=ak h;try dsimp only at h
 have e1:=aH I;obtain ⟨q2,A,h⟩:=ak h;try dsimp only at h
 have e2:=aL A;obtain ⟨⟨s3,Z⟩,J,h⟩:=ak h;try dsimp only at h
 have e3:=nt _ J;obtain ⟨q4,D,h⟩:=ak h;try dsimp only at h
 have e4:=aL D;injection h with h;injection h with _ h;subst h;first|omega|(simp only[zL] at *;omega)
theorem vi {x:Jb} {l r:List Tk} (hl:0<l.length) (h:dL l= .ok (x,r)):r.length<l.length:=by
 unfold dL at h;obtain ⟨Z,B,h⟩:=ak h;try dsimp only at h
 have O:=aL B;obtain ⟨⟨s1,q1⟩,I,h⟩:=ak h;try dsimp only at h
 have e1:=jy I;obtain ⟨⟨s2,q2⟩,A,h⟩:=ak h;try dsimp only at h
 have e2:=sn A;obtain ⟨q3,M,h⟩:=ak h;try dsimp only at h
 have e3:=aL M;obtain ⟨⟨s4,q4⟩,D,h⟩:=ak h;try dsimp only at h
 have e4:=tQ D;obtain ⟨q5,J,h⟩:=ak h;try dsimp only at h
 have U:=aL J;injection h with h;injection h with _ h;subst h;first|omega|(simp only[zL] at *;omega)
theorem vj {x:Pb} {l r:List Tk} (hl:0<l.length) (h:ef l= .ok (x,r)):r.length<l.length:=by
 unfold ef at h;obtain ⟨O,B,h⟩:=ak h;try dsimp only at h
 have M:=aL B;obtain ⟨⟨s1,U⟩,I,h⟩:=ak h;try dsimp only at h
 have e1:=aH I;obtain ⟨q2,A,h⟩:=ak h;try dsimp only at h
 have e2:=aL A;obtain ⟨⟨s3,Z⟩,J,h⟩:=ak h;try dsimp only at h
 have e3:=aH J;obtain ⟨q4,D,h⟩:=ak h;try dsimp only at h
 have e4:=aL D;injection h with h;injection h with _ h;subst h;first|omega|(simp only[zL] at *;omega)
end
section
open Go.RowKit Go.BigFrame
attribute [local go_sem] ag ab ae af
theorem yA:(Tryz.prog.info? 173).map (fun i=>(i.zero,i.size,i.bytes))=some (some (.agg #[zW zX 0,zQ ⟨#[]⟩,zR none 0 0]),3,48):=by kernel_rfl
theorem yB:(Tryz.prog.info? 59).map (fun i=>(i.zero,i.size,i.bytes))=some (some (.agg #[zW zX 0,zW zX 0,zR none 0 0,zR none 0 0,zR none 0 0,zQ ⟨#[]⟩,zQ ⟨#[]⟩,zW zX 0,zW zX 0,zQ ⟨#[]⟩,zQ ⟨#[]⟩,zW zX 0,zW zX 0,zQ ⟨#[]⟩,zW zX 0]),15,208):=by kernel_rfl
theorem yC:(Tryz.prog.info? 179).map (fun i=>(i.zero,i.size,i.bytes))=some (some (.agg #[zW zX 0,zQ ⟨#[]⟩,zQ ⟨#[]⟩]),3,40):=by kernel_rfl
theorem tR {l:List Tk} {b lo:Nat} (w:World) (hE:FB w lo) (dB:lo≤b) (h:Ps w b l) (ga:l.length≤1000000) :
  Calls zy 105 #[zS (some ⟨b,0,none⟩)] w fun e w'=>uW (cY l) b w.heap.size e w'∧aa [b] w w':=by
 obtain ⟨i0,hi,ft,gj,f5⟩:=info_parts yA;obtain ⟨i1,hj,f7,e4,fu⟩:=info_parts yB;obtain ⟨i2,hp,g5,hg,gs⟩:=info_parts yC;obtain ⟨R,hR⟩:∃ R,cY l=R:=⟨_,rfl⟩
 rw[hR];rw[kS] at hR;have HR:=zx hR;have d3:=zx ga;have HE:=zx hE;have fg:=zx h;have hu:∀ (fn:Fn) (first bm:Array Value) (w:World),(Instr.makeFunc fn first bm).run zy w= .ok (.func fn first bm) w:=fun _ _ _ _=>rfl
 clear hR ga hE h;go_enter Tryz.func105,Tryz.ntmps105
 go_upto_block 0 with (fail)
 obtain ⟨W1,c6⟩:∃ x,w.alloc (zU #[zS (some ⟨b,0,none⟩)] 188)=x:=⟨_,rfl⟩
 have z1:W1.heap.size=w.heap.size+1:=by rw[←c6];exact gh _ _
 obtain ⟨W2,c5⟩:∃ x,W1.alloc (zU #[zR none 0 0,zR none 0 0,zR none 0 0] 79)=x:=⟨_,rfl⟩
 have z2:W2.heap.size=w.heap.size+1+1:=by rw[←c5,gh,z1]
 obtain ⟨y0,d1⟩:∃ x,W2.alloc (zU #[zR none 0 0,zR none 0 0,zR none 0 0] 79)=x:=⟨_,rfl⟩
 have k1:aa [] w W1:=by rw[←c6];exact (zN _ _).alloc _
 have k2:aa [] W1 W2:=by rw[←c5];exact (zN _ _).alloc _
 have k3:aa [] W2 y0:=by rw[←d1];exact (zN _ _).alloc _
 have b1:ap W1 w.heap.size 188 #[zS (some ⟨b,0,none⟩)]:=by rw[←c6];exact zO _ _ _
 have b2:ap W2 (w.heap.size+1) 79 #[zR none 0 0,zR none 0 0,zR none 0 0]:=by rw[←c5,←z1];exact zO _ _ _
 have b3:ap y0 (w.heap.size+1+1) 79 #[zR none 0 0,zR none 0 0,zR none 0 0]:=by rw[←d1,←z2];exact zO _ _ _
 rw[c6,c5,d1];obtain ⟨fb,gb⟩:∃ x,w.heap.size+1+1=x:=⟨_,rfl⟩
 rw[gb] at b3 ⊢;obtain ⟨rb,gk⟩:∃ x,w.heap.size+1=x:=⟨_,rfl⟩
 rw[gk] at b2 ⊢;have I:Hid (da y0 w.heap.size w.heap.size rb fb b (zR none 0 0) (zR none 0 0) (zR none 0 0) [] [] []):=zx
  ⟨(b1.keep k2 (by simp)).keep k3 (by simp),b2.keep k3 (by simp),b3,by omega,by omega,bX.nil,bX.nil,bX.nil⟩
 have HK:Hid (aa [b] w y0):=zx (k1.trans (k2.trans k3)).of_nil;have J:Hid (Ps y0 b l):=zx (((fg.out.keep k1).keep k2).keep k3);have g3:Hid (w.heap.size≤rb):=zx (by omega);clear gb gk b1 b2 b3 k1 k2 k3 z1 z2 c6 c5 d1 fg;go_upto_block 0 with (fail)
 go_cut [] (fun wx=>∃ (v0:Value) (ins:List In) (q:List Tk),Hid (fU (ins,q)=R)∧Hid (q.length≤l.length)∧Hid (da wx w.heap.size w.heap.size rb fb b v0 (zR none 0 0) (zR none 0 0) ins [] [])∧Hid (Ps wx b q)∧Hid (aa [b] w wx))
 case first =>
  go_wp2_with fail
  go_loopw [] (fun wx=>∃ (v0:Value) (ins:List In) (q:List Tk) (n:Nat),Hid (bp [105,110] bc n q ins >>= fU=R)∧q.length≤n∧Hid (q.length≤l.length)∧ins.length≤16∧Hid (da wx w.heap.size w.heap.size rb fb b v0 (zR none 0 0) (zR none 0 0) ins [] [])∧Hid (Ps wx b q)∧Hid (aa [b] w wx)) (fun wx=>fw b wx)
  case atStart=>exact ⟨_,[],l,l.length,HR,zz _,zx (zz _),by simp,I,J,HK⟩
  clear I J HK HR;obtain ⟨v0,ins,q,n,HR,b4,bb,d4,I,J,HK⟩:=hrel;obtain ⟨y,rfl⟩:∃ y:World,y=wr:=⟨_,rfl⟩
  have b5:=J.out.endT.pos;have bA:0<n:=by omega
  have a3:=zx bA;have dv:=zx b4;have cp:=zx b5;have p0:y.cell? ⟨w.heap.size,0,none⟩=some (zS (some ⟨b,0,none⟩)):=I.out.pbk.cell 0;have lp:=I.out.pbk.lt;have lf:=I.out.fbk.lt;obtain ⟨us,b6,bl,b0⟩:=I.out.i0;obtain ⟨A,cv,rfl,-⟩:=ao bl;have a1:=zx bl;have c7:=zx b6;have cu:=zx b0;have bn:=HK;have f0:y.cell? ⟨fb,0,none⟩=some (zR A ins.length cv):=I.out.fbk.cell 0;have HM:=zx J.out.left;have HT:=iX [105,110] y J.out;clear bl b6 b0 bA b4 b5
  cases hs:aG [105,110] q with
  | false =>
   rw[hs] at HT;have a0:=zx HT;have bq:Hid (fU (ins,q)=R):=zx (by rw[←HR.out,ij hs];rfl);clear HT hs;go_wp2_with fail
   refine a0.out.mono ?_;rintro ev w3 ⟨rfl,rfl⟩;go_wp2;go_meet;exact ⟨_,ins,q,bq,bb,I,J,HK⟩
  | true =>
   rw[hs] at HT;have a0:=zx HT;have a6:=zx hs;clear HT hs;by_cases aA:ins.length=16
   ·have HX:Hid (R= .error (4,(ax q).at_)):=zx (by rw[←HR.out,eR a6.out a3.out aA];rfl)
    have HF:=zx (kT ins.length I.out.pbk J.out aA);clear aA;go_wp2_with fail
    refine a0.out.mono ?_;rintro ev w3 ⟨rfl,rfl⟩;go_wp2_with fail
    refine HF.out.mono ?_;rintro ev w9 ⟨⟨gi,rfl,hb⟩,a4⟩;exact ⟨rfl,by rw[HX.out];exact ⟨gi,rfl,hb⟩,HK.out.trans a4.of_nil⟩
   have HF:=zx (nS ins.length I.out.pbk J.out aA);have fS:y.cell? ⟨fb,0,none⟩=some (zR A ins.length cv)∧y.frozen? ⟨fb,0,none⟩=false:=⟨f0,I.out.fbk.frozen 0⟩;have a9:=zx (show ins.length+1≤maxLen∧(ins.length+1)*48≤140737488355328 by simp only[maxLen];omega);have c8:Hid (fb∉[b]):=zx (by have:=I.out.fbk.ty.ne J.out.ty (by decide);simpa using this);rcases hS:bc q with x|⟨x,r⟩
   ·have HX:Hid (R= .error x):=zx (by rw[←HR.out,e7 a6.out a3.out aA hS];rfl)
    have HC:Hid (∀ W,aa [] y W→Calls zy 154 #[zS (some ⟨b,0,none⟩)] W fun e w'=>bV x e w'∧aa [b] W w'):=zx (fun W z=>by
     have h:=mP W (J.out.keep z) (zA bb.out d3.out);rw[hS] at h;exact h)
    clear hS aA;go_wp2_with fail
    refine a0.out.mono ?_;rintro ev w3 ⟨rfl,rfl⟩;go_wp2_with fail
    refine HF.out.mono ?_;rintro ev w4 ⟨rfl,rfl⟩;go_wp2_with fail
    go_region_law (first|(refine step_append_lies _ (by rfl) _ _ _ (by rfl) w.heap.size 173 i0 _ 3 48 Tryz.underlying75 hi ft gj f5 rfl (by decide) (zR A ins.length cv) ins.length us.flatten (by rfl) ((bw a1.out ad.undrew (fun z hz=>⟨190,by rw[zD.1 hz];exact J.out.ty,by decide⟩)).alloc _) ⟨w6.heap.size,0,none⟩ 1 1 ([zW zX 0,zQ (bs []),zR none 0 0]) (by rfl) rfl (zJ (heap_alloc_new _ _)) (by simp[Value.oneCell']) (by decide) a9.out.1 a9.out.2 (by have:=bn.out.size;have:=ad.size;have h9:y.drew.heap.size=y.heap.size:=rfl;simp;omega) _ rfl ?_;intro gw bm w7 bd M ds ct;obtain ⟨en,em⟩:=az M (ay ⟨bj,cf⟩ _) (fun e=>(av a1.out fb e).ne I.out.fbk.ty (by decide) rfl))|(go_simp;go_at_call 154;refine (HC.out _ (zN [] y).drew).mono ?_;rintro e w6 ⟨⟨gi,rfl,hb⟩,ad⟩;obtain ⟨bj,cf⟩:=aC ad fS c8.out;have ek:fb<w6.heap.size:=zB w6 ⟨fb,0,none⟩ bj;dsimp only;(go_loud (refine cK ‹∀ (a:Act) (w:World),wpAny _ _ _ _ _ _ a w→_› (some 17) (.agg #[zW zX 0,zQ (bs []),zR none 0 0]) ⟨rfl,by rw[HX.out];exact ⟨gi,rfl,hb⟩,HK.out.trans ad.undrew⟩ (fun hF=>?_)))))
    all_goals exact hF.out.elim
   have bq:Hid (bp [105,110] bc (n-1) r (ins++[x]) >>= fU=R):=zx (by rw[←HR.out,nR a6.out a3.out aA hS]);have HC:Hid (∀ W,aa [] y W→Calls zy 154 #[zS (some ⟨b,0,none⟩)] W fun e w'=>(∃ v,e=zT (.agg #[zW zX x.at_,zQ (bs x.name),v])∧w'.ownsRow y.heap.size 109 2 v x.cols.length (ah x.cols)∧Ps w' b r)∧aa [b] W w'):=zx (fun W z=>by
    have h:=mP W (J.out.keep z) (zA bb.out d3.out);rw[hS] at h;refine h.mono (fun e w' h=>⟨?_,h.2⟩);have h2:=h.1;simp only[wH] at h2;obtain ⟨v,h3,h4,h5⟩:=h2;exact ⟨v,h3,bg h4 z.size,h5⟩)
   have bk:=zx (so cp.out hS);have cx:Hid ((ins++[x]).length≤16):=zx (by simp;omega);clear hS aA;go_wp2_with fail
   refine a0.out.mono ?_;rintro ev w3 ⟨rfl,rfl⟩;go_wp2_with fail
   refine HF.out.mono ?_;rintro ev w4 ⟨rfl,rfl⟩;go_wp2_with fail
   go_region_law (first|(refine step_append_lies _ (by rfl) _ _ _ (by rfl) w.heap.size 173 i0 _ 3 48 Tryz.underlying75 hi ft gj f5 rfl (by decide) (zR A ins.length cv) ins.length us.flatten (by rfl) ((bw a1.out ad.undrew (fun z hz=>⟨190,by rw[zD.1 hz];exact J.out.ty,by decide⟩)).alloc _) ⟨w6.heap.size,0,none⟩ 1 1 ([zW zX x.at_,zQ (bs x.name),zR Av x.cols.length g4]) (by rfl) rfl (zJ (heap_alloc_new _ _)) (by simp[Value.oneCell']) (by decide) a9.out.1 a9.out.2 (by have:=bn.out.size;have:=ad.size;have h9:y.drew.heap.size=y.heap.size:=rfl;simp;omega) _ rfl ?_;intro gw bm w7 bd M ds ct;obtain ⟨en,em⟩:=az M (ay ⟨bj,cf⟩ _) (fun e=>(av a1.out fb e).ne I.out.fbk.ty (by decide) rfl))|(go_simp;go_at_call 154;refine (HC.out _ (zN [] y).drew).mono ?_;rintro e w6 ⟨⟨v,rfl,fv,el⟩,ad⟩;obtain ⟨Av,g4,rfl,-⟩:=ao fv;obtain ⟨bj,cf⟩:=aC ad fS c8.out;have ek:fb<w6.heap.size:=zB w6 ⟨fb,0,none⟩ bj))
   all_goals
    have bo:=I.out.ps J.out ad.undrew;have ba:=(bw a1.out ad.undrew (fun z hz=>⟨190,by rw[zD.1 hz];exact J.out.ty,by decide⟩));have bB:=fun j h1 h2=>fo.far (S:=kQ) ⟨ad.undrew,fun z hz=>⟨190,by rw[zD.1 hz];exact J.out.ty,by decide⟩⟩ (by decide) _ _ (cu.out j h1 h2)
    have cq:=av ba;have dq:=HK.out.trans ad.undrew;have e0:=zx (da.app0 bo c7.out ba bB ⟨_,rfl,bg fv bn.out.size⟩ M bd);have cj:=zx (yX (k:=0) (u:=zR (some ⟨gw,0,none⟩) (ins.length+1) bm) bo el M cq (by decide) (by decide));have et:=zx (da.keeps7 (k:=0) (u:=zR (some ⟨gw,0,none⟩) (ins.length+1) bm) bo dq M (fun z hz=>(a1.out.lt z hz).1));clear bo ba bB cq dq;go_wp2;go_roundw
    case rel=>exact ⟨_,ins++[x],r,n-1,bq,by have:=bk.out;have:=dv.out;omega,zx (by have:=bk.out;have:=bb.out;omega),cx.out,e0,cj,et⟩
    case measure=>rw[cj.out.left,HM.out];exact bk.out
 clear I J HK HR;obtain ⟨v0,ins,q1,HR,e9,I,J,HK⟩:=hcut;obtain ⟨y1,rfl⟩:∃ y:World,y=wc:=⟨_,rfl⟩
 go_upto_block 2 with (fail)
 go_cut [] (fun wx=>∃ (v1:Value) (B:List Jb) (q:List Tk),Hid (fT ins (B,q)=R)∧Hid (q.length≤l.length)∧Hid (da wx w.heap.size w.heap.size rb fb b v0 v1 (zR none 0 0) ins B [])∧Hid (Ps wx b q)∧Hid (aa [b] w wx))
 case first =>
  go_wp2_with fail
  go_loopw [] (fun wx=>∃ (v1:Value) (B:List Jb) (q:List Tk) (n:Nat),Hid (bp [106,111,98] dL n q B >>= fT ins=R)∧q.length≤n∧Hid (q.length≤l.length)∧B.length≤16∧Hid (da wx w.heap.size w.heap.size rb fb b v0 v1 (zR none 0 0) ins B [])∧Hid (Ps wx b q)∧Hid (aa [b] w wx)) (fun wx=>fw b wx)
  case atStart=>exact ⟨_,[],q1,q1.length,HR,zz _,e9,by simp,I,J,HK⟩
  clear I J HK HR;obtain ⟨v1,B,q,n,HR,b4,bb,d4,I,J,HK⟩:=hrel;obtain ⟨y,rfl⟩:∃ y:World,y=wr:=⟨_,rfl⟩
  have b5:=J.out.endT.pos;have bA:0<n:=by omega
  have a3:=zx bA;have dv:=zx b4;have cp:=zx b5;have p0:y.cell? ⟨w.heap.size,0,none⟩=some (zS (some ⟨b,0,none⟩)):=I.out.pbk.cell 0;have lp:=I.out.pbk.lt;have lf:=I.out.fbk.lt;obtain ⟨us,b6,bl,b0⟩:=I.out.i1;obtain ⟨A,cv,rfl,-⟩:=ao bl;have a1:=zx bl;have c7:=zx b6;have cu:=zx b0;have bn:=HK;have f0:y.cell? ⟨fb,1,none⟩=some (zR A B.length cv):=I.out.fbk.cell 1;have HM:=zx J.out.left;have HT:=iX [106,111,98] y J.out;clear bl b6 b0 bA b4 b5
  cases hs:aG [106,111,98] q with
  | false =>
   rw[hs] at HT;have a0:=zx HT;have bq:Hid (fT ins (B,q)=R):=zx (by rw[←HR.out,ij hs];rfl);clear HT hs;go_wp2_with fail
   refine a0.out.mono ?_;rintro ev w3 ⟨rfl,rfl⟩;go_wp2;go_meet;exact ⟨_,B,q,bq,bb,I,J,HK⟩
  | true =>
   rw[hs] at HT;have a0:=zx HT;have a6:=zx hs;clear HT hs;by_cases aA:B.length=16
   ·have HX:Hid (R= .error (4,(ax q).at_)):=zx (by rw[←HR.out,eR a6.out a3.out aA];rfl)
    have HF:=zx (kT B.length I.out.pbk J.out aA);clear aA;go_wp2_with fail
    refine a0.out.mono ?_;rintro ev w3 ⟨rfl,rfl⟩;go_wp2_with fail
    refine HF.out.mono ?_;rintro ev w9 ⟨⟨gi,rfl,hb⟩,a4⟩;exact ⟨rfl,by rw[HX.out];exact ⟨gi,rfl,hb⟩,HK.out.trans a4.of_nil⟩
   have HF:=zx (nS B.length I.out.pbk J.out aA);have fS:y.cell? ⟨fb,1,none⟩=some (zR A B.length cv)∧y.frozen? ⟨fb,1,none⟩=false:=⟨f0,I.out.fbk.frozen 1⟩;have a9:=zx (show B.length+1≤maxLen∧(B.length+1)*208≤140737488355328 by simp only[maxLen];omega);have c8:Hid (fb∉[b]):=zx (by have:=I.out.fbk.ty.ne J.out.ty (by decide);simpa using this);rcases hS:dL q with x|⟨x,r⟩
   ·have HX:Hid (R= .error x):=zx (by rw[←HR.out,e7 a6.out a3.out aA hS];rfl)
    have HC:Hid (∀ W,aa [] y W→Calls zy 155 #[zS (some ⟨b,0,none⟩)] W fun e w'=>bV x e w'∧aa [b] W w'):=zx (fun W z=>by
     have h:=qX W ((HE.out.one dB HK.out).quiet z) dB (J.out.keep z) (zA bb.out d3.out);rw[hS] at h;exact h)
    clear hS aA;go_wp2_with fail
    refine a0.out.mono ?_;rintro ev w3 ⟨rfl,rfl⟩;go_wp2_with fail
    refine HF.out.mono ?_;rintro ev w4 ⟨rfl,rfl⟩;go_wp2_with fail
    go_region_law (first|(refine step_append_lies _ (by rfl) _ _ _ (by rfl) w.heap.size 59 i1 _ 15 208 Tryz.underlying76 hj f7 e4 fu rfl (by decide) (zR A B.length cv) B.length us.flatten (by rfl) ((bw a1.out ad.undrew (fun z hz=>⟨190,by rw[zD.1 hz];exact J.out.ty,by decide⟩)).alloc _) ⟨w6.heap.size,0,none⟩ 1 1 ([zW zX 0,zW zX 0,zR none 0 0,zR none 0 0,zR none 0 0,zQ (bs []),zQ (bs []),zW zX 0,zW zX 0,zQ (bs []),zQ (bs []),zW zX 0,zW zX 0,zQ (bs []),zW zX 0]) (by rfl) rfl (zJ (heap_alloc_new _ _)) (by simp[Value.oneCell']) (by decide) a9.out.1 a9.out.2 (by have:=bn.out.size;have:=ad.size;have h9:y.drew.heap.size=y.heap.size:=rfl;simp;omega) _ rfl ?_;intro gw bm w7 bd M ds ct;obtain ⟨en,em⟩:=az M (ay ⟨bj,cf⟩ _) (fun e=>(av a1.out fb e).ne I.out.fbk.ty (by decide) rfl))|(go_simp;go_at_call 155;refine (HC.out _ (zN [] y).drew).mono ?_;rintro e w6 ⟨⟨gi,rfl,hb⟩,ad⟩;obtain ⟨bj,cf⟩:=aC ad fS c8.out;have ek:fb<w6.heap.size:=zB w6 ⟨fb,1,none⟩ bj;dsimp only;(go_loud (refine cK ‹∀ (a:Act) (w:World),wpAny _ _ _ _ _ _ a w→_› (some 31) (.agg #[zW zX 0,zW zX 0,zR none 0 0,zR none 0 0,zR none 0 0,zQ (bs []),zQ (bs []),zW zX 0,zW zX 0,zQ (bs []),zQ (bs []),zW zX 0,zW zX 0,zQ (bs []),zW zX 0]) ⟨rfl,by rw[HX.out];exact ⟨gi,rfl,hb⟩,HK.out.trans ad.undrew⟩ (fun hF=>?_)))))
    all_goals exact hF.out.elim
   have bq:Hid (bp [106,111,98] dL (n-1) r (B++[x]) >>= fT ins=R):=zx (by rw[←HR.out,nR a6.out a3.out aA hS]);have HC:Hid (∀ W,aa [] y W→Calls zy 155 #[zS (some ⟨b,0,none⟩)] W fun e w'=>(∃ w2 w3 w4,e=zT (.agg #[zW zX x.at_,zW zX x.code,w2,w3,w4,zQ (bs x.op),zQ (bs x.left.col),zW zX x.left.val.kind,zW zX x.left.val.num,zQ (bs x.left.val.word),zQ (bs x.right.col),zW zX x.right.val.kind,zW zX x.right.val.num,zQ (bs x.right.val.word),zW zX x.retry])∧oH w' y.heap.size x w2 w3 w4∧Ps w' b r)∧aa [b] W w'):=zx (fun W z=>by
    have h:=qX W ((HE.out.one dB HK.out).quiet z) dB (J.out.keep z) (zA bb.out d3.out);rw[hS] at h;refine h.mono (fun e w' h=>⟨?_,h.2⟩);have h2:=h.1;simp only[tu] at h2;obtain ⟨v2,v3,v4,h3,h4,h5⟩:=h2;exact ⟨v2,v3,v4,h3,⟨bg h4.o2 z.size,bg h4.o3 z.size,bg h4.o4 z.size⟩,h5⟩)
   have bk:=zx (vi cp.out hS);have cx:Hid ((B++[x]).length≤16):=zx (by simp;omega);clear hS aA;go_wp2_with fail
   refine a0.out.mono ?_;rintro ev w3 ⟨rfl,rfl⟩;go_wp2_with fail
   refine HF.out.mono ?_;rintro ev w4 ⟨rfl,rfl⟩;go_wp2_with fail
   go_region_law (first|(refine step_append_lies _ (by rfl) _ _ _ (by rfl) w.heap.size 59 i1 _ 15 208 Tryz.underlying76 hj f7 e4 fu rfl (by decide) (zR A B.length cv) B.length us.flatten (by rfl) ((bw a1.out ad.undrew (fun z hz=>⟨190,by rw[zD.1 hz];exact J.out.ty,by decide⟩)).alloc _) ⟨w6.heap.size,0,none⟩ 1 1 ([zW zX x.at_,zW zX x.code,zR A2 x.outs.length c2,zR A3 x.ins.length c3,zR A4 x.cols.length c4,zQ (bs x.op),zQ (bs x.left.col),zW zX x.left.val.kind,zW zX x.left.val.num,zQ (bs x.left.val.word),zQ (bs x.right.col),zW zX x.right.val.kind,zW zX x.right.val.num,zQ (bs x.right.val.word),zW zX x.retry]) (by rfl) rfl (zJ (heap_alloc_new _ _)) (by simp[Value.oneCell']) (by decide) a9.out.1 a9.out.2 (by have:=bn.out.size;have:=ad.size;have h9:y.drew.heap.size=y.heap.size:=rfl;simp;omega) _ rfl ?_;intro gw bm w7 bd M ds ct;obtain ⟨en,em⟩:=az M (ay ⟨bj,cf⟩ _) (fun e=>(av a1.out fb e).ne I.out.fbk.ty (by decide) rfl))|(go_simp;go_at_call 155;refine (HC.out _ (zN [] y).drew).mono ?_;rintro e w6 ⟨⟨w2,w3,w4,rfl,a8,el⟩,ad⟩;obtain ⟨A2,c2,rfl,-⟩:=ao a8.o2;obtain ⟨A3,c3,rfl,-⟩:=ao a8.o3;obtain ⟨A4,c4,rfl,-⟩:=ao a8.o4;obtain ⟨bj,cf⟩:=aC ad fS c8.out;have ek:fb<w6.heap.size:=zB w6 ⟨fb,1,none⟩ bj))
   all_goals
    have bo:=I.out.ps J.out ad.undrew;have ba:=(bw a1.out ad.undrew (fun z hz=>⟨190,by rw[zD.1 hz];exact J.out.ty,by decide⟩));have bB:=fun j h1 h2=>fp.far (S:=kQ) ⟨ad.undrew,fun z hz=>⟨190,by rw[zD.1 hz];exact J.out.ty,by decide⟩⟩ (by decide) _ _ (cu.out j h1 h2)
    have cq:=av ba;have dq:=HK.out.trans ad.undrew;have e0:=zx (da.app1 bo c7.out ba bB ⟨_,_,_,rfl,⟨bg a8.o2 bn.out.size,bg a8.o3 bn.out.size,bg a8.o4 bn.out.size⟩⟩ M bd);have cj:=zx (yX (k:=1) (u:=zR (some ⟨gw,0,none⟩) (B.length+1) bm) bo el M cq (by decide) (by decide));have et:=zx (da.keeps7 (k:=1) (u:=zR (some ⟨gw,0,none⟩) (B.length+1) bm) bo dq M (fun z hz=>(a1.out.lt z hz).1));clear bo ba bB cq dq;go_wp2;go_roundw
    case rel=>exact ⟨_,B++[x],r,n-1,bq,by have:=bk.out;have:=dv.out;omega,zx (by have:=bk.out;have:=bb.out;omega),cx.out,e0,cj,et⟩
    case measure=>rw[cj.out.left,HM.out];exact bk.out
 clear I J HK HR;obtain ⟨v1,B,q2,HR,gl,I,J,HK⟩:=hcut;obtain ⟨y2,rfl⟩:∃ y:World,y=wc:=⟨_,rfl⟩
 go_upto_block 4 with (fail)
 go_cut [] (fun wx=>∃ (v2:Value) (outs:List Pb) (q:List Tk),Hid (fR ins B (outs,q)=R)∧Hid (da wx w.heap.size w.heap.size rb fb b v0 v1 v2 ins B outs)∧Hid (Ps wx b q)∧Hid (aa [b] w wx))
 case first =>
  go_wp2_with fail
  go_loopw [] (fun wx=>∃ (v2:Value) (outs:List Pb) (q:List Tk) (n:Nat),Hid (bp [111,117,116] ef n q outs >>= fR ins B=R)∧q.length≤n∧Hid (q.length≤l.length)∧outs.length≤16∧Hid (da wx w.heap.size w.heap.size rb fb b v0 v1 v2 ins B outs)∧Hid (Ps wx b q)∧Hid (aa [b] w wx)) (fun wx=>fw b wx)
  case atStart=>exact ⟨_,[],q2,q2.length,HR,zz _,gl,by simp,I,J,HK⟩
  clear I J HK HR;obtain ⟨v2,outs,q,n,HR,b4,bb,d4,I,J,HK⟩:=hrel;obtain ⟨y,rfl⟩:∃ y:World,y=wr:=⟨_,rfl⟩
  have b5:=J.out.endT.pos;have bA:0<n:=by omega
  have a3:=zx bA;have dv:=zx b4;have cp:=zx b5;have p0:y.cell? ⟨w.heap.size,0,none⟩=some (zS (some ⟨b,0,none⟩)):=I.out.pbk.cell 0;have lp:=I.out.pbk.lt;have lf:=I.out.fbk.lt;obtain ⟨us,b6,bl,b0⟩:=I.out.i2;obtain ⟨A,cv,rfl,-⟩:=ao bl;have a1:=zx bl;have c7:=zx b6;have cu:=zx b0;have f0:y.cell? ⟨fb,2,none⟩=some (zR A outs.length cv):=I.out.fbk.cell 2;have HM:=zx J.out.left;have HT:=iX [111,117,116] y J.out;clear bl b6 b0 bA b4 b5
  cases hs:aG [111,117,116] q with
  | false =>
   rw[hs] at HT;have a0:=zx HT;have bq:Hid (fR ins B (outs,q)=R):=zx (by rw[←HR.out,ij hs];rfl);clear HT hs;go_wp2_with fail
   refine a0.out.mono ?_;rintro ev w3 ⟨rfl,rfl⟩;go_wp2;go_meet;exact ⟨_,outs,q,bq,I,J,HK⟩
  | true =>
   rw[hs] at HT;have a0:=zx HT;have a6:=zx hs;clear HT hs;by_cases aA:outs.length=16
   ·have HX:Hid (R= .error (4,(ax q).at_)):=zx (by rw[←HR.out,eR a6.out a3.out aA];rfl)
    have HF:=zx (kT outs.length I.out.pbk J.out aA);clear aA;go_wp2_with fail
    refine a0.out.mono ?_;rintro ev w3 ⟨rfl,rfl⟩;go_wp2_with fail
    refine HF.out.mono ?_;rintro ev w9 ⟨⟨gi,rfl,hb⟩,a4⟩;exact ⟨rfl,by rw[HX.out];exact ⟨gi,rfl,hb⟩,HK.out.trans a4.of_nil⟩
   have HF:=zx (nS outs.length I.out.pbk J.out aA);have b7:=zx aA;have a9:=zx (show outs.length+1≤maxLen∧(outs.length+1)*40≤140737488355328 by simp only[maxLen];omega);obtain ⟨at_,ez⟩:∃ a,(ax q).at_=a:=⟨_,rfl⟩
   obtain ⟨O,hO⟩:∃ O,ef q=O:=⟨_,rfl⟩
   have ch:=zx hO;unfold ef at hO;rw[ez] at hO;have HO:=zx hO;obtain ⟨g,o,c,c0,z0,lb,lg,-,hn,hc,g7,k0,k1,k2,-⟩:=J.out.open';rw[ez] at k2;have hh:(0:Int)<(q.length:Int):=by omega
   clear aA hO ez;go_wp2_with fail
   refine a0.out.mono ?_;rintro ev w3 ⟨rfl,rfl⟩;go_wp2_with fail
   refine HF.out.mono ?_;rintro ev w4 ⟨rfl,rfl⟩;go_upto_region 12 with (fail)
   have d0:=zO y 179 #[zW zX at_,zQ ⟨#[]⟩,zQ ⟨#[]⟩];have d2:=(zN [] y).alloc (zU #[zW zX at_,zQ ⟨#[]⟩,zQ ⟨#[]⟩] 179);have er:=J.out.keep d2;obtain ⟨x0,d5⟩:∃ x,y.alloc (zU #[zW zX at_,zQ ⟨#[]⟩,zQ ⟨#[]⟩] 179)=x:=⟨_,rfl⟩
   rw[d5] at d0 d2 er ⊢;have ci:Hid (y.heap.size∉[b]):=zx (by have:=J.out.lt;simp;omega);have ep:Hid (y.heap.size≤y.heap.size):=zx (zz _);obtain ⟨xb,f6⟩:∃ x,y.heap.size=x:=⟨_,rfl⟩
   have ep:Hid (y.heap.size≤xb):=zx (by omega);rw[f6] at d0 ci ⊢;have U:=zx d0;have Z:=zx er;have D:Hid (aa [b] y x0):=zx d2.of_nil;clear d0 d2 er d5 f6 c0 z0 lb lg hn hc g7 k0 k1 k2 hh p0 lp lf f0 a0 HF;have p0:x0.cell? ⟨w.heap.size,0,none⟩=some (zS (some ⟨b,0,none⟩)):=(I.out.ps J.out D.out).pbk.cell 0;have lp:=(I.out.ps J.out D.out).pbk.lt;rcases hS:aq [111,117,116] q with x|r1
   ·have HX:Hid (R= .error x):=zx (by
     have ho:=HO.out;rw[hS,aD] at ho;rw[←HR.out,e7 a6.out a3.out b7.out (ch.out.trans ho.symm)];rfl)
    have HC:=zx (cE hS x0 Z.out);clear hS;go_wp2_with fail
    refine HC.out.mono ?_;rintro ev w9 ⟨⟨gi,rfl,hb⟩,a4⟩;exact ⟨rfl,by rw[HX.out];exact ⟨gi,rfl,hb⟩,(HK.out.trans D.out).trans a4⟩
   have ho:=HO.out;rw[hS,au] at ho;try dsimp only at ho
   clear HO;have HO:=zx ho;clear ho;have HC:=zx (aX hS x0 Z.out);clear hS;go_wp2_with fail
   refine HC.out.mono ?_;rintro ev x1 ⟨rfl,hp,hk⟩;have HXB':=zx (U.out.keep hk ci.out);have HKX':=zx (D.out.trans hk);clear Z D U HC p0 lp;have Z:=zx hp;have U:=HXB';have D:=HKX';clear hp hk HXB' HKX';have p0:x1.cell? ⟨w.heap.size,0,none⟩=some (zS (some ⟨b,0,none⟩)):=(I.out.ps J.out D.out).pbk.cell 0;have lp:=(I.out.ps J.out D.out).pbk.lt;rcases hS:aj r1 with x|⟨a2,r2⟩
   ·have HX:Hid (R= .error x):=zx (by
     have ho:=HO.out;rw[hS,aD] at ho;rw[←HR.out,e7 a6.out a3.out b7.out (ch.out.trans ho.symm)];rfl)
    have HC:=zx (bU hS x1 Z.out);clear hS;go_wp2_with fail
    refine HC.out.mono ?_;rintro ev w9 ⟨⟨gi,rfl,hb⟩,a4⟩;exact ⟨rfl,by rw[HX.out];exact ⟨gi,rfl,hb⟩,(HK.out.trans D.out).trans a4⟩
   have ho:=HO.out;rw[hS,au] at ho;try dsimp only at ho
   clear HO;have HO:=zx ho;clear ho;have HC:=zx (bv hS x1 Z.out);clear hS;go_wp2_with fail
   refine HC.out.mono ?_;rintro ev x2 ⟨rfl,hp,hk⟩;have HXB':=zx (U.out.keep hk ci.out);have HKX':=zx (D.out.trans hk);clear Z D U HC p0 lp;have Z:=zx hp;have U:=HXB';have D:=HKX';clear hp hk HXB' HKX';have p0:x2.cell? ⟨w.heap.size,0,none⟩=some (zS (some ⟨b,0,none⟩)):=(I.out.ps J.out D.out).pbk.cell 0;have lp:=(I.out.ps J.out D.out).pbk.lt;have xf:=U.out.frozen 1;have xc:x2.cell? ⟨xb,1,none⟩=some (zQ ⟨#[]⟩):=U.out.cell 1;have lx:=U.out.lt;have co:aa [xb] x2 (x2.setCell ⟨xb,1,none⟩ (zQ (bs a2))):=(zN _ _).setCell (.inl (by simp)) _;have HXB':=zx (eh (u:=zQ (bs a2)) U.out);have HPX':=zx (Z.out.far co (fun z hz=>⟨179,by rw[zD.1 hz];exact U.out.ty,by decide,by decide⟩));have HKX':Hid (aa [b] y (x2.setCell ⟨xb,1,none⟩ (zQ (bs a2)))):=zx (D.out.setCell (.inr ep.out) _);clear co;go_upto_region 14 with (fail)
   obtain ⟨x3,hy⟩:∃ x,(x2.setCell ⟨xb,1,none⟩ (zQ (bs a2)))=x:=⟨_,rfl⟩
   rw[hy] at HXB' HPX' HKX' ⊢;clear hy xf xc lx U Z D p0 lp;have U:=HXB';have Z:=HPX';have D:=HKX';clear HXB' HPX' HKX';have p0:x3.cell? ⟨w.heap.size,0,none⟩=some (zS (some ⟨b,0,none⟩)):=(I.out.ps J.out D.out).pbk.cell 0;have lp:=(I.out.ps J.out D.out).pbk.lt;rcases hS:aq [61] r2 with x|r4
   ·have HX:Hid (R= .error x):=zx (by
     have ho:=HO.out;rw[hS,aD] at ho;rw[←HR.out,e7 a6.out a3.out b7.out (ch.out.trans ho.symm)];rfl)
    have HC:=zx (cE hS x3 Z.out);clear hS;go_wp2_with fail
    refine HC.out.mono ?_;rintro ev w9 ⟨⟨gi,rfl,hb⟩,a4⟩;exact ⟨rfl,by rw[HX.out];exact ⟨gi,rfl,hb⟩,(HK.out.trans D.out).trans a4⟩
   have ho:=HO.out;rw[hS,au] at ho;try dsimp only at ho
   clear HO;have HO:=zx ho;clear ho;have HC:=zx (aX hS x3 Z.out);clear hS;go_wp2_with fail
   refine HC.out.mono ?_;rintro ev x4 ⟨rfl,hp,hk⟩;have HXB':=zx (U.out.keep hk ci.out);have HKX':=zx (D.out.trans hk);clear Z D U HC p0 lp;have Z:=zx hp;have U:=HXB';have D:=HKX';clear hp hk HXB' HKX';have p0:x4.cell? ⟨w.heap.size,0,none⟩=some (zS (some ⟨b,0,none⟩)):=(I.out.ps J.out D.out).pbk.cell 0;have lp:=(I.out.ps J.out D.out).pbk.lt;rcases hS:aj r4 with x|⟨a5,r5⟩
   ·have HX:Hid (R= .error x):=zx (by
     have ho:=HO.out;rw[hS,aD] at ho;rw[←HR.out,e7 a6.out a3.out b7.out (ch.out.trans ho.symm)];rfl)
    have HC:=zx (bU hS x4 Z.out);clear hS;go_wp2_with fail
    refine HC.out.mono ?_;rintro ev w9 ⟨⟨gi,rfl,hb⟩,a4⟩;exact ⟨rfl,by rw[HX.out];exact ⟨gi,rfl,hb⟩,(HK.out.trans D.out).trans a4⟩
   have ho:=HO.out;rw[hS,au] at ho;try dsimp only at ho
   clear HO;have HO:=zx ho;clear ho;have HC:=zx (bv hS x4 Z.out);clear hS;go_wp2_with fail
   refine HC.out.mono ?_;rintro ev x5 ⟨rfl,hp,hk⟩;have HXB':=zx (U.out.keep hk ci.out);have HKX':=zx (D.out.trans hk);clear Z D U HC p0 lp;have Z:=zx hp;have U:=HXB';have D:=HKX';clear hp hk HXB' HKX';have p0:x5.cell? ⟨w.heap.size,0,none⟩=some (zS (some ⟨b,0,none⟩)):=(I.out.ps J.out D.out).pbk.cell 0;have lp:=(I.out.ps J.out D.out).pbk.lt;have xf:=U.out.frozen 2;have xc:x5.cell? ⟨xb,2,none⟩=some (zQ ⟨#[]⟩):=U.out.cell 2;have lx:=U.out.lt;have co:aa [xb] x5 (x5.setCell ⟨xb,2,none⟩ (zQ (bs a5))):=(zN _ _).setCell (.inl (by simp)) _;have HXB':=zx (ei (u:=zQ (bs a5)) U.out);have HPX':=zx (Z.out.far co (fun z hz=>⟨179,by rw[zD.1 hz];exact U.out.ty,by decide,by decide⟩));have HKX':Hid (aa [b] y (x5.setCell ⟨xb,2,none⟩ (zQ (bs a5)))):=zx (D.out.setCell (.inr ep.out) _);clear co;go_upto_region 16 with (fail)
   obtain ⟨x6,hy⟩:∃ x,(x5.setCell ⟨xb,2,none⟩ (zQ (bs a5)))=x:=⟨_,rfl⟩
   rw[hy] at HXB' HPX' HKX' ⊢;clear hy xf xc lx U Z D p0 lp;have U:=HXB';have Z:=HPX';have D:=HKX';clear HXB' HPX' HKX';have p0:x6.cell? ⟨w.heap.size,0,none⟩=some (zS (some ⟨b,0,none⟩)):=(I.out.ps J.out D.out).pbk.cell 0;have lp:=(I.out.ps J.out D.out).pbk.lt;rcases hS:aq [59] r5 with x|r7
   ·have HX:Hid (R= .error x):=zx (by
     have ho:=HO.out;rw[hS,aD] at ho;rw[←HR.out,e7 a6.out a3.out b7.out (ch.out.trans ho.symm)];rfl)
    have HC:=zx (cE hS x6 Z.out);clear hS;go_wp2_with fail
    refine HC.out.mono ?_;rintro ev w9 ⟨⟨gi,rfl,hb⟩,a4⟩;exact ⟨rfl,by rw[HX.out];exact ⟨gi,rfl,hb⟩,(HK.out.trans D.out).trans a4⟩
   have ho:=HO.out;rw[hS,au] at ho;try dsimp only at ho
   clear HO;have HO:=zx ho;clear ho;have HC:=zx (aX hS x6 Z.out);clear hS;go_wp2_with fail
   refine HC.out.mono ?_;rintro ev x7 ⟨rfl,hp,hk⟩;have HXB':=zx (U.out.keep hk ci.out);have HKX':=zx (D.out.trans hk);clear Z D U HC p0 lp;have Z:=zx hp;have U:=HXB';have D:=HKX';clear hp hk HXB' HKX';have p0:x7.cell? ⟨w.heap.size,0,none⟩=some (zS (some ⟨b,0,none⟩)):=(I.out.ps J.out D.out).pbk.cell 0;have lp:=(I.out.ps J.out D.out).pbk.lt;have HX:Hid (bp [111,117,116] ef (n-1) r7 (outs++[⟨at_,a2,a5⟩]) >>= fR ins B=R):=zx (by
    rw[←HR.out,nR a6.out a3.out b7.out (ch.out.trans HO.out.symm)])
   have bk:=zx (vj cp.out (ch.out.trans HO.out.symm));have cx:Hid ((outs++[⟨at_,a2,a5⟩]:List Pb).length≤16):=zx (by have:=b7.out;simp;omega);have cg:=zx (I.out.ps J.out D.out);have fS:x7.cell? ⟨fb,2,none⟩=some (zR A outs.length cv)∧x7.frozen? ⟨fb,2,none⟩=false:=⟨cg.out.fbk.cell 2,cg.out.fbk.frozen 2⟩;obtain ⟨fc,ff⟩:=fS;have c0':x7.cell? ⟨xb,0,none⟩=some (zW zX at_):=U.out.cell 0;have c1':x7.cell? ⟨xb,1,none⟩=some (zQ (bs a2)):=U.out.cell 1;have c2':x7.cell? ⟨xb,2,none⟩=some (zQ (bs a5)):=U.out.cell 2;have lx:=U.out.lt;have lf:=cg.out.fbk.lt;have ba:=zx (bw a1.out D.out (fun z hz=>⟨190,by rw[zD.1 hz];exact J.out.ty,by decide⟩));have he:=zx (show w.heap.size≤x7.heap.size+1 from Nat.le_succ_of_le (HK.out.trans D.out).size);clear HO;go_wp2_with (at_builtin;refine wpList_append_lies _ rfl _ _ 77 rfl _ 179 i2 _ 3 40 Tryz.underlying77 hp g5 hg gs rfl (by decide) _ outs.length us.flatten rfl (ba.out.alloc _) ⟨x7.heap.size,0,none⟩ 1 1 [zW zX at_,zQ (bs a2),zQ (bs a5)] rfl rfl (zJ (heap_alloc_new _ _)) (by simp[Value.oneCell']) (by decide) a9.out.1 a9.out.2 (by simp;exact he.out) _ rfl ?_)
   intro gw d9 w8 c9 a7 f3 gm;obtain ⟨g6,hv⟩:=az a7 (ay ⟨fc,ff⟩ _) (fun e=>(av ba.out fb e).ne cg.out.fbk.ty (by decide) rfl);have hq:fb<w8.heap.size:=zB w8 ⟨fb,2,none⟩ g6;have fz:=av ba.out;have hf:=zx (da.app2 (x:=⟨at_,a2,a5⟩) cg.out c7.out ba.out cu.out rfl a7 c9);have e5:=zx (yX (k:=2) (u:=zR (some ⟨gw,0,none⟩) (outs.length+1) d9) cg.out Z.out a7 fz (by decide) (by decide));have ha:=zx (da.keeps7 (k:=2) (u:=zR (some ⟨gw,0,none⟩) (outs.length+1) d9) cg.out (HK.out.trans D.out) a7 (fun z hz=>(a1.out.lt z hz).1));clear fz c9 a7 f3 gm fc ff c0' c1' c2';go_wp2;go_roundw
   case rel=>exact ⟨_,outs++[⟨at_,a2,a5⟩],r7,n-1,HX,by have:=bk.out;have:=dv.out;omega,zx (by have:=bk.out;have:=bb.out;omega),cx.out,hf,e5,ha⟩
   case measure=>rw[e5.out.left,HM.out];exact bk.out
 clear I J HK HR;obtain ⟨v2,outs,q3,HR,I,J,HK⟩:=hcut;obtain ⟨y,rfl⟩:∃ y:World,y=wc:=⟨_,rfl⟩
 have HX:Hid (R= .ok (⟨ins,B,outs⟩,q3)):=zx HR.out.symm;clear HR;have i0':=I.out.i0;have i1':=I.out.i1;have i2':=I.out.i2;obtain ⟨hm,_,d7,_⟩:=i0';obtain ⟨ht,_,d8,_⟩:=i1';obtain ⟨hr,_,d6,_⟩:=i2';obtain ⟨A0,c0,rfl,-⟩:=ao d7;obtain ⟨A1,c1,rfl,-⟩:=ao d8;obtain ⟨A2,c2,rfl,-⟩:=ao d6;have f0:y.cell? ⟨fb,0,none⟩=some (zR A0 ins.length c0):=I.out.fbk.cell 0;have f1:y.cell? ⟨fb,1,none⟩=some (zR A1 B.length c1):=I.out.fbk.cell 1;have f2:y.cell? ⟨fb,2,none⟩=some (zR A2 outs.length c2):=I.out.fbk.cell 2;have g0:y.cell? ⟨rb,0,none⟩=some (zR none 0 0):=I.out.rbk.cell 0;have g1:y.cell? ⟨rb,1,none⟩=some (zR none 0 0):=I.out.rbk.cell 1;have g2:y.cell? ⟨rb,2,none⟩=some (zR none 0 0):=I.out.rbk.cell 2;have z0:=I.out.rbk.frozen 0;have z1:=I.out.rbk.frozen 1;have z2:=I.out.rbk.frozen 2;have lf:=I.out.fbk.lt;have lr:=I.out.rbk.lt;clear d7 d8 d6;go_wp2;have e3:=ei (u:=zR A2 outs.length c2) (eh (u:=zR A1 B.length c1) (e6 (u:=zR A0 ins.length c0) I.out.rbk));have y0':=e3.cell 0;have y1':=e3.cell 1;have y2':=e3.cell 2;have eb:aa [rb] y (((y.setCell ⟨rb,0,none⟩ (zR A0 ins.length c0)).setCell ⟨rb,1,none⟩ (zR A1 B.length c1)).setCell ⟨rb,2,none⟩ (zR A2 outs.length c2)):=(((zN _ _).setCell (.inl (by simp)) _).setCell (.inl (by simp)) _).setCell (.inl (by simp)) _;have es:cT [9,109,173,59,179,188] [rb] y _:=⟨eb,fun z hz=>⟨79,by rw[zD.1 hz];exact I.out.rbk.ty,by decide⟩⟩;refine bodyPost_ret (v:= .agg #[zR A0 ins.length c0,zR A1 B.length c1,zR A2 outs.length c2]) (by simp[results,Tryz.results105,go_sem,y0',y1',y2']) rfl ⟨?_,?_⟩
 ·rw[HX.out]
  exact ⟨_,_,_,rfl,I.out.i0.far es (by decide) (by decide),I.out.i1.far es (by decide) (by decide),I.out.i2.far es (by decide),J.out.far eb (fun z hz=>⟨79,by rw[zD.1 hz];exact I.out.rbk.ty,by decide,by decide⟩)⟩
 exact HK.out.trans' eb (fun x hx hl=>by rw[zD.1 hx] at hl;have:=g3.out;omega)
end
section
def Mt (m:List Tk) (l:List Pc):Prop:=m.map kt=l.map Prod.fst
theorem Mt.nil {m:List Tk} (h:Mt m []):m=[]:=by
 unfold Mt at h;simpa using h
theorem Mt.cons {m:List Tk} {p:Pc} {l:List Pc} (h:Mt m (p::l)):∃ t r,m=t::r∧kt t=p.1∧Mt r l:=by
 unfold Mt at h
 cases m with
 | nil=>cases h
 | cons t r =>
  injection h with B A;exact ⟨t,r,rfl,B,A⟩
theorem rj {t:Tk} {r:List Tk} {k:Int} {s w:Bs} (h:kt t=(k,s)) (A:k≠5):aG w (t::r)=(s==w):=by
 injection h with D B;show ((t.kind != 5)&&(t.text==w))=_;rw[D,B];have:(k != 5)=true:=by rw[bne_iff_ne];exact A
 rw[this,Bool.true_and]
theorem tW {t:Tk} {r:List Tk} {k:Int} {s:Bs} (h:kt t=(k,s)) (A:k≠5):aq s (t::r)= .ok r:=by
 unfold aq;rw[rj h A,beq_self_eq_true];rfl
theorem vm {t:Tk} {r:List Tk} {k:Int} {s:Bs} {ms:List Bs} (h:kt t=(k,s)) (J:k≠5) (B:s∈ms):bC ms (t::r)= .ok (s,r):=by
 have A:∀ (ms:List Bs),s∈ms→∃ i,dm (t::r) ms=some i∧ms.getD i []=s:=by
  intro ms
  induction ms with
  | nil=>intro h;cases h
  | cons a ms ih =>
   intro B;unfold dm;rw[rj h J];by_cases e:s=a
   ·subst e
    exact ⟨0,by rw[beq_self_eq_true];rfl,rfl⟩
   obtain ⟨i,I,D⟩:=ih (by rcases List.mem_cons.1 B with h|h;exact absurd h e;exact h);refine ⟨i+1,?_,by simpa using D⟩;have:(s==a)=false:=by rw[beq_eq_false_iff_ne];exact e
   rw[this,I];rfl
 obtain ⟨i,I,D⟩:=A ms B;unfold bC;rw[I];show Except.ok (ms.getD i [],r)=_;rw[D]
theorem zq:(2:Int)≠5:=by decide
theorem qo {q:List Tk} (h:aG [44] q=false) (n:Nat) (A:List Bs):bz n q A= .ok (A,q):=by
 cases n with
 | zero=>rfl
 | succ n=>unfold bz;rw[h];rfl
def zf (t:Tk):Prop:=uS t∧(t.kind=1→t.text≠[]∧dW (t.text.headD 0)=true∧∀ c∈t.text,iF c=true)
def fe (n:Nat) (l r:List Tk):Prop:=(∀ t∈r,t∈l)∧n+r.length≤l.length∧(fP l→fP r)
theorem fe.refl (l:List Tk):fe 0 l l:=⟨fun _ h=>h,by omega,fun h=>h⟩
theorem fe.trans {n m k:Nat} {l r q:List Tk} (h:fe n l r) (g:fe m r q) (B:k≤n+m):fe k l q:=⟨fun t A=>h.1 t (g.1 t A),by have:=h.2.1;have:=g.2.1;omega,fun e=>g.2.2 (h.2.2 e)⟩
theorem fe.tail {l:List Tk} (h:(ax l).kind≠5):fe 1 l l.tail:=by
 cases l with
 | nil=>exact absurd rfl h
 | cons t l=>exact ⟨fun u A=>List.mem_cons_of_mem _ A,by simp;omega,fun e=>e.tail h⟩
def ec (l:List Tk):Prop:=∀ t∈l,zf t
theorem ec.sub {n:Nat} {l r:List Tk} (h:ec l) (g:fe n l r):ec r:=fun t A=>h t (g.1 t A)
theorem ec.hd {l:List Tk} (h:ec l) (A:(ax l).kind≠5):zf (ax l):=by
 cases l with
 | nil=>exact absurd rfl A
 | cons t l=>exact h t (by simp)
theorem dC {l r:List Tk} {s:Bs} (U:ec l) (h:aj l= .ok (s,r)):bP s∧fe 1 l r:=by
 obtain ⟨B,I,rfl,rfl⟩:=gN h;have A:(ax l).kind≠5:=by rw[B];decide
 obtain ⟨_,O⟩:=U.hd A;obtain ⟨J,M,D⟩:=O B;exact ⟨⟨J,I,M,D⟩,fe.tail A⟩
theorem dp {l r:List Tk} {s:Bs} (h:aq s l= .ok r):fe 1 l r:=by
 obtain ⟨A,rfl⟩:=kK h;exact fe.tail (de A)
theorem rl {l r:List Tk} {s:Bs} {ms:List Bs} (h:bC ms l= .ok (s,r)):s∈ms∧fe 1 l r:=by
 obtain ⟨k,_,A,rfl,B,rfl⟩:=iZ h;exact ⟨zH A,fe.tail (de B)⟩
theorem nu:∀ (n:Nat) {l r:List Tk} {A ns:List Bs},ec l→bz n l A= .ok (ns,r)→∃ I,ns=A++I∧(∀ s∈I,bP s)∧fe (2*I.length) l r
 | 0,l,r,A,ns,U,h=>by
  injection h with h;injection h with B J;subst B J;exact ⟨[],by simp,(fun s D=>by cases D),fe.refl _⟩
 | n+1,l,r,A,ns,U,h=>by
  unfold bz at h;split at h
  ·rename_i D
   have O:=fe.tail (de D);obtain ⟨⟨s,r1⟩,B,h⟩:=ak h;dsimp only at h B
   obtain ⟨hw,Z⟩:=dC (U.sub O) B;obtain ⟨I,rfl,hy,s3⟩:=nu n ((U.sub O).sub Z) h;exact ⟨s::I,by simp,fun u M=>by rcases List.mem_cons.1 M with rfl|M;exact hw;exact hy u M,(O.trans Z (zz _)).trans s3 (by simp;omega)⟩
  injection h with h;injection h with B J;subst B J;exact ⟨[],by simp,(fun s D=>by cases D),fe.refl _⟩
theorem j5 (e:Bs):∀ l:List Bs,l≠[]→(eN l e).length+1=2*l.length
 | [],h=>absurd rfl h
 | [a],_=>rfl
 | a::b::l,_=>by
  have:=j5 e (b::l) (by simp);show (((1,a),[])::((4,[44]),[32])::eN (b::l) e:List Pc).length+1=_;simp only[zG] at this ⊢;omega
theorem lH:∀ l:List Cl,l≠[]→(lG l).length+1=3*l.length
 | [],h=>absurd rfl h
 | [a],_=>rfl
 | a::b::l,_=>by
  have:=lH (b::l) (by simp);show (((1,a.name),[32])::((1,qR a.kind.toNat),[])::((4,[44]),[32])::lG (b::l):List Pc).length+1=_;simp only[zG] at this ⊢;omega
theorem rm {l r:List Tk} {ns:List Bs} (J:ec l) (hl:l.length≤1000) (h:bR l= .ok (ns,r)):nU ns∧∀ e,fe (eN ns e).length l r:=by
 unfold bR at h;obtain ⟨⟨s,r1⟩,D,h⟩:=ak h;dsimp only at h D
 obtain ⟨O,I⟩:=dC J D;obtain ⟨Z,rfl,U,M⟩:=nu _ (J.sub I) h;have B:=I.trans M (zz _);refine ⟨⟨by simp,by have:=B.2.1;simp;omega,fun u A=>?_⟩,fun e=>⟨B.1,?_,B.2.2⟩⟩
 ·rcases List.mem_append.1 A with A|A
  ·rw[zD.1 A];exact O
  exact U u A
 have:=j5 e ([s]++Z) (by simp);have:=B.2.1;simp only[zF,zG,zK] at *;omega
theorem pj:∀ (n:Nat) {l r:List Tk} {B cs:List Cl},ec l→b8 n l B= .ok (cs,r)→l.length≤n→0<l.length→∃ D,cs=B++D∧D≠[]∧(∀ c∈D,bP c.name∧(c.kind=1∨c.kind=2))∧fe (3*D.length-1) l r
 | 0,l,r,B,cs,_,_,Z,I=>by omega
 | n+1,l,r,B,cs,hn,h,hl,_=>by
  rw[dP] at h;obtain ⟨⟨s,r1⟩,Z,h⟩:=ak h;obtain ⟨⟨k,r2⟩,I,h⟩:=ak h;dsimp only at h I
  obtain ⟨hw,s1⟩:=dC hn Z;obtain ⟨hk,s2⟩:=rl I;have ad:=(hn.sub s1).sub s2;have U:=s1.trans s2 (zz _);have M:∀ k:Bs,(if k=[116,101,120,116] then (2:Int) else 1)=1∨(if k=[116,101,120,116] then (2:Int) else 1)=2:=fun k=>by split;exact .inr rfl;exact .inl rfl
  split at h
  ·rename_i hs
   have s3:=fe.tail (de hs);have A:=U.trans s3 (zz _);have J:0<r2.tail.length∨r2.tail=[]:=by cases r2.tail with|nil=>exact .inr rfl|cons _ _=>exact .inl (by simp)
   rcases J with J|J
   ·obtain ⟨D,rfl,_,hy,s4⟩:=pj n (ad.sub s3) h (by have:=A.2.1;omega) J
    exact ⟨⟨s,if k=[116,101,120,116] then 2 else 1⟩::D,by simp,by simp,fun u O=>by rcases List.mem_cons.1 O with rfl|O;exact ⟨hw,M k⟩;exact hy u O,A.trans s4 (by simp;omega)⟩
   rw[J] at h
   cases n with
   | zero=>have:=A.2.1;omega
   | succ n =>
    rw[dP] at h;cases h
  injection h with h;injection h with Z I;subst Z I;exact ⟨[⟨s,if k=[116,101,120,116] then 2 else 1⟩],rfl,by simp,fun u O=>by rw[zD.1 O];exact ⟨hw,M k⟩,U⟩
theorem ro {r q:List Tk} {v u:Vl} (A:(ax r).kind≠5) (h:fm r v= .ok (u,q)):u=v∧mf v=true∧fe 1 r q:=by
 unfold fm at h;split at h
 ·rename_i B
  injection h with h;injection h with I D;subst I D;exact ⟨rfl,B,fe.tail A⟩
 cases h
theorem im (v:Vl) (e:Bs):(pf v e).length≤2∧(0≤v.num∨v.kind≠1→(pf v e).length=1):=by
 unfold pf;split
 ·rename_i A
  split
  ·rename_i B
   exact ⟨by simp,fun h=>by rcases h with h|h;omega;exact absurd A h⟩
  exact ⟨by simp,fun _=>rfl⟩
 exact ⟨by simp,fun _=>rfl⟩
theorem vn {l r:List Tk} {v:Vl} (Z:ec l) (h:di l= .ok (v,r)):mf v=true∧∀ e,fe (pf v e).length l r:=by
 unfold di at h;split at h
 ·rename_i U
  have J:=fe.tail (de U);unfold bi at h;split at h
  ·cases h
  split at h
  ·rename_i A
   obtain ⟨rfl,B,D⟩:=ro (by rw[A];decide) h;exact ⟨B,fun e=>J.trans D (im _ e).1⟩
  split at h
  ·rename_i A
   split at h
   ·obtain ⟨rfl,B,D⟩:=ro (by rw[A];decide) h
    exact ⟨B,fun e=>J.trans D (im _ e).1⟩
   cases h
  cases h
 unfold bi at h;split at h
 ·cases h
 split at h
 ·rename_i A
  obtain ⟨rfl,B,D⟩:=ro (by rw[A];decide) h;exact ⟨B,fun e=>by rw[(im _ e).2 (.inr (show (2:Int)≠1 by decide))];exact D⟩
 split at h
 ·rename_i A
  split at h
  ·rename_i n O
   have I:(ax l).kind≠5:=by rw[A];decide
   obtain ⟨rfl,B,D⟩:=ro I h;have M:=eY O ((Z.hd I).1.2.1 A);exact ⟨B,fun e=>by rw[(im _ e).2 (.inl (by simpa using M.1))];exact D⟩
  cases h
 cases h
theorem tX {l r:List Tk} {a:Ar} (M:ec l) (h:bN l= .ok (a,r)):oK a∧∀ e,fe (fW a e).length l r:=by
 unfold bN at h;split at h
 ·obtain ⟨⟨s,U⟩,B,h⟩:=ak h
  injection h with h;injection h with A I;subst A I;obtain ⟨J,D⟩:=dC M B;exact ⟨.inl ⟨J,rfl⟩,fun e=>by unfold fW;rw[if_neg J.ne];exact D⟩
 obtain ⟨⟨v,U⟩,B,h⟩:=ak h;injection h with h;injection h with A I;subst A I;obtain ⟨O,D⟩:=vn M B;exact ⟨.inr ⟨rfl,O⟩,fun e=>by unfold fW;rw[if_pos rfl];exact D e⟩
theorem yD {l r:List Tk} {x:Pb} (A:ec l) (h:ef l= .ok (x,r)):xu x∧fe (tU x).length l r:=by
 unfold ef at h;obtain ⟨q1,g1,h⟩:=ak h;try dsimp only at h
 have M:=dp g1;have A:=A.sub M;have S:=M;obtain ⟨⟨a2,q2⟩,D,h⟩:=ak h;try dsimp only at h D
 obtain ⟨w2,I⟩:=dC A D;have A:=A.sub I;have S:=S.trans I (zz _);obtain ⟨q3,g3,h⟩:=ak h;try dsimp only at h
 have U:=dp g3;have A:=A.sub U;have S:=S.trans U (zz _);obtain ⟨⟨a4,q4⟩,J,h⟩:=ak h;try dsimp only at h J
 obtain ⟨Z,B⟩:=dC A J;have A:=A.sub B;have S:=S.trans B (zz _);obtain ⟨q5,g5,h⟩:=ak h;try dsimp only at h
 have O:=dp g5;have A:=A.sub O;have S:=S.trans O (zz _);injection h with h;injection h with h1 h2;subst h1 h2;exact ⟨⟨w2,Z⟩,S⟩
theorem zg {l r:List Tk} {x:In} (A:ec l) (hl:l.length≤1000) (he:fP l) (h:bc l= .ok (x,r)):yY x∧fe (xQ x).length l r:=by
 unfold bc at h;obtain ⟨q1,g1,h⟩:=ak h;try dsimp only at h
 have U:=dp g1;have A:=A.sub U;have S:=U;obtain ⟨⟨a2,q2⟩,J,h⟩:=ak h;try dsimp only at h J
 obtain ⟨w2,M⟩:=dC A J;have A:=A.sub M;have S:=S.trans M (zz _);obtain ⟨q3,g3,h⟩:=ak h;try dsimp only at h
 have s3:=dp g3;have A:=A.sub s3;have S:=S.trans s3 (zz _);obtain ⟨⟨D,q4⟩,O,h⟩:=ak h;try dsimp only at h O
 obtain ⟨ys,e4,B,w4,I⟩:=pj _ A O (zz _) (S.2.2 he).pos;have A:=A.sub I;have S:=S.trans I (zz _);obtain ⟨q5,g5,h⟩:=ak h;try dsimp only at h
 have Z:=dp g5;have A:=A.sub Z;have S:=S.trans Z (zz _);injection h with h;injection h with h1 h2;subst h1 h2;rw[List.nil_append] at e4;subst e4;have ad:=lH D B;have hS:=S.2.1;refine ⟨⟨w2,B,by show D.length≤1000;omega,w4⟩,S.1,?_,S.2.2⟩;show (((1,[105,110]),[32])::((1,a2),[])::((4,[58]),[32])::(lG D++[((4,[59]),[10])]):List Pc).length+_≤_;simp only[zG,zF,zK];omega
theorem vo {l r:List Tk} {n:Int} (hn:ec l) (h:bF l= .ok (n,r)):(0≤n∧n≤5)∧fe (oj n).length l r:=by
 unfold bF at h;split at h
 ·rename_i Z
  have J:=fe.tail (de Z);split at h
  ·cases h
  rename_i O;have B:(ax l.tail).kind=2:=by
   by_cases e:(ax l.tail).kind=2
   ·exact e
   exact absurd e O
  have A:(ax l.tail).kind≠5:=by rw[B];decide
  split at h
  ·rename_i n' U
   have M:=eY U (((hn.sub J).hd A).1.2.1 B);split at h
   ·cases h
   injection h with h;injection h with I D;subst I D;refine ⟨⟨M.1,by omega⟩,J.trans (fe.tail A) ?_⟩;unfold oj;split
   ·exact zz _
   exact zE _
  cases h
 injection h with h;injection h with I D;subst I D;exact ⟨⟨Int.le_refl _,by decide⟩,fe.refl _⟩
theorem yE {l r:List Tk} {j M:Jb} (A:ec l) (h:pN j l= .ok (M,r)):(∃ a c,bP a∧bP c∧M={ j with ins:=j.ins++[a],cols:=j.cols++[c] })∧fe 3 l r:=by
 unfold pN at h;obtain ⟨⟨a1,q1⟩,D,h⟩:=ak h;try dsimp only at h D
 obtain ⟨U,I⟩:=dC A D;have A:=A.sub I;have S:=I;obtain ⟨q2,g2,h⟩:=ak h;try dsimp only at h
 have B:=dp g2;have A:=A.sub B;have S:=S.trans B (zz _);obtain ⟨⟨a3,q3⟩,O,h⟩:=ak h;try dsimp only at h O
 obtain ⟨w3,J⟩:=dC A O;have A:=A.sub J;have S:=S.trans J (zz _);injection h with h;injection h with h1 Z;subst h1 Z;exact ⟨⟨a1,a3,U,w3,rfl⟩,S⟩
theorem xS {l r:List Tk} {j J:Jb} (I:ec l) (h:iz j l= .ok (J,r)):(∃ a c b d,bP a∧bP b∧bP c∧bP d∧J={ j with ins:=j.ins++[a]++[b],cols:=j.cols++[c]++[d] })∧fe 7 l r:=by
 unfold iz at h;obtain ⟨⟨j1,r1⟩,B,h⟩:=ak h;dsimp only at h B
 obtain ⟨⟨a,c,Z,hc,rfl⟩,D⟩:=yE I B;obtain ⟨r2,M,h⟩:=ak h;have A:=dp M;obtain ⟨⟨b,d,O,hd,rfl⟩,U⟩:=yE ((I.sub D).sub A) h;exact ⟨⟨a,c,b,d,Z,O,hc,hd,rfl⟩,(D.trans A (zz _)).trans U (by omega)⟩
theorem vp {l r:List Tk} {j M:Jb} (A:ec l) (h:gJ j l= .ok (M,r)):(∃ a b,bP a∧bP b∧M={ j with ins:=j.ins++[a]++[b] })∧fe 3 l r:=by
 unfold gJ at h;obtain ⟨⟨a1,q1⟩,D,h⟩:=ak h;try dsimp only at h D
 obtain ⟨U,I⟩:=dC A D;have A:=A.sub I;have S:=I;obtain ⟨q2,g2,h⟩:=ak h;try dsimp only at h
 have B:=dp g2;have A:=A.sub B;have S:=S.trans B (zz _);obtain ⟨⟨a3,q3⟩,O,h⟩:=ak h;try dsimp only at h O
 obtain ⟨w3,J⟩:=dC A O;have A:=A.sub J;have S:=S.trans J (zz _);injection h with h;injection h with h1 Z;subst h1 Z;exact ⟨⟨a1,a3,U,w3,rfl⟩,S⟩
theorem rp {l r:List Tk} {j U:Jb} (A:ec l) (h:dJ j l= .ok (U,r)):(∃ s o a,bP s∧o∈fN∧oK a∧U={ j with left:=⟨s,zV⟩,op:=o,right:=a }∧fe (3+(fW a []).length) l r):=by
 unfold dJ at h;obtain ⟨q1,g1,h⟩:=ak h;try dsimp only at h
 have M:=dp g1;have A:=A.sub M;have S:=M;obtain ⟨⟨a2,q2⟩,D,h⟩:=ak h;try dsimp only at h D
 obtain ⟨w2,I⟩:=dC A D;have A:=A.sub I;have S:=S.trans I (zz _);obtain ⟨⟨a3,q3⟩,Z,h⟩:=ak h;try dsimp only at h Z
 obtain ⟨w3,O⟩:=rl Z;have A:=A.sub O;have S:=S.trans O (zz _);obtain ⟨⟨a4,q4⟩,J,h⟩:=ak h;try dsimp only at h J
 obtain ⟨w4,B⟩:=tX A J;have B:=B [];have A:=A.sub B;have S:=S.trans B (zz _);injection h with h;injection h with h1 h2;subst h1 h2;exact ⟨a2,a3,a4,w2,w3,w4,rfl,S⟩
theorem yF {l r:List Tk} {j j2:Jb} (A:ec l) (h:nI j l= .ok (j2,r)):(∃ c a o b,bP c∧oK a∧o∈[[43],[45],[42]]∧oK b∧j2={ j with cols:=[c],left:=a,op:=o,right:=b }∧fe (3+(fW a [32]).length+1+(fW b []).length) l r):=by
 unfold nI at h;obtain ⟨q1,g1,h⟩:=ak h;try dsimp only at h
 have U:=dp g1;have A:=A.sub U;have S:=U;obtain ⟨⟨a2,q2⟩,J,h⟩:=ak h;try dsimp only at h J
 obtain ⟨w2,M⟩:=dC A J;have A:=A.sub M;have S:=S.trans M (zz _);obtain ⟨q3,g3,h⟩:=ak h;try dsimp only at h
 have s3:=dp g3;have A:=A.sub s3;have S:=S.trans s3 (zz _);obtain ⟨⟨a4,q4⟩,O,h⟩:=ak h;try dsimp only at h O
 obtain ⟨w4,D⟩:=tX A O;have D:=D [32];have A:=A.sub D;have S:=S.trans D (zz _);obtain ⟨⟨a5,q5⟩,g5,h⟩:=ak h;try dsimp only at h g5
 obtain ⟨w5,Z⟩:=rl g5;have A:=A.sub Z;have S:=S.trans Z (zz _);obtain ⟨⟨a6,q6⟩,I,h⟩:=ak h;try dsimp only at h I
 obtain ⟨w6,B⟩:=tX A I;have B:=B [];have A:=A.sub B;have S:=S.trans B (zz _);injection h with h;injection h with h1 h2;subst h1 h2;exact ⟨a2,a4,a5,a6,w2,w4,w5,w6,rfl,S⟩
theorem yG {l r:List Tk} {j J:Jb} (A:ec l) (hl:l.length≤1000) (h:td j l= .ok (J,r)):(∃ ns,nU ns∧J={ j with cols:=ns }∧fe (1+(eN ns []).length) l r):=by
 unfold td at h;obtain ⟨q1,U,h⟩:=ak h;try dsimp only at h
 have I:=dp U;have A:=A.sub I;have S:=I;obtain ⟨⟨Z,q2⟩,D,h⟩:=ak h;try dsimp only at h D
 obtain ⟨w2,B⟩:=rm A (by have:=S.2.1;omega) D;have B:=B [];have A:=A.sub B;have S:=S.trans B (zz _);injection h with h;injection h with O M;subst O M;exact ⟨Z,w2,rfl,S⟩
theorem vq {l r:List Tk} {j U:Jb} (A:ec l) (h:f8 j l= .ok (U,r)):(∃ c o d,bP c∧bP d∧o∈[[115,117,109],[109,97,120]]∧U={ j with cols:=[c,d],op:=o }∧fe 4 l r):=by
 unfold f8 at h;obtain ⟨q1,g1,h⟩:=ak h;try dsimp only at h
 have M:=dp g1;have A:=A.sub M;have S:=M;obtain ⟨⟨a2,q2⟩,D,h⟩:=ak h;try dsimp only at h D
 obtain ⟨w2,I⟩:=dC A D;have A:=A.sub I;have S:=S.trans I (zz _);obtain ⟨⟨a3,q3⟩,Z,h⟩:=ak h;try dsimp only at h Z
 obtain ⟨w3,O⟩:=rl Z;have A:=A.sub O;have S:=S.trans O (zz _);obtain ⟨⟨a4,q4⟩,J,h⟩:=ak h;try dsimp only at h J
 obtain ⟨w4,B⟩:=dC A J;have A:=A.sub B;have S:=S.trans B (zz _);injection h with h;injection h with h1 h2;subst h1 h2;exact ⟨a2,a3,a4,w2,w4,w3,rfl,S⟩
theorem rq:∀ o∈fN,o.length≤10:=by decide
theorem vr:∀ o∈([[43],[45],[42]]:List Bs),o.length≤10:=by decide
theorem vs:∀ o∈([[115,117,109],[109,97,120]]:List Bs),o.length≤10:=by decide
theorem xT {l r:List Tk} {at_:Int} {outs:List Bs} {rt:Int} {j:Jb} (hn:ec l) (hl:l.length≤1000) (h:am (aM at_ outs rt) l= .ok (j,r)):(j.outs=outs∧j.retry=rt∧rJ j.left∧rJ j.right∧j.op.length≤10∧wI j)∧fe (tV j).length l r:=by
 unfold am at h;split at h
 ·cases h
 rename_i h0;have hk:(ax l).kind≠5:=by
  intro e;exact h0 (.inr (by rw[e];decide))
 have Z:=fe.tail hk;have O:=hn.sub Z;have a1:l.tail.length≤1000:=by have:=Z.2.1;omega
 have z:rJ ⟨[],zV⟩:= .inl rfl;have a0:¬aQ (ax l).text=0:=fun e=>h0 (.inl e)
 have aA:=fQ (ax l).text;generalize aQ (ax l).text=c at h a0 aA;clear h0;split at h
 ·rename_i e
  subst e;obtain ⟨⟨a,c,b,d,M,D,hc,hd,rfl⟩,U⟩:=xS O h;exact ⟨⟨rfl,rfl,z,z,zE 10,.inl ⟨rfl,a,b,c,d,M,D,hc,hd,rfl,rfl⟩⟩,Z.trans U (zz _)⟩
 split at h
 ·rename_i e
  subst e;obtain ⟨⟨a,b,M,D,rfl⟩,U⟩:=vp O h;exact ⟨⟨rfl,rfl,z,z,zE 10,.inr (.inl ⟨rfl,a,b,M,D,rfl,rfl⟩)⟩,Z.trans U (zz _)⟩
 obtain ⟨⟨a,q⟩,h1,h⟩:=ak h;dsimp only at h h1
 obtain ⟨M,U⟩:=dC O h1;have B:=O.sub U;have ad:q.length≤1000:=by have:=U.2.1;omega
 have A:=Z.trans U (zz _);rename_i n7 n5;obtain rfl|rfl|rfl|rfl|rfl|rfl|rfl:c=1∨c=2∨c=3∨c=4∨c=6∨c=8∨c=9:=by omega
 ·obtain ⟨s,o,b,hs,J,D,rfl,I⟩:=rp B (show dJ _ q=_ from h)
  exact ⟨⟨rfl,rfl,.inr (.inl ⟨hs,rfl⟩),.inr D,rq o J,.inr (.inr (.inr (.inl ⟨.inl rfl,a,s,M,hs,rfl,rfl,rfl,J,D⟩)))⟩,A.trans I (by
   show (((1,gI 1),[32])::((1,a),[32])::((1,[119,104,101,114,101]),[32])::((1,s),[32])::((4,o),[32])::fW b []:List Pc).length≤_;simp only[zG];omega)⟩
 ·obtain ⟨c,x,o,b,hc,hx,J,D,rfl,I⟩:=yF B (show nI _ q=_ from h)
  exact ⟨⟨rfl,rfl,.inr hx,.inr D,vr o J,.inr (.inr (.inr (.inr (.inl ⟨rfl,a,c,M,hc,rfl,rfl,hx,J,D⟩))))⟩,A.trans I (by
   show (((1,gI 2),[32])::((1,a),[])::((4,[58]),[32])::((1,c),[32])::((4,[61]),[32])::(fW x [32]++((4,o),[32])::fW b []):List Pc).length≤_;simp only[zG,zF];omega)⟩
 ·obtain ⟨ns,hw,rfl,I⟩:=yG B ad (show td _ q=_ from h)
  exact ⟨⟨rfl,rfl,z,z,zE 10,.inr (.inr (.inr (.inr (.inr (.inl ⟨.inl rfl,a,M,rfl,hw⟩)))))⟩,A.trans I (by
   show (((1,gI 3),[32])::((1,a),[32])::((1,[98,121]),[32])::eN ns []:List Pc).length≤_;simp only[zG];omega)⟩
 ·obtain ⟨ns,hw,rfl,I⟩:=yG B ad (show td _ q=_ from h)
  exact ⟨⟨rfl,rfl,z,z,zE 10,.inr (.inr (.inr (.inr (.inr (.inl ⟨.inr rfl,a,M,rfl,hw⟩)))))⟩,A.trans I (by
   show (((1,gI 4),[32])::((1,a),[32])::((1,[98,121]),[32])::eN ns []:List Pc).length≤_;simp only[zG];omega)⟩
 ·have h':(Except.ok (⟨at_,6,outs,[]++[a],[],[],⟨[],zV⟩,⟨[],zV⟩,rt⟩,q):Except (Int×Int) (Jb×List Tk))= .ok (j,r):=h
  injection h' with h';injection h' with h2 h3;subst h2 h3;exact ⟨⟨rfl,rfl,z,z,zE 10,.inr (.inr (.inl ⟨rfl,a,M,rfl,rfl⟩))⟩,A⟩
 ·obtain ⟨c,o,d,hc,hd,J,rfl,I⟩:=vq B (show f8 _ q=_ from h)
  exact ⟨⟨rfl,rfl,z,z,vs o J,.inr (.inr (.inr (.inr (.inr (.inr ⟨rfl,a,c,d,M,hc,hd,rfl,rfl,J⟩)))))⟩,A.trans I (by
   show (((1,gI 8),[32])::((1,a),[32])::((1,[98,121]),[32])::((1,c),[32])::((1,o),[32])::((1,d),[])::[]:List Pc).length≤_;simp only[zG,zK];omega)⟩
 obtain ⟨s,o,b,hs,J,D,rfl,I⟩:=rp B (show dJ _ q=_ from h);exact ⟨⟨rfl,rfl,.inr (.inl ⟨hs,rfl⟩),.inr D,rq o J,.inr (.inr (.inr (.inl ⟨.inr rfl,a,s,M,hs,rfl,rfl,rfl,J,D⟩)))⟩,A.trans I (by
  show (((1,gI 9),[32])::((1,a),[32])::((1,[119,104,101,114,101]),[32])::((1,s),[32])::((4,o),[32])::fW b []:List Pc).length≤_;simp only[zG];omega)⟩
theorem yH {l r:List Tk} {x:Jb} (A:ec l) (hl:l.length≤1000) (h:dL l= .ok (x,r)):nV x∧fe (ri x).length l r:=by
 unfold dL at h;obtain ⟨q1,g1,h⟩:=ak h;have I:=dp g1;have A:=A.sub I;obtain ⟨⟨os,q2⟩,O,h⟩:=ak h;dsimp only at h O
 obtain ⟨w2,B⟩:=rm A (by have:=I.2.1;omega) O;have B:=B [32];have A:=A.sub B;have S:=I.trans B (zz _);obtain ⟨⟨n,q3⟩,g3,h⟩:=ak h;dsimp only at h g3
 obtain ⟨M,s3⟩:=vo A g3;have A:=A.sub s3;have S:=S.trans s3 (zz _);obtain ⟨q4,g4,h⟩:=ak h;have J:=dp g4;have A:=A.sub J;have S:=S.trans J (zz _);obtain ⟨⟨j,q5⟩,Z,h⟩:=ak h;dsimp only at h Z
 obtain ⟨⟨U,D,o3,o4,o5,o6⟩,s5⟩:=xT A (by have:=S.2.1;omega) Z;have S:=S.trans s5 (zz _);obtain ⟨q6,g6,h⟩:=ak h;have s6:=dp g6;have S:=S.trans s6 (zz _);injection h with h;injection h with h1 h2;subst h1 h2;refine ⟨⟨by rw[U];exact w2,by rw[D];exact M.1,by rw[D];exact M.2,o3,o4,o5,o6⟩,S.1,?_,S.2.2⟩;have:=S.2.1;unfold ri;rw[U,D];simp only[zG,zF,zK];omega
theorem om {α:Type} {pc:α→List Pc} {W:α→Prop} {w:Bs} {D:List Tk→Except (Int×Int) (α×List Tk)} (ho:∀ l x r,ec l→l.length≤1000→fP l→D l= .ok (x,r)→W x∧fe (pc x).length l r):∀ (n:Nat) (l r:List Tk) (A xs:List α),ec l→l.length≤1000→fP l→A.length≤16→bp w D n l A= .ok (xs,r)→∃ M,xs=A++M∧(∀ y∈M,W y)∧xs.length≤16∧fe (M.flatMap pc).length l r
 | 0,l,r,A,xs,_,_,_,ha,h=>by
  injection h with h;injection h with Z U;subst Z U;exact ⟨[],by simp,(fun y J=>by cases J),ha,fe.refl _⟩
 | n+1,l,r,A,xs,hn,hl,he,ha,h=>by
  unfold bp at h;split at h
  ·split at h
   ·cases h
   rename_i ad;obtain ⟨⟨x,q⟩,g,h⟩:=ak h;dsimp only at h g
   obtain ⟨hw,O⟩:=ho l x q hn hl he g;obtain ⟨M,rfl,J,I,s2⟩:=om ho n q r (A++[x]) xs (hn.sub O) (by have:=O.2.1;omega) (O.2.2 he) (by simp;omega) h;refine ⟨x::M,by simp,?_,I,O.trans s2 (by rw[List.flatMap_cons,zF];omega)⟩;intro y B;rcases List.mem_cons.1 B with rfl|B
   ·exact hw
   exact J y B
  injection h with h;injection h with Z U;subst Z U;exact ⟨[],by simp,(fun y J=>by cases J),ha,fe.refl _⟩
theorem vt {l:List Tk} {f:Fl} (B:ec l) (D:l.length≤1000) (I:fP l) (h:dX l= .ok f):pS f∧(xR f).length+1≤l.length:=by
 unfold dX at h;obtain ⟨⟨g,r⟩,A,h⟩:=ak h;dsimp only at h
 split at h
 ·cases h
 injection h with h;subst h;rw[kS] at A;obtain ⟨⟨a,q1⟩,g1,A⟩:=ak A;obtain ⟨xs,e1,w1,l1,Z⟩:=om (pc:=xQ) (W:=yY) (fun l x r B D I h=>zg B D I h) _ _ _ _ _ B D I (by simp) g1;have J:=B.sub Z;have a1:q1.length≤1000:=by have:=Z.2.1;omega
 have O:=Z.2.2 I;unfold fU at A;obtain ⟨⟨b,q2⟩,g2,A⟩:=ak A;obtain ⟨ys,e2,w2,l2,U⟩:=om (pc:=ri) (W:=nV) (fun l x r B D I h=>yH B D h) _ _ _ _ _ J a1 O (by simp) g2;have a0:=J.sub U;have ad:q2.length≤1000:=by have:=U.2.1;omega
 have M:=U.2.2 O;unfold fT at A;obtain ⟨⟨c,q3⟩,g3,A⟩:=ak A;obtain ⟨zs,e3,w3,l3,s3⟩:=om (pc:=tU) (W:=xu) (fun l x r B D I h=>yD B h) _ _ _ _ _ a0 ad M (by simp) g3;have aA:=s3.2.2 M;unfold fR at A;injection A with A;injection A with h2 h3;subst h2 h3;rw[List.nil_append] at e1 e2 e3;subst e1 e2 e3;refine ⟨⟨l1,l2,l3,w1,w2,w3⟩,?_⟩;have:=Z.2.1;have:=U.2.1;have:=s3.2.1;have:=aA.pos;unfold xR;simp only[zF] at *;omega
theorem xU (c:UInt8) (t:Bs) (i:Int) (D:(aR (c::t)).2≠0) (h:(aR (c::t)).1=1):(c::t).take (aR (c::t)).2≠[]∧dW (((c::t).take (aR (c::t)).2).headD 0)=true∧∀ d∈(c::t).take (aR (c::t)).2,iF d=true:=by
 rw[iM] at D h ⊢;by_cases B:dW c=true
 ·rw[if_pos B] at D h ⊢
  dsimp only at D h ⊢
  refine ⟨?_,?_,jz _ _⟩
  ·obtain ⟨m,A⟩:∃ m,eu iF (c::t)=m+1:=⟨eu iF (c::t)-1,by omega⟩
   rw[A];simp
  obtain ⟨m,A⟩:∃ m,eu iF (c::t)=m+1:=⟨eu iF (c::t)-1,by omega⟩
  rw[A];exact B
 rw[if_neg B] at h;split at h
 ·cases h
 split at h<;>cases h
theorem vu:∀ (f:Nat) (s:Bs) (i:Nat) (A l:List Tk),(∀ t∈A,t.kind=1→t.text≠[]∧dW (t.text.headD 0)=true∧∀ c∈t.text,iF c=true)→cQ f s i A= .ok l→∀ t∈l,t.kind=1→t.text≠[]∧dW (t.text.headD 0)=true∧∀ c∈t.text,iF c=true:=by
 have B:∀ (A:List Tk) (i:Nat) (l:List Tk),(∀ t∈A,t.kind=1→t.text≠[]∧dW (t.text.headD 0)=true∧∀ c∈t.text,iF c=true)→(Except.ok (A++[⟨5,[],(i:Int)⟩]):Except (Int×Int) (List Tk))= .ok l→∀ t∈l,t.kind=1→t.text≠[]∧dW (t.text.headD 0)=true∧∀ c∈t.text,iF c=true:=by
  intro A i l D h t I;injection h with h;subst h;rcases List.mem_append.1 I with I|I
  ·exact D t I
  rw[zD.1 I];intro h;cases h
 intro f
 induction f with
 | zero=>intro s i A l D h;exact B A i l D h
 | succ f ih =>
  intro s i A l D h
  cases s with
  | nil=>exact B A i l D h
  | cons c t =>
   rw[iN] at h;split at h
   ·exact ih _ _ _ _ D h
   split at h
   ·cases h
   split at h
   ·cases h
   rename_i O M U;refine ih _ _ _ l ?_ h;intro u J;rcases List.mem_append.1 J with J|J
   ·exact D u J
   rw[zD.1 J];exact xU c t i M
theorem rr {s:Bs} {l:List Tk} (B:s.length≤1000000) (h:kn s= .ok l):ec l:=fun t A=>⟨(i7 B h).2.1 t A,vu _ _ _ _ _ (fun t A=>by cases A) h t A⟩
theorem tY {s:Bs} {f:Fl} (B:s.length≤1000000) (h:fE s= .ok f):pS f∧(xR f).length≤400:=by
 unfold fE at h;obtain ⟨l,A,h⟩:=ak h;obtain ⟨D,_,J⟩:=i7 B A;obtain ⟨I,M⟩:=vt (rr B A) (by omega) D h;exact ⟨I,by omega⟩
def yp (t:Tk):Prop:=(t.kind=3→∃ w:Bs,t.text=39::(w++[39])∧(39:UInt8)∉w)∧(t.kind≠1→dW (t.text.headD 0)=false)
def ru (t:Tk):Prop:=zf t∧yp t
def tZ (l:List Tk):Prop:=∀ t∈l,ru t
theorem tZ.n {l:List Tk} (h:tZ l):ec l:=fun t A=>(h t A).1
theorem sr {t:Bs} {k:Nat} (h:Lib.indexByte t 39=(k:Int)):t.take (k+1)=t.take k++[39]∧(39:UInt8)∉t.take k:=by
 obtain ⟨A,J⟩:=Lib.indexByte_some h;obtain ⟨I,A⟩:=List.getElem?_eq_some_iff.1 A;refine ⟨by rw[List.take_succ_eq_append_getElem I,A],fun D=>?_⟩;obtain ⟨i,M,B⟩:=List.getElem_of_mem D;rw[List.length_take] at M;rw[List.getElem_take] at B;exact J i (by omega) (List.getElem?_eq_some_iff.2 ⟨by omega,B⟩)
theorem xV (c:UInt8) (t:Bs) (i:Int) (A:(aR (c::t)).2≠0):yp ⟨(aR (c::t)).1,(c::t).take (aR (c::t)).2,i⟩:=by
 have M:∀ n,n≠0→((c::t).take n).headD 0=c:=fun n I=>by
  obtain ⟨m,rfl⟩:∃ m,n=m+1:=⟨n-1,by omega⟩
  rfl
 refine ⟨fun h=>?_,fun h=>?_⟩
 ·dsimp only at h ⊢
  rw[iM] at h A ⊢;by_cases B:dW c=true
  ·rw[if_pos B] at h;cases h
  rw[if_neg B] at h A ⊢;by_cases hd:dk c=true
  ·rw[if_pos hd] at h;cases h
  rw[if_neg hd] at h A ⊢;by_cases D:c=39
  ·rw[if_pos D] at h A ⊢
   subst D;dsimp only at A ⊢
   by_cases I:Lib.indexByte t 39<0
   ·rw[if_pos I] at A;exact absurd rfl A
   rw[if_neg I];obtain ⟨O,J⟩:=sr (t:=t) (k:=(Lib.indexByte t 39).toNat) (by omega);exact ⟨t.take (Lib.indexByte t 39).toNat,by rw[List.take_succ_cons,O],J⟩
  rw[if_neg D] at h;cases h
 dsimp only at h ⊢
 rw[M _ A];rw[iM] at h;by_cases B:dW c=true
 ·rw[if_pos B] at h;exact absurd rfl h
 simpa using B
theorem vw:∀ (f:Nat) (s:Bs) (i:Nat) (A l:List Tk),(∀ t∈A,yp t)→cQ f s i A= .ok l→∀ t∈l,yp t:=by
 have B:∀ (A:List Tk) (i:Nat) (l:List Tk),(∀ t∈A,yp t)→(Except.ok (A++[⟨5,[],(i:Int)⟩]):Except (Int×Int) (List Tk))= .ok l→∀ t∈l,yp t:=by
  intro A i l D h t I;injection h with h;subst h;rcases List.mem_append.1 I with I|I
  ·exact D t I
  rw[zD.1 I];exact ⟨(fun h=>by cases h),(fun _=>rfl)⟩
 intro f
 induction f with
 | zero=>intro s i A l D h;exact B A i l D h
 | succ f ih =>
  intro s i A l D h
  cases s with
  | nil=>exact B A i l D h
  | cons c t =>
   rw[iN] at h;split at h
   ·exact ih _ _ _ _ D h
   split at h
   ·cases h
   split at h
   ·cases h
   rename_i O M U;refine ih _ _ _ l ?_ h;intro u J;rcases List.mem_append.1 J with J|J
   ·exact D u J
   rw[zD.1 J];exact xV c t i M
theorem ua {s:Bs} {l:List Tk} (B:s.length≤1000000) (h:kn s= .ok l):tZ l:=fun t A=>⟨rr B h t A,vw _ _ _ _ _ (fun t A=>by cases A) h t A⟩
end
end Go.Proofs.YtpagiajlefejcaaGreatDoor
