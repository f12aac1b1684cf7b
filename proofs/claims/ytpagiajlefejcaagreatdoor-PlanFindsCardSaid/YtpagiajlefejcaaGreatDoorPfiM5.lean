/- The package-level variables that flows lean on. The parser's value. The parser's arg. The parser's input. A job that is being read, in memory. -/
import Derived.Test.YtpagiajlefejcaaGreatDoorPfiM3
import Derived.Test.YtpagiajlefejcaaGreatDoorPfiM1
import Derived.Test.YtpagiajlefejcaaGreatDoorPfiM4
import Derived.Deep.DeepCutAuto
set_option linter.unusedSimpArgs false
set_option linter.unusedVariables false
set_option maxRecDepth 100000
set_option maxHeartbeats 16000000
namespace Go.Proofs.YtpagiajlefejcaaGreatDoor
open Go.Lib renaming hid → zx
open Go.Proofs.Tryz renaming prog → zy
open _root_.Nat renaming le_refl → zz, le_trans → zA
open Go.World renaming block_lt_of_cell? → zB, news_of_block → zJ
open _root_.List renaming mem_singleton → zD, length_append → zF, length_cons → zG, getElem?_eq_getElem → zI, length_nil → zK, length_tail → zL, getD_eq_getElem?_getD → zM
open aa renaming refl → zN
open ap renaming new → zO
open Go.Value renaming string → zQ, slice → zR, pointer → zS, int → zW
open Go.Ending renaming returned → zT
open Go.Obj renaming cells → zU
open Go.IntKind renaming i64 → zX
section
open Go.RowKit
structure iv (w:World):Prop where
 p10:Lib.TabIs zy w "internal/strconv.uint64pow10" .u64 Lib.pow10Tab
 esyn:∃ t p,w.cell? ⟨6,0,none⟩=some (.iface t p)
 erng:∃ t p,w.cell? ⟨7,0,none⟩=some (.iface t p)
 marks:∀ j (h:j<an.length),w.cell? ⟨3,j,none⟩=some (zQ (bs an[j]))
 words:∀ j (h:j<dK.length),w.cell? ⟨8,j,none⟩=some (zQ (bs dK[j]))
 wty:cD w 8 314
theorem iv.quiet {w w':World} (h:iv w) (A:aa [] w w'):iv w' :=
  ⟨jS h.p10 A,by obtain ⟨t,p,B⟩:=h.esyn;exact ⟨t,p,A.cell_of B (by simp)⟩,by obtain ⟨t,p,B⟩:=h.erng;exact ⟨t,p,A.cell_of B (by simp)⟩,
   fun j D=>A.cell_of (h.marks j D) (by simp),fun j D=>A.cell_of (h.words j D) (by simp),h.wty.keep A (by simp)⟩
theorem gh (w:World) (o:Obj):(w.alloc o).heap.size=w.heap.size+1:=Array.size_push _
def FB (w:World) (h:Nat):Prop:=∃ w0,iv w0∧aa [] w0 w∧w0.heap.size≤h
theorem FB.env {w:World} {D:Nat} (h:FB w D):iv w:=by
 obtain ⟨w0,B,A,_⟩:=h;exact B.quiet A
theorem FB.go {w w':World} {A:Nat} {L:List Nat} (h:FB w A) (B:aa L w w') (D:∀ x∈L,A≤x):FB w' A:=by
 obtain ⟨w0,J,I,M⟩:=h;exact ⟨w0,J,I.trans' B (fun x O U=>by have:=D x O;omega),M⟩
theorem FB.quiet {w w':World} {A:Nat} (h:FB w A) (B:aa [] w w'):FB w' A:=h.go B (fun x D=>by cases D)
theorem FB.one {w w':World} {A b:Nat} (h:FB w A) (I:A≤b) (B:aa [b] w w'):FB w' A:=h.go B (fun x D=>by simp at D;omega)
theorem eY {l:Bs} {n:Int} (h:Lib.atoiAll l= .ok n) (hd:∀ c∈l,dk c=true):0≤n∧n≤9223372036854775807:=by
 have D:=qV h;unfold qS at D;refine ⟨?_,D.2⟩;unfold Lib.atoiAll at h;split at h
 ·cases h
 rename_i c r;have B:=hd c (List.mem_cons_self ..);have A:¬c.toNat=45:=by
  unfold dk at B;simp only[Bool.and_eq_true,decide_eq_true_eq] at B;omega
 simp only at h;split at h
 ·cases h
 ·cases h
 split at h
 ·cases h
 split at h
 ·cases h
 injection h with h;first
  | (rw[if_neg A] at h;omega)
  | omega
end
section
open Go.RowKit Go.BigFrame
attribute [local go_sem] ag ab ae af
def nP (R:Except (Int×Int) (Vl×List Tk)) (b:Nat) (e:Ending) (w':World):Prop:=match R with
 | .ok (v,r)=>e=zT (wU v)∧Ps w' b r
 | .error x=>bV x e w'
theorem bW {w w':World} {b:Nat} {l:List Tk} (h:Ps w b l) (D:aa [b] w w') {g:Nat} {t:TypeId} {cs:Array Value} (A:ap w g t cs) (I:t≠190):ap w' g t cs :=
 A.keep D (fun B=>by
  have:g=b:=by simpa using B
  subst this;exact A.ty.ne h.ty I rfl)
theorem Ps.set {W:World} {b g i:Nat} {l:List Tk} {t:TypeId} {cs:Array Value} (h:Ps W b l) (D:ap W g t cs) (B:t≠190) (A:t≠193) (u:Value):Ps (W.setCell ⟨g,i,none⟩ u) b l :=
 h.far (L:=[g]) (aa.setCell (zN _ _) (.inl (by simp)) _) (fun x I=>⟨t,by rw[zD.1 I];exact D.ty,B,A⟩)
theorem Ps.setNew {W:World} {b g i:Nat} {l:List Tk} (h:Ps W b l) (ad:b<g) (u:Value):Ps (W.setCell ⟨g,i,none⟩ u) b l:=by
 obtain ⟨I,o,c,O,D,h3,M,Z,h6,U⟩:=h;have B:aa [g] W (W.setCell ⟨g,i,none⟩ u):=aa.setCell (zN _ _) (.inl (by simp)) _;have A:=D.2;have n1:b∉[g]:=by simp;omega
 have J:I∉[g]:=by simp;omega
 exact ⟨I,o,c,O.keep B n1,⟨D.1.keep B J,A⟩,h3,M,Z,h6,fun j u hu=>B.cell_of (U j u hu) J⟩
theorem eZ {s:Bs} {n:Int} (D:Lib.atoiAll s= .ok n) (J:s.length≤1000000) (W:World) (B:iv W):Calls zy 65 #[zQ (bs s)] W fun e w'=>e=zT (.tuple #[zW zX n,.nilIface])∧aa [] W w':=by
 rcases oE s (by omega) W B.esyn B.erng with ⟨v,h,_,I⟩|⟨A,_⟩
 ·rw[D] at h
  injection h with h;subst h;exact I
 exact absurd D (A n)
theorem eQ {s:Bs} (B:∀ n,Lib.atoiAll s≠ .ok n) (I:s.length≤1000000) (W:World) (h:iv W):Calls zy 65 #[zQ (bs s)] W fun e w'=>(∃ n t p,e=zT (.tuple #[zW zX n,.iface t p]))∧aa [] W w':=by
 rcases oE s (by omega) W h.esyn h.erng with ⟨v,D,_,A⟩|⟨_,A⟩
 ·exact absurd D (B v)
 exact A
theorem rG {q:List Tk} {b lo:Nat} (w:World) (hE:FB w lo) (d8:lo≤b) (h:Ps w b q) (hs:aG [45] q=false) :
  Calls zy 261 #[zS (some ⟨b,0,none⟩)] w fun e w'=>nP (bi false q) b e w'∧aa [b] w w':=by
 obtain ⟨R,hR⟩:∃ R,bi false q=R:=⟨_,rfl⟩
 rw[hR];have HV:=zx hR;have HE:=zx hE;obtain ⟨kd,cx⟩:∃ kd,(ax q).kind=kd:=⟨_,rfl⟩
 obtain ⟨I,cp⟩:∃ I,(ax q).text=I:=⟨_,rfl⟩
 obtain ⟨at_,c8⟩:∃ at_,(ax q).at_=at_:=⟨_,rfl⟩
 have a1:=zx cx;have bl:=zx cp;have d4:=zx c8;clear hR hE;obtain ⟨g,o,c,c0,z0,lb,lg,-,hn,hc,cu,k0,k1,k2,hw⟩:=h.open';rw[cx] at k0;rw[cp] at k1;rw[c8] at k2;clear hw;have dq:(0:Int)<(q.length:Int):=by omega
 have H:=zx h;have e4:=zx hs;skip
 clear h cx cp c8 hs;have HT:Hid (∀ W,aa [] w W→Calls zy 203 #[zS (some ⟨b,0,none⟩),zQ (bs [45])] W fun e w'=>e=zT (.bool false)∧Ps w' b q∧aa [b] W w'):=zx (fun W x=>by
  have:=ey [45] W (H.out.keep x);rw[e4.out] at this;rw[if_neg (by simp)] at this;exact this)
 go_enter Tryz.func261,Tryz.ntmps261
 go_wp2_with fail
 refine (HT.out _ (((zN [] w).alloc _).alloc _)).mono ?_;rintro ev w1 ⟨rfl,c6,b1⟩;have d2:=(zO w 27 #[zW zX 0,zW zX 0,zQ ⟨#[]⟩]).alloc (zU #[zW zX kd,zQ (bs I),zW zX at_] 193);have ds:=zO (w.alloc (zU #[zW zX 0,zW zX 0,zQ ⟨#[]⟩] 27)) 193 #[zW zX kd,zQ (bs I),zW zX at_];rw[gh] at ds;have hP:=H.out.keep (((zN [] w).alloc (zU #[zW zX 0,zW zX 0,zQ ⟨#[]⟩] 27)).alloc (zU #[zW zX kd,zQ (bs I),zW zX at_] 193));have cv:=zx (bW hP b1 d2 (by decide));have c2:=zx (bW hP b1 ds (by decide));have dB:=zx ((((zN [] w).alloc (zU #[zW zX 0,zW zX 0,zQ ⟨#[]⟩] 27)).alloc (zU #[zW zX kd,zQ (bs I),zW zX at_] 193)).of_nil.trans b1);have c9:=zx c6;have a6:=zx (zz w.heap.size);have bj:Hid (w.heap.size≠b):=zx (by omega);have c7:Hid (w.heap.size+1≠b∧w.heap.size+2≤w1.heap.size∧b<w.heap.size):=zx ⟨by omega,by have:=b1.size;rw[gh,gh] at this;omega,by omega⟩;clear d2 ds hP c6 b1 c0 z0 lb lg hn hc cu k0 k1 k2 dq;obtain ⟨M,hM⟩:∃ M,w.heap.size=M:=⟨_,rfl⟩
 rw[hM] at cv c2 bj c7 ⊢;have a6:Hid (w.heap.size≤M):=zx (by omega);clear hM;obtain ⟨g1,o1,c1,c0,z0,lb,lg,-,hn,hc,cu,k0,k1,k2,hw⟩:=c9.out.open';rw[a1.out] at k0;rw[bl.out] at k1;rw[d4.out] at k2;obtain ⟨cq,b3,cf⟩:=hw;rw[bl.out] at cq b3 cf;rw[a1.out] at b3 cf;have b4:=zx b3;have cg:=zx cf;clear b3 cf;have dq:(0:Int)<(q.length:Int):=by omega
 obtain ⟨wt,e0⟩:∃ wt:World,wt=w1:=⟨_,rfl⟩
 subst e0;have b7:=c9;have bb:=dB;have co:=cv;have ci:=c2;have d1:=zx (HE.out.one d8 bb.out);have d0:Hid (wt.heap.size≠b∧M≠wt.heap.size∧w.heap.size≤wt.heap.size):=zx ⟨by have:=c7.out;omega,by have:=c7.out;omega,bb.out.size⟩;have t0:wt.cell? ⟨M+1,0,none⟩=some (zW zX kd):=ci.out.cell 0;have t1:wt.cell? ⟨M+1,1,none⟩=some (zQ (bs I)):=ci.out.cell 1;have t2:wt.cell? ⟨M+1,2,none⟩=some (zW zX at_):=ci.out.cell 2;have fc:=ci.out.lt;clear c9 dB cv c2 c0 z0 lb lg hn hc cu k0 k1 k2 dq;by_cases J:kd=3
 ·subst J
  have en:Hid (2≤I.length):=zx (cg.out rfl);clear b4 cg;have bo:Hid (fm q ⟨2,0,fM I⟩=R):=zx (by rw[←HV.out];unfold bi;rw[a1.out,bl.out];rfl);have e9:2≤I.length:=en.out;have d9:∀ W,(Instr.slice 9 (zQ (bs I)) (some (zW zX 1)) (some (zW zX ((I.length:Int)-1))) none).run zy W= .ok (zQ (bs (fM I))) W:=fun W=>by
   have:=jv (P:=zy) Tryz.underlying9 I 1 (I.length-1) (by omega) (by omega) W;rwa [show ((I.length-1:Nat):Int)=(I.length:Int)-1 by omega] at this
  have a8:Hid (wt.heap.size≠b∧M≠wt.heap.size∧w.heap.size≤wt.heap.size):=d0;have c3:=zx a8.out.1;have bd:=zx a8.out.2.1;have ch:=zx a8.out.2.2;go_upto_region 17 with (fail)
  have O:=zx (zO wt 27 #[zW zX 2,zW zX (0),zQ (bs (fM I))]);have a3:=zx (b7.out.keep ((zN _ _).alloc (zU #[zW zX 2,zW zX (0),zQ (bs (fM I))] 27)));have a7:=zx (bb.out.alloc (zU #[zW zX 2,zW zX (0),zQ (bs (fM I))] 27));have bA:=zx (co.out.alloc (zU #[zW zX 2,zW zX (0),zQ (bs (fM I))] 27));clear e9 d9;generalize wt.heap.size=vb at *;obtain ⟨w4,bk⟩:∃ x,wt.alloc (zU #[zW zX 2,zW zX (0),zQ (bs (fM I))] 27)=x:=⟨_,rfl⟩
  rw[bk] at O a3 a7 bA ⊢;clear bk;have v0:w4.cell? ⟨vb,0,none⟩=some (zW zX 2):=O.out.cell 0;have v1:w4.cell? ⟨vb,1,none⟩=some (zW zX (0)):=O.out.cell 1;have v2:w4.cell? ⟨vb,2,none⟩=some (zQ (bs (fM I))):=O.out.cell 2;have lv:=O.out.lt;obtain ⟨rv,a2⟩:∃ rv,mf (⟨2,0,(fM I)⟩:Vl)=rv:=⟨_,rfl⟩
  have b0:Hid (Calls zy 8 #[.agg #[zW zX 2,zW zX (0),zQ (bs (fM I))]] w4 fun e w'=>e=zT (.bool rv)∧aa [] w4 w'):=zx (by have:=dY (⟨2,0,(fM I)⟩:Vl) w4;rw[a2] at this;exact this);have HF:=zx a2;clear a2
  cases rv with
  | false =>
   have HX:Hid (R= .error (4,(ax q).at_)):=zx (by rw[←bo.out];unfold fm;rw[HF.out];rfl);go_wp2_with fail
   refine b0.out.mono ?_;rintro ev w5 ⟨rfl,B⟩;have bB:=zx (a3.out.keep B);have a5:=zx (a7.out.trans B.of_nil);clear B;go_wp2_with fail
   refine (bD 4 w5 bB.out).mono ?_;rintro ev w6 ⟨⟨gi,rfl,hb⟩,a4⟩;exact ⟨rfl,by rw[HX.out];exact ⟨gi,rfl,hb⟩,a5.out.trans a4.of_nil⟩
  | true =>
   have HX:Hid (R= .ok ((⟨2,0,(fM I)⟩:Vl),q.tail)):=zx (by rw[←bo.out];unfold fm;rw[HF.out];rfl);have a0:(ax q).kind≠5:=by rw[a1.out];decide
   have aA:=zx a0;clear a0;go_wp2_with fail
   refine b0.out.mono ?_;rintro ev w5 ⟨rfl,B⟩;have U:=a3.out.keep B;have bB:=zx U;have a5:=zx (a7.out.trans B.of_nil);have A:=O.out.keep B (by simp);have D:=zx (bA.out.keep B (by simp));have hmore:=U.more aA.out;have b5:(1:Int)≤(q.length:Int):=by omega
   obtain ⟨g5,o5,c5,p0,pz,pb,pg,ez,pn,pc,es,-,-,-,-⟩:=U.open';have el:(1:Int)<(c5:Int):=by omega
   have dv:=zx (fun n a d=> @Ps.step w5 b g5 o5 c5 q U p0 aA.out n a d);have d3:=zx A;have x0:w5.cell? ⟨vb,0,none⟩=some (zW zX 2):=A.cell 0;have x1:w5.cell? ⟨vb,1,none⟩=some (zW zX (0)):=A.cell 1;have x2:w5.cell? ⟨vb,2,none⟩=some (zQ (bs (fM I))):=A.cell 2;have ek:=A.lt;have r0:w5.cell? ⟨M,0,none⟩=some (zW zX 0):=D.out.cell 0;have r1:w5.cell? ⟨M,1,none⟩=some (zW zX 0):=D.out.cell 1;have r2:w5.cell? ⟨M,2,none⟩=some (zQ ⟨#[]⟩):=D.out.cell 2;have eb:=D.out.frozen 0;have er:=D.out.frozen 1;have em:=D.out.frozen 2;have lr:=D.out.lt;have d6:=c3.out;have e5:=bj.out;have et:=bd.out;clear U B A v0 v1 v2 lv hmore;go_wp2;have bm:=dv.out (q.length-1) ⟨g5,o5+3,none⟩ (c5-1) rfl rfl rfl;have Z:=D.out.far (p:=⟨b,0,none⟩) bj.out (zR (some ⟨g5,o5+3,none⟩) (q.length-1) (c5-1));have a9:=((Z.set 0 (zW zX 2)).set 1 (zW zX (0))).set 2 (zQ (bs (fM I)));have y0:=a9.cell 0;have y1:=a9.cell 1;have y2:=a9.cell 2;refine bodyPost_ret (v:= .agg #[zW zX 2,zW zX (0),zQ (bs (fM I))]) (by simp[results,Tryz.results261,go_sem,y0,y1,y2]) rfl ⟨?_,?_⟩
   ·rw[HX.out]
    exact ⟨rfl,((bm.1.set Z (by decide) (by decide) _).set (Z.set 0 _) (by decide) (by decide) _).set ((Z.set 0 _).set 1 _) (by decide) (by decide) _⟩
   exact (((a5.out.trans bm.2).setCell (.inr a6.out) _).setCell (.inr a6.out) _).setCell (.inr a6.out) _
 by_cases b6:kd=2
 ·subst b6
  have d7:Hid (∀ c∈I,dk c=true):=zx (b4.out rfl);clear b4 cg J;rcases ha:Lib.atoiAll I with n|_|_
  ·have bq:=eY ha d7.out
   have bo:Hid (fm q ⟨1,n,[]⟩=R):=zx (by rw[←HV.out];unfold bi;rw[a1.out,bl.out,ha];simp);have ct:=zx (fun W hW=>eZ ha cq W hW);have c6:=bq.1;have ff:=bq.2;have a8:Hid (wt.heap.size≠b∧M≠wt.heap.size∧w.heap.size≤wt.heap.size):=d0;clear ha bq;go_wp2_with fail
   refine (ct.out _ (d1.out.quiet ((zN _ _).alloc _)).env).mono ?_;rintro ev w3 ⟨rfl,J⟩;have ad:=(zO wt 27 #[zW zX 2,zW zX 0,zQ ⟨#[]⟩]).keep J (by simp);generalize d5:wt.heap.size=vb at *;have HQ:=zx d5;clear d5;have z0':=ad.frozen 0;have z1':=ad.frozen 1;have z2':=ad.frozen 2;have v0:w3.cell? ⟨vb,0,none⟩=some (zW zX 2):=ad.cell 0;have v1:w3.cell? ⟨vb,1,none⟩=some (zW zX 0):=ad.cell 1;have v2:w3.cell? ⟨vb,2,none⟩=some (zQ ⟨#[]⟩):=ad.cell 2;have lv:=ad.lt;have c4:=zx ((bb.out.alloc (zU #[zW zX 2,zW zX 0,zQ ⟨#[]⟩] 27)).trans J.of_nil);have bn:=zx ((b7.out.keep ((zN _ _).alloc (zU #[zW zX 2,zW zX 0,zQ ⟨#[]⟩] 27))).keep J);have ep:=zx (((co.out.alloc (zU #[zW zX 2,zW zX 0,zQ ⟨#[]⟩] 27))).keep J (by simp));have ba:=zx ad;have c3:=zx a8.out.1;have bd:=zx a8.out.2.1;have ch:=zx a8.out.2.2;clear ad J;go_upto_region 17 with (fail)
   have cj:=(((ba.out.set 0 (zW zX 1)).set 1 (zW zX (n))).set 2 (zQ ⟨#[]⟩)).congr (cs':= #[zW zX 1,zW zX (n),zQ (bs [])]) rfl;have O:=zx cj;have a3:=zx (((bn.out.set ba.out (i:=0) (by decide) (by decide) (zW zX 1)).set (ba.out.set 0 _) (i:=1) (by decide) (by decide) (zW zX (n))).set ((ba.out.set 0 _).set 1 _) (i:=2) (by decide) (by decide) (zQ ⟨#[]⟩));have a7:=zx (((c4.out.setCell (p:=⟨vb,0,none⟩) (.inr ch.out) (zW zX 1)).setCell (p:=⟨vb,1,none⟩) (.inr ch.out) (zW zX (n))).setCell (p:=⟨vb,2,none⟩) (.inr ch.out) (zQ ⟨#[]⟩));have bA:=zx (((ep.out.far (p:=⟨vb,0,none⟩) bd.out (zW zX 1)).far (p:=⟨vb,1,none⟩) bd.out (zW zX (n))).far (p:=⟨vb,2,none⟩) bd.out (zQ ⟨#[]⟩));clear cj z0' z1' z2' v0 v1 v2 lv;obtain ⟨w4,bk⟩:∃ x,((w3.setCell ⟨vb,0,none⟩ (zW zX 1)).setCell ⟨vb,1,none⟩ (zW zX (n))).setCell ⟨vb,2,none⟩ (zQ ⟨#[]⟩)=x:=⟨_,rfl⟩
   rw[bk] at O a3 a7 bA ⊢;clear bk;have v0:w4.cell? ⟨vb,0,none⟩=some (zW zX 1):=O.out.cell 0;have v1:w4.cell? ⟨vb,1,none⟩=some (zW zX (n)):=O.out.cell 1;have v2:w4.cell? ⟨vb,2,none⟩=some (zQ (bs [])):=O.out.cell 2;have lv:=O.out.lt;obtain ⟨rv,a2⟩:∃ rv,mf (⟨1,n,[]⟩:Vl)=rv:=⟨_,rfl⟩
   have b0:Hid (Calls zy 8 #[.agg #[zW zX 1,zW zX (n),zQ (bs [])]] w4 fun e w'=>e=zT (.bool rv)∧aa [] w4 w'):=zx (by have:=dY (⟨1,n,[]⟩:Vl) w4;rw[a2] at this;exact this);have HF:=zx a2;clear a2
   cases rv with
   | false =>
    have HX:Hid (R= .error (4,(ax q).at_)):=zx (by rw[←bo.out];unfold fm;rw[HF.out];rfl);go_wp2_with fail
    refine b0.out.mono ?_;rintro ev w5 ⟨rfl,B⟩;have bB:=zx (a3.out.keep B);have a5:=zx (a7.out.trans B.of_nil);clear B;go_wp2_with fail
    refine (bD 4 w5 bB.out).mono ?_;rintro ev w6 ⟨⟨gi,rfl,hb⟩,a4⟩;exact ⟨rfl,by rw[HX.out];exact ⟨gi,rfl,hb⟩,a5.out.trans a4.of_nil⟩
   | true =>
    have HX:Hid (R= .ok ((⟨1,n,[]⟩:Vl),q.tail)):=zx (by rw[←bo.out];unfold fm;rw[HF.out];rfl);have a0:(ax q).kind≠5:=by rw[a1.out];decide
    have aA:=zx a0;clear a0;go_wp2_with fail
    refine b0.out.mono ?_;rintro ev w5 ⟨rfl,B⟩;have U:=a3.out.keep B;have bB:=zx U;have a5:=zx (a7.out.trans B.of_nil);have A:=O.out.keep B (by simp);have D:=zx (bA.out.keep B (by simp));have hmore:=U.more aA.out;have b5:(1:Int)≤(q.length:Int):=by omega
    obtain ⟨g5,o5,c5,p0,pz,pb,pg,ez,pn,pc,es,-,-,-,-⟩:=U.open';have el:(1:Int)<(c5:Int):=by omega
    have dv:=zx (fun n a d=> @Ps.step w5 b g5 o5 c5 q U p0 aA.out n a d);have d3:=zx A;have x0:w5.cell? ⟨vb,0,none⟩=some (zW zX 1):=A.cell 0;have x1:w5.cell? ⟨vb,1,none⟩=some (zW zX (n)):=A.cell 1;have x2:w5.cell? ⟨vb,2,none⟩=some (zQ (bs [])):=A.cell 2;have ek:=A.lt;have r0:w5.cell? ⟨M,0,none⟩=some (zW zX 0):=D.out.cell 0;have r1:w5.cell? ⟨M,1,none⟩=some (zW zX 0):=D.out.cell 1;have r2:w5.cell? ⟨M,2,none⟩=some (zQ ⟨#[]⟩):=D.out.cell 2;have eb:=D.out.frozen 0;have er:=D.out.frozen 1;have em:=D.out.frozen 2;have lr:=D.out.lt;have d6:=c3.out;have e5:=bj.out;have et:=bd.out;clear U B A v0 v1 v2 lv hmore;go_wp2;have bm:=dv.out (q.length-1) ⟨g5,o5+3,none⟩ (c5-1) rfl rfl rfl;have Z:=D.out.far (p:=⟨b,0,none⟩) bj.out (zR (some ⟨g5,o5+3,none⟩) (q.length-1) (c5-1));have a9:=((Z.set 0 (zW zX 1)).set 1 (zW zX (n))).set 2 (zQ (bs []));have y0:=a9.cell 0;have y1:=a9.cell 1;have y2:=a9.cell 2;refine bodyPost_ret (v:= .agg #[zW zX 1,zW zX (n),zQ (bs [])]) (by simp[results,Tryz.results261,go_sem,y0,y1,y2]) rfl ⟨?_,?_⟩
    ·rw[HX.out]
     exact ⟨rfl,((bm.1.set Z (by decide) (by decide) _).set (Z.set 0 _) (by decide) (by decide) _).set ((Z.set 0 _).set 1 _) (by decide) (by decide) _⟩
    exact (((a5.out.trans bm.2).setCell (.inr a6.out) _).setCell (.inr a6.out) _).setCell (.inr a6.out) _
  all_goals
   have HX:Hid (R= .error (4,(ax q).at_)):=zx (by rw[←HV.out];unfold bi;rw[a1.out,bl.out,ha];rfl);have ct:=zx (fun W hW=>eQ (s:=I) (fun n h=>by rw[ha] at h;cases h) cq W hW);clear ha;go_wp2_with fail
   refine (ct.out _ (d1.out.quiet ((zN _ _).alloc _)).env).mono ?_;rintro ev w3 ⟨⟨n0,t0',fb,rfl⟩,J⟩;have bn:=zx ((b7.out.keep ((zN _ _).alloc (zU #[zW zX 2,zW zX 0,zQ ⟨#[]⟩] 27))).keep J);have c4:=zx ((bb.out.alloc (zU #[zW zX 2,zW zX 0,zQ ⟨#[]⟩] 27)).trans J.of_nil);clear J;go_wp2_with fail
   refine (bD 4 w3 bn.out).mono ?_;rintro ev w6 ⟨⟨gi,rfl,hb⟩,a4⟩;exact ⟨rfl,by rw[HX.out];exact ⟨gi,rfl,hb⟩,c4.out.trans a4.of_nil⟩
 have e3:(kd==3)=false:=by rw[beq_eq_false_iff_ne];exact J
 have e2:(kd==2)=false:=by rw[beq_eq_false_iff_ne];exact b6
 have HX:Hid (R= .error (3,(ax q).at_)):=zx (by rw[←HV.out];unfold bi;rw[a1.out,if_neg (by simp),if_neg J,if_neg b6];rfl);clear J b6 b4 cg;have bn:=zx (b7.out.keep ((zN _ _).alloc (zU #[zW zX 2,zW zX 0,zQ ⟨#[]⟩] 27)));go_wp2_with fail
 refine (bD 3 _ bn.out).mono ?_;rintro ev w6 ⟨⟨gi,rfl,hb⟩,a4⟩;exact ⟨rfl,by rw[HX.out];exact ⟨gi,rfl,hb⟩,(bb.out.alloc _).trans a4.of_nil⟩
theorem rH {l q:List Tk} {b lo:Nat} (w:World) (hE:FB w lo) (d8:lo≤b) (h:Ps w b l) (hs:aG [45] l=true) (hq:l.tail=q) :
  Calls zy 261 #[zS (some ⟨b,0,none⟩)] w fun e w'=>nP (bi true q) b e w'∧aa [b] w w':=by
 obtain ⟨R,hR⟩:∃ R,bi true q=R:=⟨_,rfl⟩
 rw[hR];have HV:=zx hR;have HE:=zx hE;obtain ⟨kd,c9⟩:∃ kd,(ax q).kind=kd:=⟨_,rfl⟩
 obtain ⟨tx,cv⟩:∃ tx,(ax q).text=tx:=⟨_,rfl⟩
 obtain ⟨at_,d1⟩:∃ at_,(ax q).at_=at_:=⟨_,rfl⟩
 have aA:=zx c9;have a9:=zx cv;have ds:=zx d1;clear hR hE;obtain ⟨g,o,c,c0,z0,lb,lg,-,hn,hc,b7,k0,k1,k2,hw⟩:=h.open';generalize (ax l).kind=kd0 at k0;generalize (ax l).text=tx0 at k1;generalize (ax l).at_=at0 at k2;clear hw;have cq:(0:Int)<(l.length:Int):=by omega
 have H:=zx h;have el:=zx hs;have eb:=zx hq;clear h c9 cv d1 hs hq;have HT:Hid (∀ W,aa [] w W→Calls zy 203 #[zS (some ⟨b,0,none⟩),zQ (bs [45])] W fun e w'=>e=zT (.bool true)∧Ps w' b q∧aa [b] W w'):=zx (fun W x=>by
  have:=ey [45] W (H.out.keep x);rw[el.out] at this;rw[if_pos rfl,eb.out] at this;exact this)
 go_enter Tryz.func261,Tryz.ntmps261
 go_wp2_with fail
 refine (HT.out _ (((zN [] w).alloc _).alloc _)).mono ?_;rintro ev w1 ⟨rfl,ci,a7⟩;have c6:=(zO w 27 #[zW zX 0,zW zX 0,zQ ⟨#[]⟩]).alloc (zU #[zW zX kd0,zQ (bs tx0),zW zX at0] 193);have ct:=zO (w.alloc (zU #[zW zX 0,zW zX 0,zQ ⟨#[]⟩] 27)) 193 #[zW zX kd0,zQ (bs tx0),zW zX at0];rw[gh] at ct;have hP:=H.out.keep (((zN [] w).alloc (zU #[zW zX 0,zW zX 0,zQ ⟨#[]⟩] 27)).alloc (zU #[zW zX kd0,zQ (bs tx0),zW zX at0] 193));have c7:=zx (bW hP a7 c6 (by decide));have I:=zx (bW hP a7 ct (by decide));have d5:=zx ((((zN [] w).alloc (zU #[zW zX 0,zW zX 0,zQ ⟨#[]⟩] 27)).alloc (zU #[zW zX kd0,zQ (bs tx0),zW zX at0] 193)).of_nil.trans a7);have d3:=zx ci;have a6:=zx (zz w.heap.size);have bq:Hid (w.heap.size≠b):=zx (by omega);have bk:Hid (w.heap.size+1≠b∧w.heap.size+2≤w1.heap.size∧b<w.heap.size):=zx ⟨by omega,by have:=a7.size;rw[gh,gh] at this;omega,by omega⟩;clear c6 ct hP ci a7 c0 z0 lb lg hn hc b7 k0 k1 k2 cq;obtain ⟨M,hM⟩:∃ M,w.heap.size=M:=⟨_,rfl⟩
 rw[hM] at c7 I bq bk ⊢;have a6:Hid (w.heap.size≤M):=zx (by omega);clear hM;obtain ⟨g1,o1,c1,c0,z0,lb,lg,-,hn,hc,b7,k0,k1,k2,hw⟩:=d3.out.open';rw[aA.out] at k0;rw[a9.out] at k1;rw[ds.out] at k2;obtain ⟨b1,a8,bd⟩:=hw;rw[a9.out] at b1 a8 bd;rw[aA.out] at a8 bd;have b0:=zx a8;have c8:=zx bd;clear a8 bd;have cq:(0:Int)<(q.length:Int):=by omega
 have t0:w1.cell? ⟨M+1,0,none⟩=some (zW zX kd0):=I.out.cell 0;have t1:w1.cell? ⟨M+1,1,none⟩=some (zQ (bs tx0)):=I.out.cell 1;have t2:w1.cell? ⟨M+1,2,none⟩=some (zW zX at0):=I.out.cell 2;have f0:=I.out.frozen 0;have f1:=I.out.frozen 1;have f2:=I.out.frozen 2;have c2:=I.out.lt;go_upto_region 5 with (fail)
 have a4:=zx ((((I.out.set 0 (zW zX kd)).set 1 (zQ (bs tx))).set 2 (zW zX at_)).congr (cs':= #[zW zX kd,zQ (bs tx),zW zX at_]) rfl);have Z:Hid (b<M+1∧M≠M+1):=zx (by have:=bk.out;omega);have ba:=zx (((d3.out.setNew (i:=0) Z.out.1 (zW zX kd)).setNew (i:=1) Z.out.1 (zQ (bs tx))).setNew (i:=2) Z.out.1 (zW zX at_));have a5:Hid (w.heap.size≤M+1):=zx (Nat.le_succ_of_le a6.out);have ad:=zx (((d5.out.setCell (p:=⟨M+1,0,none⟩) (.inr a5.out) (zW zX kd)).setCell (p:=⟨M+1,1,none⟩) (.inr a5.out) (zQ (bs tx))).setCell (p:=⟨M+1,2,none⟩) (.inr a5.out) (zW zX at_));have bm:=zx (((c7.out.far (p:=⟨M+1,0,none⟩) Z.out.2 (zW zX kd)).far (p:=⟨M+1,1,none⟩) Z.out.2 (zQ (bs tx))).far (p:=⟨M+1,2,none⟩) Z.out.2 (zW zX at_));clear t0 t1 t2 f0 f1 f2 c2 c0 z0 lb lg hn hc b7 k0 k1 k2 cq;have bB:Hid (w1.heap.size=(((w1.setCell ⟨M+1,0,none⟩ (zW zX kd)).setCell ⟨M+1,1,none⟩ (zQ (bs tx))).setCell ⟨M+1,2,none⟩ (zW zX at_)).heap.size):=zx (by simp[World.setCell]);obtain ⟨wt,d2⟩:∃ x,((w1.setCell ⟨M+1,0,none⟩ (zW zX kd)).setCell ⟨M+1,1,none⟩ (zQ (bs tx))).setCell ⟨M+1,2,none⟩ (zW zX at_)=x:=⟨_,rfl⟩
 rw[d2] at a4 ba ad bm bB ⊢;clear d2;have cx:=zx (HE.out.one d8 ad.out);have d6:Hid (wt.heap.size≠b∧M≠wt.heap.size∧w.heap.size≤wt.heap.size):=zx ⟨by have:=bk.out;have:=bB.out;omega,by have:=bk.out;have:=bB.out;omega,ad.out.size⟩;have t0:wt.cell? ⟨M+1,0,none⟩=some (zW zX kd):=a4.out.cell 0;have t1:wt.cell? ⟨M+1,1,none⟩=some (zQ (bs tx)):=a4.out.cell 1;have t2:wt.cell? ⟨M+1,2,none⟩=some (zW zX at_):=a4.out.cell 2;have c2:=a4.out.lt;by_cases b3:kd=2
 ·subst b3
  have d7:Hid (∀ c∈tx,dk c=true):=zx (b0.out rfl);clear b0 c8;rcases ha:Lib.atoiAll tx with n|_|_
  ·have a2:=eY ha d7.out
   have c4:Hid (fm q ⟨1,-n,[]⟩=R):=zx (by rw[←HV.out];unfold bi;rw[aA.out,a9.out,ha];simp);have b4:=zx (fun W hW=>eZ ha b1 W hW);have ci:=a2.1;have e3:=a2.2;have co:Hid (wt.heap.size≠b∧M≠wt.heap.size∧w.heap.size≤wt.heap.size):=d6;clear ha a2;go_wp2_with fail
   refine (b4.out _ (cx.out.quiet ((zN _ _).alloc _)).env).mono ?_;rintro ev w3 ⟨rfl,J⟩;have B:=(zO wt 27 #[zW zX 2,zW zX 0,zQ ⟨#[]⟩]).keep J (by simp);generalize d0:wt.heap.size=vb at *;have HQ:=zx d0;clear d0;have z0':=B.frozen 0;have z1':=B.frozen 1;have z2':=B.frozen 2;have v0:w3.cell? ⟨vb,0,none⟩=some (zW zX 2):=B.cell 0;have v1:w3.cell? ⟨vb,1,none⟩=some (zW zX 0):=B.cell 1;have v2:w3.cell? ⟨vb,2,none⟩=some (zQ ⟨#[]⟩):=B.cell 2;have lv:=B.lt;have cg:=zx ((ad.out.alloc (zU #[zW zX 2,zW zX 0,zQ ⟨#[]⟩] 27)).trans J.of_nil);have b5:=zx ((ba.out.keep ((zN _ _).alloc (zU #[zW zX 2,zW zX 0,zQ ⟨#[]⟩] 27))).keep J);have d9:=zx (((bm.out.alloc (zU #[zW zX 2,zW zX 0,zQ ⟨#[]⟩] 27))).keep J (by simp));have U:=zx B;have ek:=zx co.out.1;have bj:=zx co.out.2.1;have ch:=zx co.out.2.2;clear B J;go_upto_region 17 with (fail)
   have bl:=(((U.out.set 0 (zW zX 1)).set 1 (zW zX (-n))).set 2 (zQ ⟨#[]⟩)).congr (cs':= #[zW zX 1,zW zX (-n),zQ (bs [])]) rfl;have a0:=zx bl;have b6:=zx (((b5.out.set U.out (i:=0) (by decide) (by decide) (zW zX 1)).set (U.out.set 0 _) (i:=1) (by decide) (by decide) (zW zX (-n))).set ((U.out.set 0 _).set 1 _) (i:=2) (by decide) (by decide) (zQ ⟨#[]⟩));have cj:=zx (((cg.out.setCell (p:=⟨vb,0,none⟩) (.inr ch.out) (zW zX 1)).setCell (p:=⟨vb,1,none⟩) (.inr ch.out) (zW zX (-n))).setCell (p:=⟨vb,2,none⟩) (.inr ch.out) (zQ ⟨#[]⟩));have dq:=zx (((d9.out.far (p:=⟨vb,0,none⟩) bj.out (zW zX 1)).far (p:=⟨vb,1,none⟩) bj.out (zW zX (-n))).far (p:=⟨vb,2,none⟩) bj.out (zQ ⟨#[]⟩));clear bl z0' z1' z2' v0 v1 v2 lv;obtain ⟨w4,cu⟩:∃ x,((w3.setCell ⟨vb,0,none⟩ (zW zX 1)).setCell ⟨vb,1,none⟩ (zW zX (-n))).setCell ⟨vb,2,none⟩ (zQ ⟨#[]⟩)=x:=⟨_,rfl⟩
   rw[cu] at a0 b6 cj dq ⊢;clear cu;have v0:w4.cell? ⟨vb,0,none⟩=some (zW zX 1):=a0.out.cell 0;have v1:w4.cell? ⟨vb,1,none⟩=some (zW zX (-n)):=a0.out.cell 1;have v2:w4.cell? ⟨vb,2,none⟩=some (zQ (bs [])):=a0.out.cell 2;have lv:=a0.out.lt;obtain ⟨rv,bA⟩:∃ rv,mf (⟨1,-n,[]⟩:Vl)=rv:=⟨_,rfl⟩
   have dB:Hid (Calls zy 8 #[.agg #[zW zX 1,zW zX (-n),zQ (bs [])]] w4 fun e w'=>e=zT (.bool rv)∧aa [] w4 w'):=zx (by have:=dY (⟨1,-n,[]⟩:Vl) w4;rw[bA] at this;exact this);have HF:=zx bA;clear bA
   cases rv with
   | false =>
    have HX:Hid (R= .error (4,(ax q).at_)):=zx (by rw[←c4.out];unfold fm;rw[HF.out];rfl);go_wp2_with fail
    refine dB.out.mono ?_;rintro ev w5 ⟨rfl,D⟩;have dv:=zx (b6.out.keep D);have cf:=zx (cj.out.trans D.of_nil);clear D;go_wp2_with fail
    refine (bD 4 w5 dv.out).mono ?_;rintro ev w6 ⟨⟨gi,rfl,hb⟩,a3⟩;exact ⟨rfl,by rw[HX.out];exact ⟨gi,rfl,hb⟩,cf.out.trans a3.of_nil⟩
   | true =>
    have HX:Hid (R= .ok ((⟨1,-n,[]⟩:Vl),q.tail)):=zx (by rw[←c4.out];unfold fm;rw[HF.out];rfl);have bo:(ax q).kind≠5:=by rw[aA.out];decide
    have bn:=zx bo;clear bo;go_wp2_with fail
    refine dB.out.mono ?_;rintro ev w5 ⟨rfl,D⟩;have a1:=b6.out.keep D;have dv:=zx a1;have cf:=zx (cj.out.trans D.of_nil);have A:=a0.out.keep D (by simp);have O:=zx (dq.out.keep D (by simp));have hmore:=a1.more bn.out;have d4:(1:Int)≤(q.length:Int):=by omega
    obtain ⟨g5,o5,c5,p0,pz,pb,pg,fb,pn,pc,e5,-,-,-,-⟩:=a1.open';have ez:(1:Int)<(c5:Int):=by omega
    have em:=zx (fun n a d=> @Ps.step w5 b g5 o5 c5 q a1 p0 bn.out n a d);have en:=zx A;have x0:w5.cell? ⟨vb,0,none⟩=some (zW zX 1):=A.cell 0;have x1:w5.cell? ⟨vb,1,none⟩=some (zW zX (-n)):=A.cell 1;have x2:w5.cell? ⟨vb,2,none⟩=some (zQ (bs [])):=A.cell 2;have et:=A.lt;have r0:w5.cell? ⟨M,0,none⟩=some (zW zX 0):=O.out.cell 0;have r1:w5.cell? ⟨M,1,none⟩=some (zW zX 0):=O.out.cell 1;have r2:w5.cell? ⟨M,2,none⟩=some (zQ ⟨#[]⟩):=O.out.cell 2;have es:=O.out.frozen 0;have e4:=O.out.frozen 1;have e0:=O.out.frozen 2;have lr:=O.out.lt;have er:=ek.out;have fc:=bq.out;have e9:=bj.out;clear a1 D A v0 v1 v2 lv hmore;go_wp2;have c3:=em.out (q.length-1) ⟨g5,o5+3,none⟩ (c5-1) rfl rfl rfl;have bb:=O.out.far (p:=⟨b,0,none⟩) bq.out (zR (some ⟨g5,o5+3,none⟩) (q.length-1) (c5-1));have cp:=((bb.set 0 (zW zX 1)).set 1 (zW zX (-n))).set 2 (zQ (bs []));have y0:=cp.cell 0;have y1:=cp.cell 1;have y2:=cp.cell 2;refine bodyPost_ret (v:= .agg #[zW zX 1,zW zX (-n),zQ (bs [])]) (by simp[results,Tryz.results261,go_sem,y0,y1,y2]) rfl ⟨?_,?_⟩
    ·rw[HX.out]
     exact ⟨rfl,((c3.1.set bb (by decide) (by decide) _).set (bb.set 0 _) (by decide) (by decide) _).set ((bb.set 0 _).set 1 _) (by decide) (by decide) _⟩
    exact (((cf.out.trans c3.2).setCell (.inr a6.out) _).setCell (.inr a6.out) _).setCell (.inr a6.out) _
  all_goals
   have HX:Hid (R= .error (4,(ax q).at_)):=zx (by rw[←HV.out];unfold bi;rw[aA.out,a9.out,ha];rfl);have b4:=zx (fun W hW=>eQ (s:=tx) (fun n h=>by rw[ha] at h;cases h) b1 W hW);clear ha;go_wp2_with fail
   refine (b4.out _ (cx.out.quiet ((zN _ _).alloc _)).env).mono ?_;rintro ev w3 ⟨⟨n0,t0',ep,rfl⟩,J⟩;have b5:=zx ((ba.out.keep ((zN _ _).alloc (zU #[zW zX 2,zW zX 0,zQ ⟨#[]⟩] 27))).keep J);have cg:=zx ((ad.out.alloc (zU #[zW zX 2,zW zX 0,zQ ⟨#[]⟩] 27)).trans J.of_nil);clear J;go_wp2_with fail
   refine (bD 4 w3 b5.out).mono ?_;rintro ev w6 ⟨⟨gi,rfl,hb⟩,a3⟩;exact ⟨rfl,by rw[HX.out];exact ⟨gi,rfl,hb⟩,cg.out.trans a3.of_nil⟩
 have e2:(kd != 2)=true:=by rw[bne_iff_ne];exact b3
 have HX:Hid (R= .error (3,(ax q).at_)):=zx (by rw[←HV.out];unfold bi;rw[aA.out,e2];rfl);clear b3 b0 c8;go_wp2_with fail
 refine (bD 3 _ ba.out).mono ?_;rintro ev w6 ⟨⟨gi,rfl,hb⟩,a3⟩;exact ⟨rfl,by rw[HX.out];exact ⟨gi,rfl,hb⟩,ad.out.trans a3.of_nil⟩
theorem pR {l:List Tk} {b I:Nat} (w:World) (B:FB w I) (A:I≤b) (h:Ps w b l) :
  Calls zy 261 #[zS (some ⟨b,0,none⟩)] w fun e w'=>nP (di l) b e w'∧aa [b] w w':=by
 unfold di
 cases D:aG [45] l with
 | true=>exact rH w B A h D rfl
 | false=>exact rG w B A h D
def wG (a:Ar):Value:= .agg #[zQ (bs a.col),zW zX a.val.kind,zW zX a.val.num,zQ (bs a.val.word)]
def wW (R:Except (Int×Int) (Ar×List Tk)) (b:Nat) (e:Ending) (w':World):Prop:=match R with
 | .ok (a,r)=>e=zT (wG a)∧Ps w' b r
 | .error x=>bV x e w'
theorem kO {l:List Tk} {b lo:Nat} (w:World) (hE:FB w lo) (a4:lo≤b) (h:Ps w b l) :
  Calls zy 244 #[zS (some ⟨b,0,none⟩)] w fun e w'=>wW (bN l) b e w'∧aa [b] w w':=by
 obtain ⟨R,O⟩:∃ R,bN l=R:=⟨_,rfl⟩
 rw[O];have HN:Hid (∀ W,aa [] w W→∀ x,aj l= .error x→Calls zy 157 #[zS (some ⟨b,0,none⟩)] W fun e w'=>bV x e w'∧aa [b] W w'):=zx (fun W q x hx=>bU hx W (h.keep q));have HY:Hid (∀ W,aa [] w W→∀ s r,aj l= .ok (s,r)→Calls zy 157 #[zS (some ⟨b,0,none⟩)] W fun e w'=>e=zT (zQ (bs s))∧Ps w' b r∧aa [b] W w'):=zx (fun W q s r hx=>bv hx W (h.keep q));have HV:Hid (∀ W,aa [] w W→Calls zy 261 #[zS (some ⟨b,0,none⟩)] W fun e w'=>nP (di l) b e w'∧aa [b] W w'):=zx (fun W q=>pR W (hE.quiet q) a4 (h.keep q));have H:=zx h;obtain ⟨g,o,c,c0,z0,lb,lg,-,hn,hc,a2,k0,k1,k2,-⟩:=h.open';have a3:(0:Int)<(l.length:Int):=by omega
 have HM:=zx (zz w.heap.size);have a6:Hid (w.heap.size≠b):=zx (by omega);have HB:=zx (zO w 57 #[zQ ⟨#[]⟩,zW zX 0,zW zX 0,zQ ⟨#[]⟩]);have HK:=zx ((zN [] w).alloc (zU #[zQ ⟨#[]⟩,zW zX 0,zW zX 0,zQ ⟨#[]⟩] 57));have HP:=zx (h.keep HK.out);clear h hE;unfold bN at O;by_cases h1:(ax l).kind=1
 ·rw[if_pos h1] at O
  rw[h1] at k0;rcases hN:aj l with x|⟨s,r⟩
  ·rw[hN] at O
   have HX:Hid (R= .error x):=zx O.symm;have HC:=zx (HN.out _ HK.out x hN);clear O h1 hN;go_enter Tryz.func244,Tryz.ntmps244
   go_wp2_with fail
   refine HC.out.mono ?_;rintro ev U ⟨⟨gi,rfl,hb⟩,D⟩;exact ⟨rfl,by rw[HX.out];exact ⟨gi,rfl,hb⟩,HK.out.of_nil.trans D⟩
  rw[hN] at O;have HX:Hid (R= .ok (⟨s,zV⟩,r)):=zx O.symm;have HC:=zx (HY.out _ HK.out s r hN);clear O h1 hN;go_enter Tryz.func244,Tryz.ntmps244
  go_wp2_with fail
  refine HC.out.mono ?_;rintro ev U ⟨rfl,Z,D⟩;have A:=bW HP.out D HB.out (by decide);obtain ⟨M,hM⟩:∃ M,w.heap.size=M:=⟨_,rfl⟩
  rw[hM] at A ⊢;have I:Hid (w.heap.size≤M):=zx (by omega);have B:=zx A;have ad:=zx Z;have a0:=zx (HK.out.of_nil.trans D);have f0:=A.frozen 0;have f1:=A.frozen 1;have f2:=A.frozen 2;have f3:=A.frozen 3;have r0:U.cell? ⟨M,0,none⟩=some (zQ ⟨#[]⟩):=A.cell 0;have r1:U.cell? ⟨M,1,none⟩=some (zW zX 0):=A.cell 1;have r2:U.cell? ⟨M,2,none⟩=some (zW zX 0):=A.cell 2;have r3:U.cell? ⟨M,3,none⟩=some (zQ ⟨#[]⟩):=A.cell 3;have lr:=A.lt;clear A Z D hM c0 z0 lb lg hn hc a2 k0 k1 k2 a3;go_wp2;have J:=(((B.out.set 0 (zQ (bs s))).set 1 (zW zX 0)).set 2 (zW zX 0)).set 3 (zQ ⟨#[]⟩);have y0:=J.cell 0;have y1:=J.cell 1;have y2:=J.cell 2;have y3:=J.cell 3;refine bodyPost_ret (v:= .agg #[zQ (bs s),zW zX 0,zW zX 0,zQ ⟨#[]⟩]) (by simp[results,Tryz.results244,go_sem,y0,y1,y2,y3]) rfl ⟨?_,?_⟩
  ·rw[HX.out]
   exact ⟨rfl,(((ad.out.set B.out (by decide) (by decide) _).set (B.out.set 0 _) (by decide) (by decide) _).set ((B.out.set 0 _).set 1 _) (by decide) (by decide) _).set (((B.out.set 0 _).set 1 _).set 2 _) (by decide) (by decide) _⟩
  exact (((a0.out.setCell (.inr I.out) _).setCell (.inr I.out) _).setCell (.inr I.out) _).setCell (.inr I.out) _
 rw[if_neg h1] at O;have a7:((ax l).kind==1)=false:=by rw[beq_eq_false_iff_ne];exact h1
 have HC:=HV.out _ HK.out;rcases hN:di l with x|⟨v,r⟩
 ·rw[hN] at O HC
  have HX:Hid (R= .error x):=zx O.symm;have aA:=zx HC;clear O h1 hN HC;go_enter Tryz.func244,Tryz.ntmps244
  go_wp2_with fail
  refine aA.out.mono ?_;rintro ev U ⟨⟨gi,rfl,hb⟩,D⟩;exact ⟨rfl,by rw[HX.out];exact ⟨gi,rfl,hb⟩,HK.out.of_nil.trans D⟩
 rw[hN] at O HC;obtain ⟨kd,nm,wd⟩:=v;have HX:Hid (R= .ok (⟨[],⟨kd,nm,wd⟩⟩,r)):=zx O.symm;have aA:=zx HC;clear O h1 hN HC;go_enter Tryz.func244,Tryz.ntmps244
 go_wp2_with fail
 refine aA.out.mono ?_;rintro ev U ⟨⟨a1,Z⟩,D⟩;have a5:ev=zT (.agg #[zW zX kd,zW zX nm,zQ (bs wd)]):=a1;subst a5;clear a1;have A:=bW HP.out D HB.out (by decide);obtain ⟨M,hM⟩:∃ M,w.heap.size=M:=⟨_,rfl⟩
 rw[hM] at A ⊢;have I:Hid (w.heap.size≤M):=zx (by omega);have B:=zx A;have ad:=zx Z;have a0:=zx (HK.out.of_nil.trans D);have f0:=A.frozen 0;have f1:=A.frozen 1;have f2:=A.frozen 2;have f3:=A.frozen 3;have r0:U.cell? ⟨M,0,none⟩=some (zQ ⟨#[]⟩):=A.cell 0;have r1:U.cell? ⟨M,1,none⟩=some (zW zX 0):=A.cell 1;have r2:U.cell? ⟨M,2,none⟩=some (zW zX 0):=A.cell 2;have r3:U.cell? ⟨M,3,none⟩=some (zQ ⟨#[]⟩):=A.cell 3;have lr:=A.lt;clear A Z D hM c0 z0 lb lg hn hc a2 k0 k1 k2 a3;go_wp2;have J:=(((B.out.set 0 (zQ ⟨#[]⟩)).set 1 (zW zX kd)).set 2 (zW zX nm)).set 3 (zQ (bs wd));have y0:=J.cell 0;have y1:=J.cell 1;have y2:=J.cell 2;have y3:=J.cell 3;refine bodyPost_ret (v:= .agg #[zQ ⟨#[]⟩,zW zX kd,zW zX nm,zQ (bs wd)]) (by simp[results,Tryz.results244,go_sem,y0,y1,y2,y3]) rfl ⟨?_,?_⟩
 ·rw[HX.out]
  exact ⟨rfl,(((ad.out.set B.out (by decide) (by decide) _).set (B.out.set 0 _) (by decide) (by decide) _).set ((B.out.set 0 _).set 1 _) (by decide) (by decide) _).set (((B.out.set 0 _).set 1 _).set 2 _) (by decide) (by decide) _⟩
 exact (((a0.out.setCell (.inr I.out) _).setCell (.inr I.out) _).setCell (.inr I.out) _).setCell (.inr I.out) _
theorem yt:(Tryz.prog.info? 109).map (fun i=>(i.zero,i.size,i.bytes))=some (some (.agg #[zQ ⟨#[]⟩,zW zX 0]),2,24):=by kernel_rfl
def wH (R:Except (Int×Int) (In×List Tk)) (b h:Nat) (e:Ending) (w':World):Prop:=match R with
 | .ok (x,r)=>∃ v,e=zT (.agg #[zW zX x.at_,zQ (bs x.name),v])∧w'.ownsRow h 109 2 v x.cols.length (ah x.cols)∧Ps w' b r
 | .error x=>bV x e w'
theorem aD {α β:Type} (x:Int×Int) (f:α→Except (Int×Int) β):((Except.error x:Except (Int×Int) α) >>= f)= .error x:=rfl
theorem au {α β:Type} (a:α) (f:α→Except (Int×Int) β):((Except.ok a:Except (Int×Int) α) >>= f)=f a:=rfl
theorem nQ {W:World} {g b:Nat} (l:List Bs) (h:ap W g 9 (strs l).toArray) (B:g≠b):Rd W [b] 1 (some ⟨g,0,none⟩) l.length (strs l) :=
 ⟨by rw[jR,Nat.mul_one],fun _=>⟨_,rfl,by simpa using B,h.lt,fun j u A=>by rw[dU,Nat.zero_add,h.cell];simpa using A⟩⟩
theorem dP (n:Nat) (l:List Tk) (h:List Cl):b8 (n+1) l h=(aj l >>= fun p=>bC [[105,110,116],[116,101,120,116]] p.2 >>= fun k=>if aG [44] k.2 then b8 n k.2.tail (h++[⟨p.1,if k.1=[116,101,120,116] then 2 else 1⟩]) else .ok (h++[⟨p.1,if k.1=[116,101,120,116] then 2 else 1⟩],k.2)):=by
 conv=>lhs;unfold b8 pM
 rcases aj l with x|⟨s,r⟩
 ·rfl
 rw[au,au];simp only;rcases bC [[105,110,116],[116,101,120,116]] r with x|⟨k,A⟩<;>rfl
theorem gP (h:List Cl) (s:Bs) (k:Int):ah (h++[⟨s,k⟩])=ah h++[zQ (bs s),zW zX k]:=by simp[ah,fG]
theorem aH {l r:List Tk} {s:Bs} (h:aj l= .ok (s,r)):r.length=l.length-1:=by
 obtain ⟨_,_,_,e⟩:=gN h;rw[e,zL]
theorem aL {l r:List Tk} {s:Bs} (h:aq s l= .ok r):r.length=l.length-1:=by
 obtain ⟨_,e⟩:=kK h;rw[e,zL]
theorem dZ {l r:List Tk} {s:Bs} {ms:List Bs} (h:bC ms l= .ok (s,r)):r.length=l.length-1:=by
 obtain ⟨_,_,_,_,_,e⟩:=iZ h;rw[e,zL]
theorem mP {l:List Tk} {b:Nat} (w:World) (h:Ps w b l) (fv:l.length≤1000000) :
  Calls zy 154 #[zS (some ⟨b,0,none⟩)] w fun e w'=>wH (bc l) b w.heap.size e w'∧aa [b] w w':=by
 obtain ⟨i0,hi,fb,f5,fn⟩:=info_parts yt;have HL:=zx fv;obtain ⟨R,hR⟩:∃ R,bc l=R:=⟨_,rfl⟩
 rw[hR];unfold bc at hR;obtain ⟨at_,es⟩:∃ at_,(ax l).at_=at_:=⟨_,rfl⟩
 rw[es] at hR;have HR:=zx hR;have H:=zx h;obtain ⟨g,o,c,c0,z0,lb,lg,-,hn,hc,gm,k0,k1,k2,-⟩:=h.open';rw[es] at k2;have g6:(0:Int)<(l.length:Int):=by omega
 have HW:=zx (gh w (zU #[zW zX 0,zQ ⟨#[]⟩,zR none 0 0] 173));have a8:=zx ((zO w 173 #[zW zX 0,zQ ⟨#[]⟩,zR none 0 0]).alloc (zU #[zW zX at_,zQ ⟨#[]⟩,zR none 0 0] 173));have en:=zO (w.alloc (zU #[zW zX 0,zQ ⟨#[]⟩,zR none 0 0] 173)) 173 #[zW zX at_,zQ ⟨#[]⟩,zR none 0 0];rw[gh] at en;have bb:=zx en;have cx:=zx (((zN [] w).alloc (zU #[zW zX 0,zQ ⟨#[]⟩,zR none 0 0] 173)).alloc (zU #[zW zX at_,zQ ⟨#[]⟩,zR none 0 0] 173));have fz:Hid (w.heap.size≠b):=zx (by omega);have dq:Hid (w.heap.size≤w.heap.size+1):=zx (by omega);have b4:=zx (h.keep cx.out);clear h hR es en fv;go_enter Tryz.func154,Tryz.ntmps154
 go_upto_region 2 with (fail)
 obtain ⟨w0,ft⟩:∃ x,(w.alloc (zU #[zW zX 0,zQ ⟨#[]⟩,zR none 0 0] 173)).alloc (zU #[zW zX at_,zQ ⟨#[]⟩,zR none 0 0] 173)=x:=⟨_,rfl⟩
 rw[ft] at a8 bb cx b4 ⊢;clear ft HW c0 z0 lb lg hn hc gm k0 k1 k2 g6;obtain ⟨xb,hx⟩:∃ xb,w.heap.size+1=xb:=⟨_,rfl⟩
 rw[hx] at bb dq ⊢;obtain ⟨rb,hr⟩:∃ rb,w.heap.size=rb:=⟨_,rfl⟩
 rw[hr] at a8 fz ⊢;have b3:Hid (rb≠xb∧w.heap.size≤rb):=zx (by omega);clear hx hr;rcases h1:aq [105,110] l with x|r1
 ·have HX:Hid (R= .error x):=zx (by rw[←HR.out,h1];rfl)
  have HC:=zx (cE h1 w0 b4.out);clear h1;go_wp2_with fail
  refine HC.out.mono ?_;rintro ev w9 ⟨⟨gi,rfl,hb⟩,a4⟩;exact ⟨rfl,by rw[HX.out];exact ⟨gi,rfl,hb⟩,cx.out.of_nil.trans a4⟩
 have eb:Hid ((do let (nm,r) ← aj r1;let r ← aq [58] r;let (cs,r) ← b8 r.length r [];let r ← aq [59] r;.ok (⟨at_,nm,cs⟩,r))=R):=zx (by rw[←HR.out,h1];rfl);have HC:=zx (aX h1 w0 b4.out);have e9:=aL h1;have gs:=zx e9;clear h1 HR e9;go_wp2_with fail
 refine HC.out.mono ?_;rintro ev w1 ⟨rfl,er,c9⟩;have c3:=zx er;have dv:=zx (bW b4.out c9 a8.out (by decide));have d4:=zx (bW b4.out c9 bb.out (by decide));have d6:=zx (cx.out.of_nil.trans c9);clear er c9 HC b4 a8 bb cx;rcases h2:aj r1 with x|⟨nm,r2⟩
 ·have HX:Hid (R= .error x):=zx (by rw[←eb.out,h2];rfl)
  have HC:=zx (bU h2 w1 c3.out);clear h2;go_wp2_with fail
  refine HC.out.mono ?_;rintro ev w9 ⟨⟨gi,rfl,hb⟩,a4⟩;exact ⟨rfl,by rw[HX.out];exact ⟨gi,rfl,hb⟩,d6.out.trans a4⟩
 have d8:Hid ((do let r ← aq [58] r2;let (cs,r) ← b8 r.length r [];let r ← aq [59] r;.ok (⟨at_,nm,cs⟩,r))=R):=zx (by rw[←eb.out,h2];rfl);have HC:=zx (bv h2 w1 c3.out);have g0:=zx (aH h2);clear h2 eb;go_wp2_with fail
 refine HC.out.mono ?_;rintro ev w2 ⟨rfl,b0,aA⟩;have HP2':=zx b0;have HRB2':=zx (bW c3.out aA dv.out (by decide));have HXB2':=zx (bW c3.out aA d4.out (by decide));have HK2':=zx (d6.out.trans aA);clear b0 aA HC c3 dv d4 d6;have e0:w2.cell? ⟨xb,1,none⟩=some (zQ ⟨#[]⟩):=HXB2'.out.cell 1;have e1:=HXB2'.out.frozen 1;have e2:=HXB2'.out.lt;go_upto_region 4 with (fail)
 have b5:=zx (HP2'.out.set (i:=1) HXB2'.out (by decide) (by decide) (zQ (bs nm)));have c1:=zx (HRB2'.out.far (p:=⟨xb,1,none⟩) b3.out.1 (zQ (bs nm)));have co:=zx ((HXB2'.out.set 1 (zQ (bs nm))).congr (cs':= #[zW zX at_,zQ (bs nm),zR none 0 0]) rfl);have c8:=zx (HK2'.out.setCell (p:=⟨xb,1,none⟩) (.inr dq.out) (zQ (bs nm)));obtain ⟨w3,fg⟩:∃ x,w2.setCell ⟨xb,1,none⟩ (zQ (bs nm))=x:=⟨_,rfl⟩
 rw[fg] at b5 c1 co c8 ⊢;clear fg HP2' HRB2' HXB2' HK2' e0 e1 e2;rcases h3:aq [58] r2 with x|r3
 ·have HX:Hid (R= .error x):=zx (by rw[←d8.out,h3];rfl)
  have HC:=zx (cE h3 w3 b5.out);clear h3;go_wp2_with fail
  refine HC.out.mono ?_;rintro ev w9 ⟨⟨gi,rfl,hb⟩,a4⟩;exact ⟨rfl,by rw[HX.out];exact ⟨gi,rfl,hb⟩,c8.out.trans a4⟩
 obtain ⟨S,hS⟩:∃ S,b8 r3.length r3 []=S:=⟨_,rfl⟩
 have c7:Hid ((S >>= fun p=>(aq [59] p.2 >>= fun r=> .ok (⟨at_,nm,p.1⟩,r)))=R):=zx (by rw[←d8.out,h3,au,hS]);have HS:=zx hS;have HC:=zx (aX h3 w3 b5.out);have g5:=zx (aL h3);have ch:r3.length≤l.length:=by have:=gs.out;have:=g0.out;have:=g5.out;omega
 clear h3 d8 hS;go_wp2_with fail
 refine HC.out.mono ?_;rintro ev w4 ⟨rfl,e5,ds⟩;have fc:=zx e5;have dB:=zx (bW b5.out ds c1.out (by decide));have d1:=zx (bW b5.out ds co.out (by decide));have f3:=zx (c8.out.trans ds);clear e5 ds HC b5 c1 co c8;go_wp2_with fail
 go_loopw [4] (fun m wr=>∃ (mb:Bool) (B:List Cl) (q:List Tk) (n:Nat) (v:Value),m= .bool mb∧Hid (mb=true→b8 n q B=S∧q.length≤n)∧Hid (mb=false→S= .ok (B,q))∧B.length+q.length≤l.length∧Hid (Ps wr b q)∧Hid (ap wr xb 173 #[zW zX at_,zQ (bs nm),v])∧Hid (ap wr rb 173 #[zW zX 0,zQ ⟨#[]⟩,zR none 0 0])∧Hid (wr.ownsRow w.heap.size 109 2 v B.length (ah B))∧Hid (aa [b] w wr)) (fun _ wr=>fw b wr)
 case atStart=>exact ⟨true,[],r3,r3.length,_,rfl,zx (fun _=>⟨HS.out,zz _⟩),zx (fun h=>by cases h),by simpa using ch,fc,d1,dB,zx (World.ownsRow_nil _ _ _ _),f3⟩
 clear fc d1 dB f3 ch HS;obtain ⟨mb,B,q,n,v,rfl,HG,HF,he,HP,bb,a8,HO,HK⟩:=hrel;obtain ⟨A,cv,rfl,-⟩:=ao HO.out;have HM:=zx HP.out.left
 cases mb with
 | false =>
  have cf:=zx (HF.out rfl);clear HF HG;rcases h7:aq [59] q with x|r7
  ·have HX:Hid (R= .error x):=zx (by rw[←c7.out,cf.out,au,h7];rfl)
   have HC:=zx (cE h7 wr HP.out);clear h7;go_wp2_with fail
   refine HC.out.mono ?_;rintro ev w9 ⟨⟨gi,rfl,hb⟩,a4⟩;exact ⟨rfl,by rw[HX.out];exact ⟨gi,rfl,hb⟩,HK.out.trans a4⟩
  have HX:Hid (R= .ok (⟨at_,nm,B⟩,r7)):=zx (by rw[←c7.out,cf.out,au,h7];rfl);have HC:=zx (aX h7 wr HP.out);clear h7;go_wp2_with fail
  refine HC.out.mono ?_;rintro ev Z ⟨rfl,hp,hk⟩;have cq:=bW HP.out hk bb.out (by decide);have a9:=bW HP.out hk a8.out (by decide);have a6:=zx (fF HO.out HP.out hk (by decide));have ba:=zx (HK.out.trans hk);have a0:=zx hp;have ez:=zx a9;have x0:Z.cell? ⟨xb,0,none⟩=some (zW zX at_):=cq.cell 0;have x1:Z.cell? ⟨xb,1,none⟩=some (zQ (bs nm)):=cq.cell 1;have x2:Z.cell? ⟨xb,2,none⟩=some (zR A B.length cv):=cq.cell 2;have lx:=cq.lt;have y0:Z.cell? ⟨rb,0,none⟩=some (zW zX 0):=a9.cell 0;have y1:Z.cell? ⟨rb,1,none⟩=some (zQ ⟨#[]⟩):=a9.cell 1;have y2:Z.cell? ⟨rb,2,none⟩=some (zR none 0 0):=a9.cell 2;have f0:=a9.frozen 0;have f1:=a9.frozen 1;have f2:=a9.frozen 2;have lr:=a9.lt;clear hp hk cq a9 HC;go_wp2;have et:=((ez.out.set 0 (zW zX at_)).set 1 (zQ (bs nm))).set 2 (zR A B.length cv);have z0:=et.cell 0;have z1:=et.cell 1;have z2:=et.cell 2;refine bodyPost_ret (v:= .agg #[zW zX at_,zQ (bs nm),zR A B.length cv]) (by simp[results,Tryz.results154,go_sem,z0,z1,z2]) rfl ⟨?_,?_⟩
  ·rw[HX.out]
   have c6:aa [rb] Z (((Z.setCell ⟨rb,0,none⟩ (zW zX at_)).setCell ⟨rb,1,none⟩ (zQ (bs nm))).setCell ⟨rb,2,none⟩ (zR A B.length cv)):=(((zN [rb] Z).setCell (.inl (by simp)) _).setCell (.inl (by simp)) _).setCell (.inl (by simp)) _;exact ⟨_,rfl,bh a6.out c6 (fun g hg hm=>by rw[zD.1 hm] at hg;exact (av a6.out rb hg).ne ez.out.ty (by decide) rfl),a0.out.far c6 (fun x hx=>⟨173,by rw[zD.1 hx];exact ez.out.ty,by decide,by decide⟩)⟩
  exact ((ba.out.setCell (.inr b3.out.2) _).setCell (.inr b3.out.2) _).setCell (.inr b3.out.2) _
 | true =>
  obtain ⟨f7,hh⟩:=HG.out rfl;have hj:=HP.out.endT.pos;obtain ⟨n,rfl⟩:∃ m,n=m+1:=⟨n-1,by omega⟩
  have d7:=zx f7;clear f7 HG HF;rcases h5:aj q with x|⟨s,q1⟩
  ·have HX:Hid (R= .error x):=zx (by rw[←c7.out,←d7.out,dP,h5];rfl)
   have HC:=zx (bU h5 wr HP.out);clear h5;go_wp2_with fail
   refine HC.out.mono ?_;rintro ev w9 ⟨⟨gi,rfl,hb⟩,a4⟩;exact ⟨rfl,by rw[HX.out];exact ⟨gi,rfl,hb⟩,HK.out.trans a4⟩
  have cu:Hid ((bC [[105,110,116],[116,101,120,116]] q1 >>= fun p=>(if aG [44] p.2 then b8 n p.2.tail (B++[⟨s,if p.1=[116,101,120,116] then 2 else 1⟩]) else .ok (B++[⟨s,if p.1=[116,101,120,116] then 2 else 1⟩],p.2)))=S):=zx (by
   rw[←d7.out,dP,h5];rfl)
  have HC:=zx (bv h5 wr HP.out);have g2:=zx (aH h5);clear h5 d7;go_wp2_with fail
  refine HC.out.mono ?_;rintro ev w2 ⟨rfl,b0,aA⟩;have bj:=zx ((b0.keep ((zN _ _).alloc (zU #[zQ (bs s),zW zX 1] 109))).keep ((zN _ _).alloc (zU #[zQ (bs [105,110,116]),zQ (bs [116,101,120,116])] 9)));have ep:=zx (((HK.out.trans aA).alloc (zU #[zQ (bs s),zW zX 1] 109)).alloc (zU #[zQ (bs [105,110,116]),zQ (bs [116,101,120,116])] 9));have d3:=zx (((bW HP.out aA bb.out (by decide)).alloc (zU #[zQ (bs s),zW zX 1] 109)).alloc (zU #[zQ (bs [105,110,116]),zQ (bs [116,101,120,116])] 9));have d2:=zx (((bW HP.out aA a8.out (by decide)).alloc (zU #[zQ (bs s),zW zX 1] 109)).alloc (zU #[zQ (bs [105,110,116]),zQ (bs [116,101,120,116])] 9));have f6:=zx (((fF HO.out HP.out aA (by decide)).alloc (zU #[zQ (bs s),zW zX 1] 109)).alloc (zU #[zQ (bs [105,110,116]),zQ (bs [116,101,120,116])] 9));have d0:=zx ((zO w2 109 #[zQ (bs s),zW zX 1]).alloc (zU #[zQ (bs [105,110,116]),zQ (bs [116,101,120,116])] 9));have em:=zO (w2.alloc (zU #[zQ (bs s),zW zX 1] 109)) 9 #[zQ (bs [105,110,116]),zQ (bs [116,101,120,116])];rw[gh] at em;have ff:Rd ((w2.alloc (zU #[zQ (bs s),zW zX 1] 109)).alloc (zU #[zQ (bs [105,110,116]),zQ (bs [116,101,120,116])] 9)) [b] 1 (some ⟨w2.heap.size+1,0,none⟩) 2 (strs [[105,110,116],[116,101,120,116]]):=nQ [[105,110,116],[116,101,120,116]] em (by have:=b0.lt;omega);have d9:=zx ff;have g3:Hid (w.heap.size≤w2.heap.size):=zx (HK.out.trans aA).size;have e4:Hid (xb≠w2.heap.size∧rb≠w2.heap.size):=zx ⟨by have:=bb.out.lt;have:=aA.size;omega,by have:=a8.out.lt;have:=aA.size;omega⟩;have gl:Hid (b<w2.heap.size):=zx b0.lt;have gk:Hid ((Value.slice A B.length cv).ownBlock≠some w2.heap.size):=zx (fun e=>by have:=(HO.out.lt _ e).2;have:=aA.size;omega);clear b0 aA em ff HC HP bb a8 HO HK;go_wp2_with fail
  rcases h6:bC [[105,110,116],[116,101,120,116]] q1 with x|⟨k,q2⟩
  ·have HX:Hid (R= .error x):=zx (by rw[←c7.out,←cu.out,h6];rfl)
   have HC:=zx (nM h6 (some ⟨w2.heap.size+1,0,none⟩) 2 _ bj.out d9.out (by decide));clear h6;refine HC.out.mono ?_;rintro ev w9 ⟨⟨gi,rfl,hb⟩,a4⟩;exact ⟨rfl,by rw[HX.out];exact ⟨gi,rfl,hb⟩,ep.out.trans a4⟩
  have HC:=zx (ky h6 (some ⟨w2.heap.size+1,0,none⟩) 2 _ bj.out d9.out (by decide));have c6:k=[105,110,116]∨k=[116,101,120,116]:=by
   obtain ⟨i,_,gb,e,_⟩:=iZ h6;rw[e]
   match i,gb with
   | 0,_=>exact .inl rfl
   | 1,_=>exact .inr rfl
  have b1:Hid ((if aG [44] q2 then b8 n q2.tail (B++[⟨s,if k=[116,101,120,116] then 2 else 1⟩]) else .ok (B++[⟨s,if k=[116,101,120,116] then 2 else 1⟩],q2))=S):=zx (by rw[←cu.out,h6];rfl);have g4:=dZ h6;have a7:Hid (q2.length+2≤q.length):=zx (by
   have h5':=g2.out;have er:=bj.out.endT.pos;omega)
  clear h6 g4 cu;generalize fu:w2.heap.size=cb at *;have hf:=zx fu;clear fu;refine HC.out.mono ?_;rintro ev w5 ⟨rfl,fS,b6⟩;have HP5':=zx fS;have HK5':=zx (ep.out.trans b6);have HXB5':=zx (bW bj.out b6 d3.out (by decide));have HRB5':=zx (bW bj.out b6 d2.out (by decide));have HCB5':=zx (bW bj.out b6 d0.out (by decide));have HO5':=zx (fF f6.out bj.out b6 (by decide));clear fS b6 HC bj ep d3 d2 f6 d0 d9;rcases c6 with rfl|rfl
  ·have bk:Hid ((if aG [44] q2 then b8 n q2.tail (B++[⟨s,1⟩]) else .ok (B++[⟨s,1⟩],q2))=S):=zx b1.out
   clear b1;go_upto_region 12 with (fail)
   have b7:=HP5';have bl:=HK5';have I:=HXB5';have a1:=HRB5';have U:=HCB5';have ad:=HO5';clear HP5' HK5' HXB5' HRB5' HCB5' HO5';have cj:=zx (show B.length+1≤maxLen∧(B.length+1)*24≤140737488355328 by have:=HL.out;simp only[maxLen];omega);have el:=I.out.frozen 2;have x2:w5.cell? ⟨xb,2,none⟩=some (zR A B.length cv):=I.out.cell 2;have lx:=I.out.lt;have q0:w5.cell? ⟨cb,0,none⟩=some (zQ (bs s)):=U.out.cell 0;have q1:w5.cell? ⟨cb,1,none⟩=some (zW zX 1):=U.out.cell 1;have lc:=U.out.lt;have ek:=zx (show w.heap.size≤w5.heap.size+1 from Nat.le_succ_of_le bl.out.size);go_wp2_with (at_builtin;refine wpList_append_lies _ rfl _ _ 22 rfl _ 109 i0 _ 2 24 Tryz.underlying22 hi fb f5 fn rfl (by decide) _ B.length (ah B) rfl (ad.out.alloc _) ⟨w5.heap.size,0,none⟩ 1 1 [zQ (bs s),zW zX 1] rfl rfl (zJ (heap_alloc_new _ _)) (by simp[Value.oneCell']) (by decide) cj.out.1 cj.out.2 (by simp;exact ek.out) _ rfl ?_)
   intro gw c2 w8 J D cp c4;have cg:=(b7.out.keep ((zN _ _).alloc (zU #[zQ (bs s),zW zX 1] 109))).grown D (fun x hx=>(av ad.out x hx).keep ((zN [] _).alloc _) (by simp)) (by decide) (by decide);have M:ap w8 xb 173 #[zW zX at_,zQ (bs nm),zR A B.length cv]:=(D.block xb ((I.out.alloc _).lt) (fun e=>(av ad.out xb e.symm).ne I.out.ty (by decide) rfl)).trans (I.out.alloc _);have bd:ap w8 rb 173 #[zW zX 0,zQ ⟨#[]⟩,zR none 0 0]:=(D.block rb ((a1.out.alloc _).lt) (fun e=>(av ad.out rb e.symm).ne a1.out.ty (by decide) rfl)).trans (a1.out.alloc _);have ct:=(bl.out.alloc (zU #[zQ (bs s),zW zX 1] 109)).grown D (fun g hg=> .inr (ad.out.lt g hg).1);rw[←gP] at J;have ga:=M.frozen 2;have x8:w8.cell? ⟨xb,2,none⟩=some (zR A B.length cv):=M.cell 2;have g1:=M.lt;obtain ⟨u,hu⟩:∃ u,Value.slice (some ⟨gw,0,none⟩) (B.length+1) c2=u:=⟨_,rfl⟩
   have O:=zx (cg.set (i:=2) M (by decide) (by decide) u);have a5:=zx ((M.set 2 u).congr (cs':= #[zW zX at_,zQ (bs nm),u]) rfl);have bn:Hid ((w8.setCell ⟨xb,2,none⟩ u).ownsRow w.heap.size 109 2 u (B++[(⟨s,1⟩:Cl)]).length (ah (B++[(⟨s,1⟩:Cl)]))):=zx (by
    rw[zF];rw[hu] at J;exact bh J (L:=[xb]) (aa.setCell (zN _ _) (.inl (by simp)) _) (fun g hg hm=>by
     rw[zD.1 hm] at hg;exact (av J xb hg).ne M.ty (by decide) rfl))
   have bB:=zx (ct.setCell (p:=⟨xb,2,none⟩) (.inr dq.out) u);have a2:=zx (bd.far (p:=⟨xb,2,none⟩) b3.out.1 u);obtain ⟨w9,bm⟩:∃ x,w8.setCell ⟨xb,2,none⟩ u=x:=⟨_,rfl⟩
   rw[bm] at O a5 bn bB a2;have d5:=zx bm;have HU:=zx hu;clear J D cp c4 cg ct q0 q1 lc x2 el lx hu bm bd;clear b7 ad U I bl;go_upto_region 7 with (fail)
   rw[HU.out,d5.out];have HT:=ey [44] w9 O.out
   cases hs:aG [44] q2 with
   | false =>
    rw[hs] at HT;have a3:=zx HT;have cf:Hid (S= .ok (B++[⟨s,1⟩],q2)):=zx (by rw[←bk.out,hs];rfl);clear HT hs;go_wp2_with fail
    refine a3.out.mono ?_;rintro ev Z ⟨rfl,hp,hk⟩;have a0:Hid (Ps Z b q2):=zx hp;have bA:=zx (bW O.out hk a5.out (by decide));have bo:=zx (bW O.out hk a2.out (by decide));have a6:=zx (fF bn.out O.out hk (by decide));have ba:=zx (bB.out.trans hk);clear hp hk a3;go_wp2;go_roundw
    case rel=>exact ⟨false,B++[⟨s,1⟩],q2,0,u,rfl,zx (fun h=>by cases h),zx (fun _=>cf.out),by have:=a7.out;simp;omega,a0,bA,bo,a6,ba⟩
    case measure=>have:=a7.out;rw[a0.out.left,HM.out];omega
   | true =>
    rw[hs,if_pos rfl] at HT;have a3:=zx HT;have ci:q2.tail.length=q2.length-1:=zL;have bq:=zx ci;have c5:Hid (b8 n q2.tail (B++[⟨s,1⟩])=S):=zx (by rw[←bk.out,hs];rfl);clear HT hs ci;go_wp2_with fail
    refine a3.out.mono ?_;rintro ev Z ⟨rfl,hp,hk⟩;have a0:=zx hp;have bA:=zx (bW O.out hk a5.out (by decide));have bo:=zx (bW O.out hk a2.out (by decide));have a6:=zx (fF bn.out O.out hk (by decide));have ba:=zx (bB.out.trans hk);clear hp hk a3;go_wp2;go_roundw
    case rel=>exact ⟨true,B++[⟨s,1⟩],q2.tail,n,u,rfl,zx (fun _=>⟨c5.out,by have:=a7.out;have:=bq.out;omega⟩),zx (fun h=>by cases h),by have:=a7.out;have:=bq.out;simp;omega,a0,bA,bo,a6,ba⟩
    case measure=>have:=a7.out;have:=bq.out;rw[a0.out.left,HM.out];omega
  have bk:Hid ((if aG [44] q2 then b8 n q2.tail (B++[⟨s,2⟩]) else .ok (B++[⟨s,2⟩],q2))=S):=zx b1.out;clear b1;have gj:w5.cell? ⟨cb,1,none⟩=some (zW zX 1):=HCB5'.out.cell 1;have ha:=HCB5'.out.frozen 1;have g7:=HCB5'.out.lt;go_upto_region 12 with (fail)
  have b7:=zx (HP5'.out.setNew (i:=1) gl.out (zW zX 2));have bl:=zx (HK5'.out.setCell (p:=⟨cb,1,none⟩) (.inr g3.out) (zW zX 2));have I:=zx (HXB5'.out.far (p:=⟨cb,1,none⟩) e4.out.1 (zW zX 2));have a1:=zx (HRB5'.out.far (p:=⟨cb,1,none⟩) e4.out.2 (zW zX 2));have U:=zx ((HCB5'.out.set 1 (zW zX 2)).congr (cs':= #[zQ (bs s),zW zX 2]) rfl);have ad:Hid ((w5.setCell ⟨cb,1,none⟩ (zW zX 2)).ownsRow w.heap.size 109 2 (zR A B.length cv) B.length (ah B)):=zx (bh HO5'.out (L:=[cb]) (aa.setCell (zN _ _) (.inl (by simp)) _) (fun g hg hm=>gk.out (by rw[←zD.1 hm];exact hg)));obtain ⟨w6,e3⟩:∃ x,w5.setCell ⟨cb,1,none⟩ (zW zX 2)=x:=⟨_,rfl⟩
  rw[e3] at b7 bl I a1 U ad ⊢;clear e3 gj ha g7 HP5' HK5' HXB5' HRB5' HCB5' HO5';have cj:=zx (show B.length+1≤maxLen∧(B.length+1)*24≤140737488355328 by have:=HL.out;simp only[maxLen];omega);have el:=I.out.frozen 2;have x2:w6.cell? ⟨xb,2,none⟩=some (zR A B.length cv):=I.out.cell 2;have lx:=I.out.lt;have q0:w6.cell? ⟨cb,0,none⟩=some (zQ (bs s)):=U.out.cell 0;have q1:w6.cell? ⟨cb,1,none⟩=some (zW zX 2):=U.out.cell 1;have lc:=U.out.lt;have ek:=zx (show w.heap.size≤w6.heap.size+1 from Nat.le_succ_of_le bl.out.size);go_wp2_with (at_builtin;refine wpList_append_lies _ rfl _ _ 22 rfl _ 109 i0 _ 2 24 Tryz.underlying22 hi fb f5 fn rfl (by decide) _ B.length (ah B) rfl (ad.out.alloc _) ⟨w6.heap.size,0,none⟩ 1 1 [zQ (bs s),zW zX 2] rfl rfl (zJ (heap_alloc_new _ _)) (by simp[Value.oneCell']) (by decide) cj.out.1 cj.out.2 (by simp;exact ek.out) _ rfl ?_)
  intro gw c2 w8 J D cp c4;have cg:=(b7.out.keep ((zN _ _).alloc (zU #[zQ (bs s),zW zX 2] 109))).grown D (fun x hx=>(av ad.out x hx).keep ((zN [] _).alloc _) (by simp)) (by decide) (by decide);have M:ap w8 xb 173 #[zW zX at_,zQ (bs nm),zR A B.length cv]:=(D.block xb ((I.out.alloc _).lt) (fun e=>(av ad.out xb e.symm).ne I.out.ty (by decide) rfl)).trans (I.out.alloc _);have bd:ap w8 rb 173 #[zW zX 0,zQ ⟨#[]⟩,zR none 0 0]:=(D.block rb ((a1.out.alloc _).lt) (fun e=>(av ad.out rb e.symm).ne a1.out.ty (by decide) rfl)).trans (a1.out.alloc _);have ct:=(bl.out.alloc (zU #[zQ (bs s),zW zX 2] 109)).grown D (fun g hg=> .inr (ad.out.lt g hg).1);rw[←gP] at J;have ga:=M.frozen 2;have x8:w8.cell? ⟨xb,2,none⟩=some (zR A B.length cv):=M.cell 2;have g1:=M.lt;obtain ⟨u,hu⟩:∃ u,Value.slice (some ⟨gw,0,none⟩) (B.length+1) c2=u:=⟨_,rfl⟩
  have O:=zx (cg.set (i:=2) M (by decide) (by decide) u);have a5:=zx ((M.set 2 u).congr (cs':= #[zW zX at_,zQ (bs nm),u]) rfl);have bn:Hid ((w8.setCell ⟨xb,2,none⟩ u).ownsRow w.heap.size 109 2 u (B++[(⟨s,2⟩:Cl)]).length (ah (B++[(⟨s,2⟩:Cl)]))):=zx (by
   rw[zF];rw[hu] at J;exact bh J (L:=[xb]) (aa.setCell (zN _ _) (.inl (by simp)) _) (fun g hg hm=>by
    rw[zD.1 hm] at hg;exact (av J xb hg).ne M.ty (by decide) rfl))
  have bB:=zx (ct.setCell (p:=⟨xb,2,none⟩) (.inr dq.out) u);have a2:=zx (bd.far (p:=⟨xb,2,none⟩) b3.out.1 u);obtain ⟨w9,bm⟩:∃ x,w8.setCell ⟨xb,2,none⟩ u=x:=⟨_,rfl⟩
  rw[bm] at O a5 bn bB a2;have d5:=zx bm;have HU:=zx hu;clear J D cp c4 cg ct q0 q1 lc x2 el lx hu bm bd;clear b7 ad U I bl;go_upto_region 7 with (fail)
  rw[HU.out,d5.out];have HT:=ey [44] w9 O.out
  cases hs:aG [44] q2 with
  | false =>
   rw[hs] at HT;have a3:=zx HT;have cf:Hid (S= .ok (B++[⟨s,2⟩],q2)):=zx (by rw[←bk.out,hs];rfl);clear HT hs;go_wp2_with fail
   refine a3.out.mono ?_;rintro ev Z ⟨rfl,hp,hk⟩;have a0:Hid (Ps Z b q2):=zx hp;have bA:=zx (bW O.out hk a5.out (by decide));have bo:=zx (bW O.out hk a2.out (by decide));have a6:=zx (fF bn.out O.out hk (by decide));have ba:=zx (bB.out.trans hk);clear hp hk a3;go_wp2;go_roundw
   case rel=>exact ⟨false,B++[⟨s,2⟩],q2,0,u,rfl,zx (fun h=>by cases h),zx (fun _=>cf.out),by have:=a7.out;simp;omega,a0,bA,bo,a6,ba⟩
   case measure=>have:=a7.out;rw[a0.out.left,HM.out];omega
  | true =>
   rw[hs,if_pos rfl] at HT;have a3:=zx HT;have ci:q2.tail.length=q2.length-1:=zL;have bq:=zx ci;have c5:Hid (b8 n q2.tail (B++[⟨s,2⟩])=S):=zx (by rw[←bk.out,hs];rfl);clear HT hs ci;go_wp2_with fail
   refine a3.out.mono ?_;rintro ev Z ⟨rfl,hp,hk⟩;have a0:=zx hp;have bA:=zx (bW O.out hk a5.out (by decide));have bo:=zx (bW O.out hk a2.out (by decide));have a6:=zx (fF bn.out O.out hk (by decide));have ba:=zx (bB.out.trans hk);clear hp hk a3;go_wp2;go_roundw
   case rel=>exact ⟨true,B++[⟨s,2⟩],q2.tail,n,u,rfl,zx (fun _=>⟨c5.out,by have:=a7.out;have:=bq.out;omega⟩),zx (fun h=>by cases h),by have:=a7.out;have:=bq.out;simp;omega,a0,bA,bo,a6,ba⟩
   case measure=>have:=a7.out;have:=bq.out;rw[a0.out.left,HM.out];omega
def bZ (j:Jb) (v2 v3 v4:Value):Array Value :=
 #[zW zX j.at_,zW zX j.code,v2,v3,v4,zQ (bs j.op),zQ (bs j.left.col),zW zX j.left.val.kind,zW zX j.left.val.num,zQ (bs j.left.val.word),zQ (bs j.right.col),zW zX j.right.val.kind,zW zX j.right.val.num,zQ (bs j.right.val.word),zW zX j.retry]
def aT (u v:Value):Prop:=∀ g,u.ownBlock=some g→v.ownBlock≠some g
theorem aT.symm {u v:Value} (h:aT u v):aT v u:=fun g B A=>h g A B
structure ar (W:World) (base jb:Nat) (j:Jb) (v2 v3 v4:Value):Prop where
 blk:ap W jb 59 (bZ j v2 v3 v4)
 o2:W.ownsRow base 9 1 v2 j.outs.length (strs j.outs)
 o3:W.ownsRow base 9 1 v3 j.ins.length (strs j.ins)
 o4:W.ownsRow base 9 1 v4 j.cols.length (strs j.cols)
 n23:aT v2 v3
 n24:aT v2 v4
 n34:aT v3 v4
section
variable {W W' W7 w0:World} {base jb b g H cap n size:Nat} {j:Jb} {v2 v3 v4 u:Value} {l:List Tk} {a:Bs} {o:Obj} {L:List Nat} {xs:List Value} {e:TypeId}
theorem bf {t:TypeId} (h:W.ownsRow base e size u n xs) (B:aa L W W') (J:∀ x∈L,cD W x t) (D:e≠t):W'.ownsRow base e size u n xs :=
 bh h B (fun g I A=>(av h g I).ne (J g A) D rfl)
theorem ar.far {t:TypeId} (h:ar W base jb j v2 v3 v4) (A:aa L W W') (B:∀ x∈L,cD W x t) (D:9≠t) (J:59≠t):ar W' base jb j v2 v3 v4 :=
 ⟨h.blk.keep A (fun I=>h.blk.ty.ne (B jb I) J rfl),bf h.o2 A B D,bf h.o3 A B D,bf h.o4 A B D,h.n23,h.n24,h.n34⟩
theorem ar.keep (h:ar W base jb j v2 v3 v4) (A:aa [] W W'):ar W' base jb j v2 v3 v4 :=
 h.far (t:=3) A (fun x B=>by cases B) (by decide) (by decide)
theorem ar.ps (h:ar W base jb j v2 v3 v4) (A:Ps W b l) (B:aa [b] W W'):ar W' base jb j v2 v3 v4 :=
 h.far B (fun x D=>by rw[zD.1 D];exact A.ty) (by decide) (by decide)
theorem ar.box {A:Jb} (h:ar W base jb j v2 v3 v4) (B:aa [jb] W W') (M:ap W' jb 59 (bZ A v2 v3 v4)) (e2:A.outs=j.outs) (I:A.ins=j.ins) (J:A.cols=j.cols):ar W' base jb A v2 v3 v4:=by
 have D:∀ x∈[jb],cD W x 59:=fun x O=>by rw[zD.1 O];exact h.blk.ty
 refine ⟨M,?_,?_,?_,h.n23,h.n24,h.n34⟩
 ·rw[e2];exact bf h.o2 B D (by decide)
 ·rw[I];exact bf h.o3 B D (by decide)
 rw[J];exact bf h.o4 B D (by decide)
theorem Ps.box (A:Ps W b l) (h:ar W base jb j v2 v3 v4) (B:aa [jb] W W'):Ps W' b l :=
 A.far B (fun x D=>⟨59,by rw[zD.1 D];exact h.blk.ty,by decide,by decide⟩)
theorem aa.box (h:aa [b] w0 W) (D:w0.heap.size≤jb) (A:aa [jb] W W'):aa [b] w0 W' :=
 h.trans' A (fun x I B=>by rw[zD.1 I] at B;omega)
theorem ar.put4 {cs:List Bs} (h:ar W base jb j v2 v3 v4) (I:W.ownsRow base 9 1 u cs.length (strs cs)) (D:aT v2 u) (J:aT v3 u):ar (W.setCell ⟨jb,4,none⟩ u) base jb { j with cols:=cs } v2 v3 u:=by
 have A:aa [jb] W (W.setCell ⟨jb,4,none⟩ u):=(zN _ _).setCell (.inl (by simp)) _;have B:∀ x∈[jb],cD W x 59:=fun x M=>by rw[zD.1 M];exact h.blk.ty
 exact ⟨(h.blk.set 4 u).congr rfl,bf h.o2 A B (by decide),bf h.o3 A B (by decide),bf I A B (by decide),h.n23,D,J⟩
theorem ar.put2 {cs:List Bs} (h:ar W base jb j v2 v3 v4) (I:W.ownsRow base 9 1 u cs.length (strs cs)) (J:aT u v3) (D:aT u v4):ar (W.setCell ⟨jb,2,none⟩ u) base jb { j with outs:=cs } u v3 v4:=by
 have A:aa [jb] W (W.setCell ⟨jb,2,none⟩ u):=(zN _ _).setCell (.inl (by simp)) _;have B:∀ x∈[jb],cD W x 59:=fun x M=>by rw[zD.1 M];exact h.blk.ty
 exact ⟨(h.blk.set 2 u).congr rfl,bf I A B (by decide),bf h.o3 A B (by decide),bf h.o4 A B (by decide),J,D,h.n34⟩
theorem aT.new (h:W.ownsRow base e size u n xs) (B:∀ g,v2.ownBlock=some g→W.heap.size≤g):aT u v2:=fun g D A=>by
 have J:=(h.lt g D).2;have I:=B g A;omega
theorem eA (h:W.ownsRow base e size v2 n xs) (B:(W.alloc o).grownBy W7 u.ownBlock) (I:aT v2 u):W7.ownsRow base e size v2 n xs :=
 bh (L:=u.ownBlock.toList) (h.alloc o) (aa.grown (zN _ _) B (fun g B=> .inl (by rw[B];simp))) (fun g J A=>by
  have:u.ownBlock=some g:=by
   cases D:u.ownBlock with
   | none=>rw[D] at A;cases A
   | some x=>rw[D] at A;simp at A;rw[A]
  exact I g J this)
theorem dQ {J:Value} {p q:Nat} (h:W.ownsRow base e size v2 n xs) (O:aT v2 u) (U:J=zR (some ⟨g,0,none⟩) p q) (D:u.ownBlock=some g∨g=H) (Z:W.heap.size≤H):aT v2 J:=fun x M A=>by
 subst U;have B:g=x:=by simpa[Value.ownBlock] using A
 subst B;rcases D with I|I
 ·exact O _ M I
 have:=(h.lt _ M).2;omega
end
section
variable {W W' W7 w0:World} {base jb b g H cap m:Nat} {j:Jb} {v2 v3 v4 u:Value} {l:List Tk} {a:Bs} {o:Obj}
theorem i6 (h:ar W base jb j v2 v3 v4) {v:Value} (B:(W.alloc o).grownBy W7 v.ownBlock) (A:∀ x,v.ownBlock=some x→cD W x 9):ap W7 jb 59 (bZ j v2 v3 v4) :=
 (B.block jb (h.blk.alloc o).lt (fun e=>(A jb e.symm).ne h.blk.ty (by decide) rfl)).trans (h.blk.alloc o)
theorem oF (h:Ps W b l) {v:Value} (B:(W.alloc o).grownBy W7 v.ownBlock) (A:∀ x,v.ownBlock=some x→cD W x 9):Ps W7 b l :=
 (h.keep ((zN _ _).alloc o)).grown B (fun x D=>(A x D).keep ((zN [] _).alloc o) (by simp)) (by decide) (by decide)
theorem ar.app3 (h:ar W base jb j v2 v3 v4) (hp:Ps W b l) (U:aa [b] w0 W) (hb:base=w0.heap.size) (Z:base≤jb) (D:(W.alloc o).grownBy W7 v3.ownBlock) (hu:u=zR (some ⟨g,0,none⟩) m cap) (A:W7.ownsRow base 9 1 u (j.ins.length+1) (strs j.ins++[zQ (bs a)])) (J:v3.ownBlock=some g∨g=H) (hH:W.heap.size≤H) :
  ar (W7.setCell ⟨jb,3,none⟩ u) base jb { j with ins:=j.ins++[a] } v2 u v4∧Ps (W7.setCell ⟨jb,3,none⟩ u) b l∧aa [b] w0 (W7.setCell ⟨jb,3,none⟩ u):=by
 have B:=i6 h D (av h.o3);have M:aa [jb] W7 (W7.setCell ⟨jb,3,none⟩ u):=(zN _ _).setCell (.inl (by simp)) _;have O:∀ x∈[jb],cD W7 x 59:=fun x I=>by rw[zD.1 I];exact B.ty
 rw[←eP] at A;have hown':W7.ownsRow base 9 1 u (j.ins++[a]).length (strs (j.ins++[a])):=by rw[zF];exact A
 refine ⟨⟨(B.set 3 u).congr rfl,bf (eA h.o2 D h.n23) M O (by decide),bf hown' M O (by decide),bf (eA h.o4 D h.n34.symm) M O (by decide),?_,h.n24,?_⟩,?_,?_⟩
 ·exact dQ h.o2 h.n23 hu J hH
 ·exact (dQ h.o4 h.n34.symm hu J hH).symm
 ·exact (oF hp D (av h.o3)).far M (fun x I=>⟨59,O x I,by decide,by decide⟩)
 exact ((U.alloc o).grown D (fun x I=> .inr (by rw[←hb];exact (h.o3.lt x I).1))).setCell (.inr (by rw[←hb];exact Z)) _
theorem ar.app4 (h:ar W base jb j v2 v3 v4) (hp:Ps W b l) (U:aa [b] w0 W) (hb:base=w0.heap.size) (Z:base≤jb) (D:(W.alloc o).grownBy W7 v4.ownBlock) (hu:u=zR (some ⟨g,0,none⟩) m cap) (A:W7.ownsRow base 9 1 u (j.cols.length+1) (strs j.cols++[zQ (bs a)])) (J:v4.ownBlock=some g∨g=H) (hH:W.heap.size≤H) :
  ar (W7.setCell ⟨jb,4,none⟩ u) base jb { j with cols:=j.cols++[a] } v2 v3 u∧Ps (W7.setCell ⟨jb,4,none⟩ u) b l∧aa [b] w0 (W7.setCell ⟨jb,4,none⟩ u):=by
 have B:=i6 h D (av h.o4);have M:aa [jb] W7 (W7.setCell ⟨jb,4,none⟩ u):=(zN _ _).setCell (.inl (by simp)) _;have O:∀ x∈[jb],cD W7 x 59:=fun x I=>by rw[zD.1 I];exact B.ty
 rw[←eP] at A;have hown':W7.ownsRow base 9 1 u (j.cols++[a]).length (strs (j.cols++[a])):=by rw[zF];exact A
 refine ⟨⟨(B.set 4 u).congr rfl,bf (eA h.o2 D h.n24) M O (by decide),bf (eA h.o3 D h.n34) M O (by decide),bf hown' M O (by decide),h.n23,?_,?_⟩,?_,?_⟩
 ·exact dQ h.o2 h.n24 hu J hH
 ·exact dQ h.o3 h.n34 hu J hH
 ·exact (oF hp D (av h.o4)).far M (fun x I=>⟨59,O x I,by decide,by decide⟩)
 exact ((U.alloc o).grown D (fun x I=> .inr (by rw[←hb];exact (h.o4.lt x I).1))).setCell (.inr (by rw[←hb];exact Z)) _
end
theorem aa.undrew {w w':World} {L:List Nat} (h:aa L w.drew w'):aa L w w':=⟨h.os,h.output,h.size,h.block⟩
theorem cK {Q:Exit→Act→World→Prop} {c} {h:Act} {w:World} {F K:Act→World→Prop} (_:∀ a w,F a w→K a w) (d:Option Nat) (v:Value) (A:Q (.panic c) h w) (_:Hid False→F (h.put d v) w):Q (.panic c) h w:=A
theorem qW {r q:List Tk} {v u:Vl} (h:fm r v= .ok (u,q)):q.length≤r.length:=by
 unfold fm at h;split at h
 ·injection h with h
  injection h with _ h;rw[←h,zL];omega
 cases h
theorem oG {A:Bool} {r q:List Tk} {u:Vl} (h:bi A r= .ok (u,q)):q.length≤r.length:=by
 unfold bi at h;split at h
 ·cases h
 split at h
 ·exact qW h
 split at h
 ·split at h
  ·exact qW h
  cases h
 cases h
theorem ig {l r:List Tk} {a:Ar} (h:bN l= .ok (a,r)):r.length≤l.length:=by
 unfold bN at h;split at h
 ·rcases A:aj l with x|⟨s,B⟩
  ·rw[A] at h;cases h
  rw[A,au] at h;injection h with h;injection h with _ h;rw[←h,aH A];omega
 rcases A:di l with x|⟨v,B⟩
 ·rw[A] at h;cases h
 rw[A,au] at h;injection h with h;injection h with _ h;rw[←h];unfold di at A;split at A
 ·exact zA (oG A) (by rw[zL];omega)
 exact oG A
def fx (R:Except (Int×Int) (Jb×List Tk)) (b base jb:Nat) (e:Ending) (w':World):Prop:=match R with
 | .ok (j,r)=>e=zT (.tuple #[])∧(∃ v2 v3 v4,ar w' base jb j v2 v3 v4)∧Ps w' b r
 | .error x=>bV x e w'
theorem mQ {l:List Tk} {b jb lo:Nat} {v2 v3 v4:Value} (at_ code:Int) (outs ins cols:List Bs) (op:Bs) (left right:Ar) (O:Int) (w0 w:World) (hE:FB w0 lo) (a1:lo≤b) (h:Ps w b l) (hk:aa [b] w0 w) (a5:w0.heap.size≤jb) (hj:ar w w0.heap.size jb ⟨at_,code,outs,ins,cols,op,left,right,O⟩ v2 v3 v4) (a3:ins.length≤1000000) (a7:cols.length≤1000000) (a8:l.length≤1000000) :
  Calls zy 243 #[zS (some ⟨b,0,none⟩),zS (some ⟨jb,0,none⟩)] w fun e w'=>fx (dJ ⟨at_,code,outs,ins,cols,op,left,right,O⟩ l) b w0.heap.size jb e w'∧aa [b] w0 w':=by
 obtain ⟨i0,hi,cg,co,ch⟩:=info_parts eF;obtain ⟨R,hR⟩:∃ R,dJ ⟨at_,code,outs,ins,cols,op,left,right,O⟩ l=R:=⟨_,rfl⟩
 rw[hR];unfold dJ at hR;try unfold fN at hR
 have HR:=zx hR;have HE:=zx hE;have I:=zx h;have M:=zx hk;have A:=zx hj;have aA:=zx a5;have ci:=zx a3;have cf:=zx a7;have cj:=zx a8;have U:=zx (zz l.length);clear hR hE h hk hj a3 a7 a8 a5;go_enter Tryz.func243,Tryz.ntmps243
 rcases D:aq [119,104,101,114,101] l with x|r1
 ·have B:=HR.out
  rw[D,aD] at B;have HX:=zx B.symm;have HC:=zx (cE D w I.out);clear B D;go_wp2_with fail
  refine HC.out.mono ?_;rintro ev w9 ⟨⟨gi,rfl,hb⟩,ad⟩;exact ⟨rfl,by rw[HX.out];exact ⟨gi,rfl,hb⟩,M.out.trans ad⟩
 have B:=HR.out;rw[D,au] at B;try dsimp only at B
 clear HR;have HR:=zx B;clear B;have HC:=zx (aX D w I.out);have Z:Hid (r1.length≤l.length):=zx (by have:=U.out;have:=aL D;omega);clear D U;have U:=Z;clear Z;go_wp2_with fail
 refine HC.out.mono ?_;rintro ev y1 ⟨rfl,hp,hk⟩;have HJ':=zx (A.out.ps I.out hk);have HK':=zx (M.out.trans hk);clear I A M HC;have I:=zx hp;have A:=HJ';have M:=HK';clear hp hk HJ' HK';rcases D:aj r1 with x|⟨a2,r2⟩
 ·have B:=HR.out
  rw[D,aD] at B;have HX:=zx B.symm;have HC:=zx (bU D y1 I.out);clear B D;go_wp2_with fail
  refine HC.out.mono ?_;rintro ev w9 ⟨⟨gi,rfl,hb⟩,ad⟩;exact ⟨rfl,by rw[HX.out];exact ⟨gi,rfl,hb⟩,M.out.trans ad⟩
 have B:=HR.out;rw[D,au] at B;try dsimp only at B
 clear HR;have HR:=zx B;clear B;have HC:=zx (bv D y1 I.out);have Z:Hid (r2.length≤l.length):=zx (by have:=U.out;have:=aH D;omega);clear D U;have U:=Z;clear Z;go_wp2_with fail
 refine HC.out.mono ?_;rintro ev y2 ⟨rfl,hp,hk⟩;have HJ':=zx (A.out.ps I.out hk);have HK':=zx (M.out.trans hk);clear I A M HC;have I:=zx hp;have A:=HJ';have M:=HK';clear hp hk HJ' HK';have bj:=A.out.blk.frozen 6;have bq:y2.cell? ⟨jb,6,none⟩=some (zQ (bs left.col)):=A.out.blk.cell 6;have bm:=A.out.blk.frozen 7;have ba:y2.cell? ⟨jb,7,none⟩=some (zW zX left.val.kind):=A.out.blk.cell 7;have bo:=A.out.blk.frozen 8;have bk:y2.cell? ⟨jb,8,none⟩=some (zW zX left.val.num):=A.out.blk.cell 8;have bn:=A.out.blk.frozen 9;have bd:y2.cell? ⟨jb,9,none⟩=some (zQ (bs left.val.word)):=A.out.blk.cell 9;have lj:=A.out.blk.lt;have J:aa [jb] y2 ((((y2.setCell ⟨jb,6,none⟩ (zQ (bs a2))).setCell ⟨jb,7,none⟩ (zW zX 0)).setCell ⟨jb,8,none⟩ (zW zX 0)).setCell ⟨jb,9,none⟩ (zQ ⟨#[]⟩)):=((((zN _ _).setCell (.inl (by simp)) _).setCell (.inl (by simp)) _).setCell (.inl (by simp)) _).setCell (.inl (by simp)) _;have HJ':Hid (ar ((((y2.setCell ⟨jb,6,none⟩ (zQ (bs a2))).setCell ⟨jb,7,none⟩ (zW zX 0)).setCell ⟨jb,8,none⟩ (zW zX 0)).setCell ⟨jb,9,none⟩ (zQ ⟨#[]⟩)) w0.heap.size jb (⟨at_,code,outs,ins,cols,op,⟨a2,zV⟩,right,O⟩:Jb) v2 v3 v4):=zx (A.out.box J (((((A.out.blk.set 6 (zQ (bs a2))).set 7 (zW zX 0)).set 8 (zW zX 0)).set 9 (zQ ⟨#[]⟩)).congr (by rfl)) rfl rfl rfl);have HP':=zx (I.out.box A.out J);have HK':=zx (M.out.box aA.out J);clear J;go_upto_region 2 with (fail)
 obtain ⟨y3,hy⟩:∃ x,((((y2.setCell ⟨jb,6,none⟩ (zQ (bs a2))).setCell ⟨jb,7,none⟩ (zW zX 0)).setCell ⟨jb,8,none⟩ (zW zX 0)).setCell ⟨jb,9,none⟩ (zQ ⟨#[]⟩))=x:=⟨_,rfl⟩
 rw[hy] at HJ' HP' HK' ⊢;clear hy bj bq bm ba bo bk bn bd lj A I M;have A:=HJ';have I:=HP';have M:=HK';clear HJ' HP' HK';have HJ':=zx (A.out.keep ((zN _ _).alloc (zU #[zQ (bs [60,62]),zQ (bs [60,61]),zQ (bs [62,61]),zQ (bs [60]),zQ (bs [62]),zQ (bs [61])] 9)));have HP':=zx (I.out.keep ((zN _ _).alloc (zU #[zQ (bs [60,62]),zQ (bs [60,61]),zQ (bs [62,61]),zQ (bs [60]),zQ (bs [62]),zQ (bs [61])] 9)));have HK':=zx (M.out.alloc (zU #[zQ (bs [60,62]),zQ (bs [60,61]),zQ (bs [62,61]),zQ (bs [60]),zQ (bs [62]),zQ (bs [61])] 9));have a0:Hid (Rd (y3.alloc (zU #[zQ (bs [60,62]),zQ (bs [60,61]),zQ (bs [62,61]),zQ (bs [60]),zQ (bs [62]),zQ (bs [61])] 9)) [b] 1 (some ⟨y3.heap.size,0,none⟩) 6 (strs [[60,62],[60,61],[62,61],[60],[62],[61]])):=zx (nQ [[60,62],[60,61],[62,61],[60],[62],[61]] (zO y3 9 #[zQ (bs [60,62]),zQ (bs [60,61]),zQ (bs [62,61]),zQ (bs [60]),zQ (bs [62]),zQ (bs [61])]) (by have:=I.out.lt;omega));clear A I M;have A:=HJ';have I:=HP';have M:=HK';clear HJ' HP' HK';go_wp2_with fail
 rcases D:bC [[60,62],[60,61],[62,61],[60],[62],[61]] r2 with x|⟨a4,r4⟩
 ·have B:=HR.out
  rw[D,aD] at B;have HX:=zx B.symm;have HC:=zx (nM D (some ⟨y3.heap.size,0,none⟩) 6 _ I.out a0.out (by decide));clear B D;skip
  refine HC.out.mono ?_;rintro ev w9 ⟨⟨gi,rfl,hb⟩,ad⟩;exact ⟨rfl,by rw[HX.out];exact ⟨gi,rfl,hb⟩,M.out.trans ad⟩
 have B:=HR.out;rw[D,au] at B;try dsimp only at B
 clear HR;have HR:=zx B;clear B;have HC:=zx (ky D (some ⟨y3.heap.size,0,none⟩) 6 _ I.out a0.out (by decide));have Z:Hid (r4.length≤l.length):=zx (by have:=U.out;have:=dZ D;omega);clear D a0 U;have U:=Z;clear Z;refine HC.out.mono ?_;rintro ev y4 ⟨rfl,hp,hk⟩;have HJ':=zx (A.out.ps I.out hk);have HK':=zx (M.out.trans hk);clear I A M HC;have I:=zx hp;have A:=HJ';have M:=HK';clear hp hk HJ' HK';have a9:=A.out.blk.frozen 5;have bb:y4.cell? ⟨jb,5,none⟩=some (zQ (bs op)):=A.out.blk.cell 5;have lj:=A.out.blk.lt;have J:aa [jb] y4 (y4.setCell ⟨jb,5,none⟩ (zQ (bs a4))):=(zN _ _).setCell (.inl (by simp)) _;have HJ':Hid (ar (y4.setCell ⟨jb,5,none⟩ (zQ (bs a4))) w0.heap.size jb (⟨at_,code,outs,ins,cols,a4,⟨a2,zV⟩,right,O⟩:Jb) v2 v3 v4):=zx (A.out.box J ((A.out.blk.set 5 (zQ (bs a4))).congr (by rfl)) rfl rfl rfl);have HP':=zx (I.out.box A.out J);have HK':=zx (M.out.box aA.out J);clear J;go_upto_region 3 with (fail)
 obtain ⟨y5,hy⟩:∃ x,(y4.setCell ⟨jb,5,none⟩ (zQ (bs a4)))=x:=⟨_,rfl⟩
 rw[hy] at HJ' HP' HK' ⊢;clear hy a9 bb lj A I M;have A:=HJ';have I:=HP';have M:=HK';clear HJ' HP' HK';have HC:=zx (kO y5 (HE.out.one a1 M.out) a1 I.out);rcases D:bN r4 with x|⟨a6,r6⟩
 ·have B:=HR.out
  rw[D,aD] at B;have HX:=zx B.symm;have hc:=HC.out;rw[D] at hc;have bl:=zx hc;clear B D hc HC;go_wp2_with fail
  refine bl.out.mono ?_;rintro ev w9 ⟨⟨gi,rfl,hb⟩,ad⟩;exact ⟨rfl,by rw[HX.out];exact ⟨gi,rfl,hb⟩,M.out.trans ad⟩
 have B:=HR.out;rw[D,au] at B;try dsimp only at B
 clear HR;have HR:=zx B;clear B;have hc:=HC.out;rw[D] at hc;clear HC;have HC:=zx hc;have Z:Hid (r6.length≤l.length):=zx (zA (ig D) U.out);clear D hc U;have U:=Z;clear Z;go_wp2_with fail
 refine HC.out.mono ?_;rintro ev y6 ⟨⟨he,hp⟩,hk⟩;have bA:ev=zT (.agg #[zQ (bs a6.col),zW zX a6.val.kind,zW zX a6.val.num,zQ (bs a6.val.word)]):=he;subst bA;clear he;have HJ':=zx (A.out.ps I.out hk);have HK':=zx (M.out.trans hk);clear I A M HC;have I:=zx hp;have A:=HJ';have M:=HK';clear hp hk HJ' HK';have b5:=A.out.blk.frozen 10;have b3:y6.cell? ⟨jb,10,none⟩=some (zQ (bs right.col)):=A.out.blk.cell 10;have b4:=A.out.blk.frozen 11;have b1:y6.cell? ⟨jb,11,none⟩=some (zW zX right.val.kind):=A.out.blk.cell 11;have b6:=A.out.blk.frozen 12;have bB:y6.cell? ⟨jb,12,none⟩=some (zW zX right.val.num):=A.out.blk.cell 12;have b0:=A.out.blk.frozen 13;have b7:y6.cell? ⟨jb,13,none⟩=some (zQ (bs right.val.word)):=A.out.blk.cell 13;have lj:=A.out.blk.lt;have J:aa [jb] y6 ((((y6.setCell ⟨jb,10,none⟩ (zQ (bs a6.col))).setCell ⟨jb,11,none⟩ (zW zX a6.val.kind)).setCell ⟨jb,12,none⟩ (zW zX a6.val.num)).setCell ⟨jb,13,none⟩ (zQ (bs a6.val.word))):=((((zN _ _).setCell (.inl (by simp)) _).setCell (.inl (by simp)) _).setCell (.inl (by simp)) _).setCell (.inl (by simp)) _;have HJ':Hid (ar ((((y6.setCell ⟨jb,10,none⟩ (zQ (bs a6.col))).setCell ⟨jb,11,none⟩ (zW zX a6.val.kind)).setCell ⟨jb,12,none⟩ (zW zX a6.val.num)).setCell ⟨jb,13,none⟩ (zQ (bs a6.val.word))) w0.heap.size jb (⟨at_,code,outs,ins,cols,a4,⟨a2,zV⟩,a6,O⟩:Jb) v2 v3 v4):=zx (A.out.box J (((((A.out.blk.set 10 (zQ (bs a6.col))).set 11 (zW zX a6.val.kind)).set 12 (zW zX a6.val.num)).set 13 (zQ (bs a6.val.word))).congr (by rfl)) rfl rfl rfl);have HP':=zx (I.out.box A.out J);have HK':=zx (M.out.box aA.out J);clear J;have HX:=zx HR.out.symm;clear HR;go_wp2;first|go_end0|refine bodyPost_ret (results_none rfl _ _ _) rfl ?_
 exact ⟨by rw[HX.out];exact ⟨rfl,⟨_,_,_,HJ'.out⟩,HP'.out⟩,HK'.out⟩
theorem ts {l:List Tk} {b jb lo:Nat} {v2 v3 v4:Value} (at_ code:Int) (outs ins cols:List Bs) (op:Bs) (left right:Ar) (aA:Int) (w0 w:World) (hE:FB w0 lo) (_:lo≤b) (h:Ps w b l) (hk:aa [b] w0 w) (bA:w0.heap.size≤jb) (hj:ar w w0.heap.size jb ⟨at_,code,outs,ins,cols,op,left,right,aA⟩ v2 v3 v4) (bq:ins.length≤1000000) (bB:cols.length≤1000000) (b0:l.length≤1000000) :
  Calls zy 242 #[zS (some ⟨b,0,none⟩),zS (some ⟨jb,0,none⟩)] w fun e w'=>fx (pN ⟨at_,code,outs,ins,cols,op,left,right,aA⟩ l) b w0.heap.size jb e w'∧aa [b] w0 w':=by
 obtain ⟨i0,hi,a7,ba,a8⟩:=info_parts eF;obtain ⟨R,hR⟩:∃ R,pN ⟨at_,code,outs,ins,cols,op,left,right,aA⟩ l=R:=⟨_,rfl⟩
 rw[hR];unfold pN at hR;try unfold fN at hR
 have HR:=zx hR;have HE:=zx hE;have I:=zx h;have HK:=zx hk;have D:=zx hj;have bn:=zx bA;have a9:=zx bq;have b1:=zx bB;have b5:=zx b0;have ad:=zx (zz l.length);clear hR hE h hk hj bq bB b0 bA;go_enter Tryz.func242,Tryz.ntmps242
 go_upto_region 0 with (fail)
 obtain ⟨A1,c1,hv,-⟩:=ao D.out.o3;subst hv;have fS:w.cell? ⟨jb,3,none⟩=some (zR A1 (ins).length c1)∧w.frozen? ⟨jb,3,none⟩=false:=⟨D.out.blk.cell 3,D.out.blk.frozen 3⟩;have lj:=D.out.blk.lt;have Z:=zx (show (ins).length+1≤maxLen∧((ins).length+1)*16≤140737488355328 by have:=a9.out;simp only[maxLen];first|omega|(simp only[zF,zG,zK];omega));have a5:Hid (jb∉[b]):=zx (by have:=D.out.blk.ty.ne I.out.ty (by decide);simpa using this);rcases U:aj l with x|⟨a1,r1⟩
 ·have J:=HR.out
  rw[U,aD] at J;have HX:=zx J.symm;have HC:Hid (∀ W,aa [] w W→Calls zy 157 #[zS (some ⟨b,0,none⟩)] W fun e w'=>bV x e w'∧aa [b] W w'):=zx (fun W z=>bU U W (I.out.keep z));clear J U;go_wp2_with fail
  go_region_law (first|(refine step_append_lies _ (by rfl) _ _ _ (by rfl) w0.heap.size 9 i0 _ 1 16 Tryz.underlying55 hi a7 ba a8 rfl (by decide) (zR A1 (ins).length c1) (ins).length (strs (ins)) (by rfl) ((D.out.ps I.out A.undrew).o3.alloc _) ⟨w6.heap.size,0,none⟩ 1 1 [zQ (bs [])] (by rfl) rfl (zJ (heap_alloc_new _ _)) (by simp[Value.oneCell']) (by decide) Z.out.1 Z.out.2 (by have:=HK.out.size;have:=A.size;have h9:w.drew.heap.size=w.heap.size:=rfl;simp;omega) _ rfl ?_;intro gw bm w7 M B a2 a6;obtain ⟨bl,bk⟩:=az B (ay ⟨O,a4⟩ _) (fun e=>(av (D.out.ps I.out A.undrew).o3 jb e).ne (D.out.ps I.out A.undrew).blk.ty (by decide) rfl))|(go_simp;go_at_call 157;refine (HC.out _ (zN [] w).drew).mono ?_;rintro e w6 ⟨⟨gi,rfl,hb⟩,A⟩;obtain ⟨O,a4⟩:=aC A fS a5.out;have bb:jb<w6.heap.size:=zB w6 ⟨jb,3,none⟩ O;dsimp only;(go_loud (refine cK ‹∀ (a:Act) (w:World),wpAny _ _ _ _ _ _ a w→_› (some 10) (zQ (bs [])) ⟨rfl,by rw[HX.out];exact ⟨gi,rfl,hb⟩,HK.out.trans A.undrew⟩ (fun hF=>?_)))))
  all_goals exact hF.out.elim
 have J:=HR.out;rw[U,au] at J;try dsimp only at J
 clear HR;have HR:=zx J;clear J;have HC:Hid (∀ W,aa [] w W→Calls zy 157 #[zS (some ⟨b,0,none⟩)] W fun e w'=>e=zT (zQ (bs a1))∧Ps w' b r1∧aa [b] W w'):=zx (fun W z=>bv U W (I.out.keep z));have a0:Hid (r1.length≤l.length):=zx (by have:=ad.out;have:=aH U;omega);clear ad;have ad:=a0;clear a0;clear U;go_cut [] (fun wx=>∃ bo,ar wx w0.heap.size jb (⟨at_,code,outs,ins++[a1],cols,op,left,right,aA⟩:Jb) v2 bo v4∧Ps wx b r1∧aa [b] w0 wx)
 case first =>
  go_region_law (first|(refine step_append_lies _ (by rfl) _ _ _ (by rfl) w0.heap.size 9 i0 _ 1 16 Tryz.underlying55 hi a7 ba a8 rfl (by decide) (zR A1 (ins).length c1) (ins).length (strs (ins)) (by rfl) ((D.out.ps I.out A.undrew).o3.alloc _) ⟨w6.heap.size,0,none⟩ 1 1 [zQ (bs a1)] (by rfl) rfl (zJ (heap_alloc_new _ _)) (by simp[Value.oneCell']) (by decide) Z.out.1 Z.out.2 (by have:=HK.out.size;have:=A.size;have h9:w.drew.heap.size=w.heap.size:=rfl;simp;omega) _ rfl ?_;intro gw bm w7 M B a2 a6;obtain ⟨bl,bk⟩:=az B (ay ⟨O,a4⟩ _) (fun e=>(av (D.out.ps I.out A.undrew).o3 jb e).ne (D.out.ps I.out A.undrew).blk.ty (by decide) rfl))|(go_simp;go_at_call 157;refine (HC.out _ (zN [] w).drew).mono ?_;rintro e w6 ⟨rfl,bj,A⟩;obtain ⟨O,a4⟩:=aC A fS a5.out;have bb:jb<w6.heap.size:=zB w6 ⟨jb,3,none⟩ O))
  all_goals
   go_wp2;go_meet;have hh:=ar.app3 (D.out.ps I.out A.undrew) bj (HK.out.trans A.undrew) rfl bn.out B rfl M a2 (by simp);exact ⟨_,hh.1,hh.2.1,hh.2.2⟩
 obtain ⟨bo,hj,hp,hk⟩:=hcut;obtain ⟨y1,rfl⟩:∃ y:World,y=wc:=⟨_,rfl⟩
 clear I D HK HC fS lj Z a5;have I:=zx hp;have D:=zx hj;have HK:=zx hk;have bd:Hid ((ins++[a1]).length≤1000000+1):=zx (by have:=a9.out;simp only[zF,zG,zK];omega);clear hp hj hk a9;generalize ins++[a1]=il1 at D HR bd;have a9:=bd;clear bd;rcases U:aq [46] r1 with x|r2
 ·have J:=HR.out
  rw[U,aD] at J;have HX:=zx J.symm;have HC:=zx (cE U y1 I.out);clear J U;go_wp2_with fail
  refine HC.out.mono ?_;rintro ev w9 ⟨⟨gi,rfl,hb⟩,b3⟩;exact ⟨rfl,by rw[HX.out];exact ⟨gi,rfl,hb⟩,HK.out.trans b3⟩
 have J:=HR.out;rw[U,au] at J;try dsimp only at J
 clear HR;have HR:=zx J;clear J;have HC:=zx (aX U y1 I.out);have a0:Hid (r2.length≤l.length):=zx (by have:=ad.out;have:=aL U;omega);clear U ad;have ad:=a0;clear a0;go_wp2_with fail
 refine HC.out.mono ?_;rintro ev y2 ⟨rfl,hp,hk⟩;have HJ':=zx (D.out.ps I.out hk);have HK':=zx (HK.out.trans hk);clear I D HK HC;have I:=zx hp;have D:=HJ';have HK:=HK';clear hp hk HJ' HK';go_upto_region 2 with (fail)
 obtain ⟨A3,c3,hv,-⟩:=ao D.out.o4;subst hv;have fS:y2.cell? ⟨jb,4,none⟩=some (zR A3 (cols).length c3)∧y2.frozen? ⟨jb,4,none⟩=false:=⟨D.out.blk.cell 4,D.out.blk.frozen 4⟩;have lj:=D.out.blk.lt;have Z:=zx (show (cols).length+1≤maxLen∧((cols).length+1)*16≤140737488355328 by have:=b1.out;simp only[maxLen];first|omega|(simp only[zF,zG,zK];omega));have a5:Hid (jb∉[b]):=zx (by have:=D.out.blk.ty.ne I.out.ty (by decide);simpa using this);rcases U:aj r2 with x|⟨a3,r3⟩
 ·have J:=HR.out
  rw[U,aD] at J;have HX:=zx J.symm;have HC:Hid (∀ W,aa [] y2 W→Calls zy 157 #[zS (some ⟨b,0,none⟩)] W fun e w'=>bV x e w'∧aa [b] W w'):=zx (fun W z=>bU U W (I.out.keep z));clear J U;go_wp2_with fail
  go_region_law (first|(refine step_append_lies _ (by rfl) _ _ _ (by rfl) w0.heap.size 9 i0 _ 1 16 Tryz.underlying55 hi a7 ba a8 rfl (by decide) (zR A3 (cols).length c3) (cols).length (strs (cols)) (by rfl) ((D.out.ps I.out A.undrew).o4.alloc _) ⟨w6.heap.size,0,none⟩ 1 1 [zQ (bs [])] (by rfl) rfl (zJ (heap_alloc_new _ _)) (by simp[Value.oneCell']) (by decide) Z.out.1 Z.out.2 (by have:=HK.out.size;have:=A.size;have h9:y2.drew.heap.size=y2.heap.size:=rfl;simp;omega) _ rfl ?_;intro gw bm w7 M B a2 a6;obtain ⟨bl,bk⟩:=az B (ay ⟨O,a4⟩ _) (fun e=>(av (D.out.ps I.out A.undrew).o4 jb e).ne (D.out.ps I.out A.undrew).blk.ty (by decide) rfl))|(go_simp;go_at_call 157;refine (HC.out _ (zN [] y2).drew).mono ?_;rintro e w6 ⟨⟨gi,rfl,hb⟩,A⟩;obtain ⟨O,a4⟩:=aC A fS a5.out;have bb:jb<w6.heap.size:=zB w6 ⟨jb,4,none⟩ O;dsimp only;(go_loud (refine cK ‹∀ (a:Act) (w:World),wpAny _ _ _ _ _ _ a w→_› (some 23) (zQ (bs [])) ⟨rfl,by rw[HX.out];exact ⟨gi,rfl,hb⟩,HK.out.trans A.undrew⟩ (fun hF=>?_)))))
  all_goals exact hF.out.elim
 have J:=HR.out;rw[U,au] at J;try dsimp only at J
 clear HR;have HR:=zx J;clear J;have HC:Hid (∀ W,aa [] y2 W→Calls zy 157 #[zS (some ⟨b,0,none⟩)] W fun e w'=>e=zT (zQ (bs a3))∧Ps w' b r3∧aa [b] W w'):=zx (fun W z=>bv U W (I.out.keep z));have a0:Hid (r3.length≤l.length):=zx (by have:=ad.out;have:=aH U;omega);clear ad;have ad:=a0;clear a0;clear U;have HX:=zx HR.out.symm;clear HR;go_region_law (first|(refine step_append_lies _ (by rfl) _ _ _ (by rfl) w0.heap.size 9 i0 _ 1 16 Tryz.underlying55 hi a7 ba a8 rfl (by decide) (zR A3 (cols).length c3) (cols).length (strs (cols)) (by rfl) ((D.out.ps I.out A.undrew).o4.alloc _) ⟨w6.heap.size,0,none⟩ 1 1 [zQ (bs a3)] (by rfl) rfl (zJ (heap_alloc_new _ _)) (by simp[Value.oneCell']) (by decide) Z.out.1 Z.out.2 (by have:=HK.out.size;have:=A.size;have h9:y2.drew.heap.size=y2.heap.size:=rfl;simp;omega) _ rfl ?_;intro gw bm w7 M B a2 a6;obtain ⟨bl,bk⟩:=az B (ay ⟨O,a4⟩ _) (fun e=>(av (D.out.ps I.out A.undrew).o4 jb e).ne (D.out.ps I.out A.undrew).blk.ty (by decide) rfl))|(go_simp;go_at_call 157;refine (HC.out _ (zN [] y2).drew).mono ?_;rintro e w6 ⟨rfl,bj,A⟩;obtain ⟨O,a4⟩:=aC A fS a5.out;have bb:jb<w6.heap.size:=zB w6 ⟨jb,4,none⟩ O))
 all_goals
  go_wp2;first|go_end0|refine bodyPost_ret (results_none rfl _ _ _) rfl ?_
  try (have b4:=HCL.out;subst b4)
  have hh:=ar.app4 (D.out.ps I.out A.undrew) bj (HK.out.trans A.undrew) rfl bn.out B rfl M a2 (by simp);exact ⟨by rw[HX.out];exact ⟨rfl,⟨_,_,_,hh.1⟩,hh.2.1⟩,hh.2.2⟩
def cZ (s:Bs):Int:=Lib.idxOfS (dK.map bs) (bs s)
theorem gn (s:Bs):∀ (ms:List Bs) (i:Nat),(Lib.idxFromS (ms.map bs) (bs s) i= -1∧dE s ms i=0)∨(Lib.idxFromS (ms.map bs) (bs s) i=(dE s ms i:Int)∧i≤dE s ms i∧dE s ms i<i+ms.length∧ms.getD (dE s ms i-i) []=s)
 | [],i=> .inl ⟨rfl,rfl⟩
 | m::ms,i=>by
  simp only[List.map_cons,Lib.idxFromS,dE];by_cases h:m=s
  ·right
   rw[if_pos (congrArg bs h),if_pos h];exact ⟨rfl,zz _,by simp,by simpa using h⟩
  rw[if_neg (fun e=>h (tf e)),if_neg h];rcases gn s ms (i+1) with A|⟨A,D,I,B⟩
  ·exact .inl A
  right
  refine ⟨A,by omega,by simp;omega,?_⟩;rw[show dE s ms (i+1)-i=(dE s ms (i+1)-(i+1))+1 by omega];simpa using B
theorem cS (s:Bs):max (cZ s) 0=(aQ s:Int):=by
 unfold cZ aQ Lib.idxOfS;rcases gn s dK 0 with ⟨h,A⟩|⟨h,_⟩
 ·rw[h,A];rfl
 rw[h];omega
theorem aU {s:Bs} {c:Nat} (h:aQ s=c) (D:c≠0):s=dK.getD c []:=by
 unfold aQ at h;rcases gn s dK 0 with ⟨_,B⟩|⟨_,_,_,A⟩
 ·omega
 rw[h] at A;simpa using A.symm
theorem fQ (s:Bs):aQ s<10:=by
 unfold aQ;rcases gn s dK 0 with ⟨_,h⟩|⟨_,_,A,_⟩
 ·omega
 have:dK.length=10:=rfl;omega
theorem ca (s:Bs) (W:World) (B:iv W):Calls zy 70 #[zR (some ⟨8,0,none⟩) 10 10,zQ (bs s)] W fun e A=>e=zT (zW zX (cZ s))∧W=A:=by
 have h:=Tryz.slices_Index_string 8 0 10 10 (dK.map bs) (bs s) W (by decide) (by decide) (fun j D=>by
  have hj':j<dK.length:=by simpa using D
  rw[Nat.zero_add,B.words j hj',zM,List.getElem?_map,zI hj'];rfl)
 rw[List.take_of_length_le (by decide)] at h;exact h.mono fun e A ⟨J,I⟩=>⟨J,I.symm⟩
theorem wX {j I:Jb} {l r:List Tk} (h:pN j l= .ok (I,r)):∃ a c,I=⟨j.at_,j.code,j.outs,j.ins++[a],j.cols++[c],j.op,j.left,j.right,j.retry⟩∧r.length≤l.length:=by
 unfold pN at h;rcases B:aj l with x|⟨a,O⟩
 ·rw[B] at h;cases h
 rw[B,au] at h;dsimp only at h
 rcases A:aq [46] O with x|J
 ·rw[A] at h;cases h
 rw[A,au] at h;rcases D:aj J with x|⟨c,Z⟩
 ·rw[D] at h;cases h
 rw[D,au] at h;injection h with h;injection h with M U;exact ⟨a,c,M.symm,by rw[←U,aH D,aL A,aH B];omega⟩
theorem mR {l:List Tk} {b jb lo:Nat} {v2 v3 v4:Value} (at_ code:Int) (outs ins cols:List Bs) (op:Bs) (left right:Ar) (A:Int) (w0 w:World) (hE:FB w0 lo) (a0:lo≤b) (h:Ps w b l) (hk:aa [b] w0 w) (O:w0.heap.size≤jb) (M:ar w w0.heap.size jb ⟨at_,code,outs,ins,cols,op,left,right,A⟩ v2 v3 v4) (a1:ins.length≤1000) (a3:cols.length≤1000) (U:l.length≤1000000) (J:aQ (ax l).text=0) :
  Calls zy 206 #[zS (some ⟨b,0,none⟩),zS (some ⟨jb,0,none⟩)] w fun e w'=>fx (am ⟨at_,code,outs,ins,cols,op,left,right,A⟩ l) b w0.heap.size jb e w'∧aa [b] w0 w':=by
 obtain ⟨i0,hi,a7,bb,a8⟩:=info_parts eF;obtain ⟨R,hR⟩:∃ R,am ⟨at_,code,outs,ins,cols,op,left,right,A⟩ l=R:=⟨_,rfl⟩
 rw[hR];have HE:=zx hE;have HP:=zx h;have HK:=zx hk;have Z:=zx M;have aA:=zx O;have a9:Hid (ins.length≤999000):=zx (by omega);have a5:Hid (cols.length≤999000):=zx (by omega);have ba:=zx U;have I:Hid (∀ W,aa [] w W→Calls zy 70 #[zR (some ⟨8,0,none⟩) 10 10,zQ (bs (ax l).text)] W fun e W'=>e=zT (zW zX (cZ (ax l).text))∧W=W'):=zx (fun W q=>ca (ax l).text W ((hE.one a0 hk).quiet q).env);obtain ⟨q,hq⟩:∃ q,cZ (ax l).text=q:=⟨_,rfl⟩
 rw[hq] at I;have HQ:=zx hq;obtain ⟨g,o,c,c0,z0,lb,lg,-,hn,hc,D,k0,k1,k2,-⟩:=h.open';have ad:(0:Int)<(l.length:Int):=by omega
 have f1:w.cell? ⟨jb,1,none⟩=some (zW zX code):=M.blk.cell 1;have f2:=M.blk.frozen 1;have lj:=M.blk.lt;have a2:=zx J;have HX:Hid (R= .error (3,(ax l).at_)):=zx (by rw[←hR];unfold am;rw[if_pos (.inl J)];rfl);clear hR hE h hk M a1 a3 U O hq J;go_enter Tryz.func206,Tryz.ntmps206
 go_upto_region 0 with (fail)
 go_cut [] (fun wx=>wx=(w.setCell ⟨jb,1,none⟩ (zW zX (max q 0))).drew)
 case first =>
  go_region_law (first|(go_simp;go_at_call 70;refine (I.out _ (zN [] w).drew).mono ?_;rintro e w6 ⟨rfl,rfl⟩))
  all_goals
   go_wp2;go_meet;exact rfl
 subst hcut;clear c0 z0 lb lg hn hc D k0 k1 k2 ad lj f1 f2 I;have B:aa [jb] w ((w.setCell ⟨jb,1,none⟩ (zW zX (max q 0))).drew):=((zN _ _).setCell (.inl (by simp)) _).drew;have hj':ar ((w.setCell ⟨jb,1,none⟩ (zW zX (max q 0))).drew) w0.heap.size jb ⟨at_,max q 0,outs,ins,cols,op,left,right,A⟩ v2 v3 v4:=Z.out.box B ((Z.out.blk.set 1 (zW zX (max q 0))).congr (by rfl)) rfl rfl rfl;have hp':=HP.out.box Z.out B;have hk':=HK.out.box aA.out B;have hm:max q 0=0:=by rw[←HQ.out,cS,a2.out];rfl
 rw[hm] at hj' hp' hk' ⊢;clear hm B Z HP HK;obtain ⟨y0,hy⟩:∃ x,(w.setCell ⟨jb,1,none⟩ (zW zX 0)).drew=x:=⟨_,rfl⟩
 rw[hy] at hj' hp' hk' ⊢;have Z:=zx hj';have HP:=zx hp';have HK:=zx hk';have a6:y0.cell? ⟨jb,1,none⟩=some (zW zX 0):=hj'.blk.cell 1;have lj:=hj'.blk.lt;obtain ⟨g,o,c,c0,z0,lb,lg,-,hn,hc,D,k0,k1,k2,-⟩:=hp'.open';have ad:(0:Int)<(l.length:Int):=by omega
 clear hy hj' hp' hk' hn hc D HQ;go_wp2_with fail
 refine (bD 3 y0 HP.out).mono ?_;rintro ev w9 ⟨⟨gi,rfl,hb⟩,a4⟩;exact ⟨rfl,by rw[HX.out];exact ⟨gi,rfl,hb⟩,HK.out.trans a4.of_nil⟩
theorem rI {l:List Tk} {b jb lo:Nat} {v2 v3 v4:Value} (at_ code:Int) (outs ins cols:List Bs) (op:Bs) (left right:Ar) (A:Int) (w0 w:World) (hE:FB w0 lo) (a1:lo≤b) (h:Ps w b l) (hk:aa [b] w0 w) (O:w0.heap.size≤jb) (M:ar w w0.heap.size jb ⟨at_,code,outs,ins,cols,op,left,right,A⟩ v2 v3 v4) (a2:ins.length≤1000) (a5:cols.length≤1000) (U:l.length≤1000000) {cc:Nat} (ad:aQ (ax l).text=cc) (a4:cc≠0) (J:(ax l).kind≠1) :
  Calls zy 206 #[zS (some ⟨b,0,none⟩),zS (some ⟨jb,0,none⟩)] w fun e w'=>fx (am ⟨at_,code,outs,ins,cols,op,left,right,A⟩ l) b w0.heap.size jb e w'∧aa [b] w0 w':=by
 obtain ⟨i0,hi,a9,bj,ba⟩:=info_parts eF;obtain ⟨R,hR⟩:∃ R,am ⟨at_,code,outs,ins,cols,op,left,right,A⟩ l=R:=⟨_,rfl⟩
 rw[hR];have HE:=zx hE;have HP:=zx h;have HK:=zx hk;have Z:=zx M;have a0:=zx O;have bb:Hid (ins.length≤999000):=zx (by omega);have a7:Hid (cols.length≤999000):=zx (by omega);have bd:=zx U;have I:Hid (∀ W,aa [] w W→Calls zy 70 #[zR (some ⟨8,0,none⟩) 10 10,zQ (bs (ax l).text)] W fun e W'=>e=zT (zW zX (cZ (ax l).text))∧W=W'):=zx (fun W q=>ca (ax l).text W ((hE.one a1 hk).quiet q).env);obtain ⟨q,hq⟩:∃ q,cZ (ax l).text=q:=⟨_,rfl⟩
 rw[hq] at I;have HQ:=zx hq;obtain ⟨g,o,c,c0,z0,lb,lg,-,hn,hc,D,k0,k1,k2,-⟩:=h.open';have aA:(0:Int)<(l.length:Int):=by omega
 have f1:w.cell? ⟨jb,1,none⟩=some (zW zX code):=M.blk.cell 1;have f2:=M.blk.frozen 1;have lj:=M.blk.lt;have a3:=zx ad;have HX:Hid (R= .error (3,(ax l).at_)):=zx (by rw[←hR];unfold am;rw[if_pos (.inr J)];rfl);have bk:((ax l).kind != 1)=true:=by rw[bne_iff_ne];exact J
 have bl:((cc:Int)==0)=false:=by rw[beq_eq_false_iff_ne];omega
 clear hR hE h hk M a2 a5 U O hq ad a4 J;go_enter Tryz.func206,Tryz.ntmps206
 go_upto_region 0 with (fail)
 go_cut [] (fun wx=>wx=(w.setCell ⟨jb,1,none⟩ (zW zX (max q 0))).drew)
 case first =>
  go_region_law (first|(go_simp;go_at_call 70;refine (I.out _ (zN [] w).drew).mono ?_;rintro e w6 ⟨rfl,rfl⟩))
  all_goals
   go_wp2;go_meet;exact rfl
 subst hcut;clear c0 z0 lb lg hn hc D k0 k1 k2 aA lj f1 f2 I;have B:aa [jb] w ((w.setCell ⟨jb,1,none⟩ (zW zX (max q 0))).drew):=((zN _ _).setCell (.inl (by simp)) _).drew;have hj':ar ((w.setCell ⟨jb,1,none⟩ (zW zX (max q 0))).drew) w0.heap.size jb ⟨at_,max q 0,outs,ins,cols,op,left,right,A⟩ v2 v3 v4:=Z.out.box B ((Z.out.blk.set 1 (zW zX (max q 0))).congr (by rfl)) rfl rfl rfl;have hp':=HP.out.box Z.out B;have hk':=HK.out.box a0.out B;have hm:max q 0=(cc:Int):=by rw[←HQ.out,cS,a3.out]
 rw[hm] at hj' hp' hk' ⊢;clear hm B Z HP HK;obtain ⟨y0,hy⟩:∃ x,(w.setCell ⟨jb,1,none⟩ (zW zX (cc:Int))).drew=x:=⟨_,rfl⟩
 rw[hy] at hj' hp' hk' ⊢;have Z:=zx hj';have HP:=zx hp';have HK:=zx hk';have a8:y0.cell? ⟨jb,1,none⟩=some (zW zX (cc:Int)):=hj'.blk.cell 1;have lj:=hj'.blk.lt;obtain ⟨g,o,c,c0,z0,lb,lg,-,hn,hc,D,k0,k1,k2,-⟩:=hp'.open';have aA:(0:Int)<(l.length:Int):=by omega
 clear hy hj' hp' hk' hn hc D HQ;go_wp2_with fail
 refine (bD 3 y0 HP.out).mono ?_;rintro ev w9 ⟨⟨gi,rfl,hb⟩,a6⟩;exact ⟨rfl,by rw[HX.out];exact ⟨gi,rfl,hb⟩,HK.out.trans a6.of_nil⟩
theorem wY {l:List Tk} {b jb lo:Nat} {v2 v3 v4:Value} (at_ code:Int) (outs ins cols:List Bs) (op:Bs) (left right:Ar) (A:Int) (w0 w:World) (hE:FB w0 lo) (a1:lo≤b) (h:Ps w b l) (U:aa [b] w0 w) (bl:w0.heap.size≤jb) (hj:ar w w0.heap.size jb ⟨at_,code,outs,ins,cols,op,left,right,A⟩ v2 v3 v4) (b4:ins.length≤1000) (b5:cols.length≤1000) (bo:l.length≤1000000) (a4:aQ (ax l).text=7) (a3:(ax l).kind=1) :
  Calls zy 206 #[zS (some ⟨b,0,none⟩),zS (some ⟨jb,0,none⟩)] w fun e w'=>fx (am ⟨at_,code,outs,ins,cols,op,left,right,A⟩ l) b w0.heap.size jb e w'∧aa [b] w0 w':=by
 obtain ⟨i0,hi,cg,cp,ci⟩:=info_parts eF;obtain ⟨R,hR⟩:∃ R,am ⟨at_,code,outs,ins,cols,op,left,right,A⟩ l=R:=⟨_,rfl⟩
 rw[hR];have HE:=zx hE;have O:=zx h;have Z:=zx U;have M:=zx hj;have a5:=zx bl;have bn:Hid (ins.length≤999000):=zx (by omega);have bb:Hid (cols.length≤999000):=zx (by omega);have bA:=zx bo;have a9:Hid (∀ W,aa [] w W→Calls zy 70 #[zR (some ⟨8,0,none⟩) 10 10,zQ (bs (ax l).text)] W fun e W'=>e=zT (zW zX (cZ (ax l).text))∧W=W'):=zx (fun W q=>ca (ax l).text W ((hE.one a1 U).quiet q).env);obtain ⟨q,hq⟩:∃ q,cZ (ax l).text=q:=⟨_,rfl⟩
 rw[hq] at a9;have HQ:=zx hq;obtain ⟨g,o,c,c0,z0,lb,lg,-,hn,J,a7,k0,k1,k2,-⟩:=h.open';have ba:(0:Int)<(l.length:Int):=by omega
 have f1:w.cell? ⟨jb,1,none⟩=some (zW zX code):=hj.blk.cell 1;have f2:=hj.blk.frozen 1;have lj:=hj.blk.lt;have bk:=zx a4;have bd:Hid (iz (⟨at_,7,outs,ins,cols,op,left,right,A⟩:Jb) l.tail=R):=zx (by
  rw[←hR];unfold am;rw[a4,if_neg (by rw[a3];decide)];rfl)
 have bq:aG [106,111,105,110] l=true:=by
  unfold aG;rw[a3,aU a4 (by decide)];rfl
 have b1:=zx bq;have bB:=zx a3;clear hR hE h U hj b4 b5 bo bl hq a4 bq a3;go_enter Tryz.func206,Tryz.ntmps206
 go_upto_region 0 with (fail)
 go_cut [] (fun wx=>wx=(w.setCell ⟨jb,1,none⟩ (zW zX (max q 0))).drew)
 case first =>
  go_region_law (first|(go_simp;go_at_call 70;refine (a9.out _ (zN [] w).drew).mono ?_;rintro e w6 ⟨rfl,rfl⟩))
  all_goals
   go_wp2;go_meet;exact rfl
 subst hcut;clear c0 z0 lb lg hn J a7 k0 k1 k2 ba lj f1 f2 a9;have a0:aa [jb] w ((w.setCell ⟨jb,1,none⟩ (zW zX (max q 0))).drew):=((zN _ _).setCell (.inl (by simp)) _).drew;have hj':ar ((w.setCell ⟨jb,1,none⟩ (zW zX (max q 0))).drew) w0.heap.size jb ⟨at_,max q 0,outs,ins,cols,op,left,right,A⟩ v2 v3 v4:=M.out.box a0 ((M.out.blk.set 1 (zW zX (max q 0))).congr (by rfl)) rfl rfl rfl;have hp':=O.out.box M.out a0;have hk':=Z.out.box a5.out a0;have hm:max q 0=7:=by rw[←HQ.out,cS,bk.out];rfl
 rw[hm] at hj' hp' hk' ⊢;clear hm a0 M O Z;obtain ⟨y0,hy⟩:∃ x,(w.setCell ⟨jb,1,none⟩ (zW zX 7)).drew=x:=⟨_,rfl⟩
 rw[hy] at hj' hp' hk' ⊢;have M:=zx hj';have O:=zx hp';have Z:=zx hk';have a6:y0.cell? ⟨jb,1,none⟩=some (zW zX 7):=hj'.blk.cell 1;have lj:=hj'.blk.lt;obtain ⟨g,o,c,c0,z0,lb,lg,-,hn,J,a7,k0,k1,k2,-⟩:=hp'.open';have ba:(0:Int)<(l.length:Int):=by omega
 clear hy hj' hp' hk' hn J a7 HQ;rw[bB.out] at k0;have wd:=(HE.out.one a1 Z.out).env.words 7 (by decide);have b0:y0.cell? ⟨8,7,none⟩=some (zQ (bs [106,111,105,110])):=wd;have b6:=zB _ _ b0;clear wd;go_wp2_with fail
 refine (aX (s:=[106,111,105,110]) (r:=l.tail) (by unfold aq;rw[if_pos b1.out]) y0 O.out).mono ?_;rintro ev y1 ⟨rfl,hp,U⟩;have HJ':=zx (M.out.ps O.out U);have HK':=zx (Z.out.trans U);clear O M Z c0 z0 lb lg k0 k1 k2 ba a6 lj b0 b6;have O:=zx hp;have M:=HJ';have Z:=HK';clear hp U HJ' HK';have HR:=bd;clear bd;have I:Hid (l.tail.length≤l.length):=zx (by rw[zL];omega);obtain ⟨r0,bm⟩:∃ r0,l.tail=r0:=⟨_,rfl⟩
 rw[bm] at O HR I;clear bm b1 bB bk;have a6:y1.cell? ⟨jb,1,none⟩=some (zW zX 7):=M.out.blk.cell 1;have b3:=M.out.blk.lt;have B:=HR.out;unfold iz at B;clear HR;have HR:=zx B;clear B;have J:=ts at_ 7 outs (ins) (cols) op left right A w0 y1 HE.out a1 O.out Z.out a5.out M.out (by have:=bn.out;first|omega|(simp only[zF,zG,zK];omega)) (by have:=bb.out;first|omega|(simp only[zF,zG,zK];omega)) (zA I.out bA.out);rcases D:pN (⟨at_,7,outs,ins,cols,op,left,right,A⟩:Jb) r0 with x|⟨j2,r2⟩
 ·have B:=HR.out
  rw[D,aD] at B;have HX:=zx B.symm;rw[D] at J;have a8:=zx J;clear B D J;go_wp2_with fail
  refine a8.out.mono ?_;rintro ev w9 ⟨⟨gi,rfl,hb⟩,aA⟩;exact ⟨rfl,by rw[HX.out];exact ⟨gi,rfl,hb⟩,aA⟩
 have B:=HR.out;rw[D,au] at B;try dsimp only at B
 clear HR;have HR:=zx B;clear B;rw[D] at J;obtain ⟨a2,d2,e,bj⟩:=wX D;subst e;have ad:Hid (r2.length≤l.length):=zx (zA bj I.out);have HC:=zx J;clear D J bj I;have I:=ad;clear ad;go_wp2_with fail
 refine HC.out.mono ?_;rintro ev y2 ⟨⟨rfl,⟨cj,cq,cf,hj⟩,hp⟩,U⟩;clear O M Z HC;have O:=zx hp;have M:=zx hj;have Z:=zx U;clear hp hj U;clear a6 b3;rcases D:aq [44] r2 with x|r3
 ·have B:=HR.out
  rw[D,aD] at B;have HX:=zx B.symm;have HC:=zx (cE D y2 O.out);clear B D;go_wp2_with fail
  refine HC.out.mono ?_;rintro ev w9 ⟨⟨gi,rfl,hb⟩,aA⟩;exact ⟨rfl,by rw[HX.out];exact ⟨gi,rfl,hb⟩,Z.out.trans aA⟩
 have B:=HR.out;rw[D,au] at B;try dsimp only at B
 clear HR;have HR:=zx B;clear B;have HC:=zx (aX D y2 O.out);have ad:Hid (r3.length≤l.length):=zx (by have:=I.out;have:=aL D;omega);clear D I;have I:=ad;clear ad;go_wp2_with fail
 refine HC.out.mono ?_;rintro ev y3 ⟨rfl,hp,U⟩;have HJ':=zx (M.out.ps O.out U);have HK':=zx (Z.out.trans U);clear O M Z HC;have O:=zx hp;have M:=HJ';have Z:=HK';clear hp U HJ' HK';have J:=ts at_ 7 outs (ins++[a2]) (cols++[d2]) op left right A w0 y3 HE.out a1 O.out Z.out a5.out M.out (by have:=bn.out;first|omega|(simp only[zF,zG,zK];omega)) (by have:=bb.out;first|omega|(simp only[zF,zG,zK];omega)) (zA I.out bA.out);rcases D:pN (⟨at_,7,outs,ins++[a2],cols++[d2],op,left,right,A⟩:Jb) r3 with x|⟨j4,r4⟩
 ·have B:=HR.out
  rw[D] at B;have HX:=zx B.symm;rw[D] at J;have a8:=zx J;clear B D J;go_wp2_with fail
  refine a8.out.mono ?_;rintro ev w9 ⟨⟨gi,rfl,hb⟩,aA⟩;exact ⟨rfl,by rw[HX.out];exact ⟨gi,rfl,hb⟩,aA⟩
 have B:=HR.out;rw[D] at B;have HX:=zx B.symm;rw[D] at J;have HC:=zx J;clear B D J;go_wp2_with fail
 refine HC.out.mono ?_;rintro ev y4 ⟨⟨rfl,⟨b7,co,ch,hj⟩,hp⟩,U⟩;go_wp2;first|go_end0|refine bodyPost_ret (results_none rfl _ _ _) rfl ?_
 exact ⟨by rw[HX.out];exact ⟨rfl,⟨_,_,_,hj⟩,hp⟩,U⟩
theorem wZ {l:List Tk} {b jb lo:Nat} {v2 v3 v4:Value} (at_ code:Int) (outs ins cols:List Bs) (op:Bs) (left right:Ar) (M:Int) (w0 w:World) (hE:FB w0 lo) (b4:lo≤b) (h:Ps w b l) (hk:aa [b] w0 w) (cf:w0.heap.size≤jb) (hj:ar w w0.heap.size jb ⟨at_,code,outs,ins,cols,op,left,right,M⟩ v2 v3 v4) (ct:ins.length≤1000) (cu:cols.length≤1000) (ch:l.length≤1000000) (bd:aQ (ax l).text=5) (ba:(ax l).kind=1) :
  Calls zy 206 #[zS (some ⟨b,0,none⟩),zS (some ⟨jb,0,none⟩)] w fun e w'=>fx (am ⟨at_,code,outs,ins,cols,op,left,right,M⟩ l) b w0.heap.size jb e w'∧aa [b] w0 w':=by
 obtain ⟨i0,hi,a9,bj,bb⟩:=info_parts eF;obtain ⟨R,hR⟩:∃ R,am ⟨at_,code,outs,ins,cols,op,left,right,M⟩ l=R:=⟨_,rfl⟩
 rw[hR];have HE:=zx hE;have I:=zx h;have HK:=zx hk;have D:=zx hj;have bk:=zx cf;have a7:Hid (ins.length≤999000):=zx (by omega);have c3:Hid (cols.length≤999000):=zx (by omega);have c5:=zx ch;have bB:Hid (∀ W,aa [] w W→Calls zy 70 #[zR (some ⟨8,0,none⟩) 10 10,zQ (bs (ax l).text)] W fun e W'=>e=zT (zW zX (cZ (ax l).text))∧W=W'):=zx (fun W q=>ca (ax l).text W ((hE.one b4 hk).quiet q).env);obtain ⟨q,hq⟩:∃ q,cZ (ax l).text=q:=⟨_,rfl⟩
 rw[hq] at bB;have HQ:=zx hq;obtain ⟨g,o,c,c0,z0,lb,lg,-,hn,hc,bn,k0,k1,k2,-⟩:=h.open';have b3:(0:Int)<(l.length:Int):=by omega
 have f1:w.cell? ⟨jb,1,none⟩=some (zW zX code):=hj.blk.cell 1;have f2:=hj.blk.frozen 1;have lj:=hj.blk.lt;have b7:=zx bd;have b6:Hid (gJ (⟨at_,5,outs,ins,cols,op,left,right,M⟩:Jb) l.tail=R):=zx (by
  rw[←hR];unfold am;rw[bd,if_neg (by rw[ba];decide)];rfl)
 have ci:aG [117,110,105,111,110] l=true:=by
  unfold aG;rw[ba,aU bd (by decide)];rfl
 have cp:=zx ci;have cj:=zx ba;clear hR hE h hk hj ct cu ch cf hq bd ci ba;go_enter Tryz.func206,Tryz.ntmps206
 go_upto_region 0 with (fail)
 go_cut [] (fun wx=>wx=(w.setCell ⟨jb,1,none⟩ (zW zX (max q 0))).drew)
 case first =>
  go_region_law (first|(go_simp;go_at_call 70;refine (bB.out _ (zN [] w).drew).mono ?_;rintro e w6 ⟨rfl,rfl⟩))
  all_goals
   go_wp2;go_meet;exact rfl
 subst hcut;clear c0 z0 lb lg hn hc bn k0 k1 k2 b3 lj f1 f2 bB;have a8:aa [jb] w ((w.setCell ⟨jb,1,none⟩ (zW zX (max q 0))).drew):=((zN _ _).setCell (.inl (by simp)) _).drew;have hj':ar ((w.setCell ⟨jb,1,none⟩ (zW zX (max q 0))).drew) w0.heap.size jb ⟨at_,max q 0,outs,ins,cols,op,left,right,M⟩ v2 v3 v4:=D.out.box a8 ((D.out.blk.set 1 (zW zX (max q 0))).congr (by rfl)) rfl rfl rfl;have hp':=I.out.box D.out a8;have hk':=HK.out.box bk.out a8;have hm:max q 0=5:=by rw[←HQ.out,cS,b7.out];rfl
 rw[hm] at hj' hp' hk' ⊢;clear hm a8 D I HK;obtain ⟨y0,hy⟩:∃ x,(w.setCell ⟨jb,1,none⟩ (zW zX 5)).drew=x:=⟨_,rfl⟩
 rw[hy] at hj' hp' hk' ⊢;have D:=zx hj';have I:=zx hp';have HK:=zx hk';have bm:y0.cell? ⟨jb,1,none⟩=some (zW zX 5):=hj'.blk.cell 1;have lj:=hj'.blk.lt;obtain ⟨g,o,c,c0,z0,lb,lg,-,hn,hc,bn,k0,k1,k2,-⟩:=hp'.open';have b3:(0:Int)<(l.length:Int):=by omega
 clear hy hj' hp' hk' hn hc bn HQ;rw[cj.out] at k0;have wd:=(HE.out.one b4 HK.out).env.words 5 (by decide);have co:y0.cell? ⟨8,5,none⟩=some (zQ (bs [117,110,105,111,110])):=wd;have cv:=zB _ _ co;clear wd;go_wp2_with fail
 refine (aX (s:=[117,110,105,111,110]) (r:=l.tail) (by unfold aq;rw[if_pos cp.out]) y0 I.out).mono ?_;rintro ev y1 ⟨rfl,hp,hk⟩;have HJ':=zx (D.out.ps I.out hk);have HK':=zx (HK.out.trans hk);clear I D HK c0 z0 lb lg k0 k1 k2 b3 bm lj co cv;have I:=zx hp;have D:=HJ';have HK:=HK';clear hp hk HJ' HK';have HR:=b6;clear b6;have ad:Hid (l.tail.length≤l.length):=zx (by rw[zL];omega);obtain ⟨r0,cg⟩:∃ r0,l.tail=r0:=⟨_,rfl⟩
 rw[cg] at I HR ad;clear cg cp cj b7;have bm:y1.cell? ⟨jb,1,none⟩=some (zW zX 5):=D.out.blk.cell 1;have cq:=D.out.blk.lt;have J:=HR.out;unfold gJ at J;clear HR;have HR:=zx J;clear J;go_upto_region 10 with (fail)
 obtain ⟨A2,c2,hv,-⟩:=ao D.out.o3;subst hv;have fS:y1.cell? ⟨jb,3,none⟩=some (zR A2 (ins).length c2)∧y1.frozen? ⟨jb,3,none⟩=false:=⟨D.out.blk.cell 3,D.out.blk.frozen 3⟩;have lj:=D.out.blk.lt;have aA:=zx (show (ins).length+1≤maxLen∧((ins).length+1)*16≤140737488355328 by have:=a7.out;simp only[maxLen];first|omega|(simp only[zF,zG,zK];omega));have a5:Hid (jb∉[b]):=zx (by have:=D.out.blk.ty.ne I.out.ty (by decide);simpa using this);rcases Z:aj r0 with x|⟨a2,r2⟩
 ·have J:=HR.out
  rw[Z,aD] at J;have HX:=zx J.symm;have HC:Hid (∀ W,aa [] y1 W→Calls zy 157 #[zS (some ⟨b,0,none⟩)] W fun e w'=>bV x e w'∧aa [b] W w'):=zx (fun W z=>bU Z W (I.out.keep z));clear J Z;go_wp2_with fail
  go_region_law (first|(refine step_append_lies _ (by rfl) _ _ _ (by rfl) w0.heap.size 9 i0 _ 1 16 Tryz.underlying55 hi a9 bj bb rfl (by decide) (zR A2 (ins).length c2) (ins).length (strs (ins)) (by rfl) ((D.out.ps I.out A.undrew).o3.alloc _) ⟨w6.heap.size,0,none⟩ 1 1 [zQ (bs [])] (by rfl) rfl (zJ (heap_alloc_new _ _)) (by simp[Value.oneCell']) (by decide) aA.out.1 aA.out.2 (by have:=HK.out.size;have:=A.size;have h9:y1.drew.heap.size=y1.heap.size:=rfl;simp;omega) _ rfl ?_;intro gw b1 w7 O B a1 a6;obtain ⟨b0,bA⟩:=az B (ay ⟨U,a3⟩ _) (fun e=>(av (D.out.ps I.out A.undrew).o3 jb e).ne (D.out.ps I.out A.undrew).blk.ty (by decide) rfl))|(go_simp;go_at_call 157;refine (HC.out _ (zN [] y1).drew).mono ?_;rintro e w6 ⟨⟨gi,rfl,hb⟩,A⟩;obtain ⟨U,a3⟩:=aC A fS a5.out;have bl:jb<w6.heap.size:=zB w6 ⟨jb,3,none⟩ U;dsimp only;(go_loud (refine cK ‹∀ (a:Act) (w:World),wpAny _ _ _ _ _ _ a w→_› (some 64) (zQ (bs [])) ⟨rfl,by rw[HX.out];exact ⟨gi,rfl,hb⟩,HK.out.trans A.undrew⟩ (fun hF=>?_)))))
  all_goals exact hF.out.elim
 have J:=HR.out;rw[Z,au] at J;try dsimp only at J
 clear HR;have HR:=zx J;clear J;have HC:Hid (∀ W,aa [] y1 W→Calls zy 157 #[zS (some ⟨b,0,none⟩)] W fun e w'=>e=zT (zQ (bs a2))∧Ps w' b r2∧aa [b] W w'):=zx (fun W z=>bv Z W (I.out.keep z));have a0:Hid (r2.length≤l.length):=zx (by have:=ad.out;have:=aH Z;omega);clear ad;have ad:=a0;clear a0;clear Z;go_cut [] (fun wx=>∃ b5,ar wx w0.heap.size jb (⟨at_,5,outs,ins++[a2],cols,op,left,right,M⟩:Jb) v2 b5 v4∧Ps wx b r2∧aa [b] w0 wx)
 case first =>
  go_region_law (first|(refine step_append_lies _ (by rfl) _ _ _ (by rfl) w0.heap.size 9 i0 _ 1 16 Tryz.underlying55 hi a9 bj bb rfl (by decide) (zR A2 (ins).length c2) (ins).length (strs (ins)) (by rfl) ((D.out.ps I.out A.undrew).o3.alloc _) ⟨w6.heap.size,0,none⟩ 1 1 [zQ (bs a2)] (by rfl) rfl (zJ (heap_alloc_new _ _)) (by simp[Value.oneCell']) (by decide) aA.out.1 aA.out.2 (by have:=HK.out.size;have:=A.size;have h9:y1.drew.heap.size=y1.heap.size:=rfl;simp;omega) _ rfl ?_;intro gw b1 w7 O B a1 a6;obtain ⟨b0,bA⟩:=az B (ay ⟨U,a3⟩ _) (fun e=>(av (D.out.ps I.out A.undrew).o3 jb e).ne (D.out.ps I.out A.undrew).blk.ty (by decide) rfl))|(go_simp;go_at_call 157;refine (HC.out _ (zN [] y1).drew).mono ?_;rintro e w6 ⟨rfl,bq,A⟩;obtain ⟨U,a3⟩:=aC A fS a5.out;have bl:jb<w6.heap.size:=zB w6 ⟨jb,3,none⟩ U))
  all_goals
   go_wp2;go_meet;have hh:=ar.app3 (D.out.ps I.out A.undrew) bq (HK.out.trans A.undrew) rfl bk.out B rfl O a1 (by simp);exact ⟨_,hh.1,hh.2.1,hh.2.2⟩
 obtain ⟨b5,hj,hp,hk⟩:=hcut;obtain ⟨y2,rfl⟩:∃ y:World,y=wc:=⟨_,rfl⟩
 clear I D HK HC fS lj aA a5;have I:=zx hp;have D:=zx hj;have HK:=zx hk;have bo:Hid ((ins++[a2]).length≤999000+2):=zx (by have:=a7.out;simp only[zF,zG,zK];omega);clear hp hj hk a7;generalize ins++[a2]=il2 at D HR bo;have a7:=bo;clear bo;clear bm cq;rcases Z:aq [44] r2 with x|r3
 ·have J:=HR.out
  rw[Z,aD] at J;have HX:=zx J.symm;have HC:=zx (cE Z y2 I.out);clear J Z;go_wp2_with fail
  refine HC.out.mono ?_;rintro ev w9 ⟨⟨gi,rfl,hb⟩,cx⟩;exact ⟨rfl,by rw[HX.out];exact ⟨gi,rfl,hb⟩,HK.out.trans cx⟩
 have J:=HR.out;rw[Z,au] at J;try dsimp only at J
 clear HR;have HR:=zx J;clear J;have HC:=zx (aX Z y2 I.out);have a0:Hid (r3.length≤l.length):=zx (by have:=ad.out;have:=aL Z;omega);clear Z ad;have ad:=a0;clear a0;go_wp2_with fail
 refine HC.out.mono ?_;rintro ev y3 ⟨rfl,hp,hk⟩;have HJ':=zx (D.out.ps I.out hk);have HK':=zx (HK.out.trans hk);clear I D HK HC;have I:=zx hp;have D:=HJ';have HK:=HK';clear hp hk HJ' HK';go_upto_region 12 with (fail)
 obtain ⟨A4,c4,hv,-⟩:=ao D.out.o3;subst hv;have fS:y3.cell? ⟨jb,3,none⟩=some (zR A4 (il2).length c4)∧y3.frozen? ⟨jb,3,none⟩=false:=⟨D.out.blk.cell 3,D.out.blk.frozen 3⟩;have lj:=D.out.blk.lt;have aA:=zx (show (il2).length+1≤maxLen∧((il2).length+1)*16≤140737488355328 by have:=a7.out;simp only[maxLen];first|omega|(simp only[zF,zG,zK];omega));have a5:Hid (jb∉[b]):=zx (by have:=D.out.blk.ty.ne I.out.ty (by decide);simpa using this);rcases Z:aj r3 with x|⟨a4,r4⟩
 ·have J:=HR.out
  rw[Z,aD] at J;have HX:=zx J.symm;have HC:Hid (∀ W,aa [] y3 W→Calls zy 157 #[zS (some ⟨b,0,none⟩)] W fun e w'=>bV x e w'∧aa [b] W w'):=zx (fun W z=>bU Z W (I.out.keep z));clear J Z;go_wp2_with fail
  go_region_law (first|(refine step_append_lies _ (by rfl) _ _ _ (by rfl) w0.heap.size 9 i0 _ 1 16 Tryz.underlying55 hi a9 bj bb rfl (by decide) (zR A4 (il2).length c4) (il2).length (strs (il2)) (by rfl) ((D.out.ps I.out A.undrew).o3.alloc _) ⟨w6.heap.size,0,none⟩ 1 1 [zQ (bs [])] (by rfl) rfl (zJ (heap_alloc_new _ _)) (by simp[Value.oneCell']) (by decide) aA.out.1 aA.out.2 (by have:=HK.out.size;have:=A.size;have h9:y3.drew.heap.size=y3.heap.size:=rfl;simp;omega) _ rfl ?_;intro gw b1 w7 O B a1 a6;obtain ⟨b0,bA⟩:=az B (ay ⟨U,a3⟩ _) (fun e=>(av (D.out.ps I.out A.undrew).o3 jb e).ne (D.out.ps I.out A.undrew).blk.ty (by decide) rfl))|(go_simp;go_at_call 157;refine (HC.out _ (zN [] y3).drew).mono ?_;rintro e w6 ⟨⟨gi,rfl,hb⟩,A⟩;obtain ⟨U,a3⟩:=aC A fS a5.out;have bl:jb<w6.heap.size:=zB w6 ⟨jb,3,none⟩ U;dsimp only;(go_loud (refine cK ‹∀ (a:Act) (w:World),wpAny _ _ _ _ _ _ a w→_› (some 77) (zQ (bs [])) ⟨rfl,by rw[HX.out];exact ⟨gi,rfl,hb⟩,HK.out.trans A.undrew⟩ (fun hF=>?_)))))
  all_goals exact hF.out.elim
 have J:=HR.out;rw[Z,au] at J;try dsimp only at J
 clear HR;have HR:=zx J;clear J;have HC:Hid (∀ W,aa [] y3 W→Calls zy 157 #[zS (some ⟨b,0,none⟩)] W fun e w'=>e=zT (zQ (bs a4))∧Ps w' b r4∧aa [b] W w'):=zx (fun W z=>bv Z W (I.out.keep z));have a0:Hid (r4.length≤l.length):=zx (by have:=ad.out;have:=aH Z;omega);clear ad;have ad:=a0;clear a0;clear Z;have HX:=zx HR.out.symm;clear HR;go_region_law (first|(refine step_append_lies _ (by rfl) _ _ _ (by rfl) w0.heap.size 9 i0 _ 1 16 Tryz.underlying55 hi a9 bj bb rfl (by decide) (zR A4 (il2).length c4) (il2).length (strs (il2)) (by rfl) ((D.out.ps I.out A.undrew).o3.alloc _) ⟨w6.heap.size,0,none⟩ 1 1 [zQ (bs a4)] (by rfl) rfl (zJ (heap_alloc_new _ _)) (by simp[Value.oneCell']) (by decide) aA.out.1 aA.out.2 (by have:=HK.out.size;have:=A.size;have h9:y3.drew.heap.size=y3.heap.size:=rfl;simp;omega) _ rfl ?_;intro gw b1 w7 O B a1 a6;obtain ⟨b0,bA⟩:=az B (ay ⟨U,a3⟩ _) (fun e=>(av (D.out.ps I.out A.undrew).o3 jb e).ne (D.out.ps I.out A.undrew).blk.ty (by decide) rfl))|(go_simp;go_at_call 157;refine (HC.out _ (zN [] y3).drew).mono ?_;rintro e w6 ⟨rfl,bq,A⟩;obtain ⟨U,a3⟩:=aC A fS a5.out;have bl:jb<w6.heap.size:=zB w6 ⟨jb,3,none⟩ U))
 all_goals
  go_wp2;first|go_end0|refine bodyPost_ret (results_none rfl _ _ _) rfl ?_
  try (have c1:=HCL.out;subst c1)
  have hh:=ar.app3 (D.out.ps I.out A.undrew) bq (HK.out.trans A.undrew) rfl bk.out B rfl O a1 (by simp);exact ⟨by rw[HX.out];exact ⟨rfl,⟨_,_,_,hh.1⟩,hh.2.1⟩,hh.2.2⟩
theorem xe {l:List Tk} {b jb lo:Nat} {v2 v3 v4:Value} (at_ code:Int) (outs ins cols:List Bs) (op:Bs) (left right:Ar) (A:Int) (w0 w:World) (hE:FB w0 lo) (ba:lo≤b) (h:Ps w b l) (U:aa [b] w0 w) (b3:w0.heap.size≤jb) (hj:ar w w0.heap.size jb ⟨at_,code,outs,ins,cols,op,left,right,A⟩ v2 v3 v4) (cq:ins.length≤1000) (cv:cols.length≤1000) (b6:l.length≤1000000) (a7:aQ (ax l).text=1) (a6:(ax l).kind=1) :
  Calls zy 206 #[zS (some ⟨b,0,none⟩),zS (some ⟨jb,0,none⟩)] w fun e w'=>fx (am ⟨at_,code,outs,ins,cols,op,left,right,A⟩ l) b w0.heap.size jb e w'∧aa [b] w0 w':=by
 obtain ⟨i0,hi,bo,ch,b4⟩:=info_parts eF;obtain ⟨R,hR⟩:∃ R,am ⟨at_,code,outs,ins,cols,op,left,right,A⟩ l=R:=⟨_,rfl⟩
 rw[hR];have HE:=zx hE;have J:=zx h;have O:=zx U;have D:=zx hj;have a9:=zx b3;have a3:Hid (ins.length≤999000):=zx (by omega);have co:Hid (cols.length≤999000):=zx (by omega);have c3:=zx b6;have bk:Hid (∀ W,aa [] w W→Calls zy 70 #[zR (some ⟨8,0,none⟩) 10 10,zQ (bs (ax l).text)] W fun e W'=>e=zT (zW zX (cZ (ax l).text))∧W=W'):=zx (fun W q=>ca (ax l).text W ((hE.one ba U).quiet q).env);obtain ⟨q,hq⟩:∃ q,cZ (ax l).text=q:=⟨_,rfl⟩
 rw[hq] at bk;have HQ:=zx hq;obtain ⟨g,o,c,c0,z0,lb,lg,-,hn,hc,bd,k0,k1,k2,-⟩:=h.open';have bm:(0:Int)<(l.length:Int):=by omega
 have f1:w.cell? ⟨jb,1,none⟩=some (zW zX code):=hj.blk.cell 1;have f2:=hj.blk.frozen 1;have lj:=hj.blk.lt;have b0:=zx a7;have bB:Hid ((aj l.tail >>= fun p=>gK ⟨at_,1,outs,ins++[p.1],cols,op,left,right,A⟩ p.2)=R):=zx (by
  rw[←hR];unfold am;rw[a7,if_neg (by rw[a6];decide)];rfl)
 have b7:aG [102,105,108,116,101,114] l=true:=by
  unfold aG;rw[a6,aU a7 (by decide)];rfl
 have ci:=zx b7;have cf:=zx a6;clear hR hE h U hj cq cv b6 b3 hq a7 b7 a6;go_enter Tryz.func206,Tryz.ntmps206
 go_upto_region 0 with (fail)
 go_cut [] (fun wx=>wx=(w.setCell ⟨jb,1,none⟩ (zW zX (max q 0))).drew)
 case first =>
  go_region_law (first|(go_simp;go_at_call 70;refine (bk.out _ (zN [] w).drew).mono ?_;rintro e w6 ⟨rfl,rfl⟩))
  all_goals
   go_wp2;go_meet;exact rfl
 subst hcut;clear c0 z0 lb lg hn hc bd k0 k1 k2 bm lj f1 f2 bk;have a4:aa [jb] w ((w.setCell ⟨jb,1,none⟩ (zW zX (max q 0))).drew):=((zN _ _).setCell (.inl (by simp)) _).drew;have hj':ar ((w.setCell ⟨jb,1,none⟩ (zW zX (max q 0))).drew) w0.heap.size jb ⟨at_,max q 0,outs,ins,cols,op,left,right,A⟩ v2 v3 v4:=D.out.box a4 ((D.out.blk.set 1 (zW zX (max q 0))).congr (by rfl)) rfl rfl rfl;have hp':=J.out.box D.out a4;have hk':=O.out.box a9.out a4;have hm:max q 0=1:=by rw[←HQ.out,cS,b0.out];rfl
 rw[hm] at hj' hp' hk' ⊢;clear hm a4 D J O;obtain ⟨y0,hy⟩:∃ x,(w.setCell ⟨jb,1,none⟩ (zW zX 1)).drew=x:=⟨_,rfl⟩
 rw[hy] at hj' hp' hk' ⊢;have D:=zx hj';have J:=zx hp';have O:=zx hk';have a5:y0.cell? ⟨jb,1,none⟩=some (zW zX 1):=hj'.blk.cell 1;have lj:=hj'.blk.lt;obtain ⟨g,o,c,c0,z0,lb,lg,-,hn,hc,bd,k0,k1,k2,-⟩:=hp'.open';have bm:(0:Int)<(l.length:Int):=by omega
 clear hy hj' hp' hk' hn hc bd HQ;rw[cf.out] at k0;have wd:=(HE.out.one ba O.out).env.words 1 (by decide);have cg:y0.cell? ⟨8,1,none⟩=some (zQ (bs [102,105,108,116,101,114])):=wd;have c1:=zB _ _ cg;clear wd;go_wp2_with fail
 refine (aX (s:=[102,105,108,116,101,114]) (r:=l.tail) (by unfold aq;rw[if_pos ci.out]) y0 J.out).mono ?_;rintro ev y1 ⟨rfl,hp,U⟩;have HJ':=zx (D.out.ps J.out U);have HK':=zx (O.out.trans U);clear J D O c0 z0 lb lg k0 k1 k2 bm a5 lj cg c1;have J:=zx hp;have D:=HJ';have O:=HK';clear hp U HJ' HK';have HR:=bB;clear bB;have ad:Hid (l.tail.length≤l.length):=zx (by rw[zL];omega);obtain ⟨r0,b5⟩:∃ r0,l.tail=r0:=⟨_,rfl⟩
 rw[b5] at J HR ad;clear b5 ci cf b0;have a5:y1.cell? ⟨jb,1,none⟩=some (zW zX 1):=D.out.blk.cell 1;have bq:=D.out.blk.lt;go_upto_region 13 with (fail)
 obtain ⟨A2,c2,hv,-⟩:=ao D.out.o3;subst hv;have fS:y1.cell? ⟨jb,3,none⟩=some (zR A2 (ins).length c2)∧y1.frozen? ⟨jb,3,none⟩=false:=⟨D.out.blk.cell 3,D.out.blk.frozen 3⟩;have lj:=D.out.blk.lt;have aA:=zx (show (ins).length+1≤maxLen∧((ins).length+1)*16≤140737488355328 by have:=a3.out;simp only[maxLen];first|omega|(simp only[zF,zG,zK];omega));have bl:Hid (jb∉[b]):=zx (by have:=D.out.blk.ty.ne J.out.ty (by decide);simpa using this);rcases Z:aj r0 with x|⟨a2,r2⟩
 ·have M:=HR.out
  rw[Z,aD] at M;have HX:=zx M.symm;have HC:Hid (∀ W,aa [] y1 W→Calls zy 157 #[zS (some ⟨b,0,none⟩)] W fun e w'=>bV x e w'∧aa [b] W w'):=zx (fun W z=>bU Z W (J.out.keep z));clear M Z;go_wp2_with fail
  go_region_law (first|(refine step_append_lies _ (by rfl) _ _ _ (by rfl) w0.heap.size 9 i0 _ 1 16 Tryz.underlying55 hi bo ch b4 rfl (by decide) (zR A2 (ins).length c2) (ins).length (strs (ins)) (by rfl) ((D.out.ps J.out B.undrew).o3.alloc _) ⟨w6.heap.size,0,none⟩ 1 1 [zQ (bs [])] (by rfl) rfl (zJ (heap_alloc_new _ _)) (by simp[Value.oneCell']) (by decide) aA.out.1 aA.out.2 (by have:=O.out.size;have:=B.size;have h9:y1.drew.heap.size=y1.heap.size:=rfl;simp;omega) _ rfl ?_;intro gw c5 w7 a0 I a8 bn;obtain ⟨cx,cu⟩:=az I (ay ⟨a1,bb⟩ _) (fun e=>(av (D.out.ps J.out B.undrew).o3 jb e).ne (D.out.ps J.out B.undrew).blk.ty (by decide) rfl))|(go_simp;go_at_call 157;refine (HC.out _ (zN [] y1).drew).mono ?_;rintro e w6 ⟨⟨gi,rfl,hb⟩,B⟩;obtain ⟨a1,bb⟩:=aC B fS bl.out;have cj:jb<w6.heap.size:=zB w6 ⟨jb,3,none⟩ a1;dsimp only;(go_loud (refine cK ‹∀ (a:Act) (w:World),wpAny _ _ _ _ _ _ a w→_› (some 88) (zQ (bs [])) ⟨rfl,by rw[HX.out];exact ⟨gi,rfl,hb⟩,O.out.trans B.undrew⟩ (fun hF=>?_)))))
  all_goals exact hF.out.elim
 have M:=HR.out;rw[Z,au] at M;try dsimp only at M
 clear HR;have HR:=zx M;clear M;have HC:Hid (∀ W,aa [] y1 W→Calls zy 157 #[zS (some ⟨b,0,none⟩)] W fun e w'=>e=zT (zQ (bs a2))∧Ps w' b r2∧aa [b] W w'):=zx (fun W z=>bv Z W (J.out.keep z));have b1:Hid (r2.length≤l.length):=zx (by have:=ad.out;have:=aH Z;omega);clear ad;have ad:=b1;clear b1;clear Z;go_cut [] (fun wx=>∃ bA,ar wx w0.heap.size jb (⟨at_,1,outs,ins++[a2],cols,op,left,right,A⟩:Jb) v2 bA v4∧Ps wx b r2∧aa [b] w0 wx)
 case first =>
  go_region_law (first|(refine step_append_lies _ (by rfl) _ _ _ (by rfl) w0.heap.size 9 i0 _ 1 16 Tryz.underlying55 hi bo ch b4 rfl (by decide) (zR A2 (ins).length c2) (ins).length (strs (ins)) (by rfl) ((D.out.ps J.out B.undrew).o3.alloc _) ⟨w6.heap.size,0,none⟩ 1 1 [zQ (bs a2)] (by rfl) rfl (zJ (heap_alloc_new _ _)) (by simp[Value.oneCell']) (by decide) aA.out.1 aA.out.2 (by have:=O.out.size;have:=B.size;have h9:y1.drew.heap.size=y1.heap.size:=rfl;simp;omega) _ rfl ?_;intro gw c5 w7 a0 I a8 bn;obtain ⟨cx,cu⟩:=az I (ay ⟨a1,bb⟩ _) (fun e=>(av (D.out.ps J.out B.undrew).o3 jb e).ne (D.out.ps J.out B.undrew).blk.ty (by decide) rfl))|(go_simp;go_at_call 157;refine (HC.out _ (zN [] y1).drew).mono ?_;rintro e w6 ⟨rfl,ct,B⟩;obtain ⟨a1,bb⟩:=aC B fS bl.out;have cj:jb<w6.heap.size:=zB w6 ⟨jb,3,none⟩ a1))
  all_goals
   go_wp2;go_meet;have hh:=ar.app3 (D.out.ps J.out B.undrew) ct (O.out.trans B.undrew) rfl a9.out I rfl a0 a8 (by simp);exact ⟨_,hh.1,hh.2.1,hh.2.2⟩
 obtain ⟨bA,hj,hp,U⟩:=hcut;obtain ⟨y2,rfl⟩:∃ y:World,y=wc:=⟨_,rfl⟩
 clear J D O HC fS lj aA bl;have J:=zx hp;have D:=zx hj;have O:=zx U;have bj:Hid ((ins++[a2]).length≤999000+2):=zx (by have:=a3.out;simp only[zF,zG,zK];omega);clear hp hj U a3;generalize ins++[a2]=il2 at D HR bj;have a3:=bj;clear bj;clear a5 bq;have a5:y2.cell? ⟨jb,1,none⟩=some (zW zX 1):=D.out.blk.cell 1;have bq:=D.out.blk.lt;have M:=HR.out;clear HR;have HR:Hid (dJ (⟨at_,1,outs,il2,cols,op,left,right,A⟩:Jb) r2=R):=zx M;clear M;have hc:=mQ at_ 1 outs (il2) (cols) op left right A w0 y2 HE.out ba J.out O.out a9.out D.out (by have:=a3.out;first|omega|(simp only[zF,zG,zK];omega)) (by have:=co.out;first|omega|(simp only[zF,zG,zK];omega)) (zA ad.out c3.out);have M:=HR.out;rcases Z:dJ (⟨at_,1,outs,il2,cols,op,left,right,A⟩:Jb) r2 with x|⟨j3,r3⟩
 ·rw[Z] at M hc
  have HX:=zx M.symm;have cp:=zx hc;clear M Z hc;go_wp2_with fail
  refine cp.out.mono ?_;rintro ev w9 ⟨⟨gi,rfl,hb⟩,c4⟩;exact ⟨rfl,by rw[HX.out];exact ⟨gi,rfl,hb⟩,c4⟩
 rw[Z] at M hc;have HX:=zx M.symm;have HC:=zx hc;clear M Z hc;go_wp2_with fail
 refine HC.out.mono ?_;rintro ev y3 ⟨⟨rfl,⟨va,vb,vc,hj⟩,hp⟩,U⟩;go_wp2;first|go_end0|refine bodyPost_ret (results_none rfl _ _ _) rfl ?_
 exact ⟨by rw[HX.out];exact ⟨rfl,⟨_,_,_,hj⟩,hp⟩,U⟩
theorem xg {l:List Tk} {b jb lo:Nat} {v2 v3 v4:Value} (at_ code:Int) (outs ins cols:List Bs) (op:Bs) (left right:Ar) (A:Int) (w0 w:World) (hE:FB w0 lo) (ba:lo≤b) (h:Ps w b l) (U:aa [b] w0 w) (b3:w0.heap.size≤jb) (hj:ar w w0.heap.size jb ⟨at_,code,outs,ins,cols,op,left,right,A⟩ v2 v3 v4) (cq:ins.length≤1000) (cv:cols.length≤1000) (b6:l.length≤1000000) (a7:aQ (ax l).text=9) (a6:(ax l).kind=1) :
  Calls zy 206 #[zS (some ⟨b,0,none⟩),zS (some ⟨jb,0,none⟩)] w fun e w'=>fx (am ⟨at_,code,outs,ins,cols,op,left,right,A⟩ l) b w0.heap.size jb e w'∧aa [b] w0 w':=by
 obtain ⟨i0,hi,bo,ch,b4⟩:=info_parts eF;obtain ⟨R,hR⟩:∃ R,am ⟨at_,code,outs,ins,cols,op,left,right,A⟩ l=R:=⟨_,rfl⟩
 rw[hR];have HE:=zx hE;have J:=zx h;have O:=zx U;have D:=zx hj;have a9:=zx b3;have a3:Hid (ins.length≤999000):=zx (by omega);have co:Hid (cols.length≤999000):=zx (by omega);have c3:=zx b6;have bk:Hid (∀ W,aa [] w W→Calls zy 70 #[zR (some ⟨8,0,none⟩) 10 10,zQ (bs (ax l).text)] W fun e W'=>e=zT (zW zX (cZ (ax l).text))∧W=W'):=zx (fun W q=>ca (ax l).text W ((hE.one ba U).quiet q).env);obtain ⟨q,hq⟩:∃ q,cZ (ax l).text=q:=⟨_,rfl⟩
 rw[hq] at bk;have HQ:=zx hq;obtain ⟨g,o,c,c0,z0,lb,lg,-,hn,hc,bd,k0,k1,k2,-⟩:=h.open';have bm:(0:Int)<(l.length:Int):=by omega
 have f1:w.cell? ⟨jb,1,none⟩=some (zW zX code):=hj.blk.cell 1;have f2:=hj.blk.frozen 1;have lj:=hj.blk.lt;have b0:=zx a7;have bB:Hid ((aj l.tail >>= fun p=>gK ⟨at_,9,outs,ins++[p.1],cols,op,left,right,A⟩ p.2)=R):=zx (by
  rw[←hR];unfold am;rw[a7,if_neg (by rw[a6];decide)];rfl)
 have b7:aG [115,112,108,105,116] l=true:=by
  unfold aG;rw[a6,aU a7 (by decide)];rfl
 have ci:=zx b7;have cf:=zx a6;clear hR hE h U hj cq cv b6 b3 hq a7 b7 a6;go_enter Tryz.func206,Tryz.ntmps206
 go_upto_region 0 with (fail)
 go_cut [] (fun wx=>wx=(w.setCell ⟨jb,1,none⟩ (zW zX (max q 0))).drew)
 case first =>
  go_region_law (first|(go_simp;go_at_call 70;refine (bk.out _ (zN [] w).drew).mono ?_;rintro e w6 ⟨rfl,rfl⟩))
  all_goals
   go_wp2;go_meet;exact rfl
 subst hcut;clear c0 z0 lb lg hn hc bd k0 k1 k2 bm lj f1 f2 bk;have a4:aa [jb] w ((w.setCell ⟨jb,1,none⟩ (zW zX (max q 0))).drew):=((zN _ _).setCell (.inl (by simp)) _).drew;have hj':ar ((w.setCell ⟨jb,1,none⟩ (zW zX (max q 0))).drew) w0.heap.size jb ⟨at_,max q 0,outs,ins,cols,op,left,right,A⟩ v2 v3 v4:=D.out.box a4 ((D.out.blk.set 1 (zW zX (max q 0))).congr (by rfl)) rfl rfl rfl;have hp':=J.out.box D.out a4;have hk':=O.out.box a9.out a4;have hm:max q 0=9:=by rw[←HQ.out,cS,b0.out];rfl
 rw[hm] at hj' hp' hk' ⊢;clear hm a4 D J O;obtain ⟨y0,hy⟩:∃ x,(w.setCell ⟨jb,1,none⟩ (zW zX 9)).drew=x:=⟨_,rfl⟩
 rw[hy] at hj' hp' hk' ⊢;have D:=zx hj';have J:=zx hp';have O:=zx hk';have a5:y0.cell? ⟨jb,1,none⟩=some (zW zX 9):=hj'.blk.cell 1;have lj:=hj'.blk.lt;obtain ⟨g,o,c,c0,z0,lb,lg,-,hn,hc,bd,k0,k1,k2,-⟩:=hp'.open';have bm:(0:Int)<(l.length:Int):=by omega
 clear hy hj' hp' hk' hn hc bd HQ;rw[cf.out] at k0;have wd:=(HE.out.one ba O.out).env.words 9 (by decide);have cg:y0.cell? ⟨8,9,none⟩=some (zQ (bs [115,112,108,105,116])):=wd;have c1:=zB _ _ cg;clear wd;go_wp2_with fail
 refine (aX (s:=[115,112,108,105,116]) (r:=l.tail) (by unfold aq;rw[if_pos ci.out]) y0 J.out).mono ?_;rintro ev y1 ⟨rfl,hp,U⟩;have HJ':=zx (D.out.ps J.out U);have HK':=zx (O.out.trans U);clear J D O c0 z0 lb lg k0 k1 k2 bm a5 lj cg c1;have J:=zx hp;have D:=HJ';have O:=HK';clear hp U HJ' HK';have HR:=bB;clear bB;have ad:Hid (l.tail.length≤l.length):=zx (by rw[zL];omega);obtain ⟨r0,b5⟩:∃ r0,l.tail=r0:=⟨_,rfl⟩
 rw[b5] at J HR ad;clear b5 ci cf b0;have a5:y1.cell? ⟨jb,1,none⟩=some (zW zX 9):=D.out.blk.cell 1;have bq:=D.out.blk.lt;go_upto_region 13 with (fail)
 obtain ⟨A2,c2,hv,-⟩:=ao D.out.o3;subst hv;have fS:y1.cell? ⟨jb,3,none⟩=some (zR A2 (ins).length c2)∧y1.frozen? ⟨jb,3,none⟩=false:=⟨D.out.blk.cell 3,D.out.blk.frozen 3⟩;have lj:=D.out.blk.lt;have aA:=zx (show (ins).length+1≤maxLen∧((ins).length+1)*16≤140737488355328 by have:=a3.out;simp only[maxLen];first|omega|(simp only[zF,zG,zK];omega));have bl:Hid (jb∉[b]):=zx (by have:=D.out.blk.ty.ne J.out.ty (by decide);simpa using this);rcases Z:aj r0 with x|⟨a2,r2⟩
 ·have M:=HR.out
  rw[Z,aD] at M;have HX:=zx M.symm;have HC:Hid (∀ W,aa [] y1 W→Calls zy 157 #[zS (some ⟨b,0,none⟩)] W fun e w'=>bV x e w'∧aa [b] W w'):=zx (fun W z=>bU Z W (J.out.keep z));clear M Z;go_wp2_with fail
  go_region_law (first|(refine step_append_lies _ (by rfl) _ _ _ (by rfl) w0.heap.size 9 i0 _ 1 16 Tryz.underlying55 hi bo ch b4 rfl (by decide) (zR A2 (ins).length c2) (ins).length (strs (ins)) (by rfl) ((D.out.ps J.out B.undrew).o3.alloc _) ⟨w6.heap.size,0,none⟩ 1 1 [zQ (bs [])] (by rfl) rfl (zJ (heap_alloc_new _ _)) (by simp[Value.oneCell']) (by decide) aA.out.1 aA.out.2 (by have:=O.out.size;have:=B.size;have h9:y1.drew.heap.size=y1.heap.size:=rfl;simp;omega) _ rfl ?_;intro gw c5 w7 a0 I a8 bn;obtain ⟨cx,cu⟩:=az I (ay ⟨a1,bb⟩ _) (fun e=>(av (D.out.ps J.out B.undrew).o3 jb e).ne (D.out.ps J.out B.undrew).blk.ty (by decide) rfl))|(go_simp;go_at_call 157;refine (HC.out _ (zN [] y1).drew).mono ?_;rintro e w6 ⟨⟨gi,rfl,hb⟩,B⟩;obtain ⟨a1,bb⟩:=aC B fS bl.out;have cj:jb<w6.heap.size:=zB w6 ⟨jb,3,none⟩ a1;dsimp only;(go_loud (refine cK ‹∀ (a:Act) (w:World),wpAny _ _ _ _ _ _ a w→_› (some 88) (zQ (bs [])) ⟨rfl,by rw[HX.out];exact ⟨gi,rfl,hb⟩,O.out.trans B.undrew⟩ (fun hF=>?_)))))
  all_goals exact hF.out.elim
 have M:=HR.out;rw[Z,au] at M;try dsimp only at M
 clear HR;have HR:=zx M;clear M;have HC:Hid (∀ W,aa [] y1 W→Calls zy 157 #[zS (some ⟨b,0,none⟩)] W fun e w'=>e=zT (zQ (bs a2))∧Ps w' b r2∧aa [b] W w'):=zx (fun W z=>bv Z W (J.out.keep z));have b1:Hid (r2.length≤l.length):=zx (by have:=ad.out;have:=aH Z;omega);clear ad;have ad:=b1;clear b1;clear Z;go_cut [] (fun wx=>∃ bA,ar wx w0.heap.size jb (⟨at_,9,outs,ins++[a2],cols,op,left,right,A⟩:Jb) v2 bA v4∧Ps wx b r2∧aa [b] w0 wx)
 case first =>
  go_region_law (first|(refine step_append_lies _ (by rfl) _ _ _ (by rfl) w0.heap.size 9 i0 _ 1 16 Tryz.underlying55 hi bo ch b4 rfl (by decide) (zR A2 (ins).length c2) (ins).length (strs (ins)) (by rfl) ((D.out.ps J.out B.undrew).o3.alloc _) ⟨w6.heap.size,0,none⟩ 1 1 [zQ (bs a2)] (by rfl) rfl (zJ (heap_alloc_new _ _)) (by simp[Value.oneCell']) (by decide) aA.out.1 aA.out.2 (by have:=O.out.size;have:=B.size;have h9:y1.drew.heap.size=y1.heap.size:=rfl;simp;omega) _ rfl ?_;intro gw c5 w7 a0 I a8 bn;obtain ⟨cx,cu⟩:=az I (ay ⟨a1,bb⟩ _) (fun e=>(av (D.out.ps J.out B.undrew).o3 jb e).ne (D.out.ps J.out B.undrew).blk.ty (by decide) rfl))|(go_simp;go_at_call 157;refine (HC.out _ (zN [] y1).drew).mono ?_;rintro e w6 ⟨rfl,ct,B⟩;obtain ⟨a1,bb⟩:=aC B fS bl.out;have cj:jb<w6.heap.size:=zB w6 ⟨jb,3,none⟩ a1))
  all_goals
   go_wp2;go_meet;have hh:=ar.app3 (D.out.ps J.out B.undrew) ct (O.out.trans B.undrew) rfl a9.out I rfl a0 a8 (by simp);exact ⟨_,hh.1,hh.2.1,hh.2.2⟩
 obtain ⟨bA,hj,hp,U⟩:=hcut;obtain ⟨y2,rfl⟩:∃ y:World,y=wc:=⟨_,rfl⟩
 clear J D O HC fS lj aA bl;have J:=zx hp;have D:=zx hj;have O:=zx U;have bj:Hid ((ins++[a2]).length≤999000+2):=zx (by have:=a3.out;simp only[zF,zG,zK];omega);clear hp hj U a3;generalize ins++[a2]=il2 at D HR bj;have a3:=bj;clear bj;clear a5 bq;have a5:y2.cell? ⟨jb,1,none⟩=some (zW zX 9):=D.out.blk.cell 1;have bq:=D.out.blk.lt;have M:=HR.out;clear HR;have HR:Hid (dJ (⟨at_,9,outs,il2,cols,op,left,right,A⟩:Jb) r2=R):=zx M;clear M;have hc:=mQ at_ 9 outs (il2) (cols) op left right A w0 y2 HE.out ba J.out O.out a9.out D.out (by have:=a3.out;first|omega|(simp only[zF,zG,zK];omega)) (by have:=co.out;first|omega|(simp only[zF,zG,zK];omega)) (zA ad.out c3.out);have M:=HR.out;rcases Z:dJ (⟨at_,9,outs,il2,cols,op,left,right,A⟩:Jb) r2 with x|⟨j3,r3⟩
 ·rw[Z] at M hc
  have HX:=zx M.symm;have cp:=zx hc;clear M Z hc;go_wp2_with fail
  refine cp.out.mono ?_;rintro ev w9 ⟨⟨gi,rfl,hb⟩,c4⟩;exact ⟨rfl,by rw[HX.out];exact ⟨gi,rfl,hb⟩,c4⟩
 rw[Z] at M hc;have HX:=zx M.symm;have HC:=zx hc;clear M Z hc;go_wp2_with fail
 refine HC.out.mono ?_;rintro ev y3 ⟨⟨rfl,⟨va,vb,vc,hj⟩,hp⟩,U⟩;go_wp2;first|go_end0|refine bodyPost_ret (results_none rfl _ _ _) rfl ?_
 exact ⟨by rw[HX.out];exact ⟨rfl,⟨_,_,_,hj⟩,hp⟩,U⟩
theorem xh {l:List Tk} {b jb lo:Nat} {v2 v3 v4:Value} (at_ code:Int) (outs ins cols:List Bs) (op:Bs) (left right:Ar) (A:Int) (w0 w:World) (hE:FB w0 lo) (bj:lo≤b) (h:Ps w b l) (hk:aa [b] w0 w) (bB:w0.heap.size≤jb) (hj:ar w w0.heap.size jb ⟨at_,code,outs,ins,cols,op,left,right,A⟩ v2 v3 v4) (ch:ins.length≤1000) (co:cols.length≤1000) (b3:l.length≤1000000) (a4:aQ (ax l).text=6) (a1:(ax l).kind=1) :
  Calls zy 206 #[zS (some ⟨b,0,none⟩),zS (some ⟨jb,0,none⟩)] w fun e w'=>fx (am ⟨at_,code,outs,ins,cols,op,left,right,A⟩ l) b w0.heap.size jb e w'∧aa [b] w0 w':=by
 obtain ⟨i0,hi,bl,b7,b0⟩:=info_parts eF;obtain ⟨R,hR⟩:∃ R,am ⟨at_,code,outs,ins,cols,op,left,right,A⟩ l=R:=⟨_,rfl⟩
 rw[hR];have HE:=zx hE;have J:=zx h;have M:=zx hk;have D:=zx hj;have bd:=zx bB;have a3:Hid (ins.length≤999000):=zx (by omega);have cu:Hid (cols.length≤999000):=zx (by omega);have cv:=zx b3;have a9:Hid (∀ W,aa [] w W→Calls zy 70 #[zR (some ⟨8,0,none⟩) 10 10,zQ (bs (ax l).text)] W fun e W'=>e=zT (zW zX (cZ (ax l).text))∧W=W'):=zx (fun W q=>ca (ax l).text W ((hE.one bj hk).quiet q).env);obtain ⟨q,hq⟩:∃ q,cZ (ax l).text=q:=⟨_,rfl⟩
 rw[hq] at a9;have HQ:=zx hq;obtain ⟨g,o,c,c0,z0,lb,lg,-,hn,hc,a7,k0,k1,k2,-⟩:=h.open';have bb:(0:Int)<(l.length:Int):=by omega
 have f1:w.cell? ⟨jb,1,none⟩=some (zW zX code):=hj.blk.cell 1;have f2:=hj.blk.frozen 1;have lj:=hj.blk.lt;have bq:=zx a4;have bo:Hid ((aj l.tail >>= fun p=>gK ⟨at_,6,outs,ins++[p.1],cols,op,left,right,A⟩ p.2)=R):=zx (by
  rw[←hR];unfold am;rw[a4,if_neg (by rw[a1];decide)];rfl)
 have b4:aG [100,105,115,116,105,110,99,116] l=true:=by
  unfold aG;rw[a1,aU a4 (by decide)];rfl
 have cf:=zx b4;have b5:=zx a1;clear hR hE h hk hj ch co b3 bB hq a4 b4 a1;go_enter Tryz.func206,Tryz.ntmps206
 go_upto_region 0 with (fail)
 go_cut [] (fun wx=>wx=(w.setCell ⟨jb,1,none⟩ (zW zX (max q 0))).drew)
 case first =>
  go_region_law (first|(go_simp;go_at_call 70;refine (a9.out _ (zN [] w).drew).mono ?_;rintro e w6 ⟨rfl,rfl⟩))
  all_goals
   go_wp2;go_meet;exact rfl
 subst hcut;clear c0 z0 lb lg hn hc a7 k0 k1 k2 bb lj f1 f2 a9;have aA:aa [jb] w ((w.setCell ⟨jb,1,none⟩ (zW zX (max q 0))).drew):=((zN _ _).setCell (.inl (by simp)) _).drew;have hj':ar ((w.setCell ⟨jb,1,none⟩ (zW zX (max q 0))).drew) w0.heap.size jb ⟨at_,max q 0,outs,ins,cols,op,left,right,A⟩ v2 v3 v4:=D.out.box aA ((D.out.blk.set 1 (zW zX (max q 0))).congr (by rfl)) rfl rfl rfl;have hp':=J.out.box D.out aA;have hk':=M.out.box bd.out aA;have hm:max q 0=6:=by rw[←HQ.out,cS,bq.out];rfl
 rw[hm] at hj' hp' hk' ⊢;clear hm aA D J M;obtain ⟨y0,hy⟩:∃ x,(w.setCell ⟨jb,1,none⟩ (zW zX 6)).drew=x:=⟨_,rfl⟩
 rw[hy] at hj' hp' hk' ⊢;have D:=zx hj';have J:=zx hp';have M:=zx hk';have a0:y0.cell? ⟨jb,1,none⟩=some (zW zX 6):=hj'.blk.cell 1;have lj:=hj'.blk.lt;obtain ⟨g,o,c,c0,z0,lb,lg,-,hn,hc,a7,k0,k1,k2,-⟩:=hp'.open';have bb:(0:Int)<(l.length:Int):=by omega
 clear hy hj' hp' hk' hn hc a7 HQ;rw[b5.out] at k0;have wd:=(HE.out.one bj M.out).env.words 6 (by decide);have b6:y0.cell? ⟨8,6,none⟩=some (zQ (bs [100,105,115,116,105,110,99,116])):=wd;have cq:=zB _ _ b6;clear wd;go_wp2_with fail
 refine (aX (s:=[100,105,115,116,105,110,99,116]) (r:=l.tail) (by unfold aq;rw[if_pos cf.out]) y0 J.out).mono ?_;rintro ev y1 ⟨rfl,hp,hk⟩;have HJ':=zx (D.out.ps J.out hk);have HK':=zx (M.out.trans hk);clear J D M c0 z0 lb lg k0 k1 k2 bb a0 lj b6 cq;have J:=zx hp;have D:=HJ';have M:=HK';clear hp hk HJ' HK';have HR:=bo;clear bo;have ad:Hid (l.tail.length≤l.length):=zx (by rw[zL];omega);obtain ⟨r0,b1⟩:∃ r0,l.tail=r0:=⟨_,rfl⟩
 rw[b1] at J HR ad;clear b1 cf b5 bq;have a0:y1.cell? ⟨jb,1,none⟩=some (zW zX 6):=D.out.blk.cell 1;have bm:=D.out.blk.lt;go_upto_region 13 with (fail)
 obtain ⟨A2,c2,hv,-⟩:=ao D.out.o3;subst hv;have fS:y1.cell? ⟨jb,3,none⟩=some (zR A2 (ins).length c2)∧y1.frozen? ⟨jb,3,none⟩=false:=⟨D.out.blk.cell 3,D.out.blk.frozen 3⟩;have lj:=D.out.blk.lt;have O:=zx (show (ins).length+1≤maxLen∧((ins).length+1)*16≤140737488355328 by have:=a3.out;simp only[maxLen];first|omega|(simp only[zF,zG,zK];omega));have ba:Hid (jb∉[b]):=zx (by have:=D.out.blk.ty.ne J.out.ty (by decide);simpa using this);rcases hS:aj r0 with x|⟨a2,r2⟩
 ·have hr:=HR.out
  rw[hS,aD] at hr;have HX:=zx hr.symm;have HC:Hid (∀ W,aa [] y1 W→Calls zy 157 #[zS (some ⟨b,0,none⟩)] W fun e w'=>bV x e w'∧aa [b] W w'):=zx (fun W z=>bU hS W (J.out.keep z));clear hr hS;go_wp2_with fail
  go_region_law (first|(refine step_append_lies _ (by rfl) _ _ _ (by rfl) w0.heap.size 9 i0 _ 1 16 Tryz.underlying55 hi bl b7 b0 rfl (by decide) (zR A2 (ins).length c2) (ins).length (strs (ins)) (by rfl) ((D.out.ps J.out B.undrew).o3.alloc _) ⟨w6.heap.size,0,none⟩ 1 1 [zQ (bs [])] (by rfl) rfl (zJ (heap_alloc_new _ _)) (by simp[Value.oneCell']) (by decide) O.out.1 O.out.2 (by have:=M.out.size;have:=B.size;have h9:y1.drew.heap.size=y1.heap.size:=rfl;simp;omega) _ rfl ?_;intro gw ct w7 U I a5 bk;obtain ⟨cp,cj⟩:=az I (ay ⟨Z,a6⟩ _) (fun e=>(av (D.out.ps J.out B.undrew).o3 jb e).ne (D.out.ps J.out B.undrew).blk.ty (by decide) rfl))|(go_simp;go_at_call 157;refine (HC.out _ (zN [] y1).drew).mono ?_;rintro e w6 ⟨⟨gi,rfl,hb⟩,B⟩;obtain ⟨Z,a6⟩:=aC B fS ba.out;have cg:jb<w6.heap.size:=zB w6 ⟨jb,3,none⟩ Z;dsimp only;(go_loud (refine cK ‹∀ (a:Act) (w:World),wpAny _ _ _ _ _ _ a w→_› (some 88) (zQ (bs [])) ⟨rfl,by rw[HX.out];exact ⟨gi,rfl,hb⟩,M.out.trans B.undrew⟩ (fun hF=>?_)))))
  all_goals exact hF.out.elim
 have hr:=HR.out;rw[hS,au] at hr;try dsimp only at hr
 clear HR;have HR:=zx hr;clear hr;have HC:Hid (∀ W,aa [] y1 W→Calls zy 157 #[zS (some ⟨b,0,none⟩)] W fun e w'=>e=zT (zQ (bs a2))∧Ps w' b r2∧aa [b] W w'):=zx (fun W z=>bv hS W (J.out.keep z));have bA:Hid (r2.length≤l.length):=zx (by have:=ad.out;have:=aH hS;omega);clear ad;have ad:=bA;clear bA;clear hS;go_cut [] (fun wx=>∃ bn,ar wx w0.heap.size jb (⟨at_,6,outs,ins++[a2],cols,op,left,right,A⟩:Jb) v2 bn v4∧Ps wx b r2∧aa [b] w0 wx)
 case first =>
  go_region_law (first|(refine step_append_lies _ (by rfl) _ _ _ (by rfl) w0.heap.size 9 i0 _ 1 16 Tryz.underlying55 hi bl b7 b0 rfl (by decide) (zR A2 (ins).length c2) (ins).length (strs (ins)) (by rfl) ((D.out.ps J.out B.undrew).o3.alloc _) ⟨w6.heap.size,0,none⟩ 1 1 [zQ (bs a2)] (by rfl) rfl (zJ (heap_alloc_new _ _)) (by simp[Value.oneCell']) (by decide) O.out.1 O.out.2 (by have:=M.out.size;have:=B.size;have h9:y1.drew.heap.size=y1.heap.size:=rfl;simp;omega) _ rfl ?_;intro gw ct w7 U I a5 bk;obtain ⟨cp,cj⟩:=az I (ay ⟨Z,a6⟩ _) (fun e=>(av (D.out.ps J.out B.undrew).o3 jb e).ne (D.out.ps J.out B.undrew).blk.ty (by decide) rfl))|(go_simp;go_at_call 157;refine (HC.out _ (zN [] y1).drew).mono ?_;rintro e w6 ⟨rfl,ci,B⟩;obtain ⟨Z,a6⟩:=aC B fS ba.out;have cg:jb<w6.heap.size:=zB w6 ⟨jb,3,none⟩ Z))
  all_goals
   go_wp2;go_meet;have hh:=ar.app3 (D.out.ps J.out B.undrew) ci (M.out.trans B.undrew) rfl bd.out I rfl U a5 (by simp);exact ⟨_,hh.1,hh.2.1,hh.2.2⟩
 obtain ⟨bn,hj,hp,hk⟩:=hcut;obtain ⟨y2,rfl⟩:∃ y:World,y=wc:=⟨_,rfl⟩
 clear J D M HC fS lj O ba;have J:=zx hp;have D:=zx hj;have M:=zx hk;have a8:Hid ((ins++[a2]).length≤999000+2):=zx (by have:=a3.out;simp only[zF,zG,zK];omega);clear hp hj hk a3;generalize ins++[a2]=il2 at D HR a8;have a3:=a8;clear a8;clear a0 bm;have a0:y2.cell? ⟨jb,1,none⟩=some (zW zX 6):=D.out.blk.cell 1;have bm:=D.out.blk.lt;have hr:=HR.out;clear HR;have HR:Hid ((.ok ((⟨at_,6,outs,il2,cols,op,left,right,A⟩:Jb),r2):Except (Int×Int) (Jb×List Tk))=R):=zx hr;clear hr;have HX:=zx HR.out.symm;clear HR;go_wp2;first|go_end0|refine bodyPost_ret (results_none rfl _ _ _) rfl ?_
 exact ⟨by rw[HX.out];exact ⟨rfl,⟨_,_,_,D.out⟩,J.out⟩,M.out⟩
theorem xi {l:List Tk} {b jb lo:Nat} {v2 v3 v4:Value} (at_ code:Int) (outs ins cols:List Bs) (op:Bs) (left right:Ar) (U:Int) (w0 w:World) (hE:FB w0 lo) (a8:lo≤b) (h:Ps w b l) (hk:aa [b] w0 w) (cu:w0.heap.size≤jb) (hj:ar w w0.heap.size jb ⟨at_,code,outs,ins,cols,op,left,right,U⟩ v2 v3 v4) (d8:ins.length≤1000) (ep:cols.length≤1000) (c3:l.length≤1000000) (bo:aQ (ax l).text=2) (bm:(ax l).kind=1) :
  Calls zy 206 #[zS (some ⟨b,0,none⟩),zS (some ⟨jb,0,none⟩)] w fun e w'=>fx (am ⟨at_,code,outs,ins,cols,op,left,right,U⟩ l) b w0.heap.size jb e w'∧aa [b] w0 w':=by
 obtain ⟨i0,hi,co,c8,cx⟩:=info_parts eF;obtain ⟨R,hR⟩:∃ R,am ⟨at_,code,outs,ins,cols,op,left,right,U⟩ l=R:=⟨_,rfl⟩
 rw[hR];have HE:=zx hE;have D:=zx h;have J:=zx hk;have A:=zx hj;have a6:=zx cu;have bn:Hid (ins.length≤999000):=zx (by omega);have ci:Hid (cols.length≤999000):=zx (by omega);have fg:=zx c3;have b5:Hid (∀ W,aa [] w W→Calls zy 70 #[zR (some ⟨8,0,none⟩) 10 10,zQ (bs (ax l).text)] W fun e W'=>e=zT (zW zX (cZ (ax l).text))∧W=W'):=zx (fun W q=>ca (ax l).text W ((hE.one a8 hk).quiet q).env);obtain ⟨q,hq⟩:∃ q,cZ (ax l).text=q:=⟨_,rfl⟩
 rw[hq] at b5;have HQ:=zx hq;obtain ⟨g,o,c,c0,z0,lb,lg,-,hn,hc,b3,k0,k1,k2,-⟩:=h.open';have cg:(0:Int)<(l.length:Int):=by omega
 have f1:w.cell? ⟨jb,1,none⟩=some (zW zX code):=hj.blk.cell 1;have f2:=hj.blk.frozen 1;have lj:=hj.blk.lt;have ct:=zx bo;have cq:Hid ((aj l.tail >>= fun p=>gK ⟨at_,2,outs,ins++[p.1],cols,op,left,right,U⟩ p.2)=R):=zx (by
  rw[←hR];unfold am;rw[bo,if_neg (by rw[bm];decide)];rfl)
 have c4:aG [115,101,116] l=true:=by
  unfold aG;rw[bm,aU bo (by decide)];rfl
 have c9:=zx c4;have c6:=zx bm;clear hR hE h hk hj d8 ep c3 cu hq bo c4 bm;go_enter Tryz.func206,Tryz.ntmps206
 go_upto_region 0 with (fail)
 go_cut [] (fun wx=>wx=(w.setCell ⟨jb,1,none⟩ (zW zX (max q 0))).drew)
 case first =>
  go_region_law (first|(go_simp;go_at_call 70;refine (b5.out _ (zN [] w).drew).mono ?_;rintro e w6 ⟨rfl,rfl⟩))
  all_goals
   go_wp2;go_meet;exact rfl
 subst hcut;clear c0 z0 lb lg hn hc b3 k0 k1 k2 cg lj f1 f2 b5;have M:aa [jb] w ((w.setCell ⟨jb,1,none⟩ (zW zX (max q 0))).drew):=((zN _ _).setCell (.inl (by simp)) _).drew;have hj':ar ((w.setCell ⟨jb,1,none⟩ (zW zX (max q 0))).drew) w0.heap.size jb ⟨at_,max q 0,outs,ins,cols,op,left,right,U⟩ v2 v3 v4:=A.out.box M ((A.out.blk.set 1 (zW zX (max q 0))).congr (by rfl)) rfl rfl rfl;have hp':=D.out.box A.out M;have hk':=J.out.box a6.out M;have hm:max q 0=2:=by rw[←HQ.out,cS,ct.out];rfl
 rw[hm] at hj' hp' hk' ⊢;clear hm M A D J;obtain ⟨y0,hy⟩:∃ x,(w.setCell ⟨jb,1,none⟩ (zW zX 2)).drew=x:=⟨_,rfl⟩
 rw[hy] at hj' hp' hk' ⊢;have A:=zx hj';have D:=zx hp';have J:=zx hk';have bj:y0.cell? ⟨jb,1,none⟩=some (zW zX 2):=hj'.blk.cell 1;have lj:=hj'.blk.lt;obtain ⟨g,o,c,c0,z0,lb,lg,-,hn,hc,b3,k0,k1,k2,-⟩:=hp'.open';have cg:(0:Int)<(l.length:Int):=by omega
 clear hy hj' hp' hk' hn hc b3 HQ;rw[c6.out] at k0;have wd:=(HE.out.one a8 J.out).env.words 2 (by decide);have c7:y0.cell? ⟨8,2,none⟩=some (zQ (bs [115,101,116])):=wd;have es:=zB _ _ c7;clear wd;go_wp2_with fail
 refine (aX (s:=[115,101,116]) (r:=l.tail) (by unfold aq;rw[if_pos c9.out]) y0 D.out).mono ?_;rintro ev y1 ⟨rfl,hp,hk⟩;have HJ':=zx (A.out.ps D.out hk);have HK':=zx (J.out.trans hk);clear D A J c0 z0 lb lg k0 k1 k2 cg bj lj c7 es;have D:=zx hp;have A:=HJ';have J:=HK';clear hp hk HJ' HK';have HR:=cq;clear cq;have O:Hid (l.tail.length≤l.length):=zx (by rw[zL];omega);obtain ⟨r0,c1⟩:∃ r0,l.tail=r0:=⟨_,rfl⟩
 rw[c1] at D HR O;clear c1 c9 c6 ct;have bj:y1.cell? ⟨jb,1,none⟩=some (zW zX 2):=A.out.blk.cell 1;have b0:=A.out.blk.lt;go_upto_region 13 with (fail)
 obtain ⟨A2,c2,hv,-⟩:=ao A.out.o3;subst hv;have fS:y1.cell? ⟨jb,3,none⟩=some (zR A2 (ins).length c2)∧y1.frozen? ⟨jb,3,none⟩=false:=⟨A.out.blk.cell 3,A.out.blk.frozen 3⟩;have lj:=A.out.blk.lt;have bd:=zx (show (ins).length+1≤maxLen∧((ins).length+1)*16≤140737488355328 by have:=bn.out;simp only[maxLen];first|omega|(simp only[zF,zG,zK];omega));have b6:Hid (jb∉[b]):=zx (by have:=A.out.blk.ty.ne D.out.ty (by decide);simpa using this);rcases I:aj r0 with x|⟨a2,r2⟩
 ·have B:=HR.out
  rw[I,aD] at B;have HX:=zx B.symm;have HC:Hid (∀ W,aa [] y1 W→Calls zy 157 #[zS (some ⟨b,0,none⟩)] W fun e w'=>bV x e w'∧aa [b] W w'):=zx (fun W z=>bU I W (D.out.keep z));clear B I;go_wp2_with fail
  go_region_law (first|(refine step_append_lies _ (by rfl) _ _ _ (by rfl) w0.heap.size 9 i0 _ 1 16 Tryz.underlying55 hi co c8 cx rfl (by decide) (zR A2 (ins).length c2) (ins).length (strs (ins)) (by rfl) ((A.out.ps D.out aA.undrew).o3.alloc _) ⟨w6.heap.size,0,none⟩ 1 1 [zQ (bs [])] (by rfl) rfl (zJ (heap_alloc_new _ _)) (by simp[Value.oneCell']) (by decide) bd.out.1 bd.out.2 (by have:=J.out.size;have:=aA.size;have h9:y1.drew.heap.size=y1.heap.size:=rfl;simp;omega) _ rfl ?_;intro gw et w7 bk a0 bq cj;obtain ⟨er,em⟩:=az a0 (ay ⟨bl,bB⟩ _) (fun e=>(av (A.out.ps D.out aA.undrew).o3 jb e).ne (A.out.ps D.out aA.undrew).blk.ty (by decide) rfl))|(go_simp;go_at_call 157;refine (HC.out _ (zN [] y1).drew).mono ?_;rintro e w6 ⟨⟨gi,rfl,hb⟩,aA⟩;obtain ⟨bl,bB⟩:=aC aA fS b6.out;have d0:jb<w6.heap.size:=zB w6 ⟨jb,3,none⟩ bl;dsimp only;(go_loud (refine cK ‹∀ (a:Act) (w:World),wpAny _ _ _ _ _ _ a w→_› (some 88) (zQ (bs [])) ⟨rfl,by rw[HX.out];exact ⟨gi,rfl,hb⟩,J.out.trans aA.undrew⟩ (fun hF=>?_)))))
  all_goals exact hF.out.elim
 have B:=HR.out;rw[I,au] at B;try dsimp only at B
 clear HR;have HR:=zx B;clear B;have HC:Hid (∀ W,aa [] y1 W→Calls zy 157 #[zS (some ⟨b,0,none⟩)] W fun e w'=>e=zT (zQ (bs a2))∧Ps w' b r2∧aa [b] W w'):=zx (fun W z=>bv I W (D.out.keep z));have Z:Hid (r2.length≤l.length):=zx (by have:=O.out;have:=aH I;omega);clear O;have O:=Z;clear Z;clear I;go_cut [] (fun wx=>∃ ba,ar wx w0.heap.size jb (⟨at_,2,outs,ins++[a2],cols,op,left,right,U⟩:Jb) v2 ba v4∧Ps wx b r2∧aa [b] w0 wx)
 case first =>
  go_region_law (first|(refine step_append_lies _ (by rfl) _ _ _ (by rfl) w0.heap.size 9 i0 _ 1 16 Tryz.underlying55 hi co c8 cx rfl (by decide) (zR A2 (ins).length c2) (ins).length (strs (ins)) (by rfl) ((A.out.ps D.out aA.undrew).o3.alloc _) ⟨w6.heap.size,0,none⟩ 1 1 [zQ (bs a2)] (by rfl) rfl (zJ (heap_alloc_new _ _)) (by simp[Value.oneCell']) (by decide) bd.out.1 bd.out.2 (by have:=J.out.size;have:=aA.size;have h9:y1.drew.heap.size=y1.heap.size:=rfl;simp;omega) _ rfl ?_;intro gw et w7 bk a0 bq cj;obtain ⟨er,em⟩:=az a0 (ay ⟨bl,bB⟩ _) (fun e=>(av (A.out.ps D.out aA.undrew).o3 jb e).ne (A.out.ps D.out aA.undrew).blk.ty (by decide) rfl))|(go_simp;go_at_call 157;refine (HC.out _ (zN [] y1).drew).mono ?_;rintro e w6 ⟨rfl,el,aA⟩;obtain ⟨bl,bB⟩:=aC aA fS b6.out;have d0:jb<w6.heap.size:=zB w6 ⟨jb,3,none⟩ bl))
  all_goals
   go_wp2;go_meet;have hh:=ar.app3 (A.out.ps D.out aA.undrew) el (J.out.trans aA.undrew) rfl a6.out a0 rfl bk bq (by simp);exact ⟨_,hh.1,hh.2.1,hh.2.2⟩
 obtain ⟨ba,hj,hp,hk⟩:=hcut;obtain ⟨y2,rfl⟩:∃ y:World,y=wc:=⟨_,rfl⟩
 clear D A J HC fS lj bd b6;have D:=zx hp;have A:=zx hj;have J:=zx hk;have a5:Hid ((ins++[a2]).length≤999000+2):=zx (by have:=bn.out;simp only[zF,zG,zK];omega);clear hp hj hk bn;generalize ins++[a2]=il2 at A HR a5;have bn:=a5;clear a5;clear bj b0;have bj:y2.cell? ⟨jb,1,none⟩=some (zW zX 2):=A.out.blk.cell 1;have b0:=A.out.blk.lt;have B:=HR.out;clear HR;have HR:Hid (nI (⟨at_,2,outs,il2,cols,op,left,right,U⟩:Jb) r2=R):=zx B;clear B;have B:=HR.out;unfold nI at B;clear HR;have HR:=zx B;clear B;rcases I:aq [58] r2 with x|r3
 ·have B:=HR.out
  rw[I,aD] at B;have HX:=zx B.symm;have HC:=zx (cE I y2 D.out);clear B I;go_wp2_with fail
  refine HC.out.mono ?_;rintro ev w9 ⟨⟨gi,rfl,hb⟩,a1⟩;exact ⟨rfl,by rw[HX.out];exact ⟨gi,rfl,hb⟩,J.out.trans a1⟩
 have B:=HR.out;rw[I,au] at B;try dsimp only at B
 clear HR;have HR:=zx B;clear B;have HC:=zx (aX I y2 D.out);have Z:Hid (r3.length≤l.length):=zx (by have:=O.out;have:=aL I;omega);clear I O;have O:=Z;clear Z;go_wp2_with fail
 refine HC.out.mono ?_;rintro ev y3 ⟨rfl,hp,hk⟩;have HJ':=zx (A.out.ps D.out hk);have HK':=zx (J.out.trans hk);clear D A J HC;have D:=zx hp;have A:=HJ';have J:=HK';clear hp hk HJ' HK';clear bj b0;rcases I:aj r3 with x|⟨a4,r4⟩
 ·have B:=HR.out
  rw[I,aD] at B;have HX:=zx B.symm;have HC:=zx (bU I y3 D.out);clear B I;go_wp2_with fail
  refine HC.out.mono ?_;rintro ev w9 ⟨⟨gi,rfl,hb⟩,a1⟩;exact ⟨rfl,by rw[HX.out];exact ⟨gi,rfl,hb⟩,J.out.trans a1⟩
 have B:=HR.out;rw[I,au] at B;try dsimp only at B
 clear HR;have HR:=zx B;clear B;have HC:=zx (bv I y3 D.out);have Z:Hid (r4.length≤l.length):=zx (by have:=O.out;have:=aH I;omega);clear I O;have O:=Z;clear Z;go_wp2_with fail
 refine HC.out.mono ?_;rintro ev y4 ⟨rfl,hp,hk⟩;have HJ':=zx (A.out.ps D.out hk);have HK':=zx (J.out.trans hk);clear D A J HC;have D:=zx hp;have A:=HJ';have J:=HK';clear hp hk HJ' HK';have d6:=A.out.blk.frozen 4;have ez:y4.cell? ⟨jb,4,none⟩=some (v4):=A.out.blk.cell 4;have lj:=A.out.blk.lt;have cp:(y4.alloc (zU #[zQ (bs a4)] 9)).ownsRow w0.heap.size 9 1 (zR (some ⟨y4.heap.size,0,none⟩) 1 1) [a4].length (strs [a4]):=gg (zO y4 9 #[zQ (bs a4)]) J.out.size rfl (by decide);have ch:aT (v2) (zR (some ⟨y4.heap.size,0,none⟩) 1 1):=aT.new A.out.o2 (fun g hg=>by simp[Value.ownBlock] at hg;omega);have cv:aT (ba) (zR (some ⟨y4.heap.size,0,none⟩) 1 1):=aT.new A.out.o3 (fun g hg=>by simp[Value.ownBlock] at hg;omega);have bb:aa [] y4 (y4.alloc (zU #[zQ (bs a4)] 9)):=(zN _ _).alloc _;have M:aa [jb] (y4.alloc (zU #[zQ (bs a4)] 9)) ((y4.alloc (zU #[zQ (bs a4)] 9)).setCell ⟨jb,4,none⟩ (zR (some ⟨y4.heap.size,0,none⟩) 1 1)):=(zN _ _).setCell (.inl (by simp)) _;have hj':=(A.out.keep bb).put4 cp ch cv;have hp':=(D.out.keep bb).box (A.out.keep bb) M;have hk':=aa.box (J.out.trans bb.of_nil) a6.out M;rw[World.setCell_alloc_past (w:=y4) (zU #[zQ (bs a4)] 9) jb 4 (zR (some ⟨y4.heap.size,0,none⟩) 1 1) lj] at hj' hp' hk';have HJ':=zx hj';have HP':=zx hp';have HK':=zx hk';clear cp ch cv bb M hj' hp' hk';go_upto_region 21 with (fail)
 obtain ⟨y5,hy⟩:∃ x,((y4.setCell ⟨jb,4,none⟩ (zR (some ⟨y4.heap.size,0,none⟩) 1 1)).alloc (zU #[zQ (bs a4)] 9))=x:=⟨_,rfl⟩
 rw[hy] at HJ' HP' HK' ⊢;obtain ⟨d2,bA⟩:∃ n,y4.heap.size=n:=⟨_,rfl⟩
 rw[bA] at HJ';try rw[bA]
 clear hy bA d6 ez lj A D J;have A:=HJ';have D:=HP';have J:=HK';clear HJ' HP' HK';obtain ⟨b7,c5⟩:∃ v,Value.slice (some ⟨d2,0,none⟩) 1 1=v:=⟨_,rfl⟩
 rw[c5] at A;clear c5;have a5:Hid ([a4].length≤999000):=zx (by simp);clear ci;generalize dq:[a4]=cl5 at A HR a5;have HCL:=zx dq;clear dq;have ci:=a5;clear a5;rcases I:aq [61] r4 with x|r6
 ·have B:=HR.out
  rw[I,aD] at B;have HX:=zx B.symm;have HC:=zx (cE I y5 D.out);clear B I;go_wp2_with fail
  refine HC.out.mono ?_;rintro ev w9 ⟨⟨gi,rfl,hb⟩,a1⟩;exact ⟨rfl,by rw[HX.out];exact ⟨gi,rfl,hb⟩,J.out.trans a1⟩
 have B:=HR.out;rw[I,au] at B;try dsimp only at B
 clear HR;have HR:=zx B;clear B;have HC:=zx (aX I y5 D.out);have Z:Hid (r6.length≤l.length):=zx (by have:=O.out;have:=aL I;omega);clear I O;have O:=Z;clear Z;go_wp2_with fail
 refine HC.out.mono ?_;rintro ev y6 ⟨rfl,hp,hk⟩;have HJ':=zx (A.out.ps D.out hk);have HK':=zx (J.out.trans hk);clear D A J HC;have D:=zx hp;have A:=HJ';have J:=HK';clear hp hk HJ' HK';have HC:=zx (kO y6 (HE.out.one a8 J.out) a8 D.out);rcases I:bN r6 with x|⟨a7,r7⟩
 ·have B:=HR.out
  rw[I,aD] at B;have HX:=zx B.symm;have hc:=HC.out;rw[I] at hc;have b4:=zx hc;clear B I hc HC;go_wp2_with fail
  refine b4.out.mono ?_;rintro ev w9 ⟨⟨gi,rfl,hb⟩,a1⟩;exact ⟨rfl,by rw[HX.out];exact ⟨gi,rfl,hb⟩,J.out.trans a1⟩
 have B:=HR.out;rw[I,au] at B;try dsimp only at B
 clear HR;have HR:=zx B;clear B;have hc:=HC.out;rw[I] at hc;clear HC;have HC:=zx hc;have Z:Hid (r7.length≤l.length):=zx (zA (ig I) O.out);clear I hc O;have O:=Z;clear Z;go_wp2_with fail
 refine HC.out.mono ?_;rintro ev y7 ⟨⟨he,hp⟩,hk⟩;have cf:ev=zT (.agg #[zQ (bs a7.col),zW zX a7.val.kind,zW zX a7.val.num,zQ (bs a7.val.word)]):=he;subst cf;clear he;have HJ':=zx (A.out.ps D.out hk);have HK':=zx (J.out.trans hk);clear D A J HC;have D:=zx hp;have A:=HJ';have J:=HK';clear hp hk HJ' HK';have d4:=A.out.blk.frozen 6;have en:y7.cell? ⟨jb,6,none⟩=some (zQ (bs left.col)):=A.out.blk.cell 6;have d9:=A.out.blk.frozen 7;have dB:y7.cell? ⟨jb,7,none⟩=some (zW zX left.val.kind):=A.out.blk.cell 7;have ek:=A.out.blk.frozen 8;have d5:y7.cell? ⟨jb,8,none⟩=some (zW zX left.val.num):=A.out.blk.cell 8;have eb:=A.out.blk.frozen 9;have d3:y7.cell? ⟨jb,9,none⟩=some (zQ (bs left.val.word)):=A.out.blk.cell 9;have lj:=A.out.blk.lt;have M:aa [jb] y7 ((((y7.setCell ⟨jb,6,none⟩ (zQ (bs a7.col))).setCell ⟨jb,7,none⟩ (zW zX a7.val.kind)).setCell ⟨jb,8,none⟩ (zW zX a7.val.num)).setCell ⟨jb,9,none⟩ (zQ (bs a7.val.word))):=((((zN _ _).setCell (.inl (by simp)) _).setCell (.inl (by simp)) _).setCell (.inl (by simp)) _).setCell (.inl (by simp)) _;have HJ':Hid (ar ((((y7.setCell ⟨jb,6,none⟩ (zQ (bs a7.col))).setCell ⟨jb,7,none⟩ (zW zX a7.val.kind)).setCell ⟨jb,8,none⟩ (zW zX a7.val.num)).setCell ⟨jb,9,none⟩ (zQ (bs a7.val.word))) w0.heap.size jb (⟨at_,2,outs,il2,cl5,op,a7,right,U⟩:Jb) v2 ba b7):=zx (A.out.box M (((((A.out.blk.set 6 (zQ (bs a7.col))).set 7 (zW zX a7.val.kind)).set 8 (zW zX a7.val.num)).set 9 (zQ (bs a7.val.word))).congr (by rfl)) rfl rfl rfl);have HP':=zx (D.out.box A.out M);have HK':=zx (J.out.box a6.out M);clear M;go_upto_region 23 with (fail)
 obtain ⟨y8,hy⟩:∃ x,((((y7.setCell ⟨jb,6,none⟩ (zQ (bs a7.col))).setCell ⟨jb,7,none⟩ (zW zX a7.val.kind)).setCell ⟨jb,8,none⟩ (zW zX a7.val.num)).setCell ⟨jb,9,none⟩ (zQ (bs a7.val.word)))=x:=⟨_,rfl⟩
 rw[hy] at HJ' HP' HK' ⊢;clear hy d4 en d9 dB ek d5 eb d3 lj A D J;have A:=HJ';have D:=HP';have J:=HK';clear HJ' HP' HK';have HJ':=zx (A.out.keep ((zN _ _).alloc (zU #[zQ (bs [43]),zQ (bs [45]),zQ (bs [42])] 9)));have HP':=zx (D.out.keep ((zN _ _).alloc (zU #[zQ (bs [43]),zQ (bs [45]),zQ (bs [42])] 9)));have HK':=zx (J.out.alloc (zU #[zQ (bs [43]),zQ (bs [45]),zQ (bs [42])] 9));have b1:Hid (Rd (y8.alloc (zU #[zQ (bs [43]),zQ (bs [45]),zQ (bs [42])] 9)) [b] 1 (some ⟨y8.heap.size,0,none⟩) 3 (strs [[43],[45],[42]])):=zx (nQ [[43],[45],[42]] (zO y8 9 #[zQ (bs [43]),zQ (bs [45]),zQ (bs [42])]) (by have:=D.out.lt;omega));clear A D J;have A:=HJ';have D:=HP';have J:=HK';clear HJ' HP' HK';go_wp2_with fail
 rcases I:bC [[43],[45],[42]] r7 with x|⟨a9,r9⟩
 ·have B:=HR.out
  rw[I,aD] at B;have HX:=zx B.symm;have HC:=zx (nM I (some ⟨y8.heap.size,0,none⟩) 3 _ D.out b1.out (by decide));clear B I;skip
  refine HC.out.mono ?_;rintro ev w9 ⟨⟨gi,rfl,hb⟩,a1⟩;exact ⟨rfl,by rw[HX.out];exact ⟨gi,rfl,hb⟩,J.out.trans a1⟩
 have B:=HR.out;rw[I,au] at B;try dsimp only at B
 clear HR;have HR:=zx B;clear B;have HC:=zx (ky I (some ⟨y8.heap.size,0,none⟩) 3 _ D.out b1.out (by decide));have Z:Hid (r9.length≤l.length):=zx (by have:=O.out;have:=dZ I;omega);clear I b1 O;have O:=Z;clear Z;refine HC.out.mono ?_;rintro ev y9 ⟨rfl,hp,hk⟩;have HJ':=zx (A.out.ps D.out hk);have HK':=zx (J.out.trans hk);clear D A J HC;have D:=zx hp;have A:=HJ';have J:=HK';clear hp hk HJ' HK';have ds:=A.out.blk.frozen 5;have d1:y9.cell? ⟨jb,5,none⟩=some (zQ (bs op)):=A.out.blk.cell 5;have lj:=A.out.blk.lt;have M:aa [jb] y9 (y9.setCell ⟨jb,5,none⟩ (zQ (bs a9))):=(zN _ _).setCell (.inl (by simp)) _;have HJ':Hid (ar (y9.setCell ⟨jb,5,none⟩ (zQ (bs a9))) w0.heap.size jb (⟨at_,2,outs,il2,cl5,a9,a7,right,U⟩:Jb) v2 ba b7):=zx (A.out.box M ((A.out.blk.set 5 (zQ (bs a9))).congr (by rfl)) rfl rfl rfl);have HP':=zx (D.out.box A.out M);have HK':=zx (J.out.box a6.out M);clear M;go_upto_region 24 with (fail)
 obtain ⟨dv,hy⟩:∃ x,(y9.setCell ⟨jb,5,none⟩ (zQ (bs a9)))=x:=⟨_,rfl⟩
 rw[hy] at HJ' HP' HK' ⊢;clear hy ds d1 lj A D J;have A:=HJ';have D:=HP';have J:=HK';clear HJ' HP' HK';have HC:=zx (kO dv (HE.out.one a8 J.out) a8 D.out);rcases I:bN r9 with x|⟨ad,d7⟩
 ·have B:=HR.out
  rw[I,aD] at B;have HX:=zx B.symm;have hc:=HC.out;rw[I] at hc;have b4:=zx hc;clear B I hc HC;go_wp2_with fail
  refine b4.out.mono ?_;rintro ev w9 ⟨⟨gi,rfl,hb⟩,a1⟩;exact ⟨rfl,by rw[HX.out];exact ⟨gi,rfl,hb⟩,J.out.trans a1⟩
 have B:=HR.out;rw[I,au] at B;try dsimp only at B
 clear HR;have HR:=zx B;clear B;have hc:=HC.out;rw[I] at hc;clear HC;have HC:=zx hc;have Z:Hid (d7.length≤l.length):=zx (zA (ig I) O.out);clear I hc O;have O:=Z;clear Z;go_wp2_with fail
 refine HC.out.mono ?_;rintro ev a3 ⟨⟨he,hp⟩,hk⟩;have cf:ev=zT (.agg #[zQ (bs ad.col),zW zX ad.val.kind,zW zX ad.val.num,zQ (bs ad.val.word)]):=he;subst cf;clear he;have HJ':=zx (A.out.ps D.out hk);have HK':=zx (J.out.trans hk);clear D A J HC;have D:=zx hp;have A:=HJ';have J:=HK';clear hp hk HJ' HK';have fb:=A.out.blk.frozen 10;have e5:a3.cell? ⟨jb,10,none⟩=some (zQ (bs right.col)):=A.out.blk.cell 10;have e9:=A.out.blk.frozen 11;have e4:a3.cell? ⟨jb,11,none⟩=some (zW zX right.val.kind):=A.out.blk.cell 11;have fc:=A.out.blk.frozen 12;have e0:a3.cell? ⟨jb,12,none⟩=some (zW zX right.val.num):=A.out.blk.cell 12;have e3:=A.out.blk.frozen 13;have ff:a3.cell? ⟨jb,13,none⟩=some (zQ (bs right.val.word)):=A.out.blk.cell 13;have lj:=A.out.blk.lt;have M:aa [jb] a3 ((((a3.setCell ⟨jb,10,none⟩ (zQ (bs ad.col))).setCell ⟨jb,11,none⟩ (zW zX ad.val.kind)).setCell ⟨jb,12,none⟩ (zW zX ad.val.num)).setCell ⟨jb,13,none⟩ (zQ (bs ad.val.word))):=((((zN _ _).setCell (.inl (by simp)) _).setCell (.inl (by simp)) _).setCell (.inl (by simp)) _).setCell (.inl (by simp)) _;have HJ':Hid (ar ((((a3.setCell ⟨jb,10,none⟩ (zQ (bs ad.col))).setCell ⟨jb,11,none⟩ (zW zX ad.val.kind)).setCell ⟨jb,12,none⟩ (zW zX ad.val.num)).setCell ⟨jb,13,none⟩ (zQ (bs ad.val.word))) w0.heap.size jb (⟨at_,2,outs,il2,cl5,a9,a7,ad,U⟩:Jb) v2 ba b7):=zx (A.out.box M (((((A.out.blk.set 10 (zQ (bs ad.col))).set 11 (zW zX ad.val.kind)).set 12 (zW zX ad.val.num)).set 13 (zQ (bs ad.val.word))).congr (by rfl)) rfl rfl rfl);have HP':=zx (D.out.box A.out M);have HK':=zx (J.out.box a6.out M);clear M;have HX:=zx HR.out.symm;clear HR;go_wp2;first|go_end0|refine bodyPost_ret (results_none rfl _ _ _) rfl ?_
 exact ⟨by rw[HX.out];exact ⟨rfl,⟨_,_,_,HJ'.out⟩,HP'.out⟩,HK'.out⟩
theorem xj {l:List Tk} {b jb lo:Nat} {v2 v3 v4:Value} (at_ code:Int) (outs ins cols:List Bs) (op:Bs) (left right:Ar) (D:Int) (w0 w:World) (hE:FB w0 lo) (b0:lo≤b) (h:Ps w b l) (hk:aa [b] w0 w) (b6:w0.heap.size≤jb) (hj:ar w w0.heap.size jb ⟨at_,code,outs,ins,cols,op,left,right,D⟩ v2 v3 v4) (cv:ins.length≤1000) (c7:cols.length≤1000) (cg:l.length≤1000000) (ba:aQ (ax l).text=3) (a8:(ax l).kind=1) :
  Calls zy 206 #[zS (some ⟨b,0,none⟩),zS (some ⟨jb,0,none⟩)] w fun e w'=>fx (am ⟨at_,code,outs,ins,cols,op,left,right,D⟩ l) b w0.heap.size jb e w'∧aa [b] w0 w':=by
 obtain ⟨i0,hi,b3,co,b7⟩:=info_parts eF;obtain ⟨R,hR⟩:∃ R,am ⟨at_,code,outs,ins,cols,op,left,right,D⟩ l=R:=⟨_,rfl⟩
 rw[hR];have HE:=zx hE;have I:=zx h;have O:=zx hk;have A:=zx hj;have bd:=zx b6;have a9:Hid (ins.length≤999000):=zx (by omega);have dv:Hid (cols.length≤999000):=zx (by omega);have dq:=zx cg;have bo:Hid (∀ W,aa [] w W→Calls zy 70 #[zR (some ⟨8,0,none⟩) 10 10,zQ (bs (ax l).text)] W fun e W'=>e=zT (zW zX (cZ (ax l).text))∧W=W'):=zx (fun W q=>ca (ax l).text W ((hE.one b0 hk).quiet q).env);obtain ⟨q,hq⟩:∃ q,cZ (ax l).text=q:=⟨_,rfl⟩
 rw[hq] at bo;have HQ:=zx hq;obtain ⟨g,o,c,c0,z0,lb,lg,-,hn,hc,bm,k0,k1,k2,-⟩:=h.open';have bB:(0:Int)<(l.length:Int):=by omega
 have f1:w.cell? ⟨jb,1,none⟩=some (zW zX code):=hj.blk.cell 1;have f2:=hj.blk.frozen 1;have lj:=hj.blk.lt;have b5:=zx ba;have b4:Hid ((aj l.tail >>= fun p=>gK ⟨at_,3,outs,ins++[p.1],cols,op,left,right,D⟩ p.2)=R):=zx (by
  rw[←hR];unfold am;rw[ba,if_neg (by rw[a8];decide)];rfl)
 have ch:aG [112,114,111,106,101,99,116] l=true:=by
  unfold aG;rw[a8,aU ba (by decide)];rfl
 have cp:=zx ch;have ci:=zx a8;clear hR hE h hk hj cv c7 cg b6 hq ba ch a8;go_enter Tryz.func206,Tryz.ntmps206
 go_upto_region 0 with (fail)
 go_cut [] (fun wx=>wx=(w.setCell ⟨jb,1,none⟩ (zW zX (max q 0))).drew)
 case first =>
  go_region_law (first|(go_simp;go_at_call 70;refine (bo.out _ (zN [] w).drew).mono ?_;rintro e w6 ⟨rfl,rfl⟩))
  all_goals
   go_wp2;go_meet;exact rfl
 subst hcut;clear c0 z0 lb lg hn hc bm k0 k1 k2 bB lj f1 f2 bo;have aA:aa [jb] w ((w.setCell ⟨jb,1,none⟩ (zW zX (max q 0))).drew):=((zN _ _).setCell (.inl (by simp)) _).drew;have hj':ar ((w.setCell ⟨jb,1,none⟩ (zW zX (max q 0))).drew) w0.heap.size jb ⟨at_,max q 0,outs,ins,cols,op,left,right,D⟩ v2 v3 v4:=A.out.box aA ((A.out.blk.set 1 (zW zX (max q 0))).congr (by rfl)) rfl rfl rfl;have hp':=I.out.box A.out aA;have hk':=O.out.box bd.out aA;have hm:max q 0=3:=by rw[←HQ.out,cS,b5.out];rfl
 rw[hm] at hj' hp' hk' ⊢;clear hm aA A I O;obtain ⟨y0,hy⟩:∃ x,(w.setCell ⟨jb,1,none⟩ (zW zX 3)).drew=x:=⟨_,rfl⟩
 rw[hy] at hj' hp' hk' ⊢;have A:=zx hj';have I:=zx hp';have O:=zx hk';have a1:y0.cell? ⟨jb,1,none⟩=some (zW zX 3):=hj'.blk.cell 1;have lj:=hj'.blk.lt;obtain ⟨g,o,c,c0,z0,lb,lg,-,hn,hc,bm,k0,k1,k2,-⟩:=hp'.open';have bB:(0:Int)<(l.length:Int):=by omega
 clear hy hj' hp' hk' hn hc bm HQ;rw[ci.out] at k0;have wd:=(HE.out.one b0 O.out).env.words 3 (by decide);have cj:y0.cell? ⟨8,3,none⟩=some (zQ (bs [112,114,111,106,101,99,116])):=wd;have c9:=zB _ _ cj;clear wd;go_wp2_with fail
 refine (aX (s:=[112,114,111,106,101,99,116]) (r:=l.tail) (by unfold aq;rw[if_pos cp.out]) y0 I.out).mono ?_;rintro ev y1 ⟨rfl,hp,hk⟩;have HJ':=zx (A.out.ps I.out hk);have HK':=zx (O.out.trans hk);clear I A O c0 z0 lb lg k0 k1 k2 bB a1 lj cj c9;have I:=zx hp;have A:=HJ';have O:=HK';clear hp hk HJ' HK';have U:=b4;clear b4;have ad:Hid (l.tail.length≤l.length):=zx (by rw[zL];omega);obtain ⟨r0,cf⟩:∃ r0,l.tail=r0:=⟨_,rfl⟩
 rw[cf] at I U ad;clear cf cp ci b5;have a1:y1.cell? ⟨jb,1,none⟩=some (zW zX 3):=A.out.blk.cell 1;have bk:=A.out.blk.lt;go_upto_region 13 with (fail)
 obtain ⟨A2,c2,hv,-⟩:=ao A.out.o3;subst hv;have fS:y1.cell? ⟨jb,3,none⟩=some (zR A2 (ins).length c2)∧y1.frozen? ⟨jb,3,none⟩=false:=⟨A.out.blk.cell 3,A.out.blk.frozen 3⟩;have lj:=A.out.blk.lt;have a0:=zx (show (ins).length+1≤maxLen∧((ins).length+1)*16≤140737488355328 by have:=a9.out;simp only[maxLen];first|omega|(simp only[zF,zG,zK];omega));have bq:Hid (jb∉[b]):=zx (by have:=A.out.blk.ty.ne I.out.ty (by decide);simpa using this);rcases Z:aj r0 with x|⟨a2,r2⟩
 ·have B:=U.out
  rw[Z,aD] at B;have HX:=zx B.symm;have HC:Hid (∀ W,aa [] y1 W→Calls zy 157 #[zS (some ⟨b,0,none⟩)] W fun e w'=>bV x e w'∧aa [b] W w'):=zx (fun W z=>bU Z W (I.out.keep z));clear B Z;go_wp2_with fail
  go_region_law (first|(refine step_append_lies _ (by rfl) _ _ _ (by rfl) w0.heap.size 9 i0 _ 1 16 Tryz.underlying55 hi b3 co b7 rfl (by decide) (zR A2 (ins).length c2) (ins).length (strs (ins)) (by rfl) ((A.out.ps I.out J.undrew).o3.alloc _) ⟨w6.heap.size,0,none⟩ 1 1 [zQ (bs [])] (by rfl) rfl (zJ (heap_alloc_new _ _)) (by simp[Value.oneCell']) (by decide) a0.out.1 a0.out.2 (by have:=O.out.size;have:=J.size;have h9:y1.drew.heap.size=y1.heap.size:=rfl;simp;omega) _ rfl ?_;intro gw ds w7 a5 M bb b1;obtain ⟨c8,c6⟩:=az M (ay ⟨a6,bj⟩ _) (fun e=>(av (A.out.ps I.out J.undrew).o3 jb e).ne (A.out.ps I.out J.undrew).blk.ty (by decide) rfl))|(go_simp;go_at_call 157;refine (HC.out _ (zN [] y1).drew).mono ?_;rintro e w6 ⟨⟨gi,rfl,hb⟩,J⟩;obtain ⟨a6,bj⟩:=aC J fS bq.out;have cq:jb<w6.heap.size:=zB w6 ⟨jb,3,none⟩ a6;dsimp only;(go_loud (refine cK ‹∀ (a:Act) (w:World),wpAny _ _ _ _ _ _ a w→_› (some 88) (zQ (bs [])) ⟨rfl,by rw[HX.out];exact ⟨gi,rfl,hb⟩,O.out.trans J.undrew⟩ (fun hF=>?_)))))
  all_goals exact hF.out.elim
 have B:=U.out;rw[Z,au] at B;try dsimp only at B
 clear U;have U:=zx B;clear B;have HC:Hid (∀ W,aa [] y1 W→Calls zy 157 #[zS (some ⟨b,0,none⟩)] W fun e w'=>e=zT (zQ (bs a2))∧Ps w' b r2∧aa [b] W w'):=zx (fun W z=>bv Z W (I.out.keep z));have a7:Hid (r2.length≤l.length):=zx (by have:=ad.out;have:=aH Z;omega);clear ad;have ad:=a7;clear a7;clear Z;go_cut [] (fun wx=>∃ bl,ar wx w0.heap.size jb (⟨at_,3,outs,ins++[a2],cols,op,left,right,D⟩:Jb) v2 bl v4∧Ps wx b r2∧aa [b] w0 wx)
 case first =>
  go_region_law (first|(refine step_append_lies _ (by rfl) _ _ _ (by rfl) w0.heap.size 9 i0 _ 1 16 Tryz.underlying55 hi b3 co b7 rfl (by decide) (zR A2 (ins).length c2) (ins).length (strs (ins)) (by rfl) ((A.out.ps I.out J.undrew).o3.alloc _) ⟨w6.heap.size,0,none⟩ 1 1 [zQ (bs a2)] (by rfl) rfl (zJ (heap_alloc_new _ _)) (by simp[Value.oneCell']) (by decide) a0.out.1 a0.out.2 (by have:=O.out.size;have:=J.size;have h9:y1.drew.heap.size=y1.heap.size:=rfl;simp;omega) _ rfl ?_;intro gw ds w7 a5 M bb b1;obtain ⟨c8,c6⟩:=az M (ay ⟨a6,bj⟩ _) (fun e=>(av (A.out.ps I.out J.undrew).o3 jb e).ne (A.out.ps I.out J.undrew).blk.ty (by decide) rfl))|(go_simp;go_at_call 157;refine (HC.out _ (zN [] y1).drew).mono ?_;rintro e w6 ⟨rfl,c5,J⟩;obtain ⟨a6,bj⟩:=aC J fS bq.out;have cq:jb<w6.heap.size:=zB w6 ⟨jb,3,none⟩ a6))
  all_goals
   go_wp2;go_meet;have hh:=ar.app3 (A.out.ps I.out J.undrew) c5 (O.out.trans J.undrew) rfl bd.out M rfl a5 bb (by simp);exact ⟨_,hh.1,hh.2.1,hh.2.2⟩
 obtain ⟨bl,hj,hp,hk⟩:=hcut;obtain ⟨y2,rfl⟩:∃ y:World,y=wc:=⟨_,rfl⟩
 clear I A O HC fS lj a0 bq;have I:=zx hp;have A:=zx hj;have O:=zx hk;have bn:Hid ((ins++[a2]).length≤999000+2):=zx (by have:=a9.out;simp only[zF,zG,zK];omega);clear hp hj hk a9;generalize ins++[a2]=il2 at A U bn;have a9:=bn;clear bn;clear a1 bk;have a1:y2.cell? ⟨jb,1,none⟩=some (zW zX 3):=A.out.blk.cell 1;have bk:=A.out.blk.lt;have B:=U.out;clear U;have U:Hid (td (⟨at_,3,outs,il2,cols,op,left,right,D⟩:Jb) r2=R):=zx B;clear B;have B:=U.out;unfold td at B;clear U;have U:=zx B;clear B;rcases Z:aq [98,121] r2 with x|r3
 ·have B:=U.out
  rw[Z,aD] at B;have HX:=zx B.symm;have HC:=zx (cE Z y2 I.out);clear B Z;go_wp2_with fail
  refine HC.out.mono ?_;rintro ev w9 ⟨⟨gi,rfl,hb⟩,bA⟩;exact ⟨rfl,by rw[HX.out];exact ⟨gi,rfl,hb⟩,O.out.trans bA⟩
 have B:=U.out;rw[Z,au] at B;try dsimp only at B
 clear U;have U:=zx B;clear B;have HC:=zx (aX Z y2 I.out);have a7:Hid (r3.length≤l.length):=zx (by have:=ad.out;have:=aL Z;omega);clear Z ad;have ad:=a7;clear a7;go_wp2_with fail
 refine HC.out.mono ?_;rintro ev y3 ⟨rfl,hp,hk⟩;have HJ':=zx (A.out.ps I.out hk);have HK':=zx (O.out.trans hk);clear I A O HC;have I:=zx hp;have A:=HJ';have O:=HK';clear hp hk HJ' HK';clear a1 bk;have hc:=jw y3 I.out (zA ad.out dq.out);rcases Z:bR r3 with x|⟨a4,r4⟩
 ·have B:=U.out
  rw[Z,aD] at B;have HX:=zx B.symm;rw[Z] at hc;have cu:=zx hc;clear B Z hc;go_wp2_with fail
  refine cu.out.mono ?_;rintro ev w9 ⟨⟨gi,rfl,hb⟩,bA⟩;exact ⟨rfl,by rw[HX.out];exact ⟨gi,rfl,hb⟩,O.out.trans bA⟩
 have B:=U.out;rw[Z,au] at B;try dsimp only at B
 clear U;have U:=zx B;clear B;rw[Z] at hc;have HC:=zx hc;clear Z hc;go_wp2_with fail
 refine HC.out.mono ?_;rintro ev y4 ⟨⟨v4,rfl,a3,hp⟩,hk⟩;obtain ⟨A4,c4,hv,-⟩:=ao a3;subst hv;have ct:=zx a3;have cx:Hid (aT v2 (zR A4 a4.length c4)):=zx (aT.new A.out.o2 (fun g hg=>(a3.lt g hg).1));have c3:Hid (aT bl (zR A4 a4.length c4)):=zx (aT.new A.out.o3 (fun g hg=>(a3.lt g hg).1));have c1:=zx O.out.size;clear a3;have HJ':=zx (A.out.ps I.out hk);have HK':=zx (O.out.trans hk);clear I A O HC;have I:=zx hp;have A:=HJ';have O:=HK';clear hp hk HJ' HK';have dB:=A.out.blk.frozen 4;have d0:y4.cell? ⟨jb,4,none⟩=some (v4):=A.out.blk.cell 4;have lj:=A.out.blk.lt;have aA:aa [jb] y4 (y4.setCell ⟨jb,4,none⟩ (zR A4 a4.length c4)):=(zN _ _).setCell (.inl (by simp)) _;have HJ':=zx (A.out.put4 (bg ct.out c1.out) cx.out c3.out);have HP':=zx (I.out.box A.out aA);have HK':=zx (O.out.box bd.out aA);clear aA;have HX:=zx U.out.symm;clear U;go_wp2;first|go_end0|refine bodyPost_ret (results_none rfl _ _ _) rfl ?_
 exact ⟨by rw[HX.out];exact ⟨rfl,⟨_,_,_,HJ'.out⟩,HP'.out⟩,HK'.out⟩
theorem xm {l:List Tk} {b jb lo:Nat} {v2 v3 v4:Value} (at_ code:Int) (outs ins cols:List Bs) (op:Bs) (left right:Ar) (D:Int) (w0 w:World) (hE:FB w0 lo) (b0:lo≤b) (h:Ps w b l) (hk:aa [b] w0 w) (b6:w0.heap.size≤jb) (hj:ar w w0.heap.size jb ⟨at_,code,outs,ins,cols,op,left,right,D⟩ v2 v3 v4) (cv:ins.length≤1000) (c7:cols.length≤1000) (cg:l.length≤1000000) (ba:aQ (ax l).text=4) (a8:(ax l).kind=1) :
  Calls zy 206 #[zS (some ⟨b,0,none⟩),zS (some ⟨jb,0,none⟩)] w fun e w'=>fx (am ⟨at_,code,outs,ins,cols,op,left,right,D⟩ l) b w0.heap.size jb e w'∧aa [b] w0 w':=by
 obtain ⟨i0,hi,b3,co,b7⟩:=info_parts eF;obtain ⟨R,hR⟩:∃ R,am ⟨at_,code,outs,ins,cols,op,left,right,D⟩ l=R:=⟨_,rfl⟩
 rw[hR];have HE:=zx hE;have I:=zx h;have O:=zx hk;have A:=zx hj;have bd:=zx b6;have a9:Hid (ins.length≤999000):=zx (by omega);have dv:Hid (cols.length≤999000):=zx (by omega);have dq:=zx cg;have bo:Hid (∀ W,aa [] w W→Calls zy 70 #[zR (some ⟨8,0,none⟩) 10 10,zQ (bs (ax l).text)] W fun e W'=>e=zT (zW zX (cZ (ax l).text))∧W=W'):=zx (fun W q=>ca (ax l).text W ((hE.one b0 hk).quiet q).env);obtain ⟨q,hq⟩:∃ q,cZ (ax l).text=q:=⟨_,rfl⟩
 rw[hq] at bo;have HQ:=zx hq;obtain ⟨g,o,c,c0,z0,lb,lg,-,hn,hc,bm,k0,k1,k2,-⟩:=h.open';have bB:(0:Int)<(l.length:Int):=by omega
 have f1:w.cell? ⟨jb,1,none⟩=some (zW zX code):=hj.blk.cell 1;have f2:=hj.blk.frozen 1;have lj:=hj.blk.lt;have b5:=zx ba;have b4:Hid ((aj l.tail >>= fun p=>gK ⟨at_,4,outs,ins++[p.1],cols,op,left,right,D⟩ p.2)=R):=zx (by
  rw[←hR];unfold am;rw[ba,if_neg (by rw[a8];decide)];rfl)
 have ch:aG [115,111,114,116] l=true:=by
  unfold aG;rw[a8,aU ba (by decide)];rfl
 have cp:=zx ch;have ci:=zx a8;clear hR hE h hk hj cv c7 cg b6 hq ba ch a8;go_enter Tryz.func206,Tryz.ntmps206
 go_upto_region 0 with (fail)
 go_cut [] (fun wx=>wx=(w.setCell ⟨jb,1,none⟩ (zW zX (max q 0))).drew)
 case first =>
  go_region_law (first|(go_simp;go_at_call 70;refine (bo.out _ (zN [] w).drew).mono ?_;rintro e w6 ⟨rfl,rfl⟩))
  all_goals
   go_wp2;go_meet;exact rfl
 subst hcut;clear c0 z0 lb lg hn hc bm k0 k1 k2 bB lj f1 f2 bo;have aA:aa [jb] w ((w.setCell ⟨jb,1,none⟩ (zW zX (max q 0))).drew):=((zN _ _).setCell (.inl (by simp)) _).drew;have hj':ar ((w.setCell ⟨jb,1,none⟩ (zW zX (max q 0))).drew) w0.heap.size jb ⟨at_,max q 0,outs,ins,cols,op,left,right,D⟩ v2 v3 v4:=A.out.box aA ((A.out.blk.set 1 (zW zX (max q 0))).congr (by rfl)) rfl rfl rfl;have hp':=I.out.box A.out aA;have hk':=O.out.box bd.out aA;have hm:max q 0=4:=by rw[←HQ.out,cS,b5.out];rfl
 rw[hm] at hj' hp' hk' ⊢;clear hm aA A I O;obtain ⟨y0,hy⟩:∃ x,(w.setCell ⟨jb,1,none⟩ (zW zX 4)).drew=x:=⟨_,rfl⟩
 rw[hy] at hj' hp' hk' ⊢;have A:=zx hj';have I:=zx hp';have O:=zx hk';have a1:y0.cell? ⟨jb,1,none⟩=some (zW zX 4):=hj'.blk.cell 1;have lj:=hj'.blk.lt;obtain ⟨g,o,c,c0,z0,lb,lg,-,hn,hc,bm,k0,k1,k2,-⟩:=hp'.open';have bB:(0:Int)<(l.length:Int):=by omega
 clear hy hj' hp' hk' hn hc bm HQ;rw[ci.out] at k0;have wd:=(HE.out.one b0 O.out).env.words 4 (by decide);have cj:y0.cell? ⟨8,4,none⟩=some (zQ (bs [115,111,114,116])):=wd;have c9:=zB _ _ cj;clear wd;go_wp2_with fail
 refine (aX (s:=[115,111,114,116]) (r:=l.tail) (by unfold aq;rw[if_pos cp.out]) y0 I.out).mono ?_;rintro ev y1 ⟨rfl,hp,hk⟩;have HJ':=zx (A.out.ps I.out hk);have HK':=zx (O.out.trans hk);clear I A O c0 z0 lb lg k0 k1 k2 bB a1 lj cj c9;have I:=zx hp;have A:=HJ';have O:=HK';clear hp hk HJ' HK';have U:=b4;clear b4;have ad:Hid (l.tail.length≤l.length):=zx (by rw[zL];omega);obtain ⟨r0,cf⟩:∃ r0,l.tail=r0:=⟨_,rfl⟩
 rw[cf] at I U ad;clear cf cp ci b5;have a1:y1.cell? ⟨jb,1,none⟩=some (zW zX 4):=A.out.blk.cell 1;have bk:=A.out.blk.lt;go_upto_region 13 with (fail)
 obtain ⟨A2,c2,hv,-⟩:=ao A.out.o3;subst hv;have fS:y1.cell? ⟨jb,3,none⟩=some (zR A2 (ins).length c2)∧y1.frozen? ⟨jb,3,none⟩=false:=⟨A.out.blk.cell 3,A.out.blk.frozen 3⟩;have lj:=A.out.blk.lt;have a0:=zx (show (ins).length+1≤maxLen∧((ins).length+1)*16≤140737488355328 by have:=a9.out;simp only[maxLen];first|omega|(simp only[zF,zG,zK];omega));have bq:Hid (jb∉[b]):=zx (by have:=A.out.blk.ty.ne I.out.ty (by decide);simpa using this);rcases Z:aj r0 with x|⟨a2,r2⟩
 ·have B:=U.out
  rw[Z,aD] at B;have HX:=zx B.symm;have HC:Hid (∀ W,aa [] y1 W→Calls zy 157 #[zS (some ⟨b,0,none⟩)] W fun e w'=>bV x e w'∧aa [b] W w'):=zx (fun W z=>bU Z W (I.out.keep z));clear B Z;go_wp2_with fail
  go_region_law (first|(refine step_append_lies _ (by rfl) _ _ _ (by rfl) w0.heap.size 9 i0 _ 1 16 Tryz.underlying55 hi b3 co b7 rfl (by decide) (zR A2 (ins).length c2) (ins).length (strs (ins)) (by rfl) ((A.out.ps I.out J.undrew).o3.alloc _) ⟨w6.heap.size,0,none⟩ 1 1 [zQ (bs [])] (by rfl) rfl (zJ (heap_alloc_new _ _)) (by simp[Value.oneCell']) (by decide) a0.out.1 a0.out.2 (by have:=O.out.size;have:=J.size;have h9:y1.drew.heap.size=y1.heap.size:=rfl;simp;omega) _ rfl ?_;intro gw ds w7 a5 M bb b1;obtain ⟨c8,c6⟩:=az M (ay ⟨a6,bj⟩ _) (fun e=>(av (A.out.ps I.out J.undrew).o3 jb e).ne (A.out.ps I.out J.undrew).blk.ty (by decide) rfl))|(go_simp;go_at_call 157;refine (HC.out _ (zN [] y1).drew).mono ?_;rintro e w6 ⟨⟨gi,rfl,hb⟩,J⟩;obtain ⟨a6,bj⟩:=aC J fS bq.out;have cq:jb<w6.heap.size:=zB w6 ⟨jb,3,none⟩ a6;dsimp only;(go_loud (refine cK ‹∀ (a:Act) (w:World),wpAny _ _ _ _ _ _ a w→_› (some 88) (zQ (bs [])) ⟨rfl,by rw[HX.out];exact ⟨gi,rfl,hb⟩,O.out.trans J.undrew⟩ (fun hF=>?_)))))
  all_goals exact hF.out.elim
 have B:=U.out;rw[Z,au] at B;try dsimp only at B
 clear U;have U:=zx B;clear B;have HC:Hid (∀ W,aa [] y1 W→Calls zy 157 #[zS (some ⟨b,0,none⟩)] W fun e w'=>e=zT (zQ (bs a2))∧Ps w' b r2∧aa [b] W w'):=zx (fun W z=>bv Z W (I.out.keep z));have a7:Hid (r2.length≤l.length):=zx (by have:=ad.out;have:=aH Z;omega);clear ad;have ad:=a7;clear a7;clear Z;go_cut [] (fun wx=>∃ bl,ar wx w0.heap.size jb (⟨at_,4,outs,ins++[a2],cols,op,left,right,D⟩:Jb) v2 bl v4∧Ps wx b r2∧aa [b] w0 wx)
 case first =>
  go_region_law (first|(refine step_append_lies _ (by rfl) _ _ _ (by rfl) w0.heap.size 9 i0 _ 1 16 Tryz.underlying55 hi b3 co b7 rfl (by decide) (zR A2 (ins).length c2) (ins).length (strs (ins)) (by rfl) ((A.out.ps I.out J.undrew).o3.alloc _) ⟨w6.heap.size,0,none⟩ 1 1 [zQ (bs a2)] (by rfl) rfl (zJ (heap_alloc_new _ _)) (by simp[Value.oneCell']) (by decide) a0.out.1 a0.out.2 (by have:=O.out.size;have:=J.size;have h9:y1.drew.heap.size=y1.heap.size:=rfl;simp;omega) _ rfl ?_;intro gw ds w7 a5 M bb b1;obtain ⟨c8,c6⟩:=az M (ay ⟨a6,bj⟩ _) (fun e=>(av (A.out.ps I.out J.undrew).o3 jb e).ne (A.out.ps I.out J.undrew).blk.ty (by decide) rfl))|(go_simp;go_at_call 157;refine (HC.out _ (zN [] y1).drew).mono ?_;rintro e w6 ⟨rfl,c5,J⟩;obtain ⟨a6,bj⟩:=aC J fS bq.out;have cq:jb<w6.heap.size:=zB w6 ⟨jb,3,none⟩ a6))
  all_goals
   go_wp2;go_meet;have hh:=ar.app3 (A.out.ps I.out J.undrew) c5 (O.out.trans J.undrew) rfl bd.out M rfl a5 bb (by simp);exact ⟨_,hh.1,hh.2.1,hh.2.2⟩
 obtain ⟨bl,hj,hp,hk⟩:=hcut;obtain ⟨y2,rfl⟩:∃ y:World,y=wc:=⟨_,rfl⟩
 clear I A O HC fS lj a0 bq;have I:=zx hp;have A:=zx hj;have O:=zx hk;have bn:Hid ((ins++[a2]).length≤999000+2):=zx (by have:=a9.out;simp only[zF,zG,zK];omega);clear hp hj hk a9;generalize ins++[a2]=il2 at A U bn;have a9:=bn;clear bn;clear a1 bk;have a1:y2.cell? ⟨jb,1,none⟩=some (zW zX 4):=A.out.blk.cell 1;have bk:=A.out.blk.lt;have B:=U.out;clear U;have U:Hid (td (⟨at_,4,outs,il2,cols,op,left,right,D⟩:Jb) r2=R):=zx B;clear B;have B:=U.out;unfold td at B;clear U;have U:=zx B;clear B;rcases Z:aq [98,121] r2 with x|r3
 ·have B:=U.out
  rw[Z,aD] at B;have HX:=zx B.symm;have HC:=zx (cE Z y2 I.out);clear B Z;go_wp2_with fail
  refine HC.out.mono ?_;rintro ev w9 ⟨⟨gi,rfl,hb⟩,bA⟩;exact ⟨rfl,by rw[HX.out];exact ⟨gi,rfl,hb⟩,O.out.trans bA⟩
 have B:=U.out;rw[Z,au] at B;try dsimp only at B
 clear U;have U:=zx B;clear B;have HC:=zx (aX Z y2 I.out);have a7:Hid (r3.length≤l.length):=zx (by have:=ad.out;have:=aL Z;omega);clear Z ad;have ad:=a7;clear a7;go_wp2_with fail
 refine HC.out.mono ?_;rintro ev y3 ⟨rfl,hp,hk⟩;have HJ':=zx (A.out.ps I.out hk);have HK':=zx (O.out.trans hk);clear I A O HC;have I:=zx hp;have A:=HJ';have O:=HK';clear hp hk HJ' HK';clear a1 bk;have hc:=jw y3 I.out (zA ad.out dq.out);rcases Z:bR r3 with x|⟨a4,r4⟩
 ·have B:=U.out
  rw[Z,aD] at B;have HX:=zx B.symm;rw[Z] at hc;have cu:=zx hc;clear B Z hc;go_wp2_with fail
  refine cu.out.mono ?_;rintro ev w9 ⟨⟨gi,rfl,hb⟩,bA⟩;exact ⟨rfl,by rw[HX.out];exact ⟨gi,rfl,hb⟩,O.out.trans bA⟩
 have B:=U.out;rw[Z,au] at B;try dsimp only at B
 clear U;have U:=zx B;clear B;rw[Z] at hc;have HC:=zx hc;clear Z hc;go_wp2_with fail
 refine HC.out.mono ?_;rintro ev y4 ⟨⟨v4,rfl,a3,hp⟩,hk⟩;obtain ⟨A4,c4,hv,-⟩:=ao a3;subst hv;have ct:=zx a3;have cx:Hid (aT v2 (zR A4 a4.length c4)):=zx (aT.new A.out.o2 (fun g hg=>(a3.lt g hg).1));have c3:Hid (aT bl (zR A4 a4.length c4)):=zx (aT.new A.out.o3 (fun g hg=>(a3.lt g hg).1));have c1:=zx O.out.size;clear a3;have HJ':=zx (A.out.ps I.out hk);have HK':=zx (O.out.trans hk);clear I A O HC;have I:=zx hp;have A:=HJ';have O:=HK';clear hp hk HJ' HK';have dB:=A.out.blk.frozen 4;have d0:y4.cell? ⟨jb,4,none⟩=some (v4):=A.out.blk.cell 4;have lj:=A.out.blk.lt;have aA:aa [jb] y4 (y4.setCell ⟨jb,4,none⟩ (zR A4 a4.length c4)):=(zN _ _).setCell (.inl (by simp)) _;have HJ':=zx (A.out.put4 (bg ct.out c1.out) cx.out c3.out);have HP':=zx (I.out.box A.out aA);have HK':=zx (O.out.box bd.out aA);clear aA;have HX:=zx U.out.symm;clear U;go_wp2;first|go_end0|refine bodyPost_ret (results_none rfl _ _ _) rfl ?_
 exact ⟨by rw[HX.out];exact ⟨rfl,⟨_,_,_,HJ'.out⟩,HP'.out⟩,HK'.out⟩
theorem xp {l:List Tk} {b jb lo:Nat} {v2 v3 v4:Value} (at_ code:Int) (outs ins cols:List Bs) (op:Bs) (left right:Ar) (U:Int) (w0 w:World) (hE:FB w0 lo) (ct:lo≤b) (h:Ps w b l) (hk:aa [b] w0 w) (c1:w0.heap.size≤jb) (hj:ar w w0.heap.size jb ⟨at_,code,outs,ins,cols,op,left,right,U⟩ v2 v3 v4) (d2:ins.length≤1000) (d3:cols.length≤1000) (c5:l.length≤1000000) (bB:aQ (ax l).text=8) (bo:(ax l).kind=1) :
  Calls zy 206 #[zS (some ⟨b,0,none⟩),zS (some ⟨jb,0,none⟩)] w fun e w'=>fx (am ⟨at_,code,outs,ins,cols,op,left,right,U⟩ l) b w0.heap.size jb e w'∧aa [b] w0 w':=by
 obtain ⟨i0,hi,bm,b0,bq⟩:=info_parts eF;obtain ⟨R,hR⟩:∃ R,am ⟨at_,code,outs,ins,cols,op,left,right,U⟩ l=R:=⟨_,rfl⟩
 rw[hR];have HE:=zx hE;have D:=zx h;have M:=zx hk;have A:=zx hj;have bb:=zx c1;have bA:Hid (ins.length≤999000):=zx (by omega);have b5:Hid (cols.length≤999000):=zx (by omega);have d7:=zx c5;have ci:Hid (∀ W,aa [] w W→Calls zy 70 #[zR (some ⟨8,0,none⟩) 10 10,zQ (bs (ax l).text)] W fun e W'=>e=zT (zW zX (cZ (ax l).text))∧W=W'):=zx (fun W q=>ca (ax l).text W ((hE.one ct hk).quiet q).env);obtain ⟨q,hq⟩:∃ q,cZ (ax l).text=q:=⟨_,rfl⟩
 rw[hq] at ci;have HQ:=zx hq;obtain ⟨g,o,c,c0,z0,lb,lg,-,hn,hc,cf,k0,k1,k2,-⟩:=h.open';have cp:(0:Int)<(l.length:Int):=by omega
 have f1:w.cell? ⟨jb,1,none⟩=some (zW zX code):=hj.blk.cell 1;have f2:=hj.blk.frozen 1;have lj:=hj.blk.lt;have cx:=zx bB;have cv:Hid ((aj l.tail >>= fun p=>gK ⟨at_,8,outs,ins++[p.1],cols,op,left,right,U⟩ p.2)=R):=zx (by
  rw[←hR];unfold am;rw[bB,if_neg (by rw[bo];decide)];rfl)
 have c6:aG [103,114,111,117,112] l=true:=by
  unfold aG;rw[bo,aU bB (by decide)];rfl
 have ds:=zx c6;have c9:=zx bo;clear hR hE h hk hj d2 d3 c5 c1 hq bB c6 bo;go_enter Tryz.func206,Tryz.ntmps206
 go_upto_region 0 with (fail)
 go_cut [] (fun wx=>wx=(w.setCell ⟨jb,1,none⟩ (zW zX (max q 0))).drew)
 case first =>
  go_region_law (first|(go_simp;go_at_call 70;refine (ci.out _ (zN [] w).drew).mono ?_;rintro e w6 ⟨rfl,rfl⟩))
  all_goals
   go_wp2;go_meet;exact rfl
 subst hcut;clear c0 z0 lb lg hn hc cf k0 k1 k2 cp lj f1 f2 ci;have aA:aa [jb] w ((w.setCell ⟨jb,1,none⟩ (zW zX (max q 0))).drew):=((zN _ _).setCell (.inl (by simp)) _).drew;have hj':ar ((w.setCell ⟨jb,1,none⟩ (zW zX (max q 0))).drew) w0.heap.size jb ⟨at_,max q 0,outs,ins,cols,op,left,right,U⟩ v2 v3 v4:=A.out.box aA ((A.out.blk.set 1 (zW zX (max q 0))).congr (by rfl)) rfl rfl rfl;have hp':=D.out.box A.out aA;have hk':=M.out.box bb.out aA;have hm:max q 0=8:=by rw[←HQ.out,cS,cx.out];rfl
 rw[hm] at hj' hp' hk' ⊢;clear hm aA A D M;obtain ⟨y0,hy⟩:∃ x,(w.setCell ⟨jb,1,none⟩ (zW zX 8)).drew=x:=⟨_,rfl⟩
 rw[hy] at hj' hp' hk' ⊢;have A:=zx hj';have D:=zx hp';have M:=zx hk';have bk:y0.cell? ⟨jb,1,none⟩=some (zW zX 8):=hj'.blk.cell 1;have lj:=hj'.blk.lt;obtain ⟨g,o,c,c0,z0,lb,lg,-,hn,hc,cf,k0,k1,k2,-⟩:=hp'.open';have cp:(0:Int)<(l.length:Int):=by omega
 clear hy hj' hp' hk' hn hc cf HQ;rw[c9.out] at k0;have wd:=(HE.out.one ct M.out).env.words 8 (by decide);have dq:y0.cell? ⟨8,8,none⟩=some (zQ (bs [103,114,111,117,112])):=wd;have d4:=zB _ _ dq;clear wd;go_wp2_with fail
 refine (aX (s:=[103,114,111,117,112]) (r:=l.tail) (by unfold aq;rw[if_pos ds.out]) y0 D.out).mono ?_;rintro ev y1 ⟨rfl,hp,hk⟩;have HJ':=zx (A.out.ps D.out hk);have HK':=zx (M.out.trans hk);clear D A M c0 z0 lb lg k0 k1 k2 cp bk lj dq d4;have D:=zx hp;have A:=HJ';have M:=HK';clear hp hk HJ' HK';have HR:=cv;clear cv;have Z:Hid (l.tail.length≤l.length):=zx (by rw[zL];omega);obtain ⟨r0,c4⟩:∃ r0,l.tail=r0:=⟨_,rfl⟩
 rw[c4] at D HR Z;clear c4 ds c9 cx;have bk:y1.cell? ⟨jb,1,none⟩=some (zW zX 8):=A.out.blk.cell 1;have b6:=A.out.blk.lt;go_upto_region 13 with (fail)
 obtain ⟨A2,c2,hv,-⟩:=ao A.out.o3;subst hv;have fS:y1.cell? ⟨jb,3,none⟩=some (zR A2 (ins).length c2)∧y1.frozen? ⟨jb,3,none⟩=false:=⟨A.out.blk.cell 3,A.out.blk.frozen 3⟩;have lj:=A.out.blk.lt;have a3:=zx (show (ins).length+1≤maxLen∧((ins).length+1)*16≤140737488355328 by have:=bA.out;simp only[maxLen];first|omega|(simp only[zF,zG,zK];omega));have ba:Hid (jb∉[b]):=zx (by have:=A.out.blk.ty.ne D.out.ty (by decide);simpa using this);rcases O:aj r0 with x|⟨a2,r2⟩
 ·have I:=HR.out
  rw[O,aD] at I;have HX:=zx I.symm;have HC:Hid (∀ W,aa [] y1 W→Calls zy 157 #[zS (some ⟨b,0,none⟩)] W fun e w'=>bV x e w'∧aa [b] W w'):=zx (fun W z=>bU O W (D.out.keep z));clear I O;go_wp2_with fail
  go_region_law (first|(refine step_append_lies _ (by rfl) _ _ _ (by rfl) w0.heap.size 9 i0 _ 1 16 Tryz.underlying55 hi bm b0 bq rfl (by decide) (zR A2 (ins).length c2) (ins).length (strs (ins)) (by rfl) ((A.out.ps D.out B.undrew).o3.alloc _) ⟨w6.heap.size,0,none⟩ 1 1 [zQ (bs [])] (by rfl) rfl (zJ (heap_alloc_new _ _)) (by simp[Value.oneCell']) (by decide) a3.out.1 a3.out.2 (by have:=M.out.size;have:=B.size;have h9:y1.drew.heap.size=y1.heap.size:=rfl;simp;omega) _ rfl ?_;intro gw co w7 a0 J a5 bj;obtain ⟨cj,ch⟩:=az J (ay ⟨a1,a7⟩ _) (fun e=>(av (A.out.ps D.out B.undrew).o3 jb e).ne (A.out.ps D.out B.undrew).blk.ty (by decide) rfl))|(go_simp;go_at_call 157;refine (HC.out _ (zN [] y1).drew).mono ?_;rintro e w6 ⟨⟨gi,rfl,hb⟩,B⟩;obtain ⟨a1,a7⟩:=aC B fS ba.out;have b4:jb<w6.heap.size:=zB w6 ⟨jb,3,none⟩ a1;dsimp only;(go_loud (refine cK ‹∀ (a:Act) (w:World),wpAny _ _ _ _ _ _ a w→_› (some 88) (zQ (bs [])) ⟨rfl,by rw[HX.out];exact ⟨gi,rfl,hb⟩,M.out.trans B.undrew⟩ (fun hF=>?_)))))
  all_goals exact hF.out.elim
 have I:=HR.out;rw[O,au] at I;try dsimp only at I
 clear HR;have HR:=zx I;clear I;have HC:Hid (∀ W,aa [] y1 W→Calls zy 157 #[zS (some ⟨b,0,none⟩)] W fun e w'=>e=zT (zQ (bs a2))∧Ps w' b r2∧aa [b] W w'):=zx (fun W z=>bv O W (D.out.keep z));have ad:Hid (r2.length≤l.length):=zx (by have:=Z.out;have:=aH O;omega);clear Z;have Z:=ad;clear ad;clear O;go_cut [] (fun wx=>∃ bn,ar wx w0.heap.size jb (⟨at_,8,outs,ins++[a2],cols,op,left,right,U⟩:Jb) v2 bn v4∧Ps wx b r2∧aa [b] w0 wx)
 case first =>
  go_region_law (first|(refine step_append_lies _ (by rfl) _ _ _ (by rfl) w0.heap.size 9 i0 _ 1 16 Tryz.underlying55 hi bm b0 bq rfl (by decide) (zR A2 (ins).length c2) (ins).length (strs (ins)) (by rfl) ((A.out.ps D.out B.undrew).o3.alloc _) ⟨w6.heap.size,0,none⟩ 1 1 [zQ (bs a2)] (by rfl) rfl (zJ (heap_alloc_new _ _)) (by simp[Value.oneCell']) (by decide) a3.out.1 a3.out.2 (by have:=M.out.size;have:=B.size;have h9:y1.drew.heap.size=y1.heap.size:=rfl;simp;omega) _ rfl ?_;intro gw co w7 a0 J a5 bj;obtain ⟨cj,ch⟩:=az J (ay ⟨a1,a7⟩ _) (fun e=>(av (A.out.ps D.out B.undrew).o3 jb e).ne (A.out.ps D.out B.undrew).blk.ty (by decide) rfl))|(go_simp;go_at_call 157;refine (HC.out _ (zN [] y1).drew).mono ?_;rintro e w6 ⟨rfl,cg,B⟩;obtain ⟨a1,a7⟩:=aC B fS ba.out;have b4:jb<w6.heap.size:=zB w6 ⟨jb,3,none⟩ a1))
  all_goals
   go_wp2;go_meet;have hh:=ar.app3 (A.out.ps D.out B.undrew) cg (M.out.trans B.undrew) rfl bb.out J rfl a0 a5 (by simp);exact ⟨_,hh.1,hh.2.1,hh.2.2⟩
 obtain ⟨bn,hj,hp,hk⟩:=hcut;obtain ⟨y2,rfl⟩:∃ y:World,y=wc:=⟨_,rfl⟩
 clear D A M HC fS lj a3 ba;have D:=zx hp;have A:=zx hj;have M:=zx hk;have a9:Hid ((ins++[a2]).length≤999000+2):=zx (by have:=bA.out;simp only[zF,zG,zK];omega);clear hp hj hk bA;generalize ins++[a2]=il2 at A HR a9;have bA:=a9;clear a9;clear bk b6;have bk:y2.cell? ⟨jb,1,none⟩=some (zW zX 8):=A.out.blk.cell 1;have b6:=A.out.blk.lt;have I:=HR.out;clear HR;have HR:Hid (f8 (⟨at_,8,outs,il2,cols,op,left,right,U⟩:Jb) r2=R):=zx I;clear I;have I:=HR.out;unfold f8 at I;clear HR;have HR:=zx I;clear I;rcases O:aq [98,121] r2 with x|r3
 ·have I:=HR.out
  rw[O,aD] at I;have HX:=zx I.symm;have HC:=zx (cE O y2 D.out);clear I O;go_wp2_with fail
  refine HC.out.mono ?_;rintro ev w9 ⟨⟨gi,rfl,hb⟩,bl⟩;exact ⟨rfl,by rw[HX.out];exact ⟨gi,rfl,hb⟩,M.out.trans bl⟩
 have I:=HR.out;rw[O,au] at I;try dsimp only at I
 clear HR;have HR:=zx I;clear I;have HC:=zx (aX O y2 D.out);have ad:Hid (r3.length≤l.length):=zx (by have:=Z.out;have:=aL O;omega);clear O Z;have Z:=ad;clear ad;go_wp2_with fail
 refine HC.out.mono ?_;rintro ev y3 ⟨rfl,hp,hk⟩;have HJ':=zx (A.out.ps D.out hk);have HK':=zx (M.out.trans hk);clear D A M HC;have D:=zx hp;have A:=HJ';have M:=HK';clear hp hk HJ' HK';clear bk b6;rcases O:aj r3 with x|⟨a4,r4⟩
 ·have I:=HR.out
  rw[O,aD] at I;have HX:=zx I.symm;have HC:=zx (bU O y3 D.out);clear I O;go_wp2_with fail
  refine HC.out.mono ?_;rintro ev w9 ⟨⟨gi,rfl,hb⟩,bl⟩;exact ⟨rfl,by rw[HX.out];exact ⟨gi,rfl,hb⟩,M.out.trans bl⟩
 have I:=HR.out;rw[O,au] at I;try dsimp only at I
 clear HR;have HR:=zx I;clear I;have HC:=zx (bv O y3 D.out);have ad:Hid (r4.length≤l.length):=zx (by have:=Z.out;have:=aH O;omega);clear O Z;have Z:=ad;clear ad;go_wp2_with fail
 refine HC.out.mono ?_;rintro ev y4 ⟨rfl,hp,hk⟩;have HJ':=zx (A.out.ps D.out hk);have HK':=zx (M.out.trans hk);clear D A M HC;have D:=zx hp;have A:=HJ';have M:=HK';clear hp hk HJ' HK';have d1:=A.out.blk.frozen 4;have d6:y4.cell? ⟨jb,4,none⟩=some (v4):=A.out.blk.cell 4;have lj:=A.out.blk.lt;have cu:(y4.alloc (zU #[zQ (bs a4)] 9)).ownsRow w0.heap.size 9 1 (zR (some ⟨y4.heap.size,0,none⟩) 1 1) [a4].length (strs [a4]):=gg (zO y4 9 #[zQ (bs a4)]) M.out.size rfl (by decide);have cq:aT (v2) (zR (some ⟨y4.heap.size,0,none⟩) 1 1):=aT.new A.out.o2 (fun g hg=>by simp[Value.ownBlock] at hg;omega);have c3:aT (bn) (zR (some ⟨y4.heap.size,0,none⟩) 1 1):=aT.new A.out.o3 (fun g hg=>by simp[Value.ownBlock] at hg;omega);have bd:aa [] y4 (y4.alloc (zU #[zQ (bs a4)] 9)):=(zN _ _).alloc _;have aA:aa [jb] (y4.alloc (zU #[zQ (bs a4)] 9)) ((y4.alloc (zU #[zQ (bs a4)] 9)).setCell ⟨jb,4,none⟩ (zR (some ⟨y4.heap.size,0,none⟩) 1 1)):=(zN _ _).setCell (.inl (by simp)) _;have hj':=(A.out.keep bd).put4 cu cq c3;have hp':=(D.out.keep bd).box (A.out.keep bd) aA;have hk':=aa.box (M.out.trans bd.of_nil) bb.out aA;rw[World.setCell_alloc_past (w:=y4) (zU #[zQ (bs a4)] 9) jb 4 (zR (some ⟨y4.heap.size,0,none⟩) 1 1) lj] at hj' hp' hk';have HJ':=zx hj';have HP':=zx hp';have HK':=zx hk';clear cu cq c3 bd aA hj' hp' hk';go_upto_region 32 with (fail)
 obtain ⟨y5,hy⟩:∃ x,((y4.setCell ⟨jb,4,none⟩ (zR (some ⟨y4.heap.size,0,none⟩) 1 1)).alloc (zU #[zQ (bs a4)] 9))=x:=⟨_,rfl⟩
 rw[hy] at HJ' HP' HK' ⊢;obtain ⟨d0,b3⟩:∃ n,y4.heap.size=n:=⟨_,rfl⟩
 rw[b3] at HJ';try rw[b3]
 clear hy b3 d1 d6 lj A D M;have A:=HJ';have D:=HP';have M:=HK';clear HJ' HP' HK';obtain ⟨d5,c7⟩:∃ v,Value.slice (some ⟨d0,0,none⟩) 1 1=v:=⟨_,rfl⟩
 rw[c7] at A;clear c7;have a9:Hid ([a4].length≤999000):=zx (by simp);clear b5;generalize b1:[a4]=cl5 at A HR a9;have HCL:=zx b1;clear b1;have b5:=a9;clear a9;have HJ':=zx (A.out.keep ((zN _ _).alloc (zU #[zQ (bs [115,117,109]),zQ (bs [109,97,120])] 9)));have HP':=zx (D.out.keep ((zN _ _).alloc (zU #[zQ (bs [115,117,109]),zQ (bs [109,97,120])] 9)));have HK':=zx (M.out.alloc (zU #[zQ (bs [115,117,109]),zQ (bs [109,97,120])] 9));have b7:Hid (Rd (y5.alloc (zU #[zQ (bs [115,117,109]),zQ (bs [109,97,120])] 9)) [b] 1 (some ⟨y5.heap.size,0,none⟩) 2 (strs [[115,117,109],[109,97,120]])):=zx (nQ [[115,117,109],[109,97,120]] (zO y5 9 #[zQ (bs [115,117,109]),zQ (bs [109,97,120])]) (by have:=D.out.lt;omega));clear A D M;have A:=HJ';have D:=HP';have M:=HK';clear HJ' HP' HK';go_wp2_with fail
 rcases O:bC [[115,117,109],[109,97,120]] r4 with x|⟨a6,r6⟩
 ·have I:=HR.out
  rw[O,aD] at I;have HX:=zx I.symm;have HC:=zx (nM O (some ⟨y5.heap.size,0,none⟩) 2 _ D.out b7.out (by decide));clear I O;skip
  refine HC.out.mono ?_;rintro ev w9 ⟨⟨gi,rfl,hb⟩,bl⟩;exact ⟨rfl,by rw[HX.out];exact ⟨gi,rfl,hb⟩,M.out.trans bl⟩
 have I:=HR.out;rw[O,au] at I;try dsimp only at I
 clear HR;have HR:=zx I;clear I;have HC:=zx (ky O (some ⟨y5.heap.size,0,none⟩) 2 _ D.out b7.out (by decide));have ad:Hid (r6.length≤l.length):=zx (by have:=Z.out;have:=dZ O;omega);clear O b7 Z;have Z:=ad;clear ad;refine HC.out.mono ?_;rintro ev y6 ⟨rfl,hp,hk⟩;have HJ':=zx (A.out.ps D.out hk);have HK':=zx (M.out.trans hk);clear D A M HC;have D:=zx hp;have A:=HJ';have M:=HK';clear hp hk HJ' HK';have dv:=A.out.blk.frozen 5;have dB:y6.cell? ⟨jb,5,none⟩=some (zQ (bs op)):=A.out.blk.cell 5;have lj:=A.out.blk.lt;have aA:aa [jb] y6 (y6.setCell ⟨jb,5,none⟩ (zQ (bs a6))):=(zN _ _).setCell (.inl (by simp)) _;have HJ':Hid (ar (y6.setCell ⟨jb,5,none⟩ (zQ (bs a6))) w0.heap.size jb (⟨at_,8,outs,il2,cl5,a6,left,right,U⟩:Jb) v2 bn d5):=zx (A.out.box aA ((A.out.blk.set 5 (zQ (bs a6))).congr (by rfl)) rfl rfl rfl);have HP':=zx (D.out.box A.out aA);have HK':=zx (M.out.box bb.out aA);clear aA;go_upto_region 33 with (fail)
 obtain ⟨y7,hy⟩:∃ x,(y6.setCell ⟨jb,5,none⟩ (zQ (bs a6)))=x:=⟨_,rfl⟩
 rw[hy] at HJ' HP' HK' ⊢;clear hy dv dB lj A D M;have A:=HJ';have D:=HP';have M:=HK';clear HJ' HP' HK';go_upto_region 33 with (fail)
 obtain ⟨A8,c8,hv,-⟩:=ao A.out.o4;subst hv;have fS:y7.cell? ⟨jb,4,none⟩=some (zR A8 (cl5).length c8)∧y7.frozen? ⟨jb,4,none⟩=false:=⟨A.out.blk.cell 4,A.out.blk.frozen 4⟩;have lj:=A.out.blk.lt;have a3:=zx (show (cl5).length+1≤maxLen∧((cl5).length+1)*16≤140737488355328 by have:=b5.out;simp only[maxLen];first|omega|(simp only[zF,zG,zK];omega));have ba:Hid (jb∉[b]):=zx (by have:=A.out.blk.ty.ne D.out.ty (by decide);simpa using this);rcases O:aj r6 with x|⟨a8,r8⟩
 ·have I:=HR.out
  rw[O,aD] at I;have HX:=zx I.symm;have HC:Hid (∀ W,aa [] y7 W→Calls zy 157 #[zS (some ⟨b,0,none⟩)] W fun e w'=>bV x e w'∧aa [b] W w'):=zx (fun W z=>bU O W (D.out.keep z));clear I O;go_wp2_with fail
  go_region_law (first|(refine step_append_lies _ (by rfl) _ _ _ (by rfl) w0.heap.size 9 i0 _ 1 16 Tryz.underlying55 hi bm b0 bq rfl (by decide) (zR A8 (cl5).length c8) (cl5).length (strs (cl5)) (by rfl) ((A.out.ps D.out B.undrew).o4.alloc _) ⟨w6.heap.size,0,none⟩ 1 1 [zQ (bs [])] (by rfl) rfl (zJ (heap_alloc_new _ _)) (by simp[Value.oneCell']) (by decide) a3.out.1 a3.out.2 (by have:=M.out.size;have:=B.size;have h9:y7.drew.heap.size=y7.heap.size:=rfl;simp;omega) _ rfl ?_;intro gw co w7 a0 J a5 bj;obtain ⟨cj,ch⟩:=az J (ay ⟨a1,a7⟩ _) (fun e=>(av (A.out.ps D.out B.undrew).o4 jb e).ne (A.out.ps D.out B.undrew).blk.ty (by decide) rfl))|(go_simp;go_at_call 157;refine (HC.out _ (zN [] y7).drew).mono ?_;rintro e w6 ⟨⟨gi,rfl,hb⟩,B⟩;obtain ⟨a1,a7⟩:=aC B fS ba.out;have b4:jb<w6.heap.size:=zB w6 ⟨jb,4,none⟩ a1;dsimp only;(go_loud (refine cK ‹∀ (a:Act) (w:World),wpAny _ _ _ _ _ _ a w→_› (some 163) (zQ (bs [])) ⟨rfl,by rw[HX.out];exact ⟨gi,rfl,hb⟩,M.out.trans B.undrew⟩ (fun hF=>?_)))))
  all_goals exact hF.out.elim
 have I:=HR.out;rw[O,au] at I;try dsimp only at I
 clear HR;have HR:=zx I;clear I;have HC:Hid (∀ W,aa [] y7 W→Calls zy 157 #[zS (some ⟨b,0,none⟩)] W fun e w'=>e=zT (zQ (bs a8))∧Ps w' b r8∧aa [b] W w'):=zx (fun W z=>bv O W (D.out.keep z));have ad:Hid (r8.length≤l.length):=zx (by have:=Z.out;have:=aH O;omega);clear Z;have Z:=ad;clear ad;clear O;have HX:=zx HR.out.symm;clear HR;go_region_law (first|(refine step_append_lies _ (by rfl) _ _ _ (by rfl) w0.heap.size 9 i0 _ 1 16 Tryz.underlying55 hi bm b0 bq rfl (by decide) (zR A8 (cl5).length c8) (cl5).length (strs (cl5)) (by rfl) ((A.out.ps D.out B.undrew).o4.alloc _) ⟨w6.heap.size,0,none⟩ 1 1 [zQ (bs a8)] (by rfl) rfl (zJ (heap_alloc_new _ _)) (by simp[Value.oneCell']) (by decide) a3.out.1 a3.out.2 (by have:=M.out.size;have:=B.size;have h9:y7.drew.heap.size=y7.heap.size:=rfl;simp;omega) _ rfl ?_;intro gw co w7 a0 J a5 bj;obtain ⟨cj,ch⟩:=az J (ay ⟨a1,a7⟩ _) (fun e=>(av (A.out.ps D.out B.undrew).o4 jb e).ne (A.out.ps D.out B.undrew).blk.ty (by decide) rfl))|(go_simp;go_at_call 157;refine (HC.out _ (zN [] y7).drew).mono ?_;rintro e w6 ⟨rfl,cg,B⟩;obtain ⟨a1,a7⟩:=aC B fS ba.out;have b4:jb<w6.heap.size:=zB w6 ⟨jb,4,none⟩ a1))
 all_goals
  go_wp2;first|go_end0|refine bodyPost_ret (results_none rfl _ _ _) rfl ?_
  try (have b1:=HCL.out;subst b1)
  have hh:=ar.app4 (A.out.ps D.out B.undrew) cg (M.out.trans B.undrew) rfl bb.out J rfl a0 a5 (by simp);exact ⟨by rw[HX.out];exact ⟨rfl,⟨_,_,_,hh.1⟩,hh.2.1⟩,hh.2.2⟩
end
end Go.Proofs.YtpagiajlefejcaaGreatDoor
