/- ops.changed. ops.made: Set. Parse's deferred closure. Parse. What the program's Parse hands back, in one form, whether the text is a flow or none. A flow that was read may be looked at by plan. Jobs in memory, row by row: read whole, put behind one another; slices.Clone of them. -/
import Derived.Test.YtecpeogejjibaaaGreatDoorEmoM12
import Derived.Test.YtecpeogejjibaaaGreatDoorEmoM13
import Derived.Test.YtecpeogejjibaaaGreatDoorEmoM4
import Derived.Test.YtecpeogejjibaaaGreatDoorEmoM11
import Derived.Defers
import Derived.Recover
import Derived.Test.YtecpeogejjibaaaGreatDoorEmoM3
import Derived.WalkSpells
set_option linter.unusedSimpArgs false
set_option linter.unusedVariables false
set_option maxRecDepth 100000
set_option maxHeartbeats 16000000
namespace Go.Proofs.YtecpeogejjibaaaGreatDoor
open Go.Lib renaming hid → Fx
open _root_.Nat renaming le_refl → Fy, le_trans → FD, zero_le → FF
open _root_.List renaming length_append → Fz, getElem?_eq_getElem → FA, getElem_mem → FE, length_cons → FG, length_take → FH, getD_eq_getElem?_getD → FJ
open Go.World renaming block_lt_of_cell? → FC, news_of_block → FI
open aa renaming refl → FK
open ao renaming new → FL
open Go.Value renaming string → FM, slice → FN, pointer → FO, int → FR
open Go.Ending renaming returned → FP
open Go.Obj renaming cells → FQ
open Go.IntKind renaming i64 → FS
section
open Go.RowKit Go.BigFrame
attribute [local go_sem] ag ab ae af
attribute [local go_sem] KW.cell
theorem jB (j:Jb) (a:Tb) (D:List (List Vl)) (m:Nat) (h:m<D.length) (out:List (List Vl)):aO j a (D.drop m) out=match bu j a D[m] with
  | none=>none
  | some x=>aO j a (D.drop (m+1)) (out++[x]):=by
 rw[List.drop_eq_getElem_cons h];conv=>lhs;unfold aO
 cases bu j a D[m]<;>rfl
theorem iF {j:Jb} {a:Tb} {k:Nat} (h:an a.cols (j.cols.headD [])=some k) (r:List Vl):bu j a r=if 1000000000<jR j.op (bB j.left a.cols r).num (bB j.right a.cols r).num∨jR j.op (bB j.left a.cols r).num (bB j.right a.cols r).num < -1000000000 then none else some (r.set k ⟨(r.getD k zV).kind,jR j.op (bB j.left a.cols r).num (bB j.right a.cols r).num,(r.getD k zV).word⟩):=by
 unfold bu;simp only;split
 ·rfl
 rw[h]
theorem vG (r:List Vl) (k:Nat) (h:k<r.length) (n:Int):al (r.set k ⟨r[k].kind,n,r[k].word⟩)=(al r).set (k*3+1) (FR FS n):=by
 induction r generalizing k with
 | nil=>simp at h
 | cons p r ih =>
  rcases k with _|k
  ·simp[al,eH]
  have hk':k<r.length:=by simpa using h
  have:=ih k hk';simp only[List.set_cons_succ,List.getElem_cons_succ];show eH p++al (r.set k ⟨r[k].kind,n,r[k].word⟩)=(eH p++al r).set ((k+1)*3+1) (FR FS n);rw[this,show (k+1)*3+1=(k*3+1)+1+1+1 by omega];simp[eH]
theorem md {w:World} {base g n cap j:Nat} {e:TypeId} {size:Nat} {xs:List Value} {u:Value} (h:w.ownsRow base e size (FN (some ⟨g,0,none⟩) n cap) n xs):(w.setCell ⟨g,j,none⟩ u).ownsRow base e size (FN (some ⟨g,0,none⟩) n cap) n (xs.set j u):=by
 refine ⟨by rw[List.length_set];exact h.1,?_⟩;rcases h.2 with ⟨J,_⟩|⟨g',M,cur,J,N,U,O,hm,Z,ht⟩
 ·cases J
 injection J with I e2 e3;injection I with I;injection I with I;subst I e3;have D:ao w g e cur:=U;refine .inr ⟨g,cap,cur.setIfInBounds j u,rfl,N,D.set j u,O,hm,by simpa using Z,?_⟩;rw[←ht];simp only[Array.toList_setIfInBounds];rw[List.take_set]
theorem me {w:World} {base g n cap:Nat} {e:TypeId} {size:Nat} {xs:List Value} (h:w.ownsRow base e size (FN (some ⟨g,0,none⟩) n cap) n xs) (i:Nat):w.frozen? ⟨g,i,none⟩=false:=by
 rcases h.2 with ⟨J,_⟩|⟨g',M,cur,J,O,N,Z,hm,hs,ht⟩
 ·cases J
 injection J with I U e3;injection I with I;injection I with I;subst I;have D:ao w g e cur:=N;exact D.frozen i
def jC (R:Option (List (List Vl))) (e:Ending) (w':World):Prop:=match R with
 | none=>e=FP (.tuple #[FN none 0 0,.iface 37 (FR FS 2)])
 | some l=>∃ g,e=FP (.tuple #[FN (some ⟨g,0,none⟩) 1 1,.nilIface])∧fp w' (some ⟨g,0,none⟩) [l]
theorem vH {x y:Int} (I : -1000000000≤x) (M:x≤1000000000) (D : -1000000000≤y) (h:y≤1000000000) : -1000000000000000000≤x*y∧x*y≤1000000000000000000:=by
 have J:(x*y).natAbs≤1000000000*1000000000:=by
  rw[Int.natAbs_mul];exact Nat.mul_le_mul (by omega) (by omega)
 omega
theorem jM (w:World) (p:Addr) (v:Value):(w.setCell p v).heap.size=w.heap.size:=by simp[World.setCell]
theorem iG (w:World) (p:Addr) (v:Value) (o:Obj):((w.setCell p v).alloc o).heap[w.heap.size]? = some o:=by
 have h:=heap_alloc_new (w.setCell p v) o;rwa [jM] at h
theorem tL (j:Jb) (t:Tb) (k:Nat) (nm:Bs) (A B:Option Addr) (c d:Nat) (Ao:Option Addr) (co:Nat) (Ai:Option Addr) (ni ci:Nat) (Ac:Option Addr) (cc:Nat) (w:World) (hT:aZ w t A B c d) (Z:j.cols=[nm]) (hk:an t.cols nm=some k) (d0:Rd w [] 1 Ac 1 (strs [nm]))
  (cz:∀ r∈t.rows,r.length=t.cols.length) (ct:∀ r∈t.rows,fQ j.left t.cols r) (cg:∀ r∈t.rows,fQ j.right t.cols r)
  (dq:∀ r∈t.rows,-1000000000≤(bB j.left t.cols r).num∧(bB j.left t.cols r).num≤1000000000) (cj:∀ r∈t.rows,-1000000000≤(bB j.right t.cols r).num∧(bB j.right t.cols r).num≤1000000000) (hp:j.op=[43]) :
  Calls Tryz.prog 99 #[eM j Ao co Ai ni ci Ac cc,.agg #[FN A t.cols.length c,FN B t.rows.length d]] w fun e w'=>jC (aO j t t.rows []) e w'∧aa [] w w':=by
 obtain ⟨ir,f0,cx,c8,c6⟩:=info_parts jw;have fn:k<t.cols.length:=(List.findIdx?_eq_some_iff_getElem.1 hk).1;have hf:=fun W (q:aa [] w W)=>bU t.cols nm A c W (hT.cols.keep q) hT.ln
 rw[hk] at hf;have HF:Hid (∀ W,aa [] w W→Calls Tryz.prog 89 #[FN A t.cols.length c,FM (bs nm)] W fun e w'=>e=FP (FR FS (k:Int))∧aa [] W w'):=Fx hf;have d9:=Fx (fun m (h:m<t.rows.length) out=>jB j t t.rows m h out);have gi:=Fx (fun r=>iF (j:=j) (a:=t) (k:=k) (by rw[Z];exact hk) r);have e6:Hid (∀ out,aO j t [] out=some out):=Fx fun out=>rfl
 generalize aO j t=CG at *;generalize bu j t=CR at *;have HT:=Fx hT;have eY:=Fx ct;have eB:=Fx cg;have e2:=Fx dq;have e5:=Fx cj;have e7:=Fx cz;have gz:=hT.lm;have f3:=hT.ln;clear hT ct cg dq cj cz hf hk;obtain ⟨a6,code,outs,js,cols,op,⟨lc,lk,ln,lw⟩,⟨rc,rk,rn,M⟩,D⟩:=j;obtain ⟨no,c9⟩:∃ n,outs.length=n:=⟨_,rfl⟩
 simp only at Z;show Calls _ _ #[.agg #[FR FS a6,FR FS code,FN Ao outs.length co,FN Ai ni ci,FN Ac cols.length cc,FM (bs op),FM (bs lc),FR FS lk,FR FS ln,FM (bs lw),FM (bs rc),FR FS rk,FR FS rn,FM (bs M),FR FS D],.agg #[FN A t.cols.length c,FN B t.rows.length d]] w _;rw[c9,show cols.length=1 by rw[Z];rfl];have e4:op=[43]∨True:= .inr trivial;subst hp;have f6:Hid (∀ x y,jR [43] x y=x+y):=Fx (fun x y=>by unfold jR;rfl);skip
 obtain ⟨b4,o4,ff,_,gl,bZ⟩:=d0.open' (by omega) (by decide);have d4:w.cell? ⟨b4,o4,none⟩=some (FM (bs nm)):=bZ 0 _ rfl;subst ff;have bq:Hid (aa [] w ((w.alloc (FQ #[FR FS a6,FR FS code,FN Ao no co,FN Ai ni ci,FN (some ⟨b4,o4,none⟩) 1 cc,FM (bs [43]),FM (bs lc),FR FS lk,FR FS ln,FM (bs lw),FM (bs rc),FR FS rk,FR FS rn,FM (bs M),FR FS D] 50)).alloc (FQ #[FN A t.cols.length c,FN B t.rows.length d] 54))):=Fx (((FK _ _).alloc _).alloc _);have a3:=Fx (ao.alloc (FL w 50 #[FR FS a6,FR FS code,FN Ao no co,FN Ai ni ci,FN (some ⟨b4,o4,none⟩) 1 cc,FM (bs [43]),FM (bs lc),FR FS lk,FR FS ln,FM (bs lw),FM (bs rc),FR FS rk,FR FS rn,FM (bs M),FR FS D]) (FQ #[FN A t.cols.length c,FN B t.rows.length d] 54));have a1:=Fx (FL (w.alloc (FQ #[FR FS a6,FR FS code,FN Ao no co,FN Ai ni ci,FN (some ⟨b4,o4,none⟩) 1 cc,FM (bs [43]),FM (bs lc),FR FS lk,FR FS ln,FM (bs lw),FM (bs rc),FR FS rk,FR FS rn,FM (bs M),FR FS D] 50)) 54 #[FN A t.cols.length c,FN B t.rows.length d]);rw[ap] at a1;have b8:=Fx (bq.out.cell_of d4 (by simp));clear d0 bZ d4 Z c9 e4;go_enter Tryz.func99,Tryz.ntmps99
 go_wp2;obtain ⟨w2,d2⟩:∃ w2,((w.alloc (FQ #[FR FS a6,FR FS code,FN Ao no co,FN Ai ni ci,FN (some ⟨b4,o4,none⟩) 1 cc,FM (bs [43]),FM (bs lc),FR FS lk,FR FS ln,FM (bs lw),FM (bs rc),FR FS rk,FR FS rn,FM (bs M),FR FS D] 50)).alloc (FQ #[FN A t.cols.length c,FN B t.rows.length d] 54))=w2:=⟨_,rfl⟩
 rw[d2] at bq a3 a1 b8 ⊢;obtain ⟨bx,c3⟩:∃ bx,w.heap.size=bx:=⟨_,rfl⟩
 rw[c3] at a3 a1 ⊢;clear d2 c3;have d1:Hid (∀ W,aa [] w2 W→Calls Tryz.prog 89 #[FN A t.cols.length c,FM (bs nm)] W fun e w'=>e=FP (FR FS (k:Int))∧aa [] W w'):=Fx (fun W q=>HF.out W (bq.out.trans q));have y4:w2.cell? ⟨bx,4,none⟩=some (FN (some ⟨b4,o4,none⟩) 1 cc):=a3.out.cell 4;have y0:w2.cell? ⟨bx+1,0,none⟩=some (FN A t.cols.length c):=a1.out.cell 0;have y8:=b8.out;have l1:bx<w2.heap.size:=a3.out.lt;have l2:bx+1<w2.heap.size:=a1.out.lt;have l3:b4<w2.heap.size:=FC _ _ y8;refine ah (by kernel_rfl) (by kernel_rfl) ?_;repeat (go_big_quiet_step (first|with_reducible exact KW.of d1.out _))
 refine wpQuiet_nil ?_;intro w3 a4;have gm:=Fx a4;have en:=Fx (bq.out.trans a4);have a9:=Fx (a3.out.keep a4 (by simp));have bc:=Fx (a1.out.keep a4 (by simp));clear a4 y4 y0 y8 l1 l2 l3 d1 HF a3 a1 b8;have y1:w3.cell? ⟨bx+1,1,none⟩=some (FN B t.rows.length d):=bc.out.cell 1;go_wp2;clear y1;go_loopw [7,23] (fun u i wx=>∃ (m:Nat) (v:Value) (out:List (List Vl)),v=u∧m≤t.rows.length∧i=FR FS m∧out.length=m∧Hid (iK wx w3.heap.size v out)∧Hid (CG (t.rows.drop m) out=CG t.rows [])∧aa [] w3 wx) (fun _ i _=>t.rows.length-(intOf i).toNat)
 case atStart=>exact ⟨0,_,[],rfl,FF _,rfl,rfl,iK.nil _ _,Fx rfl,FK _ _⟩
 obtain ⟨m,v,out,rfl,hm,rfl,ds,HG,cy,hk⟩:=hrel;have bk:=Fx ds;have HK:=Fx hk;have U:=Fx (en.out.trans hk);clear hk ds;by_cases b5:m<t.rows.length
 ·obtain ⟨us,fs,dt,dz⟩:=HT.out.rows
  have dB:m<us.length:=by omega
  have cv:=dz m dB b5;obtain ⟨b7,o7,er,_,hc,ch⟩:=dt.open' (by omega) (by omega);have d7:=ch (m*1) us[m] (by rw[Nat.mul_one];exact FA dB);rw[Nat.mul_one] at d7;have J:t.rows[m]∈t.rows:=FE b5;have av:=d9.out m b5 out;rw[cy.out,gi.out] at av;have be:=e7.out _ J;obtain ⟨r,hr⟩:∃ r,t.rows[m]=r:=⟨_,rfl⟩
  rw[hr] at cv J be av;obtain ⟨Ar,cr,hu,fz,a0⟩:=cv;rw[hu] at d7;have d8:=U.out.cell_of d7 (by simp);subst er;have eX:=Fx a0;have bb:Hid (∀ W,aa [] wr W→Calls Tryz.prog 98 #[.agg #[FM (bs lc),FR FS lk,FR FS ln,FM (bs lw)],FN A t.cols.length c,FN Ar r.length cr] W fun e w'=>e=FP (fV (bB ⟨lc,⟨lk,ln,lw⟩⟩ t.cols r))∧aa [] W w'):=Fx fun W q=>eR ⟨lc,⟨lk,ln,lw⟩⟩ t.cols r A Ar c cr W (HT.out.cols.keep (U.out.trans q)) HT.out.ln (a0.keep (U.out.trans q)) (eY.out r J)
  have ba:Hid (∀ W,aa [] wr W→Calls Tryz.prog 98 #[.agg #[FM (bs rc),FR FS rk,FR FS rn,FM (bs M)],FN A t.cols.length c,FN Ar r.length cr] W fun e w'=>e=FP (fV (bB ⟨rc,⟨rk,rn,M⟩⟩ t.cols r))∧aa [] W w'):=Fx fun W q=>eR ⟨rc,⟨rk,rn,M⟩⟩ t.cols r A Ar c cr W (HT.out.cols.keep (U.out.trans q)) HT.out.ln (a0.keep (U.out.trans q)) (eB.out r J)
  have ca:=e2.out r J;have b1:=e5.out r J;try simp only at ca
  try simp only at b1
  try simp only at av
  obtain ⟨X,hX⟩:∃ X,bB ⟨lc,⟨lk,ln,lw⟩⟩ t.cols r=X:=⟨_,rfl⟩
  obtain ⟨Y,hY⟩:∃ Y,bB ⟨rc,⟨rk,rn,M⟩⟩ t.cols r=Y:=⟨_,rfl⟩
  rw[hX] at bb ca av;rw[hY] at ba b1 av;obtain ⟨xk,xn,xw⟩:=X;obtain ⟨yk,yn,yw⟩:=Y;have fb:Hid (∀ W,aa [] wr W→Calls Tryz.prog 98 #[.agg #[FM (bs lc),FR FS lk,FR FS ln,FM (bs lw)],FN A t.cols.length c,FN Ar r.length cr] W fun e w'=>e=FP (.agg #[FR FS xk,FR FS xn,FM (bs xw)])∧aa [] W w'):=bb;have el:Hid (∀ W,aa [] wr W→Calls Tryz.prog 98 #[.agg #[FM (bs rc),FR FS rk,FR FS rn,FM (bs M)],FN A t.cols.length c,FN Ar r.length cr] W fun e w'=>e=FP (.agg #[FR FS yk,FR FS yn,FM (bs yw)])∧aa [] W w'):=ba;obtain ⟨bX,br⟩:=ca;obtain ⟨bz,bv⟩:=b1;try simp only at bX br bz bv
  try simp only at av
  have bo:=Fx av;have ce:k<r.length:=by rw[be];exact fn
  have c0:1≤r.length:=by omega
  have e0:r.length≤4294967296:=by rw[be];exact f3
  have cd : -1000000000000000000≤xn*yn∧xn*yn≤1000000000000000000:=vH bX br bz bv;have g2:=cd.1;have g0:=cd.2;have z3:=(a9.out.keep HK.out (by simp)).cell 6;obtain ⟨y0,y1,y2,y3,y4,y5,y6,y7,y8,y9,f2,e8,eA,f5,ey⟩:=oN (a9.out.keep HK.out (by simp));have x0:wr.cell? ⟨bx+1,0,none⟩=some (FN A t.cols.length c):=(bc.out.keep HK.out (by simp)).cell 0;have l1:bx<wr.heap.size:=(a9.out.keep HK.out (by simp)).lt;have l2:bx+1<wr.heap.size:=(bc.out.keep HK.out (by simp)).lt;clear av hX hY hu fs dt dz ch d7 a0 cd J bb ba z3 be hr fz;have g5:∀ W,(Instr.field 46 (.agg #[FR FS xk,FR FS xn,FM (bs xw)]) 1).run Tryz.prog W= .ok (FR FS xn) W:=fun W=>by rfl
  have ha:∀ W,(Instr.field 46 (.agg #[FR FS yk,FR FS yn,FM (bs yw)]) 1).run Tryz.prog W= .ok (FR FS yn) W:=fun W=>by rfl
  go_wp2;refine ah (by kernel_rfl) (by kernel_rfl) ?_;repeat (go_big_quiet_step (first|with_reducible exact KW.of fb.out _|with_reducible exact KW.of el.out _))
  refine wpQuiet_nil ?_;intro w5 b9;have aA:=Fx b9;clear y0 y1 y2 y3 y4 y6 y7 y8 y9 f2 e8 eA f5 ey x0 l1 l2 d8;replace y5:=b9.cell_of y5 (by simp);clear b9;obtain ⟨N,hN⟩:∃ N,xn+yn=N:=⟨_,rfl⟩
  have HN:=Fx hN;have f8:Hid (jR [43] xn yn=N):=Fx ((f6.out xn yn).trans hN);rw[f8.out] at bo;by_cases ad:1000000000<N
  ·have a7:Hid (CG t.rows []=none):=Fx (by rw[bo.out,if_pos (.inl ad)])
   rw[hN.symm] at ad;clear hN;go_wp2;go_ret2;exact ⟨by rw[a7.out];rfl,U.out.trans aA.out⟩
  by_cases bj:N < -1000000000
  ·have a7:Hid (CG t.rows []=none):=Fx (by rw[bo.out,if_pos (.inr bj)])
   rw[hN.symm] at ad bj;clear hN;go_wp2;go_ret2;exact ⟨by rw[a7.out];rfl,U.out.trans aA.out⟩
  have d3:r.getD k zV=r[k]:=by rw[FJ,FA ce];rfl
  have a7:Hid (CG t.rows []=CG (t.rows.drop (m+1)) (out++[r.set k ⟨r[k].kind,N,r[k].word⟩])):=Fx (by
   rw[bo.out,if_neg (by rintro (h|h);exact ad h;exact bj h),d3])
  have HCL:=Fx (l9 r c0 e0 Ar cr w5 (eX.out.keep (U.out.trans aA.out)));have e1:=Fx (vG r k ce N);obtain ⟨f7,cn,f4⟩:=ay r k ce;have f9:=Fx cn;rw[hN.symm] at ad bj;clear hN d3 f7 cn f4;go_wp2_with fail
  refine HCL.out.mono ?_;rintro e w6 ⟨⟨v6,rfl,I⟩,bl⟩;obtain ⟨g,a5,rfl,c7,b6,g8,a2⟩:=fP I c0;have hb:=Fx I;have g3:=Fx bl;have c1:=a2 _ _ f9.out;have f1:=me I (k*3+1);have g1:=Fx b6;have g6:(0:Int)≤(k:Int):=by omega
  have g4:(k:Int)<(r.length:Int):=by omega
  have c4:=Fx (((aA.out.trans bl)).setCell (p:=⟨g,k*3+1,none⟩) (.inr (FD aA.out.size b6)) (FR FS N));have dr:=Fx (md (j:=k*3+1) (u:=FR FS N) I);rw[←e1.out] at dr;have e9:=Fx (HG.out.keep c4.out);obtain ⟨hs,c5,bm,d5⟩:=e9.out;have fr:=Fx bm;rw[bk.out] at bm;have HO:=Fx bm;have gk:=Fx d5;have fc:=Fx c5;have HQ:Hid ((w6.setCell ⟨g,k*3+1,none⟩ (FR FS N)).ownsRow w3.heap.size 46 3 (FN (some ⟨g,0,none⟩) r.length a5) (r.set k ⟨r[k].kind,N,r[k].word⟩).length (al (r.set k ⟨r[k].kind,N,r[k].word⟩))):=Fx (by
   rw[List.length_set];exact gY dr.out (FD HK.out.size aA.out.size))
  have g7:w3.heap.size≤w6.heap.size:=FD (FD HK.out.size aA.out.size) bl.size;have cq:=Fx (show m+1≤maxLen∧(m+1)*24≤140737488355328 by simp only[maxLen];omega);clear I bl b6 a2 bm d5 c5 c7;have et:=HN.out;clear HN;subst et;go_wp2_with (at_builtin;(refine wpList_append_lies _ rfl _ _ 52 rfl w3.heap.size 89 ir _ 1 24 Tryz.underlying52 f0 cx c8 c6 rfl (by decide) _ m hs rfl (HO.out.alloc _) ⟨w6.heap.size,0,none⟩ 1 1 [FN (some ⟨g,0,none⟩) r.length a5] rfl rfl (FI (iG _ _ _ _)) (by simp[Value.oneCell']) (by decide) cq.out.1 cq.out.2 (by rw[ap,jM];omega) _ rfl ?_);intro gw b0 w9 a8 O cm dv)
  have ev:=Fx (((HK.out.trans c4.out).alloc (FQ #[FN (some ⟨g,0,none⟩) r.length a5] 89)).grown O (fun g' hg=> .inr (HO.out.lt g' hg).1));have eb:Hid (iK w9 w3.heap.size (FN (some ⟨gw,0,none⟩) (m+1) b0) (out++[r.set k ⟨r[k].kind,xn+yn,r[k].word⟩])):=Fx (by
   have h:=gZ (W':=w9) (base:=w3.heap.size) (gw:=gw) (cap:=b0) fc.out gk.out fr.out HQ.out O (by rw[bk.out];exact a8);rw[bk.out] at h;exact h)
  have es:=Fx (a7.out.symm);clear a8 O cm dv;go_wp2;go_roundw
  case rel=>exact ⟨m+1,_,_,rfl,by omega,by go_num,by rw[Fz,bk.out];rfl,eb,es,ev.out⟩
  case measure=>simp[intOf];omega
 obtain rfl:m=t.rows.length:=by omega
 have b3:=cy.out;rw[List.drop_length] at b3;have fS:Hid (CG t.rows []=some out):=Fx (b3.symm.trans (e6.out out));obtain ⟨B6,d6,hv,cu,a0⟩:=HG.out.rd;subst hv;have ez:Hid (cF wr (FN B6 out.length d6) out):=Fx ⟨B6,d6,rfl,cu,a0⟩;clear b3 cu a0 HG;go_wp2;go_ret2;exact ⟨by rw[fS.out];exact ⟨_,rfl,eq ez.out _⟩,U.out.alloc _⟩
theorem tM (j:Jb) (t:Tb) (k:Nat) (nm:Bs) (A B:Option Addr) (c d:Nat) (Ao:Option Addr) (co:Nat) (Ai:Option Addr) (ni ci:Nat) (Ac:Option Addr) (cc:Nat) (w:World) (hT:aZ w t A B c d) (Z:j.cols=[nm]) (hk:an t.cols nm=some k) (d0:Rd w [] 1 Ac 1 (strs [nm]))
  (cz:∀ r∈t.rows,r.length=t.cols.length) (ct:∀ r∈t.rows,fQ j.left t.cols r) (cg:∀ r∈t.rows,fQ j.right t.cols r)
  (dq:∀ r∈t.rows,-1000000000≤(bB j.left t.cols r).num∧(bB j.left t.cols r).num≤1000000000) (cj:∀ r∈t.rows,-1000000000≤(bB j.right t.cols r).num∧(bB j.right t.cols r).num≤1000000000) (hp:j.op=[45]) :
  Calls Tryz.prog 99 #[eM j Ao co Ai ni ci Ac cc,.agg #[FN A t.cols.length c,FN B t.rows.length d]] w fun e w'=>jC (aO j t t.rows []) e w'∧aa [] w w':=by
 obtain ⟨ir,f0,cx,c8,c6⟩:=info_parts jw;have fn:k<t.cols.length:=(List.findIdx?_eq_some_iff_getElem.1 hk).1;have hf:=fun W (q:aa [] w W)=>bU t.cols nm A c W (hT.cols.keep q) hT.ln
 rw[hk] at hf;have HF:Hid (∀ W,aa [] w W→Calls Tryz.prog 89 #[FN A t.cols.length c,FM (bs nm)] W fun e w'=>e=FP (FR FS (k:Int))∧aa [] W w'):=Fx hf;have d9:=Fx (fun m (h:m<t.rows.length) out=>jB j t t.rows m h out);have gi:=Fx (fun r=>iF (j:=j) (a:=t) (k:=k) (by rw[Z];exact hk) r);have e6:Hid (∀ out,aO j t [] out=some out):=Fx fun out=>rfl
 generalize aO j t=CG at *;generalize bu j t=CR at *;have HT:=Fx hT;have eY:=Fx ct;have eB:=Fx cg;have e2:=Fx dq;have e5:=Fx cj;have e7:=Fx cz;have gz:=hT.lm;have f3:=hT.ln;clear hT ct cg dq cj cz hf hk;obtain ⟨a6,code,outs,js,cols,op,⟨lc,lk,ln,lw⟩,⟨rc,rk,rn,M⟩,D⟩:=j;obtain ⟨no,c9⟩:∃ n,outs.length=n:=⟨_,rfl⟩
 simp only at Z;show Calls _ _ #[.agg #[FR FS a6,FR FS code,FN Ao outs.length co,FN Ai ni ci,FN Ac cols.length cc,FM (bs op),FM (bs lc),FR FS lk,FR FS ln,FM (bs lw),FM (bs rc),FR FS rk,FR FS rn,FM (bs M),FR FS D],.agg #[FN A t.cols.length c,FN B t.rows.length d]] w _;rw[c9,show cols.length=1 by rw[Z];rfl];have e4:op=[45]∨True:= .inr trivial;subst hp;have f6:Hid (∀ x y,jR [45] x y=x-y):=Fx (fun x y=>by unfold jR;rfl);skip
 obtain ⟨b4,o4,ff,_,gl,bZ⟩:=d0.open' (by omega) (by decide);have d4:w.cell? ⟨b4,o4,none⟩=some (FM (bs nm)):=bZ 0 _ rfl;subst ff;have bq:Hid (aa [] w ((w.alloc (FQ #[FR FS a6,FR FS code,FN Ao no co,FN Ai ni ci,FN (some ⟨b4,o4,none⟩) 1 cc,FM (bs [45]),FM (bs lc),FR FS lk,FR FS ln,FM (bs lw),FM (bs rc),FR FS rk,FR FS rn,FM (bs M),FR FS D] 50)).alloc (FQ #[FN A t.cols.length c,FN B t.rows.length d] 54))):=Fx (((FK _ _).alloc _).alloc _);have a3:=Fx (ao.alloc (FL w 50 #[FR FS a6,FR FS code,FN Ao no co,FN Ai ni ci,FN (some ⟨b4,o4,none⟩) 1 cc,FM (bs [45]),FM (bs lc),FR FS lk,FR FS ln,FM (bs lw),FM (bs rc),FR FS rk,FR FS rn,FM (bs M),FR FS D]) (FQ #[FN A t.cols.length c,FN B t.rows.length d] 54));have a1:=Fx (FL (w.alloc (FQ #[FR FS a6,FR FS code,FN Ao no co,FN Ai ni ci,FN (some ⟨b4,o4,none⟩) 1 cc,FM (bs [45]),FM (bs lc),FR FS lk,FR FS ln,FM (bs lw),FM (bs rc),FR FS rk,FR FS rn,FM (bs M),FR FS D] 50)) 54 #[FN A t.cols.length c,FN B t.rows.length d]);rw[ap] at a1;have b8:=Fx (bq.out.cell_of d4 (by simp));clear d0 bZ d4 Z c9 e4;go_enter Tryz.func99,Tryz.ntmps99
 go_wp2;obtain ⟨w2,d2⟩:∃ w2,((w.alloc (FQ #[FR FS a6,FR FS code,FN Ao no co,FN Ai ni ci,FN (some ⟨b4,o4,none⟩) 1 cc,FM (bs [45]),FM (bs lc),FR FS lk,FR FS ln,FM (bs lw),FM (bs rc),FR FS rk,FR FS rn,FM (bs M),FR FS D] 50)).alloc (FQ #[FN A t.cols.length c,FN B t.rows.length d] 54))=w2:=⟨_,rfl⟩
 rw[d2] at bq a3 a1 b8 ⊢;obtain ⟨bx,c3⟩:∃ bx,w.heap.size=bx:=⟨_,rfl⟩
 rw[c3] at a3 a1 ⊢;clear d2 c3;have d1:Hid (∀ W,aa [] w2 W→Calls Tryz.prog 89 #[FN A t.cols.length c,FM (bs nm)] W fun e w'=>e=FP (FR FS (k:Int))∧aa [] W w'):=Fx (fun W q=>HF.out W (bq.out.trans q));have y4:w2.cell? ⟨bx,4,none⟩=some (FN (some ⟨b4,o4,none⟩) 1 cc):=a3.out.cell 4;have y0:w2.cell? ⟨bx+1,0,none⟩=some (FN A t.cols.length c):=a1.out.cell 0;have y8:=b8.out;have l1:bx<w2.heap.size:=a3.out.lt;have l2:bx+1<w2.heap.size:=a1.out.lt;have l3:b4<w2.heap.size:=FC _ _ y8;refine ah (by kernel_rfl) (by kernel_rfl) ?_;repeat (go_big_quiet_step (first|with_reducible exact KW.of d1.out _))
 refine wpQuiet_nil ?_;intro w3 a4;have gm:=Fx a4;have en:=Fx (bq.out.trans a4);have a9:=Fx (a3.out.keep a4 (by simp));have bc:=Fx (a1.out.keep a4 (by simp));clear a4 y4 y0 y8 l1 l2 l3 d1 HF a3 a1 b8;have y1:w3.cell? ⟨bx+1,1,none⟩=some (FN B t.rows.length d):=bc.out.cell 1;go_wp2;clear y1;go_loopw [7,23] (fun u i wx=>∃ (m:Nat) (v:Value) (out:List (List Vl)),v=u∧m≤t.rows.length∧i=FR FS m∧out.length=m∧Hid (iK wx w3.heap.size v out)∧Hid (CG (t.rows.drop m) out=CG t.rows [])∧aa [] w3 wx) (fun _ i _=>t.rows.length-(intOf i).toNat)
 case atStart=>exact ⟨0,_,[],rfl,FF _,rfl,rfl,iK.nil _ _,Fx rfl,FK _ _⟩
 obtain ⟨m,v,out,rfl,hm,rfl,ds,HG,cy,hk⟩:=hrel;have bk:=Fx ds;have HK:=Fx hk;have U:=Fx (en.out.trans hk);clear hk ds;by_cases b5:m<t.rows.length
 ·obtain ⟨us,fs,dt,dz⟩:=HT.out.rows
  have dB:m<us.length:=by omega
  have cv:=dz m dB b5;obtain ⟨b7,o7,er,_,hc,ch⟩:=dt.open' (by omega) (by omega);have d7:=ch (m*1) us[m] (by rw[Nat.mul_one];exact FA dB);rw[Nat.mul_one] at d7;have J:t.rows[m]∈t.rows:=FE b5;have av:=d9.out m b5 out;rw[cy.out,gi.out] at av;have be:=e7.out _ J;obtain ⟨r,hr⟩:∃ r,t.rows[m]=r:=⟨_,rfl⟩
  rw[hr] at cv J be av;obtain ⟨Ar,cr,hu,fz,a0⟩:=cv;rw[hu] at d7;have d8:=U.out.cell_of d7 (by simp);subst er;have eX:=Fx a0;have bb:Hid (∀ W,aa [] wr W→Calls Tryz.prog 98 #[.agg #[FM (bs lc),FR FS lk,FR FS ln,FM (bs lw)],FN A t.cols.length c,FN Ar r.length cr] W fun e w'=>e=FP (fV (bB ⟨lc,⟨lk,ln,lw⟩⟩ t.cols r))∧aa [] W w'):=Fx fun W q=>eR ⟨lc,⟨lk,ln,lw⟩⟩ t.cols r A Ar c cr W (HT.out.cols.keep (U.out.trans q)) HT.out.ln (a0.keep (U.out.trans q)) (eY.out r J)
  have ba:Hid (∀ W,aa [] wr W→Calls Tryz.prog 98 #[.agg #[FM (bs rc),FR FS rk,FR FS rn,FM (bs M)],FN A t.cols.length c,FN Ar r.length cr] W fun e w'=>e=FP (fV (bB ⟨rc,⟨rk,rn,M⟩⟩ t.cols r))∧aa [] W w'):=Fx fun W q=>eR ⟨rc,⟨rk,rn,M⟩⟩ t.cols r A Ar c cr W (HT.out.cols.keep (U.out.trans q)) HT.out.ln (a0.keep (U.out.trans q)) (eB.out r J)
  have ca:=e2.out r J;have b1:=e5.out r J;try simp only at ca
  try simp only at b1
  try simp only at av
  obtain ⟨X,hX⟩:∃ X,bB ⟨lc,⟨lk,ln,lw⟩⟩ t.cols r=X:=⟨_,rfl⟩
  obtain ⟨Y,hY⟩:∃ Y,bB ⟨rc,⟨rk,rn,M⟩⟩ t.cols r=Y:=⟨_,rfl⟩
  rw[hX] at bb ca av;rw[hY] at ba b1 av;obtain ⟨xk,xn,xw⟩:=X;obtain ⟨yk,yn,yw⟩:=Y;have fb:Hid (∀ W,aa [] wr W→Calls Tryz.prog 98 #[.agg #[FM (bs lc),FR FS lk,FR FS ln,FM (bs lw)],FN A t.cols.length c,FN Ar r.length cr] W fun e w'=>e=FP (.agg #[FR FS xk,FR FS xn,FM (bs xw)])∧aa [] W w'):=bb;have el:Hid (∀ W,aa [] wr W→Calls Tryz.prog 98 #[.agg #[FM (bs rc),FR FS rk,FR FS rn,FM (bs M)],FN A t.cols.length c,FN Ar r.length cr] W fun e w'=>e=FP (.agg #[FR FS yk,FR FS yn,FM (bs yw)])∧aa [] W w'):=ba;obtain ⟨bX,br⟩:=ca;obtain ⟨bz,bv⟩:=b1;try simp only at bX br bz bv
  try simp only at av
  have bo:=Fx av;have ce:k<r.length:=by rw[be];exact fn
  have c0:1≤r.length:=by omega
  have e0:r.length≤4294967296:=by rw[be];exact f3
  have cd : -1000000000000000000≤xn*yn∧xn*yn≤1000000000000000000:=vH bX br bz bv;have g2:=cd.1;have g0:=cd.2;have z3:=(a9.out.keep HK.out (by simp)).cell 6;obtain ⟨y0,y1,y2,y3,y4,y5,y6,y7,y8,y9,f2,e8,eA,f5,ey⟩:=oN (a9.out.keep HK.out (by simp));have x0:wr.cell? ⟨bx+1,0,none⟩=some (FN A t.cols.length c):=(bc.out.keep HK.out (by simp)).cell 0;have l1:bx<wr.heap.size:=(a9.out.keep HK.out (by simp)).lt;have l2:bx+1<wr.heap.size:=(bc.out.keep HK.out (by simp)).lt;clear av hX hY hu fs dt dz ch d7 a0 cd J bb ba z3 be hr fz;have g5:∀ W,(Instr.field 46 (.agg #[FR FS xk,FR FS xn,FM (bs xw)]) 1).run Tryz.prog W= .ok (FR FS xn) W:=fun W=>by rfl
  have ha:∀ W,(Instr.field 46 (.agg #[FR FS yk,FR FS yn,FM (bs yw)]) 1).run Tryz.prog W= .ok (FR FS yn) W:=fun W=>by rfl
  go_wp2;refine ah (by kernel_rfl) (by kernel_rfl) ?_;repeat (go_big_quiet_step (first|with_reducible exact KW.of fb.out _|with_reducible exact KW.of el.out _))
  refine wpQuiet_nil ?_;intro w5 b9;have aA:=Fx b9;clear y0 y1 y2 y3 y4 y6 y7 y8 y9 f2 e8 eA f5 ey x0 l1 l2 d8;replace y5:=b9.cell_of y5 (by simp);clear b9;obtain ⟨N,hN⟩:∃ N,xn-yn=N:=⟨_,rfl⟩
  have HN:=Fx hN;have f8:Hid (jR [45] xn yn=N):=Fx ((f6.out xn yn).trans hN);rw[f8.out] at bo;by_cases ad:1000000000<N
  ·have a7:Hid (CG t.rows []=none):=Fx (by rw[bo.out,if_pos (.inl ad)])
   rw[hN.symm] at ad;clear hN;go_wp2;go_ret2;exact ⟨by rw[a7.out];rfl,U.out.trans aA.out⟩
  by_cases bj:N < -1000000000
  ·have a7:Hid (CG t.rows []=none):=Fx (by rw[bo.out,if_pos (.inr bj)])
   rw[hN.symm] at ad bj;clear hN;go_wp2;go_ret2;exact ⟨by rw[a7.out];rfl,U.out.trans aA.out⟩
  have d3:r.getD k zV=r[k]:=by rw[FJ,FA ce];rfl
  have a7:Hid (CG t.rows []=CG (t.rows.drop (m+1)) (out++[r.set k ⟨r[k].kind,N,r[k].word⟩])):=Fx (by
   rw[bo.out,if_neg (by rintro (h|h);exact ad h;exact bj h),d3])
  have HCL:=Fx (l9 r c0 e0 Ar cr w5 (eX.out.keep (U.out.trans aA.out)));have e1:=Fx (vG r k ce N);obtain ⟨f7,cn,f4⟩:=ay r k ce;have f9:=Fx cn;rw[hN.symm] at ad bj;clear hN d3 f7 cn f4;go_wp2_with fail
  refine HCL.out.mono ?_;rintro e w6 ⟨⟨v6,rfl,I⟩,bl⟩;obtain ⟨g,a5,rfl,c7,b6,g8,a2⟩:=fP I c0;have hb:=Fx I;have g3:=Fx bl;have c1:=a2 _ _ f9.out;have f1:=me I (k*3+1);have g1:=Fx b6;have g6:(0:Int)≤(k:Int):=by omega
  have g4:(k:Int)<(r.length:Int):=by omega
  have c4:=Fx (((aA.out.trans bl)).setCell (p:=⟨g,k*3+1,none⟩) (.inr (FD aA.out.size b6)) (FR FS N));have dr:=Fx (md (j:=k*3+1) (u:=FR FS N) I);rw[←e1.out] at dr;have e9:=Fx (HG.out.keep c4.out);obtain ⟨hs,c5,bm,d5⟩:=e9.out;have fr:=Fx bm;rw[bk.out] at bm;have HO:=Fx bm;have gk:=Fx d5;have fc:=Fx c5;have HQ:Hid ((w6.setCell ⟨g,k*3+1,none⟩ (FR FS N)).ownsRow w3.heap.size 46 3 (FN (some ⟨g,0,none⟩) r.length a5) (r.set k ⟨r[k].kind,N,r[k].word⟩).length (al (r.set k ⟨r[k].kind,N,r[k].word⟩))):=Fx (by
   rw[List.length_set];exact gY dr.out (FD HK.out.size aA.out.size))
  have g7:w3.heap.size≤w6.heap.size:=FD (FD HK.out.size aA.out.size) bl.size;have cq:=Fx (show m+1≤maxLen∧(m+1)*24≤140737488355328 by simp only[maxLen];omega);clear I bl b6 a2 bm d5 c5 c7;have et:=HN.out;clear HN;subst et;go_wp2_with (at_builtin;(refine wpList_append_lies _ rfl _ _ 52 rfl w3.heap.size 89 ir _ 1 24 Tryz.underlying52 f0 cx c8 c6 rfl (by decide) _ m hs rfl (HO.out.alloc _) ⟨w6.heap.size,0,none⟩ 1 1 [FN (some ⟨g,0,none⟩) r.length a5] rfl rfl (FI (iG _ _ _ _)) (by simp[Value.oneCell']) (by decide) cq.out.1 cq.out.2 (by rw[ap,jM];omega) _ rfl ?_);intro gw b0 w9 a8 O cm dv)
  have ev:=Fx (((HK.out.trans c4.out).alloc (FQ #[FN (some ⟨g,0,none⟩) r.length a5] 89)).grown O (fun g' hg=> .inr (HO.out.lt g' hg).1));have eb:Hid (iK w9 w3.heap.size (FN (some ⟨gw,0,none⟩) (m+1) b0) (out++[r.set k ⟨r[k].kind,xn-yn,r[k].word⟩])):=Fx (by
   have h:=gZ (W':=w9) (base:=w3.heap.size) (gw:=gw) (cap:=b0) fc.out gk.out fr.out HQ.out O (by rw[bk.out];exact a8);rw[bk.out] at h;exact h)
  have es:=Fx (a7.out.symm);clear a8 O cm dv;go_wp2;go_roundw
  case rel=>exact ⟨m+1,_,_,rfl,by omega,by go_num,by rw[Fz,bk.out];rfl,eb,es,ev.out⟩
  case measure=>simp[intOf];omega
 obtain rfl:m=t.rows.length:=by omega
 have b3:=cy.out;rw[List.drop_length] at b3;have fS:Hid (CG t.rows []=some out):=Fx (b3.symm.trans (e6.out out));obtain ⟨B6,d6,hv,cu,a0⟩:=HG.out.rd;subst hv;have ez:Hid (cF wr (FN B6 out.length d6) out):=Fx ⟨B6,d6,rfl,cu,a0⟩;clear b3 cu a0 HG;go_wp2;go_ret2;exact ⟨by rw[fS.out];exact ⟨_,rfl,eq ez.out _⟩,U.out.alloc _⟩
theorem tN (j:Jb) (t:Tb) (k:Nat) (nm:Bs) (A B:Option Addr) (c d:Nat) (Ao:Option Addr) (co:Nat) (Ai:Option Addr) (ni ci:Nat) (Ac:Option Addr) (cc:Nat) (w:World) (hT:aZ w t A B c d) (Z:j.cols=[nm]) (hk:an t.cols nm=some k) (d0:Rd w [] 1 Ac 1 (strs [nm]))
  (cz:∀ r∈t.rows,r.length=t.cols.length) (ct:∀ r∈t.rows,fQ j.left t.cols r) (cg:∀ r∈t.rows,fQ j.right t.cols r)
  (dq:∀ r∈t.rows,-1000000000≤(bB j.left t.cols r).num∧(bB j.left t.cols r).num≤1000000000) (cj:∀ r∈t.rows,-1000000000≤(bB j.right t.cols r).num∧(bB j.right t.cols r).num≤1000000000) (hp:j.op≠[43]) (hm:j.op≠[45]) :
  Calls Tryz.prog 99 #[eM j Ao co Ai ni ci Ac cc,.agg #[FN A t.cols.length c,FN B t.rows.length d]] w fun e w'=>jC (aO j t t.rows []) e w'∧aa [] w w':=by
 obtain ⟨ir,f0,cx,c8,c6⟩:=info_parts jw;have fn:k<t.cols.length:=(List.findIdx?_eq_some_iff_getElem.1 hk).1;have hf:=fun W (q:aa [] w W)=>bU t.cols nm A c W (hT.cols.keep q) hT.ln
 rw[hk] at hf;have HF:Hid (∀ W,aa [] w W→Calls Tryz.prog 89 #[FN A t.cols.length c,FM (bs nm)] W fun e w'=>e=FP (FR FS (k:Int))∧aa [] W w'):=Fx hf;have d9:=Fx (fun m (h:m<t.rows.length) out=>jB j t t.rows m h out);have gi:=Fx (fun r=>iF (j:=j) (a:=t) (k:=k) (by rw[Z];exact hk) r);have e6:Hid (∀ out,aO j t [] out=some out):=Fx fun out=>rfl
 generalize aO j t=CG at *;generalize bu j t=CR at *;have HT:=Fx hT;have eY:=Fx ct;have eB:=Fx cg;have e2:=Fx dq;have e5:=Fx cj;have e7:=Fx cz;have gz:=hT.lm;have f3:=hT.ln;clear hT ct cg dq cj cz hf hk;obtain ⟨a6,code,outs,js,cols,op,⟨lc,lk,ln,lw⟩,⟨rc,rk,rn,M⟩,D⟩:=j;obtain ⟨no,c9⟩:∃ n,outs.length=n:=⟨_,rfl⟩
 simp only at Z;show Calls _ _ #[.agg #[FR FS a6,FR FS code,FN Ao outs.length co,FN Ai ni ci,FN Ac cols.length cc,FM (bs op),FM (bs lc),FR FS lk,FR FS ln,FM (bs lw),FM (bs rc),FR FS rk,FR FS rn,FM (bs M),FR FS D],.agg #[FN A t.cols.length c,FN B t.rows.length d]] w _;rw[c9,show cols.length=1 by rw[Z];rfl];have e4:op=op∨True:= .inr trivial;have t1:(op==[43])=false:=by rw[beq_eq_false_iff_ne];exact hp
 have t2:(op==[45])=false:=by rw[beq_eq_false_iff_ne];exact hm
 have f6:Hid (∀ x y,jR op x y=x*y):=Fx (fun x y=>by unfold jR;rw[if_neg hp,if_neg hm]);clear hp hm;obtain ⟨b4,o4,ff,_,gl,bZ⟩:=d0.open' (by omega) (by decide);have d4:w.cell? ⟨b4,o4,none⟩=some (FM (bs nm)):=bZ 0 _ rfl;subst ff;have bq:Hid (aa [] w ((w.alloc (FQ #[FR FS a6,FR FS code,FN Ao no co,FN Ai ni ci,FN (some ⟨b4,o4,none⟩) 1 cc,FM (bs op),FM (bs lc),FR FS lk,FR FS ln,FM (bs lw),FM (bs rc),FR FS rk,FR FS rn,FM (bs M),FR FS D] 50)).alloc (FQ #[FN A t.cols.length c,FN B t.rows.length d] 54))):=Fx (((FK _ _).alloc _).alloc _);have a3:=Fx (ao.alloc (FL w 50 #[FR FS a6,FR FS code,FN Ao no co,FN Ai ni ci,FN (some ⟨b4,o4,none⟩) 1 cc,FM (bs op),FM (bs lc),FR FS lk,FR FS ln,FM (bs lw),FM (bs rc),FR FS rk,FR FS rn,FM (bs M),FR FS D]) (FQ #[FN A t.cols.length c,FN B t.rows.length d] 54));have a1:=Fx (FL (w.alloc (FQ #[FR FS a6,FR FS code,FN Ao no co,FN Ai ni ci,FN (some ⟨b4,o4,none⟩) 1 cc,FM (bs op),FM (bs lc),FR FS lk,FR FS ln,FM (bs lw),FM (bs rc),FR FS rk,FR FS rn,FM (bs M),FR FS D] 50)) 54 #[FN A t.cols.length c,FN B t.rows.length d]);rw[ap] at a1;have b8:=Fx (bq.out.cell_of d4 (by simp));clear d0 bZ d4 Z c9 e4;go_enter Tryz.func99,Tryz.ntmps99
 go_wp2;obtain ⟨w2,d2⟩:∃ w2,((w.alloc (FQ #[FR FS a6,FR FS code,FN Ao no co,FN Ai ni ci,FN (some ⟨b4,o4,none⟩) 1 cc,FM (bs op),FM (bs lc),FR FS lk,FR FS ln,FM (bs lw),FM (bs rc),FR FS rk,FR FS rn,FM (bs M),FR FS D] 50)).alloc (FQ #[FN A t.cols.length c,FN B t.rows.length d] 54))=w2:=⟨_,rfl⟩
 rw[d2] at bq a3 a1 b8 ⊢;obtain ⟨bx,c3⟩:∃ bx,w.heap.size=bx:=⟨_,rfl⟩
 rw[c3] at a3 a1 ⊢;clear d2 c3;have d1:Hid (∀ W,aa [] w2 W→Calls Tryz.prog 89 #[FN A t.cols.length c,FM (bs nm)] W fun e w'=>e=FP (FR FS (k:Int))∧aa [] W w'):=Fx (fun W q=>HF.out W (bq.out.trans q));have y4:w2.cell? ⟨bx,4,none⟩=some (FN (some ⟨b4,o4,none⟩) 1 cc):=a3.out.cell 4;have y0:w2.cell? ⟨bx+1,0,none⟩=some (FN A t.cols.length c):=a1.out.cell 0;have y8:=b8.out;have l1:bx<w2.heap.size:=a3.out.lt;have l2:bx+1<w2.heap.size:=a1.out.lt;have l3:b4<w2.heap.size:=FC _ _ y8;refine ah (by kernel_rfl) (by kernel_rfl) ?_;repeat (go_big_quiet_step (first|with_reducible exact KW.of d1.out _))
 refine wpQuiet_nil ?_;intro w3 a4;have gm:=Fx a4;have en:=Fx (bq.out.trans a4);have a9:=Fx (a3.out.keep a4 (by simp));have bc:=Fx (a1.out.keep a4 (by simp));clear a4 y4 y0 y8 l1 l2 l3 d1 HF a3 a1 b8;have y1:w3.cell? ⟨bx+1,1,none⟩=some (FN B t.rows.length d):=bc.out.cell 1;go_wp2;clear y1;go_loopw [7,23] (fun u i wx=>∃ (m:Nat) (v:Value) (out:List (List Vl)),v=u∧m≤t.rows.length∧i=FR FS m∧out.length=m∧Hid (iK wx w3.heap.size v out)∧Hid (CG (t.rows.drop m) out=CG t.rows [])∧aa [] w3 wx) (fun _ i _=>t.rows.length-(intOf i).toNat)
 case atStart=>exact ⟨0,_,[],rfl,FF _,rfl,rfl,iK.nil _ _,Fx rfl,FK _ _⟩
 obtain ⟨m,v,out,rfl,hm,rfl,ds,HG,cy,hk⟩:=hrel;have bk:=Fx ds;have HK:=Fx hk;have U:=Fx (en.out.trans hk);clear hk ds;by_cases b5:m<t.rows.length
 ·obtain ⟨us,fs,dt,dz⟩:=HT.out.rows
  have dB:m<us.length:=by omega
  have cv:=dz m dB b5;obtain ⟨b7,o7,er,_,hc,ch⟩:=dt.open' (by omega) (by omega);have d7:=ch (m*1) us[m] (by rw[Nat.mul_one];exact FA dB);rw[Nat.mul_one] at d7;have J:t.rows[m]∈t.rows:=FE b5;have av:=d9.out m b5 out;rw[cy.out,gi.out] at av;have be:=e7.out _ J;obtain ⟨r,hr⟩:∃ r,t.rows[m]=r:=⟨_,rfl⟩
  rw[hr] at cv J be av;obtain ⟨Ar,cr,hu,fz,a0⟩:=cv;rw[hu] at d7;have d8:=U.out.cell_of d7 (by simp);subst er;have eX:=Fx a0;have bb:Hid (∀ W,aa [] wr W→Calls Tryz.prog 98 #[.agg #[FM (bs lc),FR FS lk,FR FS ln,FM (bs lw)],FN A t.cols.length c,FN Ar r.length cr] W fun e w'=>e=FP (fV (bB ⟨lc,⟨lk,ln,lw⟩⟩ t.cols r))∧aa [] W w'):=Fx fun W q=>eR ⟨lc,⟨lk,ln,lw⟩⟩ t.cols r A Ar c cr W (HT.out.cols.keep (U.out.trans q)) HT.out.ln (a0.keep (U.out.trans q)) (eY.out r J)
  have ba:Hid (∀ W,aa [] wr W→Calls Tryz.prog 98 #[.agg #[FM (bs rc),FR FS rk,FR FS rn,FM (bs M)],FN A t.cols.length c,FN Ar r.length cr] W fun e w'=>e=FP (fV (bB ⟨rc,⟨rk,rn,M⟩⟩ t.cols r))∧aa [] W w'):=Fx fun W q=>eR ⟨rc,⟨rk,rn,M⟩⟩ t.cols r A Ar c cr W (HT.out.cols.keep (U.out.trans q)) HT.out.ln (a0.keep (U.out.trans q)) (eB.out r J)
  have ca:=e2.out r J;have b1:=e5.out r J;try simp only at ca
  try simp only at b1
  try simp only at av
  obtain ⟨X,hX⟩:∃ X,bB ⟨lc,⟨lk,ln,lw⟩⟩ t.cols r=X:=⟨_,rfl⟩
  obtain ⟨Y,hY⟩:∃ Y,bB ⟨rc,⟨rk,rn,M⟩⟩ t.cols r=Y:=⟨_,rfl⟩
  rw[hX] at bb ca av;rw[hY] at ba b1 av;obtain ⟨xk,xn,xw⟩:=X;obtain ⟨yk,yn,yw⟩:=Y;have fb:Hid (∀ W,aa [] wr W→Calls Tryz.prog 98 #[.agg #[FM (bs lc),FR FS lk,FR FS ln,FM (bs lw)],FN A t.cols.length c,FN Ar r.length cr] W fun e w'=>e=FP (.agg #[FR FS xk,FR FS xn,FM (bs xw)])∧aa [] W w'):=bb;have el:Hid (∀ W,aa [] wr W→Calls Tryz.prog 98 #[.agg #[FM (bs rc),FR FS rk,FR FS rn,FM (bs M)],FN A t.cols.length c,FN Ar r.length cr] W fun e w'=>e=FP (.agg #[FR FS yk,FR FS yn,FM (bs yw)])∧aa [] W w'):=ba;obtain ⟨bX,br⟩:=ca;obtain ⟨bz,bv⟩:=b1;try simp only at bX br bz bv
  try simp only at av
  have bo:=Fx av;have ce:k<r.length:=by rw[be];exact fn
  have c0:1≤r.length:=by omega
  have e0:r.length≤4294967296:=by rw[be];exact f3
  have cd : -1000000000000000000≤xn*yn∧xn*yn≤1000000000000000000:=vH bX br bz bv;have g2:=cd.1;have g0:=cd.2;have z3:=(a9.out.keep HK.out (by simp)).cell 6;obtain ⟨y0,y1,y2,y3,y4,y5,y6,y7,y8,y9,f2,e8,eA,f5,ey⟩:=oN (a9.out.keep HK.out (by simp));have x0:wr.cell? ⟨bx+1,0,none⟩=some (FN A t.cols.length c):=(bc.out.keep HK.out (by simp)).cell 0;have l1:bx<wr.heap.size:=(a9.out.keep HK.out (by simp)).lt;have l2:bx+1<wr.heap.size:=(bc.out.keep HK.out (by simp)).lt;clear av hX hY hu fs dt dz ch d7 a0 cd J bb ba z3 be hr fz;have g5:∀ W,(Instr.field 46 (.agg #[FR FS xk,FR FS xn,FM (bs xw)]) 1).run Tryz.prog W= .ok (FR FS xn) W:=fun W=>by rfl
  have ha:∀ W,(Instr.field 46 (.agg #[FR FS yk,FR FS yn,FM (bs yw)]) 1).run Tryz.prog W= .ok (FR FS yn) W:=fun W=>by rfl
  go_wp2;refine ah (by kernel_rfl) (by kernel_rfl) ?_;repeat (go_big_quiet_step (first|with_reducible exact KW.of fb.out _|with_reducible exact KW.of el.out _))
  refine wpQuiet_nil ?_;intro w5 b9;have aA:=Fx b9;clear y0 y1 y2 y3 y4 y6 y7 y8 y9 f2 e8 eA f5 ey x0 l1 l2 d8;replace y5:=b9.cell_of y5 (by simp);clear b9;obtain ⟨N,hN⟩:∃ N,xn*yn=N:=⟨_,rfl⟩
  have HN:=Fx hN;have f8:Hid (jR op xn yn=N):=Fx ((f6.out xn yn).trans hN);rw[f8.out] at bo;by_cases ad:1000000000<N
  ·have a7:Hid (CG t.rows []=none):=Fx (by rw[bo.out,if_pos (.inl ad)])
   rw[hN.symm] at ad;clear hN;go_wp2;go_ret2;exact ⟨by rw[a7.out];rfl,U.out.trans aA.out⟩
  by_cases bj:N < -1000000000
  ·have a7:Hid (CG t.rows []=none):=Fx (by rw[bo.out,if_pos (.inr bj)])
   rw[hN.symm] at ad bj;clear hN;go_wp2;go_ret2;exact ⟨by rw[a7.out];rfl,U.out.trans aA.out⟩
  have d3:r.getD k zV=r[k]:=by rw[FJ,FA ce];rfl
  have a7:Hid (CG t.rows []=CG (t.rows.drop (m+1)) (out++[r.set k ⟨r[k].kind,N,r[k].word⟩])):=Fx (by
   rw[bo.out,if_neg (by rintro (h|h);exact ad h;exact bj h),d3])
  have HCL:=Fx (l9 r c0 e0 Ar cr w5 (eX.out.keep (U.out.trans aA.out)));have e1:=Fx (vG r k ce N);obtain ⟨f7,cn,f4⟩:=ay r k ce;have f9:=Fx cn;rw[hN.symm] at ad bj;clear hN d3 f7 cn f4;go_wp2_with fail
  refine HCL.out.mono ?_;rintro e w6 ⟨⟨v6,rfl,I⟩,bl⟩;obtain ⟨g,a5,rfl,c7,b6,g8,a2⟩:=fP I c0;have hb:=Fx I;have g3:=Fx bl;have c1:=a2 _ _ f9.out;have f1:=me I (k*3+1);have g1:=Fx b6;have g6:(0:Int)≤(k:Int):=by omega
  have g4:(k:Int)<(r.length:Int):=by omega
  have c4:=Fx (((aA.out.trans bl)).setCell (p:=⟨g,k*3+1,none⟩) (.inr (FD aA.out.size b6)) (FR FS N));have dr:=Fx (md (j:=k*3+1) (u:=FR FS N) I);rw[←e1.out] at dr;have e9:=Fx (HG.out.keep c4.out);obtain ⟨hs,c5,bm,d5⟩:=e9.out;have fr:=Fx bm;rw[bk.out] at bm;have HO:=Fx bm;have gk:=Fx d5;have fc:=Fx c5;have HQ:Hid ((w6.setCell ⟨g,k*3+1,none⟩ (FR FS N)).ownsRow w3.heap.size 46 3 (FN (some ⟨g,0,none⟩) r.length a5) (r.set k ⟨r[k].kind,N,r[k].word⟩).length (al (r.set k ⟨r[k].kind,N,r[k].word⟩))):=Fx (by
   rw[List.length_set];exact gY dr.out (FD HK.out.size aA.out.size))
  have g7:w3.heap.size≤w6.heap.size:=FD (FD HK.out.size aA.out.size) bl.size;have cq:=Fx (show m+1≤maxLen∧(m+1)*24≤140737488355328 by simp only[maxLen];omega);clear I bl b6 a2 bm d5 c5 c7;have et:=HN.out;clear HN;subst et;go_wp2_with (at_builtin;(refine wpList_append_lies _ rfl _ _ 52 rfl w3.heap.size 89 ir _ 1 24 Tryz.underlying52 f0 cx c8 c6 rfl (by decide) _ m hs rfl (HO.out.alloc _) ⟨w6.heap.size,0,none⟩ 1 1 [FN (some ⟨g,0,none⟩) r.length a5] rfl rfl (FI (iG _ _ _ _)) (by simp[Value.oneCell']) (by decide) cq.out.1 cq.out.2 (by rw[ap,jM];omega) _ rfl ?_);intro gw b0 w9 a8 O cm dv)
  have ev:=Fx (((HK.out.trans c4.out).alloc (FQ #[FN (some ⟨g,0,none⟩) r.length a5] 89)).grown O (fun g' hg=> .inr (HO.out.lt g' hg).1));have eb:Hid (iK w9 w3.heap.size (FN (some ⟨gw,0,none⟩) (m+1) b0) (out++[r.set k ⟨r[k].kind,xn*yn,r[k].word⟩])):=Fx (by
   have h:=gZ (W':=w9) (base:=w3.heap.size) (gw:=gw) (cap:=b0) fc.out gk.out fr.out HQ.out O (by rw[bk.out];exact a8);rw[bk.out] at h;exact h)
  have es:=Fx (a7.out.symm);clear a8 O cm dv;go_wp2;go_roundw
  case rel=>exact ⟨m+1,_,_,rfl,by omega,by go_num,by rw[Fz,bk.out];rfl,eb,es,ev.out⟩
  case measure=>simp[intOf];omega
 obtain rfl:m=t.rows.length:=by omega
 have b3:=cy.out;rw[List.drop_length] at b3;have fS:Hid (CG t.rows []=some out):=Fx (b3.symm.trans (e6.out out));obtain ⟨B6,d6,hv,cu,a0⟩:=HG.out.rd;subst hv;have ez:Hid (cF wr (FN B6 out.length d6) out):=Fx ⟨B6,d6,rfl,cu,a0⟩;clear b3 cu a0 HG;go_wp2;go_ret2;exact ⟨by rw[fS.out];exact ⟨_,rfl,eq ez.out _⟩,U.out.alloc _⟩
end
section
open Go.RowKit Go.BigFrame
attribute [local go_sem] ag ab ae af
def AR (R:Option (List (List Vl))):Except Int (List (List (List Vl))):=match R with
 | none=> .error 2
 | some l=> .ok [l]
theorem tS (j:Jb) (t:Tb) (k:Nat) (nm:Bs) (A B:Option Addr) (c d:Nat) (Z:Option Addr) (co:Nat) (Ai:Option Addr) (ni ci:Nat) (U:Option Addr) (cc:Nat) (w:World) (hT:aZ w t A B c d) (h:j.cols=[nm]) (hk:an t.cols nm=some k) (J:Rd w [] 1 U 1 (strs [nm]))
  (M:∀ r∈t.rows,r.length=t.cols.length) (O:∀ r∈t.rows,fQ j.left t.cols r) (D:∀ r∈t.rows,fQ j.right t.cols r)
  (N:∀ r∈t.rows,-1000000000≤(bB j.left t.cols r).num∧(bB j.left t.cols r).num≤1000000000) (I:∀ r∈t.rows,-1000000000≤(bB j.right t.cols r).num∧(bB j.right t.cols r).num≤1000000000) :
  Calls Tryz.prog 99 #[eM j Z co Ai ni ci U cc,.agg #[FN A t.cols.length c,FN B t.rows.length d]] w fun e w'=>jC (aO j t t.rows []) e w'∧aa [] w w':=by
 by_cases h1:j.op=[43]
 ·exact tL j t k nm A B c d Z co Ai ni ci U cc w hT h hk J M O D N I h1
 by_cases h2:j.op=[45]
 ·exact tM j t k nm A B c d Z co Ai ni ci U cc w hT h hk J M O D N I h2
 exact tN j t k nm A B c d Z co Ai ni ci U cc w hT h hk J M O D N I h1 h2
theorem Ed (t:Tb) (OA:Option Addr) (no od:Nat) (b o:Nat) (nt ct:Nat) (A B:Option Addr) (c d:Nat) (a1:1≤nt) (D h Z ln rk rn:Int) (outs cols:List Bs) (op lc lw rc I:Bs) (N:Option Addr) (co:Nat) (O:Option Addr) (ni U:Nat) (Ac:Option Addr) (cc:Nat) (w:World)
  (a0:w.cell? ⟨b,o,none⟩=some (FN A t.cols.length c)) (a5:w.cell? ⟨b,o+1,none⟩=some (FN B t.rows.length d)) (hT:aZ w t A B c d) (R:Option (List (List Vl)))
  (av:∀ W,aa [] w W→Calls Tryz.prog 99 #[.agg #[FR FS D,FR FS 2,FN N outs.length co,FN O ni U,FN Ac cols.length cc,FM (bs op),FM (bs lc),FR FS Z,FR FS ln,FM (bs lw),FM (bs rc),FR FS rk,FR FS rn,FM (bs I),FR FS h],.agg #[FN A t.cols.length c,FN B t.rows.length d]] W fun e w'=>jC R e w'∧aa [] W w') :
  Calls Tryz.prog 64 #[.agg #[FR FS D,FR FS 2,FN N outs.length co,FN O ni U,FN Ac cols.length cc,FM (bs op),FM (bs lc),FR FS Z,FR FS ln,FM (bs lw),FM (bs rc),FR FS rk,FR FS rn,FM (bs I),FR FS h],FN (some ⟨b,o,none⟩) nt ct,FN OA no od] w fun e w'=>dC (AR R) e w'∧aa [] w w':=by
 have a4:(0:Int)<(nt:Int):=by omega
 have HT:=Fx hT;have a3:b<w.heap.size:=FC _ _ a0;have J:Hid (aa [] w ((w.alloc (FQ #[FR FS D,FR FS 2,FN N outs.length co,FN O ni U,FN Ac cols.length cc,FM (bs op),FM (bs lc),FR FS Z,FR FS ln,FM (bs lw),FM (bs rc),FR FS rk,FR FS rn,FM (bs I),FR FS h] 50)).alloc (FQ #[FN A t.cols.length c,FN B t.rows.length d] 54))):=Fx (((FK _ _).alloc _).alloc _);have a2:=Fx (ao.alloc (FL w 50 #[FR FS D,FR FS 2,FN N outs.length co,FN O ni U,FN Ac cols.length cc,FM (bs op),FM (bs lc),FR FS Z,FR FS ln,FM (bs lw),FM (bs rc),FR FS rk,FR FS rn,FM (bs I),FR FS h]) (FQ #[FN A t.cols.length c,FN B t.rows.length d] 54));have aA:=Fx (FL (w.alloc (FQ #[FR FS D,FR FS 2,FN N outs.length co,FN O ni U,FN Ac cols.length cc,FM (bs op),FM (bs lc),FR FS Z,FR FS ln,FM (bs lw),FM (bs rc),FR FS rk,FR FS rn,FM (bs I),FR FS h] 50)) 54 #[FN A t.cols.length c,FN B t.rows.length d]);rw[ap] at aA;have M:=Fx av;clear av hT
 cases R with
 | none =>
  have HC:Hid (∀ W,aa [] w W→Calls Tryz.prog 99 #[.agg #[FR FS D,FR FS 2,FN N outs.length co,FN O ni U,FN Ac cols.length cc,FM (bs op),FM (bs lc),FR FS Z,FR FS ln,FM (bs lw),FM (bs rc),FR FS rk,FR FS rn,FM (bs I),FR FS h],.agg #[FN A t.cols.length c,FN B t.rows.length d]] W fun e w'=>e=FP (.tuple #[FN none 0 0,.iface 37 (FR FS 2)])∧aa [] W w'):=M;clear M;go_enter Tryz.func64,Tryz.ntmps64
  go_wp2_with fail
  refine (HC.out _ J.out).mono ?_;rintro e w5 ⟨rfl,ad⟩;go_wp2;go_ret2;exact ⟨rfl,J.out.trans ad⟩
 | some l =>
  have HC:Hid (∀ W,aa [] w W→Calls Tryz.prog 99 #[.agg #[FR FS D,FR FS 2,FN N outs.length co,FN O ni U,FN Ac cols.length cc,FM (bs op),FM (bs lc),FR FS Z,FR FS ln,FM (bs lw),FM (bs rc),FR FS rk,FR FS rn,FM (bs I),FR FS h],.agg #[FN A t.cols.length c,FN B t.rows.length d]] W fun e w'=>(∃ g,e=FP (.tuple #[FN (some ⟨g,0,none⟩) 1 1,.nilIface])∧fp w' (some ⟨g,0,none⟩) [l])∧aa [] W w'):=M;clear M;go_enter Tryz.func64,Tryz.ntmps64
  go_wp2_with fail
  refine (HC.out _ J.out).mono ?_;rintro e w5 ⟨⟨g,rfl,hr⟩,ad⟩;go_wp2;go_ret2;exact ⟨⟨_,1,rfl,Fy _,hr⟩,J.out.trans ad⟩
theorem CS {P:Program} {c:Code} {Q:Exit→Act→World→Prop} {t t':Array Value} {d:List Deferred} {w:World} (h:t=t') (k:c.wp P Q ⟨t',d⟩ w):c.wp P Q ⟨t,d⟩ w:=h ▸ k
theorem Bu {P:Program} {c:Code} {Q:Exit→Act→World→Prop} {a:Act} {w:World} (h:∀ D:Exit→Act→World→Prop,(∀ e a w,Q e a w→D e a w)→c.wp P D a w):c.wp P Q a w:=h Q (fun _ _ _ h=>h)
theorem py (p q:Addr) (w:World) :
  CallsD Tryz.prog 41 #[FO (some p),FO (some q)] .returning w fun e I w'=>e=FP (.tuple #[])∧I= .returning∧w'=w:=by
 refine callsD_of_wpS Tryz.func41 rfl fun D cs h=>?_
 apply wpS_seq;apply wpS_region;simp[wpOpsS,go_sem,recoverD,h,Tryz.ntmps41,Exit.thenS];refine wpS_of_wp ?_;go_wp2;cases D
 simp_all [bodyPostS,results,Tryz.results41]
theorem iM (h J O:Nat) (v0 v1 U:Value) (D:List PanicEntry) (w:World) (I:ao w h 29 #[v0,v1,U]) (N:ao w J 34 #[.nilIface]) (M:h≠J) :
  CallsD Tryz.prog 41 #[FO (some ⟨h,0,none⟩),FO (some ⟨J,0,none⟩)] (.panicking ({ v:= .iface 104 (.agg #[.iface 73 (FO (some ⟨O,0,none⟩))]),recovered:=false }::D)) w fun e u' w' =>
   e=FP (.tuple #[])∧u'= .panicking ({ v:= .iface 104 (.agg #[.iface 73 (FO (some ⟨O,0,none⟩))]),recovered:=true }::D)∧ao w' h 29 #[FN none 0 0,FN none 0 0,FN none 0 0]∧ao w' J 34 #[.iface 73 (FO (some ⟨O,0,none⟩))]∧aa [h,J] w w':=by
 refine callsD_of_wpS Tryz.func41 rfl fun c₀ cs Z=>?_
 apply wpS_seq;apply wpS_region;simp[wpOpsS,go_sem,recoverD,Z,Tryz.ntmps41,Exit.thenS];refine wpS_of_wp (Bu fun QQ hQ=>?_);have HQ:=Fx hQ;have ad:∀ (v:Value) (w:World),(Instr.typeAssert (.iface 104 v) 20 104 true).run Tryz.prog w= .ok (.tuple #[v,.bool true]) w:=fun v w=>by first|kernel_rfl|rfl
 clear hQ Z;refine CS (t':= #[FO (some ⟨h,0,none⟩),FO (some ⟨J,0,none⟩),.iface 104 (.agg #[.iface 73 (FO (some ⟨O,0,none⟩))]),undef,undef,.iface 104 (.agg #[.iface 73 (FO (some ⟨O,0,none⟩))]),undef,undef,undef,undef,undef,undef,undef,undef,undef,undef,undef,undef,undef]) (by first|rfl|simp[Array.replicate,List.replicate]|trace_state) ?_;have f0:w.cell? ⟨h,0,none⟩=some v0:=I.cell 0;have f1:w.cell? ⟨h,1,none⟩=some v1:=I.cell 1;have f2:w.cell? ⟨h,2,none⟩=some U:=I.cell 2;have z0:=I.frozen 0;have z1:=I.frozen 1;have z2:=I.frozen 2;have e0:w.cell? ⟨J,0,none⟩=some .nilIface:=N.cell 0;have ez:=N.frozen 0;have lf:=I.lt;have le:=N.lt;have HF:=Fx I;have HE:=Fx N;clear I N;go_wp2;go_region
 refine HQ.out _ _ _ ⟨rfl,_,rfl,_,results_none rfl _ _ _,rfl,rfl,?_,?_,?_⟩
 ·exact ((((ky (kv (lS HF.out))).keep ((FK [J] _).setCell (.inl (by simp)) _) (by simpa using M)).keep ((FK [] _).alloc _) (by simp)).keep ((FK [] _).drew) (by simp))
 ·have h1:aa [h] w (((w.setCell ⟨h,0,none⟩ (FN none 0 0)).setCell ⟨h,1,none⟩ (FN none 0 0)).setCell ⟨h,2,none⟩ (FN none 0 0)):=(((FK _ _).setCell (.inl (by simp)) _).setCell (.inl (by simp)) _).setCell (.inl (by simp)) _
  exact ((((HE.out.keep h1 (by simpa using M.symm)).set 0 _).congr rfl).keep ((FK [] _).alloc _) (by simp)).keep ((FK [] _).drew) (by simp)
 exact (((((((FK _ _).setCell (.inl (by simp)) _).setCell (.inl (by simp)) _).setCell (.inl (by simp)) _).setCell (.inl (by simp)) _).alloc _).drew)
theorem je.low {W:World} {base h:Nat} (I:base≤h):∀ cs x,je W h cs x→je W base cs x:=fun _ _ ⟨v,D,J⟩=>⟨v,D,cK J I⟩
theorem jg.low {W:World} {base h:Nat} (D:base≤h):∀ cs x,jg W h cs x→jg W base cs x:=fun _ _ ⟨O,J,M,N,I⟩=>⟨O,J,M,N,⟨cK I.o2 D,cK I.o3 D,cK I.o4 D⟩⟩
theorem cP.low {α:Type} {I:World→Nat→List Value→α→Prop} {e:TypeId} {size base D:Nat} {W:World} {v:Value} {l:List α} (J:base≤D) (M:∀ cs x,I W D cs x→I W base cs x) (h:cP I e size W D v l):cP I e size W base v l:=by
 obtain ⟨us,O,N,U⟩:=h;exact ⟨us,O,cK N J,fun j h h'=>M _ _ (U j h h')⟩
def jO (R:Except (Int×Int) Fl) (base:Nat) (e:Ending) (w':World):Prop:=match R with
 | .ok f=>∃ I J h,e=FP (.tuple #[.agg #[I,J,h],.nilIface])∧mB w' base I f.ins∧jh w' base J f.jobs∧ji w' base h f.outs
 | .error x=>∃ D,e=FP (.tuple #[.agg #[FN none 0 0,FN none 0 0,FN none 0 0],.iface 73 (FO (some ⟨D,0,none⟩))])∧ao w' D 75 #[FR FS x.1,FR FS x.2]
theorem Ey {y:World} {base:Nat} {v:Value} {l:List Tk} (h:y.ownsRow base 114 3 v l.length (eo l)) (J:i7 l) (hw:∀ t∈l,BK t):Ps (y.alloc (FQ #[v] 111)) y.heap.size l:=by
 rcases h.2 with ⟨_,h0⟩|⟨g,cap,cur,rfl,hb,N,h1,U,h3,h4⟩
 ·have:=J.pos;omega
 have hg:g<y.heap.size:=(Array.getElem?_eq_some_iff.1 N).1;have M:=(FK [] y).alloc (FQ #[FN (some ⟨g,0,none⟩) l.length cap] 111);obtain ⟨A,c,e,I⟩:=ar h;injection e with Z e2 e3;subst Z e3;obtain ⟨g',D,_,I⟩:=I J.pos;injection D with D;injection D with D;subst D;exact ⟨g,0,cap,FL _ _ _,⟨dP.keep ⟨_,_,N⟩ M (by simp),hg⟩,h1,U,J,hw,fun j u O=>by rw[Nat.zero_add];exact M.cell_of (I j u O) (by simp)⟩
theorem dD {W:World} {g b k:Nat} {e:TypeId} {cs:Array Value} {u:Value} (h:ao W g e cs) (D:g≠b):ao (W.setCell ⟨b,k,none⟩ u) g e cs:=h.keep ((FK [b] _).setCell (.inl (by simp)) _) (by simpa using D)
theorem rX {W:World} {g:Nat} {e:TypeId} {a u:Value} (h:ao W g e #[a]):ao (W.setCell ⟨g,0,none⟩ u) g e #[u]:=(h.set 0 u).congr rfl
theorem pA {W:World} {g:Nat} {e:TypeId} {cs:Array Value} (h:ao W g e cs):ao W.drew g e cs:=h
theorem iI {P:Program} {D:Func} {h:Array Value} {R:Ending→World→Prop} {w:World} {v:Value} (I:(results D h).run P w= .ok v w) (J:R (FP v) w):Leaves P D h R [] .returning w:=⟨v,I,J⟩
theorem qT (s:Bs) (hs:s.length≤1000000) (w:World) (hE:jU w) :
  Calls Tryz.prog 17 #[FM (bs s)] w fun e w'=>jO (fm s) w.heap.size e w'∧aa [] w w':=by
 have d4:∀ (fn:Fn) (first cap:Array Value) (w:World),(Instr.makeFunc fn first cap).run Tryz.prog w= .ok (.func fn first cap) w:=fun _ _ _ _=>rfl
 obtain ⟨R,hR⟩:∃ R,fm s=R:=⟨_,rfl⟩
 rw[hR];unfold fm at hR;have HR:=Fx hR;have HE:=Fx hE;have cy:=Fx hs;clear hR hE hs;go_enter_defers Tryz.func17,Tryz.ntmps17
 go_upto_region 2 with (fail)
 obtain ⟨W1,a8⟩:∃ x,w.alloc (FQ #[FN none 0 0,FN none 0 0,FN none 0 0] 29)=x:=⟨_,rfl⟩
 have z1:W1.heap.size=w.heap.size+1:=by rw[←a8];exact nk _ _
 obtain ⟨y0,bl⟩:∃ x,W1.alloc (FQ #[.nilIface] 34)=x:=⟨_,rfl⟩
 have k1:aa [] w W1:=by rw[←a8];exact (FK _ _).alloc _
 have k2:aa [] W1 y0:=by rw[←bl];exact (FK _ _).alloc _
 have b1:ao W1 w.heap.size 29 #[FN none 0 0,FN none 0 0,FN none 0 0]:=by rw[←a8];exact FL _ _ _
 have b2:ao y0 (w.heap.size+1) 34 #[.nilIface]:=by rw[←bl,←z1];exact FL _ _ _
 have b1':=b1.keep k2 (by simp);rw[a8,bl];obtain ⟨eb,cg⟩:∃ x,w.heap.size+1=x:=⟨_,rfl⟩
 rw[cg] at b2 ⊢;obtain ⟨I,b7⟩:∃ x,w.heap.size=x:=⟨_,rfl⟩
 have cz:=Fx b7;rw[b7] at b1' cg ⊢;have cr:=Fx b1';have b6:=Fx b2;have HK:=Fx (k1.trans k2);have Z:Hid (I≠eb):=Fx (by omega);have av:Hid (w.heap.size≤I):=Fx (by have:=cz.out;omega);have a5:Hid (w.heap.size≤eb):=Fx (by have:=cz.out;omega);have d3:¬I=eb:=by omega
 have d2:¬eb=I:=by omega
 have d1:Hid (I<eb):=Fx (by omega);clear b1 b1' b2 k1 k2 z1 a8 bl cg b7;have f0:y0.cell? ⟨eb,0,none⟩=some .nilIface:=b6.out.cell 0;have hT:=vQ s cy.out y0 (HE.out.quiet HK.out);rcases hL:uC s with x|l
 ·have HX:Hid (R= .error x):=Fx (by rw[←HR.out,hL];rfl)
  rw[hL] at hT;have HT:=Fx hT;clear hT hL f0;go_wp2_with fail
  refine HT.out.mono ?_;rintro ev y1 ⟨⟨gi,rfl,hb⟩,U⟩;have M:=Fx (cr.out.keep U (by simp));have J:=Fx (b6.out.keep U (by simp));have bo:=Fx (HK.out.trans U);have ce:=Fx hb;clear hb U HT;have f0:y1.cell? ⟨eb,0,none⟩=some .nilIface:=J.out.cell 0;have ez:=J.out.frozen 0;have le:=J.out.lt;have r0:y1.cell? ⟨I,0,none⟩=some (FN none 0 0):=M.out.cell 0;have r1:y1.cell? ⟨I,1,none⟩=some (FN none 0 0):=M.out.cell 1;have r2:y1.cell? ⟨I,2,none⟩=some (FN none 0 0):=M.out.cell 2;have z0:=M.out.frozen 0;have z1:=M.out.frozen 1;have z2:=M.out.frozen 2;have lr:=M.out.lt;go_upto_region 4 with (fail)
  go_region
  go_wp2;refine leaves_cons (f:=41) (args:= #[FO (some ⟨I,0,none⟩),FO (some ⟨eb,0,none⟩)]) (by simp) (by simp[go_sem]) ?_;refine (py ⟨I,0,none⟩ ⟨eb,0,none⟩ _).mono ?_;rintro e u' dr ⟨rfl,rfl,rfl⟩;have O:=pA (dD (k:=0) (u:= .iface 73 (FO (some ⟨gi,0,none⟩))) (ky (u:=FN none 0 0) (kv (u:=FN none 0 0) (lS (u:=FN none 0 0) (dD (k:=0) (u:= .iface 73 (FO (some ⟨gi,0,none⟩))) M.out Z.out)))) Z.out);have a3:=pA (rX (u:= .iface 73 (FO (some ⟨gi,0,none⟩))) (dD (k:=2) (u:=FN none 0 0) (dD (k:=1) (u:=FN none 0 0) (dD (k:=0) (u:=FN none 0 0) (rX (u:= .iface 73 (FO (some ⟨gi,0,none⟩))) J.out) Z.out.symm) Z.out.symm) Z.out.symm));have q0:=O.cell 0;have q1:=O.cell 1;have q2:=O.cell 2;have q3:=a3.cell 0;refine iI (v:= .tuple #[.agg #[FN none 0 0,FN none 0 0,FN none 0 0],.iface 73 (FO (some ⟨gi,0,none⟩))]) (by simp[results,Tryz.results17,go_sem,q0,q1,q2,q3]) ?_;have g1:=ce.out.ty.ne M.out.ty (by decide);have g2:=ce.out.ty.ne J.out.ty (by decide);refine ⟨?_,((((((bo.out.setCell (.inr a5.out) _).setCell (.inr av.out) _).setCell (.inr av.out) _).setCell (.inr av.out) _).setCell (.inr a5.out) _).drew)⟩;rw[HX.out];exact ⟨gi,rfl,pA (dD (dD (dD (dD (dD ce.out g2) g1) g1) g1) g2)⟩
 rw[hL] at hT;obtain ⟨bc,cq,dt⟩:=rq cy.out hL;have co:Hid (lO l=R):=Fx (by rw[←HR.out,hL];rfl);have HT:=Fx hT;have dB:=Fx bc;have cj:=Fx cq;have c9:Hid (l.length≤1000000):=Fx (by omega);have cx:=bc.pos;clear hT hL f0 HR bc cq dt;go_wp2_with fail
 refine HT.out.mono ?_;rintro ev y1 ⟨⟨A,c,rfl,b5⟩,U⟩;obtain ⟨b0,dv⟩:∃ g,A=some ⟨g,0,none⟩:=by
  obtain ⟨A',c',e,hx⟩:=ar b5;injection e with e1 e2 e3;subst e1;obtain ⟨g,h1,_⟩:=hx cx;exact ⟨g,h1⟩
 subst dv;have M:=Fx (cr.out.keep U (by simp));have J:=Fx (b6.out.keep U (by simp));have bo:=Fx (HK.out.trans U);have cn:=Fx b5;clear b5 U HT;have f0:y1.cell? ⟨eb,0,none⟩=some .nilIface:=J.out.cell 0;have ez:=J.out.frozen 0;have le:=J.out.lt;have b3:aa [eb] y1 (y1.setCell ⟨eb,0,none⟩ .nilIface):=(FK _ _).setCell (.inl (by simp)) _;have a9:=Fx (M.out.keep b3 (by simpa using Z.out));have be:=Fx (rX (u:= .nilIface) J.out);have bm:=Fx (bo.out.setCell (p:=⟨eb,0,none⟩) (.inr a5.out) .nilIface);have bb:Hid ((y1.setCell ⟨eb,0,none⟩ .nilIface).ownsRow y0.heap.size 114 3 (FN (some ⟨b0,0,none⟩) l.length c) l.length (eo l)):=Fx (cV cn.out b3 (fun x hx=>by rw[List.mem_singleton.1 hx];exact ⟨_,J.out.ty,by decide⟩));clear b3;go_upto_region 5 with (fail)
 obtain ⟨y2,c8⟩:∃ x,y1.setCell ⟨eb,0,none⟩ .nilIface=x:=⟨_,rfl⟩
 rw[c8] at a9 be bm bb ⊢;clear c8 f0 ez le M J bo cn;go_upto_region 6 with (fail)
 have bq:=Ey bb.out dB.out cj.out;have a6:=(FK [] y2).alloc (FQ #[FN (some ⟨b0,0,none⟩) l.length c] 111);obtain ⟨y3,c6⟩:∃ x,y2.alloc (FQ #[FN (some ⟨b0,0,none⟩) l.length c] 111)=x:=⟨_,rfl⟩
 rw[c6] at bq a6 ⊢;have b8:w.heap.size≤y2.heap.size:=bm.out.size;obtain ⟨b,hb⟩:∃ x,y2.heap.size=x:=⟨_,rfl⟩
 rw[hb] at bq b8 ⊢;have HP:=Fx bq;have ba:=Fx (a9.out.keep a6 (by simp));have a7:=Fx (be.out.keep a6 (by simp));have bj:=Fx (bm.out.trans a6);have b4:=Fx b8;have dq:Hid (FB y3 w.heap.size):=Fx ⟨w,HE.out,bj.out,Fy _⟩;have cu:=HP.out.ty.ne ba.out.ty (by decide);have bz:=HP.out.ty.ne a7.out.ty (by decide);have c7:Hid (I∉[b]):=Fx (by simpa using cu.symm);have c3:Hid (eb∉[b]):=Fx (by simpa using bz.symm);clear bq a6 c6 b8 hb a9 be bm bb cu bz;have hF:=Bo y3 dq.out b4.out HP.out c9.out;rcases a4:qc l with x|⟨f,r⟩
 ·have HX:Hid (R= .error x):=Fx (by rw[←co.out];unfold lO;rw[a4];rfl)
  rw[a4] at hF;have HF:=Fx hF;clear hF a4;go_wp2_with fail
  refine HF.out.mono ?_;rintro ev y4 ⟨⟨gi,rfl,hb⟩,U⟩;have D:=Fx (ba.out.keep U c7.out);have a0:=Fx (a7.out.keep U c3.out);have bk:Hid (aa [] w y4):=Fx (bj.out.trans' U (fun x hx hl=>by have:=b4.out;rw[List.mem_singleton.1 hx] at hl;omega));have bZ:=Fx hb;clear hb U;refine leaves_cons (f:=41) (args:= #[FO (some ⟨I,0,none⟩),FO (some ⟨eb,0,none⟩)]) (by simp) (by simp[go_sem]) ?_;have g1:=bZ.out.ty.ne D.out.ty (by decide);have g2:=bZ.out.ty.ne a0.out.ty (by decide);refine (iM I eb gi (FN none 0 0) (FN none 0 0) (FN none 0 0) [] y4 D.out a0.out Z.out).mono ?_;rintro e u' w9 ⟨rfl,rfl,O,a3,U⟩;have q0:=O.cell 0;have q1:=O.cell 1;have q2:=O.cell 2;have q3:=a3.cell 0;refine iI (v:= .tuple #[.agg #[FN none 0 0,FN none 0 0,FN none 0 0],.iface 73 (FO (some ⟨gi,0,none⟩))]) (by simp[results,Tryz.results17,go_sem,q0,q1,q2,q3]) ?_;refine ⟨?_,(bk.out).trans' U (fun x hx hl=>by have:=a5.out;have:=av.out;simp at hx;omega)⟩;rw[HX.out];exact ⟨gi,rfl,bZ.out.keep U (by simp[g1,g2])⟩
 rw[a4] at hF;have c5:Hid ((if (aS r).kind≠5 then fM 3 r else .ok f)=R):=Fx (by rw[←co.out];unfold lO;rw[a4];rfl);have HF:=Fx hF;clear hF a4;go_wp2_with fail
 refine HF.out.mono ?_;rintro ev y4 ⟨⟨v0,v1,v2,rfl,ca,cd,ci,hp⟩,U⟩;obtain ⟨A0,c0,rfl⟩:∃ A c,v0=FN A f.ins.length c:=by obtain ⟨_,_,h,_⟩:=ca;obtain ⟨A,c,h,_⟩:=ar h;exact ⟨A,c,h⟩
 obtain ⟨A1,c1,rfl⟩:∃ A c,v1=FN A f.jobs.length c:=by obtain ⟨_,_,h,_⟩:=cd;obtain ⟨A,c,h,_⟩:=ar h;exact ⟨A,c,h⟩
 obtain ⟨A2,c2,rfl⟩:∃ A c,v2=FN A f.outs.length c:=by obtain ⟨_,_,h,_⟩:=ci;obtain ⟨A,c,h,_⟩:=ar h;exact ⟨A,c,h⟩
 have D:=Fx (ba.out.keep U c7.out);have a0:=Fx (a7.out.keep U c3.out);have bk:Hid (aa [] w y4):=Fx (bj.out.trans' U (fun x hx hl=>by have:=b4.out;rw[List.mem_singleton.1 hx] at hl;omega));have dz:=Fx bj.out.size;have a2:aa [I] y4 (((y4.setCell ⟨I,0,none⟩ (FN A0 f.ins.length c0)).setCell ⟨I,1,none⟩ (FN A1 f.jobs.length c1)).setCell ⟨I,2,none⟩ (FN A2 f.outs.length c2)):=(((FK _ _).setCell (.inl (by simp)) _).setCell (.inl (by simp)) _).setCell (.inl (by simp)) _;have aA:dI [9,64,57,50,60,109] [I] y4 _:=⟨a2,fun z hz=>⟨29,by rw[List.mem_singleton.1 hz];exact D.out.ty,by decide⟩⟩;have c4:=Fx (ca.far aA (by decide) (by decide));have ct:=Fx (cd.far aA (by decide) (by decide));have cv:=Fx (ci.far aA (by decide));have b9:=Fx (hp.far a2 (fun z hz=>⟨29,by rw[List.mem_singleton.1 hz];exact D.out.ty,by decide,by decide⟩));have ad:=Fx (a0.out.keep a2 (by simpa using Z.out.symm));have N:=Fx (ky (u:=FN A2 f.outs.length c2) (kv (u:=FN A1 f.jobs.length c1) (lS (u:=FN A0 f.ins.length c0) D.out)));have bX:Hid (aa [] w _):=Fx (((bk.out.setCell (p:=⟨I,0,none⟩) (.inr av.out) (FN A0 f.ins.length c0)).setCell (p:=⟨I,1,none⟩) (.inr av.out) (FN A1 f.jobs.length c1)).setCell (p:=⟨I,2,none⟩) (.inr av.out) (FN A2 f.outs.length c2));have r0:y4.cell? ⟨I,0,none⟩=some (FN none 0 0):=D.out.cell 0;have r1:y4.cell? ⟨I,1,none⟩=some (FN none 0 0):=D.out.cell 1;have r2:y4.cell? ⟨I,2,none⟩=some (FN none 0 0):=D.out.cell 2;have z0:=D.out.frozen 0;have z1:=D.out.frozen 1;have z2:=D.out.frozen 2;have lr:=D.out.lt;clear ca cd ci hp U a2 aA;go_upto_region 7 with (fail)
 obtain ⟨y5,cm⟩:∃ x,((y4.setCell ⟨I,0,none⟩ (FN A0 f.ins.length c0)).setCell ⟨I,1,none⟩ (FN A1 f.jobs.length c1)).setCell ⟨I,2,none⟩ (FN A2 f.outs.length c2)=x:=⟨_,rfl⟩
 rw[cm] at c4 ct cv b9 ad N bX ⊢;clear cm r0 r1 r2 z0 z1 z2 lr D a0 bk;obtain ⟨g,o,c',c0',z0,lb,lg,-,hn,hc,d5,k0,k1,k2,-⟩:=b9.out.open';have d0:(0:Int)<(r.length:Int):=by omega
 by_cases h5:(aS r).kind=5
 ·have HX:Hid (R= .ok f):=Fx (by rw[←c5.out,if_neg (by rw[h5];decide)])
  rw[h5] at k0;have f0:y5.cell? ⟨eb,0,none⟩=some .nilIface:=ad.out.cell 0;have ez:=ad.out.frozen 0;have le:=ad.out.lt;have r0:y5.cell? ⟨I,0,none⟩=some (FN A0 f.ins.length c0):=N.out.cell 0;have r1:y5.cell? ⟨I,1,none⟩=some (FN A1 f.jobs.length c1):=N.out.cell 1;have r2:y5.cell? ⟨I,2,none⟩=some (FN A2 f.outs.length c2):=N.out.cell 2;have z0':=N.out.frozen 0;have z1':=N.out.frozen 1;have z2':=N.out.frozen 2;have lr:=N.out.lt;clear h5;go_wp2;refine leaves_cons (f:=41) (args:= #[FO (some ⟨I,0,none⟩),FO (some ⟨eb,0,none⟩)]) (by simp) (by simp[go_sem]) ?_;refine (py ⟨I,0,none⟩ ⟨eb,0,none⟩ _).mono ?_;rintro e u' dr ⟨rfl,rfl,rfl⟩;have a2:aa [I,eb] y5 ((((y5.setCell ⟨I,0,none⟩ (FN A0 f.ins.length c0)).setCell ⟨I,1,none⟩ (FN A1 f.jobs.length c1)).setCell ⟨I,2,none⟩ (FN A2 f.outs.length c2)).setCell ⟨eb,0,none⟩ .nilIface):=((((FK _ _).setCell (.inl (by simp)) _).setCell (.inl (by simp)) _).setCell (.inl (by simp)) _).setCell (.inl (by simp)) _;have aA:dI [9,64,57,50,60,109] [I,eb] y5 _:=⟨a2,fun z hz=>by
   rcases List.mem_cons.1 hz with h|h
   ·exact ⟨29,by rw[h];exact N.out.ty,by decide⟩
   exact ⟨34,by rw[List.mem_singleton.1 h];exact ad.out.ty,by decide⟩⟩
  have O:=dD (b:=eb) (k:=0) (u:= .nilIface) (ky (u:=(FN A2 f.outs.length c2)) (kv (u:=(FN A1 f.jobs.length c1)) (lS (u:=(FN A0 f.ins.length c0)) N.out))) Z.out;have a3:=rX (u:= .nilIface) (dD (b:=I) (k:=2) (u:=(FN A2 f.outs.length c2)) (dD (b:=I) (k:=1) (u:=(FN A1 f.jobs.length c1)) (dD (b:=I) (k:=0) (u:=(FN A0 f.ins.length c0)) ad.out Z.out.symm) Z.out.symm) Z.out.symm);have q0:=O.cell 0;have q1:=O.cell 1;have q2:=O.cell 2;have q3:=a3.cell 0;refine iI (v:= .tuple #[.agg #[FN A0 f.ins.length c0,FN A1 f.jobs.length c1,FN A2 f.outs.length c2],.nilIface]) (by simp[results,Tryz.results17,go_sem,q0,q1,q2,q3]) ?_;refine ⟨?_,bX.out.trans' a2 (fun x hx hl=>by have:=a5.out;have:=av.out;simp at hx;omega)⟩;rw[HX.out];have a1:w.heap.size≤y3.heap.size:=dz.out;exact ⟨_,_,_,rfl,cP.low a1 (je.low a1) (c4.out.far aA (by decide) (by decide)),cP.low a1 (jg.low a1) (ct.out.far aA (by decide) (by decide)),cP.low a1 (fun _ _ h=>h) (cv.out.far aA (by decide))⟩
 have e5:((aS r).kind != 5)=true:=by rw[bne_iff_ne];exact h5
 have HX:Hid (R= .error (3,(aS r).at_)):=Fx (by rw[←c5.out,if_pos h5];rfl);clear h5;go_wp2_with fail
 refine (bw 3 y5 b9.out).mono ?_;rintro ev y6 ⟨⟨gi,rfl,hb⟩,U⟩;have bv:=Fx (N.out.keep U (by simp));have br:=Fx (ad.out.keep U (by simp));have ds:=Fx (bX.out.trans U);have ch:=Fx hb;clear hb U;refine leaves_cons (f:=41) (args:= #[FO (some ⟨I,0,none⟩),FO (some ⟨eb,0,none⟩)]) (by simp) (by simp[go_sem]) ?_;have g1:=ch.out.ty.ne bv.out.ty (by decide);have g2:=ch.out.ty.ne br.out.ty (by decide);refine (iM I eb gi (FN A0 f.ins.length c0) (FN A1 f.jobs.length c1) (FN A2 f.outs.length c2) [] y6 bv.out br.out Z.out).mono ?_;rintro e u' w9 ⟨rfl,rfl,O,a3,U⟩;have q0:=O.cell 0;have q1:=O.cell 1;have q2:=O.cell 2;have q3:=a3.cell 0;refine iI (v:= .tuple #[.agg #[FN none 0 0,FN none 0 0,FN none 0 0],.iface 73 (FO (some ⟨gi,0,none⟩))]) (by simp[results,Tryz.results17,go_sem,q0,q1,q2,q3]) ?_;refine ⟨?_,(ds.out).trans' U (fun x hx hl=>by have:=a5.out;have:=av.out;simp at hx;omega)⟩;rw[HX.out];exact ⟨gi,rfl,ch.out.keep U (by simp[g1,g2])⟩
end
section
open Go.RowKit Go.BigFrame
def EW:Except (Int×Int) Fl→Fl×Int×Int
 | .ok f=>(f,0,-1)
 | .error x=>(⟨[],[],[]⟩,x.1,x.2)
structure ik (W:World) (base:Nat) (v0 v1 v2:Value) (f:Fl):Prop where
 i0:mB W base v0 f.ins
 i1:jh W base v1 f.jobs
 i2:ji W base v2 f.outs
theorem dI.nil (S:List TypeId) {W W':World} (h:aa [] W W'):dI S [] W W':=⟨h,fun x D=>by cases D⟩
theorem ik.keep {W W':World} {base:Nat} {J M I:Value} {f:Fl} (h:ik W base J M I f) (D:aa [] W W'):ik W' base J M I f :=
 ⟨h.i0.far (dI.nil qi D) (by decide) (by decide),h.i1.far (dI.nil qi D) (by decide) (by decide),h.i2.far (dI.nil qi D) (by decide)⟩
theorem ik.forms {W:World} {base:Nat} {U O N:Value} {f:Fl} (h:ik W base U O N f):∃ M D A1 I J c2,U=FN M f.ins.length D∧O=FN A1 f.jobs.length I∧N=FN J f.outs.length c2:=by
 obtain ⟨⟨_,_,h0,_⟩,⟨_,_,h1,_⟩,⟨_,_,h2,_⟩⟩:=h;obtain ⟨M,D,e0,_⟩:=ar h0;obtain ⟨A1,I,e1,_⟩:=ar h1;obtain ⟨J,c2,Z,_⟩:=ar h2;exact ⟨M,D,A1,I,J,c2,e0,e1,Z⟩
theorem ik.nil (W:World) (base:Nat):ik W base (FN none 0 0) (FN none 0 0) (FN none 0 0) ⟨[],[],[]⟩:=⟨cP.nil,cP.nil,cP.nil⟩
def vR (W:World) (h:Value) (R:Except (Int×Int) Fl):Prop:=match R with
 | .ok _=>h= .nilIface
 | .error x=>∃ D,h= .iface 73 (FO (some ⟨D,0,none⟩))∧ao W D 75 #[FR FS x.1,FR FS x.2]
theorem vR.keep {W W':World} {D:Value} {R:Except (Int×Int) Fl} (h:vR W D R) (I:aa [] W W'):vR W' D R:=by
 cases R with
 | ok f=>exact h
 | error x=>obtain ⟨M,J,N⟩:=h;exact ⟨M,J,N.keep I (by simp)⟩
theorem vR.form {W:World} {D:Value} {R:Except (Int×Int) Fl} (h:vR W D R):D= .nilIface∨∃ I,D= .iface 73 (FO (some ⟨I,0,none⟩)):=by
 cases R with
 | ok f=>exact .inl h
 | error x=>obtain ⟨I,rfl,_⟩:=h;exact .inr ⟨I,rfl⟩
theorem pX {R:Except (Int×Int) Fl} {base:Nat} {e:Ending} {w':World} (h:jO R base e w') :
  ∃ O n0 D A1 n1 J N n2 c2 U,e=FP (.tuple #[.agg #[FN O n0 D,FN A1 n1 J,FN N n2 c2],U])∧ik w' base (FN O n0 D) (FN A1 n1 J) (FN N n2 c2) (EW R).1∧vR w' U R:=by
 cases R with
 | ok f =>
  obtain ⟨v0,v1,v2,rfl,h0,M,I⟩:=h;have Z:ik w' base v0 v1 v2 f:=⟨h0,M,I⟩;obtain ⟨O,D,A1,J,N,c2,rfl,rfl,rfl⟩:=Z.forms;exact ⟨_,_,_,_,_,_,_,_,_,_,rfl,Z,rfl⟩
 | error x =>
  obtain ⟨gi,M,I⟩:=h;exact ⟨_,_,_,_,_,_,_,_,_,_,M,ik.nil _ _,gi,rfl,I⟩
theorem rx.nins {j:Jb} (h:rx j):j.ins.length≤2:=by
 rcases h.body with ⟨_,a,b,c,d,_,_,_,_,e,_⟩|⟨_,a,b,_,_,e,_⟩|⟨_,a,_,e,_⟩|⟨_,a,s,_,_,e,_⟩|⟨_,a,c,_,_,e,_⟩|⟨_,a,_,e,_⟩|⟨_,a,c,d,_,_,_,e,_⟩<;>rw[e]<;>simp
theorem rx.ncols {j:Jb} (h:rx j):j.cols.length≤1000:=by
 rcases h.body with ⟨_,a,b,c,d,_,_,_,_,_,e⟩|⟨_,a,b,_,_,_,e⟩|⟨_,a,_,_,e⟩|⟨_,a,s,_,_,_,e,_⟩|⟨_,a,c,_,_,_,e,_⟩|⟨_,a,_,_,e⟩|⟨_,a,c,d,_,_,_,_,e,_⟩
 ·rw[e];simp
 ·rw[e];simp
 ·rw[e];simp
 ·rw[e];simp
 ·rw[e];simp
 ·exact e.2.1
 rw[e];simp
theorem rx.insW {j:Jb} (h:rx j):∀ n∈j.ins,n.length≤1000:=by
 have M:∀ n∈j.ins,bN n:=by
  rcases h.body with ⟨_,a,b,c,d,D,J,_,_,e,_⟩|⟨_,a,b,D,J,e,_⟩|⟨_,a,D,e,_⟩|⟨_,a,s,D,_,e,_⟩|⟨_,a,c,D,_,e,_⟩|⟨_,a,D,e,_⟩|⟨_,a,c,d,D,_,_,e,_⟩<;>rw[e]<;>intro n I
  ·simp only[List.mem_cons,List.not_mem_nil,or_false] at I
   rcases I with rfl|rfl
   ·exact D
   exact J
  ·simp only[List.mem_cons,List.not_mem_nil,or_false] at I
   rcases I with rfl|rfl
   ·exact D
   exact J
  all_goals
   simp only[List.mem_cons,List.not_mem_nil,or_false] at I;rw[I];exact D
 exact fun n I=>FD (M n I).len (by decide)
theorem gE:∀ (l:List Jb),(∀ x∈l,x.outs.length≤1000)→(l.flatMap (·.outs)).length≤l.length*1000
 | [],_=>by simp
 | x::l,h=>by
  have I:=h x (by simp);have J:=gE l fun y D=>h y (by simp[D])
  rw[List.flatMap_cons,Fz,FG];omega
theorem zu.names {f:Fl} (h:zu f):∀ n∈bf f,bN n:=by
 intro n D;rcases List.mem_append.1 D with D|D
 ·obtain ⟨x,I,rfl⟩:=List.mem_map.1 D
  exact (h.ins x I).name
 obtain ⟨x,I,D⟩:=List.mem_flatMap.1 D;exact (h.jobs x I).outs.2.2 n D
theorem zu.short {f:Fl} (h:zu f):om f where
 outs:=FD h.nouts (by decide)
 all:=by
  have N:=gE f.jobs fun x D=>(h.jobs x D).outs.2.1
  have O:=h.nins;have M:=h.njobs;unfold bf;rw[Fz,List.length_map];omega
 names:=fun n I=>FD (h.names n I).len (by decide)
 ins:=fun j J n I=>(h.jobs j J).insW n I
 told:=fun x D=>⟨FD (h.outs x D).name.len (by decide),FD (h.outs x D).src.len (by decide)⟩
theorem zu.colNames {f:Fl} (h:zu f):∀ x∈f.ins,∀ c∈x.cols,c.name.length≤1000000000:=fun x D c I=>FD ((h.ins x D).cols c I).1.len (by decide)
theorem CU {W:World} {base:Nat} {U O J:Value} {f:Fl} (q0:mB W base U f.ins) (q1:jh W base O f.jobs) (q2:ji W base J f.outs) (D:zu f):jj W U O J f where
 i0:=by
  have I:f.ins.length≤4294967296:=FD D.nins (by decide);refine fB.of q0 je.len I fun cs x h=>?_
  rintro ⟨v,e,ho⟩;obtain ⟨A,c,h1,h2,h3⟩:=fA ho;exact ⟨v,e,FD (D.ins x h).len (by decide),A,c,h1,h2,h3⟩
 i1:=by
  have I:f.jobs.length≤4294967296:=FD D.njobs (by decide);refine fB.of q1 jg.len I fun cs x h=>?_
  rintro ⟨J,v3,v4,e,M⟩;have N:=D.jobs x h;obtain ⟨A2,c2,a1,a2,a3⟩:=fA M.o2;obtain ⟨A3,c3,b1,b2,b3⟩:=fA M.o3;obtain ⟨A4,c4,d1,d2,Z⟩:=fA M.o4;exact ⟨J,v3,v4,e,⟨FD N.outs.2.1 (by decide),A2,c2,a1,a2,a3⟩,⟨FD N.nins (by decide),A3,c3,b1,b2,b3⟩,⟨FD N.ncols (by decide),A4,c4,d1,d2,Z⟩⟩
 i2:=by
  have I:f.outs.length≤4294967296:=FD D.nouts (by decide);exact fB.of q2 xG.len I fun cs x _ h=>h
theorem ik.flIn {W:World} {base:Nat} {I J D:Value} {f:Fl} (h:ik W base I J D f) (M:zu f):jj W I J D f:=CU h.i0 h.i1 h.i2 M
end
section
open Go.RowKit Go.BigFrame
attribute [local go_sem] ag ab ae af
theorem BC:(Tryz.prog.info? 50).map (fun i=>(i.zero,i.size,i.bytes))=some (some (.agg #[FR FS 0,FR FS 0,FN none 0 0,FN none 0 0,FN none 0 0,FM ⟨#[]⟩,FM ⟨#[]⟩,FR FS 0,FR FS 0,FM ⟨#[]⟩,FM ⟨#[]⟩,FR FS 0,FR FS 0,FM ⟨#[]⟩,FR FS 0]),15,208):=by kernel_rfl
def dS (W:World) (us:List (List Value)) (l:List Jb):Prop:=us.length=l.length∧∀ j (h:j<us.length) (h':j<l.length),iy W us[j] l[j]
theorem iy.len {W:World} {cs:List Value} {x:Jb} (h:iy W cs x):cs.length=15:=by obtain ⟨_,_,_,e,_⟩:=h;rw[e];rfl
theorem dS.keep {W W':World} {us:List (List Value)} {l:List Jb} (h:dS W us l) (D:aa [] W W'):dS W' us l:=⟨h.1,fun j I J=>(h.2 j I J).keep D⟩
theorem dS.lens {W:World} {us:List (List Value)} {l:List Jb} (h:dS W us l):∀ u∈us,u.length=15:=fun u I=>by
 obtain ⟨j,D,rfl⟩:=List.getElem_of_mem I;exact (h.2 j D (by have:=h.1;omega)).len
theorem pF {us:List (List Value)} (h:∀ u∈us,u.length=15):us.flatten.length=us.length*15:=by
 induction us with
 | nil=>rfl
 | cons u us ih =>
  rw[List.flatten_cons,Fz,h u (by simp),ih fun v D=>h v (List.mem_cons_of_mem _ D),FG];omega
theorem dS.one {W:World} {us:List (List Value)} {l:List Jb} (h:dS W us l):∀ u∈us.flatten,u.oneCell'=true:=fun u D=>by
 obtain ⟨r,I,D⟩:=List.mem_flatten.1 D;obtain ⟨j,J,rfl⟩:=List.getElem_of_mem I;obtain ⟨U,Z,v4,e,M,O,N⟩:=h.2 j J (by have:=h.1;omega);obtain ⟨_,_,_,rfl,_⟩:=M;obtain ⟨_,_,_,rfl,_⟩:=O;obtain ⟨_,_,_,rfl,_⟩:=N;rw[e] at D;simp only[bK,List.mem_cons,List.not_mem_nil,or_false] at D;rcases D with rfl|rfl|rfl|rfl|rfl|rfl|rfl|rfl|rfl|rfl|rfl|rfl|rfl|rfl|rfl<;>rfl
theorem dS.append {W:World} {us J:List (List Value)} {l m:List Jb} (h:dS W us l) (k:dS W J m):dS W (us++J) (l++m):=by
 refine ⟨by rw[Fz,Fz,h.1,k.1],fun j M N=>?_⟩;by_cases D:j<us.length
 ·have hj':j<l.length:=by rw[←h.1];exact D
  rw[List.getElem_append_left D,List.getElem_append_left hj'];exact h.2 j D hj'
 rw[Fz] at M N;have I:j-us.length=j-l.length:=by rw[h.1]
 rw[List.getElem_append_right (by omega),List.getElem_append_right (by rw[←h.1];omega)];have:=k.2 (j-us.length) (by omega) (by rw[I];have:=h.1;omega);simpa[I] using this
theorem dS.take {W:World} {us:List (List Value)} {l:List Jb} (h:dS W us l) (n:Nat):dS W (us.take n) (l.take n) :=
 ⟨by rw[FH,FH,h.1],fun j D I=>by
  rw[List.getElem_take,List.getElem_take];exact h.2 j _ _⟩
theorem dS.drop {W:World} {us:List (List Value)} {l:List Jb} (h:dS W us l) (n:Nat):dS W (us.drop n) (l.drop n) :=
 ⟨by rw[List.length_drop,List.length_drop,h.1],fun j D I=>by
  rw[List.getElem_drop,List.getElem_drop];exact h.2 _ _ _⟩
theorem fB.rows {W:World} {v:Value} {l:List Jb} (h:fB iy 15 W v l):∃ A c us,v=FN A l.length c∧l.length≤c∧l.length≤4294967296∧dS W us l∧Rd W [] 15 A l.length us.flatten:=by
 obtain ⟨hn,A,c,rfl,hc,ad⟩:=h;have hx:∀ j,∃ cs:List Value,∀ (h:j<l.length),cs.length=15∧iy W cs l[j]∧∃ g,A=some ⟨g,0,none⟩∧g<W.heap.size∧∀ k u,cs[k]? = some u→W.cell? ⟨g,j*15+k,none⟩=some u:=fun j=>by
  by_cases J:j<l.length
  ·obtain ⟨g,cs,e,hg,hl,hE,M⟩:=ad j J
   exact ⟨cs,fun _=>⟨hl,hE,g,e,hg,M⟩⟩
  exact ⟨[],fun h=>absurd h J⟩
 obtain ⟨F,U⟩:=Classical.axiomOfChoice hx;have N:∀ j (h:j<((List.range l.length).map F).length),((List.range l.length).map F)[j]=F j:=fun j h=>by simp
 have D:((List.range l.length).map F).length=l.length:=by simp
 have I:∀ u∈(List.range l.length).map F,u.length=15:=fun u O=>by
  obtain ⟨j,J,rfl⟩:=List.mem_map.1 O;exact (U j (List.mem_range.1 J)).1
 refine ⟨A,c,(List.range l.length).map F,rfl,hc,hn,⟨D,fun j h1 h2=>by rw[N j h1];exact (U j h2).2.1⟩,by rw[pF I,D],fun h0=>?_⟩;obtain ⟨g,e,hg,_⟩:=(U 0 h0).2.2;refine ⟨_,e,by simp,hg,fun i u O=>?_⟩;have hi:i<((List.range l.length).map F).flatten.length:=(List.getElem?_eq_some_iff.1 O).1;rw[pF I,D] at hi;have J:i / 15<l.length:=by omega
 have hd:i=i / 15*15+i % 15:=by omega
 obtain ⟨g',e',_,Z⟩:=(U (i / 15) J).2.2;rw[e] at e';cases e'
 rw[cJ,Nat.zero_add,hd];refine Z (i % 15) u ?_;rw[←N (i / 15) (by rw[D];exact J),←nl I (i / 15) (by rw[D];exact J) (i % 15) (by omega),←hd];exact O
theorem dS.lsIn {W:World} {base:Nat} {v:Value} {us:List (List Value)} {l:List Jb} (h:dS W us l) (O:W.ownsRow base 50 15 v l.length us.flatten) (hn:l.length≤4294967296):fB iy 15 W v l:=by
 obtain ⟨A,c,rfl,hc,_⟩:=fA O;obtain ⟨A',c',e,Z⟩:=ar O;injection e with e1 e2 e3;subst e1 e3;refine ⟨hn,_,_,rfl,hc,fun j M=>?_⟩;obtain ⟨g,rfl,hg,D⟩:=Z (by omega);have I:j<us.length:=by rw[h.1];exact M
 have J:=h.2 j I M;refine ⟨g,us[j],rfl,hg,J.len,J,fun k u N=>D _ _ ?_⟩;have U:k<15:=by
  have:=(List.getElem?_eq_some_iff.1 N).1;rwa [J.len] at this
 rw[nl h.lens j I k U];exact N
end
end Go.Proofs.YtecpeogejjibaaaGreatDoor
